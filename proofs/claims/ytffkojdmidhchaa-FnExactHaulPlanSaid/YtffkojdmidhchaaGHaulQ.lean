/- The queue's empty, front and drop; what is hauled, as a plain function; the queues as they are served. -/
import Derived.Test.YtffkojdmidhchaaGPiles
import Derived.WalkSpells
namespace Go.Proofs.Ytffkojdmidhchaa.P
open Go.RowKit Go.Proofs.YtffkojdmidhchaaW.PrintWords Go.Proofs.YtffkojdmidhchaaW.PrintLast Go.Proofs.YtffkojdmidhchaaW.PrintMore
set_option linter.unusedVariables false
set_option linter.unusedSimpArgs false
set_option maxHeartbeats 4000000
set_option maxRecDepth 20000
attribute [local go_sem] frozen_alloc'

theorem empty_no (gq n c : Nat) (A : Option Addr) (w : World) (hq : w.heap[gq]? = some (.cells #[.slice A n c] 182 (0, 0))) (hn : 1 ≤ n) :
    Calls Try.prog 120 #[.pointer (some ⟨gq, 0, none⟩)] w fun e w' => e = .returned (.bool false) ∧ w = w' := by
  have hu182 := Try.underlying182
  have hc := blk_c hq 0 _ rfl
  have hd : ((n : Int) == 0) = false := beq_eq_false_iff_ne.2 (by omega)
  clear hq
  go_enter Try.func120, Try.ntmps120
  go_wp2
  go_ret
  exact ⟨rfl, rfl⟩
theorem empty_yes (gq c : Nat) (A : Option Addr) (w : World) (hq : w.heap[gq]? = some (.cells #[.slice A 0 c] 182 (0, 0))) :
    Calls Try.prog 120 #[.pointer (some ⟨gq, 0, none⟩)] w fun e w' => e = .returned (.bool true) ∧ w = w' := by
  have hu182 := Try.underlying182
  have hc := blk_c hq 0 _ rfl
  clear hq
  go_enter Try.func120, Try.ntmps120
  go_wp2
  go_ret
  exact ⟨rfl, rfl⟩
theorem front_any (gq g o n c : Nat) (w : World) (hq : w.heap[gq]? = some (.cells #[.slice (some ⟨g, o, none⟩) n c] 182 (0, 0))) (hn : 1 ≤ n) :
    Calls Try.prog 121 #[.pointer (some ⟨gq, 0, none⟩)] w fun e w' => e = .returned (.pointer (some ⟨g, o, none⟩)) ∧ w = w' := by
  have hu182 := Try.underlying182
  have hu180 := Try.underlying180
  have hc := blk_c hq 0 _ rfl
  have hn' : 0 < n := by omega
  clear hq
  go_enter Try.func121, Try.ntmps121
  go_wp2
  go_ret
  exact ⟨rfl, rfl⟩
/-- Where what is left lies when the first pile is dropped. -/
def dropAd (a o c : Nat) : Addr := if c = 1 then ⟨a, o, none⟩ else ⟨a, o + 2, none⟩
theorem drop_any (gq g o n c : Nat) (w : World) (hq : w.heap[gq]? = some (.cells #[.slice (some ⟨g, o, none⟩) n c] 182 (0, 0))) (hn : 1 ≤ n) (hnc : n ≤ c) :
    Calls Try.prog 122 #[.pointer (some ⟨gq, 0, none⟩)] w fun e w' => e = .returned (.tuple #[]) ∧ w.setCell ⟨gq, 0, none⟩ (.slice (some (dropAd g o c)) (n - 1) (c - 1)) = w' := by
  have hu182 := Try.underlying182
  have hu180 := Try.underlying180
  have hc := blk_c hq 0 _ rfl
  have hf := blk_f hq 0
  have hn' : 0 < n := by omega
  clear hq
  by_cases h1 : c = 1
  · subst h1
    go_enter Try.func122, Try.ntmps122
    go_wp2
    go_end0
    exact ⟨rfl, by rw [show n - 1 = 0 by omega]; rfl⟩
  · go_enter Try.func122, Try.ntmps122
    go_wp2
    go_end0
    exact ⟨rfl, by unfold dropAd; rw [if_neg h1]⟩

/-- What is hauled: two lists of piles, station and load, served from their fronts. -/
def haulGo : Nat → List (Int × Int) → List (Int × Int) → List S74
  | n + 1, (a, x) :: h, (b, y) :: m =>
    if x < y then ⟨a, b, x⟩ :: haulGo n h ((b, y - x) :: m)
    else if y < x then ⟨a, b, y⟩ :: haulGo n ((a, x - y) :: h) m
    else ⟨a, b, x⟩ :: haulGo n h m
  | _, _, _ => []
def hcells (l : List S74) : List Value := l.flatMap fun p => [.int .i64 p.f0, .int .i64 p.f1, .int .i64 p.f2]
theorem hcells_snoc (l : List S74) (p : S74) : hcells (l ++ [p]) = hcells l ++ [.int .i64 p.f0, .int .i64 p.f1, .int .i64 p.f2] := by simp [hcells]
theorem haulGo_nil1 (n : Nat) (m : List (Int × Int)) : haulGo n [] m = [] := by cases n <;> rfl
theorem haulGo_nil2 (n : Nat) (h : List (Int × Int)) : haulGo n h [] = [] := by cases n <;> cases h <;> rfl
theorem haulGo_more (k n : Nat) (h m : List (Int × Int)) (hk : h.length + m.length ≤ k) (hn : k ≤ n) : haulGo n h m = haulGo k h m := by
  induction k generalizing n h m with
  | zero =>
    have : h = [] := List.eq_nil_of_length_eq_zero (by omega)
    subst this
    rw [haulGo_nil1, haulGo_nil1]
  | succ k ih =>
    obtain ⟨n, rfl⟩ : ∃ n', n = n' + 1 := ⟨n - 1, by omega⟩
    cases h with
    | nil => rw [haulGo_nil1, haulGo_nil1]
    | cons p h =>
      cases m with
      | nil => rw [haulGo_nil2, haulGo_nil2]
      | cons q m =>
        obtain ⟨a, x⟩ := p
        obtain ⟨b, y⟩ := q
        simp only [List.length_cons] at hk
        simp only [haulGo]
        rw [ih n h ((b, y - x) :: m) (by simp; omega) (by omega), ih n ((a, x - y) :: h) m (by simp; omega) (by omega), ih n h m (by omega) (by omega)]
/-- .. with as many rounds as there are piles. -/
def haul (h m : List (Int × Int)) : List S74 := haulGo (h.length + m.length) h m
theorem haul_nil1 (m : List (Int × Int)) : haul [] m = [] := haulGo_nil1 _ _
theorem haul_nil2 (h : List (Int × Int)) : haul h [] = [] := haulGo_nil2 _ _
theorem haul_cons (a x b y : Int) (h m : List (Int × Int)) : haul ((a, x) :: h) ((b, y) :: m) =
    if x < y then ⟨a, b, x⟩ :: haul h ((b, y - x) :: m) else if y < x then ⟨a, b, y⟩ :: haul ((a, x - y) :: h) m else ⟨a, b, x⟩ :: haul h m := by
  simp only [haul, List.length_cons]
  rw [show h.length + 1 + (m.length + 1) = (h.length + m.length + 1) + 1 by omega]
  simp only [haulGo]
  rw [haulGo_more (h.length + (m.length + 1)) (h.length + m.length + 1) h _ (by simp) (by omega), haulGo_more (h.length + 1 + m.length) (h.length + m.length + 1) _ m (by simp) (by omega), haulGo_more (h.length + m.length) (h.length + m.length + 1) h m (by omega) (by omega)]

/-- A queue that is served: its block, and the array in which what is left lies. -/
def Half (base : Nat) (W : World) (g : Nat) (A : Option Addr) (c : Nat) (l : List (Int × Int)) : Prop :=
  W.heap[g]? = some (.cells #[.slice A l.length c] 182 (0, 0)) ∧ base ≤ g ∧ l.length ≤ c ∧
    (l ≠ [] → ∃ a o cur, A = some ⟨a, o, none⟩ ∧ base ≤ a ∧ W.heap[a]? = some (.cells cur 141 (0, 0)) ∧ ∀ j u, (pcells l)[j]? = some u → cur[o + j]? = some u)
theorem Half.kept {base : Nat} {W W1 : World} {g c : Nat} {A : Option Addr} {l : List (Int × Int)} {S : Nat → Prop} (h : Half base W g A c l) (hk : Kept W W1 S) (hg : ¬ S g) (ha : ∀ a o, l ≠ [] → A = some ⟨a, o, none⟩ → ¬ S a) : Half base W1 g A c l := by
  refine ⟨(hk.2 g (blk_lt h.1) hg).trans h.1, h.2.1, h.2.2.1, fun hl => ?_⟩
  obtain ⟨a, o, cur, e, hb, hh, hc⟩ := h.2.2.2 hl
  exact ⟨a, o, cur, e, hb, (hk.2 a (blk_lt hh) (ha a o hl e)).trans hh, hc⟩
theorem pcells_cons (p : Int × Int) (r : List (Int × Int)) : pcells (p :: r) = .int .i64 p.1 :: .int .i64 p.2 :: pcells r := by simp [pcells]
/-- The first pile's load is written anew. -/
theorem Half.store {base : Nat} {W : World} {g c a o : Nat} {s x x' : Int} {r : List (Int × Int)} (h : Half base W g (some ⟨a, o, none⟩) c ((s, x) :: r)) :
    Half base (W.setCell ⟨a, o + 1, none⟩ (.int .i64 x')) g (some ⟨a, o, none⟩) c ((s, x') :: r) := by
  obtain ⟨hq, hb, hl, hs⟩ := h
  obtain ⟨a', o', cur, e, hba, hh, hc⟩ := hs (by simp)
  injection e with e
  injection e with e1 e2
  subst e1 e2
  have hga : g ≠ a := blk_ne hq hh (by decide)
  refine ⟨(Below.heap_setCell W ⟨a, o + 1, none⟩ _ g (fun e => hga e)).trans hq, hb, hl, fun _ => ⟨a, o, cur.setIfInBounds (o + 1) (.int .i64 x'), rfl, hba, blk_put hh (o + 1) _ rfl, fun j u hj => ?_⟩⟩
  rw [pcells_cons] at hj hc
  rw [Array.getElem?_setIfInBounds]
  match j, hj with
  | 0, hj => rw [if_neg (by omega)]; exact hc 0 u hj
  | 1, hj =>
    have h1 := hc 1 _ rfl
    have hlt : o + 1 < cur.size := (Array.getElem?_eq_some_iff.1 h1).1
    rw [if_pos rfl, if_pos hlt]
    simpa using hj
  | j + 2, hj => rw [if_neg (by omega)]; exact hc (j + 2) u hj
/-- The first pile is dropped. -/
theorem Half.drop {base : Nat} {W : World} {g c a o : Nat} {p : Int × Int} {r : List (Int × Int)} (h : Half base W g (some ⟨a, o, none⟩) c (p :: r)) :
    Half base (W.setCell ⟨g, 0, none⟩ (.slice (some (dropAd a o c)) ((p :: r).length - 1) (c - 1))) g (some (dropAd a o c)) (c - 1) r := by
  obtain ⟨hq, hb, hl, hs⟩ := h
  obtain ⟨a', o', cur, e, hba, hh, hc⟩ := hs (by simp)
  injection e with e
  injection e with e1 e2
  subst e1 e2
  have hga : g ≠ a := blk_ne hq hh (by decide)
  simp only [List.length_cons] at hl
  refine ⟨blk_put hq 0 _ (by simp), hb, by omega, fun hr => ⟨a, o + 2, cur, ?_, hba, (Below.heap_setCell W ⟨g, 0, none⟩ _ a (fun e => hga e.symm)).trans hh, fun j u hj => ?_⟩⟩
  · have : 0 < r.length := List.length_pos_iff.2 hr
    unfold dropAd
    rw [if_neg (by omega)]
  · rw [show o + 2 + j = o + (j + 2) by omega]
    refine hc (j + 2) u ?_
    rw [pcells_cons]
    exact hj
/-- Two queues that are served. -/
def TwoC (base : Nat) (W : World) (g1 g2 : Nat) (h m : List (Int × Int)) : Prop :=
  ∃ A1 c1 A2 c2, Half base W g1 A1 c1 h ∧ Half base W g2 A2 c2 m ∧ g1 ≠ g2 ∧ (∀ a o a' o', h ≠ [] → m ≠ [] → A1 = some ⟨a, o, none⟩ → A2 = some ⟨a', o', none⟩ → a ≠ a')
theorem q_served {base : Nat} {W : World} {g : Nat} {v : Value} {l : List (Int × Int)} (q : QBuild base W g v l.length (pcells l)) : ∃ A c, v = .slice A l.length c ∧ Half base W g A c l ∧ (∀ a o, l ≠ [] → A = some ⟨a, o, none⟩ → v.ownBlock = some a) := by
  obtain ⟨hq, hown, hb⟩ := q
  rcases hown.2 with ⟨rfl, h0⟩ | ⟨a, cap, cur, rfl, hba, hh, h1, h2, h3⟩
  · have : l = [] := List.eq_nil_of_length_eq_zero h0
    subst this
    exact ⟨none, 0, rfl, ⟨hq, hb, Nat.le_refl _, fun h => absurd rfl h⟩, fun _ _ h => absurd rfl h⟩
  · refine ⟨some ⟨a, 0, none⟩, cap, rfl, ⟨hq, hb, h1, fun _ => ⟨a, 0, cur, rfl, hba, hh, fun j u hj => ?_⟩⟩, fun a' o' _ e => by injection e with e; injection e with e; rw [← e]; rfl⟩
    rw [← h3.2] at hj
    have hj' := hj
    rw [List.getElem?_take] at hj'
    split at hj'
    · simpa using hj'
    · exact absurd hj' (by simp)
theorem TwoQ.served {base : Nat} {W : World} {g1 g2 : Nat} {h m : List (Int × Int)} (t : TwoQ base W g1 g2 h m) : TwoC base W g1 g2 h m := by
  obtain ⟨v1, v2, q1, q2, hne, hap⟩ := t
  obtain ⟨A1, c1, rfl, l1, s1⟩ := q_served q1
  obtain ⟨A2, c2, rfl, l2, s2⟩ := q_served q2
  refine ⟨A1, c1, A2, c2, l1, l2, hne, ?_⟩
  intro a o a' o' hh hm e1 e2 he
  have k1 := s1 a o hh e1
  have k2 := s2 a' o' hm e2
  subst he
  exact hap a k1 k2
theorem Half.lower {base base' : Nat} {W : World} {g c : Nat} {A : Option Addr} {l : List (Int × Int)} (h : Half base W g A c l) (hb : base' ≤ base) : Half base' W g A c l := by
  refine ⟨h.1, by have := h.2.1; omega, h.2.2.1, fun hl => ?_⟩
  obtain ⟨a, o, cur, e, hba, r⟩ := h.2.2.2 hl
  exact ⟨a, o, cur, e, by omega, r⟩
theorem TwoC.lower {base base' : Nat} {W : World} {g1 g2 : Nat} {h m : List (Int × Int)} (t : TwoC base W g1 g2 h m) (hb : base' ≤ base) : TwoC base' W g1 g2 h m := by
  obtain ⟨A1, c1, A2, c2, l1, l2, r⟩ := t
  exact ⟨A1, c1, A2, c2, l1.lower hb, l2.lower hb, r⟩

theorem Half.cells {base : Nat} {W : World} {g c a o : Nat} {s x : Int} {r : List (Int × Int)} (h : Half base W g (some ⟨a, o, none⟩) c ((s, x) :: r)) :
    W.cell? ⟨a, o, none⟩ = some (.int .i64 s) ∧ W.cell? ⟨a, o + 1, none⟩ = some (.int .i64 x) ∧ W.frozen? ⟨a, o + 1, none⟩ = false ∧ base ≤ a ∧ a < W.heap.size ∧ ∃ cur, W.heap[a]? = some (.cells cur 141 (0, 0)) := by
  obtain ⟨hq, hb, hl, hs⟩ := h
  obtain ⟨a', o', cur, e, hba, hh, hc⟩ := hs (by simp)
  injection e with e
  injection e with e1 e2
  subst e1 e2
  rw [pcells_cons] at hc
  exact ⟨(blk_cell hh _).trans (hc 0 _ rfl), (blk_cell hh _).trans (hc 1 _ rfl), blk_f hh _, hba, blk_lt hh, cur, hh⟩
theorem Half.addr {base : Nat} {W : World} {g c : Nat} {A : Option Addr} {p : Int × Int} {r : List (Int × Int)} (h : Half base W g A c (p :: r)) : ∃ a o, A = some ⟨a, o, none⟩ := by
  obtain ⟨a, o, cur, e, _⟩ := h.2.2.2 (by simp)
  exact ⟨a, o, e⟩

/-- What a balanced list of stations says of itself. -/
def hbal (l : List Int) : Prop := 1 ≤ l.length ∧ l.length ≤ 12 ∧ (∀ x ∈ l, -1000 ≤ x ∧ x ≤ 1000) ∧ l.sum = 0

theorem kept_set (W : World) (p : Addr) (u : Value) : Kept W (W.setCell p u) (fun k => k = p.block) := (Kept.refl W (fun k => k = p.block)).setCell (.inl rfl) u
theorem own_set {W : World} {base : Nat} {e : TypeId} {size n : Nat} {v : Value} {xs : List Value} {p : Addr} {u : Value} (h : W.ownsRow base e size v n xs) (hne : v.ownBlock ≠ some p.block) : (W.setCell p u).ownsRow base e size v n xs :=
  own_keep h (kept_set W p u) (fun g hg he => hne (by rw [hg, he]))
theorem Half.set {base : Nat} {W : World} {g c a o : Nat} {l : List (Int × Int)} {p : Addr} {u : Value} (h : Half base W g (some ⟨a, o, none⟩) c l) (hg : g ≠ p.block) (ha : a ≠ p.block) : Half base (W.setCell p u) g (some ⟨a, o, none⟩) c l :=
  h.kept (kept_set W p u) hg (fun a' o' _ e he => by injection e with e; injection e with e; subst e; exact ha he)
theorem dropAd_block (a o c : Nat) : ∃ o', dropAd a o c = ⟨a, o', none⟩ := by
  unfold dropAd
  split
  · exact ⟨_, rfl⟩
  · exact ⟨_, rfl⟩
/-- Both first piles' loads are written anew. -/
theorem stores {base : Nat} {W : World} {g1 g2 c1 c2 a1 o1 a2 o2 : Nat} {s1 x s2 y x' y' : Int} {h m : List (Int × Int)}
    (q1 : Half base W g1 (some ⟨a1, o1, none⟩) c1 ((s1, x) :: h)) (q2 : Half base W g2 (some ⟨a2, o2, none⟩) c2 ((s2, y) :: m)) (n12 : g1 ≠ a2) (n21 : g2 ≠ a1) (hne : a1 ≠ a2) :
    Half base ((W.setCell ⟨a1, o1 + 1, none⟩ (.int .i64 x')).setCell ⟨a2, o2 + 1, none⟩ (.int .i64 y')) g1 (some ⟨a1, o1, none⟩) c1 ((s1, x') :: h) ∧
    Half base ((W.setCell ⟨a1, o1 + 1, none⟩ (.int .i64 x')).setCell ⟨a2, o2 + 1, none⟩ (.int .i64 y')) g2 (some ⟨a2, o2, none⟩) c2 ((s2, y') :: m) :=
  ⟨(q1.store (x' := x')).set n12 hne, (q2.set n21 (Ne.symm hne)).store⟩
theorem sep_of {a1 a2 o1 o2 : Nat} {A1 A2 : Option Addr} {h m : List (Int × Int)} (hne : a1 ≠ a2) (e1 : A1 = some ⟨a1, o1, none⟩) (e2 : A2 = some ⟨a2, o2, none⟩) : ∀ a o a' o', h ≠ [] → m ≠ [] → A1 = some ⟨a, o, none⟩ → A2 = some ⟨a', o', none⟩ → a ≠ a' := by
  intro a o a' o' _ _ h1 h2
  rw [e1] at h1
  rw [e2] at h2
  injection h1 with h1
  injection h1 with h1
  injection h2 with h2
  injection h2 with h2
  subst h1 h2
  exact hne
def HRel (w : World) (F : List S74) (v : Value) (wr : World) (g1 g2 : Nat) (h m : List (Int × Int)) : Prop :=
  ∃ out, out ++ haul h m = F ∧ (∀ p ∈ h, 1 ≤ p.2 ∧ p.2 ≤ 1000) ∧ (∀ p ∈ m, 1 ≤ p.2 ∧ p.2 ≤ 1000) ∧ TwoC w.heap.size wr g1 g2 h m ∧ wr.ownsRow w.heap.size 74 3 v out.length (hcells out) ∧ out.length + h.length + m.length ≤ 24 ∧ Below w.heap.size w wr
/-- What the three ways through a round have in common. -/
structure Rnd (w W : World) (g1 g2 c1 c2 a1 o1 a2 o2 : Nat) (s1 x s2 y n : Int) (h m : List (Int × Int)) (out F : List S74) (v : Value) : Prop where
  q1 : Half w.heap.size W g1 (some ⟨a1, o1, none⟩) c1 ((s1, x) :: h)
  q2 : Half w.heap.size W g2 (some ⟨a2, o2, none⟩) c2 ((s2, y) :: m)
  own : W.ownsRow w.heap.size 74 3 v (out.length + 1) (hcells out ++ [.int .i64 s1, .int .i64 s2, .int .i64 n])
  n12 : g1 ≠ a2
  n21 : g2 ≠ a1
  hne : a1 ≠ a2
  hg : g1 ≠ g2
  hB : Below w.heap.size w W
  hF : out ++ haul ((s1, x) :: h) ((s2, y) :: m) = F
  ph : ∀ p ∈ (s1, x) :: h, 1 ≤ p.2 ∧ p.2 ≤ 1000
  pm : ∀ p ∈ (s2, y) :: m, 1 ≤ p.2 ∧ p.2 ≤ 1000
  len : out.length + ((s1, x) :: h).length + ((s2, y) :: m).length ≤ 24
namespace Rnd
variable {w W : World} {g1 g2 c1 c2 a1 o1 a2 o2 : Nat} {s1 x s2 y n : Int} {h m : List (Int × Int)} {out F : List S74} {v : Value}
theorem blocks (r : Rnd w W g1 g2 c1 c2 a1 o1 a2 o2 s1 x s2 y n h m out F v) : v.ownBlock ≠ some g1 ∧ v.ownBlock ≠ some g2 ∧ v.ownBlock ≠ some a1 ∧ v.ownBlock ≠ some a2 ∧ w.heap.size ≤ g1 ∧ w.heap.size ≤ g2 ∧ w.heap.size ≤ a1 ∧ w.heap.size ≤ a2 ∧ g1 ≠ a1 ∧ g2 ≠ a2 := by
  obtain ⟨_, _, _, hb1, _, cur1, h1⟩ := r.q1.cells
  obtain ⟨_, _, _, hb2, _, cur2, h2⟩ := r.q2.cells
  exact ⟨own_ne_blk r.own r.q1.1 (by decide), own_ne_blk r.own r.q2.1 (by decide), own_ne_blk r.own h1 (by decide), own_ne_blk r.own h2 (by decide), r.q1.2.1, r.q2.2.1, hb1, hb2, blk_ne r.q1.1 h1 (by decide), blk_ne r.q2.1 h2 (by decide)⟩
theorem less (r : Rnd w W g1 g2 c1 c2 a1 o1 a2 o2 s1 x s2 y n h m out F v) (hxy : x < y) (hn : n = x) {x' : Int} :
    HRel w F v (((W.setCell ⟨a1, o1 + 1, none⟩ (.int .i64 x')).setCell ⟨a2, o2 + 1, none⟩ (.int .i64 (y - x))).setCell ⟨g1, 0, none⟩ (.slice (some (dropAd a1 o1 c1)) (((s1, x) :: h).length - 1) (c1 - 1))) g1 g2 h ((s2, y - x) :: m) := by
  obtain ⟨b1, b2, b3, b4, z1, z2, z3, z4, n11, n22⟩ := r.blocks
  obtain ⟨p1, p2⟩ := stores (x' := x') (y' := y - x) r.q1 r.q2 r.n12 r.n21 r.hne
  obtain ⟨o', ho'⟩ := dropAd_block a1 o1 c1
  have hx := r.ph _ (List.mem_cons_self ..)
  have hy := r.pm _ (List.mem_cons_self ..)
  have hl := r.len
  simp only [List.length_cons] at hl
  refine ⟨out ++ [⟨s1, s2, x⟩], ?_, fun p hp => r.ph p (List.mem_cons_of_mem _ hp), ?_, ⟨_, _, _, _, p1.drop, p2.set r.hg.symm (Ne.symm r.n12), r.hg, sep_of r.hne (congrArg some ho') rfl⟩, ?_, by simp; omega, ((r.hB.setCell z3 _).setCell z4 _).setCell z1 _⟩
  · rw [← r.hF, haul_cons, if_pos hxy, List.append_assoc]; rfl
  · intro p hp
    rcases List.mem_cons.1 hp with rfl | hp
    · simp only at hx hy ⊢; omega
    · exact r.pm p (List.mem_cons_of_mem _ hp)
  · rw [hcells_snoc, List.length_append, ← hn]
    exact own_set (own_set (own_set r.own b3) b4) b1
theorem more (r : Rnd w W g1 g2 c1 c2 a1 o1 a2 o2 s1 x s2 y n h m out F v) (hxy : y < x) (hn : n = y) {y' : Int} :
    HRel w F v (((W.setCell ⟨a1, o1 + 1, none⟩ (.int .i64 (x - y))).setCell ⟨a2, o2 + 1, none⟩ (.int .i64 y')).setCell ⟨g2, 0, none⟩ (.slice (some (dropAd a2 o2 c2)) (((s2, y) :: m).length - 1) (c2 - 1))) g1 g2 ((s1, x - y) :: h) m := by
  obtain ⟨b1, b2, b3, b4, z1, z2, z3, z4, n11, n22⟩ := r.blocks
  obtain ⟨p1, p2⟩ := stores (x' := x - y) (y' := y') r.q1 r.q2 r.n12 r.n21 r.hne
  obtain ⟨o', ho'⟩ := dropAd_block a2 o2 c2
  have hx := r.ph _ (List.mem_cons_self ..)
  have hy := r.pm _ (List.mem_cons_self ..)
  have hl := r.len
  simp only [List.length_cons] at hl
  refine ⟨out ++ [⟨s1, s2, y⟩], ?_, ?_, fun p hp => r.pm p (List.mem_cons_of_mem _ hp), ⟨_, _, _, _, p1.set r.hg (Ne.symm r.n21), p2.drop, r.hg, sep_of r.hne rfl (congrArg some ho')⟩, ?_, by simp; omega, ((r.hB.setCell z3 _).setCell z4 _).setCell z2 _⟩
  · rw [← r.hF, haul_cons, if_neg (by omega), if_pos hxy, List.append_assoc]; rfl
  · intro p hp
    rcases List.mem_cons.1 hp with rfl | hp
    · simp only at hx hy ⊢; omega
    · exact r.ph p (List.mem_cons_of_mem _ hp)
  · rw [hcells_snoc, List.length_append, ← hn]
    exact own_set (own_set (own_set r.own b3) b4) b2
theorem same (r : Rnd w W g1 g2 c1 c2 a1 o1 a2 o2 s1 x s2 y n h m out F v) (hxy : x = y) (hn : n = x) {x' y' : Int} :
    HRel w F v ((((W.setCell ⟨a1, o1 + 1, none⟩ (.int .i64 x')).setCell ⟨a2, o2 + 1, none⟩ (.int .i64 y')).setCell ⟨g1, 0, none⟩ (.slice (some (dropAd a1 o1 c1)) (((s1, x) :: h).length - 1) (c1 - 1))).setCell ⟨g2, 0, none⟩ (.slice (some (dropAd a2 o2 c2)) (((s2, y) :: m).length - 1) (c2 - 1))) g1 g2 h m := by
  obtain ⟨b1, b2, b3, b4, z1, z2, z3, z4, n11, n22⟩ := r.blocks
  obtain ⟨p1, p2⟩ := stores (x' := x') (y' := y') r.q1 r.q2 r.n12 r.n21 r.hne
  obtain ⟨o1', ho1⟩ := dropAd_block a1 o1 c1
  obtain ⟨o2', ho2⟩ := dropAd_block a2 o2 c2
  have hl := r.len
  simp only [List.length_cons] at hl
  have d1 := p1.drop
  rw [ho1] at d1 ⊢
  refine ⟨out ++ [⟨s1, s2, x⟩], ?_, fun p hp => r.ph p (List.mem_cons_of_mem _ hp), fun p hp => r.pm p (List.mem_cons_of_mem _ hp), ⟨_, _, _, _, d1.set r.hg (Ne.symm r.n21), (p2.set r.hg.symm (Ne.symm r.n12)).drop, r.hg, sep_of r.hne rfl (congrArg some ho2)⟩, ?_, by simp; omega, (((r.hB.setCell z3 _).setCell z4 _).setCell z1 _).setCell z2 _⟩
  · rw [← r.hF, haul_cons, if_neg (by omega), if_neg (by omega), List.append_assoc]; rfl
  · rw [hcells_snoc, List.length_append, ← hn]
    exact own_set (own_set (own_set (own_set r.own b3) b4) b1) b2
end Rnd
end Go.Proofs.Ytffkojdmidhchaa.P
