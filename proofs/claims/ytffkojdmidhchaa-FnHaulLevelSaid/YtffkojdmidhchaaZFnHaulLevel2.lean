/- Parts of the proof of the law FnHaulLevel: the plain functions, their contracts and the plain law (merged texts of this session, part 2 of 2). -/
import Derived.Test.YtffkojdmidhchaaZFnHaulLevel1
import Derived.WalkSpells
import Derived.Deep.LoopGhost
section
/- The walk of impl.pilesOf and of the queue's put: two queues that are filled side by side. -/

namespace Go.Proofs.Ytffkojdmidhchaa.P
open Go.RowKit Go.Proofs.YtffkojdmidhchaaW.PrintWords Go.Proofs.YtffkojdmidhchaaW.PrintLast Go.Proofs.YtffkojdmidhchaaW.PrintMore
set_option linter.unusedVariables false
set_option linter.unusedSimpArgs false
set_option maxHeartbeats 4000000
set_option maxRecDepth 20000

attribute [local go_sem] frozen_alloc'
/-- A queue's block holds the slice v, and v is a row of the call's own that holds xs. -/
def QBuild (base : Nat) (W : World) (gq : Nat) (v : Value) (n : Nat) (xs : List Value) : Prop :=
  W.heap[gq]? = some (.cells #[v] 182 (0, 0)) ∧ W.ownsRow base 141 2 v n xs ∧ base ≤ gq

theorem put_keep {w w1 : World} {base gq n : Nat} {v : Value} {xs : List Value} {x y : Int} {o : Obj} (hgrow : (((w.alloc (.cells #[.int .i64 x, .int .i64 y] 141)).alloc o).drew).grownBy w1 v.ownBlock)
    (hc : w.cell? ⟨gq, 0, none⟩ = some v) (hf : w.frozen? ⟨gq, 0, none⟩ = false) (hlt : gq < w.heap.size) (hne : v.ownBlock ≠ some gq) (hown : w.ownsRow base 141 2 v n xs) :
    w1.cell? ⟨gq, 0, none⟩ = some v ∧ w1.frozen? ⟨gq, 0, none⟩ = false ∧ w1.cell? ⟨w.heap.size, 0, none⟩ = some (.int .i64 x) ∧ w1.cell? ⟨w.heap.size, 1, none⟩ = some (.int .i64 y) := by
  have hn2 : some w.heap.size ≠ v.ownBlock := fun he => by have := own_lt hown _ he.symm; omega
  have hb : (((w.alloc (.cells #[.int .i64 x, .int .i64 y] 141)).alloc o).drew).heap[gq]? = w.heap[gq]? :=
    (Below.heap_alloc _ o gq (by simp; omega)).trans (Below.heap_alloc w _ gq hlt)
  have hb2 : w1.heap[gq]? = w.heap[gq]? := (hgrow.block gq (by simp; omega) (Ne.symm hne)).trans hb
  have hb3 : w1.heap[w.heap.size]? = some (.cells #[.int .i64 x, .int .i64 y] 141 (0, 0)) :=
    (hgrow.block w.heap.size (by simp; omega) hn2).trans ((Below.heap_alloc _ o w.heap.size (by simp)).trans (heap_alloc_new w _))
  exact ⟨(World.cell?_of_block hb2).trans hc, (World.frozen?_of_block hb2).trans hf, by simp [World.cell?, hb3], by simp [World.cell?, hb3]⟩

theorem put_done {w w1 : World} {base gq n gg cap : Nat} {v : Value} {xs : List Value} {x y : Int} {o : Obj} (hgrow : (((w.alloc (.cells #[.int .i64 x, .int .i64 y] 141)).alloc o).drew).grownBy w1 v.ownBlock)
    (hq : w.heap[gq]? = some (.cells #[v] 182 (0, 0))) (hbq : base ≤ gq) (hbase : base ≤ w.heap.size) (hown : w.ownsRow base 141 2 v n xs)
    (hown1 : w1.ownsRow base 141 2 (.slice (some ⟨gg, 0, none⟩) (n + 1) cap) (n + 1) (xs ++ [.int .i64 x, .int .i64 y])) (hat : v.ownBlock = some gg ∨ gg = w.heap.size + 1 + 1) :
    QBuild base (w1.setCell ⟨gq, 0, none⟩ (.slice (some ⟨gg, 0, none⟩) (n + 1) cap)) gq (.slice (some ⟨gg, 0, none⟩) (n + 1) cap) (n + 1) (xs ++ [.int .i64 x, .int .i64 y]) ∧
      Kept w (w1.setCell ⟨gq, 0, none⟩ (.slice (some ⟨gg, 0, none⟩) (n + 1) cap)) (fun k => k = gq ∨ some k = v.ownBlock) ∧ Below base w (w1.setCell ⟨gq, 0, none⟩ (.slice (some ⟨gg, 0, none⟩) (n + 1) cap)) ∧
      ((Value.slice (some ⟨gg, 0, none⟩) (n + 1) cap).ownBlock = v.ownBlock ∨ ∃ k, (Value.slice (some ⟨gg, 0, none⟩) (n + 1) cap).ownBlock = some k ∧ w.heap.size ≤ k) := by
  have hlt := blk_lt hq
  have hne := own_ne_blk hown hq (by decide)
  have hb2 : w1.heap[gq]? = some (.cells #[v] 182 (0, 0)) := (hgrow.block gq (by simp; omega) (Ne.symm hne)).trans ((Below.heap_alloc _ o gq (by simp; omega)).trans ((Below.heap_alloc w _ gq hlt).trans hq))
  have hgg : (Value.slice (some ⟨gg, 0, none⟩) (n + 1) cap).ownBlock ≠ some gq := own_ne_blk hown1 hb2 (by decide)
  have hK : Kept w w1 (fun k => k = gq ∨ some k = v.ownBlock) := Kept.of_grown hgrow (((Kept.refl w _).alloc _).alloc _).drew (fun k hk => .inl (.inr hk.symm))
  have hB : Below base w w1 := pw_below_grown ((((Below.refl base w).alloc hbase _).alloc (by simp; omega) _).drew) v.ownBlock (by simp; omega) hgrow (fun k hk => own_base hown k hk)
  refine ⟨⟨blk_put hb2 0 _ rfl, hown1.kept (grown_set w1 gq 0 _) (.inr hgg), hbq⟩, hK.setCell (.inl (.inl rfl)) _, hB.setCell hbq _, ?_⟩
  rcases hat with h | h
  · exact .inl (by rw [h]; rfl)
  · exact .inr ⟨gg, rfl, by omega⟩

theorem put_any (base gq n : Nat) (v : Value) (xs : List Value) (x y : Int) (w : World) (hq : QBuild base w gq v n xs) (hbase : base ≤ w.heap.size) (hn : n ≤ 1000) :
    Calls Try.prog 170 #[.pointer (some ⟨gq, 0, none⟩), .agg #[.int .i64 x, .int .i64 y]] w fun e w' => ∃ v', e = .returned (.tuple #[]) ∧
      QBuild base w' gq v' (n + 1) (xs ++ [.int .i64 x, .int .i64 y]) ∧ Kept w w' (fun k => k = gq ∨ some k = v.ownBlock) ∧ Below base w w' ∧ (v'.ownBlock = v.ownBlock ∨ ∃ k, v'.ownBlock = some k ∧ w.heap.size ≤ k) := by
  obtain ⟨hq, hown, hbq⟩ := hq
  have hu141 := Try.underlying141
  have hu182 := Try.underlying182
  have hu180 := Try.underlying180
  obtain ⟨i0, hi0, hz0, hz1, hz2⟩ := info_parts info141
  have hc : w.cell? ⟨gq, 0, none⟩ = some v := by simp [World.cell?, hq]
  have hf : w.frozen? ⟨gq, 0, none⟩ = false := by simp [World.frozen?, hq]
  have hlt : gq < w.heap.size := blk_lt hq
  have hne : v.ownBlock ≠ some gq := fun he => by
    rcases hown.2 with ⟨rfl, _⟩ | ⟨g, cap, cur, rfl, _, hh, _⟩
    · simp [Value.ownBlock] at he
    · have : g = gq := by simpa [Value.ownBlock] using he
      subst this
      rw [hh] at hq
      injection hq with hq
      injection hq with _ ht
      exact absurd ht (by decide)
  have HQ := Aside0.mk hq
  clear hq
  go_enter Try.func170, Try.ntmps170
  go_wp2_with fail
  go_region_law ((refine step_append_lies _ (by rfl) _ _ _ (by rfl) base 141 i0 _ 2 16 Try.underlying180 hi0 hz0 hz1 hz2 rfl (by omega) v n xs (by rfl) (((hown.alloc _).alloc _).drew) ⟨w.heap.size + 1, 0, none⟩ 1 1 [.int .i64 x, .int .i64 y] (by rfl) (by rfl) (World.news_of_block (cs := #[.int .i64 x, .int .i64 y]) (t := 141) (fr := (0, 0)) (by have h_ := heap_alloc_new (w.alloc (.cells #[.int .i64 x, .int .i64 y] 141)) (.cells #[.int .i64 x, .int .i64 y] 141); rw [World.size_alloc] at h_; exact h_)) (by simp [Value.oneCell']) (by omega) (by simp only [maxLen]; omega) (by omega) (by simp; omega) (w.heap.size + 1 + 1) (by simp) ?_; intro gg cap w1 hown1 hgrow hat hlt1; obtain ⟨k0, k1, k2, k3⟩ := put_keep hgrow hc hf hlt hne hown))
  all_goals
    go_wp2
    go_end0
    exact ⟨_, rfl, put_done hgrow HQ.out hbq hbase hown hown1 hat⟩

/-- The piles, station and load; i is the number of the first station. -/
def pilesH : List Int → Int → List (Int × Int)
  | [], _ => []
  | x :: r, i => if 0 < x then (i, x) :: pilesH r (i + 1) else pilesH r (i + 1)
def pilesM : List Int → Int → List (Int × Int)
  | [], _ => []
  | x :: r, i => if x < 0 then (i, -x) :: pilesM r (i + 1) else pilesM r (i + 1)
def pcells (l : List (Int × Int)) : List Value := l.flatMap fun p => [.int .i64 p.1, .int .i64 p.2]
theorem pilesH_snoc (l : List Int) (x i : Int) : pilesH (l ++ [x]) i = pilesH l i ++ (if 0 < x then [(i + l.length, x)] else []) := by
  induction l generalizing i with
  | nil => simp [pilesH]
  | cons y r ih =>
    simp only [List.cons_append, pilesH, ih]
    have e : i + 1 + (r.length : Int) = i + ((y :: r).length : Int) := by simp; omega
    split <;> simp [e]
theorem pilesM_snoc (l : List Int) (x i : Int) : pilesM (l ++ [x]) i = pilesM l i ++ (if x < 0 then [(i + l.length, -x)] else []) := by
  induction l generalizing i with
  | nil => simp [pilesM]
  | cons y r ih =>
    simp only [List.cons_append, pilesM, ih]
    have e : i + 1 + (r.length : Int) = i + ((y :: r).length : Int) := by simp; omega
    split <;> simp [e]
theorem pilesH_len (l : List Int) (i : Int) : (pilesH l i).length ≤ l.length := by
  induction l generalizing i with
  | nil => simp [pilesH]
  | cons y r ih => simp only [pilesH]; have := ih (i + 1); split <;> simp <;> omega
theorem pilesM_len (l : List Int) (i : Int) : (pilesM l i).length ≤ l.length := by
  induction l generalizing i with
  | nil => simp [pilesM]
  | cons y r ih => simp only [pilesM]; have := ih (i + 1); split <;> simp <;> omega
theorem pcells_snoc (l : List (Int × Int)) (p : Int × Int) : pcells (l ++ [p]) = pcells l ++ [.int .i64 p.1, .int .i64 p.2] := by simp [pcells]
theorem take_succ_rd (l : List Int) (k : Nat) (h : k < l.length) : l.take (k + 1) = l.take k ++ [rd l k] := by
  rw [List.take_succ_eq_append_getElem h]
  simp [rd, List.getD_eq_getElem?_getD, List.getElem?_eq_getElem h]

/-- Two queues under way, apart. -/
def TwoQ (base : Nat) (W : World) (g1 g2 : Nat) (h m : List (Int × Int)) : Prop :=
  ∃ v1 v2, QBuild base W g1 v1 h.length (pcells h) ∧ QBuild base W g2 v2 m.length (pcells m) ∧ g1 ≠ g2 ∧ (∀ k, v1.ownBlock = some k → v2.ownBlock ≠ some k)
theorem TwoQ.below {base : Nat} {W : World} {g1 g2 : Nat} {h m : List (Int × Int)} (t : TwoQ base W g1 g2 h m) : base ≤ g1 ∧ base ≤ g2 := by
  obtain ⟨v1, v2, a, b, _⟩ := t
  exact ⟨a.2.2, b.2.2⟩
theorem QBuild.kept {base : Nat} {W W1 : World} {g n : Nat} {v : Value} {xs : List Value} {S : Nat → Prop} (q : QBuild base W g v n xs) (hk : Kept W W1 S) (hg : ¬ S g) (hv : ∀ k, v.ownBlock = some k → ¬ S k) : QBuild base W1 g v n xs :=
  ⟨(hk.2 g (blk_lt q.1) hg).trans q.1, own_keep q.2.1 hk hv, q.2.2⟩
/-- The first queue gets a pile. -/
theorem TwoQ.first {base : Nat} {W W1 : World} {g1 g2 : Nat} {h m : List (Int × Int)} {p : Int × Int} {v1 v2 v' : Value}
    (q1 : QBuild base W g1 v1 h.length (pcells h)) (q2 : QBuild base W g2 v2 m.length (pcells m)) (hne : g1 ≠ g2) (hap : ∀ k, v1.ownBlock = some k → v2.ownBlock ≠ some k)
    (q' : QBuild base W1 g1 v' (h.length + 1) (pcells h ++ [.int .i64 p.1, .int .i64 p.2])) (hk : Kept W W1 (fun k => k = g1 ∨ some k = v1.ownBlock)) (hat : v'.ownBlock = v1.ownBlock ∨ ∃ k, v'.ownBlock = some k ∧ W.heap.size ≤ k) :
    TwoQ base W1 g1 g2 (h ++ [p]) m := by
  refine ⟨v', v2, by rw [pcells_snoc, List.length_append]; exact q', q2.kept hk ?_ ?_, hne, ?_⟩
  · rintro (e | e)
    · exact hne e.symm
    · exact own_ne_blk q1.2.1 q2.1 (by decide) e.symm
  · rintro k hv (e | e)
    · subst e; exact own_ne_blk q2.2.1 q1.1 (by decide) hv
    · exact hap k e.symm hv
  · intro k hk' hv
    rcases hat with e | ⟨k', e, hle⟩
    · exact hap k (by rw [← e]; exact hk') hv
    · rw [hk'] at e
      injection e with e
      subst e
      have := own_lt q2.2.1 k hv
      omega
theorem TwoQ.second {base : Nat} {W W1 : World} {g1 g2 : Nat} {h m : List (Int × Int)} {p : Int × Int} {v1 v2 v' : Value}
    (q1 : QBuild base W g1 v1 h.length (pcells h)) (q2 : QBuild base W g2 v2 m.length (pcells m)) (hne : g1 ≠ g2) (hap : ∀ k, v1.ownBlock = some k → v2.ownBlock ≠ some k)
    (q' : QBuild base W1 g2 v' (m.length + 1) (pcells m ++ [.int .i64 p.1, .int .i64 p.2])) (hk : Kept W W1 (fun k => k = g2 ∨ some k = v2.ownBlock)) (hat : v'.ownBlock = v2.ownBlock ∨ ∃ k, v'.ownBlock = some k ∧ W.heap.size ≤ k) :
    TwoQ base W1 g1 g2 h (m ++ [p]) := by
  refine ⟨v1, v', q1.kept hk ?_ ?_, by rw [pcells_snoc, List.length_append]; exact q', hne, ?_⟩
  · rintro (e | e)
    · exact hne e
    · exact own_ne_blk q2.2.1 q1.1 (by decide) e.symm
  · rintro k hv (e | e)
    · subst e; exact own_ne_blk q1.2.1 q2.1 (by decide) hv
    · exact hap k hv e.symm
  · intro k hk' hv
    rcases hat with e | ⟨k', e, hle⟩
    · exact hap k hk' (by rw [← e]; exact hv)
    · rw [hv] at e
      injection e with e
      subst e
      have := own_lt q1.2.1 k hk'
      omega

def PilesPost (w : World) (l : List Int) (e : Ending) (w' : World) : Prop :=
  ∃ g1 g2, e = .returned (.tuple #[.pointer (some ⟨g1, 0, none⟩), .pointer (some ⟨g2, 0, none⟩)]) ∧ TwoQ w.heap.size w' g1 g2 (pilesH l 0) (pilesM l 0) ∧ Below w.heap.size w w'
def PilesRel (w : World) (l : List Int) (i : Value) (wr : World) : Prop :=
  ∃ k : Nat, k ≤ l.length ∧ i = .int .i64 k ∧ TwoQ w.heap.size wr w.heap.size (w.heap.size + 1) (pilesH (l.take k) 0) (pilesM (l.take k) 0) ∧ Below w.heap.size w wr

theorem piles_any (A0 : Option Addr) (c0 : Nat) (l : List Int) (w : World) (hr : Kd.C (Kd.int .i64) w A0 l.length l) (hc : l.length ≤ c0) (hl : l.length ≤ 12) (hb : ∀ x ∈ l, -1000 ≤ x ∧ x ≤ 1000) :
    Calls Try.prog 119 #[.slice A0 l.length c0] w (PilesPost w l) := by
  have hu182 := Try.underlying182
  have hu141 := Try.underlying141
  go_enter Try.func119, Try.ntmps119
  go_wp2_with fail
  go_loopw [14] (fun i wr => PilesRel w l i wr) (fun i _ => l.length - (intOf i).toNat)
  case atStart =>
    refine ⟨0, Nat.zero_le _, rfl, ⟨.slice none 0 0, .slice none 0 0, ⟨?_, own_nil _ _ _ _, Nat.le_refl _⟩, ⟨?_, own_nil _ _ _ _, by omega⟩, by omega, fun k hk => by simp [Value.ownBlock] at hk⟩, ((Below.refl _ _).alloc (Nat.le_refl _) _).alloc (by simp) _⟩
    · exact (Below.heap_alloc _ _ _ (by simp)).trans (heap_alloc_new w _)
    · have h := heap_alloc_new (w.alloc (.cells #[.slice none 0 0] 182)) (.cells #[.slice none 0 0] 182)
      rw [World.size_alloc] at h
      exact h
  case round =>
    obtain ⟨k, hk, rfl, htq, hB⟩ := hrel
    by_cases hlt : k < l.length
    · obtain ⟨ad, rfl, hcell⟩ := Kd.at_int hr k (by omega) (by omega)
      have hcell' : wr.cell? (ad.add k) = some (.int .i64 (rd l k)) := by
        have := (hB.cell (World.block_lt_of_cell? w _ hcell)).trans hcell
        simpa using this
      clear hcell
      have hbx : -1000 ≤ rd l k ∧ rd l k ≤ 1000 := by
        refine hb _ ?_
        simp [rd, List.getD_eq_getElem?_getD, List.getElem?_eq_getElem hlt]
      have e1 := pilesH_snoc (l.take k) (rd l k) 0
      have e2 := pilesM_snoc (l.take k) (rd l k) 0
      rw [← take_succ_rd l k hlt] at e1 e2
      have hlk : (l.take k).length = k := by rw [List.length_take]; omega
      rw [hlk, Int.zero_add] at e1 e2
      have hH := pilesH_len (l.take k) 0
      have hM := pilesM_len (l.take k) 0
      rw [hlk] at hH hM
      obtain ⟨v1, v2, q1, q2, hne, hap⟩ := htq
      generalize rd l k = x at *
      rcases Int.lt_trichotomy x 0 with hx | hx | hx
      · rw [if_neg (by omega), List.append_nil] at e1
        rw [if_pos hx] at e2
        have E1 := Aside0.mk e1
        have E2 := Aside0.mk e2
        have Q1 := Aside0.mk q1
        have Q2 := Aside0.mk q2
        have HNE := Aside0.mk hne
        have HAP := Aside0.mk hap
        clear e1 e2 q1 q2 hne hap hlk
        have hd1 : decide (0 < x) = false := by simp; omega
        go_wp2_with (go_at_call 170; (with_reducible refine (put_any w.heap.size (w.heap.size + 1) (pilesM (l.take k) 0).length v2 (pcells (pilesM (l.take k) 0)) k (-x) _ Q2.out hB.size (by omega)).mono ?_); rintro e w1 ⟨v', rfl, q', hk', hb', hat⟩)
        exact ⟨⟨k + 1, by omega, by go_num, by rw [E1.out, E2.out]; exact TwoQ.second Q1.out Q2.out HNE.out HAP.out q' hk' hat, hB.trans hb'⟩, by simp [intOf]; omega⟩
      · rw [if_neg (by omega), List.append_nil] at e1 e2
        have E1 := Aside0.mk e1
        have E2 := Aside0.mk e2
        have Q1 := Aside0.mk q1
        have Q2 := Aside0.mk q2
        have HNE := Aside0.mk hne
        have HAP := Aside0.mk hap
        clear e1 e2 q1 q2 hne hap hlk
        have hd1 : decide (0 < x) = false := by simp; omega
        have hd2 : decide (x < 0) = false := by simp; omega
        have h1 : x ≤ 0 := by omega
        have h2 : 0 ≤ x := by omega
        clear hx
        go_wp2
        exact ⟨⟨k + 1, by omega, by go_num, by rw [E1.out, E2.out]; exact ⟨v1, v2, Q1.out, Q2.out, HNE.out, HAP.out⟩, hB⟩, by simp [intOf]; omega⟩
      · rw [if_pos hx] at e1
        rw [if_neg (by omega), List.append_nil] at e2
        have E1 := Aside0.mk e1
        have E2 := Aside0.mk e2
        have Q1 := Aside0.mk q1
        have Q2 := Aside0.mk q2
        have HNE := Aside0.mk hne
        have HAP := Aside0.mk hap
        clear e1 e2 q1 q2 hne hap hlk
        have hd2 : decide (x < 0) = false := by simp; omega
        go_wp2_with (go_at_call 170; (with_reducible refine (put_any w.heap.size w.heap.size (pilesH (l.take k) 0).length v1 (pcells (pilesH (l.take k) 0)) k x _ Q1.out hB.size (by omega)).mono ?_); rintro e w1 ⟨v', rfl, q', hk', hb', hat⟩)
        exact ⟨⟨k + 1, by omega, by go_num, by rw [E1.out, E2.out]; exact TwoQ.first Q1.out Q2.out HNE.out HAP.out q' hk' hat, hB.trans hb'⟩, by simp [intOf]; omega⟩
    · have hkl : k = l.length := by omega
      have htl : l.take k = l := List.take_of_length_le (by omega)
      rw [htl] at htq
      have HT := Aside0.mk htq
      have HB := Aside0.mk hB
      have hge : l.length ≤ k := by omega
      clear htq hkl htl hB hlt
      go_wp2
      go_ret2
      exact ⟨_, _, rfl, HT.out, HB.out⟩
end Go.Proofs.Ytffkojdmidhchaa.P
end
section
/- The queue's empty, front and drop; what is hauled, as a plain function; the queues as they are served. -/
namespace Go.Proofs.Ytffkojdmidhchaa.P
open Go.RowKit Go.Proofs.YtffkojdmidhchaaW.PrintWords Go.Proofs.YtffkojdmidhchaaW.PrintLast Go.Proofs.YtffkojdmidhchaaW.PrintMore
set_option linter.unusedVariables false
set_option linter.unusedSimpArgs false
set_option maxHeartbeats 4000000
set_option maxRecDepth 20000
attribute [local go_sem] frozen_alloc'

theorem empty_no (gq n c : Nat) (A : Option Addr) (w : World) (hq : w.heap[gq]? = some (.cells #[.slice A n c] 182 (0, 0))) (hn : 1 ≤ n) :
    Calls Try.prog 120 #[.pointer (some ⟨gq, 0, none⟩)] w fun e w' => e = .returned (.bool false) ∧ w = w' := by
  have hu182 := Try.underlying182
  have hc := blk_c hq 0 _ rfl
  have hd : ((n : Int) == 0) = false := beq_eq_false_iff_ne.2 (by omega)
  clear hq
  go_enter Try.func120, Try.ntmps120
  go_wp2
  go_ret
  exact ⟨rfl, rfl⟩
theorem empty_yes (gq c : Nat) (A : Option Addr) (w : World) (hq : w.heap[gq]? = some (.cells #[.slice A 0 c] 182 (0, 0))) :
    Calls Try.prog 120 #[.pointer (some ⟨gq, 0, none⟩)] w fun e w' => e = .returned (.bool true) ∧ w = w' := by
  have hu182 := Try.underlying182
  have hc := blk_c hq 0 _ rfl
  clear hq
  go_enter Try.func120, Try.ntmps120
  go_wp2
  go_ret
  exact ⟨rfl, rfl⟩
theorem front_any (gq g o n c : Nat) (w : World) (hq : w.heap[gq]? = some (.cells #[.slice (some ⟨g, o, none⟩) n c] 182 (0, 0))) (hn : 1 ≤ n) :
    Calls Try.prog 121 #[.pointer (some ⟨gq, 0, none⟩)] w fun e w' => e = .returned (.pointer (some ⟨g, o, none⟩)) ∧ w = w' := by
  have hu182 := Try.underlying182
  have hu180 := Try.underlying180
  have hc := blk_c hq 0 _ rfl
  have hn' : 0 < n := by omega
  clear hq
  go_enter Try.func121, Try.ntmps121
  go_wp2
  go_ret
  exact ⟨rfl, rfl⟩
/-- Where what is left lies when the first pile is dropped. -/
def dropAd (a o c : Nat) : Addr := if c = 1 then ⟨a, o, none⟩ else ⟨a, o + 2, none⟩
theorem drop_any (gq g o n c : Nat) (w : World) (hq : w.heap[gq]? = some (.cells #[.slice (some ⟨g, o, none⟩) n c] 182 (0, 0))) (hn : 1 ≤ n) (hnc : n ≤ c) :
    Calls Try.prog 122 #[.pointer (some ⟨gq, 0, none⟩)] w fun e w' => e = .returned (.tuple #[]) ∧ w.setCell ⟨gq, 0, none⟩ (.slice (some (dropAd g o c)) (n - 1) (c - 1)) = w' := by
  have hu182 := Try.underlying182
  have hu180 := Try.underlying180
  have hc := blk_c hq 0 _ rfl
  have hf := blk_f hq 0
  have hn' : 0 < n := by omega
  clear hq
  by_cases h1 : c = 1
  · subst h1
    go_enter Try.func122, Try.ntmps122
    go_wp2
    go_end0
    exact ⟨rfl, by rw [show n - 1 = 0 by omega]; rfl⟩
  · go_enter Try.func122, Try.ntmps122
    go_wp2
    go_end0
    exact ⟨rfl, by unfold dropAd; rw [if_neg h1]⟩

/-- What is hauled: two lists of piles, station and load, served from their fronts. -/
def haulGo : Nat → List (Int × Int) → List (Int × Int) → List S74
  | n + 1, (a, x) :: h, (b, y) :: m =>
    if x < y then ⟨a, b, x⟩ :: haulGo n h ((b, y - x) :: m)
    else if y < x then ⟨a, b, y⟩ :: haulGo n ((a, x - y) :: h) m
    else ⟨a, b, x⟩ :: haulGo n h m
  | _, _, _ => []
def hcells (l : List S74) : List Value := l.flatMap fun p => [.int .i64 p.f0, .int .i64 p.f1, .int .i64 p.f2]
theorem hcells_snoc (l : List S74) (p : S74) : hcells (l ++ [p]) = hcells l ++ [.int .i64 p.f0, .int .i64 p.f1, .int .i64 p.f2] := by simp [hcells]
theorem haulGo_nil1 (n : Nat) (m : List (Int × Int)) : haulGo n [] m = [] := by cases n <;> rfl
theorem haulGo_nil2 (n : Nat) (h : List (Int × Int)) : haulGo n h [] = [] := by cases n <;> cases h <;> rfl
theorem haulGo_more (k n : Nat) (h m : List (Int × Int)) (hk : h.length + m.length ≤ k) (hn : k ≤ n) : haulGo n h m = haulGo k h m := by
  induction k generalizing n h m with
  | zero =>
    have : h = [] := List.eq_nil_of_length_eq_zero (by omega)
    subst this
    rw [haulGo_nil1, haulGo_nil1]
  | succ k ih =>
    obtain ⟨n, rfl⟩ : ∃ n', n = n' + 1 := ⟨n - 1, by omega⟩
    cases h with
    | nil => rw [haulGo_nil1, haulGo_nil1]
    | cons p h =>
      cases m with
      | nil => rw [haulGo_nil2, haulGo_nil2]
      | cons q m =>
        obtain ⟨a, x⟩ := p
        obtain ⟨b, y⟩ := q
        simp only [List.length_cons] at hk
        simp only [haulGo]
        rw [ih n h ((b, y - x) :: m) (by simp; omega) (by omega), ih n ((a, x - y) :: h) m (by simp; omega) (by omega), ih n h m (by omega) (by omega)]
/-- .. with as many rounds as there are piles. -/
def haul (h m : List (Int × Int)) : List S74 := haulGo (h.length + m.length) h m
theorem haul_nil1 (m : List (Int × Int)) : haul [] m = [] := haulGo_nil1 _ _
theorem haul_nil2 (h : List (Int × Int)) : haul h [] = [] := haulGo_nil2 _ _
theorem haul_cons (a x b y : Int) (h m : List (Int × Int)) : haul ((a, x) :: h) ((b, y) :: m) =
    if x < y then ⟨a, b, x⟩ :: haul h ((b, y - x) :: m) else if y < x then ⟨a, b, y⟩ :: haul ((a, x - y) :: h) m else ⟨a, b, x⟩ :: haul h m := by
  simp only [haul, List.length_cons]
  rw [show h.length + 1 + (m.length + 1) = (h.length + m.length + 1) + 1 by omega]
  simp only [haulGo]
  rw [haulGo_more (h.length + (m.length + 1)) (h.length + m.length + 1) h _ (by simp) (by omega), haulGo_more (h.length + 1 + m.length) (h.length + m.length + 1) _ m (by simp) (by omega), haulGo_more (h.length + m.length) (h.length + m.length + 1) h m (by omega) (by omega)]

/-- A queue that is served: its block, and the array in which what is left lies. -/
def Half (base : Nat) (W : World) (g : Nat) (A : Option Addr) (c : Nat) (l : List (Int × Int)) : Prop :=
  W.heap[g]? = some (.cells #[.slice A l.length c] 182 (0, 0)) ∧ base ≤ g ∧ l.length ≤ c ∧
    (l ≠ [] → ∃ a o cur, A = some ⟨a, o, none⟩ ∧ base ≤ a ∧ W.heap[a]? = some (.cells cur 141 (0, 0)) ∧ ∀ j u, (pcells l)[j]? = some u → cur[o + j]? = some u)
theorem Half.kept {base : Nat} {W W1 : World} {g c : Nat} {A : Option Addr} {l : List (Int × Int)} {S : Nat → Prop} (h : Half base W g A c l) (hk : Kept W W1 S) (hg : ¬ S g) (ha : ∀ a o, l ≠ [] → A = some ⟨a, o, none⟩ → ¬ S a) : Half base W1 g A c l := by
  refine ⟨(hk.2 g (blk_lt h.1) hg).trans h.1, h.2.1, h.2.2.1, fun hl => ?_⟩
  obtain ⟨a, o, cur, e, hb, hh, hc⟩ := h.2.2.2 hl
  exact ⟨a, o, cur, e, hb, (hk.2 a (blk_lt hh) (ha a o hl e)).trans hh, hc⟩
theorem pcells_cons (p : Int × Int) (r : List (Int × Int)) : pcells (p :: r) = .int .i64 p.1 :: .int .i64 p.2 :: pcells r := by simp [pcells]
/-- The first pile's load is written anew. -/
theorem Half.store {base : Nat} {W : World} {g c a o : Nat} {s x x' : Int} {r : List (Int × Int)} (h : Half base W g (some ⟨a, o, none⟩) c ((s, x) :: r)) :
    Half base (W.setCell ⟨a, o + 1, none⟩ (.int .i64 x')) g (some ⟨a, o, none⟩) c ((s, x') :: r) := by
  obtain ⟨hq, hb, hl, hs⟩ := h
  obtain ⟨a', o', cur, e, hba, hh, hc⟩ := hs (by simp)
  injection e with e
  injection e with e1 e2
  subst e1 e2
  have hga : g ≠ a := blk_ne hq hh (by decide)
  refine ⟨(Below.heap_setCell W ⟨a, o + 1, none⟩ _ g (fun e => hga e)).trans hq, hb, hl, fun _ => ⟨a, o, cur.setIfInBounds (o + 1) (.int .i64 x'), rfl, hba, blk_put hh (o + 1) _ rfl, fun j u hj => ?_⟩⟩
  rw [pcells_cons] at hj hc
  rw [Array.getElem?_setIfInBounds]
  match j, hj with
  | 0, hj => rw [if_neg (by omega)]; exact hc 0 u hj
  | 1, hj =>
    have h1 := hc 1 _ rfl
    have hlt : o + 1 < cur.size := (Array.getElem?_eq_some_iff.1 h1).1
    rw [if_pos rfl, if_pos hlt]
    simpa using hj
  | j + 2, hj => rw [if_neg (by omega)]; exact hc (j + 2) u hj
/-- The first pile is dropped. -/
theorem Half.drop {base : Nat} {W : World} {g c a o : Nat} {p : Int × Int} {r : List (Int × Int)} (h : Half base W g (some ⟨a, o, none⟩) c (p :: r)) :
    Half base (W.setCell ⟨g, 0, none⟩ (.slice (some (dropAd a o c)) ((p :: r).length - 1) (c - 1))) g (some (dropAd a o c)) (c - 1) r := by
  obtain ⟨hq, hb, hl, hs⟩ := h
  obtain ⟨a', o', cur, e, hba, hh, hc⟩ := hs (by simp)
  injection e with e
  injection e with e1 e2
  subst e1 e2
  have hga : g ≠ a := blk_ne hq hh (by decide)
  simp only [List.length_cons] at hl
  refine ⟨blk_put hq 0 _ (by simp), hb, by omega, fun hr => ⟨a, o + 2, cur, ?_, hba, (Below.heap_setCell W ⟨g, 0, none⟩ _ a (fun e => hga e.symm)).trans hh, fun j u hj => ?_⟩⟩
  · have : 0 < r.length := List.length_pos_iff.2 hr
    unfold dropAd
    rw [if_neg (by omega)]
  · rw [show o + 2 + j = o + (j + 2) by omega]
    refine hc (j + 2) u ?_
    rw [pcells_cons]
    exact hj
/-- Two queues that are served. -/
def TwoC (base : Nat) (W : World) (g1 g2 : Nat) (h m : List (Int × Int)) : Prop :=
  ∃ A1 c1 A2 c2, Half base W g1 A1 c1 h ∧ Half base W g2 A2 c2 m ∧ g1 ≠ g2 ∧ (∀ a o a' o', h ≠ [] → m ≠ [] → A1 = some ⟨a, o, none⟩ → A2 = some ⟨a', o', none⟩ → a ≠ a')
theorem q_served {base : Nat} {W : World} {g : Nat} {v : Value} {l : List (Int × Int)} (q : QBuild base W g v l.length (pcells l)) : ∃ A c, v = .slice A l.length c ∧ Half base W g A c l ∧ (∀ a o, l ≠ [] → A = some ⟨a, o, none⟩ → v.ownBlock = some a) := by
  obtain ⟨hq, hown, hb⟩ := q
  rcases hown.2 with ⟨rfl, h0⟩ | ⟨a, cap, cur, rfl, hba, hh, h1, h2, h3⟩
  · have : l = [] := List.eq_nil_of_length_eq_zero h0
    subst this
    exact ⟨none, 0, rfl, ⟨hq, hb, Nat.le_refl _, fun h => absurd rfl h⟩, fun _ _ h => absurd rfl h⟩
  · refine ⟨some ⟨a, 0, none⟩, cap, rfl, ⟨hq, hb, h1, fun _ => ⟨a, 0, cur, rfl, hba, hh, fun j u hj => ?_⟩⟩, fun a' o' _ e => by injection e with e; injection e with e; rw [← e]; rfl⟩
    rw [← h3.2] at hj
    have hj' := hj
    rw [List.getElem?_take] at hj'
    split at hj'
    · simpa using hj'
    · exact absurd hj' (by simp)
theorem TwoQ.served {base : Nat} {W : World} {g1 g2 : Nat} {h m : List (Int × Int)} (t : TwoQ base W g1 g2 h m) : TwoC base W g1 g2 h m := by
  obtain ⟨v1, v2, q1, q2, hne, hap⟩ := t
  obtain ⟨A1, c1, rfl, l1, s1⟩ := q_served q1
  obtain ⟨A2, c2, rfl, l2, s2⟩ := q_served q2
  refine ⟨A1, c1, A2, c2, l1, l2, hne, ?_⟩
  intro a o a' o' hh hm e1 e2 he
  have k1 := s1 a o hh e1
  have k2 := s2 a' o' hm e2
  subst he
  exact hap a k1 k2
theorem Half.lower {base base' : Nat} {W : World} {g c : Nat} {A : Option Addr} {l : List (Int × Int)} (h : Half base W g A c l) (hb : base' ≤ base) : Half base' W g A c l := by
  refine ⟨h.1, by have := h.2.1; omega, h.2.2.1, fun hl => ?_⟩
  obtain ⟨a, o, cur, e, hba, r⟩ := h.2.2.2 hl
  exact ⟨a, o, cur, e, by omega, r⟩
theorem TwoC.lower {base base' : Nat} {W : World} {g1 g2 : Nat} {h m : List (Int × Int)} (t : TwoC base W g1 g2 h m) (hb : base' ≤ base) : TwoC base' W g1 g2 h m := by
  obtain ⟨A1, c1, A2, c2, l1, l2, r⟩ := t
  exact ⟨A1, c1, A2, c2, l1.lower hb, l2.lower hb, r⟩

theorem Half.cells {base : Nat} {W : World} {g c a o : Nat} {s x : Int} {r : List (Int × Int)} (h : Half base W g (some ⟨a, o, none⟩) c ((s, x) :: r)) :
    W.cell? ⟨a, o, none⟩ = some (.int .i64 s) ∧ W.cell? ⟨a, o + 1, none⟩ = some (.int .i64 x) ∧ W.frozen? ⟨a, o + 1, none⟩ = false ∧ base ≤ a ∧ a < W.heap.size ∧ ∃ cur, W.heap[a]? = some (.cells cur 141 (0, 0)) := by
  obtain ⟨hq, hb, hl, hs⟩ := h
  obtain ⟨a', o', cur, e, hba, hh, hc⟩ := hs (by simp)
  injection e with e
  injection e with e1 e2
  subst e1 e2
  rw [pcells_cons] at hc
  exact ⟨(blk_cell hh _).trans (hc 0 _ rfl), (blk_cell hh _).trans (hc 1 _ rfl), blk_f hh _, hba, blk_lt hh, cur, hh⟩
theorem Half.addr {base : Nat} {W : World} {g c : Nat} {A : Option Addr} {p : Int × Int} {r : List (Int × Int)} (h : Half base W g A c (p :: r)) : ∃ a o, A = some ⟨a, o, none⟩ := by
  obtain ⟨a, o, cur, e, _⟩ := h.2.2.2 (by simp)
  exact ⟨a, o, e⟩

/-- What a balanced list of stations says of itself. -/
def hbal (l : List Int) : Prop := 1 ≤ l.length ∧ l.length ≤ 12 ∧ (∀ x ∈ l, -1000 ≤ x ∧ x ≤ 1000) ∧ l.sum = 0

theorem kept_set (W : World) (p : Addr) (u : Value) : Kept W (W.setCell p u) (fun k => k = p.block) := (Kept.refl W (fun k => k = p.block)).setCell (.inl rfl) u
theorem own_set {W : World} {base : Nat} {e : TypeId} {size n : Nat} {v : Value} {xs : List Value} {p : Addr} {u : Value} (h : W.ownsRow base e size v n xs) (hne : v.ownBlock ≠ some p.block) : (W.setCell p u).ownsRow base e size v n xs :=
  own_keep h (kept_set W p u) (fun g hg he => hne (by rw [hg, he]))
theorem Half.set {base : Nat} {W : World} {g c a o : Nat} {l : List (Int × Int)} {p : Addr} {u : Value} (h : Half base W g (some ⟨a, o, none⟩) c l) (hg : g ≠ p.block) (ha : a ≠ p.block) : Half base (W.setCell p u) g (some ⟨a, o, none⟩) c l :=
  h.kept (kept_set W p u) hg (fun a' o' _ e he => by injection e with e; injection e with e; subst e; exact ha he)
theorem dropAd_block (a o c : Nat) : ∃ o', dropAd a o c = ⟨a, o', none⟩ := by
  unfold dropAd
  split
  · exact ⟨_, rfl⟩
  · exact ⟨_, rfl⟩
/-- Both first piles' loads are written anew. -/
theorem stores {base : Nat} {W : World} {g1 g2 c1 c2 a1 o1 a2 o2 : Nat} {s1 x s2 y x' y' : Int} {h m : List (Int × Int)}
    (q1 : Half base W g1 (some ⟨a1, o1, none⟩) c1 ((s1, x) :: h)) (q2 : Half base W g2 (some ⟨a2, o2, none⟩) c2 ((s2, y) :: m)) (n12 : g1 ≠ a2) (n21 : g2 ≠ a1) (hne : a1 ≠ a2) :
    Half base ((W.setCell ⟨a1, o1 + 1, none⟩ (.int .i64 x')).setCell ⟨a2, o2 + 1, none⟩ (.int .i64 y')) g1 (some ⟨a1, o1, none⟩) c1 ((s1, x') :: h) ∧
    Half base ((W.setCell ⟨a1, o1 + 1, none⟩ (.int .i64 x')).setCell ⟨a2, o2 + 1, none⟩ (.int .i64 y')) g2 (some ⟨a2, o2, none⟩) c2 ((s2, y') :: m) :=
  ⟨(q1.store (x' := x')).set n12 hne, (q2.set n21 (Ne.symm hne)).store⟩
theorem sep_of {a1 a2 o1 o2 : Nat} {A1 A2 : Option Addr} {h m : List (Int × Int)} (hne : a1 ≠ a2) (e1 : A1 = some ⟨a1, o1, none⟩) (e2 : A2 = some ⟨a2, o2, none⟩) : ∀ a o a' o', h ≠ [] → m ≠ [] → A1 = some ⟨a, o, none⟩ → A2 = some ⟨a', o', none⟩ → a ≠ a' := by
  intro a o a' o' _ _ h1 h2
  rw [e1] at h1
  rw [e2] at h2
  injection h1 with h1
  injection h1 with h1
  injection h2 with h2
  injection h2 with h2
  subst h1 h2
  exact hne
def HRel (w : World) (F : List S74) (v : Value) (wr : World) (g1 g2 : Nat) (h m : List (Int × Int)) : Prop :=
  ∃ out, out ++ haul h m = F ∧ (∀ p ∈ h, 1 ≤ p.2 ∧ p.2 ≤ 1000) ∧ (∀ p ∈ m, 1 ≤ p.2 ∧ p.2 ≤ 1000) ∧ TwoC w.heap.size wr g1 g2 h m ∧ wr.ownsRow w.heap.size 74 3 v out.length (hcells out) ∧ out.length + h.length + m.length ≤ 24 ∧ Below w.heap.size w wr
/-- What the three ways through a round have in common. -/
structure Rnd (w W : World) (g1 g2 c1 c2 a1 o1 a2 o2 : Nat) (s1 x s2 y n : Int) (h m : List (Int × Int)) (out F : List S74) (v : Value) : Prop where
  q1 : Half w.heap.size W g1 (some ⟨a1, o1, none⟩) c1 ((s1, x) :: h)
  q2 : Half w.heap.size W g2 (some ⟨a2, o2, none⟩) c2 ((s2, y) :: m)
  own : W.ownsRow w.heap.size 74 3 v (out.length + 1) (hcells out ++ [.int .i64 s1, .int .i64 s2, .int .i64 n])
  n12 : g1 ≠ a2
  n21 : g2 ≠ a1
  hne : a1 ≠ a2
  hg : g1 ≠ g2
  hB : Below w.heap.size w W
  hF : out ++ haul ((s1, x) :: h) ((s2, y) :: m) = F
  ph : ∀ p ∈ (s1, x) :: h, 1 ≤ p.2 ∧ p.2 ≤ 1000
  pm : ∀ p ∈ (s2, y) :: m, 1 ≤ p.2 ∧ p.2 ≤ 1000
  len : out.length + ((s1, x) :: h).length + ((s2, y) :: m).length ≤ 24
namespace Rnd
variable {w W : World} {g1 g2 c1 c2 a1 o1 a2 o2 : Nat} {s1 x s2 y n : Int} {h m : List (Int × Int)} {out F : List S74} {v : Value}
theorem blocks (r : Rnd w W g1 g2 c1 c2 a1 o1 a2 o2 s1 x s2 y n h m out F v) : v.ownBlock ≠ some g1 ∧ v.ownBlock ≠ some g2 ∧ v.ownBlock ≠ some a1 ∧ v.ownBlock ≠ some a2 ∧ w.heap.size ≤ g1 ∧ w.heap.size ≤ g2 ∧ w.heap.size ≤ a1 ∧ w.heap.size ≤ a2 ∧ g1 ≠ a1 ∧ g2 ≠ a2 := by
  obtain ⟨_, _, _, hb1, _, cur1, h1⟩ := r.q1.cells
  obtain ⟨_, _, _, hb2, _, cur2, h2⟩ := r.q2.cells
  exact ⟨own_ne_blk r.own r.q1.1 (by decide), own_ne_blk r.own r.q2.1 (by decide), own_ne_blk r.own h1 (by decide), own_ne_blk r.own h2 (by decide), r.q1.2.1, r.q2.2.1, hb1, hb2, blk_ne r.q1.1 h1 (by decide), blk_ne r.q2.1 h2 (by decide)⟩
theorem less (r : Rnd w W g1 g2 c1 c2 a1 o1 a2 o2 s1 x s2 y n h m out F v) (hxy : x < y) (hn : n = x) {x' : Int} :
    HRel w F v (((W.setCell ⟨a1, o1 + 1, none⟩ (.int .i64 x')).setCell ⟨a2, o2 + 1, none⟩ (.int .i64 (y - x))).setCell ⟨g1, 0, none⟩ (.slice (some (dropAd a1 o1 c1)) (((s1, x) :: h).length - 1) (c1 - 1))) g1 g2 h ((s2, y - x) :: m) := by
  obtain ⟨b1, b2, b3, b4, z1, z2, z3, z4, n11, n22⟩ := r.blocks
  obtain ⟨p1, p2⟩ := stores (x' := x') (y' := y - x) r.q1 r.q2 r.n12 r.n21 r.hne
  obtain ⟨o', ho'⟩ := dropAd_block a1 o1 c1
  have hx := r.ph _ (List.mem_cons_self ..)
  have hy := r.pm _ (List.mem_cons_self ..)
  have hl := r.len
  simp only [List.length_cons] at hl
  refine ⟨out ++ [⟨s1, s2, x⟩], ?_, fun p hp => r.ph p (List.mem_cons_of_mem _ hp), ?_, ⟨_, _, _, _, p1.drop, p2.set r.hg.symm (Ne.symm r.n12), r.hg, sep_of r.hne (congrArg some ho') rfl⟩, ?_, by simp; omega, ((r.hB.setCell z3 _).setCell z4 _).setCell z1 _⟩
  · rw [← r.hF, haul_cons, if_pos hxy, List.append_assoc]; rfl
  · intro p hp
    rcases List.mem_cons.1 hp with rfl | hp
    · simp only at hx hy ⊢; omega
    · exact r.pm p (List.mem_cons_of_mem _ hp)
  · rw [hcells_snoc, List.length_append, ← hn]
    exact own_set (own_set (own_set r.own b3) b4) b1
theorem more (r : Rnd w W g1 g2 c1 c2 a1 o1 a2 o2 s1 x s2 y n h m out F v) (hxy : y < x) (hn : n = y) {y' : Int} :
    HRel w F v (((W.setCell ⟨a1, o1 + 1, none⟩ (.int .i64 (x - y))).setCell ⟨a2, o2 + 1, none⟩ (.int .i64 y')).setCell ⟨g2, 0, none⟩ (.slice (some (dropAd a2 o2 c2)) (((s2, y) :: m).length - 1) (c2 - 1))) g1 g2 ((s1, x - y) :: h) m := by
  obtain ⟨b1, b2, b3, b4, z1, z2, z3, z4, n11, n22⟩ := r.blocks
  obtain ⟨p1, p2⟩ := stores (x' := x - y) (y' := y') r.q1 r.q2 r.n12 r.n21 r.hne
  obtain ⟨o', ho'⟩ := dropAd_block a2 o2 c2
  have hx := r.ph _ (List.mem_cons_self ..)
  have hy := r.pm _ (List.mem_cons_self ..)
  have hl := r.len
  simp only [List.length_cons] at hl
  refine ⟨out ++ [⟨s1, s2, y⟩], ?_, ?_, fun p hp => r.pm p (List.mem_cons_of_mem _ hp), ⟨_, _, _, _, p1.set r.hg (Ne.symm r.n21), p2.drop, r.hg, sep_of r.hne rfl (congrArg some ho')⟩, ?_, by simp; omega, ((r.hB.setCell z3 _).setCell z4 _).setCell z2 _⟩
  · rw [← r.hF, haul_cons, if_neg (by omega), if_pos hxy, List.append_assoc]; rfl
  · intro p hp
    rcases List.mem_cons.1 hp with rfl | hp
    · simp only at hx hy ⊢; omega
    · exact r.ph p (List.mem_cons_of_mem _ hp)
  · rw [hcells_snoc, List.length_append, ← hn]
    exact own_set (own_set (own_set r.own b3) b4) b2
theorem same (r : Rnd w W g1 g2 c1 c2 a1 o1 a2 o2 s1 x s2 y n h m out F v) (hxy : x = y) (hn : n = x) {x' y' : Int} :
    HRel w F v ((((W.setCell ⟨a1, o1 + 1, none⟩ (.int .i64 x')).setCell ⟨a2, o2 + 1, none⟩ (.int .i64 y')).setCell ⟨g1, 0, none⟩ (.slice (some (dropAd a1 o1 c1)) (((s1, x) :: h).length - 1) (c1 - 1))).setCell ⟨g2, 0, none⟩ (.slice (some (dropAd a2 o2 c2)) (((s2, y) :: m).length - 1) (c2 - 1))) g1 g2 h m := by
  obtain ⟨b1, b2, b3, b4, z1, z2, z3, z4, n11, n22⟩ := r.blocks
  obtain ⟨p1, p2⟩ := stores (x' := x') (y' := y') r.q1 r.q2 r.n12 r.n21 r.hne
  obtain ⟨o1', ho1⟩ := dropAd_block a1 o1 c1
  obtain ⟨o2', ho2⟩ := dropAd_block a2 o2 c2
  have hl := r.len
  simp only [List.length_cons] at hl
  have d1 := p1.drop
  rw [ho1] at d1 ⊢
  refine ⟨out ++ [⟨s1, s2, x⟩], ?_, fun p hp => r.ph p (List.mem_cons_of_mem _ hp), fun p hp => r.pm p (List.mem_cons_of_mem _ hp), ⟨_, _, _, _, d1.set r.hg (Ne.symm r.n21), (p2.set r.hg.symm (Ne.symm r.n12)).drop, r.hg, sep_of r.hne rfl (congrArg some ho2)⟩, ?_, by simp; omega, (((r.hB.setCell z3 _).setCell z4 _).setCell z1 _).setCell z2 _⟩
  · rw [← r.hF, haul_cons, if_neg (by omega), if_neg (by omega), List.append_assoc]; rfl
  · rw [hcells_snoc, List.length_append, ← hn]
    exact own_set (own_set (own_set (own_set r.own b3) b4) b1) b2
end Rnd
end Go.Proofs.Ytffkojdmidhchaa.P
end
section
-- written by wip/tools/mkprint.py (a program of this session over the kit's print). Lean checks it.
namespace Go.Proofs.Ytffkojdmidhchaa.P
open Go.RowKit Go.Proofs.YtffkojdmidhchaaW.PrintWords Go.Proofs.YtffkojdmidhchaaW.PrintLast Go.Proofs.YtffkojdmidhchaaW.PrintMore
attribute [local go_sem] max2_int min2_int max_two min_two max_three min_three max_four min_four   -- for this text's walks alone
set_option linter.unusedVariables false
set_option linter.unusedSimpArgs false

/-! ### impl_within: function 133 -/
def impl_within.f (a0 : Int) (a1 : Int) : Option (Bool) := if (wrap64 (-a1)) ≤ a0 then (some (decide (a0 ≤ a1))) else (some false)
set_option maxHeartbeats 8000000 in
set_option maxRecDepth 100000 in
theorem impl_within.calls (a0 : Int) (a1 : Int) (r : Bool) (w : World) (h : impl_within.f a0 a1 = some r) :
    Calls Try.prog 133 #[.int .i64 a0, .int .i64 a1] w fun e w' => e = .returned (.bool r) ∧ Drawn0 w w' := by
  have H : (if (wrap64 (-a1)) ≤ a0 then (some (decide (a0 ≤ a1))) else (some false)) = some r := h
  clear h
  by_cases c3 : (wrap64 (-a1)) ≤ a0
  · rw [if_pos c3] at H
    have c3b0 : decide ((wrap64 (-a1)) ≤ a0) = true := decide_eq_true c3
    clear c3
    obtain rfl := Option.some.inj H
    go_enter Try.func133, Try.ntmps133
    go_wp2
    go_ret
    exact ⟨by first | rfl | (simp; done) | (simp [*]; done), by repeat (first | exact Drawn0.refl _ | apply Drawn0.step)⟩
  · rw [if_neg c3] at H
    have c3b0 : decide ((wrap64 (-a1)) ≤ a0) = false := decide_eq_false c3
    clear c3
    obtain rfl := Option.some.inj H
    go_enter Try.func133, Try.ntmps133
    go_wp2
    go_ret
    exact ⟨by first | rfl | (simp; done) | (simp [*]; done), by repeat (first | exact Drawn0.refl _ | apply Drawn0.step)⟩

end Go.Proofs.Ytffkojdmidhchaa.P
end
section
-- written by wip/tools/mkprint.py (a program of this session over the kit's print). Lean checks it.
namespace Go.Proofs.Ytffkojdmidhchaa.P
open Go.RowKit Go.Proofs.YtffkojdmidhchaaW.PrintWords Go.Proofs.YtffkojdmidhchaaW.PrintLast Go.Proofs.YtffkojdmidhchaaW.PrintMore
attribute [local go_sem] max2_int min2_int max_two min_two max_three min_three max_four min_four   -- for this text's walks alone
set_option linter.unusedVariables false
set_option linter.unusedSimpArgs false

/-! ### impl_stationsValid: function 171 -/
mutual
def impl_stationsValid.j0 : Nat → List Int → Bool → Option (Bool)
  | 0, _, _ => none
  | k + 1, x0, x12 => if x12 = true then (some false) else (impl_stationsValid.l0 k x0 (x0.length : Int) 0)
def impl_stationsValid.l0 : Nat → List Int → Int → Int → Option (Bool)
  | 0, _, _, _ => none
  | k + 1, x13, x14, x15 => if x15 < x14 then (if 0 ≤ x15 then (if x15 < (x13.length : Int) then ((impl_within.f (rd x13 x15) 1000).bind fun t405 => (if t405 = true then (impl_stationsValid.l0 k x13 x14 (wrap64 (x15 + 1))) else (some false))) else (none)) else (none)) else (some true)
end
def impl_stationsValid.f (k : Nat) (l0 : List Int) : Option (Bool) := if (l0.length : Int) < 1 then (impl_stationsValid.j0 k l0 true) else (impl_stationsValid.j0 k l0 (decide ((l0.length : Int) > 12)))
theorem impl_stationsValid.mono_l : ∀ k, (∀ y0 y1, LeO (impl_stationsValid.j0 k y0 y1) (impl_stationsValid.j0 (k + 1) y0 y1)) ∧ (∀ y0 y1 y2, LeO (impl_stationsValid.l0 k y0 y1 y2) (impl_stationsValid.l0 (k + 1) y0 y1 y2))
  | 0 => ⟨fun _ _ r h => by simp [impl_stationsValid.j0] at h, fun _ _ _ r h => by simp [impl_stationsValid.l0] at h⟩
  | k + 1 => by
    obtain ⟨ih0, ih1⟩ := impl_stationsValid.mono_l k
    refine ⟨?_, ?_⟩
    · intro y0 y1
      unfold impl_stationsValid.j0
      repeat' first
      | (with_reducible exact ih0 _ _)
      | (with_reducible exact ih1 _ _ _)
      | (with_reducible exact LeO.refl _)
      | (with_reducible exact LeO.none _)
      | (with_reducible refine LeO.ite ?_ ?_)
      | (with_reducible refine LeO.bind ?_ (fun _ => ?_))
      | exact ih0 _ _
      | exact ih1 _ _ _
      | exact LeO.none _
      | refine LeO.ite ?_ ?_
      | refine LeO.bind ?_ (fun _ => ?_)
    · intro y0 y1 y2
      unfold impl_stationsValid.l0
      repeat' first
      | (with_reducible exact ih0 _ _)
      | (with_reducible exact ih1 _ _ _)
      | (with_reducible exact LeO.refl _)
      | (with_reducible exact LeO.none _)
      | (with_reducible refine LeO.ite ?_ ?_)
      | (with_reducible refine LeO.bind ?_ (fun _ => ?_))
      | exact ih0 _ _
      | exact ih1 _ _ _
      | exact LeO.none _
      | refine LeO.ite ?_ ?_
      | refine LeO.bind ?_ (fun _ => ?_)
theorem impl_stationsValid.mono : ∀ a0 k, LeO (impl_stationsValid.f k a0) (impl_stationsValid.f (k + 1) a0) := by
  intro a0 k
  obtain ⟨ih0, ih1⟩ := impl_stationsValid.mono_l k
  unfold impl_stationsValid.f
  repeat' first
      | (with_reducible exact ih0 _ _)
      | (with_reducible exact ih1 _ _ _)
      | (with_reducible exact LeO.refl _)
      | (with_reducible exact LeO.none _)
      | (with_reducible refine LeO.ite ?_ ?_)
      | (with_reducible refine LeO.bind ?_ (fun _ => ?_))
      | exact ih0 _ _
      | exact ih1 _ _ _
      | exact LeO.none _
      | refine LeO.ite ?_ ?_
      | refine LeO.bind ?_ (fun _ => ?_)
set_option maxHeartbeats 8000000 in
set_option maxRecDepth 100000 in
theorem impl_stationsValid.calls (k : Nat) (A0 : Option Addr) (c0 : Nat) (l0 : List Int) (r : Bool) (w : World) (hr0 : Kd.C (Kd.int .i64) w A0 l0.length l0) (hc0 : l0.length ≤ c0) (h : impl_stationsValid.f k l0 = some r) :
    Calls Try.prog 171 #[.slice A0 l0.length c0] w fun e w' => e = .returned (.bool r) ∧ Drawn0 w w' := by
  have HR0 := Aside0.mk hr0
  have HC0 := Aside0.mk hc0
  clear hr0 hc0
  have H : (if (l0.length : Int) < 1 then (impl_stationsValid.j0 k l0 true) else (impl_stationsValid.j0 k l0 (decide ((l0.length : Int) > 12)))) = some r := h
  clear h
  have HC2 := Aside0.mk H
  clear H
  go_enter Try.func171, Try.ntmps171
  go_upto_region 1 with (fail)
  go_cut [12] (fun v12 wc => ∃ (kq : Nat) (x12_1 : Bool), v12 = .bool x12_1 ∧ Aside0 (impl_stationsValid.j0 kq l0 x12_1 = some r) ∧ Aside0 (kq ≤ k) ∧ Drawn0 w wc)
  case first =>
    have H := HC2.out
    clear HC2
    by_cases c3 : (l0.length : Int) < 1
    · rw [if_pos c3] at H
      have c3b0 : decide ((l0.length : Int) < 1) = true := decide_eq_true c3
      have c3b1 : decide (l0.length < 1) = true := decide_eq_true (by omega)
      clear c3
      (first | rw [c3b0] | (simp only [i64_w, i32_w]; rw [c3b0]) | skip)
      have H' := Aside0.mk H
      clear H
      go_wp2
      go_meet
      case rel => exact ⟨_, (true), (by first | rfl | (simp; done) | (simp [*]; done)), H', ⟨by first | omega | exact Nat.le_refl _⟩, by repeat (first | exact Drawn0.refl _ | apply Drawn0.step)⟩
    · rw [if_neg c3] at H
      have c3b0 : decide ((l0.length : Int) < 1) = false := decide_eq_false c3
      have c3b1 : decide (l0.length < 1) = false := decide_eq_false (by omega)
      clear c3
      (first | rw [c3b0] | (simp only [i64_w, i32_w]; rw [c3b0]) | skip)
      have H' := Aside0.mk H
      clear H
      go_wp2
      go_meet
      case rel => exact ⟨_, (decide ((l0.length : Int) > 12)), (by first | rfl | (simp; done) | (simp [*]; done)), H', ⟨by first | omega | exact Nat.le_refl _⟩, by repeat (first | exact Drawn0.refl _ | apply Drawn0.step)⟩
  case rest =>
    clear HC2
    try clear c1
    try clear p2
    try clear c3
    try clear c3b0
    try clear c3b1
    obtain ⟨kq, x12_1, rfl, HA, HJ1, ⟨mc1, rfl⟩⟩ := hcut
    cases kq with
    | zero => exact absurd HA.out (by simp [impl_stationsValid.j0])
    | succ kj1 =>
      have H := HA.out
      clear HA
      simp only [impl_stationsValid.j0] at H
      by_cases c4 : x12_1 = true
      · subst c4
        have H1 : (some false) = some r := by rw [if_pos rfl] at H; exact H
        clear H
        have H := H1
        clear H1
        obtain rfl := Option.some.inj H
        go_wp2
        go_ret
        exact ⟨by first | rfl | (simp; done) | (simp [*]; done), by repeat (first | exact Drawn0.refl _ | apply Drawn0.step)⟩
      · replace c4 := Bool.eq_false_iff.mpr c4
        subst c4
        have H1 : (impl_stationsValid.l0 kj1 l0 (l0.length : Int) 0) = some r := by rw [if_neg (show ¬ (false = true) by decide)] at H; exact H
        clear H
        have H := H1
        clear H1
        have H' := Aside0.mk H
        clear H
        go_wp2
        go_loopg [15] kj1 (fun kq v15 w' => ∃ (x15_2 : Int), v15 = .int .i64 x15_2 ∧ Aside0 (impl_stationsValid.l0 kq l0 (l0.length : Int) x15_2 = some r) ∧ Aside0 (kq ≤ kj1) ∧ Drawn0 w w')
        case atStart => exact ⟨(0), (by first | rfl | (simp; done) | (simp [*]; done)), H', ⟨Nat.le_refl _⟩, by repeat (first | exact Drawn0.refl _ | apply Drawn0.step)⟩
        case round =>
          clear H'
          try clear c1
          try clear p2
          try clear c3
          try clear c3b0
          try clear c3b1
          try clear c4
          try clear p2
          obtain ⟨x15_2, rfl, HA, HK2, ⟨m2, rfl⟩⟩ := hrel
          cases gk with
          | zero => exact absurd HA.out (by simp [impl_stationsValid.l0])
          | succ k2 =>
            have H := HA.out
            clear HA
            simp only [impl_stationsValid.l0] at H
            by_cases c5 : x15_2 < (l0.length : Int)
            · rw [if_pos c5] at H
              have c5b0 : decide (x15_2 < (l0.length : Int)) = true := decide_eq_true c5
              clear c5
              by_cases c6 : 0 ≤ x15_2
              · rw [if_pos c6] at H
                have c6b0 : decide (0 ≤ x15_2) = true := decide_eq_true c6
                clear c6
                by_cases c7 : x15_2 < (l0.length : Int)
                · rw [if_pos c7] at H
                  have c7b0 : decide (x15_2 < (l0.length : Int)) = true := decide_eq_true c7
                  clear c7
                  replace H := Option.bind_eq_some_iff.mp H
                  obtain ⟨t405, A80, H⟩ := H
                  replace H : (if t405 = true then (impl_stationsValid.l0 k2 l0 (l0.length : Int) (wrap64 (x15_2 + 1))) else (some false)) = some r := H
                  have A8 := Aside0.mk A80
                  clear A80
                  by_cases c9 : t405 = true
                  · subst c9
                    have H1 : (impl_stationsValid.l0 k2 l0 (l0.length : Int) (wrap64 (x15_2 + 1))) = some r := by rw [if_pos rfl] at H; exact H
                    clear H
                    have H := H1
                    clear H1
                    have H' := Aside0.mk H
                    clear H
                    have p404 : 0 ≤ (x15_2 : Int) := of_decide_eq_true (by first | (with_reducible assumption) | assumption)
                    have q404 : x15_2 < (l0.length : Int) := of_decide_eq_true (by first | (with_reducible assumption) | assumption)
                    obtain ⟨ad404, e404, hx404_0⟩ := Kd.at_int HR0.out x15_2 p404 q404
                    cases e404
                    replace p404 := eq_true p404
                    replace q404 := eq_true q404
                    go_wp2_with (first | ((with_reducible refine gate_callee (f := 133) rfl ?_); refine goesL_ (some 20) rfl rfl Try.func133 (by kernel_rfl) rfl #[.int .i64 (rd l0 x15_2), .int .i64 1000] rfl (by (try simp only [List.map_toArray, List.map_cons, List.map_nil]); first | done | rfl | (simp only [List.length_drop, List.length_take]; rfl)) ?_; (with_reducible refine (impl_within.calls (rd l0 x15_2) 1000 true _ A8.out).mono ?_); rintro e w' ⟨rfl, ⟨nd, rfl⟩⟩; refine ⟨_, rfl, ?_⟩))
                    go_roundg k2
                    case measure => have := HJ1.out; have := HK2.out; omega
                    case rel => exact ⟨(wrap64 (x15_2 + 1)), (by first | rfl | (simp; done) | (simp [*]; done)), H', ⟨by have := HJ1.out; have := HK2.out; omega⟩, by repeat (first | exact Drawn0.refl _ | apply Drawn0.step)⟩
                  · replace c9 := Bool.eq_false_iff.mpr c9
                    subst c9
                    have H1 : (some false) = some r := by rw [if_neg (show ¬ (false = true) by decide)] at H; exact H
                    clear H
                    have H := H1
                    clear H1
                    obtain rfl := Option.some.inj H
                    have p404 : 0 ≤ (x15_2 : Int) := of_decide_eq_true (by first | (with_reducible assumption) | assumption)
                    have q404 : x15_2 < (l0.length : Int) := of_decide_eq_true (by first | (with_reducible assumption) | assumption)
                    obtain ⟨ad404, e404, hx404_0⟩ := Kd.at_int HR0.out x15_2 p404 q404
                    cases e404
                    replace p404 := eq_true p404
                    replace q404 := eq_true q404
                    go_wp2_with (first | ((with_reducible refine gate_callee (f := 133) rfl ?_); refine goesL_ (some 20) rfl rfl Try.func133 (by kernel_rfl) rfl #[.int .i64 (rd l0 x15_2), .int .i64 1000] rfl (by (try simp only [List.map_toArray, List.map_cons, List.map_nil]); first | done | rfl | (simp only [List.length_drop, List.length_take]; rfl)) ?_; (with_reducible refine (impl_within.calls (rd l0 x15_2) 1000 false _ A8.out).mono ?_); rintro e w' ⟨rfl, ⟨nd, rfl⟩⟩; refine ⟨_, rfl, ?_⟩))
                    go_ret
                    exact ⟨by first | rfl | (simp; done) | (simp [*]; done), by repeat (first | exact Drawn0.refl _ | apply Drawn0.step)⟩
                · rw [if_neg c7] at H
                  exact absurd H (by simp)
              · rw [if_neg c6] at H
                exact absurd H (by simp)
            · rw [if_neg c5] at H
              have c5b0 : decide (x15_2 < (l0.length : Int)) = false := decide_eq_false c5
              clear c5
              obtain rfl := Option.some.inj H
              go_wp2
              go_ret
              exact ⟨by first | rfl | (simp; done) | (simp [*]; done), by repeat (first | exact Drawn0.refl _ | apply Drawn0.step)⟩

end Go.Proofs.Ytffkojdmidhchaa.P
end
section
-- written by wip/tools/mkprint.py (a program of this session over the kit's print). Lean checks it.
namespace Go.Proofs.Ytffkojdmidhchaa.P
open Go.RowKit Go.Proofs.YtffkojdmidhchaaW.PrintWords Go.Proofs.YtffkojdmidhchaaW.PrintLast Go.Proofs.YtffkojdmidhchaaW.PrintMore
attribute [local go_sem] max2_int min2_int max_two min_two max_three min_three max_four min_four   -- for this text's walks alone
set_option linter.unusedVariables false
set_option linter.unusedSimpArgs false

/-! ### impl_HaulCurve: function 126 -/
def impl_HaulCurve.l0 : Nat → List Int → Int → List Int → Int → Int → Option (List Int × Bool)
  | 0, _, _, _, _, _ => none
  | k + 1, x4, x5, x15, x16, x17 => if x17 < x16 then (if 0 ≤ x17 then (if x17 < (x15.length : Int) then (if x4.length < 17592186044416 then (impl_HaulCurve.l0 k (x4 ++ [wrap64 (x5 + (rd x15 x17))]) (wrap64 (x5 + (rd x15 x17))) x15 x16 (wrap64 (x17 + 1))) else (none)) else (none)) else (none)) else (some (x4, true))
def impl_HaulCurve.f (k : Nat) (l0 : List Int) : Option (List Int × Bool) := (impl_stationsValid.f k l0).bind fun t406 => (if t406 = true then (if 0 ≤ (l0.length : Int) then (if ((l0.length : Int) : Int).toNat ≤ 35184372088832 then (impl_HaulCurve.l0 k (([] : List Int)) 0 l0 (l0.length : Int) 0) else (none)) else (none)) else (some ((([] : List Int)), false)))
theorem impl_HaulCurve.mono_l : ∀ k, (∀ y0 y1 y2 y3 y4, LeO (impl_HaulCurve.l0 k y0 y1 y2 y3 y4) (impl_HaulCurve.l0 (k + 1) y0 y1 y2 y3 y4))
  | 0 => fun _ _ _ _ _ r h => by simp [impl_HaulCurve.l0] at h
  | k + 1 => by
    have ih0 := impl_HaulCurve.mono_l k
    · intro y0 y1 y2 y3 y4
      unfold impl_HaulCurve.l0
      repeat' first
      | (with_reducible exact ih0 _ _ _ _ _)
      | (with_reducible exact impl_stationsValid.mono _ _)
      | (with_reducible exact LeO.refl _)
      | (with_reducible exact LeO.none _)
      | (with_reducible refine LeO.ite ?_ ?_)
      | (with_reducible refine LeO.bind ?_ (fun _ => ?_))
      | exact ih0 _ _ _ _ _
      | exact impl_stationsValid.mono _ _
      | exact LeO.none _
      | refine LeO.ite ?_ ?_
      | refine LeO.bind ?_ (fun _ => ?_)
theorem impl_HaulCurve.mono : ∀ a0 k, LeO (impl_HaulCurve.f k a0) (impl_HaulCurve.f (k + 1) a0) := by
  intro a0 k
  have ih0 := impl_HaulCurve.mono_l k
  unfold impl_HaulCurve.f
  repeat' first
      | (with_reducible exact ih0 _ _ _ _ _)
      | (with_reducible exact impl_stationsValid.mono _ _)
      | (with_reducible exact LeO.refl _)
      | (with_reducible exact LeO.none _)
      | (with_reducible refine LeO.ite ?_ ?_)
      | (with_reducible refine LeO.bind ?_ (fun _ => ?_))
      | exact ih0 _ _ _ _ _
      | exact impl_stationsValid.mono _ _
      | exact LeO.none _
      | refine LeO.ite ?_ ?_
      | refine LeO.bind ?_ (fun _ => ?_)
set_option maxHeartbeats 8000000 in
set_option maxRecDepth 100000 in
theorem impl_HaulCurve.calls (k : Nat) (A0 : Option Addr) (c0 : Nat) (l0 : List Int) (r1 : List Int) (r2 : Bool) (w : World) (hr0 : Kd.C (Kd.int .i64) w A0 l0.length l0) (hc0 : l0.length ≤ c0) (h : impl_HaulCurve.f k l0 = some (r1, r2)) :
    Calls Try.prog 126 #[.slice A0 l0.length c0] w fun e w' => ∃ v0_ : Value, e = .returned (.tuple #[v0_, .bool r2]) ∧ Kd.R (Kd.int .i64) 3 w' w.heap.size (fun _ => True) v0_ r1 ∧ Below w.heap.size w w' := by
  have HR0 := Aside0.mk hr0
  have HC0 := Aside0.mk hc0
  clear hr0 hc0
  have HB := Aside0.mk (Below.refl w.heap.size w)
  have H : ((impl_stationsValid.f k l0).bind fun t406 => (if t406 = true then (if 0 ≤ (l0.length : Int) then (if ((l0.length : Int) : Int).toNat ≤ 35184372088832 then (impl_HaulCurve.l0 k (([] : List Int)) 0 l0 (l0.length : Int) 0) else (none)) else (none)) else (some ((([] : List Int)), false)))) = some (r1, r2) := h
  clear h
  replace H := Option.bind_eq_some_iff.mp H
  obtain ⟨t406, A20, H⟩ := H
  replace H : (if t406 = true then (if 0 ≤ (l0.length : Int) then (if ((l0.length : Int) : Int).toNat ≤ 35184372088832 then (impl_HaulCurve.l0 k (([] : List Int)) 0 l0 (l0.length : Int) 0) else (none)) else (none)) else (some ((([] : List Int)), false))) = some (r1, r2) := H
  have A2 := Aside0.mk A20
  clear A20
  by_cases c3 : t406 = true
  · subst c3
    have H1 : (if 0 ≤ (l0.length : Int) then (if ((l0.length : Int) : Int).toNat ≤ 35184372088832 then (impl_HaulCurve.l0 k (([] : List Int)) 0 l0 (l0.length : Int) 0) else (none)) else (none)) = some (r1, r2) := by rw [if_pos rfl] at H; exact H
    clear H
    have H := H1
    clear H1
    by_cases c4 : 0 ≤ (l0.length : Int)
    · rw [if_pos c4] at H
      have c4b0 := eq_true c4
      have c4b1 : decide (0 ≤ (l0.length : Int)) = true := decide_eq_true c4
      clear c4
      by_cases c5 : ((l0.length : Int) : Int).toNat ≤ 35184372088832
      · rw [if_pos c5] at H
        have c5b0 := eq_true c5
        have c5b1 : decide (((l0.length : Int) : Int).toNat ≤ 35184372088832) = true := decide_eq_true c5
        clear c5
        obtain ⟨y410, hy410⟩ : ∃ y_ : List Int, y_ = (([] : List Int)) := ⟨_, rfl⟩
        replace H : (impl_HaulCurve.l0 k y410 0 l0 (l0.length : Int) 0) = some (r1, r2) := by first | (rw [hy410]; with_reducible exact H) | (have H2_ := (Option.bind_some _ _).symm.trans H; rw [hy410]; with_reducible exact H2_) | (have H2_ := (Option.bind_some _ _).symm.trans H; with_reducible exact H2_) | with_reducible exact H | (rw [hy410]; exact H) | exact H
        have Ny410 := Aside0.mk hy410
        clear hy410
        have H' := Aside0.mk H
        clear H
        go_enter Try.func126, Try.ntmps126
        go_wp2_with (first | ((with_reducible refine gate_callee (f := 171) rfl ?_); refine goesL_ (some 9) rfl rfl Try.func171 (by kernel_rfl) rfl #[.slice A0 l0.length c0] rfl (by (try simp only [List.map_toArray, List.map_cons, List.map_nil]); first | done | rfl | (simp only [List.length_drop, List.length_take]; rfl)) ?_; (with_reducible refine (impl_stationsValid.calls k _ _ l0 true _ ?side1 ?side2 A2.out).mono ?_); (case side1 => repeat (first | exact HR0.out | (with_reducible refine Kd.C_alloc ?_ _) | (with_reducible refine Kd.C_drewN ?_ _) | (with_reducible refine Kd.C_drew ?_))); (case side2 => exact HC0.out); rintro e w' ⟨rfl, ⟨nd, rfl⟩⟩; refine ⟨_, rfl, ?_⟩) | ((with_reducible refine gate_dst (N := 14) rfl ?_); refine R_make0 (Kd.int .i64) _ 3 rfl (N := 14) rfl 62 _ _ rfl (l0.length : Int) rfl rfl Try.underlying62 (.int .i64 0) 8 info3 rfl (by decide) (by omega) (ok := fun _ => True) trivial (of_decide_eq_true (by first | (with_reducible assumption) | assumption)) (Nat.le_trans (Nat.mul_le_mul_right _ (of_decide_eq_true (by first | (with_reducible assumption) | assumption) : (l0.length : Int).toNat ≤ 35184372088832)) (by omega)) (Below.refl _ _) (Nat.le_refl _) ?_; intro v411 w6 ho7 hb hg_ hnew_; clear hg_ hnew_; (first | rw [← Ny410.out] at ho7 | (simp only [Int.reduceToNat] at ho7; rw [← Ny410.out] at ho7)); have n0_ := Aside0.mk (Kd.R_lower ho7 (below_size (by repeat (first | (with_reducible first | exact HB.out | apply below_alloc | apply pw_below_drewN | apply below_drew1) | exact HB.out)))); have n1_ := Aside0.mk (below_step (by repeat (first | (with_reducible first | exact HB.out | apply below_alloc | apply pw_below_drewN | apply below_drew1) | exact HB.out)) hb); clear HB; have HO412 := n0_; have HB := n1_; clear n0_ n1_; clear hb ho7))
        go_loopg [4, 5, 17] k (fun kq v4 v5 v17 w' => ∃ (x4_1 : List Int) (x5_1 : Int) (x17_1 : Int), v5 = .int .i64 x5_1 ∧ v17 = .int .i64 x17_1 ∧ Aside0 (impl_HaulCurve.l0 kq x4_1 x5_1 l0 (l0.length : Int) x17_1 = some (r1, r2)) ∧ Aside0 (kq ≤ k) ∧ Aside0 (Kd.R (Kd.int .i64) 3 w' w.heap.size (fun _ => True) v4 x4_1) ∧ Aside0 (Below w.heap.size w w'))
        case atStart => exact ⟨(y410), (0), (0), (by first | rfl | (simp; done) | (simp [*]; done)), (by first | rfl | (simp; done) | (simp [*]; done)), H', ⟨Nat.le_refl _⟩, ⟨by (with_reducible repeat (first | apply Kd.R_alloc | apply Kd.R_drewN | apply Kd.R_drew)); exact HO412.out⟩, ⟨by repeat (first | (with_reducible first | exact HB.out | apply below_alloc | apply pw_below_drewN | apply below_drew1) | exact HB.out)⟩⟩
        case round =>
          clear H'
          try clear c1
          try clear p2
          try clear c3
          try clear c4
          try clear c4b0
          try clear c4b1
          try clear c5
          try clear c5b0
          try clear c5b1
          obtain ⟨x4_1, x5_1, x17_1, rfl, rfl, HA, HK1, HO_4, HB⟩ := hrel
          cases gk with
          | zero => exact absurd HA.out (by simp [impl_HaulCurve.l0])
          | succ k1 =>
            have H := HA.out
            clear HA
            simp only [impl_HaulCurve.l0] at H
            by_cases c8 : x17_1 < (l0.length : Int)
            · rw [if_pos c8] at H
              have c8b0 : decide (x17_1 < (l0.length : Int)) = true := decide_eq_true c8
              clear c8
              by_cases c9 : 0 ≤ x17_1
              · rw [if_pos c9] at H
                have c9b0 : decide (0 ≤ x17_1) = true := decide_eq_true c9
                clear c9
                by_cases c10 : x17_1 < (l0.length : Int)
                · rw [if_pos c10] at H
                  have c10b0 : decide (x17_1 < (l0.length : Int)) = true := decide_eq_true c10
                  clear c10
                  by_cases c11 : x4_1.length < 17592186044416
                  · rw [if_pos c11] at H
                    have LMc11 := Aside0.mk c11
                    clear c11
                    obtain ⟨y414, hy414⟩ : ∃ y_ : List Int, y_ = (x4_1 ++ [wrap64 (x5_1 + (rd l0 x17_1))]) := ⟨_, rfl⟩
                    replace H : (impl_HaulCurve.l0 k1 y414 (wrap64 (x5_1 + (rd l0 x17_1))) l0 (l0.length : Int) (wrap64 (x17_1 + 1))) = some (r1, r2) := by first | (rw [hy414]; with_reducible exact H) | (have H2_ := (Option.bind_some _ _).symm.trans H; rw [hy414]; with_reducible exact H2_) | (have H2_ := (Option.bind_some _ _).symm.trans H; with_reducible exact H2_) | with_reducible exact H | (rw [hy414]; exact H) | exact H
                    have Ny414 := Aside0.mk hy414
                    clear hy414
                    have H' := Aside0.mk H
                    clear H
                    have p413 : 0 ≤ (x17_1 : Int) := of_decide_eq_true (by first | (with_reducible assumption) | assumption)
                    have q413 : x17_1 < (l0.length : Int) := of_decide_eq_true (by first | (with_reducible assumption) | assumption)
                    obtain ⟨ad413, e413, hx413_0⟩ := Kd.at_int HR0.out x17_1 p413 q413
                    cases e413
                    replace hx413_0 := (HB.out.cell (World.block_lt_of_cell? w _ hx413_0)).trans hx413_0
                    replace p413 := eq_true p413
                    replace q413 := eq_true q413
                    go_wp2_with (first | ((with_reducible refine gate_builtin (b := .append) (xs := #[.tmp 24, .tmp 26]) rfl ?_); at_builtin; refine Kd.R_append (Kd.int .i64) (w0 := w) w.heap.size rfl (.tmp 24) (.tmp 26) 62 3 (.int .i64 0) 8 rfl Try.underlying62 info3 rfl (by decide) (by omega) u4 x4_1 (wrap64 (x5_1 + (rd l0 x17_1))) [.int .i64 (wrap64 (x5_1 + (rd l0 x17_1)))] (fun _ => True) (fun _ => False) rfl rfl ?aP (fun _ hk => hk.elim) ?aF ?aO ?aB ?aS ?aL ?_; (case aP => exact rfl); (case aB => exact (by repeat (first | (with_reducible first | exact HB.out | apply below_alloc | apply pw_below_drewN | apply below_drew1) | exact HB.out))); (case aF => exact (fun _ _ => trivial)); (case aO => exact (by (with_reducible repeat (first | apply Kd.R_alloc | apply Kd.R_drewN | apply Kd.R_drew)); exact HO_4.out)); (case aS => exact (below_size (by repeat (first | (with_reducible first | exact HB.out | apply below_alloc | apply pw_below_drewN | apply below_drew1) | exact HB.out)))); (case aL => have := LMc11.out; omega); intro v415 w12 ho hb hg hat; rw [← Ny414.out] at ho; have n0_ := Aside0.mk (hb); have n1_ := Aside0.mk (ho); clear HB; clear HO_4; have HB := n0_; have HO416 := n1_; clear n0_ n1_; clear ho hb hg hat))
                    go_roundg k1
                    case measure => have := HK1.out; omega
                    case rel => exact ⟨(y414), (wrap64 (x5_1 + (rd l0 x17_1))), (wrap64 (x17_1 + 1)), (by first | rfl | (simp; done) | (simp [*]; done)), (by first | rfl | (simp; done) | (simp [*]; done)), H', ⟨by have := HK1.out; omega⟩, ⟨by (with_reducible repeat (first | apply Kd.R_alloc | apply Kd.R_drewN | apply Kd.R_drew)); exact HO416.out⟩, ⟨by repeat (first | (with_reducible first | exact HB.out | apply below_alloc | apply pw_below_drewN | apply below_drew1) | exact HB.out)⟩⟩
                  · rw [if_neg c11] at H
                    exact absurd H (by simp)
                · rw [if_neg c10] at H
                  exact absurd H (by simp)
              · rw [if_neg c9] at H
                exact absurd H (by simp)
            · rw [if_neg c8] at H
              have c8b0 : decide (x17_1 < (l0.length : Int)) = false := decide_eq_false c8
              clear c8
              simp only [Option.some.injEq, Prod.mk.injEq] at H
              obtain ⟨rfl, rfl⟩ := H
              go_wp2
              go_ret2
              exact ⟨_, by first | rfl | (simp [errW_none, errW_some] <;> rfl) | (simp [*, errW_none, errW_some] <;> rfl), by (with_reducible repeat (first | apply Kd.R_alloc | apply Kd.R_drewN | apply Kd.R_drew)); exact HO_4.out, by repeat (first | (with_reducible first | exact HB.out | apply below_alloc | apply pw_below_drewN | apply below_drew1) | exact HB.out)⟩
      · rw [if_neg c5] at H
        exact absurd H (by simp)
    · rw [if_neg c4] at H
      exact absurd H (by simp)
  · replace c3 := Bool.eq_false_iff.mpr c3
    subst c3
    have H1 : (some ((([] : List Int)), false)) = some (r1, r2) := by rw [if_neg (show ¬ (false = true) by decide)] at H; exact H
    clear H
    have H := H1
    clear H1
    obtain ⟨y407, hy407⟩ : ∃ y_ : List Int, y_ = (([] : List Int)) := ⟨_, rfl⟩
    replace H : (some (y407, false)) = some (r1, r2) := by first | (rw [hy407]; with_reducible exact H) | (have H2_ := (Option.bind_some _ _).symm.trans H; rw [hy407]; with_reducible exact H2_) | (have H2_ := (Option.bind_some _ _).symm.trans H; with_reducible exact H2_) | with_reducible exact H | (rw [hy407]; exact H) | exact H
    have Ny407 := Aside0.mk hy407
    clear hy407
    simp only [Option.some.injEq, Prod.mk.injEq] at H
    obtain ⟨rfl, rfl⟩ := H
    go_enter Try.func126, Try.ntmps126
    go_wp2_with (first | ((with_reducible refine gate_callee (f := 171) rfl ?_); refine goesL_ (some 9) rfl rfl Try.func171 (by kernel_rfl) rfl #[.slice A0 l0.length c0] rfl (by (try simp only [List.map_toArray, List.map_cons, List.map_nil]); first | done | rfl | (simp only [List.length_drop, List.length_take]; rfl)) ?_; (with_reducible refine (impl_stationsValid.calls k _ _ l0 false _ ?side1 ?side2 A2.out).mono ?_); (case side1 => repeat (first | exact HR0.out | (with_reducible refine Kd.C_alloc ?_ _) | (with_reducible refine Kd.C_drewN ?_ _) | (with_reducible refine Kd.C_drew ?_))); (case side2 => exact HC0.out); rintro e w' ⟨rfl, ⟨nd, rfl⟩⟩; refine ⟨_, rfl, ?_⟩) | ((with_reducible refine gate_dst (N := 11) rfl ?_); refine Kd.R_lit (Kd.int .i64) _ 3 ?hg (N := 11) ?hd (xs := ([] : List Int)) (inner := []) (ok := fun _ => True) (okp := fun _ => True) ?hr ?hp (fun _ hk => hk) trivial (Below.refl _ _) (Nat.le_refl _) (by simp) ?_; (case hd => rfl); (case hg => rfl); (case hr => first | (go_simp; done) | (go_simp; rfl)); (case hp => exact (Reps.none _ _)); intro v408 w13 ho14 hb hg_ hnew_; clear hg_ hnew_; (first | rw [← Ny407.out] at ho14 | (simp only [Int.reduceToNat] at ho14; rw [← Ny407.out] at ho14)); have n0_ := Aside0.mk (Kd.R_lower ho14 (below_size (by repeat (first | (with_reducible first | exact HB.out | apply below_alloc | apply pw_below_drewN | apply below_drew1) | exact HB.out)))); have n1_ := Aside0.mk (below_step (by repeat (first | (with_reducible first | exact HB.out | apply below_alloc | apply pw_below_drewN | apply below_drew1) | exact HB.out)) hb); clear HB; have HO409 := n0_; have HB := n1_; clear n0_ n1_; clear hb ho14))
    go_ret2
    exact ⟨_, by first | rfl | (simp [errW_none, errW_some] <;> rfl) | (simp [*, errW_none, errW_some] <;> rfl), by (with_reducible repeat (first | apply Kd.R_alloc | apply Kd.R_drewN | apply Kd.R_drew)); exact HO409.out, by repeat (first | (with_reducible first | exact HB.out | apply below_alloc | apply pw_below_drewN | apply below_drew1) | exact HB.out)⟩

end Go.Proofs.Ytffkojdmidhchaa.P
end
section
-- written by wip/tools/mkprint.py (a program of this session over the kit's print). Lean checks it.
namespace Go.Proofs.Ytffkojdmidhchaa.P
open Go.RowKit Go.Proofs.YtffkojdmidhchaaW.PrintWords Go.Proofs.YtffkojdmidhchaaW.PrintLast Go.Proofs.YtffkojdmidhchaaW.PrintMore
attribute [local go_sem] max2_int min2_int max_two min_two max_three min_three max_four min_four   -- for this text's walks alone
set_option linter.unusedVariables false
set_option linter.unusedSimpArgs false

/-! ### impl_HaulBalanced: function 118 -/
def impl_HaulBalanced.f (k : Nat) (l0 : List Int) : Option (Bool) := (impl_HaulCurve.f k l0).bind fun bt417 => (if bt417.2 = true then (if 0 ≤ (wrap64 ((bt417.1.length : Int) - 1)) then (if (wrap64 ((bt417.1.length : Int) - 1)) < (bt417.1.length : Int) then (some ((rd bt417.1 (wrap64 ((bt417.1.length : Int) - 1))) == 0)) else (none)) else (none)) else (some false))
theorem impl_HaulBalanced.mono : ∀ a0 k, LeO (impl_HaulBalanced.f k a0) (impl_HaulBalanced.f (k + 1) a0) := by
  intro a0 k
  unfold impl_HaulBalanced.f
  repeat' first
      | (with_reducible exact impl_HaulCurve.mono _ _)
      | (with_reducible exact LeO.refl _)
      | (with_reducible exact LeO.none _)
      | (with_reducible refine LeO.ite ?_ ?_)
      | (with_reducible refine LeO.bind ?_ (fun _ => ?_))
      | exact impl_HaulCurve.mono _ _
      | exact LeO.none _
      | refine LeO.ite ?_ ?_
      | refine LeO.bind ?_ (fun _ => ?_)
set_option maxHeartbeats 8000000 in
set_option maxRecDepth 100000 in
theorem impl_HaulBalanced.calls (k : Nat) (A0 : Option Addr) (c0 : Nat) (l0 : List Int) (r : Bool) (w : World) (hr0 : Kd.C (Kd.int .i64) w A0 l0.length l0) (hc0 : l0.length ≤ c0) (h : impl_HaulBalanced.f k l0 = some r) :
    Calls Try.prog 118 #[.slice A0 l0.length c0] w fun e w' => e = .returned (.bool r) ∧ Below w.heap.size w w' := by
  have HR0 := Aside0.mk hr0
  have HC0 := Aside0.mk hc0
  clear hr0 hc0
  have HB := Aside0.mk (Below.refl w.heap.size w)
  have H : ((impl_HaulCurve.f k l0).bind fun bt417 => (if bt417.2 = true then (if 0 ≤ (wrap64 ((bt417.1.length : Int) - 1)) then (if (wrap64 ((bt417.1.length : Int) - 1)) < (bt417.1.length : Int) then (some ((rd bt417.1 (wrap64 ((bt417.1.length : Int) - 1))) == 0)) else (none)) else (none)) else (some false))) = some r := h
  clear h
  replace H := Option.bind_eq_some_iff.mp H
  obtain ⟨⟨t417, t418⟩, A20, H⟩ := H
  replace H : (if t418 = true then (if 0 ≤ (wrap64 ((t417.length : Int) - 1)) then (if (wrap64 ((t417.length : Int) - 1)) < (t417.length : Int) then (some ((rd t417 (wrap64 ((t417.length : Int) - 1))) == 0)) else (none)) else (none)) else (some false)) = some r := H
  have A2 := Aside0.mk A20
  clear A20
  by_cases c3 : t418 = true
  · subst c3
    have H1 : (if 0 ≤ (wrap64 ((t417.length : Int) - 1)) then (if (wrap64 ((t417.length : Int) - 1)) < (t417.length : Int) then (some ((rd t417 (wrap64 ((t417.length : Int) - 1))) == 0)) else (none)) else (none)) = some r := by rw [if_pos rfl] at H; exact H
    clear H
    have H := H1
    clear H1
    obtain ⟨ji4, hji4⟩ : ∃ j_ : Int, (wrap64 ((t417.length : Int) - 1)) = j_ := ⟨_, rfl⟩
    replace H : (if 0 ≤ (ji4) then (if (ji4) < (t417.length : Int) then (some ((rd t417 (ji4)) == 0)) else (none)) else (none)) = some r := by first | (rw [hji4] at H; exact H) | (simp only [hji4] at H ⊢; exact H)
    (try rw [hji4] at A2)
    have hji4w : (IntKind.i64.wrap ((t417.length : Int) - 1)) = ji4 := (i64_w _).trans hji4
    by_cases c5 : 0 ≤ (ji4)
    · rw [if_pos c5] at H
      have c5b0 : decide (0 ≤ (ji4)) = true := decide_eq_true c5
      clear c5
      by_cases c6 : (ji4) < (t417.length : Int)
      · rw [if_pos c6] at H
        have c6b0 : decide ((ji4) < (t417.length : Int)) = true := decide_eq_true c6
        clear c6
        obtain rfl := Option.some.inj H
        go_enter Try.func118, Try.ntmps118
        go_wp2_with (first | ((with_reducible refine gate_callee (f := 126) rfl ?_); refine goesL_ (some 7) rfl rfl Try.func126 (by kernel_rfl) rfl #[.slice A0 l0.length c0] rfl (by (try simp only [List.map_toArray, List.map_cons, List.map_nil]); first | done | rfl | (simp only [List.length_drop, List.length_take]; rfl)) ?_; (with_reducible refine (impl_HaulCurve.calls k _ _ l0 t417 true _ ?side1 ?side2 A2.out).mono ?_); (case side1 => repeat (first | exact HR0.out | (with_reducible refine Kd.C_alloc ?_ _) | (with_reducible refine Kd.C_drewN ?_ _) | (with_reducible refine Kd.C_drew ?_))); (case side2 => exact HC0.out); rintro e w7 ⟨v419, rfl, ho0, hb⟩; refine ⟨_, rfl, ?_⟩; have n0_ := Aside0.mk (Kd.R_lower ho0 (below_size (by repeat (first | (with_reducible first | exact HB.out | apply below_alloc | apply pw_below_drewN | apply below_drew1) | exact HB.out)))); have n1_ := Aside0.mk (below_step (by repeat (first | (with_reducible first | exact HB.out | apply below_alloc | apply pw_below_drewN | apply below_drew1) | exact HB.out)) hb); clear HB; have HO420 := n0_; have HB := n1_; clear n0_ n1_; (try clear hb); (try clear hb2); (try clear hk); (try clear hi); (try clear ho0); obtain ⟨Ao8, co8, eo8⟩ := Kd.R_slice HO420.out; subst eo8; have p421 : 0 ≤ ((ji4) : Int) := of_decide_eq_true (by first | (with_reducible assumption) | assumption); have q421 : (ji4) < (t417.length : Int) := of_decide_eq_true (by first | (with_reducible assumption) | assumption); obtain ⟨ad421, e421, hx421_0⟩ := Kd.at_int (Kd.R_reads' HO420.out).2.2 (ji4) p421 q421; cases e421; replace p421 := eq_true p421; replace q421 := eq_true q421))
        go_ret
        exact ⟨by first | rfl | (simp [errW_none, errW_some] <;> rfl) | (simp only [← hji4]; first | rfl | (simp [errW_none, errW_some] <;> rfl)) | (simp [*, errW_none, errW_some] <;> rfl), by repeat (first | (with_reducible first | exact HB.out | apply below_alloc | apply pw_below_drewN | apply below_drew1) | exact HB.out)⟩
      · rw [if_neg c6] at H
        exact absurd H (by simp)
    · rw [if_neg c5] at H
      exact absurd H (by simp)
  · replace c3 := Bool.eq_false_iff.mpr c3
    subst c3
    have H1 : (some false) = some r := by rw [if_neg (show ¬ (false = true) by decide)] at H; exact H
    clear H
    have H := H1
    clear H1
    obtain rfl := Option.some.inj H
    go_enter Try.func118, Try.ntmps118
    go_wp2_with (first | ((with_reducible refine gate_callee (f := 126) rfl ?_); refine goesL_ (some 7) rfl rfl Try.func126 (by kernel_rfl) rfl #[.slice A0 l0.length c0] rfl (by (try simp only [List.map_toArray, List.map_cons, List.map_nil]); first | done | rfl | (simp only [List.length_drop, List.length_take]; rfl)) ?_; (with_reducible refine (impl_HaulCurve.calls k _ _ l0 t417 false _ ?side1 ?side2 A2.out).mono ?_); (case side1 => repeat (first | exact HR0.out | (with_reducible refine Kd.C_alloc ?_ _) | (with_reducible refine Kd.C_drewN ?_ _) | (with_reducible refine Kd.C_drew ?_))); (case side2 => exact HC0.out); rintro e w9 ⟨v419, rfl, ho0, hb⟩; refine ⟨_, rfl, ?_⟩; have n0_ := Aside0.mk (Kd.R_lower ho0 (below_size (by repeat (first | (with_reducible first | exact HB.out | apply below_alloc | apply pw_below_drewN | apply below_drew1) | exact HB.out)))); have n1_ := Aside0.mk (below_step (by repeat (first | (with_reducible first | exact HB.out | apply below_alloc | apply pw_below_drewN | apply below_drew1) | exact HB.out)) hb); clear HB; have HO420 := n0_; have HB := n1_; clear n0_ n1_; (try clear hb); (try clear hb2); (try clear hk); (try clear hi); (try clear ho0)))
    go_ret
    exact ⟨by first | rfl | (simp [errW_none, errW_some] <;> rfl) | (simp [*, errW_none, errW_some] <;> rfl), by repeat (first | (with_reducible first | exact HB.out | apply below_alloc | apply pw_below_drewN | apply below_drew1) | exact HB.out)⟩

end Go.Proofs.Ytffkojdmidhchaa.P
end
section
/- impl.HaulBalanced, as a plain condition. -/
namespace Go.Proofs.Ytffkojdmidhchaa.P
open Go.RowKit Go.Proofs.YtffkojdmidhchaaW.PrintWords Go.Proofs.YtffkojdmidhchaaW.PrintLast Go.Proofs.YtffkojdmidhchaaW.PrintMore
set_option linter.unusedVariables false
set_option linter.unusedSimpArgs false

def stB (x : Int) : Bool := decide (-1000 ≤ x ∧ x ≤ 1000)
def stV (l : List Int) : Bool := decide (1 ≤ l.length ∧ l.length ≤ 12) && l.all stB
theorem stV_iff {l : List Int} : stV l = true ↔ 1 ≤ l.length ∧ l.length ≤ 12 ∧ ∀ x ∈ l, -1000 ≤ x ∧ x ≤ 1000 := by
  unfold stV stB; simp [and_assoc]
theorem st_loop (l : List Int) (hl : l.length ≤ 12) (d : Nat) : ∀ i : Nat, l.length - i = d → i ≤ l.length → Ev (fun k => impl_stationsValid.l0 k l l.length i) ((l.drop i).all stB) := by
  induction d with
  | zero =>
    intro i hd hi
    rw [drop_end (by omega)]
    exact Ev_end (fun k => by simp only [impl_stationsValid.l0]; rw [if_neg (by omega)]; rfl)
  | succ d ih =>
    intro i hd hi
    have hlt : i < l.length := by omega
    rw [drop_cons hlt]
    have hw := wn_f (l[i]) 1000 (by omega) (by omega) _ rfl
    cases hb : stB l[i] with
    | true =>
      simp only [List.all_cons, hb, Bool.true_and]
      refine Ev_step (ih (i + 1) (by omega) (by omega)) (fun k => ?_)
      simp only [impl_stationsValid.l0]
      rw [if_pos (by omega), if_pos (by omega), if_pos (by omega), rd_get hlt, wrap_succ (by omega)]
      unfold impl_within.f
      rw [hw]
      have : decide (-1000 ≤ l[i] ∧ l[i] ≤ 1000) = true := hb
      simp only [Option.bind_some, this, if_true]
    | false =>
      simp only [List.all_cons, hb, Bool.false_and]
      refine Ev_end (fun k => ?_)
      simp only [impl_stationsValid.l0]
      rw [if_pos (by omega), if_pos (by omega), if_pos (by omega), rd_get hlt]
      unfold impl_within.f
      rw [hw]
      have : decide (-1000 ≤ l[i] ∧ l[i] ≤ 1000) = false := hb
      simp [this]
theorem stationsValid_ev (l : List Int) : Ev (fun k => impl_stationsValid.f k l) (stV l) := by
  unfold impl_stationsValid.f
  by_cases h1 : (l.length : Int) < 1
  · refine Ev_pos h1 (Ev_end (fun k => ?_))
    simp only [impl_stationsValid.j0]
    have : stV l = false := by unfold stV; simp; omega
    rw [this]; simp
  · refine Ev_neg h1 ?_
    by_cases h2 : (l.length : Int) > 12
    · refine Ev_end (fun k => ?_)
      simp only [impl_stationsValid.j0]
      have : stV l = false := by unfold stV; simp; omega
      rw [this, if_pos (by simpa using h2)]
    · have : stV l = l.all stB := by unfold stV; rw [decide_eq_true (by omega)]; simp
      rw [this]
      refine Ev_step (st_loop l (by omega) l.length 0 (by omega) (by omega)) (fun k => ?_)
      simp only [impl_stationsValid.j0]
      rw [if_neg (by simpa using h2)]
      rfl
/-- The sums up to each station. -/
def curveFrom : Int → List Int → List Int
  | _, [] => []
  | s, x :: r => (s + x) :: curveFrom (s + x) r
theorem curveFrom_length (s : Int) (l : List Int) : (curveFrom s l).length = l.length := by
  induction l generalizing s with
  | nil => rfl
  | cons x r ih => simp [curveFrom, ih]
theorem curve_loop (l : List Int) (hl : l.length ≤ 12) (hb : ∀ x ∈ l, -1000 ≤ x ∧ x ≤ 1000) (d : Nat) : ∀ (i : Nat) (out : List Int) (s : Int), l.length - i = d → i ≤ l.length → out.length = i → -1000 * (i : Int) ≤ s → s ≤ 1000 * (i : Int) →
    Ev (fun k => impl_HaulCurve.l0 k out s l l.length i) (out ++ curveFrom s (l.drop i), true) := by
  induction d with
  | zero =>
    intro i out s hd hi ho h1 h2
    rw [drop_end (by omega)]
    exact Ev_end (fun k => by simp only [impl_HaulCurve.l0]; rw [if_neg (by omega)]; simp [curveFrom])
  | succ d ih =>
    intro i out s hd hi ho h1 h2
    have hlt : i < l.length := by omega
    rw [drop_cons hlt]
    have hx := hb l[i] (List.getElem_mem hlt)
    have hs : wrap64 (s + l[i]) = s + l[i] := wrap_small (by omega) (by omega)
    have h := ih (i + 1) (out ++ [s + l[i]]) (s + l[i]) (by omega) (by omega) (by simp; omega) (by omega) (by omega)
    simp only [curveFrom]
    rw [List.append_assoc, List.singleton_append] at h
    refine Ev_step h (fun k => ?_)
    simp only [impl_HaulCurve.l0]
    rw [if_pos (by omega), if_pos (by omega), if_pos (by omega), if_pos (by omega), rd_get hlt, hs, wrap_succ (by omega)]
theorem HaulCurve_ev (l : List Int) (hl : stV l = true) : Ev (fun k => impl_HaulCurve.f k l) (curveFrom 0 l, true) := by
  have hv := stV_iff.1 hl
  unfold impl_HaulCurve.f
  refine Ev_bind (stationsValid_ev l) ?_
  rw [hl]
  refine Ev_pos rfl (Ev_pos (by omega) (Ev_pos (by simp; omega) ?_))
  have h := curve_loop l hv.2.1 hv.2.2 l.length 0 [] 0 (by omega) (by omega) rfl (by omega) (by omega)
  simpa using h
theorem HaulCurve_no (l : List Int) (hl : stV l = false) : Ev (fun k => impl_HaulCurve.f k l) ([], false) := by
  unfold impl_HaulCurve.f
  refine Ev_bind (stationsValid_ev l) ?_
  rw [hl]
  exact Ev_neg (by simp) (Ev.now _)
theorem curveFrom_last (s : Int) (l : List Int) (h : l ≠ []) : (curveFrom s l).getD (l.length - 1) 0 = s + l.sum := by
  induction l generalizing s with
  | nil => exact absurd rfl h
  | cons x r ih =>
    cases r with
    | nil => simp [curveFrom]
    | cons y r =>
      have := ih (s + x) (by simp)
      simp only [List.length_cons, Nat.add_sub_cancel] at this ⊢
      rw [show curveFrom s (x :: y :: r) = (s + x) :: curveFrom (s + x) (y :: r) from rfl, List.getD_cons_succ, this]
      simp [Int.add_assoc]
def hbalB (l : List Int) : Bool := stV l && (l.sum == 0)
theorem hbalB_iff {l : List Int} : hbalB l = true ↔ hbal l := by
  unfold hbalB hbal
  rw [Bool.and_eq_true, stV_iff]
  simp [and_assoc]
theorem HaulBalanced_ev (l : List Int) : Ev (fun k => impl_HaulBalanced.f k l) (hbalB l) := by
  unfold impl_HaulBalanced.f
  cases hl : stV l with
  | true =>
    have hv := stV_iff.1 hl
    refine Ev_bind (HaulCurve_ev l hl) ?_
    have hlen := curveFrom_length 0 l
    refine Ev_pos rfl ?_
    simp only [hlen]
    rw [wrap_small (a := (l.length : Int) - 1) (by omega) (by omega)]
    refine Ev_pos (by omega) (Ev_pos (by omega) ?_)
    have hne : l ≠ [] := by intro h; rw [h] at hv; simp at hv
    have hlast : rd (curveFrom 0 l) ((l.length : Int) - 1) = l.sum := by
      have := curveFrom_last 0 l hne
      unfold rd
      rw [show ((l.length : Int) - 1).toNat = l.length - 1 by omega, this]
      simp
    rw [hlast]
    unfold hbalB
    rw [hl]
    exact Ev.now _
  | false =>
    refine Ev_bind (HaulCurve_no l hl) ?_
    unfold hbalB
    rw [hl]
    exact Ev_neg (by simp) (Ev.now _)
theorem hb_of {k : Nat} {l : List Int} (h : impl_HaulBalanced.f k l = some true) : hbal l :=
  hbalB_iff.1 (Ev_uniq (fun k => impl_HaulBalanced.mono l k) (HaulBalanced_ev l) h).symm
end Go.Proofs.Ytffkojdmidhchaa.P
end
section
/- The walk of impl.HaulPlan over stations that are balanced. -/
namespace Go.Proofs.Ytffkojdmidhchaa.P
open Go.RowKit Go.Proofs.YtffkojdmidhchaaW.PrintWords Go.Proofs.YtffkojdmidhchaaW.PrintLast Go.Proofs.YtffkojdmidhchaaW.PrintMore
set_option linter.unusedVariables false
set_option linter.unusedSimpArgs false
set_option maxHeartbeats 8000000
set_option maxRecDepth 20000
attribute [local go_sem] frozen_alloc' max2_int min2_int max_two min_two max_three min_three max_four min_four

theorem haul_app {w wr w3 : World} {B n : Nat} {o : Obj} {v : Value} {xs : List Value} (hgrow : (wr.alloc o).grownBy w3 v.ownBlock) (hown : wr.ownsRow B 74 3 v n xs) (hB : Below B w wr) (hle : B ≤ w.heap.size) :
    Kept wr w3 (fun k => some k = v.ownBlock) ∧ Below B w w3 := by
  refine ⟨Kept.of_grown hgrow ((Kept.refl wr _).alloc _) (fun k hk => .inl hk.symm), ?_⟩
  exact pw_below_grown (hB.alloc (Nat.le_trans hle hB.size) _) v.ownBlock (by have := hB.size; simp; omega) hgrow (fun k hk => own_base hown k hk)

theorem pilesH_pos (l : List Int) (i : Int) (h : ∀ x ∈ l, -1000 ≤ x ∧ x ≤ 1000) : ∀ p ∈ pilesH l i, 1 ≤ p.2 ∧ p.2 ≤ 1000 := by
  induction l generalizing i with
  | nil => intro p hp; cases hp
  | cons y r ih =>
    intro p hp
    simp only [pilesH] at hp
    have hy := h y (List.mem_cons_self ..)
    split at hp
    · rcases List.mem_cons.1 hp with rfl | hp
      · simp only; omega
      · exact ih _ (fun x hx => h x (List.mem_cons_of_mem _ hx)) p hp
    · exact ih _ (fun x hx => h x (List.mem_cons_of_mem _ hx)) p hp
theorem pilesM_pos (l : List Int) (i : Int) (h : ∀ x ∈ l, -1000 ≤ x ∧ x ≤ 1000) : ∀ p ∈ pilesM l i, 1 ≤ p.2 ∧ p.2 ≤ 1000 := by
  induction l generalizing i with
  | nil => intro p hp; cases hp
  | cons y r ih =>
    intro p hp
    simp only [pilesM] at hp
    have hy := h y (List.mem_cons_self ..)
    split at hp
    · rcases List.mem_cons.1 hp with rfl | hp
      · simp only; omega
      · exact ih _ (fun x hx => h x (List.mem_cons_of_mem _ hx)) p hp
    · exact ih _ (fun x hx => h x (List.mem_cons_of_mem _ hx)) p hp

def HPost (w : World) (F : List S74) (e : Ending) (w' : World) : Prop :=
  ∃ v0, e = .returned (.tuple #[v0, .bool true]) ∧ w'.ownsRow w.heap.size 74 3 v0 F.length (hcells F) ∧ Below w.heap.size w w'

theorem HaulPlan_yes (A0 : Option Addr) (c0 : Nat) (l : List Int) (w : World) (hr : Kd.C (Kd.int .i64) w A0 l.length l) (hc : l.length ≤ c0) (hb : hbal l)
    (HB : Calls Try.prog 118 #[.slice A0 l.length c0] w fun e w' => e = .returned (.bool true) ∧ Below w.heap.size w w') :
    Calls Try.prog 47 #[.slice A0 l.length c0] w (HPost w (haul (pilesH l 0) (pilesM l 0))) := by
  have hu182 := Try.underlying182
  have hu141 := Try.underlying141
  have hu180 := Try.underlying180
  have hu74 := Try.underlying74
  obtain ⟨i0, hi0, hz0, hz1, hz2⟩ := info_parts info74
  obtain ⟨hb1, hb2, hb3, hb4⟩ := hb
  have H0 := Aside0.mk HB; clear HB
  go_enter Try.func47, Try.ntmps47
  go_wp2_with (first
    | (go_at_call 118; refine H0.out.mono ?_; rintro e w1 ⟨rfl, hw1⟩)
    | (go_at_call 119; (with_reducible refine (piles_any A0 c0 l _ ?hr hc hb2 hb3).mono ?_); (case hr => exact Kd.C_below (Kd.C_below hr hw1) (below_alloc (Below.refl _ _) _)); rintro e w2 ⟨g1, g2, rfl, htq, hw2⟩))
  have HTQ := Aside0.mk htq
  have HW2 := Aside0.mk hw2
  clear htq hw2
  go_loopg [4] ((pilesH l 0).length + (pilesM l 0).length) (fun kq v wr => ∃ h m, h.length + m.length = kq ∧ HRel w (haul (pilesH l 0) (pilesM l 0)) v wr g1 g2 h m)
  case atStart =>
    have hle := hw1.size
    have hsz := HW2.out.size
    have k1 := pilesH_len l 0
    have k2 := pilesM_len l 0
    refine ⟨pilesH l 0, pilesM l 0, rfl, [], rfl, pilesH_pos l 0 hb3, pilesM_pos l 0 hb3, TwoC.lower HTQ.out.served (by simp; omega), ?_, by simp; omega, ?_⟩
    · have h0 := World.ownsRow_lit (base := w.heap.size) (e := 74) (size := 3) w1 #[] 0 hle (by simp [maxLen]) rfl
      exact own_keep (own_keep h0 (Kept.of_below HW2.out (fun _ => False)) (fun _ _ h => h)) (Kept.refl _ (fun _ => False)) (fun _ _ h => h)
    · exact below_then (hw1.alloc hle _) (by simp; omega) HW2.out
  case round =>
    obtain ⟨hs, ms, hkq, out, hF, hph, hpm, htc, hown, hlen, hB⟩ := hrel
    subst hkq
    obtain ⟨A1, c1, A2, c2, q1, q2, hg12, hsep⟩ := htc
    have B1 := Aside0.mk q1.1
    have B2 := Aside0.mk q2.1
    cases hs with
    | nil =>
      rw [haul_nil1, List.append_nil] at hF
      have HF := Aside0.mk hF
      have HO := Aside0.mk hown
      clear q1 q2 hF hph hpm hsep hown
      go_wp2_with (go_at_call 120; (with_reducible refine (empty_yes g1 _ _ _ B1.out).mono ?_); rintro e w3 ⟨rfl, rfl⟩)
      go_ret2
      exact ⟨_, rfl, by rw [← HF.out]; exact HO.out, hB⟩
    | cons p hs =>
      cases ms with
      | nil =>
        rw [haul_nil2, List.append_nil] at hF
        have HF := Aside0.mk hF
        have HO := Aside0.mk hown
        clear q1 q2 hF hph hpm hsep hown
        go_wp2_with (first
          | (go_at_call 120; (with_reducible refine (empty_no g1 _ _ _ _ B1.out (by simp)).mono ?_); rintro e w3 ⟨rfl, rfl⟩)
          | (go_at_call 120; (with_reducible refine (empty_yes g2 _ _ _ B2.out).mono ?_); rintro e w3 ⟨rfl, rfl⟩))
        go_ret2
        exact ⟨_, rfl, by rw [← HF.out]; exact HO.out, hB⟩
      | cons q ms =>
        obtain ⟨s1, x⟩ := p
        obtain ⟨s2, y⟩ := q
        obtain ⟨a1, o1, rfl⟩ := q1.addr
        obtain ⟨a2, o2, rfl⟩ := q2.addr
        have hne := hsep a1 o1 a2 o2 (by simp) (by simp) rfl rfl
        have hne' := Ne.symm hne
        obtain ⟨ca0, ca1, fa, hba, hla, cur1, ha1⟩ := q1.cells
        obtain ⟨cb0, cb1, fb, hbb, hlb, cur2, ha2⟩ := q2.cells
        have hx := hph _ (List.mem_cons_self ..)
        have hy := hpm _ (List.mem_cons_self ..)
        have hva := own_ne_blk hown ha1 (by decide)
        have hvb := own_ne_blk hown ha2 (by decide)
        have hvg1 := own_ne_blk hown q1.1 (by decide)
        have hvg2 := own_ne_blk hown q2.1 (by decide)
        simp only at hx hy
        rcases Int.lt_trichotomy x y with hxy | hxy | hxy
        · have hd : ((y - x) == 0) = false := beq_eq_false_iff_ne.2 (by omega)
          have Q1 := Aside0.mk q1
          have Q2 := Aside0.mk q2
          have HF := Aside0.mk hF
          have HPH := Aside0.mk hph
          have HPM := Aside0.mk hpm
          have HO := Aside0.mk hown
          clear q1 q2 hF hph hpm hsep ha1 ha2 hown
          go_wp2_with (first
            | (go_at_call 120; (with_reducible refine (empty_no g1 _ _ _ _ B1.out (by simp)).mono ?_); rintro e w3 ⟨rfl, rfl⟩)
            | (go_at_call 120; (with_reducible refine (empty_no g2 _ _ _ _ B2.out (by simp)).mono ?_); rintro e w3 ⟨rfl, rfl⟩)
            | (go_at_call 121; (with_reducible refine (front_any g1 a1 o1 _ _ _ B1.out (by simp)).mono ?_); rintro e w3 ⟨rfl, rfl⟩)
            | (go_at_call 121; (with_reducible refine (front_any g2 a2 o2 _ _ _ B2.out (by simp)).mono ?_); rintro e w3 ⟨rfl, rfl⟩))
          go_quiet (fail)
          go_wp2
          go_region_law ((refine step_append_lies _ (by rfl) _ _ _ (by rfl) w.heap.size 74 i0 _ 3 24 Try.underlying63 hi0 hz0 hz1 hz2 rfl (by omega) _ out.length (hcells out) (by rfl) (by exact HO.out.alloc _) ⟨wr.heap.size, 0, none⟩ 1 1 [.int .i64 s1, .int .i64 s2, .int .i64 x] (by rfl) (by rfl) (World.news_of_block (cs := #[.int .i64 s1, .int .i64 s2, .int .i64 x]) (t := 74) (fr := (0, 0)) (by exact heap_alloc_new wr (.cells #[.int .i64 s1, .int .i64 s2, .int .i64 x] 74))) (by simp [Value.oneCell']) (by omega) (by simp only [maxLen]; omega) (by omega) (by have := hB.size; simp; omega) (wr.heap.size + 1) (by simp) ?_; intro gg cap w3 hown1 hgrow hat hlt1; obtain ⟨hK3, hB3⟩ := haul_app (wr := wr) (o := .cells #[.int .i64 s1, .int .i64 s2, .int .i64 x] 74) ⟨hgrow.os, hgrow.tape, hgrow.output, hgrow.size, hgrow.block⟩ HO.out hB (Nat.le_refl _)))
          all_goals
            have q1' := Q1.out.kept hK3 (fun e => hvg1 e.symm) (fun a o _ e hk => by injection e with e; injection e with e; subst e; exact hva hk.symm)
            have q2' := Q2.out.kept hK3 (fun e => hvg2 e.symm) (fun a o _ e hk => by injection e with e; injection e with e; subst e; exact hvb hk.symm)
            obtain ⟨ca0', ca1', fa', _, _, cur1', ha1'⟩ := q1'.cells
            obtain ⟨cb0', cb1', fb', _, _, cur2', ha2'⟩ := q2'.cells
            have P1 := Aside0.mk q1'.1
            have P2 := Aside0.mk q2'.1
            have n11 := blk_ne P1.out ha1' (by decide)
            have n12 := blk_ne P1.out ha2' (by decide)
            have n21 := blk_ne P2.out ha1' (by decide)
            have n22 := blk_ne P2.out ha2' (by decide)
            have l1 := q1'.2.2.1
            have l2 := q2'.2.2.1
            have R := Aside0.mk (Rnd.mk (n := x) q1' q2' hown1 n12 n21 hne hg12 hB3 HF.out HPH.out HPM.out hlen)
            clear q1' q2' hown1 hK3 hgrow hat ca0 ca1 cb0 cb1 fa fb ha1' ha2'
            go_wp2_with (go_at_call 122; (with_reducible refine (drop_any g1 a1 o1 _ c1 _ ?hq (by simp) l1).mono ?_); (case hq => exact blk_far (blk_far P1.out n11 _) n12 _); rintro e w4 ⟨rfl, rfl⟩)
            go_roundg (hs.length + (ms.length + 1))
            case measure => simp only [List.length_cons]; omega
            case rel => exact ⟨hs, (s2, y - x) :: ms, by simp <;> omega, R.out.less hxy rfl⟩
        · obtain rfl := hxy
          have Q1 := Aside0.mk q1
          have Q2 := Aside0.mk q2
          have HF := Aside0.mk hF
          have HPH := Aside0.mk hph
          have HPM := Aside0.mk hpm
          have HO := Aside0.mk hown
          clear q1 q2 hF hph hpm hsep ha1 ha2 hown
          go_wp2_with (first
            | (go_at_call 120; (with_reducible refine (empty_no g1 _ _ _ _ B1.out (by simp)).mono ?_); rintro e w3 ⟨rfl, rfl⟩)
            | (go_at_call 120; (with_reducible refine (empty_no g2 _ _ _ _ B2.out (by simp)).mono ?_); rintro e w3 ⟨rfl, rfl⟩)
            | (go_at_call 121; (with_reducible refine (front_any g1 a1 o1 _ _ _ B1.out (by simp)).mono ?_); rintro e w3 ⟨rfl, rfl⟩)
            | (go_at_call 121; (with_reducible refine (front_any g2 a2 o2 _ _ _ B2.out (by simp)).mono ?_); rintro e w3 ⟨rfl, rfl⟩))
          go_quiet (fail)
          go_wp2
          go_region_law ((refine step_append_lies _ (by rfl) _ _ _ (by rfl) w.heap.size 74 i0 _ 3 24 Try.underlying63 hi0 hz0 hz1 hz2 rfl (by omega) _ out.length (hcells out) (by rfl) (by exact HO.out.alloc _) ⟨wr.heap.size, 0, none⟩ 1 1 [.int .i64 s1, .int .i64 s2, .int .i64 x] (by rfl) (by rfl) (World.news_of_block (cs := #[.int .i64 s1, .int .i64 s2, .int .i64 x]) (t := 74) (fr := (0, 0)) (by exact heap_alloc_new wr (.cells #[.int .i64 s1, .int .i64 s2, .int .i64 x] 74))) (by simp [Value.oneCell']) (by omega) (by simp only [maxLen]; omega) (by omega) (by have := hB.size; simp; omega) (wr.heap.size + 1) (by simp) ?_; intro gg cap w3 hown1 hgrow hat hlt1; obtain ⟨hK3, hB3⟩ := haul_app (wr := wr) (o := .cells #[.int .i64 s1, .int .i64 s2, .int .i64 x] 74) ⟨hgrow.os, hgrow.tape, hgrow.output, hgrow.size, hgrow.block⟩ HO.out hB (Nat.le_refl _)))
          all_goals
            have q1' := Q1.out.kept hK3 (fun e => hvg1 e.symm) (fun a o _ e hk => by injection e with e; injection e with e; subst e; exact hva hk.symm)
            have q2' := Q2.out.kept hK3 (fun e => hvg2 e.symm) (fun a o _ e hk => by injection e with e; injection e with e; subst e; exact hvb hk.symm)
            obtain ⟨ca0', ca1', fa', _, _, cur1', ha1'⟩ := q1'.cells
            obtain ⟨cb0', cb1', fb', _, _, cur2', ha2'⟩ := q2'.cells
            have P1 := Aside0.mk q1'.1
            have P2 := Aside0.mk q2'.1
            have n11 := blk_ne P1.out ha1' (by decide)
            have n12 := blk_ne P1.out ha2' (by decide)
            have n21 := blk_ne P2.out ha1' (by decide)
            have n22 := blk_ne P2.out ha2' (by decide)
            have l1 := q1'.2.2.1
            have l2 := q2'.2.2.1
            have R := Aside0.mk (Rnd.mk (n := x) q1' q2' hown1 n12 n21 hne hg12 hB3 HF.out HPH.out HPM.out hlen)
            clear q1' q2' hown1 hK3 hgrow hat ca0 ca1 cb0 cb1 fa fb ha1' ha2'
            go_wp2_with (first | (go_at_call 122; (with_reducible refine (drop_any g1 a1 o1 _ c1 _ ?hq (by simp) l1).mono ?_); (case hq => exact blk_far (blk_far P1.out n11 _) n12 _); rintro e w4 ⟨rfl, rfl⟩) | (go_at_call 122; (with_reducible refine (drop_any g2 a2 o2 _ c2 _ ?hq (by simp) l2).mono ?_); (case hq => exact blk_far (blk_far (blk_far P2.out n21 _) n22 _) hg12.symm _); rintro e w5 ⟨rfl, rfl⟩))
            go_roundg (hs.length + ms.length)
            case measure => simp only [List.length_cons]; omega
            case rel => exact ⟨hs, ms, by simp <;> omega, R.out.same rfl rfl⟩
        · have hd : ((x - y) == 0) = false := beq_eq_false_iff_ne.2 (by omega)
          have Q1 := Aside0.mk q1
          have Q2 := Aside0.mk q2
          have HF := Aside0.mk hF
          have HPH := Aside0.mk hph
          have HPM := Aside0.mk hpm
          have HO := Aside0.mk hown
          clear q1 q2 hF hph hpm hsep ha1 ha2 hown
          go_wp2_with (first
            | (go_at_call 120; (with_reducible refine (empty_no g1 _ _ _ _ B1.out (by simp)).mono ?_); rintro e w3 ⟨rfl, rfl⟩)
            | (go_at_call 120; (with_reducible refine (empty_no g2 _ _ _ _ B2.out (by simp)).mono ?_); rintro e w3 ⟨rfl, rfl⟩)
            | (go_at_call 121; (with_reducible refine (front_any g1 a1 o1 _ _ _ B1.out (by simp)).mono ?_); rintro e w3 ⟨rfl, rfl⟩)
            | (go_at_call 121; (with_reducible refine (front_any g2 a2 o2 _ _ _ B2.out (by simp)).mono ?_); rintro e w3 ⟨rfl, rfl⟩))
          go_quiet (fail)
          go_wp2
          go_region_law ((refine step_append_lies _ (by rfl) _ _ _ (by rfl) w.heap.size 74 i0 _ 3 24 Try.underlying63 hi0 hz0 hz1 hz2 rfl (by omega) _ out.length (hcells out) (by rfl) (by exact HO.out.alloc _) ⟨wr.heap.size, 0, none⟩ 1 1 [.int .i64 s1, .int .i64 s2, .int .i64 y] (by rfl) (by rfl) (World.news_of_block (cs := #[.int .i64 s1, .int .i64 s2, .int .i64 y]) (t := 74) (fr := (0, 0)) (by exact heap_alloc_new wr (.cells #[.int .i64 s1, .int .i64 s2, .int .i64 y] 74))) (by simp [Value.oneCell']) (by omega) (by simp only [maxLen]; omega) (by omega) (by have := hB.size; simp; omega) (wr.heap.size + 1) (by simp) ?_; intro gg cap w3 hown1 hgrow hat hlt1; obtain ⟨hK3, hB3⟩ := haul_app (wr := wr) (o := .cells #[.int .i64 s1, .int .i64 s2, .int .i64 y] 74) ⟨hgrow.os, hgrow.tape, hgrow.output, hgrow.size, hgrow.block⟩ HO.out hB (Nat.le_refl _)))
          all_goals
            have q1' := Q1.out.kept hK3 (fun e => hvg1 e.symm) (fun a o _ e hk => by injection e with e; injection e with e; subst e; exact hva hk.symm)
            have q2' := Q2.out.kept hK3 (fun e => hvg2 e.symm) (fun a o _ e hk => by injection e with e; injection e with e; subst e; exact hvb hk.symm)
            obtain ⟨ca0', ca1', fa', _, _, cur1', ha1'⟩ := q1'.cells
            obtain ⟨cb0', cb1', fb', _, _, cur2', ha2'⟩ := q2'.cells
            have P1 := Aside0.mk q1'.1
            have P2 := Aside0.mk q2'.1
            have n11 := blk_ne P1.out ha1' (by decide)
            have n12 := blk_ne P1.out ha2' (by decide)
            have n21 := blk_ne P2.out ha1' (by decide)
            have n22 := blk_ne P2.out ha2' (by decide)
            have l1 := q1'.2.2.1
            have l2 := q2'.2.2.1
            have R := Aside0.mk (Rnd.mk (n := y) q1' q2' hown1 n12 n21 hne hg12 hB3 HF.out HPH.out HPM.out hlen)
            clear q1' q2' hown1 hK3 hgrow hat ca0 ca1 cb0 cb1 fa fb ha1' ha2'
            go_wp2_with (go_at_call 122; (with_reducible refine (drop_any g2 a2 o2 _ c2 _ ?hq (by simp) l2).mono ?_); (case hq => exact blk_far (blk_far P2.out n21 _) n22 _); rintro e w4 ⟨rfl, rfl⟩)
            go_roundg (hs.length + 1 + ms.length)
            case measure => simp only [List.length_cons]; omega
            case rel => exact ⟨(s1, x - y) :: hs, ms, by simp <;> omega, R.out.more hxy rfl⟩
end Go.Proofs.Ytffkojdmidhchaa.P
end
section
/- impl.HaulPlan: its plain function and its contract, in the print's form. -/
namespace Go.Proofs.Ytffkojdmidhchaa.P
open Go.RowKit Go.Proofs.YtffkojdmidhchaaW.PrintWords Go.Proofs.YtffkojdmidhchaaW.PrintLast Go.Proofs.YtffkojdmidhchaaW.PrintMore
set_option linter.unusedVariables false
set_option linter.unusedSimpArgs false
set_option maxHeartbeats 4000000
set_option maxRecDepth 20000

def impl_HaulPlan.f (k : Nat) (l0 : List Int) : Option ((List S74) × Bool) :=
  (impl_HaulBalanced.f k l0).bind fun b => if b = true then some (haul (pilesH l0 0) (pilesM l0 0), true) else some ([], false)
theorem impl_HaulPlan.mono : ∀ a0 k, LeO (impl_HaulPlan.f k a0) (impl_HaulPlan.f (k + 1) a0) := fun a0 k =>
  LeO.bind (impl_HaulBalanced.mono a0 k) (fun _ => LeO.refl _)
theorem reps_h (w : World) (base : Nat) (ok : Nat → Prop) (l : List S74) : Reps (k74.M w base ok) 3 l (hcells l) := by
  induction l with
  | nil => exact Reps.none _ _
  | cons p l ih =>
    rw [show hcells (p :: l) = .int .i64 p.f0 :: .int .i64 p.f1 :: .int .i64 p.f2 :: hcells l by simp [hcells]]
    exact Reps.c3 (k74_mkM w base ok p) ih
theorem R_of_h {w : World} {base : Nat} {v : Value} {l : List S74} (h : w.ownsRow base 74 3 v l.length (hcells l)) : Kd.R k74 74 w base (fun _ => True) v l :=
  ⟨fun _ _ => trivial, hcells l, h, reps_h _ _ _ _⟩
theorem HaulPlan_no (A0 : Option Addr) (c0 : Nat) (l : List Int) (w : World)
    (HB : Calls Try.prog 118 #[.slice A0 l.length c0] w fun e w' => e = .returned (.bool false) ∧ Below w.heap.size w w') :
    Calls Try.prog 47 #[.slice A0 l.length c0] w fun e w' => ∃ v0_ : Value, e = .returned (.tuple #[v0_, .bool false]) ∧ Kd.R k74 74 w' w.heap.size (fun _ => True) v0_ [] ∧ Below w.heap.size w w' := by
  have H0 := Aside0.mk HB; clear HB
  go_enter Try.func47, Try.ntmps47
  go_wp2_with (go_at_call 118; refine H0.out.mono ?_; rintro e w1 ⟨rfl, hw1⟩)
  go_ret2
  refine ⟨_, rfl, R_of_h (l := []) ?_, hw1.alloc hw1.size _⟩
  exact World.ownsRow_lit (base := w.heap.size) (e := 74) (size := 3) w1 #[] 0 hw1.size (by simp [maxLen]) rfl
theorem impl_HaulPlan.calls (k : Nat) (A0 : Option Addr) (c0 : Nat) (l0 : List Int) (r1 : List (S74)) (r2 : Bool) (w : World) (hr0 : Kd.C (Kd.int .i64) w A0 l0.length l0) (hc0 : l0.length ≤ c0) (h : impl_HaulPlan.f k l0 = some (r1, r2)) :
    Calls Try.prog 47 #[.slice A0 l0.length c0] w fun e w' => ∃ v0_ : Value, e = .returned (.tuple #[v0_, .bool r2]) ∧ Kd.R k74 74 w' w.heap.size (fun _ => True) v0_ r1 ∧ Below w.heap.size w w' := by
  unfold impl_HaulPlan.f at h
  obtain ⟨b, hb, h⟩ := Option.bind_eq_some_iff.mp h
  have hB := impl_HaulBalanced.calls k A0 c0 l0 b w hr0 hc0 hb
  cases b with
  | true =>
    rw [if_pos rfl] at h
    injection h with h
    injection h with h1 h2
    subst h1 h2
    refine (HaulPlan_yes A0 c0 l0 w hr0 hc0 (hb_of hb) hB).mono ?_
    rintro e w' ⟨v0, rfl, ho, hw⟩
    exact ⟨v0, rfl, R_of_h ho, hw⟩
  | false =>
    rw [if_neg (by simp)] at h
    injection h with h
    injection h with h1 h2
    subst h1 h2
    exact HaulPlan_no A0 c0 l0 w hB
end Go.Proofs.Ytffkojdmidhchaa.P
end
section
-- written by wip/tools/mkprint.py (a program of this session over the kit's print). Lean checks it.
namespace Go.Proofs.Ytffkojdmidhchaa.P
open Go.RowKit Go.Proofs.YtffkojdmidhchaaW.PrintWords Go.Proofs.YtffkojdmidhchaaW.PrintLast Go.Proofs.YtffkojdmidhchaaW.PrintMore
attribute [local go_sem] max2_int min2_int max_two min_two max_three min_three max_four min_four   -- for this text's walks alone
set_option linter.unusedVariables false
set_option linter.unusedSimpArgs false

/-! ### laws_FnHaulLevel: function 10 -/
mutual
def laws_FnHaulLevel.j0 : Nat → List Int → List (S74) → Bool → List (S74) → Bool → Bool → Option (Bool)
  | 0, _, _, _, _, _, _ => none
  | k + 1, x3, x4, x5, x6, x7, x41 => if x41 = true then (if (x5 == x7) = true then ((laws_sameHauls.f k x4 x6).bind fun t481 => (some t481)) else (some false)) else ((some (([] : List Int) : List Int)).bind fun y482 => (if (x3.length : Int) ≥ 2 then (laws_FnHaulLevel.j1 k x3 x4 y482 (decide ((x3.length : Int) ≤ 6))) else (laws_FnHaulLevel.j1 k x3 x4 y482 false)))
def laws_FnHaulLevel.j1 : Nat → List Int → List (S74) → List Int → Bool → Option (Bool)
  | 0, _, _, _, _ => none
  | k + 1, x3, x4, x8, x9 => laws_FnHaulLevel.l0 k x3 x4 x8 x9 0 0
def laws_FnHaulLevel.l0 : Nat → List Int → List (S74) → List Int → Bool → Int → Int → Option (Bool)
  | 0, _, _, _, _, _, _ => none
  | k + 1, x3, x4, x8, x9, x10, x11 => if x11 < (x3.length : Int) then (if 0 ≤ x11 then (if x8.length < 17592186044416 then ((some (x8 ++ [wrap64 (500 + (rd x3 x11))] : List Int)).bind fun y486 => (if x9 = true then (if (rd x3 x11) ≥ (-500) then (laws_FnHaulLevel.l0 k x3 x4 y486 (decide ((rd x3 x11) ≤ 500)) x10 (wrap64 (x11 + 1))) else (laws_FnHaulLevel.l0 k x3 x4 y486 false x10 (wrap64 (x11 + 1)))) else (laws_FnHaulLevel.l0 k x3 x4 y486 false x10 (wrap64 (x11 + 1))))) else (none)) else (none)) else (laws_FnHaulLevel.l1 k x4 x8 x9 x10 0)
def laws_FnHaulLevel.l1 : Nat → List (S74) → List Int → Bool → Int → Int → Option (Bool)
  | 0, _, _, _, _, _ => none
  | k + 1, x4, x8, x9, x10, x12 => if x12 < (x4.length : Int) then (if 0 ≤ x12 then (laws_FnHaulLevel.l1 k x4 x8 x9 (wrap64 (x10 + ((rd_T74 x4 x12).f2))) (wrap64 (x12 + 1))) else (none)) else (if x9 = true then ((some (([x8, x8] : List (List Int)) : List (List Int))).bind fun y492 => ((impl_EarthCut.f y492 500).bind fun t495 => (if t495 = (wrap64 (2 * x10)) then ((impl_EarthFill.f y492 500).bind fun t496 => (some (t496 == (wrap64 (2 * x10))))) else (some false)))) else (some (decide (x10 ≥ 0))))
end
def laws_FnHaulLevel.f (k : Nat) (l0 : List Int) : Option (Bool) := if (l0.length : Int) > 1048576 then (some true) else ((spec_DrawHaulPlan.f k l0).bind fun t469 => ((impl_HaulPlan.f k t469).bind fun bt472 => ((spec_HaulPlan.f k t469).bind fun bt476 => (if (bt472.2 != bt476.2) = true then (laws_FnHaulLevel.j0 k t469 bt472.1 bt472.2 bt476.1 bt476.2 true) else ((laws_sameHauls.f k bt472.1 bt476.1).bind fun t480 => (if t480 = true then (laws_FnHaulLevel.j0 k t469 bt472.1 bt472.2 bt476.1 bt476.2 (!bt472.2)) else (laws_FnHaulLevel.j0 k t469 bt472.1 bt472.2 bt476.1 bt476.2 true)))))))
theorem laws_FnHaulLevel.mono_l : ∀ k, (∀ y0 y1 y2 y3 y4 y5, LeO (laws_FnHaulLevel.j0 k y0 y1 y2 y3 y4 y5) (laws_FnHaulLevel.j0 (k + 1) y0 y1 y2 y3 y4 y5)) ∧ (∀ y0 y1 y2 y3, LeO (laws_FnHaulLevel.j1 k y0 y1 y2 y3) (laws_FnHaulLevel.j1 (k + 1) y0 y1 y2 y3)) ∧ (∀ y0 y1 y2 y3 y4 y5, LeO (laws_FnHaulLevel.l0 k y0 y1 y2 y3 y4 y5) (laws_FnHaulLevel.l0 (k + 1) y0 y1 y2 y3 y4 y5)) ∧ (∀ y0 y1 y2 y3 y4, LeO (laws_FnHaulLevel.l1 k y0 y1 y2 y3 y4) (laws_FnHaulLevel.l1 (k + 1) y0 y1 y2 y3 y4))
  | 0 => ⟨fun _ _ _ _ _ _ r h => by simp [laws_FnHaulLevel.j0] at h, fun _ _ _ _ r h => by simp [laws_FnHaulLevel.j1] at h, fun _ _ _ _ _ _ r h => by simp [laws_FnHaulLevel.l0] at h, fun _ _ _ _ _ r h => by simp [laws_FnHaulLevel.l1] at h⟩
  | k + 1 => by
    obtain ⟨ih0, ih1, ih2, ih3⟩ := laws_FnHaulLevel.mono_l k
    refine ⟨?_, ?_, ?_, ?_⟩
    · intro y0 y1 y2 y3 y4 y5
      unfold laws_FnHaulLevel.j0
      repeat' first
      | (with_reducible exact ih0 _ _ _ _ _ _)
      | (with_reducible exact ih1 _ _ _ _)
      | (with_reducible exact ih2 _ _ _ _ _ _)
      | (with_reducible exact ih3 _ _ _ _ _)
      | (with_reducible exact impl_HaulPlan.mono _ _)
      | (with_reducible exact laws_sameHauls.mono _ _ _)
      | (with_reducible exact spec_DrawHaulPlan.mono _ _)
      | (with_reducible exact spec_HaulPlan.mono _ _)
      | (with_reducible exact LeO.refl _)
      | (with_reducible exact LeO.none _)
      | (with_reducible refine LeO.ite ?_ ?_)
      | (with_reducible refine LeO.bind ?_ (fun _ => ?_))
      | exact ih0 _ _ _ _ _ _
      | exact ih1 _ _ _ _
      | exact ih2 _ _ _ _ _ _
      | exact ih3 _ _ _ _ _
      | exact impl_HaulPlan.mono _ _
      | exact laws_sameHauls.mono _ _ _
      | exact spec_DrawHaulPlan.mono _ _
      | exact spec_HaulPlan.mono _ _
      | exact LeO.none _
      | refine LeO.ite ?_ ?_
      | refine LeO.bind ?_ (fun _ => ?_)
    · intro y0 y1 y2 y3
      unfold laws_FnHaulLevel.j1
      repeat' first
      | (with_reducible exact ih0 _ _ _ _ _ _)
      | (with_reducible exact ih1 _ _ _ _)
      | (with_reducible exact ih2 _ _ _ _ _ _)
      | (with_reducible exact ih3 _ _ _ _ _)
      | (with_reducible exact impl_HaulPlan.mono _ _)
      | (with_reducible exact laws_sameHauls.mono _ _ _)
      | (with_reducible exact spec_DrawHaulPlan.mono _ _)
      | (with_reducible exact spec_HaulPlan.mono _ _)
      | (with_reducible exact LeO.refl _)
      | (with_reducible exact LeO.none _)
      | (with_reducible refine LeO.ite ?_ ?_)
      | (with_reducible refine LeO.bind ?_ (fun _ => ?_))
      | exact ih0 _ _ _ _ _ _
      | exact ih1 _ _ _ _
      | exact ih2 _ _ _ _ _ _
      | exact ih3 _ _ _ _ _
      | exact impl_HaulPlan.mono _ _
      | exact laws_sameHauls.mono _ _ _
      | exact spec_DrawHaulPlan.mono _ _
      | exact spec_HaulPlan.mono _ _
      | exact LeO.none _
      | refine LeO.ite ?_ ?_
      | refine LeO.bind ?_ (fun _ => ?_)
    · intro y0 y1 y2 y3 y4 y5
      unfold laws_FnHaulLevel.l0
      repeat' first
      | (with_reducible exact ih0 _ _ _ _ _ _)
      | (with_reducible exact ih1 _ _ _ _)
      | (with_reducible exact ih2 _ _ _ _ _ _)
      | (with_reducible exact ih3 _ _ _ _ _)
      | (with_reducible exact impl_HaulPlan.mono _ _)
      | (with_reducible exact laws_sameHauls.mono _ _ _)
      | (with_reducible exact spec_DrawHaulPlan.mono _ _)
      | (with_reducible exact spec_HaulPlan.mono _ _)
      | (with_reducible exact LeO.refl _)
      | (with_reducible exact LeO.none _)
      | (with_reducible refine LeO.ite ?_ ?_)
      | (with_reducible refine LeO.bind ?_ (fun _ => ?_))
      | exact ih0 _ _ _ _ _ _
      | exact ih1 _ _ _ _
      | exact ih2 _ _ _ _ _ _
      | exact ih3 _ _ _ _ _
      | exact impl_HaulPlan.mono _ _
      | exact laws_sameHauls.mono _ _ _
      | exact spec_DrawHaulPlan.mono _ _
      | exact spec_HaulPlan.mono _ _
      | exact LeO.none _
      | refine LeO.ite ?_ ?_
      | refine LeO.bind ?_ (fun _ => ?_)
    · intro y0 y1 y2 y3 y4
      unfold laws_FnHaulLevel.l1
      repeat' first
      | (with_reducible exact ih0 _ _ _ _ _ _)
      | (with_reducible exact ih1 _ _ _ _)
      | (with_reducible exact ih2 _ _ _ _ _ _)
      | (with_reducible exact ih3 _ _ _ _ _)
      | (with_reducible exact impl_HaulPlan.mono _ _)
      | (with_reducible exact laws_sameHauls.mono _ _ _)
      | (with_reducible exact spec_DrawHaulPlan.mono _ _)
      | (with_reducible exact spec_HaulPlan.mono _ _)
      | (with_reducible exact LeO.refl _)
      | (with_reducible exact LeO.none _)
      | (with_reducible refine LeO.ite ?_ ?_)
      | (with_reducible refine LeO.bind ?_ (fun _ => ?_))
      | exact ih0 _ _ _ _ _ _
      | exact ih1 _ _ _ _
      | exact ih2 _ _ _ _ _ _
      | exact ih3 _ _ _ _ _
      | exact impl_HaulPlan.mono _ _
      | exact laws_sameHauls.mono _ _ _
      | exact spec_DrawHaulPlan.mono _ _
      | exact spec_HaulPlan.mono _ _
      | exact LeO.none _
      | refine LeO.ite ?_ ?_
      | refine LeO.bind ?_ (fun _ => ?_)
theorem laws_FnHaulLevel.mono : ∀ a0 k, LeO (laws_FnHaulLevel.f k a0) (laws_FnHaulLevel.f (k + 1) a0) := by
  intro a0 k
  obtain ⟨ih0, ih1, ih2, ih3⟩ := laws_FnHaulLevel.mono_l k
  unfold laws_FnHaulLevel.f
  repeat' first
      | (with_reducible exact ih0 _ _ _ _ _ _)
      | (with_reducible exact ih1 _ _ _ _)
      | (with_reducible exact ih2 _ _ _ _ _ _)
      | (with_reducible exact ih3 _ _ _ _ _)
      | (with_reducible exact impl_HaulPlan.mono _ _)
      | (with_reducible exact laws_sameHauls.mono _ _ _)
      | (with_reducible exact spec_DrawHaulPlan.mono _ _)
      | (with_reducible exact spec_HaulPlan.mono _ _)
      | (with_reducible exact LeO.refl _)
      | (with_reducible exact LeO.none _)
      | (with_reducible refine LeO.ite ?_ ?_)
      | (with_reducible refine LeO.bind ?_ (fun _ => ?_))
      | exact ih0 _ _ _ _ _ _
      | exact ih1 _ _ _ _
      | exact ih2 _ _ _ _ _ _
      | exact ih3 _ _ _ _ _
      | exact impl_HaulPlan.mono _ _
      | exact laws_sameHauls.mono _ _ _
      | exact spec_DrawHaulPlan.mono _ _
      | exact spec_HaulPlan.mono _ _
      | exact LeO.none _
      | refine LeO.ite ?_ ?_
      | refine LeO.bind ?_ (fun _ => ?_)
set_option maxHeartbeats 8000000 in
set_option maxRecDepth 100000 in
theorem laws_FnHaulLevel.calls (k : Nat) (A0 : Option Addr) (c0 : Nat) (l0 : List Int) (r : Bool) (w : World) (hr0 : Kd.C (Kd.int .u8) w A0 l0.length l0) (hc0 : l0.length ≤ c0) (h : laws_FnHaulLevel.f k l0 = some r) :
    Calls Try.prog 10 #[.slice A0 l0.length c0] w fun e w' => e = .returned (.bool r) ∧ Below w.heap.size w w' := by
  have HR0 := Aside0.mk hr0
  have HC0 := Aside0.mk hc0
  clear hr0 hc0
  have HB := Aside0.mk (Below.refl w.heap.size w)
  have H : (if (l0.length : Int) > 1048576 then (some true) else ((spec_DrawHaulPlan.f k l0).bind fun t469 => ((impl_HaulPlan.f k t469).bind fun bt472 => ((spec_HaulPlan.f k t469).bind fun bt476 => (if (bt472.2 != bt476.2) = true then (laws_FnHaulLevel.j0 k t469 bt472.1 bt472.2 bt476.1 bt476.2 true) else ((laws_sameHauls.f k bt472.1 bt476.1).bind fun t480 => (if t480 = true then (laws_FnHaulLevel.j0 k t469 bt472.1 bt472.2 bt476.1 bt476.2 (!bt472.2)) else (laws_FnHaulLevel.j0 k t469 bt472.1 bt472.2 bt476.1 bt476.2 true)))))))) = some r := h
  clear h
  by_cases c2 : (l0.length : Int) > 1048576
  · rw [if_pos c2] at H
    have c2b0 : decide (1048576 < (l0.length : Int)) = true := decide_eq_true c2
    have c2b1 : decide (1048576 < l0.length) = true := decide_eq_true (by omega)
    clear c2
    obtain rfl := Option.some.inj H
    go_enter Try.func10, Try.ntmps10
    go_wp2
    go_ret
    exact ⟨by first | rfl | (simp [errW_none, errW_some] <;> rfl) | (simp [*, errW_none, errW_some] <;> rfl), by repeat (first | (with_reducible first | exact HB.out | apply below_alloc | apply pw_below_drewN | apply below_drew1) | exact HB.out)⟩
  · rw [if_neg c2] at H
    have c2b0 : decide (1048576 < (l0.length : Int)) = false := decide_eq_false c2
    have c2b1 : decide (1048576 < l0.length) = false := decide_eq_false (by omega)
    clear c2
    replace H := Option.bind_eq_some_iff.mp H
    obtain ⟨t469, A30, H⟩ := H
    replace H : ((impl_HaulPlan.f k t469).bind fun bt472 => ((spec_HaulPlan.f k t469).bind fun bt476 => (if (bt472.2 != bt476.2) = true then (laws_FnHaulLevel.j0 k t469 bt472.1 bt472.2 bt476.1 bt476.2 true) else ((laws_sameHauls.f k bt472.1 bt476.1).bind fun t480 => (if t480 = true then (laws_FnHaulLevel.j0 k t469 bt472.1 bt472.2 bt476.1 bt476.2 (!bt472.2)) else (laws_FnHaulLevel.j0 k t469 bt472.1 bt472.2 bt476.1 bt476.2 true)))))) = some r := H
    have A3 := Aside0.mk A30
    clear A30
    replace H := Option.bind_eq_some_iff.mp H
    obtain ⟨⟨t472, t473⟩, A40, H⟩ := H
    replace H : ((spec_HaulPlan.f k t469).bind fun bt476 => (if (t473 != bt476.2) = true then (laws_FnHaulLevel.j0 k t469 t472 t473 bt476.1 bt476.2 true) else ((laws_sameHauls.f k t472 bt476.1).bind fun t480 => (if t480 = true then (laws_FnHaulLevel.j0 k t469 t472 t473 bt476.1 bt476.2 (!t473)) else (laws_FnHaulLevel.j0 k t469 t472 t473 bt476.1 bt476.2 true))))) = some r := H
    have A4 := Aside0.mk A40
    clear A40
    replace H := Option.bind_eq_some_iff.mp H
    obtain ⟨⟨t476, t477⟩, A50, H⟩ := H
    replace H : (if (t473 != t477) = true then (laws_FnHaulLevel.j0 k t469 t472 t473 t476 t477 true) else ((laws_sameHauls.f k t472 t476).bind fun t480 => (if t480 = true then (laws_FnHaulLevel.j0 k t469 t472 t473 t476 t477 (!t473)) else (laws_FnHaulLevel.j0 k t469 t472 t473 t476 t477 true)))) = some r := H
    have A5 := Aside0.mk A50
    clear A50
    have HC6 := Aside0.mk H
    clear H
    go_enter Try.func10, Try.ntmps10
    go_upto_region 6 with (first | ((with_reducible refine gate_callee (f := 53) rfl ?_); refine goesL_ (some 18) rfl rfl Try.func53 (by kernel_rfl) rfl #[.slice A0 l0.length c0] rfl (by (try simp only [List.map_toArray, List.map_cons, List.map_nil]); first | done | rfl | (simp only [List.length_drop, List.length_take]; rfl)) ?_; (with_reducible refine (spec_DrawHaulPlan.calls k _ _ l0 t469 _ ?side1 ?side2 A3.out).mono ?_); (case side1 => repeat (first | exact HR0.out | (with_reducible refine Kd.C_alloc ?_ _) | (with_reducible refine Kd.C_drewN ?_ _) | (with_reducible refine Kd.C_drew ?_))); (case side2 => exact HC0.out); rintro e w7 ⟨v470, rfl, ho0, hb⟩; refine ⟨_, rfl, ?_⟩; have n0_ := Aside0.mk (Kd.R_lower ho0 (below_size (by repeat (first | (with_reducible first | exact HB.out | apply below_alloc | apply pw_below_drewN | apply below_drew1) | exact HB.out)))); have n1_ := Aside0.mk (below_step (by repeat (first | (with_reducible first | exact HB.out | apply below_alloc | apply pw_below_drewN | apply below_drew1) | exact HB.out)) hb); clear HB; have HO471 := n0_; have HB := n1_; clear n0_ n1_; (try clear hb); (try clear hb2); (try clear hk); (try clear hi); (try clear ho0); obtain ⟨Ao8, co8, eo8⟩ := Kd.R_slice HO471.out; subst eo8) | ((with_reducible refine gate_callee (f := 47) rfl ?_); refine goesL_ (some 21) rfl rfl Try.func47 (by kernel_rfl) rfl #[.slice Ao8 t469.length co8] rfl (by (try simp only [List.map_toArray, List.map_cons, List.map_nil]); first | done | rfl | (simp only [List.length_drop, List.length_take]; rfl)) ?_; (with_reducible refine (impl_HaulPlan.calls k _ _ t469 t472 t473 _ ?side1 ?side2 A4.out).mono ?_); (case side1 => repeat (first | exact (Kd.R_reads' HO471.out).2.2 | (with_reducible refine Kd.C_alloc ?_ _) | (with_reducible refine Kd.C_drewN ?_ _) | (with_reducible refine Kd.C_drew ?_))); (case side2 => exact (Kd.R_reads' HO471.out).2.1); rintro e w9 ⟨v474, rfl, ho0, hb⟩; refine ⟨_, rfl, ?_⟩; have n0_ := Aside0.mk (Kd.R_below (by (with_reducible repeat (first | apply Kd.R_alloc | apply Kd.R_drewN | apply Kd.R_drew)); exact HO471.out) hb); have n1_ := Aside0.mk (Kd.R_lower ho0 (below_size (by repeat (first | (with_reducible first | exact HB.out | apply below_alloc | apply pw_below_drewN | apply below_drew1) | exact HB.out)))); have n2_ := Aside0.mk (below_step (by repeat (first | (with_reducible first | exact HB.out | apply below_alloc | apply pw_below_drewN | apply below_drew1) | exact HB.out)) hb); clear HO471; clear HB; have HO471 := n0_; have HO475 := n1_; have HB := n2_; clear n0_ n1_ n2_; (try clear hb); (try clear hb2); (try clear hk); (try clear hi); (try clear ho0)) | ((with_reducible refine gate_callee (f := 45) rfl ?_); refine goesL_ (some 26) rfl rfl Try.func45 (by kernel_rfl) rfl #[.slice Ao8 t469.length co8] rfl (by (try simp only [List.map_toArray, List.map_cons, List.map_nil]); first | done | rfl | (simp only [List.length_drop, List.length_take]; rfl)) ?_; (with_reducible refine (spec_HaulPlan.calls k _ _ t469 t476 t477 _ ?side1 ?side2 A5.out).mono ?_); (case side1 => repeat (first | exact (Kd.R_reads' HO471.out).2.2 | (with_reducible refine Kd.C_alloc ?_ _) | (with_reducible refine Kd.C_drewN ?_ _) | (with_reducible refine Kd.C_drew ?_))); (case side2 => exact (Kd.R_reads' HO471.out).2.1); rintro e w10 ⟨v478, rfl, ho0, hb⟩; refine ⟨_, rfl, ?_⟩; have n0_ := Aside0.mk (Kd.R_below (by (with_reducible repeat (first | apply Kd.R_alloc | apply Kd.R_drewN | apply Kd.R_drew)); exact HO471.out) hb); have n1_ := Aside0.mk (Kd.R_elder' (by (with_reducible repeat (first | apply Kd.R_alloc | apply Kd.R_drewN | apply Kd.R_drew)); exact HO475.out) (Kd.R_base ho0) hb); have n2_ := Aside0.mk (Kd.R_lower (Kd.R_new' ho0 (Kd.R_lt (by (with_reducible repeat (first | apply Kd.R_alloc | apply Kd.R_drewN | apply Kd.R_drew)); exact HO475.out))) (below_size (by repeat (first | (with_reducible first | exact HB.out | apply below_alloc | apply pw_below_drewN | apply below_drew1) | exact HB.out)))); have n3_ := Aside0.mk (below_step (by repeat (first | (with_reducible first | exact HB.out | apply below_alloc | apply pw_below_drewN | apply below_drew1) | exact HB.out)) hb); clear HO471; clear HO475; clear HB; have HO471 := n0_; have HO475 := n1_; have HO479 := n2_; have HB := n3_; clear n0_ n1_ n2_ n3_; (try clear hb); (try clear hb2); (try clear hk); (try clear hi); (try clear ho0)))
    (try simp only [Act.put, List.setIfInBounds_toArray, List.set_cons_zero, List.set_cons_succ])
    go_cut [41] (fun v41 wc => ∃ (kq : Nat) (x41_5 : Bool), v41 = .bool x41_5 ∧ Aside0 (laws_FnHaulLevel.j0 kq t469 t472 t473 t476 t477 x41_5 = some r) ∧ Aside0 (kq ≤ k) ∧ Aside0 (Kd.R (Kd.int .i64) 3 wc w.heap.size (fun _ => True) (.slice Ao8 t469.length co8) t469) ∧ Aside0 (Kd.R k74 74 wc w.heap.size (fun k_ => some k_ ≠ (v478 : Value).ownBlock) v474 t472) ∧ Aside0 (Kd.R k74 74 wc w.heap.size (fun k_ => some k_ ≠ (v474 : Value).ownBlock) v478 t476) ∧ Aside0 (Below w.heap.size w wc))
    case first =>
      have H := HC6.out
      clear HC6
      by_cases c11 : (t473 != t477) = true
      · rw [if_pos c11] at H
        have c11b0 : (t473 != t477) = true := c11
        (try (have c11b1 : decide (t473 = t477) = false := by simpa using c11))
        (try (have c11b2 : (t473 == t477) = false := by simpa using c11))
        (try (have c11b3 : ¬ (t473 = t477) := by simpa using c11))
        clear c11
        (first | rw [c11b0] | (simp only [i64_w, i32_w]; rw [c11b0]) | skip)
        have H' := Aside0.mk H
        clear H
        go_wp2
        go_meet
        case rel => exact ⟨_, (true), (by first | rfl | (simp; done) | (simp [*]; done)), H', ⟨by first | omega | exact Nat.le_refl _⟩, ⟨by (with_reducible repeat (first | apply Kd.R_alloc | apply Kd.R_drewN | apply Kd.R_drew)); exact HO471.out⟩, ⟨by (with_reducible repeat (first | apply Kd.R_alloc | apply Kd.R_drewN | apply Kd.R_drew)); exact Kd.R_mono HO475.out (fun _ hk => hk.2)⟩, ⟨by (with_reducible repeat (first | apply Kd.R_alloc | apply Kd.R_drewN | apply Kd.R_drew)); exact Kd.R_mono HO479.out (fun _ hk => hk.2)⟩, ⟨by repeat (first | (with_reducible first | exact HB.out | apply below_alloc | apply pw_below_drewN | apply below_drew1) | exact HB.out)⟩⟩
      · rw [if_neg c11] at H
        have c11b0 : (t473 != t477) = false := by simpa using c11
        (try (have c11b1 : decide (t473 = t477) = true := by simpa using c11))
        (try (have c11b2 : (t473 == t477) = true := by simpa using c11))
        clear c11
        (first | rw [c11b0] | (simp only [i64_w, i32_w]; rw [c11b0]) | skip)
        replace H := Option.bind_eq_some_iff.mp H
        obtain ⟨t480, A120, H⟩ := H
        replace H : (if t480 = true then (laws_FnHaulLevel.j0 k t469 t472 t473 t476 t477 (!t473)) else (laws_FnHaulLevel.j0 k t469 t472 t473 t476 t477 true)) = some r := H
        have A12 := Aside0.mk A120
        clear A120
        by_cases c13 : t480 = true
        · subst c13
          have H1 : (laws_FnHaulLevel.j0 k t469 t472 t473 t476 t477 (!t473)) = some r := by rw [if_pos rfl] at H; exact H
          clear H
          have H := H1
          clear H1
          have H' := Aside0.mk H
          clear H
          obtain ⟨Ao14, co14, eo14⟩ := Kd.R_slice HO475.out
          subst eo14
          obtain ⟨Ao15, co15, eo15⟩ := Kd.R_slice HO479.out
          subst eo15
          go_wp2_with (first | (go_at_call 54; (with_reducible refine (laws_sameHauls.calls k _ _ t472 _ _ t476 true _ ?side1 ?side2 ?side3 ?side4 A12.out).mono ?_); (case side1 => repeat (first | exact (Kd.R_reads' HO475.out).2.2 | (with_reducible refine Kd.C_alloc ?_ _) | (with_reducible refine Kd.C_drewN ?_ _) | (with_reducible refine Kd.C_drew ?_))); (case side2 => exact (Kd.R_reads' HO475.out).2.1); (case side3 => repeat (first | exact (Kd.R_reads' HO479.out).2.2 | (with_reducible refine Kd.C_alloc ?_ _) | (with_reducible refine Kd.C_drewN ?_ _) | (with_reducible refine Kd.C_drew ?_))); (case side4 => exact (Kd.R_reads' HO479.out).2.1); rintro e w' ⟨rfl, ⟨nd, rfl⟩⟩))
          go_meet
          case rel => exact ⟨_, (!t473), (by first | rfl | (simp; done) | (simp [*]; done)), H', ⟨by first | omega | exact Nat.le_refl _⟩, ⟨by (with_reducible repeat (first | apply Kd.R_alloc | apply Kd.R_drewN | apply Kd.R_drew)); exact HO471.out⟩, ⟨by (with_reducible repeat (first | apply Kd.R_alloc | apply Kd.R_drewN | apply Kd.R_drew)); exact Kd.R_mono HO475.out (fun _ hk => hk.2)⟩, ⟨by (with_reducible repeat (first | apply Kd.R_alloc | apply Kd.R_drewN | apply Kd.R_drew)); exact Kd.R_mono HO479.out (fun _ hk => hk.2)⟩, ⟨by repeat (first | (with_reducible first | exact HB.out | apply below_alloc | apply pw_below_drewN | apply below_drew1) | exact HB.out)⟩⟩
        · replace c13 := Bool.eq_false_iff.mpr c13
          subst c13
          have H1 : (laws_FnHaulLevel.j0 k t469 t472 t473 t476 t477 true) = some r := by rw [if_neg (show ¬ (false = true) by decide)] at H; exact H
          clear H
          have H := H1
          clear H1
          have H' := Aside0.mk H
          clear H
          obtain ⟨Ao16, co16, eo16⟩ := Kd.R_slice HO475.out
          subst eo16
          obtain ⟨Ao17, co17, eo17⟩ := Kd.R_slice HO479.out
          subst eo17
          go_wp2_with (first | (go_at_call 54; (with_reducible refine (laws_sameHauls.calls k _ _ t472 _ _ t476 false _ ?side1 ?side2 ?side3 ?side4 A12.out).mono ?_); (case side1 => repeat (first | exact (Kd.R_reads' HO475.out).2.2 | (with_reducible refine Kd.C_alloc ?_ _) | (with_reducible refine Kd.C_drewN ?_ _) | (with_reducible refine Kd.C_drew ?_))); (case side2 => exact (Kd.R_reads' HO475.out).2.1); (case side3 => repeat (first | exact (Kd.R_reads' HO479.out).2.2 | (with_reducible refine Kd.C_alloc ?_ _) | (with_reducible refine Kd.C_drewN ?_ _) | (with_reducible refine Kd.C_drew ?_))); (case side4 => exact (Kd.R_reads' HO479.out).2.1); rintro e w' ⟨rfl, ⟨nd, rfl⟩⟩))
          go_meet
          case rel => exact ⟨_, (true), (by first | rfl | (simp; done) | (simp [*]; done)), H', ⟨by first | omega | exact Nat.le_refl _⟩, ⟨by (with_reducible repeat (first | apply Kd.R_alloc | apply Kd.R_drewN | apply Kd.R_drew)); exact HO471.out⟩, ⟨by (with_reducible repeat (first | apply Kd.R_alloc | apply Kd.R_drewN | apply Kd.R_drew)); exact Kd.R_mono HO475.out (fun _ hk => hk.2)⟩, ⟨by (with_reducible repeat (first | apply Kd.R_alloc | apply Kd.R_drewN | apply Kd.R_drew)); exact Kd.R_mono HO479.out (fun _ hk => hk.2)⟩, ⟨by repeat (first | (with_reducible first | exact HB.out | apply below_alloc | apply pw_below_drewN | apply below_drew1) | exact HB.out)⟩⟩
    case rest =>
      clear HC6
      try clear c1
      try clear c2
      try clear c2b0
      try clear c2b1
      try clear p2
      try clear c4
      try clear c5
      try clear c10
      try clear c11
      try clear c11b0
      try clear c11b1
      try clear c11b2
      try clear c13
      obtain ⟨kq, x41_5, rfl, HA, HJ5, HO_3, HO_4, HO_6, HB⟩ := hcut
      cases kq with
      | zero => exact absurd HA.out (by simp [laws_FnHaulLevel.j0])
      | succ kj5 =>
        have H := HA.out
        clear HA
        simp only [laws_FnHaulLevel.j0] at H
        by_cases c18 : x41_5 = true
        · subst c18
          have H1 : (if (t473 == t477) = true then ((laws_sameHauls.f kj5 t472 t476).bind fun t481 => (some t481)) else (some false)) = some r := by rw [if_pos rfl] at H; exact H
          clear H
          have H := H1
          clear H1
          by_cases c19 : (t473 == t477) = true
          · rw [if_pos c19] at H
            have c19b0 : (t473 == t477) = true := c19
            (try (have c19b1 : decide (t473 = t477) = true := by simpa using c19))
            (try (have c19b2 : (t473 == t477) = true := by simpa using c19))
            clear c19
            replace H := Option.bind_eq_some_iff.mp H
            obtain ⟨t481, A200, H⟩ := H
            replace H : (some t481) = some r := H
            have A20 := Aside0.mk A200
            clear A200
            obtain rfl := Option.some.inj H
            obtain ⟨Ao21, co21, eo21⟩ := Kd.R_slice HO_4.out
            subst eo21
            obtain ⟨Ao22, co22, eo22⟩ := Kd.R_slice HO_6.out
            subst eo22
            go_wp2_with (first | (go_at_call 54; (with_reducible refine (laws_sameHauls.calls kj5 _ _ t472 _ _ t476 t481 _ ?side1 ?side2 ?side3 ?side4 A20.out).mono ?_); (case side1 => repeat (first | exact (Kd.R_reads' HO_4.out).2.2 | (with_reducible refine Kd.C_alloc ?_ _) | (with_reducible refine Kd.C_drewN ?_ _) | (with_reducible refine Kd.C_drew ?_))); (case side2 => exact (Kd.R_reads' HO_4.out).2.1); (case side3 => repeat (first | exact (Kd.R_reads' HO_6.out).2.2 | (with_reducible refine Kd.C_alloc ?_ _) | (with_reducible refine Kd.C_drewN ?_ _) | (with_reducible refine Kd.C_drew ?_))); (case side4 => exact (Kd.R_reads' HO_6.out).2.1); rintro e w' ⟨rfl, ⟨nd, rfl⟩⟩))
            go_ret
            exact ⟨by first | rfl | (simp [errW_none, errW_some] <;> rfl) | (simp [*, errW_none, errW_some] <;> rfl), by repeat (first | (with_reducible first | exact HB.out | apply below_alloc | apply pw_below_drewN | apply below_drew1) | exact HB.out)⟩
          · rw [if_neg c19] at H
            have c19b0 : (t473 == t477) = false := by simpa using c19
            (try (have c19b1 : decide (t473 = t477) = false := by simpa using c19))
            (try (have c19b2 : (t473 == t477) = false := by simpa using c19))
            (try (have c19b3 : ¬ (t473 = t477) := by simpa using c19))
            clear c19
            obtain rfl := Option.some.inj H
            go_wp2
            go_ret
            exact ⟨by first | rfl | (simp [errW_none, errW_some] <;> rfl) | (simp [*, errW_none, errW_some] <;> rfl), by repeat (first | (with_reducible first | exact HB.out | apply below_alloc | apply pw_below_drewN | apply below_drew1) | exact HB.out)⟩
        · replace c18 := Bool.eq_false_iff.mpr c18
          subst c18
          have H1 : ((some (([] : List Int) : List Int)).bind fun y482 => (if (t469.length : Int) ≥ 2 then (laws_FnHaulLevel.j1 kj5 t469 t472 y482 (decide ((t469.length : Int) ≤ 6))) else (laws_FnHaulLevel.j1 kj5 t469 t472 y482 false))) = some r := by rw [if_neg (show ¬ (false = true) by decide)] at H; exact H
          clear H
          have H := H1
          clear H1
          obtain ⟨y482, hy482⟩ : ∃ y_ : List Int, y_ = (([] : List Int)) := ⟨_, rfl⟩
          replace H : (if (t469.length : Int) ≥ 2 then (laws_FnHaulLevel.j1 kj5 t469 t472 y482 (decide ((t469.length : Int) ≤ 6))) else (laws_FnHaulLevel.j1 kj5 t469 t472 y482 false)) = some r := by first | (rw [hy482]; with_reducible exact H) | (have H2_ := (Option.bind_some _ _).symm.trans H; rw [hy482]; with_reducible exact H2_) | (have H2_ := (Option.bind_some _ _).symm.trans H; with_reducible exact H2_) | with_reducible exact H | (rw [hy482]; exact H) | exact H
          have Ny482 := Aside0.mk hy482
          clear hy482
          have HC23 := Aside0.mk H
          clear H
          go_upto_region 9 with (first | ((with_reducible refine gate_dst (N := 50) rfl ?_); (try (refine gate_guard (by rfl) ?_; dsimp only)); refine Kd.R_lit (Kd.int .i64) _ 3 ?hg (N := 50) ?hd (xs := ([] : List Int)) (inner := []) (ok := fun _ => True) (okp := fun _ => True) ?hr ?hp (fun _ hk => hk) trivial (Below.refl _ _) (Nat.le_refl _) (by simp) ?_; (case hd => rfl); (case hg => rfl); (case hr => first | (go_simp; done) | (go_simp; rfl)); (case hp => exact (Reps.none _ _)); intro v483 w24 ho25 hb hg_ hnew_; clear hg_ hnew_; (first | rw [← Ny482.out] at ho25 | (simp only [Int.reduceToNat] at ho25; rw [← Ny482.out] at ho25)); have n0_ := Aside0.mk (Kd.R_elder' (by (with_reducible repeat (first | apply Kd.R_alloc | apply Kd.R_drewN | apply Kd.R_drew)); exact HO_3.out) (Kd.R_base ho25) hb); have n1_ := Aside0.mk (Kd.R_below (by (with_reducible repeat (first | apply Kd.R_alloc | apply Kd.R_drewN | apply Kd.R_drew)); exact HO_4.out) hb); have n2_ := Aside0.mk (Kd.R_below (by (with_reducible repeat (first | apply Kd.R_alloc | apply Kd.R_drewN | apply Kd.R_drew)); exact HO_6.out) hb); have n3_ := Aside0.mk (Kd.R_lower (Kd.R_new' ho25 (Kd.R_lt (by (with_reducible repeat (first | apply Kd.R_alloc | apply Kd.R_drewN | apply Kd.R_drew)); exact HO_3.out))) (below_size (by repeat (first | (with_reducible first | exact HB.out | apply below_alloc | apply pw_below_drewN | apply below_drew1) | exact HB.out)))); have n4_ := Aside0.mk (below_step (by repeat (first | (with_reducible first | exact HB.out | apply below_alloc | apply pw_below_drewN | apply below_drew1) | exact HB.out)) hb); clear HO_3; clear HO_4; clear HO_6; clear HB; have HO_3 := n0_; have HO_4 := n1_; have HO_6 := n2_; have HO484 := n3_; have HB := n4_; clear n0_ n1_ n2_ n3_ n4_; clear hb ho25))
          (try simp only [Act.put, List.setIfInBounds_toArray, List.set_cons_zero, List.set_cons_succ])
          go_cut [9] (fun v9 wc => ∃ (kq : Nat) (x9_22 : Bool), v9 = .bool x9_22 ∧ Aside0 (laws_FnHaulLevel.j1 kq t469 t472 y482 x9_22 = some r) ∧ Aside0 (kq ≤ kj5) ∧ Aside0 (Kd.R (Kd.int .i64) 3 wc w.heap.size (fun k_ => some k_ ≠ (v483 : Value).ownBlock) (.slice Ao8 t469.length co8) t469) ∧ Aside0 (Kd.R k74 74 wc w.heap.size (fun _ => True) v474 t472) ∧ Aside0 (Kd.R (Kd.int .i64) 3 wc w.heap.size (fun k_ => some k_ ≠ ((.slice Ao8 t469.length co8) : Value).ownBlock) v483 y482) ∧ Aside0 (Below w.heap.size w wc))
          case first =>
            have H := HC23.out
            clear HC23
            by_cases c26 : (t469.length : Int) ≥ 2
            · rw [if_pos c26] at H
              have c26b0 : decide (2 ≤ (t469.length : Int)) = true := decide_eq_true c26
              have c26b1 : decide (2 ≤ t469.length) = true := decide_eq_true (by omega)
              clear c26
              (first | rw [c26b0] | (simp only [i64_w, i32_w]; rw [c26b0]) | skip)
              have H' := Aside0.mk H
              clear H
              go_wp2
              go_meet
              case rel => exact ⟨_, (decide ((t469.length : Int) ≤ 6)), (by first | rfl | (simp; done) | (simp [*]; done)), H', ⟨by have := HJ5.out; first | omega | exact Nat.le_refl _⟩, ⟨by (with_reducible repeat (first | apply Kd.R_alloc | apply Kd.R_drewN | apply Kd.R_drew)); exact Kd.R_mono HO_3.out (fun _ hk => hk.2)⟩, ⟨by (with_reducible repeat (first | apply Kd.R_alloc | apply Kd.R_drewN | apply Kd.R_drew)); exact Kd.R_mono HO_4.out (fun _ hk => trivial)⟩, ⟨by (with_reducible repeat (first | apply Kd.R_alloc | apply Kd.R_drewN | apply Kd.R_drew)); exact Kd.R_mono HO484.out (fun _ hk => hk.2)⟩, ⟨by repeat (first | (with_reducible first | exact HB.out | apply below_alloc | apply pw_below_drewN | apply below_drew1) | exact HB.out)⟩⟩
            · rw [if_neg c26] at H
              have c26b0 : decide (2 ≤ (t469.length : Int)) = false := decide_eq_false c26
              have c26b1 : decide (2 ≤ t469.length) = false := decide_eq_false (by omega)
              clear c26
              (first | rw [c26b0] | (simp only [i64_w, i32_w]; rw [c26b0]) | skip)
              have H' := Aside0.mk H
              clear H
              go_wp2
              go_meet
              case rel => exact ⟨_, (false), (by first | rfl | (simp; done) | (simp [*]; done)), H', ⟨by have := HJ5.out; first | omega | exact Nat.le_refl _⟩, ⟨by (with_reducible repeat (first | apply Kd.R_alloc | apply Kd.R_drewN | apply Kd.R_drew)); exact Kd.R_mono HO_3.out (fun _ hk => hk.2)⟩, ⟨by (with_reducible repeat (first | apply Kd.R_alloc | apply Kd.R_drewN | apply Kd.R_drew)); exact Kd.R_mono HO_4.out (fun _ hk => trivial)⟩, ⟨by (with_reducible repeat (first | apply Kd.R_alloc | apply Kd.R_drewN | apply Kd.R_drew)); exact Kd.R_mono HO484.out (fun _ hk => hk.2)⟩, ⟨by repeat (first | (with_reducible first | exact HB.out | apply below_alloc | apply pw_below_drewN | apply below_drew1) | exact HB.out)⟩⟩
          case rest =>
            clear HC23
            try clear c1
            try clear c2
            try clear c2b0
            try clear c2b1
            try clear p2
            try clear c4
            try clear c5
            try clear c10
            try clear c11
            try clear c11b0
            try clear c11b1
            try clear c11b2
            try clear c13
            try clear c18
            try clear c19
            try clear c19b0
            try clear c19b1
            try clear c19b2
            try clear c26
            try clear c26b0
            try clear c26b1
            try clear p2
            obtain ⟨kq, x9_22, rfl, HA, HJ22, HO_3, HO_4, HO_8, HB⟩ := hcut
            cases kq with
            | zero => exact absurd HA.out (by simp [laws_FnHaulLevel.j1])
            | succ kj22 =>
              have H := HA.out
              clear HA
              simp only [laws_FnHaulLevel.j1] at H
              have H' := Aside0.mk H
              clear H
              go_wp2
              go_loopg [8, 9, 11] kj22 (fun kq v8 v9 v11 w' => ∃ (x8_3 : List Int) (x9_3 : Bool) (x11_3 : Int), v9 = .bool x9_3 ∧ v11 = .int .i64 x11_3 ∧ Aside0 (laws_FnHaulLevel.l0 kq t469 t472 x8_3 x9_3 0 x11_3 = some r) ∧ Aside0 (kq ≤ kj22) ∧ Aside0 (Kd.R (Kd.int .i64) 3 w' w.heap.size (fun k_ => some k_ ≠ (v8 : Value).ownBlock) (.slice Ao8 t469.length co8) t469) ∧ Aside0 (Kd.R k74 74 w' w.heap.size (fun _ => True) v474 t472) ∧ Aside0 (Kd.R (Kd.int .i64) 3 w' w.heap.size (fun k_ => some k_ ≠ ((.slice Ao8 t469.length co8) : Value).ownBlock) v8 x8_3) ∧ Aside0 (Below w.heap.size w w'))
              case atStart => exact ⟨(y482), (x9_22), (0), (by first | rfl | (simp; done) | (simp [*]; done)), (by first | rfl | (simp; done) | (simp [*]; done)), H', ⟨Nat.le_refl _⟩, ⟨by (with_reducible repeat (first | apply Kd.R_alloc | apply Kd.R_drewN | apply Kd.R_drew)); exact HO_3.out⟩, ⟨by (with_reducible repeat (first | apply Kd.R_alloc | apply Kd.R_drewN | apply Kd.R_drew)); exact HO_4.out⟩, ⟨by (with_reducible repeat (first | apply Kd.R_alloc | apply Kd.R_drewN | apply Kd.R_drew)); exact HO_8.out⟩, ⟨by repeat (first | (with_reducible first | exact HB.out | apply below_alloc | apply pw_below_drewN | apply below_drew1) | exact HB.out)⟩⟩
              case round =>
                clear H'
                try clear c1
                try clear c2
                try clear c2b0
                try clear c2b1
                try clear p2
                try clear c4
                try clear c5
                try clear c10
                try clear c11
                try clear c11b0
                try clear c11b1
                try clear c11b2
                try clear c13
                try clear c18
                try clear c19
                try clear c19b0
                try clear c19b1
                try clear c19b2
                try clear c26
                try clear c26b0
                try clear c26b1
                try clear p2
                obtain ⟨x8_3, x9_3, x11_3, rfl, rfl, HA, HK3, HO_3, HO_4, HO_8, HB⟩ := hrel
                cases gk with
                | zero => exact absurd HA.out (by simp [laws_FnHaulLevel.l0])
                | succ k3 =>
                  have H := HA.out
                  clear HA
                  simp only [laws_FnHaulLevel.l0] at H
                  by_cases c27 : x11_3 < (t469.length : Int)
                  · rw [if_pos c27] at H
                    have c27b0 : decide (x11_3 < (t469.length : Int)) = true := decide_eq_true c27
                    clear c27
                    by_cases c28 : 0 ≤ x11_3
                    · rw [if_pos c28] at H
                      have c28b0 : decide (0 ≤ x11_3) = true := decide_eq_true c28
                      clear c28
                      by_cases c29 : x8_3.length < 17592186044416
                      · rw [if_pos c29] at H
                        have LMc29 := Aside0.mk c29
                        clear c29
                        obtain ⟨y486, hy486⟩ : ∃ y_ : List Int, y_ = (x8_3 ++ [wrap64 (500 + (rd t469 x11_3))]) := ⟨_, rfl⟩
                        replace H : (if x9_3 = true then (if (rd t469 x11_3) ≥ (-500) then (laws_FnHaulLevel.l0 k3 t469 t472 y486 (decide ((rd t469 x11_3) ≤ 500)) 0 (wrap64 (x11_3 + 1))) else (laws_FnHaulLevel.l0 k3 t469 t472 y486 false 0 (wrap64 (x11_3 + 1)))) else (laws_FnHaulLevel.l0 k3 t469 t472 y486 false 0 (wrap64 (x11_3 + 1)))) = some r := by first | (rw [hy486]; with_reducible exact H) | (have H2_ := (Option.bind_some _ _).symm.trans H; rw [hy486]; with_reducible exact H2_) | (have H2_ := (Option.bind_some _ _).symm.trans H; with_reducible exact H2_) | with_reducible exact H | (rw [hy486]; exact H) | exact H
                        have Ny486 := Aside0.mk hy486
                        clear hy486
                        by_cases c30 : x9_3 = true
                        · subst c30
                          have H1 : (if (rd t469 x11_3) ≥ (-500) then (laws_FnHaulLevel.l0 k3 t469 t472 y486 (decide ((rd t469 x11_3) ≤ 500)) 0 (wrap64 (x11_3 + 1))) else (laws_FnHaulLevel.l0 k3 t469 t472 y486 false 0 (wrap64 (x11_3 + 1)))) = some r := by rw [if_pos rfl] at H; exact H
                          clear H
                          have H := H1
                          clear H1
                          by_cases c31 : (rd t469 x11_3) ≥ (-500)
                          · rw [if_pos c31] at H
                            have c31b0 : decide ((-500) ≤ (rd t469 x11_3)) = true := decide_eq_true c31
                            clear c31
                            have H' := Aside0.mk H
                            clear H
                            have p485 : 0 ≤ (x11_3 : Int) := of_decide_eq_true (by first | (with_reducible assumption) | assumption)
                            have q485 : x11_3 < (t469.length : Int) := of_decide_eq_true (by first | (with_reducible assumption) | assumption)
                            obtain ⟨ad485, e485, hx485_0⟩ := Kd.at_int (Kd.R_reads' HO_3.out).2.2 x11_3 p485 q485
                            cases e485
                            replace p485 := eq_true p485
                            replace q485 := eq_true q485
                            go_wp2_with (first | ((with_reducible refine gate_builtin (b := .append) (xs := #[.tmp 65, .tmp 71]) rfl ?_); (try (refine gate_guard (by rfl) ?_; dsimp only)); at_builtin; refine Kd.R_append (Kd.int .i64) (w0 := w) w.heap.size rfl (.tmp 65) (.tmp 71) 62 3 (.int .i64 0) 8 rfl Try.underlying62 info3 rfl (by decide) (by omega) u8 x8_3 (wrap64 (500 + (rd t469 x11_3))) [.int .i64 (wrap64 (500 + (rd t469 x11_3)))] (fun k_ => some k_ ≠ (.slice (some ad485) t469.length co8 : Value).ownBlock) (fun _ => False) rfl rfl ?aP (fun _ hk => hk.elim) ?aF ?aO ?aB ?aS ?aL ?_; (case aP => exact rfl); (case aB => exact (by repeat (first | (with_reducible first | exact HB.out | apply below_alloc | apply pw_below_drewN | apply below_drew1) | exact HB.out))); (case aF => exact (fun k_ hk => Kd.fresh' (Kd.R_lt (by (with_reducible repeat (first | apply Kd.R_alloc | apply Kd.R_drewN | apply Kd.R_drew)); exact HO_3.out)) k_ hk)); (case aO => exact (by (with_reducible repeat (first | apply Kd.R_alloc | apply Kd.R_drewN | apply Kd.R_drew)); exact HO_8.out)); (case aS => exact (below_size (by repeat (first | (with_reducible first | exact HB.out | apply below_alloc | apply pw_below_drewN | apply below_drew1) | exact HB.out)))); (case aL => have := LMc29.out; omega); intro v487 w32 ho hb hg hat; rw [← Ny486.out] at ho; have n0_ := Aside0.mk (Kd.R_after (ok := (fun _ => True)) (by (with_reducible repeat (first | apply Kd.R_alloc | apply Kd.R_drewN | apply Kd.R_drew)); exact Kd.R_mono HO_3.out (fun _ hk => ⟨trivial, hk⟩)) hg hat); have n1_ := Aside0.mk (Kd.R_over' (by (with_reducible repeat (first | apply Kd.R_alloc | apply Kd.R_drewN | apply Kd.R_drew)); exact HO_4.out) (Kd.R_typed (by (with_reducible repeat (first | apply Kd.R_alloc | apply Kd.R_drewN | apply Kd.R_drew)); exact HO_8.out)) (by decide) hg); have n2_ := Aside0.mk (hb); have n3_ := Aside0.mk (ho); clear HO_3; clear HO_4; clear HB; clear HO_8; have HO_3 := n0_; have HO_4 := n1_; have HB := n2_; have HO488 := n3_; clear n0_ n1_ n2_ n3_; clear ho hb hg hat; have p489 : 0 ≤ (x11_3 : Int) := of_decide_eq_true (by first | (with_reducible assumption) | assumption); have q489 : x11_3 < (t469.length : Int) := of_decide_eq_true (by first | (with_reducible assumption) | assumption); obtain ⟨ad489, e489, hx489_0⟩ := Kd.at_int (Kd.R_reads' HO_3.out).2.2 x11_3 p489 q489; obtain rfl : ad485 = ad489 := (by injection e489); replace p489 := eq_true p489; replace q489 := eq_true q489; have p490 : 0 ≤ (x11_3 : Int) := of_decide_eq_true (by first | (with_reducible assumption) | assumption); have q490 : x11_3 < (t469.length : Int) := of_decide_eq_true (by first | (with_reducible assumption) | assumption); obtain ⟨ad490, e490, hx490_0⟩ := Kd.at_int (Kd.R_reads' HO_3.out).2.2 x11_3 p490 q490; obtain rfl : ad485 = ad490 := (by injection e490); replace p490 := eq_true p490; replace q490 := eq_true q490))
                            go_roundg k3
                            case measure => have := HJ5.out; have := HJ22.out; have := HK3.out; omega
                            case rel => exact ⟨(y486), (decide ((rd t469 x11_3) ≤ 500)), (wrap64 (x11_3 + 1)), (by first | rfl | (simp; done) | (simp [*]; done)), (by first | rfl | (simp; done) | (simp [*]; done)), H', ⟨by have := HJ5.out; have := HJ22.out; have := HK3.out; omega⟩, ⟨by (with_reducible repeat (first | apply Kd.R_alloc | apply Kd.R_drewN | apply Kd.R_drew)); exact Kd.R_mono HO_3.out (fun _ hk => hk.2)⟩, ⟨by (with_reducible repeat (first | apply Kd.R_alloc | apply Kd.R_drewN | apply Kd.R_drew)); exact HO_4.out⟩, ⟨by (with_reducible repeat (first | apply Kd.R_alloc | apply Kd.R_drewN | apply Kd.R_drew)); exact HO488.out⟩, ⟨by repeat (first | (with_reducible first | exact HB.out | apply below_alloc | apply pw_below_drewN | apply below_drew1) | exact HB.out)⟩⟩
                          · rw [if_neg c31] at H
                            have c31b0 : decide ((-500) ≤ (rd t469 x11_3)) = false := decide_eq_false c31
                            clear c31
                            have H' := Aside0.mk H
                            clear H
                            have p485 : 0 ≤ (x11_3 : Int) := of_decide_eq_true (by first | (with_reducible assumption) | assumption)
                            have q485 : x11_3 < (t469.length : Int) := of_decide_eq_true (by first | (with_reducible assumption) | assumption)
                            obtain ⟨ad485, e485, hx485_0⟩ := Kd.at_int (Kd.R_reads' HO_3.out).2.2 x11_3 p485 q485
                            cases e485
                            replace p485 := eq_true p485
                            replace q485 := eq_true q485
                            go_wp2_with (first | ((with_reducible refine gate_builtin (b := .append) (xs := #[.tmp 65, .tmp 71]) rfl ?_); (try (refine gate_guard (by rfl) ?_; dsimp only)); at_builtin; refine Kd.R_append (Kd.int .i64) (w0 := w) w.heap.size rfl (.tmp 65) (.tmp 71) 62 3 (.int .i64 0) 8 rfl Try.underlying62 info3 rfl (by decide) (by omega) u8 x8_3 (wrap64 (500 + (rd t469 x11_3))) [.int .i64 (wrap64 (500 + (rd t469 x11_3)))] (fun k_ => some k_ ≠ (.slice (some ad485) t469.length co8 : Value).ownBlock) (fun _ => False) rfl rfl ?aP (fun _ hk => hk.elim) ?aF ?aO ?aB ?aS ?aL ?_; (case aP => exact rfl); (case aB => exact (by repeat (first | (with_reducible first | exact HB.out | apply below_alloc | apply pw_below_drewN | apply below_drew1) | exact HB.out))); (case aF => exact (fun k_ hk => Kd.fresh' (Kd.R_lt (by (with_reducible repeat (first | apply Kd.R_alloc | apply Kd.R_drewN | apply Kd.R_drew)); exact HO_3.out)) k_ hk)); (case aO => exact (by (with_reducible repeat (first | apply Kd.R_alloc | apply Kd.R_drewN | apply Kd.R_drew)); exact HO_8.out)); (case aS => exact (below_size (by repeat (first | (with_reducible first | exact HB.out | apply below_alloc | apply pw_below_drewN | apply below_drew1) | exact HB.out)))); (case aL => have := LMc29.out; omega); intro v487 w33 ho hb hg hat; rw [← Ny486.out] at ho; have n0_ := Aside0.mk (Kd.R_after (ok := (fun _ => True)) (by (with_reducible repeat (first | apply Kd.R_alloc | apply Kd.R_drewN | apply Kd.R_drew)); exact Kd.R_mono HO_3.out (fun _ hk => ⟨trivial, hk⟩)) hg hat); have n1_ := Aside0.mk (Kd.R_over' (by (with_reducible repeat (first | apply Kd.R_alloc | apply Kd.R_drewN | apply Kd.R_drew)); exact HO_4.out) (Kd.R_typed (by (with_reducible repeat (first | apply Kd.R_alloc | apply Kd.R_drewN | apply Kd.R_drew)); exact HO_8.out)) (by decide) hg); have n2_ := Aside0.mk (hb); have n3_ := Aside0.mk (ho); clear HO_3; clear HO_4; clear HB; clear HO_8; have HO_3 := n0_; have HO_4 := n1_; have HB := n2_; have HO488 := n3_; clear n0_ n1_ n2_ n3_; clear ho hb hg hat; have p489 : 0 ≤ (x11_3 : Int) := of_decide_eq_true (by first | (with_reducible assumption) | assumption); have q489 : x11_3 < (t469.length : Int) := of_decide_eq_true (by first | (with_reducible assumption) | assumption); obtain ⟨ad489, e489, hx489_0⟩ := Kd.at_int (Kd.R_reads' HO_3.out).2.2 x11_3 p489 q489; obtain rfl : ad485 = ad489 := (by injection e489); replace p489 := eq_true p489; replace q489 := eq_true q489))
                            go_roundg k3
                            case measure => have := HJ5.out; have := HJ22.out; have := HK3.out; omega
                            case rel => exact ⟨(y486), (false), (wrap64 (x11_3 + 1)), (by first | rfl | (simp; done) | (simp [*]; done)), (by first | rfl | (simp; done) | (simp [*]; done)), H', ⟨by have := HJ5.out; have := HJ22.out; have := HK3.out; omega⟩, ⟨by (with_reducible repeat (first | apply Kd.R_alloc | apply Kd.R_drewN | apply Kd.R_drew)); exact Kd.R_mono HO_3.out (fun _ hk => hk.2)⟩, ⟨by (with_reducible repeat (first | apply Kd.R_alloc | apply Kd.R_drewN | apply Kd.R_drew)); exact HO_4.out⟩, ⟨by (with_reducible repeat (first | apply Kd.R_alloc | apply Kd.R_drewN | apply Kd.R_drew)); exact HO488.out⟩, ⟨by repeat (first | (with_reducible first | exact HB.out | apply below_alloc | apply pw_below_drewN | apply below_drew1) | exact HB.out)⟩⟩
                        · replace c30 := Bool.eq_false_iff.mpr c30
                          subst c30
                          have H1 : (laws_FnHaulLevel.l0 k3 t469 t472 y486 false 0 (wrap64 (x11_3 + 1))) = some r := by rw [if_neg (show ¬ (false = true) by decide)] at H; exact H
                          clear H
                          have H := H1
                          clear H1
                          have H' := Aside0.mk H
                          clear H
                          have p485 : 0 ≤ (x11_3 : Int) := of_decide_eq_true (by first | (with_reducible assumption) | assumption)
                          have q485 : x11_3 < (t469.length : Int) := of_decide_eq_true (by first | (with_reducible assumption) | assumption)
                          obtain ⟨ad485, e485, hx485_0⟩ := Kd.at_int (Kd.R_reads' HO_3.out).2.2 x11_3 p485 q485
                          cases e485
                          replace p485 := eq_true p485
                          replace q485 := eq_true q485
                          go_wp2_with (first | ((with_reducible refine gate_builtin (b := .append) (xs := #[.tmp 65, .tmp 71]) rfl ?_); (try (refine gate_guard (by rfl) ?_; dsimp only)); at_builtin; refine Kd.R_append (Kd.int .i64) (w0 := w) w.heap.size rfl (.tmp 65) (.tmp 71) 62 3 (.int .i64 0) 8 rfl Try.underlying62 info3 rfl (by decide) (by omega) u8 x8_3 (wrap64 (500 + (rd t469 x11_3))) [.int .i64 (wrap64 (500 + (rd t469 x11_3)))] (fun k_ => some k_ ≠ (.slice (some ad485) t469.length co8 : Value).ownBlock) (fun _ => False) rfl rfl ?aP (fun _ hk => hk.elim) ?aF ?aO ?aB ?aS ?aL ?_; (case aP => exact rfl); (case aB => exact (by repeat (first | (with_reducible first | exact HB.out | apply below_alloc | apply pw_below_drewN | apply below_drew1) | exact HB.out))); (case aF => exact (fun k_ hk => Kd.fresh' (Kd.R_lt (by (with_reducible repeat (first | apply Kd.R_alloc | apply Kd.R_drewN | apply Kd.R_drew)); exact HO_3.out)) k_ hk)); (case aO => exact (by (with_reducible repeat (first | apply Kd.R_alloc | apply Kd.R_drewN | apply Kd.R_drew)); exact HO_8.out)); (case aS => exact (below_size (by repeat (first | (with_reducible first | exact HB.out | apply below_alloc | apply pw_below_drewN | apply below_drew1) | exact HB.out)))); (case aL => have := LMc29.out; omega); intro v487 w34 ho hb hg hat; rw [← Ny486.out] at ho; have n0_ := Aside0.mk (Kd.R_after (ok := (fun _ => True)) (by (with_reducible repeat (first | apply Kd.R_alloc | apply Kd.R_drewN | apply Kd.R_drew)); exact Kd.R_mono HO_3.out (fun _ hk => ⟨trivial, hk⟩)) hg hat); have n1_ := Aside0.mk (Kd.R_over' (by (with_reducible repeat (first | apply Kd.R_alloc | apply Kd.R_drewN | apply Kd.R_drew)); exact HO_4.out) (Kd.R_typed (by (with_reducible repeat (first | apply Kd.R_alloc | apply Kd.R_drewN | apply Kd.R_drew)); exact HO_8.out)) (by decide) hg); have n2_ := Aside0.mk (hb); have n3_ := Aside0.mk (ho); clear HO_3; clear HO_4; clear HB; clear HO_8; have HO_3 := n0_; have HO_4 := n1_; have HB := n2_; have HO488 := n3_; clear n0_ n1_ n2_ n3_; clear ho hb hg hat))
                          go_roundg k3
                          case measure => have := HJ5.out; have := HJ22.out; have := HK3.out; omega
                          case rel => exact ⟨(y486), (false), (wrap64 (x11_3 + 1)), (by first | rfl | (simp; done) | (simp [*]; done)), (by first | rfl | (simp; done) | (simp [*]; done)), H', ⟨by have := HJ5.out; have := HJ22.out; have := HK3.out; omega⟩, ⟨by (with_reducible repeat (first | apply Kd.R_alloc | apply Kd.R_drewN | apply Kd.R_drew)); exact Kd.R_mono HO_3.out (fun _ hk => hk.2)⟩, ⟨by (with_reducible repeat (first | apply Kd.R_alloc | apply Kd.R_drewN | apply Kd.R_drew)); exact HO_4.out⟩, ⟨by (with_reducible repeat (first | apply Kd.R_alloc | apply Kd.R_drewN | apply Kd.R_drew)); exact HO488.out⟩, ⟨by repeat (first | (with_reducible first | exact HB.out | apply below_alloc | apply pw_below_drewN | apply below_drew1) | exact HB.out)⟩⟩
                      · rw [if_neg c29] at H
                        exact absurd H (by simp)
                    · rw [if_neg c28] at H
                      exact absurd H (by simp)
                  · rw [if_neg c27] at H
                    have c27b0 : decide (x11_3 < (t469.length : Int)) = false := decide_eq_false c27
                    clear c27
                    have H' := Aside0.mk H
                    clear H
                    go_wp2
                    go_loopg [10, 12] k3 (fun kq v10 v12 w' => ∃ (x10_4 : Int) (x12_4 : Int), v10 = .int .i64 x10_4 ∧ v12 = .int .i64 x12_4 ∧ Aside0 (laws_FnHaulLevel.l1 kq t472 x8_3 x9_3 x10_4 x12_4 = some r) ∧ Aside0 (kq ≤ k3) ∧ Aside0 (Kd.R k74 74 w' w.heap.size (fun _ => True) v474 t472) ∧ Aside0 (Kd.R (Kd.int .i64) 3 w' w.heap.size (fun _ => True) u8 x8_3) ∧ Aside0 (Below w.heap.size w w'))
                    case atStart => exact ⟨(0), (0), (by first | rfl | (simp; done) | (simp [*]; done)), (by first | rfl | (simp; done) | (simp [*]; done)), H', ⟨Nat.le_refl _⟩, ⟨by (with_reducible repeat (first | apply Kd.R_alloc | apply Kd.R_drewN | apply Kd.R_drew)); exact HO_4.out⟩, ⟨by (with_reducible repeat (first | apply Kd.R_alloc | apply Kd.R_drewN | apply Kd.R_drew)); exact Kd.R_mono HO_8.out (fun _ hk => trivial)⟩, ⟨by repeat (first | (with_reducible first | exact HB.out | apply below_alloc | apply pw_below_drewN | apply below_drew1) | exact HB.out)⟩⟩
                    case round =>
                      clear H'
                      try clear c1
                      try clear c2
                      try clear c2b0
                      try clear c2b1
                      try clear p2
                      try clear c3
                      try clear c4
                      try clear p4
                      try clear q4
                      try clear hx4
                      try clear c5
                      try clear p6
                      try clear c10
                      try clear c11
                      try clear c11b0
                      try clear c11b1
                      try clear c11b2
                      try clear c13
                      try clear c18
                      try clear c19
                      try clear c19b0
                      try clear c19b1
                      try clear c19b2
                      try clear c26
                      try clear c26b0
                      try clear c26b1
                      try clear c27
                      try clear c27b0
                      try clear c28
                      try clear c28b0
                      try clear c29
                      try clear c30
                      try clear c31
                      try clear c31b0
                      try clear hx485_0
                      try clear hx489_0
                      try clear hx490_0
                      try clear p2
                      try clear p485
                      try clear p489
                      try clear p490
                      try clear q485
                      try clear q489
                      try clear q490
                      obtain ⟨x10_4, x12_4, rfl, rfl, HA, HK4, HO_4, HO_8, HB⟩ := hrel
                      cases gk with
                      | zero => exact absurd HA.out (by simp [laws_FnHaulLevel.l1])
                      | succ k4 =>
                        have H := HA.out
                        clear HA
                        simp only [laws_FnHaulLevel.l1] at H
                        by_cases c35 : x12_4 < (t472.length : Int)
                        · rw [if_pos c35] at H
                          have c35b0 : decide (x12_4 < (t472.length : Int)) = true := decide_eq_true c35
                          clear c35
                          by_cases c36 : 0 ≤ x12_4
                          · rw [if_pos c36] at H
                            have c36b0 : decide (0 ≤ x12_4) = true := decide_eq_true c36
                            clear c36
                            have H' := Aside0.mk H
                            clear H
                            obtain ⟨Ao37, co37, eo37⟩ := Kd.R_slice HO_4.out
                            subst eo37
                            have p491 : 0 ≤ (x12_4 : Int) := of_decide_eq_true (by first | (with_reducible assumption) | assumption)
                            have q491 : x12_4 < (t472.length : Int) := of_decide_eq_true (by first | (with_reducible assumption) | assumption)
                            obtain ⟨ad491, e491, hx491_0, hx491_1, hx491_2⟩ := at_T74 (Kd.R_reads' HO_4.out).2.2 x12_4 p491 q491
                            cases e491
                            replace p491 := eq_true p491
                            replace q491 := eq_true q491
                            go_wp2
                            go_roundg k4
                            case measure => have := HJ5.out; have := HJ22.out; have := HK3.out; have := HK4.out; omega
                            case rel => exact ⟨(wrap64 (x10_4 + ((rd_T74 t472 x12_4).f2))), (wrap64 (x12_4 + 1)), (by first | rfl | (simp; done) | (simp [*]; done)), (by first | rfl | (simp; done) | (simp [*]; done)), H', ⟨by have := HJ5.out; have := HJ22.out; have := HK3.out; have := HK4.out; omega⟩, ⟨by (with_reducible repeat (first | apply Kd.R_alloc | apply Kd.R_drewN | apply Kd.R_drew)); exact HO_4.out⟩, ⟨by (with_reducible repeat (first | apply Kd.R_alloc | apply Kd.R_drewN | apply Kd.R_drew)); exact HO_8.out⟩, ⟨by repeat (first | (with_reducible first | exact HB.out | apply below_alloc | apply pw_below_drewN | apply below_drew1) | exact HB.out)⟩⟩
                          · rw [if_neg c36] at H
                            exact absurd H (by simp)
                        · rw [if_neg c35] at H
                          have c35b0 : decide (x12_4 < (t472.length : Int)) = false := decide_eq_false c35
                          clear c35
                          by_cases c38 : x9_3 = true
                          · subst c38
                            have H1 : ((some (([x8_3, x8_3] : List (List Int)) : List (List Int))).bind fun y492 => ((impl_EarthCut.f y492 500).bind fun t495 => (if t495 = (wrap64 (2 * x10_4)) then ((impl_EarthFill.f y492 500).bind fun t496 => (some (t496 == (wrap64 (2 * x10_4))))) else (some false)))) = some r := by rw [if_pos rfl] at H; exact H
                            clear H
                            have H := H1
                            clear H1
                            obtain ⟨y492, hy492⟩ : ∃ y_ : List (List Int), y_ = (([x8_3, x8_3] : List (List Int))) := ⟨_, rfl⟩
                            replace H : ((impl_EarthCut.f y492 500).bind fun t495 => (if t495 = (wrap64 (2 * x10_4)) then ((impl_EarthFill.f y492 500).bind fun t496 => (some (t496 == (wrap64 (2 * x10_4))))) else (some false))) = some r := by first | (rw [hy492]; with_reducible exact H) | (have H2_ := (Option.bind_some _ _).symm.trans H; rw [hy492]; with_reducible exact H2_) | (have H2_ := (Option.bind_some _ _).symm.trans H; with_reducible exact H2_) | with_reducible exact H | (rw [hy492]; exact H) | exact H
                            have Ny492 := Aside0.mk hy492
                            clear hy492
                            replace H := Option.bind_eq_some_iff.mp H
                            obtain ⟨t495, A390, H⟩ := H
                            replace H : (if t495 = (wrap64 (2 * x10_4)) then ((impl_EarthFill.f y492 500).bind fun t496 => (some (t496 == (wrap64 (2 * x10_4))))) else (some false)) = some r := H
                            have A39 := Aside0.mk A390
                            clear A390
                            by_cases c40 : t495 = (wrap64 (2 * x10_4))
                            · rw [if_pos c40] at H
                              have c40b0 : (t495 == (wrap64 (2 * x10_4))) = true := beq_iff_eq.mpr c40
                              have c40b1 : (t495 != (wrap64 (2 * x10_4))) = false := bne_eq_false_iff_eq.mpr c40
                              clear c40
                              replace H := Option.bind_eq_some_iff.mp H
                              obtain ⟨t496, A410, H⟩ := H
                              replace H : (some (t496 == (wrap64 (2 * x10_4)))) = some r := H
                              have A41 := Aside0.mk A410
                              clear A410
                              obtain rfl := Option.some.inj H
                              obtain ⟨Ao42, co42, eo42⟩ := Kd.R_slice HO_4.out
                              subst eo42
                              obtain ⟨Ao43, co43, eo43⟩ := Kd.R_slice HO_8.out
                              subst eo43
                              go_wp2_with (first | ((with_reducible refine gate_dst (N := 107) rfl ?_); (try (refine gate_guard (by rfl) ?_; dsimp only)); refine Kd.N_lit (Kd.slice 3 (Kd.int .i64)) _ 62 ?hg (N' := 107) ?hd (xs := ([x8_3, x8_3] : List (List Int))) (inner := [.slice Ao43 x8_3.length co43, .slice Ao43 x8_3.length co43]) (ok := (fun k_ => some k_ ≠ (.slice Ao42 t472.length co42 : Value).ownBlock)) (okp := (fun k_ => some k_ ≠ (.slice Ao42 t472.length co42 : Value).ownBlock)) ?hr ?hp (fun _ hk => hk) ((show ∀ k_, wr.heap.size ≤ k_ → (fun k_ => some k_ ≠ (.slice Ao42 t472.length co42 : Value).ownBlock) k_ from fun k_ hk => Kd.fresh' (Kd.R_lt (by (with_reducible repeat (first | apply Kd.R_alloc | apply Kd.R_drewN | apply Kd.R_drew)); exact HO_4.out)) k_ hk) _ (Nat.le_refl _)) (Below.refl _ _) (Nat.le_refl _) (by simp) ?_; (case hd => rfl); (case hg => rfl); (case hr => first | (go_simp; done) | (go_simp; rfl)); (case hp => exact (Reps.one (show Kd.FK (Kd.slice 3 (Kd.int .i64)) _ _ x8_3 [.slice Ao43 x8_3.length co43] from (Kd.FK_slice_mk (Kd.R_reads' (Kd.R_mono (ok' := (fun k_ => some k_ ≠ (.slice Ao42 t472.length co42 : Value).ownBlock)) (Kd.R_apart' (HO_8.out) (Kd.R_typed HO_4.out) (by decide)) (fun k_ hk => hk.2))).2.1 (Kd.R_F (Kd.R_mono (ok' := (fun k_ => some k_ ≠ (.slice Ao42 t472.length co42 : Value).ownBlock)) (Kd.R_apart' (HO_8.out) (Kd.R_typed HO_4.out) (by decide)) (fun k_ hk => hk.2))))) (Reps.one (show Kd.FK (Kd.slice 3 (Kd.int .i64)) _ _ x8_3 [.slice Ao43 x8_3.length co43] from (Kd.FK_slice_mk (Kd.R_reads' (Kd.R_mono (ok' := (fun k_ => some k_ ≠ (.slice Ao42 t472.length co42 : Value).ownBlock)) (Kd.R_apart' (HO_8.out) (Kd.R_typed HO_4.out) (by decide)) (fun k_ hk => hk.2))).2.1 (Kd.R_F (Kd.R_mono (ok' := (fun k_ => some k_ ≠ (.slice Ao42 t472.length co42 : Value).ownBlock)) (Kd.R_apart' (HO_8.out) (Kd.R_typed HO_4.out) (by decide)) (fun k_ hk => hk.2))))) (Reps.none _ _)))); intro v493 w44 ho45 hb hg_ hnew_; clear hg_ hnew_; (first | rw [← Ny492.out] at ho45 | (simp only [Int.reduceToNat] at ho45; rw [← Ny492.out] at ho45)); have n0_ := Aside0.mk (Kd.R_below (by (with_reducible repeat (first | apply Kd.R_alloc | apply Kd.R_drewN | apply Kd.R_drew)); exact HO_4.out) hb); have n1_ := Aside0.mk (Kd.N_lower ho45 (below_size (by repeat (first | (with_reducible first | exact HB.out | apply below_alloc | apply pw_below_drewN | apply below_drew1) | exact HB.out)))); have n2_ := Aside0.mk (below_step (by repeat (first | (with_reducible first | exact HB.out | apply below_alloc | apply pw_below_drewN | apply below_drew1) | exact HB.out)) hb); clear HO_4; clear HB; clear HO_8; have HO_4 := n0_; have HO494 := n1_; have HB := n2_; clear n0_ n1_ n2_; clear hb ho45; obtain ⟨Ao46, co46, eo46⟩ := Kd.N_slice HO494.out; subst eo46) | ((with_reducible refine gate_callee (f := 58) rfl ?_); refine goesL_ (some 109) rfl rfl Try.func58 (by kernel_rfl) rfl #[.slice Ao46 y492.length co46, .int .i64 500] rfl (by (try simp only [List.map_toArray, List.map_cons, List.map_nil]); first | done | rfl | (simp only [List.length_drop, List.length_take]; rfl)) ?_; (with_reducible refine (impl_EarthCut.calls _ _ y492 500 t495 _ ?side1 ?side2 A39.out).mono ?_); (case side1 => repeat (first | exact (Kd.N_reads' HO494.out).2.2 | (with_reducible refine Kd.C_alloc ?_ _) | (with_reducible refine Kd.C_drewN ?_ _) | (with_reducible refine Kd.C_drew ?_))); (case side2 => exact (Kd.N_reads' HO494.out).2.1); rintro e w47 ⟨rfl, hb⟩; refine ⟨_, rfl, ?_⟩; have n0_ := Aside0.mk (Kd.R_below (by (with_reducible repeat (first | apply Kd.R_alloc | apply Kd.R_drewN | apply Kd.R_drew)); exact HO_4.out) hb); have n1_ := Aside0.mk (Kd.N_below (by (with_reducible repeat (first | apply Kd.N_alloc | apply Kd.N_drewN | apply Kd.N_drew)); exact HO494.out) hb); have n2_ := Aside0.mk (below_step (by repeat (first | (with_reducible first | exact HB.out | apply below_alloc | apply pw_below_drewN | apply below_drew1) | exact HB.out)) hb); clear HO_4; clear HO494; clear HB; have HO_4 := n0_; have HO494 := n1_; have HB := n2_; clear n0_ n1_ n2_; (try clear hb); (try clear hb2); (try clear hk); (try clear hi)) | (go_at_call 59; (with_reducible refine (impl_EarthFill.calls _ _ y492 500 t496 _ ?side1 ?side2 A41.out).mono ?_); (case side1 => repeat (first | exact (Kd.N_reads' HO494.out).2.2 | (with_reducible refine Kd.C_alloc ?_ _) | (with_reducible refine Kd.C_drewN ?_ _) | (with_reducible refine Kd.C_drew ?_))); (case side2 => exact (Kd.N_reads' HO494.out).2.1); rintro e w48 ⟨rfl, hb⟩; have n0_ := Aside0.mk (Kd.R_below (by (with_reducible repeat (first | apply Kd.R_alloc | apply Kd.R_drewN | apply Kd.R_drew)); exact HO_4.out) hb); have n1_ := Aside0.mk (Kd.N_below (by (with_reducible repeat (first | apply Kd.N_alloc | apply Kd.N_drewN | apply Kd.N_drew)); exact HO494.out) hb); have n2_ := Aside0.mk (below_step (by repeat (first | (with_reducible first | exact HB.out | apply below_alloc | apply pw_below_drewN | apply below_drew1) | exact HB.out)) hb); clear HO_4; clear HO494; clear HB; have HO_4 := n0_; have HO494 := n1_; have HB := n2_; clear n0_ n1_ n2_; (try clear hb); (try clear hb2); (try clear hk); (try clear hi)))
                              go_ret
                              exact ⟨by first | rfl | (simp [errW_none, errW_some] <;> rfl) | (simp [*, errW_none, errW_some] <;> rfl), by repeat (first | (with_reducible first | exact HB.out | apply below_alloc | apply pw_below_drewN | apply below_drew1) | exact HB.out)⟩
                            · rw [if_neg c40] at H
                              have c40b0 : (t495 == (wrap64 (2 * x10_4))) = false := beq_eq_false_iff_ne.mpr c40
                              have c40b1 : (t495 != (wrap64 (2 * x10_4))) = true := bne_iff_ne.mpr c40
                              obtain rfl := Option.some.inj H
                              obtain ⟨Ao49, co49, eo49⟩ := Kd.R_slice HO_4.out
                              subst eo49
                              obtain ⟨Ao50, co50, eo50⟩ := Kd.R_slice HO_8.out
                              subst eo50
                              go_wp2_with (first | ((with_reducible refine gate_dst (N := 107) rfl ?_); (try (refine gate_guard (by rfl) ?_; dsimp only)); refine Kd.N_lit (Kd.slice 3 (Kd.int .i64)) _ 62 ?hg (N' := 107) ?hd (xs := ([x8_3, x8_3] : List (List Int))) (inner := [.slice Ao50 x8_3.length co50, .slice Ao50 x8_3.length co50]) (ok := (fun k_ => some k_ ≠ (.slice Ao49 t472.length co49 : Value).ownBlock)) (okp := (fun k_ => some k_ ≠ (.slice Ao49 t472.length co49 : Value).ownBlock)) ?hr ?hp (fun _ hk => hk) ((show ∀ k_, wr.heap.size ≤ k_ → (fun k_ => some k_ ≠ (.slice Ao49 t472.length co49 : Value).ownBlock) k_ from fun k_ hk => Kd.fresh' (Kd.R_lt (by (with_reducible repeat (first | apply Kd.R_alloc | apply Kd.R_drewN | apply Kd.R_drew)); exact HO_4.out)) k_ hk) _ (Nat.le_refl _)) (Below.refl _ _) (Nat.le_refl _) (by simp) ?_; (case hd => rfl); (case hg => rfl); (case hr => first | (go_simp; done) | (go_simp; rfl)); (case hp => exact (Reps.one (show Kd.FK (Kd.slice 3 (Kd.int .i64)) _ _ x8_3 [.slice Ao50 x8_3.length co50] from (Kd.FK_slice_mk (Kd.R_reads' (Kd.R_mono (ok' := (fun k_ => some k_ ≠ (.slice Ao49 t472.length co49 : Value).ownBlock)) (Kd.R_apart' (HO_8.out) (Kd.R_typed HO_4.out) (by decide)) (fun k_ hk => hk.2))).2.1 (Kd.R_F (Kd.R_mono (ok' := (fun k_ => some k_ ≠ (.slice Ao49 t472.length co49 : Value).ownBlock)) (Kd.R_apart' (HO_8.out) (Kd.R_typed HO_4.out) (by decide)) (fun k_ hk => hk.2))))) (Reps.one (show Kd.FK (Kd.slice 3 (Kd.int .i64)) _ _ x8_3 [.slice Ao50 x8_3.length co50] from (Kd.FK_slice_mk (Kd.R_reads' (Kd.R_mono (ok' := (fun k_ => some k_ ≠ (.slice Ao49 t472.length co49 : Value).ownBlock)) (Kd.R_apart' (HO_8.out) (Kd.R_typed HO_4.out) (by decide)) (fun k_ hk => hk.2))).2.1 (Kd.R_F (Kd.R_mono (ok' := (fun k_ => some k_ ≠ (.slice Ao49 t472.length co49 : Value).ownBlock)) (Kd.R_apart' (HO_8.out) (Kd.R_typed HO_4.out) (by decide)) (fun k_ hk => hk.2))))) (Reps.none _ _)))); intro v493 w51 ho52 hb hg_ hnew_; clear hg_ hnew_; (first | rw [← Ny492.out] at ho52 | (simp only [Int.reduceToNat] at ho52; rw [← Ny492.out] at ho52)); have n0_ := Aside0.mk (Kd.R_below (by (with_reducible repeat (first | apply Kd.R_alloc | apply Kd.R_drewN | apply Kd.R_drew)); exact HO_4.out) hb); have n1_ := Aside0.mk (Kd.N_lower ho52 (below_size (by repeat (first | (with_reducible first | exact HB.out | apply below_alloc | apply pw_below_drewN | apply below_drew1) | exact HB.out)))); have n2_ := Aside0.mk (below_step (by repeat (first | (with_reducible first | exact HB.out | apply below_alloc | apply pw_below_drewN | apply below_drew1) | exact HB.out)) hb); clear HO_4; clear HB; clear HO_8; have HO_4 := n0_; have HO494 := n1_; have HB := n2_; clear n0_ n1_ n2_; clear hb ho52; obtain ⟨Ao53, co53, eo53⟩ := Kd.N_slice HO494.out; subst eo53) | ((with_reducible refine gate_callee (f := 58) rfl ?_); refine goesL_ (some 109) rfl rfl Try.func58 (by kernel_rfl) rfl #[.slice Ao53 y492.length co53, .int .i64 500] rfl (by (try simp only [List.map_toArray, List.map_cons, List.map_nil]); first | done | rfl | (simp only [List.length_drop, List.length_take]; rfl)) ?_; (with_reducible refine (impl_EarthCut.calls _ _ y492 500 t495 _ ?side1 ?side2 A39.out).mono ?_); (case side1 => repeat (first | exact (Kd.N_reads' HO494.out).2.2 | (with_reducible refine Kd.C_alloc ?_ _) | (with_reducible refine Kd.C_drewN ?_ _) | (with_reducible refine Kd.C_drew ?_))); (case side2 => exact (Kd.N_reads' HO494.out).2.1); rintro e w54 ⟨rfl, hb⟩; refine ⟨_, rfl, ?_⟩; have n0_ := Aside0.mk (Kd.R_below (by (with_reducible repeat (first | apply Kd.R_alloc | apply Kd.R_drewN | apply Kd.R_drew)); exact HO_4.out) hb); have n1_ := Aside0.mk (Kd.N_below (by (with_reducible repeat (first | apply Kd.N_alloc | apply Kd.N_drewN | apply Kd.N_drew)); exact HO494.out) hb); have n2_ := Aside0.mk (below_step (by repeat (first | (with_reducible first | exact HB.out | apply below_alloc | apply pw_below_drewN | apply below_drew1) | exact HB.out)) hb); clear HO_4; clear HO494; clear HB; have HO_4 := n0_; have HO494 := n1_; have HB := n2_; clear n0_ n1_ n2_; (try clear hb); (try clear hb2); (try clear hk); (try clear hi)))
                              go_ret
                              exact ⟨by first | rfl | (simp [errW_none, errW_some] <;> rfl) | (simp [*, errW_none, errW_some] <;> rfl), by repeat (first | (with_reducible first | exact HB.out | apply below_alloc | apply pw_below_drewN | apply below_drew1) | exact HB.out)⟩
                          · replace c38 := Bool.eq_false_iff.mpr c38
                            subst c38
                            have H1 : (some (decide (x10_4 ≥ 0))) = some r := by rw [if_neg (show ¬ (false = true) by decide)] at H; exact H
                            clear H
                            have H := H1
                            clear H1
                            obtain rfl := Option.some.inj H
                            obtain ⟨Ao55, co55, eo55⟩ := Kd.R_slice HO_4.out
                            subst eo55
                            go_wp2
                            go_ret
                            exact ⟨by first | rfl | (simp [errW_none, errW_some] <;> rfl) | (simp [*, errW_none, errW_some] <;> rfl), by repeat (first | (with_reducible first | exact HB.out | apply below_alloc | apply pw_below_drewN | apply below_drew1) | exact HB.out)⟩

/-- THE ONE PURE STATEMENT of laws_FnHaulLevel: yours. -/
def laws_FnHaulLevel.Pure : Prop := ∀ (l0 : List Int), l0.length ≤ maxLen → l0.length * 1 ≤ 140737488351232 → (∀ x ∈ l0, (Lit.int .u8 x).wf = true) → ∃ k, laws_FnHaulLevel.f k l0 = some true
theorem laws_FnHaulLevel.walk (P : laws_FnHaulLevel.Pure) (a0 : Option Addr) (len0 cap0 : Nat) (z0 : List Int) (w : World) (w0 : (a0 = none ∧ len0 = 0 ∧ cap0 = 0 ∧ z0 = []) ∨ ∃ x, a0 = some x ∧ len0 ≤ cap0 ∧ cap0 ≤ maxLen ∧ z0.length = cap0 ∧ (∀ i, i < z0.length → w.cell? (x.add i) = some (.int .u8 (z0.getD i 0))) ∧ ∀ n ∈ z0, (Lit.int .u8 n).wf = true) (y0 : len0 * 1 ≤ 140737488351232) :
    Calls Try.prog 10 #[.slice a0 len0 cap0] w fun e w' => e = .returned (.bool true) ∧ Below w.heap.size w w' := by
  obtain ⟨l0, rfl, hr0, hm0, hw0, hc0⟩ := ReadsInt.ofRowC w0
  obtain ⟨k, h⟩ := P l0 hm0 y0 hw0
  refine (laws_FnHaulLevel.calls k _ _ l0 true w (Kd.C_of_reads (d := (0 : Int)) (h1 := fun _ => rfl) hr0) hc0 h).mono ?_
  rintro e w' ⟨rfl, hd⟩
  exact ⟨rfl, hd⟩

end Go.Proofs.Ytffkojdmidhchaa.P
end
section
/- spec.HaulPlan hauls as impl.HaulPlan does. -/
namespace Go.Proofs.Ytffkojdmidhchaa.P
open Go.RowKit Go.Proofs.YtffkojdmidhchaaW.PrintWords Go.Proofs.YtffkojdmidhchaaW.PrintLast Go.Proofs.YtffkojdmidhchaaW.PrintMore
set_option linter.unusedVariables false
set_option linter.unusedSimpArgs false

theorem l6In_f (n low high : Int) (r : Bool) (h : r = decide (low ≤ n ∧ n ≤ high)) : spec_l6In.f n low high = some r := by
  unfold spec_l6In.f
  subst h
  by_cases c : low ≤ n
  · rw [if_pos (show n ≥ low from c)]; simp [c]
  · rw [if_neg (show ¬ n ≥ low from c)]; simp [c]
theorem l43_loop (l : List Int) (hl : l.length ≤ 1048576) (d : Nat) : ∀ i : Nat, l.length - i = d → i ≤ l.length → Ev (fun k => spec_l43Ok.l0 k l i) ((l.drop i).all stB && decide (1 ≤ l.length ∧ l.length ≤ 12)) := by
  induction d with
  | zero =>
    intro i hd hi
    rw [drop_end (by omega)]
    refine Ev_end (fun k => ?_)
    simp only [spec_l43Ok.l0]
    rw [if_neg (by omega), l6In_f _ _ _ _ rfl]
    simp only [Option.bind_some, List.all_nil, Bool.true_and]
    congr 1
    exact decide_eq_decide.2 (by omega)
  | succ d ih =>
    intro i hd hi
    have hlt : i < l.length := by omega
    rw [drop_cons hlt]
    cases hb : stB l[i] with
    | true =>
      simp only [List.all_cons, hb, Bool.true_and]
      refine Ev_step (ih (i + 1) (by omega) (by omega)) (fun k => ?_)
      simp only [spec_l43Ok.l0]
      rw [if_pos (by omega), if_pos (by omega), rd_get hlt, wrap_succ (by omega), l6In_f _ _ _ true (by rw [← hb]; rfl)]
      simp
    | false =>
      simp only [List.all_cons, hb, Bool.false_and]
      refine Ev_end (fun k => ?_)
      simp only [spec_l43Ok.l0]
      rw [if_pos (by omega), if_pos (by omega), rd_get hlt, l6In_f _ _ _ false (by rw [← hb]; rfl)]
      simp
theorem l43Ok_ev (l : List Int) (hl : l.length ≤ 1048576) : Ev (fun k => spec_l43Ok.f k l) (stV l) := by
  unfold spec_l43Ok.f
  have h := l43_loop l hl l.length 0 (by omega) (by omega)
  rw [List.drop_zero, Bool.and_comm] at h
  exact h
theorem sum_loop (l : List Int) (hl : l.length ≤ 1048576) (hb : ∀ x ∈ l, -1000000000 ≤ x ∧ x ≤ 1000000000) (d : Nat) : ∀ (i : Nat) (s : Int), l.length - i = d → i ≤ l.length → -1000000000 * (i : Int) ≤ s → s ≤ 1000000000 * (i : Int) → Ev (fun k => spec_l14Sum.l0 k l s i) (s + (l.drop i).sum) := by
  induction d with
  | zero =>
    intro i s hd hi h1 h2
    rw [drop_end (by omega)]
    refine Ev_end (fun k => ?_)
    simp only [spec_l14Sum.l0]
    rw [if_neg (by omega)]
    simp
  | succ d ih =>
    intro i s hd hi h1 h2
    have hlt : i < l.length := by omega
    rw [drop_cons hlt]
    have hx := hb l[i] (List.getElem_mem hlt)
    have h := ih (i + 1) (s + l[i]) (by omega) (by omega) (by omega) (by omega)
    rw [List.sum_cons, ← Int.add_assoc]
    refine Ev_step h (fun k => ?_)
    simp only [spec_l14Sum.l0]
    rw [if_pos (by omega), if_pos (by omega), rd_get hlt, wrap_succ (by omega), wrap_small (a := s + l[i]) (by omega) (by omega)]
theorem l14Sum_ev (l : List Int) (hl : l.length ≤ 1048576) (hb : ∀ x ∈ l, -1000000000 ≤ x ∧ x ≤ 1000000000) : Ev (fun k => spec_l14Sum.f k l) l.sum := by
  unfold spec_l14Sum.f
  have h := sum_loop l hl hb l.length 0 0 (by omega) (by omega) (by omega) (by omega)
  simpa using h
theorem specHaulBalanced_ev (l : List Int) (hl : l.length ≤ 1048576) : Ev (fun k => spec_HaulBalanced.f k l) (hbalB l) := by
  unfold spec_HaulBalanced.f hbalB
  refine Ev_bind (l43Ok_ev l hl) ?_
  cases h : stV l with
  | true =>
    refine Ev_pos rfl (Ev_bind (l14Sum_ev l hl (fun x hx => ?_)) ?_)
    · have := (stV_iff.1 h).2.2 x hx; omega
    · exact Ev.now _
  | false => exact Ev_neg (by simp) (Ev.now _)

/-- The first station with a sign. -/
def firstOf (l : List (Int × Int)) : Int := match l with | [] => -1 | p :: _ => p.1
theorem l1Sign_f (n : Int) : spec_l1Sign.f n = some (if n < 0 then -1 else if 0 < n then 1 else 0) := by
  unfold spec_l1Sign.f mx mn
  congr 1
  split <;> split <;> split <;> (try split) <;> omega
theorem firstH_loop (l : List Int) (hl : l.length ≤ 1048576) (d : Nat) : ∀ i : Nat, l.length - i = d → i ≤ l.length → Ev (fun k => spec_l43First.l0 k l 1 i) (firstOf (pilesH (l.drop i) i)) := by
  induction d with
  | zero =>
    intro i hd hi
    rw [drop_end (by omega)]
    exact Ev_end (fun k => by simp only [spec_l43First.l0]; rw [if_neg (by omega)]; rfl)
  | succ d ih =>
    intro i hd hi
    have hlt : i < l.length := by omega
    rw [drop_cons hlt]
    by_cases hx : 0 < l[i]
    · simp only [pilesH, if_pos hx, firstOf]
      refine Ev_end (fun k => ?_)
      simp only [spec_l43First.l0]
      rw [if_pos (by omega), if_pos (by omega), rd_get hlt, l1Sign_f, if_neg (by omega), if_pos hx]
      simp
    · simp only [pilesH, if_neg hx]
      have h := ih (i + 1) (by omega) (by omega)
      rw [show (((i + 1 : Nat) : Int)) = (i : Int) + 1 by omega] at h
      refine Ev_step h (fun k => ?_)
      simp only [spec_l43First.l0]
      rw [if_pos (by omega), if_pos (by omega), rd_get hlt, l1Sign_f, wrap_succ (by omega), if_neg hx]
      split <;> simp
theorem firstM_loop (l : List Int) (hl : l.length ≤ 1048576) (d : Nat) : ∀ i : Nat, l.length - i = d → i ≤ l.length → Ev (fun k => spec_l43First.l0 k l (-1) i) (firstOf (pilesM (l.drop i) i)) := by
  induction d with
  | zero =>
    intro i hd hi
    rw [drop_end (by omega)]
    exact Ev_end (fun k => by simp only [spec_l43First.l0]; rw [if_neg (by omega)]; rfl)
  | succ d ih =>
    intro i hd hi
    have hlt : i < l.length := by omega
    rw [drop_cons hlt]
    by_cases hx : l[i] < 0
    · simp only [pilesM, if_pos hx, firstOf]
      refine Ev_end (fun k => ?_)
      simp only [spec_l43First.l0]
      rw [if_pos (by omega), if_pos (by omega), rd_get hlt, l1Sign_f, if_pos hx]
      simp
    · simp only [pilesM, if_neg hx]
      have h := ih (i + 1) (by omega) (by omega)
      rw [show (((i + 1 : Nat) : Int)) = (i : Int) + 1 by omega] at h
      refine Ev_step h (fun k => ?_)
      simp only [spec_l43First.l0]
      rw [if_pos (by omega), if_pos (by omega), rd_get hlt, l1Sign_f, wrap_succ (by omega), if_neg hx]
      split <;> simp
theorem firstH_ev (l : List Int) (hl : l.length ≤ 1048576) : Ev (fun k => spec_l43First.f k l 1) (firstOf (pilesH l 0)) := by
  unfold spec_l43First.f
  have h := firstH_loop l hl l.length 0 (by omega) (by omega)
  simpa using h
theorem firstM_ev (l : List Int) (hl : l.length ≤ 1048576) : Ev (fun k => spec_l43First.f k l (-1)) (firstOf (pilesM l 0)) := by
  unfold spec_l43First.f
  have h := firstM_loop l hl l.length 0 (by omega) (by omega)
  simpa using h

/-- Where the first pile lies, and what becomes of the piles when its station is written anew. -/
theorem pilesH_head (r : List Int) : ∀ (s i x : Int) (t : List (Int × Int)), pilesH r s = (i, x) :: t → ∃ j : Nat, ∃ h : j < r.length, i = s + j ∧ r[j] = x ∧ 0 < x ∧
    (∀ x', 0 ≤ x' → pilesH (r.set j x') s = if 0 < x' then (i, x') :: t else t) ∧ (∀ x', 0 ≤ x' → pilesM (r.set j x') s = pilesM r s) := by
  induction r with
  | nil => intro s i x t h; simp [pilesH] at h
  | cons y r ih =>
    intro s i x t h
    simp only [pilesH] at h
    by_cases hy : 0 < y
    · rw [if_pos hy] at h
      injection h with h1 h2
      injection h1 with h1 h3
      subst h1 h2 h3
      refine ⟨0, by simp, by omega, rfl, hy, fun x' hx => ?_, fun x' hx => ?_⟩
      · simp [pilesH]
      · simp only [List.set_cons_zero, pilesM]; rw [if_neg (by omega), if_neg (by omega)]
    · rw [if_neg hy] at h
      obtain ⟨j, hj, e1, e2, e3, e4, e5⟩ := ih (s + 1) i x t h
      refine ⟨j + 1, by simp; omega, by omega, by simpa using e2, e3, fun x' hx => ?_, fun x' hx => ?_⟩
      · simp only [List.set_cons_succ, pilesH]; rw [if_neg hy]; exact e4 x' hx
      · simp only [List.set_cons_succ, pilesM]; rw [e5 x' hx]
theorem pilesM_head (r : List Int) : ∀ (s i x : Int) (t : List (Int × Int)), pilesM r s = (i, x) :: t → ∃ j : Nat, ∃ h : j < r.length, i = s + j ∧ r[j] = -x ∧ 0 < x ∧
    (∀ x', 0 ≤ x' → pilesM (r.set j (-x')) s = if 0 < x' then (i, x') :: t else t) ∧ (∀ x', 0 ≤ x' → pilesH (r.set j (-x')) s = pilesH r s) := by
  induction r with
  | nil => intro s i x t h; simp [pilesM] at h
  | cons y r ih =>
    intro s i x t h
    simp only [pilesM] at h
    by_cases hy : y < 0
    · rw [if_pos hy] at h
      injection h with h1 h2
      injection h1 with h1 h3
      subst h1 h2 h3
      refine ⟨0, by simp, by omega, by simp, by omega, fun x' hx => ?_, fun x' hx => ?_⟩
      · simp only [List.set_cons_zero, pilesM]
        by_cases h0 : 0 < x'
        · rw [if_pos (by omega), if_pos h0]; simp
        · rw [if_neg (by omega), if_neg h0]
      · simp only [List.set_cons_zero, pilesH]; rw [if_neg (by omega), if_neg (by omega)]
    · rw [if_neg hy] at h
      obtain ⟨j, hj, e1, e2, e3, e4, e5⟩ := ih (s + 1) i x t h
      refine ⟨j + 1, by simp; omega, by omega, by simpa using e2, e3, fun x' hx => ?_, fun x' hx => ?_⟩
      · simp only [List.set_cons_succ, pilesM]; rw [if_neg hy]; exact e4 x' hx
      · simp only [List.set_cons_succ, pilesH]; rw [e5 x' hx]
theorem pilesH_none (r : List Int) (s : Int) (h : pilesH r s = []) : ∀ x ∈ r, x ≤ 0 := by
  induction r generalizing s with
  | nil => intro x hx; cases hx
  | cons y r ih =>
    simp only [pilesH] at h
    by_cases hy : 0 < y
    · rw [if_pos hy] at h; cases h
    · rw [if_neg hy] at h
      intro x hx
      rcases List.mem_cons.1 hx with rfl | hx
      · omega
      · exact ih _ h x hx
theorem pilesM_none (r : List Int) (s : Int) (h : pilesM r s = []) : ∀ x ∈ r, 0 ≤ x := by
  induction r generalizing s with
  | nil => intro x hx; cases hx
  | cons y r ih =>
    simp only [pilesM] at h
    by_cases hy : y < 0
    · rw [if_pos hy] at h; cases h
    · rw [if_neg hy] at h
      intro x hx
      rcases List.mem_cons.1 hx with rfl | hx
      · omega
      · exact ih _ h x hx
theorem sum_nonneg (r : List Int) (h : ∀ x ∈ r, 0 ≤ x) : 0 ≤ r.sum := by
  induction r with
  | nil => simp
  | cons y r ih =>
    have := ih (fun x hx => h x (List.mem_cons_of_mem _ hx))
    have := h y (List.mem_cons_self ..)
    rw [List.sum_cons]; omega
theorem sum_set (r : List Int) (j : Nat) (h : j < r.length) (x : Int) : (r.set j x).sum = r.sum - r[j] + x := by
  induction r generalizing j with
  | nil => simp at h
  | cons y r ih =>
    cases j with
    | zero => simp; omega
    | succ j =>
      simp only [List.set_cons_succ, List.sum_cons, List.getElem_cons_succ]
      rw [ih j (by simpa using h)]; omega
theorem sum_pos_of (r : List Int) (j : Nat) (h : j < r.length) (hn : ∀ x ∈ r, 0 ≤ x) (hp : 0 < r[j]) : 0 < r.sum := by
  have h1 := sum_set r j h 0
  have h2 := sum_nonneg (r.set j 0) (fun x hx => by
    rcases List.mem_or_eq_of_mem_set hx with hx | rfl
    · exact hn x hx
    · omega)
  omega
theorem mn_eq (a b : Int) : mn a b = if b < a then b else a := rfl
theorem nat_toNat (j : Nat) : ((0 : Int) + (j : Int)).toNat = j := by omega
theorem specPlan_end (out : List S74) (r : List Int) (hl : r.length ≤ 12) (h0 : pilesH r 0 = []) : Ev (fun k => spec_HaulPlan.l0 k out r) (out ++ haul (pilesH r 0) (pilesM r 0), true) := by
  refine Ev.step (f := ?f) ?h ?k
  case h => intro k; simp only [spec_HaulPlan.l0]; exact rfl
  case k =>
    refine Ev_bind (firstH_ev r (by omega)) ?_
    rw [h0, haul_nil1, List.append_nil]
    exact Ev_neg (by simp [firstOf]) (Ev.now _)
theorem specPlan_loop (d : Nat) : ∀ (out : List S74) (r : List Int), (pilesH r 0).length + (pilesM r 0).length ≤ d → r.length ≤ 12 → out.length + d ≤ 1000 → (∀ x ∈ r, -1000 ≤ x ∧ x ≤ 1000) → r.sum = 0 →
    Ev (fun k => spec_HaulPlan.l0 k out r) (out ++ haul (pilesH r 0) (pilesM r 0), true) := by
  induction d with
  | zero =>
    intro out r hd hl ho hb hs
    exact specPlan_end out r hl (List.eq_nil_of_length_eq_zero (by omega))
  | succ d ih =>
    intro out r hd hl ho hb hs
    cases hH : pilesH r 0 with
    | nil => rw [← hH]; exact specPlan_end out r hl hH
    | cons p th =>
      obtain ⟨a, x⟩ := p
      obtain ⟨i, hi, rfl, hri, hx, hsH, hsM⟩ := pilesH_head r 0 a x th hH
      cases hM : pilesM r 0 with
      | nil =>
        have := sum_pos_of r i hi (pilesM_none r 0 hM) (by omega)
        omega
      | cons q tm =>
        obtain ⟨b, y⟩ := q
        obtain ⟨j, hj, rfl, hrj, hy, hsM2, hsH2⟩ := pilesM_head r 0 b y tm hM
        have hbi := hb r[i] (List.getElem_mem hi)
        have hbj := hb r[j] (List.getElem_mem hj)
        have hij : i ≠ j := by intro e; subst e; omega
        -- what is hauled
        have hn : mn (rd r ((0 : Int) + i)) (wrap64 (-(rd r ((0 : Int) + j)))) = if x < y then x else y := by
          rw [Int.zero_add, Int.zero_add, rd_get hi, rd_get hj, hri, hrj, mn_eq, wrap_small (by omega) (by omega)]
          split <;> split <;> omega
        generalize hnn : (if x < y then x else y) = n at hn
        have hn1 : 0 < n ∧ n ≤ x ∧ n ≤ y := by subst hnn; split <;> omega
        have e1 : wrap64 (rd r ((0 : Int) + i) - n) = x - n := by rw [Int.zero_add, rd_get hi, hri, wrap_small (by omega) (by omega)]
        have hset : (r.set i (x - n)).length = r.length := by simp
        have hj' : j < (r.set i (x - n)).length := by simpa using hj
        have hrj' : (r.set i (x - n))[j] = -y := by rw [List.getElem_set_ne hij]; exact hrj
        have e2 : wrap64 (rd (r.set i (x - n)) ((0 : Int) + j) + n) = -(y - n) := by rw [Int.zero_add, rd_get hj', hrj', wrap_small (by omega) (by omega)]; omega
        -- the piles behind it
        have k1 := hsH (x - n) (by omega)
        have k2 := hsM (x - n) (by omega)
        rw [hM] at k2
        obtain ⟨j2, hj2, hjj, hrj2, _, hsM3, hsH3⟩ := pilesM_head (r.set i (x - n)) 0 _ y tm k2
        have : j2 = j := by omega
        subst this
        have m1 := hsM3 (y - n) (by omega)
        have m2 := hsH3 (y - n) (by omega)
        rw [k1] at m2
        have hb' : ∀ z ∈ (r.set i (x - n)).set j2 (-(y - n)), -1000 ≤ z ∧ z ≤ 1000 := by
          intro z hz
          rcases List.mem_or_eq_of_mem_set hz with hz | rfl
          · rcases List.mem_or_eq_of_mem_set hz with hz | rfl
            · exact hb z hz
            · omega
          · omega
        have hs' : ((r.set i (x - n)).set j2 (-(y - n))).sum = 0 := by
          rw [sum_set _ _ hj', sum_set _ _ hi, hrj', hri]; omega
        have hd' : (pilesH ((r.set i (x - n)).set j2 (-(y - n))) 0).length + (pilesM ((r.set i (x - n)).set j2 (-(y - n))) 0).length ≤ d := by
          rw [m1, m2]
          rw [hH, hM] at hd
          simp only [List.length_cons] at hd
          subst hnn
          by_cases c : x < y
          · rw [if_pos c, if_neg (by omega), if_pos (by omega)]; simp; omega
          · rw [if_neg c, if_neg (by omega : ¬ 0 < y - y)]; (split <;> (try simp only [List.length_cons]) <;> omega)
        have hl' : ((r.set i (x - n)).set j2 (-(y - n))).length ≤ 12 := by rw [List.length_set, List.length_set]; exact hl
        have ho' : (out ++ [(⟨(0 : Int) + i, (0 : Int) + j2, n⟩ : S74)]).length + d ≤ 1000 := by rw [List.length_append, List.length_singleton]; omega
        have h := ih (out ++ [⟨(0 : Int) + i, (0 : Int) + j2, n⟩]) _ hd' hl' ho' hb' hs'
        have hF : (out ++ [(⟨(0 : Int) + i, (0 : Int) + j2, n⟩ : S74)]) ++ haul (pilesH ((r.set i (x - n)).set j2 (-(y - n))) 0) (pilesM ((r.set i (x - n)).set j2 (-(y - n))) 0) = out ++ haul (((0 : Int) + i, x) :: th) (((0 : Int) + j2, y) :: tm) := by
          rw [m1, m2, List.append_assoc, haul_cons]
          subst hnn
          by_cases c : x < y
          · rw [if_pos c, if_pos c, if_neg (by omega), if_pos (by omega)]; rfl
          · rw [if_neg c, if_neg c, if_neg (by omega : ¬ 0 < y - y)]
            by_cases c2 : y < x
            · rw [if_pos c2, if_pos (by omega)]; rfl
            · rw [if_neg c2, if_neg (by omega)]
              have : x = y := by omega
              subst this; rfl
        rw [hF] at h
        refine Ev.step (f := ?f) ?h ?k
        case h => intro k; simp only [spec_HaulPlan.l0]; exact rfl
        case k =>
          refine Ev_bind (firstH_ev r (by omega)) ?_
          rw [hH]
          refine Ev_pos (by simp [firstOf]) ?_
          refine Ev_bind (firstH_ev r (by omega)) ?_
          rw [hH]
          refine Ev_bind (firstM_ev r (by omega)) ?_
          rw [hM]
          simp only [firstOf]
          refine Ev_pos (by omega) (Ev_pos (by omega) (Ev_pos (by omega) (Ev_pos (by omega) (Ev_pos (by omega) ?_))))
          simp only [Option.bind_some, hn, e1, nat_toNat, e2]
          exact h
theorem specHaulPlan_ev (l : List Int) (hl : l.length ≤ 1048576) : Ev (fun k => spec_HaulPlan.f k l) (if hbalB l = true then (haul (pilesH l 0) (pilesM l 0), true) else ([], false)) := by
  unfold spec_HaulPlan.f
  simp only [Option.bind_some]
  refine Ev_bind (specHaulBalanced_ev l hl) ?_
  by_cases h : hbalB l = true
  · have hv := hbalB_iff.1 h
    refine Ev_pos h ?_
    rw [if_pos h]
    refine Ev_pos (by simp; omega) ?_
    have hh := pilesH_len l 0
    have hm := pilesM_len l 0
    have h2 := specPlan_loop 24 [] l (by have := hv.2.1; omega) hv.2.1 (by simp) hv.2.2.1 hv.2.2.2
    simpa using h2
  · rw [if_neg h]
    exact Ev_neg h (Ev.now _)
theorem implHaulPlan_ev (l : List Int) : Ev (fun k => impl_HaulPlan.f k l) (if hbalB l = true then (haul (pilesH l 0) (pilesM l 0), true) else ([], false)) := by
  unfold impl_HaulPlan.f
  refine Ev_bind (HaulBalanced_ev l) ?_
  by_cases h : hbalB l = true
  · simp only [if_pos h]; exact Ev.now _
  · simp only [if_neg h]; exact Ev.now _
end Go.Proofs.Ytffkojdmidhchaa.P
end
section
/- The hauls of a plan, one by one: what each does to the list, and what all of them cost. Condition: the list adds up to 0. -/
namespace Go.Proofs.Ytffkojdmidhchaa.P
open Go.RowKit Go.Proofs.YtffkojdmidhchaaW.PrintWords Go.Proofs.YtffkojdmidhchaaW.PrintLast Go.Proofs.YtffkojdmidhchaaW.PrintMore
set_option linter.unusedVariables false
set_option linter.unusedSimpArgs false

theorem pilesH_first (r : List Int) : ∀ (s i x : Int) (t : List (Int × Int)), pilesH r s = (i, x) :: t → ∀ a : Nat, ∀ h : a < r.length, s + a < i → r[a] ≤ 0 := by
  induction r with
  | nil => intro s i x t h; simp [pilesH] at h
  | cons y r ih =>
    intro s i x t h a ha hlt
    simp only [pilesH] at h
    by_cases hy : 0 < y
    · rw [if_pos hy] at h
      injection h with h1 h2
      injection h1 with h1 h3
      omega
    · rw [if_neg hy] at h
      cases a with
      | zero => simp; omega
      | succ a => exact ih (s + 1) i x t h a (by simpa using ha) (by omega)
theorem pilesM_first (r : List Int) : ∀ (s i x : Int) (t : List (Int × Int)), pilesM r s = (i, x) :: t → ∀ a : Nat, ∀ h : a < r.length, s + a < i → 0 ≤ r[a] := by
  induction r with
  | nil => intro s i x t h; simp [pilesM] at h
  | cons y r ih =>
    intro s i x t h a ha hlt
    simp only [pilesM] at h
    by_cases hy : y < 0
    · rw [if_pos hy] at h
      injection h with h1 h2
      injection h1 with h1 h3
      omega
    · rw [if_neg hy] at h
      cases a with
      | zero => simp; omega
      | succ a => exact ih (s + 1) i x t h a (by simpa using ha) (by omega)
/-- The hauls that bring a list to nothing, each from the first that has to the first that misses. -/
inductive Hauls : List Int → List S74 → Prop
  | done (r : List Int) : (∀ x ∈ r, x = 0) → Hauls r []
  | step (r : List Int) (i j : Nat) (hi : i < r.length) (hj : j < r.length) (n : Int) (out : List S74) : 0 < n → n ≤ r[i] → n ≤ -r[j] →
      (∀ a : Nat, ∀ h : a < r.length, a < i → r[a] ≤ 0) → (∀ a : Nat, ∀ h : a < r.length, a < j → 0 ≤ r[a]) →
      Hauls ((r.set i (r[i] - n)).set j (r[j] + n)) out → Hauls r (⟨(i : Int), (j : Int), n⟩ :: out)
theorem all_zero (r : List Int) (h1 : ∀ x ∈ r, x ≤ 0) (h : r.sum = 0) : ∀ x ∈ r, x = 0 := by
  induction r with
  | nil => intro x hx; cases hx
  | cons y r ih =>
    have a1 := h1 y (by simp)
    have a2 : r.sum ≤ 0 := by
      have : ∀ (l : List Int), (∀ x ∈ l, x ≤ 0) → l.sum ≤ 0 := by
        intro l hl
        induction l with
        | nil => simp
        | cons z l ih2 =>
          have := hl z (by simp)
          have := ih2 (fun x hx => hl x (by simp [hx]))
          simp only [List.sum_cons]; omega
      exact this r (fun x hx => h1 x (by simp [hx]))
    simp only [List.sum_cons] at h
    intro x hx
    rcases List.mem_cons.1 hx with rfl | hx
    · omega
    · exact ih (fun x hx => h1 x (by simp [hx])) (by omega) x hx
theorem hauls_of (d : Nat) : ∀ (r : List Int), (pilesH r 0).length + (pilesM r 0).length ≤ d → r.sum = 0 → Hauls r (haul (pilesH r 0) (pilesM r 0)) := by
  induction d with
  | zero =>
    intro r hd hs
    have e : pilesH r 0 = [] := List.eq_nil_of_length_eq_zero (by omega)
    rw [e, haul_nil1]
    exact .done r (all_zero r (pilesH_none r 0 e) hs)
  | succ d ih =>
    intro r hd hs
    cases hH : pilesH r 0 with
    | nil => rw [haul_nil1]; exact .done r (all_zero r (pilesH_none r 0 hH) hs)
    | cons p th =>
      obtain ⟨a, x⟩ := p
      have fH := pilesH_first r 0 a x th hH
      obtain ⟨i, hi, rfl, hri, hx, hsH, hsM⟩ := pilesH_head r 0 a x th hH
      cases hM : pilesM r 0 with
      | nil =>
        have := sum_pos_of r i hi (pilesM_none r 0 hM) (by omega)
        omega
      | cons q tm =>
        obtain ⟨b, y⟩ := q
        have fM := pilesM_first r 0 b y tm hM
        obtain ⟨j, hj, rfl, hrj, hy, hsM2, hsH2⟩ := pilesM_head r 0 b y tm hM
        rw [hH, hM] at hd
        simp only [List.length_cons] at hd
        rw [haul_cons]
        have hij : i ≠ j := by intro e; subst e; omega
        have key : ∀ n : Int, 0 < n → n ≤ x → n ≤ y → (pilesH ((r.set i (r[i] - n)).set j (r[j] + n)) 0 = if 0 < x - n then ((0 : Int) + i, x - n) :: th else th) ∧
            (pilesM ((r.set i (r[i] - n)).set j (r[j] + n)) 0 = if 0 < y - n then ((0 : Int) + j, y - n) :: tm else tm) ∧ ((r.set i (r[i] - n)).set j (r[j] + n)).sum = 0 := by
          intro n h0 h1 h2
          have e1 : pilesM (r.set i (r[i] - n)) 0 = ((0 : Int) + j, y) :: tm := by rw [hri, hsM (x - n) (by omega), hM]
          obtain ⟨j', hj', ej, hrj', _, hs1, hs2⟩ := pilesM_head _ 0 _ y tm e1
          have ejj : j' = j := by omega
          subst ejj
          have e2 : r[j'] + n = -(y - n) := by omega
          rw [e2]
          refine ⟨?_, hs1 (y - n) (by omega), ?_⟩
          · rw [hs2 (y - n) (by omega), hri, hsH (x - n) (by omega)]
          · rw [sum_set _ _ (by simpa using hj), sum_set _ _ hi, List.getElem_set_ne hij]; omega
        by_cases c1 : x < y
        · obtain ⟨k1, k2, k3⟩ := key x hx (by omega) (by omega)
          rw [if_neg (by omega)] at k1
          rw [if_pos (by omega)] at k2
          rw [if_pos c1]
          have h := ih _ (by rw [k1, k2]; simp; omega) k3
          rw [k1, k2] at h
          have := Hauls.step r i j hi hj x _ hx (by omega) (by omega) (fun a h hl => fH a h (by omega)) (fun a h hl => fM a h (by omega)) h
          simpa using this
        · by_cases c2 : y < x
          · obtain ⟨k1, k2, k3⟩ := key y hy (by omega) (by omega)
            rw [if_pos (by omega)] at k1
            rw [if_neg (by omega)] at k2
            rw [if_neg c1, if_pos c2]
            have h := ih _ (by rw [k1, k2]; simp; omega) k3
            rw [k1, k2] at h
            have := Hauls.step r i j hi hj y _ hy (by omega) (by omega) (fun a h hl => fH a h (by omega)) (fun a h hl => fM a h (by omega)) h
            simpa using this
          · obtain ⟨k1, k2, k3⟩ := key x hx (by omega) (by omega)
            rw [if_neg (by omega)] at k1
            rw [if_neg (by omega)] at k2
            rw [if_neg c1, if_neg c2]
            have h := ih _ (by rw [k1, k2]; omega) k3
            rw [k1, k2] at h
            have := Hauls.step r i j hi hj x _ hx (by omega) (by omega) (fun a h hl => fH a h (by omega)) (fun a h hl => fM a h (by omega)) h
            simpa using this
theorem haul_length (d : Nat) : ∀ (h m : List (Int × Int)), h.length + m.length ≤ d → (haul h m).length ≤ h.length + m.length - 1 := by
  induction d with
  | zero =>
    intro h m hd
    have : h = [] := List.eq_nil_of_length_eq_zero (by omega)
    subst this
    rw [haul_nil1]; simp
  | succ d ih =>
    intro h m hd
    cases h with
    | nil => rw [haul_nil1]; simp
    | cons p h =>
      cases m with
      | nil => rw [haul_nil2]; simp
      | cons q m =>
        obtain ⟨a, x⟩ := p
        obtain ⟨b, y⟩ := q
        simp only [List.length_cons] at hd
        rw [haul_cons]
        by_cases c1 : x < y
        · rw [if_pos c1]
          have := ih h ((b, y - x) :: m) (by simp; omega)
          simp only [List.length_cons] at this ⊢
          by_cases e : h = []
          · subst e; rw [haul_nil1]; simp
          · have := List.length_pos_iff.2 e; omega
        · by_cases c2 : y < x
          · rw [if_neg c1, if_pos c2]
            have := ih ((a, x - y) :: h) m (by simp; omega)
            simp only [List.length_cons] at this ⊢
            by_cases e : m = []
            · subst e; rw [haul_nil2]; simp
            · have := List.length_pos_iff.2 e; omega
          · rw [if_neg c1, if_neg c2]
            have := ih h m (by omega)
            simp only [List.length_cons] at this ⊢
            omega
theorem piles_length (r : List Int) : ∀ s, (pilesH r s).length + (pilesM r s).length ≤ r.length := by
  induction r with
  | nil => intro s; simp [pilesH, pilesM]
  | cons y r ih =>
    intro s
    have := ih (s + 1)
    simp only [pilesH, pilesM]
    by_cases h1 : 0 < y <;> by_cases h2 : y < 0
    · omega
    all_goals (simp [h1, h2]; omega)
theorem plan_length (r : List Int) (h : 1 ≤ r.length) : (haul (pilesH r 0) (pilesM r 0)).length < r.length := by
  have h1 := haul_length _ (pilesH r 0) (pilesM r 0) (Nat.le_refl _)
  have h2 := piles_length r 0
  omega
/-- Each haul of a plan leads from a station that has to one that misses. -/
theorem hauls_mem {r : List Int} {out : List S74} (H : Hauls r out) : ∀ h ∈ out, ∃ i j : Nat, ∃ hi : i < r.length, ∃ hj : j < r.length, h.f0 = i ∧ h.f1 = j ∧ 0 < h.f2 ∧ h.f2 ≤ r[i] ∧ h.f2 ≤ -r[j] := by
  induction H with
  | done r hr => intro h hh; cases hh
  | step r i j hi hj n out hn h1 h2 hfi hfj H ih =>
    intro h hh
    rcases List.mem_cons.1 hh with rfl | hh
    · exact ⟨i, j, hi, hj, rfl, rfl, hn, h1, h2⟩
    · obtain ⟨a, b, ha, hb, e1, e2, e3, e4, e5⟩ := ih h hh
      simp only [List.length_set] at ha hb
      have hij : i ≠ j := by intro e; subst e; omega
      refine ⟨a, b, ha, hb, e1, e2, e3, ?_, ?_⟩
      · rw [List.getElem_set, List.getElem_set] at e4
        by_cases c : j = a
        · subst c; rw [if_pos rfl] at e4; omega
        · rw [if_neg c] at e4
          by_cases c : i = a
          · subst c; rw [if_pos rfl] at e4; omega
          · rw [if_neg c] at e4; exact e4
      · rw [List.getElem_set, List.getElem_set] at e5
        by_cases c : j = b
        · subst c; rw [if_pos rfl] at e5; omega
        · rw [if_neg c] at e5
          by_cases c : i = b
          · subst c; rw [if_pos rfl] at e5; omega
          · rw [if_neg c] at e5; exact e5
def iabs (x : Int) : Int := if x < 0 then -x else x
/-- The work of a list, from a sum on. -/
def work : Int → List Int → Int
  | _, [] => 0
  | s, x :: r => iabs (s + x) + work (s + x) r
theorem work_have (n : Int) (h0 : 0 ≤ n) : ∀ (r : List Int) (s : Int) (j : Nat) (hj : j < r.length), n ≤ s → n ≤ -r[j] → (∀ a : Nat, ∀ h : a < r.length, a < j → 0 ≤ r[a]) →
    work s r = work (s - n) (r.set j (r[j] + n)) + n * j := by
  intro r
  induction r with
  | nil => intro s j hj; simp at hj
  | cons x r ih =>
    intro s j hj h1 h2 h3
    cases j with
    | zero =>
      simp only [List.set_cons_zero, work, List.getElem_cons_zero]
      rw [show s - n + (x + n) = s + x by omega]; simp
    | succ j =>
      have hx : 0 ≤ x := h3 0 (by simp) (by omega)
      have := ih (s + x) j (by simpa using hj) (by omega) (by simpa using h2) (fun a h hl => h3 (a + 1) (by simp; omega) (by omega))
      simp only [List.set_cons_succ, work, List.getElem_cons_succ]
      rw [this, show s - n + x = s + x - n by omega]
      unfold iabs
      rw [if_neg (by omega), if_neg (by omega)]
      push_cast
      rw [Int.mul_add]; omega
theorem work_miss (n : Int) (h0 : 0 ≤ n) : ∀ (r : List Int) (s : Int) (j : Nat) (hj : j < r.length), s ≤ -n → n ≤ r[j] → (∀ a : Nat, ∀ h : a < r.length, a < j → r[a] ≤ 0) →
    work s r = work (s + n) (r.set j (r[j] - n)) + n * j := by
  intro r
  induction r with
  | nil => intro s j hj; simp at hj
  | cons x r ih =>
    intro s j hj h1 h2 h3
    cases j with
    | zero =>
      simp only [List.set_cons_zero, work, List.getElem_cons_zero]
      rw [show s + n + (x - n) = s + x by omega]; simp
    | succ j =>
      have hx : x ≤ 0 := h3 0 (by simp) (by omega)
      have := ih (s + x) j (by simpa using hj) (by omega) (by simpa using h2) (fun a h hl => h3 (a + 1) (by simp; omega) (by omega))
      simp only [List.set_cons_succ, work, List.getElem_cons_succ]
      rw [this, show s + n + x = s + x + n by omega]
      unfold iabs
      have e1 : (if s + x < 0 then -(s + x) else s + x) = -(s + x) := by by_cases c : s + x < 0 <;> simp [c] <;> omega
      have e2 : (if s + x + n < 0 then -(s + x + n) else s + x + n) = -(s + x + n) := by by_cases c : s + x + n < 0 <;> simp [c] <;> omega
      rw [e1, e2]
      push_cast
      rw [Int.mul_add]; omega
theorem work_step (n : Int) (h0 : 0 < n) : ∀ (r : List Int) (i j : Nat) (hi : i < r.length) (hj : j < r.length), n ≤ r[i] → n ≤ -r[j] → (∀ a : Nat, ∀ h : a < r.length, a < i → r[a] ≤ 0) →
    (∀ a : Nat, ∀ h : a < r.length, a < j → 0 ≤ r[a]) → work 0 r = work 0 ((r.set i (r[i] - n)).set j (r[j] + n)) + n * iabs ((i : Int) - j) := by
  intro r
  induction r with
  | nil => intro i j hi; simp at hi
  | cons x r ih =>
    intro i j hi hj h1 h2 h3 h4
    cases i with
    | zero =>
      cases j with
      | zero => simp only [List.getElem_cons_zero] at h1 h2; omega
      | succ j =>
        simp only [List.getElem_cons_zero, List.getElem_cons_succ, List.set_cons_zero, List.set_cons_succ, work] at *
        rw [Int.zero_add, Int.zero_add, work_have n (by omega) r x j (by simpa using hj) h1 h2 (fun a h hl => h4 (a + 1) (by simp; omega) (by omega))]
        unfold iabs
        rw [if_neg (by omega), if_neg (by omega), if_pos (by omega)]
        rw [show -(((0 : Nat) : Int) - ((j + 1 : Nat) : Int)) = (j : Int) + 1 by omega, Int.mul_add]
        omega
    | succ i =>
      cases j with
      | zero =>
        simp only [List.getElem_cons_zero, List.getElem_cons_succ, List.set_cons_zero, List.set_cons_succ, work] at *
        rw [Int.zero_add, Int.zero_add, work_miss n (by omega) r x i (by simpa using hi) (by omega) h1 (fun a h hl => h3 (a + 1) (by simp; omega) (by omega))]
        unfold iabs
        have e2 : (if x + n < 0 then -(x + n) else x + n) = -(x + n) := by by_cases c : x + n < 0 <;> simp [c] <;> omega
        rw [if_pos (by omega), e2, if_neg (by omega)]
        rw [show (((i + 1 : Nat) : Int) - ((0 : Nat) : Int)) = (i : Int) + 1 by omega, Int.mul_add]
        omega
      | succ j =>
        have a1 := h3 0 (by simp) (by omega)
        have a2 := h4 0 (by simp) (by omega)
        simp only [List.getElem_cons_zero] at a1 a2
        have hx : x = 0 := by omega
        subst hx
        simp only [List.length_cons] at hi hj
        have := ih i j (by omega) (by omega) (by simpa using h1) (by simpa using h2) (fun a h hl => h3 (a + 1) (by simp; omega) (by omega)) (fun a h hl => h4 (a + 1) (by simp; omega) (by omega))
        simp only [List.getElem_cons_succ, List.set_cons_succ, work, Int.zero_add, Int.add_zero]
        rw [this, show ((i + 1 : Nat) : Int) - ((j + 1 : Nat) : Int) = (i : Int) - j by omega]
        omega
def cost : List S74 → Int
  | [] => 0
  | h :: t => h.f2 * iabs (h.f0 - h.f1) + cost t
theorem work_zero (r : List Int) (h : ∀ x ∈ r, x = 0) : work 0 r = 0 := by
  induction r with
  | nil => rfl
  | cons x r ih =>
    have := h x (by simp)
    subst this
    simp [work, iabs, ih (fun x hx => h x (by simp [hx]))]
theorem hauls_cost {r : List Int} {out : List S74} (H : Hauls r out) : cost out = work 0 r := by
  induction H with
  | done r hr => rw [work_zero r hr]; rfl
  | step r i j hi hj n out hn h1 h2 hfi hfj H ih =>
    rw [work_step n hn r i j hi hj h1 h2 hfi hfj, ← ih]
    simp only [cost]
    omega
end Go.Proofs.Ytffkojdmidhchaa.P
end
section
/- The draws end: pick gives a number below its bound, and the reader moves on by one. Condition: bytes, a small bound, a small place. -/
namespace Go.Proofs.Ytffkojdmidhchaa.P
open Go.RowKit Go.Proofs.YtffkojdmidhchaaW.PrintWords Go.Proofs.YtffkojdmidhchaaW.PrintLast Go.Proofs.YtffkojdmidhchaaW.PrintMore
set_option linter.unusedVariables false
set_option linter.unusedSimpArgs false

theorem xor_i64_nat (a b : Nat) (ha : a < 9223372036854775808) (hb : b < 9223372036854775808) :
    Go.bits .xor .i64 (a : Int) (b : Int) = ((a ^^^ b : Nat) : Int) := by
  have hx : a ^^^ b < 2 ^ 63 := Nat.xor_lt_two_pow (by omega) (by omega)
  have h1 : (BitVec.ofInt 64 (a : Int)).toNat = a := by
    rw [BitVec.ofInt_natCast, BitVec.toNat_ofNat]; exact Nat.mod_eq_of_lt (by omega)
  have h2 : (BitVec.ofInt 64 (b : Int)).toNat = b := by
    rw [BitVec.ofInt_natCast, BitVec.toNat_ofNat]; exact Nat.mod_eq_of_lt (by omega)
  show IntKind.i64.wrap ((BitVec.ofInt 64 (a : Int) ^^^ BitVec.ofInt 64 (b : Int)).toNat : Int) = _
  rw [BitVec.toNat_xor, h1, h2]
  simp [IntKind.wrap, IntKind.bits, IntKind.signed]
  omega
theorem xor_i64_pos (a b : Int) (ha : 0 ≤ a) (ha' : a ≤ 9223372036854775807) (hb : 0 ≤ b) (hb' : b ≤ 9223372036854775807) : 0 ≤ Go.bits .xor .i64 a b := by
  have e1 : a = ((a.toNat : Nat) : Int) := by omega
  have e2 : b = ((b.toNat : Nat) : Int) := by omega
  rw [e1, e2, xor_i64_nat _ _ (by omega) (by omega)]
  exact Int.natCast_nonneg _
def byteL (l : List Int) : Prop := ∀ x ∈ l, 0 ≤ x ∧ x ≤ 255
theorem bytes_of {l : List Int} (h : ∀ x ∈ l, (Lit.int .u8 x).wf = true) : byteL l := by
  intro x hx
  have := h x hx
  simp [Lit.wf, IntKind.min, IntKind.max, IntKind.bits, IntKind.signed] at this
  omega
theorem rd_byte {l : List Int} (h : byteL l) (i : Int) : 0 ≤ rd l i ∧ rd l i ≤ 255 := by
  unfold rd
  rw [List.getD_eq_getElem?_getD]
  cases e : l[i.toNat]? with
  | none => simp
  | some x => exact h x (List.mem_of_getElem? e)
theorem tmod_in (a n : Int) (ha : 0 ≤ a) (hn : 1 ≤ n) : 0 ≤ Int.tmod a n ∧ Int.tmod a n < n := ⟨Int.tmod_nonneg _ ha, by
  rw [Int.tmod_eq_emod_of_nonneg ha]; exact Int.emod_lt_of_pos _ (by omega)⟩
/-- One pick: a number below the bound (0, if the bound is none). -/
theorem pick_ev (l : List Int) (hl : l.length ≤ 2000) (hb : byteL l) (p n : Int) (hp : 0 ≤ p) (hp' : p ≤ 1000000) :
    ∃ v, Ev (fun k => spec_l6Rd_pick.f k l p n) (v, p + 1) ∧ 0 ≤ v ∧ (1 ≤ n → v < n) := by
  unfold spec_l6Rd_pick.f
  rw [wrap_small (a := p + 1) (by omega) (by omega)]
  by_cases h1 : n < 1
  · refine ⟨0, Ev_pos h1 (Ev_end fun k => ?_), by omega, fun h => by omega⟩
    simp only [spec_l6Rd_pick.j0]; rfl
  by_cases h2 : l.length = 0
  · refine ⟨0, Ev_neg h1 (Ev_end fun k => ?_), by omega, fun h => by omega⟩
    have e : (((l.length : Int) == 0) : Bool) = true := by simp [h2]
    rw [e]
    simp only [spec_l6Rd_pick.j0]; rfl
  have e : (((l.length : Int) == 0) : Bool) = false := by rw [beq_eq_false_iff_ne]; omega
  by_cases h3 : p < l.length
  · have q := tmod_in (wrap64 (rd l p)) n (by rw [wrap_small (by have := rd_byte hb p; omega) (by have := rd_byte hb p; omega)]; exact (rd_byte hb p).1) (by omega)
    refine ⟨_, Ev_neg h1 (Ev_end fun k => ?_), q.1, fun _ => q.2⟩
    rw [e]
    simp only [spec_l6Rd_pick.j0]
    rw [wrap_small (a := p + 1 - 1) (by omega) (by omega), show p + 1 - 1 = p by omega, if_neg (by simp), if_pos h3, if_pos hp, if_neg (by omega : ¬ n = 0)]
  · have hL : (1 : Int) ≤ l.length := by omega
    have q1 := tmod_in p l.length hp hL
    have q2 := tmod_in (wrap64 (wrap64 (p * 7) + 3)) l.length (by rw [wrap_small (a := p * 7) (by omega) (by omega), wrap_small (by omega) (by omega)]; omega) hL
    have q3 : 0 ≤ Int.tdiv p l.length ∧ Int.tdiv p l.length ≤ 1000000 := ⟨Int.tdiv_nonneg hp (by omega), by
      rw [Int.tdiv_eq_ediv_of_nonneg hp]
      exact Int.le_trans (Int.ediv_le_self _ hp) hp'⟩
    have b1 := rd_byte hb (Int.tmod p l.length)
    have b2 := rd_byte hb (Int.tmod (wrap64 (wrap64 (p * 7) + 3)) l.length)
    generalize hv : (wrap64 ((wrap64 ((wrap64 ((wrap64 ((wrap64 (rd l (Int.tmod p (l.length : Int)))) * 131)) + (wrap64 ((wrap64 (rd l (Int.tmod (wrap64 ((wrap64 (p * 7)) + 3)) (l.length : Int)))) * 1117)))) + (wrap64 (p * 29)))) + (wrap64 ((wrap64 (Int.tdiv p (l.length : Int))) * 53)))) = x
    have hx : 0 ≤ x ∧ x ≤ 1000000000 := by
      subst hv
      revert b1 b2 q3
      generalize rd l (Int.tmod p (l.length : Int)) = y1
      generalize rd l (Int.tmod (wrap64 ((wrap64 (p * 7)) + 3)) (l.length : Int)) = y2
      generalize Int.tdiv p (l.length : Int) = y3
      intro b1 b2 q3
      simp (disch := omega) only [wrap_small]
      omega
    have q4 : 0 ≤ Int.tdiv x 64 ∧ Int.tdiv x 64 ≤ x := ⟨Int.tdiv_nonneg hx.1 (by omega), by
      rw [Int.tdiv_eq_ediv_of_nonneg hx.1]; exact Int.ediv_le_self _ hx.1⟩
    have q := tmod_in (Go.bits .xor .i64 x (wrap64 (Int.tdiv x 64))) n (by
      rw [wrap_small (a := Int.tdiv x 64) (by omega) (by omega)]
      exact xor_i64_pos _ _ hx.1 (by omega) q4.1 (by omega)) (by omega)
    refine ⟨_, Ev_neg h1 (Ev_end fun k => ?_), q.1, fun _ => q.2⟩
    rw [e]
    simp only [spec_l6Rd_pick.j0]
    rw [wrap_small (a := p + 1 - 1) (by omega) (by omega), show p + 1 - 1 = p by omega, hv, if_neg (by simp), if_neg h3, if_neg (by omega : ¬ (l.length : Int) = 0), if_pos q1.1, if_pos q1.2, if_pos q2.1, if_pos q2.2, if_neg (by omega : ¬ n = 0)]
/-- The reader that is opened. -/
theorem l6Open_ev (l : List Int) (h : byteL l) : ∃ l', spec_l6Open.f l = some (l', 0) ∧ l'.length ≤ 2000 ∧ byteL l' := by
  unfold spec_l6Open.f
  by_cases c : (l.length : Int) > 2000
  · exact ⟨_, by rw [if_pos c, if_pos (by omega)], by simp; omega, fun x hx => h x (List.mem_of_mem_take hx)⟩
  · exact ⟨_, by rw [if_neg c], by omega, h⟩
end Go.Proofs.Ytffkojdmidhchaa.P
end
section
/- The draw of stations ends; a list of hauls is the same as itself. Condition: bytes. -/
namespace Go.Proofs.Ytffkojdmidhchaa.Pure
open Go.RowKit Go.Proofs.Ytffkojdmidhchaa.P Go.Proofs.YtffkojdmidhchaaW.PrintWords Go.Proofs.YtffkojdmidhchaaW.PrintLast
set_option linter.unusedVariables false
set_option linter.unusedSimpArgs false

theorem wsm {a : Int} (h0 : -9223372036854775808 ≤ a) (h1 : a ≤ 9223372036854775807) : wrap64 a = a := Go.Proofs.Ytffkojdmidhchaa.P.wrap_small h0 h1
theorem sameHauls_loop (l : List S74) (hl : l.length ≤ 1048576) (d : Nat) : ∀ i : Nat, l.length - i = d → i ≤ l.length → Ev (fun k => laws_sameHauls.l0 k l l i) true := by
  induction d with
  | zero =>
    intro i hd hi
    refine Ev_end fun k => ?_
    simp only [laws_sameHauls.l0]; rw [if_neg (by omega)]
  | succ d ih =>
    intro i hd hi
    refine Ev.step (f := ?f1) ?h1 ?k1
    case h1 => intro k; simp only [laws_sameHauls.l0]; exact rfl
    case k1 =>
      refine Ev_pos (by omega) (Ev_pos (by omega) (Ev_pos (by omega) ?_))
      simp only [beq_self_eq_true, Bool.not_true, Bool.or_self, Bool.false_eq_true, if_false]
      rw [wrap_succ (by omega)]
      exact ih (i + 1) (by omega) (by omega)
theorem sameHauls_ev (l : List S74) (hl : l.length ≤ 1048576) : Ev (fun k => laws_sameHauls.f k l l) true := by
  unfold laws_sameHauls.f
  exact Ev_pos rfl (sameHauls_loop l hl l.length 0 (by omega) (by omega))
theorem stations_end (b : List Int) (hb2 : b.length ≤ 2000) (hb : byteL b) (out : List Int) (p : Int) (h0 : 0 ≤ p) (hp : p ≤ 1000) (ho : 1 ≤ out.length) (ho2 : out.length ≤ 6) :
    ∃ r : List Int, ∃ q : Int, Ev (fun k => spec_l92Stations.j1 k out b p) (r, q) ∧ r.length ≤ 6 := by
  obtain ⟨v, hv, v0, v1⟩ := pick_ev b hb2 hb p 40 h0 (by omega)
  have step : ∀ r : List Int × Int, Ev (fun k => if v = 0 then (if 0 < (out.length : Int) then (some ((out.set (0 : Int).toNat 1001), p + 1)) else (none)) else (if v = 1 then (some ((([] : List Int)), p + 1)) else (some (out, p + 1)))) r → Ev (fun k => spec_l92Stations.j1 k out b p) r := by
    intro r h
    refine Ev.step (f := ?f10) ?h10 ?k10
    case h10 => intro k; simp only [spec_l92Stations.j1]; exact rfl
    case k10 => exact Ev_bind hv h
  by_cases c0 : v = 0
  · exact ⟨_, _, step _ (Ev_pos c0 (Ev_pos (by omega) (Ev_some _))), by simpa using ho2⟩
  · by_cases c1 : v = 1
    · exact ⟨_, _, step _ (Ev_neg c0 (Ev_pos c1 (Ev_some _))), by simp⟩
    · exact ⟨_, _, step _ (Ev_neg c0 (Ev_neg c1 (Ev_some _))), ho2⟩
theorem stations_loop (b : List Int) (hb2 : b.length ≤ 2000) (hb : byteL b) (n : Nat) (hn : 1 ≤ n) (hn6 : n ≤ 6) (d : Nat) : ∀ (i : Nat) (out : List Int) (s p : Int), n - i = d → i ≤ n → out.length = i → 0 ≤ p → p ≤ 10 + i →
    ∃ r : List Int, ∃ q : Int, Ev (fun k => spec_l92Stations.l0 k out n s i b p) (r, q) ∧ r.length ≤ 6 := by
  induction d with
  | zero =>
    intro i out s p hd hi ho hp0 hp
    obtain ⟨v, hv, v0, v1⟩ := pick_ev b hb2 hb p 6 hp0 (by omega)
    have step : ∀ r : List Int × Int, Ev (fun k => if v > 0 then (if 0 ≤ (wrap64 ((n : Int) - 1)) then (if (wrap64 ((n : Int) - 1)) < (out.length : Int) then (spec_l92Stations.j1 k (out.set ((wrap64 ((n : Int) - 1)) : Int).toNat (wrap64 ((rd out (wrap64 ((n : Int) - 1))) - s))) b (p + 1)) else (none)) else (none)) else (spec_l92Stations.j1 k out b (p + 1))) r → Ev (fun k => spec_l92Stations.l0 k out n s i b p) r := by
      intro r h
      refine Ev.step (f := ?f11) ?h11 ?k11
      case h11 => intro k; simp only [spec_l92Stations.l0]; exact rfl
      case k11 => exact Ev_neg (by omega) (Ev_bind hv h)
    by_cases c : v > 0
    · obtain ⟨r, q, h, hr⟩ := stations_end b hb2 hb (out.set ((wrap64 ((n : Int) - 1)) : Int).toNat (wrap64 ((rd out (wrap64 ((n : Int) - 1))) - s))) (p + 1) (by omega) (by omega) (by simp; omega) (by simp; omega)
      refine ⟨r, q, step _ (Ev_pos c (Ev_pos ?_ (Ev_pos ?_ h))), hr⟩
      · rw [wsm (by omega) (by omega)]; omega
      · rw [wsm (by omega) (by omega)]; omega
    · obtain ⟨r, q, h, hr⟩ := stations_end b hb2 hb out (p + 1) (by omega) (by omega) (by omega) (by omega)
      exact ⟨r, q, step _ (Ev_neg c h), hr⟩
  | succ d ih =>
    intro i out s p hd hi ho hp0 hp
    obtain ⟨v, hv, v0, v1⟩ := pick_ev b hb2 hb p 21 hp0 (by omega)
    obtain ⟨r, q, h, hr⟩ := ih (i + 1) (out ++ [wrap64 (v - 10)]) (wrap64 (s + wrap64 (v - 10))) (p + 1) (by omega) (by omega) (by simp; omega) (by omega) (by omega)
    refine ⟨r, q, ?_, hr⟩
    refine Ev.step (f := ?f12) ?h12 ?k12
    case h12 => intro k; simp only [spec_l92Stations.l0]; exact rfl
    case k12 =>
      refine Ev_pos (by omega) (Ev_bind hv (Ev_pos (by omega) ?_))
      rw [wrap_succ (by omega)]
      exact h
theorem stations_ev (b : List Int) (hb2 : b.length ≤ 2000) (hb : byteL b) : ∃ r : List Int, ∃ q : Int, Ev (fun k => spec_l92Stations.f k b 0) (r, q) ∧ r.length ≤ 6 := by
  obtain ⟨v, hv, v0, v1⟩ := pick_ev b hb2 hb 0 6 (by omega) (by omega)
  have e : wrap64 (1 + v) = ((1 + v).toNat : Int) := by rw [wsm (by omega) (by omega)]; omega
  obtain ⟨r, q, h, hr⟩ := stations_loop b hb2 hb (1 + v).toNat (by omega) (by omega) _ 0 [] 0 (0 + 1) rfl (by omega) rfl (by omega) (by omega)
  refine ⟨r, q, ?_, hr⟩
  unfold spec_l92Stations.f
  refine Ev_bind hv ?_
  rw [e]
  exact h
theorem drawHaulPlan_ev (l : List Int) (hb : byteL l) : ∃ r : List Int, Ev (fun k => spec_DrawHaulPlan.f k l) r ∧ r.length ≤ 6 := by
  obtain ⟨b, e, hb2, hb'⟩ := l6Open_ev l hb
  obtain ⟨r, q, h, hr⟩ := stations_ev b hb2 hb'
  refine ⟨r, ?_, hr⟩
  unfold spec_DrawHaulPlan.f
  rw [e]
  exact Ev_bind_some (Ev_bind h (Ev_some _))
end Go.Proofs.Ytffkojdmidhchaa.Pure
end
section
/- The law FnHaulLevel, over plain functions: two equal rows around the level have cut and fill twice the loads of the plan. No condition. -/
namespace Go.Proofs.Ytffkojdmidhchaa.Pure
open Go.RowKit Go.Proofs.Ytffkojdmidhchaa.P Go.Proofs.YtffkojdmidhchaaW.PrintWords Go.Proofs.YtffkojdmidhchaaW.PrintLast
set_option linter.unusedVariables false
set_option linter.unusedSimpArgs false

def posS : List Int → Int
  | [] => 0
  | x :: r => (if 0 < x then x else 0) + posS r
def loads : List S74 → Int
  | [] => 0
  | h :: t => h.f2 + loads t
theorem posS_set (r : List Int) : ∀ (i : Nat) (h : i < r.length) (x : Int), posS (r.set i x) = posS r - (if 0 < r[i] then r[i] else 0) + (if 0 < x then x else 0) := by
  induction r with
  | nil => intro i h; simp at h
  | cons y r ih =>
    intro i h x
    cases i with
    | zero => simp only [List.set_cons_zero, posS, List.getElem_cons_zero]; omega
    | succ i =>
      have := ih i (by simpa using h) x
      simp only [List.set_cons_succ, posS, List.getElem_cons_succ]; rw [this]; omega
theorem loads_eq {r : List Int} {out : List S74} (H : Hauls r out) : loads out = posS r := by
  induction H with
  | done r hr =>
    simp only [loads]
    induction r with
    | nil => rfl
    | cons x r ih =>
      have := hr x (by simp)
      subst this
      simp only [posS]
      rw [← ih (fun x hx => hr x (by simp [hx]))]
      simp
  | step r i j hi hj n out hn h1 h2 hfi hfj H ih =>
    have hij : i ≠ j := by intro e; subst e; omega
    simp only [loads]
    rw [ih, posS_set _ _ (by simpa using hj), posS_set _ _ hi, List.getElem_set_ne hij, if_pos (show 0 < r[i] by omega), if_neg (show ¬ 0 < r[j] by omega), if_neg (show ¬ 0 < r[j] + n by omega)]
    split <;> omega
theorem posS_bound (r : List Int) (h : ∀ x ∈ r, -500 ≤ x ∧ x ≤ 500) : 0 ≤ posS r ∧ posS r ≤ 500 * r.length := by
  induction r with
  | nil => simp [posS]
  | cons x r ih =>
    have := ih (fun x hx => h x (by simp [hx]))
    have := h x (by simp)
    simp only [posS, List.length_cons]; push_cast
    split <;> omega
theorem cut_row (r : List Int) (h : ∀ x ∈ r, -500 ≤ x ∧ x ≤ 500) : ∀ c : Int, 0 ≤ c → c + 500 * r.length ≤ 1000000 → cutF 500 c (r.map (fun x => 500 + x)) = c + posS r := by
  induction r with
  | nil => intro c _ _; simp [cutF, posS]
  | cons x r ih =>
    intro c c0 c1
    have hx := h x (by simp)
    simp only [List.length_cons] at c1
    push_cast at c1
    simp only [List.map_cons, posS]
    rw [show cutF 500 c ((500 + x) :: r.map (fun x => 500 + x)) = cutF 500 (if 500 < 500 + x then wrap64 (c + wrap64 (500 + x - 500)) else c) (r.map (fun x => 500 + x)) from rfl]
    rw [wsm (a := 500 + x - 500) (by omega) (by omega), wsm (a := c + (500 + x - 500)) (by omega) (by omega)]
    rw [ih (fun x hx => h x (by simp [hx])) _ (by split <;> omega) (by split <;> omega)]
    by_cases c2 : 0 < x
    · rw [if_pos c2, if_pos (by omega)]; omega
    · rw [if_neg c2, if_neg (by omega)]; omega
theorem fill_row (r : List Int) (h : ∀ x ∈ r, -500 ≤ x ∧ x ≤ 500) : ∀ c : Int, 0 ≤ c → c + 500 * r.length ≤ 1000000 → fillF 500 c (r.map (fun x => 500 + x)) = c + (posS r - r.sum) := by
  induction r with
  | nil => intro c _ _; simp [fillF, posS]
  | cons x r ih =>
    intro c c0 c1
    have hx := h x (by simp)
    simp only [List.length_cons] at c1
    push_cast at c1
    simp only [List.map_cons, posS, List.sum_cons]
    rw [show fillF 500 c ((500 + x) :: r.map (fun x => 500 + x)) = fillF 500 (if 500 < 500 + x then c else wrap64 (c + wrap64 (500 - (500 + x)))) (r.map (fun x => 500 + x)) from rfl]
    rw [wsm (a := 500 - (500 + x)) (by omega) (by omega), wsm (a := c + (500 - (500 + x))) (by omega) (by omega)]
    rw [ih (fun x hx => h x (by simp [hx])) _ (by split <;> omega) (by split <;> omega)]
    by_cases c2 : 0 < x
    · rw [if_pos c2, if_pos (by omega)]; omega
    · rw [if_neg c2, if_neg (by omega)]; omega
theorem gridB_two (r : List Int) (h1 : 2 ≤ r.length) (h2 : r.length ≤ 6) (h : ∀ x ∈ r, 0 ≤ x ∧ x ≤ 1000) : gridB [r, r] = true := by
  have hrow : rowB r.length r = true := by
    unfold rowB
    simp only [decide_true, Bool.true_and, List.all_eq_true]
    intro x hx
    unfold hB
    exact decide_eq_true (h x hx)
  unfold gridB
  simp [hrow, h1, h2]
def goodB (l : List Int) : Bool := decide (2 ≤ l.length ∧ l.length ≤ 6) && l.all fun x => decide (-500 ≤ x ∧ x ≤ 500)
theorem loads_nonneg {plan : List S74} (h : ∀ x ∈ plan, 0 ≤ x.f2 ∧ x.f2 ≤ 1000) : 0 ≤ loads plan := by
  induction plan with
  | nil => simp [loads]
  | cons x r ih =>
    have := h x (by simp)
    have := ih (fun x hx => h x (by simp [hx]))
    simp only [loads]; omega
theorem level_l1 (l : List Int) (h : hbal l) (plan : List S74) (hp : plan = haul (pilesH l 0) (pilesM l 0)) (d : Nat) : ∀ (i : Nat) (s : Int), plan.length - i = d → i ≤ plan.length → 0 ≤ s → s ≤ 1000 * i → s + loads (plan.drop i) = loads plan →
    Ev (fun k => laws_FnHaulLevel.l1 k plan (l.map fun x => 500 + x) (goodB l) s i) true := by
  have H := hauls_of _ l (Nat.le_refl _) h.2.2.2
  rw [← hp] at H
  have hlen : plan.length < l.length := by rw [hp]; exact plan_length l h.1
  have hl12 := h.2.1
  have hbd : ∀ x ∈ plan, 0 ≤ x.f2 ∧ x.f2 ≤ 1000 := fun x hx => by
    obtain ⟨i, j, hi, hj, e1, e2, e3, e4, e5⟩ := hauls_mem H x hx
    have := h.2.2.1 l[i] (List.getElem_mem hi)
    omega
  induction d with
  | zero =>
    intro i s hd hi h1 h2 h3
    rw [drop_end (by omega)] at h3
    simp only [loads, Int.add_zero] at h3
    refine Ev.step (f := ?f1) ?h1 ?k1
    case h1 => intro k; simp only [laws_FnHaulLevel.l1]; exact rfl
    case k1 =>
      refine Ev_neg (by omega) ?_
      cases hg : goodB l with
      | false =>
        refine Ev_neg (by simp) ?_
        rw [decide_eq_true (show s ≥ 0 by omega)]
        exact Ev_some _
      | true =>
        unfold goodB at hg
        simp only [Bool.and_eq_true, decide_eq_true_iff, List.all_eq_true] at hg
        obtain ⟨⟨g1, g2⟩, g3⟩ := hg
        have hG : gridB [l.map fun x => 500 + x, l.map fun x => 500 + x] = true := gridB_two _ (by simpa using g1) (by simpa using g2) (fun y hy => by
          obtain ⟨x, hx, rfl⟩ := List.mem_map.1 hy
          have := g3 x hx; omega)
        have hps := posS_bound l g3
        have hlo := loads_eq H
        have e1 : impl_EarthCut.f [l.map fun x => 500 + x, l.map fun x => 500 + x] 500 = some (2 * s) := by
          unfold impl_EarthCut.f
          rw [if_pos (by rw [hG]; rfl)]
          simp only [List.flatten_cons, List.flatten_nil, List.append_nil]
          rw [cutF_app, cut_row l g3 0 (by omega) (by omega), cut_row l g3 _ (by omega) (by omega)]
          congr 1; omega
        have e2 : impl_EarthFill.f [l.map fun x => 500 + x, l.map fun x => 500 + x] 500 = some (2 * s) := by
          unfold impl_EarthFill.f
          have hs := h.2.2.2
          rw [if_pos (by rw [hG]; rfl)]
          simp only [List.flatten_cons, List.flatten_nil, List.append_nil]
          rw [fillF_app, fill_row l g3 0 (by omega) (by omega), fill_row l g3 _ (by omega) (by omega)]
          congr 1; omega
        refine Ev_pos rfl (Ev_bind_some ?_)
        rw [e1, e2, wsm (a := 2 * s) (by omega) (by omega)]
        refine Ev_bind_some (Ev_pos rfl (Ev_bind_some ?_))
        rw [beq_self_eq_true]
        exact Ev_some _
  | succ d ih =>
    intro i s hd hi h1 h2 h3
    have hlt : i < plan.length := by omega
    have hx := hbd plan[i] (List.getElem_mem hlt)
    rw [drop_cons hlt] at h3
    simp only [loads] at h3
    refine Ev.step (f := ?f2) ?h2 ?k2
    case h2 => intro k; simp only [laws_FnHaulLevel.l1]; exact rfl
    case k2 =>
      refine Ev_pos (by omega) (Ev_pos (by omega) ?_)
      rw [rd_T74_get hlt, wsm (a := s + plan[i].f2) (by omega) (by omega), wrap_succ (by omega)]
      exact ih (i + 1) (s + plan[i].f2) (by omega) (by omega) (by omega) (by push_cast; omega) (by omega)
theorem level_l0 (l : List Int) (h : hbal l) (plan : List S74) (hp : plan = haul (pilesH l 0) (pilesM l 0)) (d : Nat) : ∀ (i : Nat) (g : Bool), l.length - i = d → i ≤ l.length → (g && (l.drop i).all fun x => decide (-500 ≤ x ∧ x ≤ 500)) = goodB l →
    Ev (fun k => laws_FnHaulLevel.l0 k l plan ((l.take i).map fun x => 500 + x) g 0 i) true := by
  have hl12 := h.2.1
  induction d with
  | zero =>
    intro i g hd hi h1
    rw [drop_end (by omega)] at h1
    simp only [List.all_nil, Bool.and_true] at h1
    rw [List.take_of_length_le (by omega), h1]
    refine Ev.step (f := ?f1) ?h1 ?k1
    case h1 => intro k; simp only [laws_FnHaulLevel.l0]; exact rfl
    case k1 =>
      refine Ev_neg (by omega) ?_
      exact level_l1 l h plan hp _ 0 0 rfl (by omega) (by omega) (by omega) (by simp)
  | succ d ih =>
    intro i g hd hi h1
    have hlt : i < l.length := by omega
    have hb := h.2.2.1 l[i] (List.getElem_mem hlt)
    rw [drop_cons hlt, List.all_cons] at h1
    refine Ev.step (f := ?f2) ?h2 ?k2
    case h2 => intro k; simp only [laws_FnHaulLevel.l0]; exact rfl
    case k2 =>
      refine Ev_pos (by omega) (Ev_pos (by omega) (Ev_pos (by simp; omega) (Ev_bind_some ?_)))
      rw [rd_get hlt, wsm (a := 500 + l[i]) (by omega) (by omega), wrap_succ (by omega)]
      have e : (l.take i).map (fun x => 500 + x) ++ [500 + l[i]] = (l.take (i + 1)).map fun x => 500 + x := by
        rw [List.take_succ_eq_append_getElem hlt, List.map_append]; rfl
      rw [e]
      cases g with
      | false => exact Ev_neg (by simp) (ih (i + 1) false (by omega) (by omega) (by simpa using h1))
      | true =>
        refine Ev_pos rfl ?_
        by_cases c : l[i] ≥ -500
        · refine Ev_pos c (ih (i + 1) _ (by omega) (by omega) ?_)
          rw [← h1, Bool.true_and]
          congr 1
          exact decide_eq_decide.2 ⟨fun h => ⟨c, h⟩, fun h => h.2⟩
        · refine Ev_neg c (ih (i + 1) false (by omega) (by omega) ?_)
          rw [← h1, decide_eq_false (show ¬ (-500 ≤ l[i] ∧ l[i] ≤ 500) by omega)]
          simp
theorem FnHaulLevel : laws_FnHaulLevel.Pure := by
  intro l0 h1 h2 h3
  suffices h : Ev (fun k => laws_FnHaulLevel.f k l0) true from ⟨_, h.choose_spec _ (Nat.le_refl _)⟩
  unfold laws_FnHaulLevel.f
  by_cases c : (l0.length : Int) > 1048576
  · exact Ev_pos c (Ev_some _)
  refine Ev_neg c ?_
  obtain ⟨t, ht, htl⟩ := drawHaulPlan_ev l0 (bytes_of h3)
  refine Ev_bind ht (Ev_bind (implHaulPlan_ev t) (Ev_bind (specHaulPlan_ev t (by omega)) ?_))
  cases hB : hbalB t with
  | true =>
    have hb := hbalB_iff.1 hB
    simp only [if_true, bne_self_eq_false, Bool.false_eq_true, if_false]
    have hpl := plan_length t hb.1
    refine Ev_bind (sameHauls_ev _ (by omega)) (Ev_pos rfl ?_)
    simp only [Bool.not_true]
    refine Ev.step (f := ?f1) ?h1 ?k1
    case h1 => intro k; simp only [laws_FnHaulLevel.j0]; exact rfl
    case k1 =>
      refine Ev_neg (by simp) (Ev_bind_some ?_)
      have go : ∀ g : Bool, g = decide (2 ≤ t.length ∧ t.length ≤ 6) → Ev (fun k => laws_FnHaulLevel.j1 k t (haul (pilesH t 0) (pilesM t 0)) [] g) true := by
        intro g hg
        refine Ev.step (f := ?f2) ?h2 ?k2
        case h2 => intro k; simp only [laws_FnHaulLevel.j1]; exact rfl
        case k2 => exact level_l0 t hb _ rfl _ 0 g rfl (by omega) (by rw [hg]; rfl)
      by_cases c2 : (t.length : Int) ≥ 2
      · exact Ev_pos c2 (go _ (decide_eq_decide.2 (by omega)))
      · exact Ev_neg c2 (go _ (by rw [decide_eq_false]; omega))
  | false =>
    simp only [Bool.false_eq_true, if_false, bne_self_eq_false]
    refine Ev_bind (sameHauls_ev _ (by simp)) (Ev_pos rfl ?_)
    simp only [Bool.not_false]
    refine Ev.step (f := ?f3) ?h3 ?k3
    case h3 => intro k; simp only [laws_FnHaulLevel.j0]; exact rfl
    case k3 =>
      exact Ev_pos (by simp) (Ev_pos (by simp) (Ev_bind (sameHauls_ev _ (by simp)) (Ev_some _)))
end Go.Proofs.Ytffkojdmidhchaa.Pure
end
