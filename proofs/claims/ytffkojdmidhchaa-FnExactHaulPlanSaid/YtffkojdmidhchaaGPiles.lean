/- The walk of impl.pilesOf and of the queue's put: two queues that are filled side by side. -/
import Derived.Test.YtffkojdmidhchaaGBase

namespace Go.Proofs.Ytffkojdmidhchaa.P
open Go.RowKit Go.Proofs.YtffkojdmidhchaaW.PrintWords Go.Proofs.YtffkojdmidhchaaW.PrintLast Go.Proofs.YtffkojdmidhchaaW.PrintMore
set_option linter.unusedVariables false
set_option linter.unusedSimpArgs false
set_option maxHeartbeats 4000000
set_option maxRecDepth 20000

attribute [local go_sem] frozen_alloc'
/-- A queue's block holds the slice v, and v is a row of the call's own that holds xs. -/
def QBuild (base : Nat) (W : World) (gq : Nat) (v : Value) (n : Nat) (xs : List Value) : Prop :=
  W.heap[gq]? = some (.cells #[v] 182 (0, 0)) ∧ W.ownsRow base 141 2 v n xs ∧ base ≤ gq

theorem put_keep {w w1 : World} {base gq n : Nat} {v : Value} {xs : List Value} {x y : Int} {o : Obj} (hgrow : (((w.alloc (.cells #[.int .i64 x, .int .i64 y] 141)).alloc o).drew).grownBy w1 v.ownBlock)
    (hc : w.cell? ⟨gq, 0, none⟩ = some v) (hf : w.frozen? ⟨gq, 0, none⟩ = false) (hlt : gq < w.heap.size) (hne : v.ownBlock ≠ some gq) (hown : w.ownsRow base 141 2 v n xs) :
    w1.cell? ⟨gq, 0, none⟩ = some v ∧ w1.frozen? ⟨gq, 0, none⟩ = false ∧ w1.cell? ⟨w.heap.size, 0, none⟩ = some (.int .i64 x) ∧ w1.cell? ⟨w.heap.size, 1, none⟩ = some (.int .i64 y) := by
  have hn2 : some w.heap.size ≠ v.ownBlock := fun he => by have := own_lt hown _ he.symm; omega
  have hb : (((w.alloc (.cells #[.int .i64 x, .int .i64 y] 141)).alloc o).drew).heap[gq]? = w.heap[gq]? :=
    (Below.heap_alloc _ o gq (by simp; omega)).trans (Below.heap_alloc w _ gq hlt)
  have hb2 : w1.heap[gq]? = w.heap[gq]? := (hgrow.block gq (by simp; omega) (Ne.symm hne)).trans hb
  have hb3 : w1.heap[w.heap.size]? = some (.cells #[.int .i64 x, .int .i64 y] 141 (0, 0)) :=
    (hgrow.block w.heap.size (by simp; omega) hn2).trans ((Below.heap_alloc _ o w.heap.size (by simp)).trans (heap_alloc_new w _))
  exact ⟨(World.cell?_of_block hb2).trans hc, (World.frozen?_of_block hb2).trans hf, by simp [World.cell?, hb3], by simp [World.cell?, hb3]⟩

theorem put_done {w w1 : World} {base gq n gg cap : Nat} {v : Value} {xs : List Value} {x y : Int} {o : Obj} (hgrow : (((w.alloc (.cells #[.int .i64 x, .int .i64 y] 141)).alloc o).drew).grownBy w1 v.ownBlock)
    (hq : w.heap[gq]? = some (.cells #[v] 182 (0, 0))) (hbq : base ≤ gq) (hbase : base ≤ w.heap.size) (hown : w.ownsRow base 141 2 v n xs)
    (hown1 : w1.ownsRow base 141 2 (.slice (some ⟨gg, 0, none⟩) (n + 1) cap) (n + 1) (xs ++ [.int .i64 x, .int .i64 y])) (hat : v.ownBlock = some gg ∨ gg = w.heap.size + 1 + 1) :
    QBuild base (w1.setCell ⟨gq, 0, none⟩ (.slice (some ⟨gg, 0, none⟩) (n + 1) cap)) gq (.slice (some ⟨gg, 0, none⟩) (n + 1) cap) (n + 1) (xs ++ [.int .i64 x, .int .i64 y]) ∧
      Kept w (w1.setCell ⟨gq, 0, none⟩ (.slice (some ⟨gg, 0, none⟩) (n + 1) cap)) (fun k => k = gq ∨ some k = v.ownBlock) ∧ Below base w (w1.setCell ⟨gq, 0, none⟩ (.slice (some ⟨gg, 0, none⟩) (n + 1) cap)) ∧
      ((Value.slice (some ⟨gg, 0, none⟩) (n + 1) cap).ownBlock = v.ownBlock ∨ ∃ k, (Value.slice (some ⟨gg, 0, none⟩) (n + 1) cap).ownBlock = some k ∧ w.heap.size ≤ k) := by
  have hlt := blk_lt hq
  have hne := own_ne_blk hown hq (by decide)
  have hb2 : w1.heap[gq]? = some (.cells #[v] 182 (0, 0)) := (hgrow.block gq (by simp; omega) (Ne.symm hne)).trans ((Below.heap_alloc _ o gq (by simp; omega)).trans ((Below.heap_alloc w _ gq hlt).trans hq))
  have hgg : (Value.slice (some ⟨gg, 0, none⟩) (n + 1) cap).ownBlock ≠ some gq := own_ne_blk hown1 hb2 (by decide)
  have hK : Kept w w1 (fun k => k = gq ∨ some k = v.ownBlock) := Kept.of_grown hgrow (((Kept.refl w _).alloc _).alloc _).drew (fun k hk => .inl (.inr hk.symm))
  have hB : Below base w w1 := pw_below_grown ((((Below.refl base w).alloc hbase _).alloc (by simp; omega) _).drew) v.ownBlock (by simp; omega) hgrow (fun k hk => own_base hown k hk)
  refine ⟨⟨blk_put hb2 0 _ rfl, hown1.kept (grown_set w1 gq 0 _) (.inr hgg), hbq⟩, hK.setCell (.inl (.inl rfl)) _, hB.setCell hbq _, ?_⟩
  rcases hat with h | h
  · exact .inl (by rw [h]; rfl)
  · exact .inr ⟨gg, rfl, by omega⟩

theorem put_any (base gq n : Nat) (v : Value) (xs : List Value) (x y : Int) (w : World) (hq : QBuild base w gq v n xs) (hbase : base ≤ w.heap.size) (hn : n ≤ 1000) :
    Calls Try.prog 170 #[.pointer (some ⟨gq, 0, none⟩), .agg #[.int .i64 x, .int .i64 y]] w fun e w' => ∃ v', e = .returned (.tuple #[]) ∧
      QBuild base w' gq v' (n + 1) (xs ++ [.int .i64 x, .int .i64 y]) ∧ Kept w w' (fun k => k = gq ∨ some k = v.ownBlock) ∧ Below base w w' ∧ (v'.ownBlock = v.ownBlock ∨ ∃ k, v'.ownBlock = some k ∧ w.heap.size ≤ k) := by
  obtain ⟨hq, hown, hbq⟩ := hq
  have hu141 := Try.underlying141
  have hu182 := Try.underlying182
  have hu180 := Try.underlying180
  obtain ⟨i0, hi0, hz0, hz1, hz2⟩ := info_parts info141
  have hc : w.cell? ⟨gq, 0, none⟩ = some v := by simp [World.cell?, hq]
  have hf : w.frozen? ⟨gq, 0, none⟩ = false := by simp [World.frozen?, hq]
  have hlt : gq < w.heap.size := blk_lt hq
  have hne : v.ownBlock ≠ some gq := fun he => by
    rcases hown.2 with ⟨rfl, _⟩ | ⟨g, cap, cur, rfl, _, hh, _⟩
    · simp [Value.ownBlock] at he
    · have : g = gq := by simpa [Value.ownBlock] using he
      subst this
      rw [hh] at hq
      injection hq with hq
      injection hq with _ ht
      exact absurd ht (by decide)
  have HQ := Aside0.mk hq
  clear hq
  go_enter Try.func170, Try.ntmps170
  go_wp2_with fail
  go_region_law ((refine step_append_lies _ (by rfl) _ _ _ (by rfl) base 141 i0 _ 2 16 Try.underlying180 hi0 hz0 hz1 hz2 rfl (by omega) v n xs (by rfl) (((hown.alloc _).alloc _).drew) ⟨w.heap.size + 1, 0, none⟩ 1 1 [.int .i64 x, .int .i64 y] (by rfl) (by rfl) (World.news_of_block (cs := #[.int .i64 x, .int .i64 y]) (t := 141) (fr := (0, 0)) (by have h_ := heap_alloc_new (w.alloc (.cells #[.int .i64 x, .int .i64 y] 141)) (.cells #[.int .i64 x, .int .i64 y] 141); rw [World.size_alloc] at h_; exact h_)) (by simp [Value.oneCell']) (by omega) (by simp only [maxLen]; omega) (by omega) (by simp; omega) (w.heap.size + 1 + 1) (by simp) ?_; intro gg cap w1 hown1 hgrow hat hlt1; obtain ⟨k0, k1, k2, k3⟩ := put_keep hgrow hc hf hlt hne hown))
  all_goals
    go_wp2
    go_end0
    exact ⟨_, rfl, put_done hgrow HQ.out hbq hbase hown hown1 hat⟩

/-- The piles, station and load; i is the number of the first station. -/
def pilesH : List Int → Int → List (Int × Int)
  | [], _ => []
  | x :: r, i => if 0 < x then (i, x) :: pilesH r (i + 1) else pilesH r (i + 1)
def pilesM : List Int → Int → List (Int × Int)
  | [], _ => []
  | x :: r, i => if x < 0 then (i, -x) :: pilesM r (i + 1) else pilesM r (i + 1)
def pcells (l : List (Int × Int)) : List Value := l.flatMap fun p => [.int .i64 p.1, .int .i64 p.2]
theorem pilesH_snoc (l : List Int) (x i : Int) : pilesH (l ++ [x]) i = pilesH l i ++ (if 0 < x then [(i + l.length, x)] else []) := by
  induction l generalizing i with
  | nil => simp [pilesH]
  | cons y r ih =>
    simp only [List.cons_append, pilesH, ih]
    have e : i + 1 + (r.length : Int) = i + ((y :: r).length : Int) := by simp; omega
    split <;> simp [e]
theorem pilesM_snoc (l : List Int) (x i : Int) : pilesM (l ++ [x]) i = pilesM l i ++ (if x < 0 then [(i + l.length, -x)] else []) := by
  induction l generalizing i with
  | nil => simp [pilesM]
  | cons y r ih =>
    simp only [List.cons_append, pilesM, ih]
    have e : i + 1 + (r.length : Int) = i + ((y :: r).length : Int) := by simp; omega
    split <;> simp [e]
theorem pilesH_len (l : List Int) (i : Int) : (pilesH l i).length ≤ l.length := by
  induction l generalizing i with
  | nil => simp [pilesH]
  | cons y r ih => simp only [pilesH]; have := ih (i + 1); split <;> simp <;> omega
theorem pilesM_len (l : List Int) (i : Int) : (pilesM l i).length ≤ l.length := by
  induction l generalizing i with
  | nil => simp [pilesM]
  | cons y r ih => simp only [pilesM]; have := ih (i + 1); split <;> simp <;> omega
theorem pcells_snoc (l : List (Int × Int)) (p : Int × Int) : pcells (l ++ [p]) = pcells l ++ [.int .i64 p.1, .int .i64 p.2] := by simp [pcells]
theorem take_succ_rd (l : List Int) (k : Nat) (h : k < l.length) : l.take (k + 1) = l.take k ++ [rd l k] := by
  rw [List.take_succ_eq_append_getElem h]
  simp [rd, List.getD_eq_getElem?_getD, List.getElem?_eq_getElem h]

/-- Two queues under way, apart. -/
def TwoQ (base : Nat) (W : World) (g1 g2 : Nat) (h m : List (Int × Int)) : Prop :=
  ∃ v1 v2, QBuild base W g1 v1 h.length (pcells h) ∧ QBuild base W g2 v2 m.length (pcells m) ∧ g1 ≠ g2 ∧ (∀ k, v1.ownBlock = some k → v2.ownBlock ≠ some k)
theorem TwoQ.below {base : Nat} {W : World} {g1 g2 : Nat} {h m : List (Int × Int)} (t : TwoQ base W g1 g2 h m) : base ≤ g1 ∧ base ≤ g2 := by
  obtain ⟨v1, v2, a, b, _⟩ := t
  exact ⟨a.2.2, b.2.2⟩
theorem QBuild.kept {base : Nat} {W W1 : World} {g n : Nat} {v : Value} {xs : List Value} {S : Nat → Prop} (q : QBuild base W g v n xs) (hk : Kept W W1 S) (hg : ¬ S g) (hv : ∀ k, v.ownBlock = some k → ¬ S k) : QBuild base W1 g v n xs :=
  ⟨(hk.2 g (blk_lt q.1) hg).trans q.1, own_keep q.2.1 hk hv, q.2.2⟩
/-- The first queue gets a pile. -/
theorem TwoQ.first {base : Nat} {W W1 : World} {g1 g2 : Nat} {h m : List (Int × Int)} {p : Int × Int} {v1 v2 v' : Value}
    (q1 : QBuild base W g1 v1 h.length (pcells h)) (q2 : QBuild base W g2 v2 m.length (pcells m)) (hne : g1 ≠ g2) (hap : ∀ k, v1.ownBlock = some k → v2.ownBlock ≠ some k)
    (q' : QBuild base W1 g1 v' (h.length + 1) (pcells h ++ [.int .i64 p.1, .int .i64 p.2])) (hk : Kept W W1 (fun k => k = g1 ∨ some k = v1.ownBlock)) (hat : v'.ownBlock = v1.ownBlock ∨ ∃ k, v'.ownBlock = some k ∧ W.heap.size ≤ k) :
    TwoQ base W1 g1 g2 (h ++ [p]) m := by
  refine ⟨v', v2, by rw [pcells_snoc, List.length_append]; exact q', q2.kept hk ?_ ?_, hne, ?_⟩
  · rintro (e | e)
    · exact hne e.symm
    · exact own_ne_blk q1.2.1 q2.1 (by decide) e.symm
  · rintro k hv (e | e)
    · subst e; exact own_ne_blk q2.2.1 q1.1 (by decide) hv
    · exact hap k e.symm hv
  · intro k hk' hv
    rcases hat with e | ⟨k', e, hle⟩
    · exact hap k (by rw [← e]; exact hk') hv
    · rw [hk'] at e
      injection e with e
      subst e
      have := own_lt q2.2.1 k hv
      omega
theorem TwoQ.second {base : Nat} {W W1 : World} {g1 g2 : Nat} {h m : List (Int × Int)} {p : Int × Int} {v1 v2 v' : Value}
    (q1 : QBuild base W g1 v1 h.length (pcells h)) (q2 : QBuild base W g2 v2 m.length (pcells m)) (hne : g1 ≠ g2) (hap : ∀ k, v1.ownBlock = some k → v2.ownBlock ≠ some k)
    (q' : QBuild base W1 g2 v' (m.length + 1) (pcells m ++ [.int .i64 p.1, .int .i64 p.2])) (hk : Kept W W1 (fun k => k = g2 ∨ some k = v2.ownBlock)) (hat : v'.ownBlock = v2.ownBlock ∨ ∃ k, v'.ownBlock = some k ∧ W.heap.size ≤ k) :
    TwoQ base W1 g1 g2 h (m ++ [p]) := by
  refine ⟨v1, v', q1.kept hk ?_ ?_, by rw [pcells_snoc, List.length_append]; exact q', hne, ?_⟩
  · rintro (e | e)
    · exact hne e
    · exact own_ne_blk q2.2.1 q1.1 (by decide) e.symm
  · rintro k hv (e | e)
    · subst e; exact own_ne_blk q1.2.1 q2.1 (by decide) hv
    · exact hap k hv e.symm
  · intro k hk' hv
    rcases hat with e | ⟨k', e, hle⟩
    · exact hap k hk' (by rw [← e]; exact hv)
    · rw [hv] at e
      injection e with e
      subst e
      have := own_lt q1.2.1 k hk'
      omega

def PilesPost (w : World) (l : List Int) (e : Ending) (w' : World) : Prop :=
  ∃ g1 g2, e = .returned (.tuple #[.pointer (some ⟨g1, 0, none⟩), .pointer (some ⟨g2, 0, none⟩)]) ∧ TwoQ w.heap.size w' g1 g2 (pilesH l 0) (pilesM l 0) ∧ Below w.heap.size w w'
def PilesRel (w : World) (l : List Int) (i : Value) (wr : World) : Prop :=
  ∃ k : Nat, k ≤ l.length ∧ i = .int .i64 k ∧ TwoQ w.heap.size wr w.heap.size (w.heap.size + 1) (pilesH (l.take k) 0) (pilesM (l.take k) 0) ∧ Below w.heap.size w wr

theorem piles_any (A0 : Option Addr) (c0 : Nat) (l : List Int) (w : World) (hr : Kd.C (Kd.int .i64) w A0 l.length l) (hc : l.length ≤ c0) (hl : l.length ≤ 12) (hb : ∀ x ∈ l, -1000 ≤ x ∧ x ≤ 1000) :
    Calls Try.prog 119 #[.slice A0 l.length c0] w (PilesPost w l) := by
  have hu182 := Try.underlying182
  have hu141 := Try.underlying141
  go_enter Try.func119, Try.ntmps119
  go_wp2_with fail
  go_loopw [14] (fun i wr => PilesRel w l i wr) (fun i _ => l.length - (intOf i).toNat)
  case atStart =>
    refine ⟨0, Nat.zero_le _, rfl, ⟨.slice none 0 0, .slice none 0 0, ⟨?_, own_nil _ _ _ _, Nat.le_refl _⟩, ⟨?_, own_nil _ _ _ _, by omega⟩, by omega, fun k hk => by simp [Value.ownBlock] at hk⟩, ((Below.refl _ _).alloc (Nat.le_refl _) _).alloc (by simp) _⟩
    · exact (Below.heap_alloc _ _ _ (by simp)).trans (heap_alloc_new w _)
    · have h := heap_alloc_new (w.alloc (.cells #[.slice none 0 0] 182)) (.cells #[.slice none 0 0] 182)
      rw [World.size_alloc] at h
      exact h
  case round =>
    obtain ⟨k, hk, rfl, htq, hB⟩ := hrel
    by_cases hlt : k < l.length
    · obtain ⟨ad, rfl, hcell⟩ := Kd.at_int hr k (by omega) (by omega)
      have hcell' : wr.cell? (ad.add k) = some (.int .i64 (rd l k)) := by
        have := (hB.cell (World.block_lt_of_cell? w _ hcell)).trans hcell
        simpa using this
      clear hcell
      have hbx : -1000 ≤ rd l k ∧ rd l k ≤ 1000 := by
        refine hb _ ?_
        simp [rd, List.getD_eq_getElem?_getD, List.getElem?_eq_getElem hlt]
      have e1 := pilesH_snoc (l.take k) (rd l k) 0
      have e2 := pilesM_snoc (l.take k) (rd l k) 0
      rw [← take_succ_rd l k hlt] at e1 e2
      have hlk : (l.take k).length = k := by rw [List.length_take]; omega
      rw [hlk, Int.zero_add] at e1 e2
      have hH := pilesH_len (l.take k) 0
      have hM := pilesM_len (l.take k) 0
      rw [hlk] at hH hM
      obtain ⟨v1, v2, q1, q2, hne, hap⟩ := htq
      generalize rd l k = x at *
      rcases Int.lt_trichotomy x 0 with hx | hx | hx
      · rw [if_neg (by omega), List.append_nil] at e1
        rw [if_pos hx] at e2
        have E1 := Aside0.mk e1
        have E2 := Aside0.mk e2
        have Q1 := Aside0.mk q1
        have Q2 := Aside0.mk q2
        have HNE := Aside0.mk hne
        have HAP := Aside0.mk hap
        clear e1 e2 q1 q2 hne hap hlk
        have hd1 : decide (0 < x) = false := by simp; omega
        go_wp2_with (go_at_call 170; (with_reducible refine (put_any w.heap.size (w.heap.size + 1) (pilesM (l.take k) 0).length v2 (pcells (pilesM (l.take k) 0)) k (-x) _ Q2.out hB.size (by omega)).mono ?_); rintro e w1 ⟨v', rfl, q', hk', hb', hat⟩)
        exact ⟨⟨k + 1, by omega, by go_num, by rw [E1.out, E2.out]; exact TwoQ.second Q1.out Q2.out HNE.out HAP.out q' hk' hat, hB.trans hb'⟩, by simp [intOf]; omega⟩
      · rw [if_neg (by omega), List.append_nil] at e1 e2
        have E1 := Aside0.mk e1
        have E2 := Aside0.mk e2
        have Q1 := Aside0.mk q1
        have Q2 := Aside0.mk q2
        have HNE := Aside0.mk hne
        have HAP := Aside0.mk hap
        clear e1 e2 q1 q2 hne hap hlk
        have hd1 : decide (0 < x) = false := by simp; omega
        have hd2 : decide (x < 0) = false := by simp; omega
        have h1 : x ≤ 0 := by omega
        have h2 : 0 ≤ x := by omega
        clear hx
        go_wp2
        exact ⟨⟨k + 1, by omega, by go_num, by rw [E1.out, E2.out]; exact ⟨v1, v2, Q1.out, Q2.out, HNE.out, HAP.out⟩, hB⟩, by simp [intOf]; omega⟩
      · rw [if_pos hx] at e1
        rw [if_neg (by omega), List.append_nil] at e2
        have E1 := Aside0.mk e1
        have E2 := Aside0.mk e2
        have Q1 := Aside0.mk q1
        have Q2 := Aside0.mk q2
        have HNE := Aside0.mk hne
        have HAP := Aside0.mk hap
        clear e1 e2 q1 q2 hne hap hlk
        have hd2 : decide (x < 0) = false := by simp; omega
        go_wp2_with (go_at_call 170; (with_reducible refine (put_any w.heap.size w.heap.size (pilesH (l.take k) 0).length v1 (pcells (pilesH (l.take k) 0)) k x _ Q1.out hB.size (by omega)).mono ?_); rintro e w1 ⟨v', rfl, q', hk', hb', hat⟩)
        exact ⟨⟨k + 1, by omega, by go_num, by rw [E1.out, E2.out]; exact TwoQ.first Q1.out Q2.out HNE.out HAP.out q' hk' hat, hB.trans hb'⟩, by simp [intOf]; omega⟩
    · have hkl : k = l.length := by omega
      have htl : l.take k = l := List.take_of_length_le (by omega)
      rw [htl] at htq
      have HT := Aside0.mk htq
      have HB := Aside0.mk hB
      have hge : l.length ≤ k := by omega
      clear htq hkl htl hB hlt
      go_wp2
      go_ret2
      exact ⟨_, _, rfl, HT.out, HB.out⟩
end Go.Proofs.Ytffkojdmidhchaa.P
