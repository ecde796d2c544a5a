/- spec.HaulPlan hauls as impl.HaulPlan does. -/
import Derived.Test.YtffkojdmidhchaaGHaul
import Derived.Test.YtffkojdmidhchaaP45
namespace Go.Proofs.Ytffkojdmidhchaa.P
open Go.RowKit Go.Proofs.YtffkojdmidhchaaW.PrintWords Go.Proofs.YtffkojdmidhchaaW.PrintLast Go.Proofs.YtffkojdmidhchaaW.PrintMore
set_option linter.unusedVariables false
set_option linter.unusedSimpArgs false

theorem l6In_f (n low high : Int) (r : Bool) (h : r = decide (low ≤ n ∧ n ≤ high)) : spec_l6In.f n low high = some r := by
  unfold spec_l6In.f
  subst h
  by_cases c : low ≤ n
  · rw [if_pos (show n ≥ low from c)]; simp [c]
  · rw [if_neg (show ¬ n ≥ low from c)]; simp [c]
theorem l43_loop (l : List Int) (hl : l.length ≤ 1048576) (d : Nat) : ∀ i : Nat, l.length - i = d → i ≤ l.length → Ev (fun k => spec_l43Ok.l0 k l i) ((l.drop i).all stB && decide (1 ≤ l.length ∧ l.length ≤ 12)) := by
  induction d with
  | zero =>
    intro i hd hi
    rw [drop_end (by omega)]
    refine Ev_end (fun k => ?_)
    simp only [spec_l43Ok.l0]
    rw [if_neg (by omega), l6In_f _ _ _ _ rfl]
    simp only [Option.bind_some, List.all_nil, Bool.true_and]
    congr 1
    exact decide_eq_decide.2 (by omega)
  | succ d ih =>
    intro i hd hi
    have hlt : i < l.length := by omega
    rw [drop_cons hlt]
    cases hb : stB l[i] with
    | true =>
      simp only [List.all_cons, hb, Bool.true_and]
      refine Ev_step (ih (i + 1) (by omega) (by omega)) (fun k => ?_)
      simp only [spec_l43Ok.l0]
      rw [if_pos (by omega), if_pos (by omega), rd_get hlt, wrap_succ (by omega), l6In_f _ _ _ true (by rw [← hb]; rfl)]
      simp
    | false =>
      simp only [List.all_cons, hb, Bool.false_and]
      refine Ev_end (fun k => ?_)
      simp only [spec_l43Ok.l0]
      rw [if_pos (by omega), if_pos (by omega), rd_get hlt, l6In_f _ _ _ false (by rw [← hb]; rfl)]
      simp
theorem l43Ok_ev (l : List Int) (hl : l.length ≤ 1048576) : Ev (fun k => spec_l43Ok.f k l) (stV l) := by
  unfold spec_l43Ok.f
  have h := l43_loop l hl l.length 0 (by omega) (by omega)
  rw [List.drop_zero, Bool.and_comm] at h
  exact h
theorem sum_loop (l : List Int) (hl : l.length ≤ 1048576) (hb : ∀ x ∈ l, -1000000000 ≤ x ∧ x ≤ 1000000000) (d : Nat) : ∀ (i : Nat) (s : Int), l.length - i = d → i ≤ l.length → -1000000000 * (i : Int) ≤ s → s ≤ 1000000000 * (i : Int) → Ev (fun k => spec_l14Sum.l0 k l s i) (s + (l.drop i).sum) := by
  induction d with
  | zero =>
    intro i s hd hi h1 h2
    rw [drop_end (by omega)]
    refine Ev_end (fun k => ?_)
    simp only [spec_l14Sum.l0]
    rw [if_neg (by omega)]
    simp
  | succ d ih =>
    intro i s hd hi h1 h2
    have hlt : i < l.length := by omega
    rw [drop_cons hlt]
    have hx := hb l[i] (List.getElem_mem hlt)
    have h := ih (i + 1) (s + l[i]) (by omega) (by omega) (by omega) (by omega)
    rw [List.sum_cons, ← Int.add_assoc]
    refine Ev_step h (fun k => ?_)
    simp only [spec_l14Sum.l0]
    rw [if_pos (by omega), if_pos (by omega), rd_get hlt, wrap_succ (by omega), wrap_small (a := s + l[i]) (by omega) (by omega)]
theorem l14Sum_ev (l : List Int) (hl : l.length ≤ 1048576) (hb : ∀ x ∈ l, -1000000000 ≤ x ∧ x ≤ 1000000000) : Ev (fun k => spec_l14Sum.f k l) l.sum := by
  unfold spec_l14Sum.f
  have h := sum_loop l hl hb l.length 0 0 (by omega) (by omega) (by omega) (by omega)
  simpa using h
theorem specHaulBalanced_ev (l : List Int) (hl : l.length ≤ 1048576) : Ev (fun k => spec_HaulBalanced.f k l) (hbalB l) := by
  unfold spec_HaulBalanced.f hbalB
  refine Ev_bind (l43Ok_ev l hl) ?_
  cases h : stV l with
  | true =>
    refine Ev_pos rfl (Ev_bind (l14Sum_ev l hl (fun x hx => ?_)) ?_)
    · have := (stV_iff.1 h).2.2 x hx; omega
    · exact Ev.now _
  | false => exact Ev_neg (by simp) (Ev.now _)

/-- The first station with a sign. -/
def firstOf (l : List (Int × Int)) : Int := match l with | [] => -1 | p :: _ => p.1
theorem l1Sign_f (n : Int) : spec_l1Sign.f n = some (if n < 0 then -1 else if 0 < n then 1 else 0) := by
  unfold spec_l1Sign.f mx mn
  congr 1
  split <;> split <;> split <;> (try split) <;> omega
theorem firstH_loop (l : List Int) (hl : l.length ≤ 1048576) (d : Nat) : ∀ i : Nat, l.length - i = d → i ≤ l.length → Ev (fun k => spec_l43First.l0 k l 1 i) (firstOf (pilesH (l.drop i) i)) := by
  induction d with
  | zero =>
    intro i hd hi
    rw [drop_end (by omega)]
    exact Ev_end (fun k => by simp only [spec_l43First.l0]; rw [if_neg (by omega)]; rfl)
  | succ d ih =>
    intro i hd hi
    have hlt : i < l.length := by omega
    rw [drop_cons hlt]
    by_cases hx : 0 < l[i]
    · simp only [pilesH, if_pos hx, firstOf]
      refine Ev_end (fun k => ?_)
      simp only [spec_l43First.l0]
      rw [if_pos (by omega), if_pos (by omega), rd_get hlt, l1Sign_f, if_neg (by omega), if_pos hx]
      simp
    · simp only [pilesH, if_neg hx]
      have h := ih (i + 1) (by omega) (by omega)
      rw [show (((i + 1 : Nat) : Int)) = (i : Int) + 1 by omega] at h
      refine Ev_step h (fun k => ?_)
      simp only [spec_l43First.l0]
      rw [if_pos (by omega), if_pos (by omega), rd_get hlt, l1Sign_f, wrap_succ (by omega), if_neg hx]
      split <;> simp
theorem firstM_loop (l : List Int) (hl : l.length ≤ 1048576) (d : Nat) : ∀ i : Nat, l.length - i = d → i ≤ l.length → Ev (fun k => spec_l43First.l0 k l (-1) i) (firstOf (pilesM (l.drop i) i)) := by
  induction d with
  | zero =>
    intro i hd hi
    rw [drop_end (by omega)]
    exact Ev_end (fun k => by simp only [spec_l43First.l0]; rw [if_neg (by omega)]; rfl)
  | succ d ih =>
    intro i hd hi
    have hlt : i < l.length := by omega
    rw [drop_cons hlt]
    by_cases hx : l[i] < 0
    · simp only [pilesM, if_pos hx, firstOf]
      refine Ev_end (fun k => ?_)
      simp only [spec_l43First.l0]
      rw [if_pos (by omega), if_pos (by omega), rd_get hlt, l1Sign_f, if_pos hx]
      simp
    · simp only [pilesM, if_neg hx]
      have h := ih (i + 1) (by omega) (by omega)
      rw [show (((i + 1 : Nat) : Int)) = (i : Int) + 1 by omega] at h
      refine Ev_step h (fun k => ?_)
      simp only [spec_l43First.l0]
      rw [if_pos (by omega), if_pos (by omega), rd_get hlt, l1Sign_f, wrap_succ (by omega), if_neg hx]
      split <;> simp
theorem firstH_ev (l : List Int) (hl : l.length ≤ 1048576) : Ev (fun k => spec_l43First.f k l 1) (firstOf (pilesH l 0)) := by
  unfold spec_l43First.f
  have h := firstH_loop l hl l.length 0 (by omega) (by omega)
  simpa using h
theorem firstM_ev (l : List Int) (hl : l.length ≤ 1048576) : Ev (fun k => spec_l43First.f k l (-1)) (firstOf (pilesM l 0)) := by
  unfold spec_l43First.f
  have h := firstM_loop l hl l.length 0 (by omega) (by omega)
  simpa using h

/-- Where the first pile lies, and what becomes of the piles when its station is written anew. -/
theorem pilesH_head (r : List Int) : ∀ (s i x : Int) (t : List (Int × Int)), pilesH r s = (i, x) :: t → ∃ j : Nat, ∃ h : j < r.length, i = s + j ∧ r[j] = x ∧ 0 < x ∧
    (∀ x', 0 ≤ x' → pilesH (r.set j x') s = if 0 < x' then (i, x') :: t else t) ∧ (∀ x', 0 ≤ x' → pilesM (r.set j x') s = pilesM r s) := by
  induction r with
  | nil => intro s i x t h; simp [pilesH] at h
  | cons y r ih =>
    intro s i x t h
    simp only [pilesH] at h
    by_cases hy : 0 < y
    · rw [if_pos hy] at h
      injection h with h1 h2
      injection h1 with h1 h3
      subst h1 h2 h3
      refine ⟨0, by simp, by omega, rfl, hy, fun x' hx => ?_, fun x' hx => ?_⟩
      · simp [pilesH]
      · simp only [List.set_cons_zero, pilesM]; rw [if_neg (by omega), if_neg (by omega)]
    · rw [if_neg hy] at h
      obtain ⟨j, hj, e1, e2, e3, e4, e5⟩ := ih (s + 1) i x t h
      refine ⟨j + 1, by simp; omega, by omega, by simpa using e2, e3, fun x' hx => ?_, fun x' hx => ?_⟩
      · simp only [List.set_cons_succ, pilesH]; rw [if_neg hy]; exact e4 x' hx
      · simp only [List.set_cons_succ, pilesM]; rw [e5 x' hx]
theorem pilesM_head (r : List Int) : ∀ (s i x : Int) (t : List (Int × Int)), pilesM r s = (i, x) :: t → ∃ j : Nat, ∃ h : j < r.length, i = s + j ∧ r[j] = -x ∧ 0 < x ∧
    (∀ x', 0 ≤ x' → pilesM (r.set j (-x')) s = if 0 < x' then (i, x') :: t else t) ∧ (∀ x', 0 ≤ x' → pilesH (r.set j (-x')) s = pilesH r s) := by
  induction r with
  | nil => intro s i x t h; simp [pilesM] at h
  | cons y r ih =>
    intro s i x t h
    simp only [pilesM] at h
    by_cases hy : y < 0
    · rw [if_pos hy] at h
      injection h with h1 h2
      injection h1 with h1 h3
      subst h1 h2 h3
      refine ⟨0, by simp, by omega, by simp, by omega, fun x' hx => ?_, fun x' hx => ?_⟩
      · simp only [List.set_cons_zero, pilesM]
        by_cases h0 : 0 < x'
        · rw [if_pos (by omega), if_pos h0]; simp
        · rw [if_neg (by omega), if_neg h0]
      · simp only [List.set_cons_zero, pilesH]; rw [if_neg (by omega), if_neg (by omega)]
    · rw [if_neg hy] at h
      obtain ⟨j, hj, e1, e2, e3, e4, e5⟩ := ih (s + 1) i x t h
      refine ⟨j + 1, by simp; omega, by omega, by simpa using e2, e3, fun x' hx => ?_, fun x' hx => ?_⟩
      · simp only [List.set_cons_succ, pilesM]; rw [if_neg hy]; exact e4 x' hx
      · simp only [List.set_cons_succ, pilesH]; rw [e5 x' hx]
theorem pilesH_none (r : List Int) (s : Int) (h : pilesH r s = []) : ∀ x ∈ r, x ≤ 0 := by
  induction r generalizing s with
  | nil => intro x hx; cases hx
  | cons y r ih =>
    simp only [pilesH] at h
    by_cases hy : 0 < y
    · rw [if_pos hy] at h; cases h
    · rw [if_neg hy] at h
      intro x hx
      rcases List.mem_cons.1 hx with rfl | hx
      · omega
      · exact ih _ h x hx
theorem pilesM_none (r : List Int) (s : Int) (h : pilesM r s = []) : ∀ x ∈ r, 0 ≤ x := by
  induction r generalizing s with
  | nil => intro x hx; cases hx
  | cons y r ih =>
    simp only [pilesM] at h
    by_cases hy : y < 0
    · rw [if_pos hy] at h; cases h
    · rw [if_neg hy] at h
      intro x hx
      rcases List.mem_cons.1 hx with rfl | hx
      · omega
      · exact ih _ h x hx
theorem sum_nonneg (r : List Int) (h : ∀ x ∈ r, 0 ≤ x) : 0 ≤ r.sum := by
  induction r with
  | nil => simp
  | cons y r ih =>
    have := ih (fun x hx => h x (List.mem_cons_of_mem _ hx))
    have := h y (List.mem_cons_self ..)
    rw [List.sum_cons]; omega
theorem sum_set (r : List Int) (j : Nat) (h : j < r.length) (x : Int) : (r.set j x).sum = r.sum - r[j] + x := by
  induction r generalizing j with
  | nil => simp at h
  | cons y r ih =>
    cases j with
    | zero => simp; omega
    | succ j =>
      simp only [List.set_cons_succ, List.sum_cons, List.getElem_cons_succ]
      rw [ih j (by simpa using h)]; omega
theorem sum_pos_of (r : List Int) (j : Nat) (h : j < r.length) (hn : ∀ x ∈ r, 0 ≤ x) (hp : 0 < r[j]) : 0 < r.sum := by
  have h1 := sum_set r j h 0
  have h2 := sum_nonneg (r.set j 0) (fun x hx => by
    rcases List.mem_or_eq_of_mem_set hx with hx | rfl
    · exact hn x hx
    · omega)
  omega
theorem mn_eq (a b : Int) : mn a b = if b < a then b else a := rfl
theorem nat_toNat (j : Nat) : ((0 : Int) + (j : Int)).toNat = j := by omega
theorem specPlan_end (out : List S74) (r : List Int) (hl : r.length ≤ 12) (h0 : pilesH r 0 = []) : Ev (fun k => spec_HaulPlan.l0 k out r) (out ++ haul (pilesH r 0) (pilesM r 0), true) := by
  refine Ev.step (f := ?f) ?h ?k
  case h => intro k; simp only [spec_HaulPlan.l0]; exact rfl
  case k =>
    refine Ev_bind (firstH_ev r (by omega)) ?_
    rw [h0, haul_nil1, List.append_nil]
    exact Ev_neg (by simp [firstOf]) (Ev.now _)
theorem specPlan_loop (d : Nat) : ∀ (out : List S74) (r : List Int), (pilesH r 0).length + (pilesM r 0).length ≤ d → r.length ≤ 12 → out.length + d ≤ 1000 → (∀ x ∈ r, -1000 ≤ x ∧ x ≤ 1000) → r.sum = 0 →
    Ev (fun k => spec_HaulPlan.l0 k out r) (out ++ haul (pilesH r 0) (pilesM r 0), true) := by
  induction d with
  | zero =>
    intro out r hd hl ho hb hs
    exact specPlan_end out r hl (List.eq_nil_of_length_eq_zero (by omega))
  | succ d ih =>
    intro out r hd hl ho hb hs
    cases hH : pilesH r 0 with
    | nil => rw [← hH]; exact specPlan_end out r hl hH
    | cons p th =>
      obtain ⟨a, x⟩ := p
      obtain ⟨i, hi, rfl, hri, hx, hsH, hsM⟩ := pilesH_head r 0 a x th hH
      cases hM : pilesM r 0 with
      | nil =>
        have := sum_pos_of r i hi (pilesM_none r 0 hM) (by omega)
        omega
      | cons q tm =>
        obtain ⟨b, y⟩ := q
        obtain ⟨j, hj, rfl, hrj, hy, hsM2, hsH2⟩ := pilesM_head r 0 b y tm hM
        have hbi := hb r[i] (List.getElem_mem hi)
        have hbj := hb r[j] (List.getElem_mem hj)
        have hij : i ≠ j := by intro e; subst e; omega
        -- what is hauled
        have hn : mn (rd r ((0 : Int) + i)) (wrap64 (-(rd r ((0 : Int) + j)))) = if x < y then x else y := by
          rw [Int.zero_add, Int.zero_add, rd_get hi, rd_get hj, hri, hrj, mn_eq, wrap_small (by omega) (by omega)]
          split <;> split <;> omega
        generalize hnn : (if x < y then x else y) = n at hn
        have hn1 : 0 < n ∧ n ≤ x ∧ n ≤ y := by subst hnn; split <;> omega
        have e1 : wrap64 (rd r ((0 : Int) + i) - n) = x - n := by rw [Int.zero_add, rd_get hi, hri, wrap_small (by omega) (by omega)]
        have hset : (r.set i (x - n)).length = r.length := by simp
        have hj' : j < (r.set i (x - n)).length := by simpa using hj
        have hrj' : (r.set i (x - n))[j] = -y := by rw [List.getElem_set_ne hij]; exact hrj
        have e2 : wrap64 (rd (r.set i (x - n)) ((0 : Int) + j) + n) = -(y - n) := by rw [Int.zero_add, rd_get hj', hrj', wrap_small (by omega) (by omega)]; omega
        -- the piles behind it
        have k1 := hsH (x - n) (by omega)
        have k2 := hsM (x - n) (by omega)
        rw [hM] at k2
        obtain ⟨j2, hj2, hjj, hrj2, _, hsM3, hsH3⟩ := pilesM_head (r.set i (x - n)) 0 _ y tm k2
        have : j2 = j := by omega
        subst this
        have m1 := hsM3 (y - n) (by omega)
        have m2 := hsH3 (y - n) (by omega)
        rw [k1] at m2
        have hb' : ∀ z ∈ (r.set i (x - n)).set j2 (-(y - n)), -1000 ≤ z ∧ z ≤ 1000 := by
          intro z hz
          rcases List.mem_or_eq_of_mem_set hz with hz | rfl
          · rcases List.mem_or_eq_of_mem_set hz with hz | rfl
            · exact hb z hz
            · omega
          · omega
        have hs' : ((r.set i (x - n)).set j2 (-(y - n))).sum = 0 := by
          rw [sum_set _ _ hj', sum_set _ _ hi, hrj', hri]; omega
        have hd' : (pilesH ((r.set i (x - n)).set j2 (-(y - n))) 0).length + (pilesM ((r.set i (x - n)).set j2 (-(y - n))) 0).length ≤ d := by
          rw [m1, m2]
          rw [hH, hM] at hd
          simp only [List.length_cons] at hd
          subst hnn
          by_cases c : x < y
          · rw [if_pos c, if_neg (by omega), if_pos (by omega)]; simp; omega
          · rw [if_neg c, if_neg (by omega : ¬ 0 < y - y)]; (split <;> (try simp only [List.length_cons]) <;> omega)
        have hl' : ((r.set i (x - n)).set j2 (-(y - n))).length ≤ 12 := by rw [List.length_set, List.length_set]; exact hl
        have ho' : (out ++ [(⟨(0 : Int) + i, (0 : Int) + j2, n⟩ : S74)]).length + d ≤ 1000 := by rw [List.length_append, List.length_singleton]; omega
        have h := ih (out ++ [⟨(0 : Int) + i, (0 : Int) + j2, n⟩]) _ hd' hl' ho' hb' hs'
        have hF : (out ++ [(⟨(0 : Int) + i, (0 : Int) + j2, n⟩ : S74)]) ++ haul (pilesH ((r.set i (x - n)).set j2 (-(y - n))) 0) (pilesM ((r.set i (x - n)).set j2 (-(y - n))) 0) = out ++ haul (((0 : Int) + i, x) :: th) (((0 : Int) + j2, y) :: tm) := by
          rw [m1, m2, List.append_assoc, haul_cons]
          subst hnn
          by_cases c : x < y
          · rw [if_pos c, if_pos c, if_neg (by omega), if_pos (by omega)]; rfl
          · rw [if_neg c, if_neg c, if_neg (by omega : ¬ 0 < y - y)]
            by_cases c2 : y < x
            · rw [if_pos c2, if_pos (by omega)]; rfl
            · rw [if_neg c2, if_neg (by omega)]
              have : x = y := by omega
              subst this; rfl
        rw [hF] at h
        refine Ev.step (f := ?f) ?h ?k
        case h => intro k; simp only [spec_HaulPlan.l0]; exact rfl
        case k =>
          refine Ev_bind (firstH_ev r (by omega)) ?_
          rw [hH]
          refine Ev_pos (by simp [firstOf]) ?_
          refine Ev_bind (firstH_ev r (by omega)) ?_
          rw [hH]
          refine Ev_bind (firstM_ev r (by omega)) ?_
          rw [hM]
          simp only [firstOf]
          refine Ev_pos (by omega) (Ev_pos (by omega) (Ev_pos (by omega) (Ev_pos (by omega) (Ev_pos (by omega) ?_))))
          simp only [Option.bind_some, hn, e1, nat_toNat, e2]
          exact h
theorem specHaulPlan_ev (l : List Int) (hl : l.length ≤ 1048576) : Ev (fun k => spec_HaulPlan.f k l) (if hbalB l = true then (haul (pilesH l 0) (pilesM l 0), true) else ([], false)) := by
  unfold spec_HaulPlan.f
  simp only [Option.bind_some]
  refine Ev_bind (specHaulBalanced_ev l hl) ?_
  by_cases h : hbalB l = true
  · have hv := hbalB_iff.1 h
    refine Ev_pos h ?_
    rw [if_pos h]
    refine Ev_pos (by simp; omega) ?_
    have hh := pilesH_len l 0
    have hm := pilesM_len l 0
    have h2 := specPlan_loop 24 [] l (by have := hv.2.1; omega) hv.2.1 (by simp) hv.2.2.1 hv.2.2.2
    simpa using h2
  · rw [if_neg h]
    exact Ev_neg h (Ev.now _)
theorem implHaulPlan_ev (l : List Int) : Ev (fun k => impl_HaulPlan.f k l) (if hbalB l = true then (haul (pilesH l 0) (pilesM l 0), true) else ([], false)) := by
  unfold impl_HaulPlan.f
  refine Ev_bind (HaulBalanced_ev l) ?_
  by_cases h : hbalB l = true
  · simp only [if_pos h]; exact Ev.now _
  · simp only [if_neg h]; exact Ev.now _
end Go.Proofs.Ytffkojdmidhchaa.P
