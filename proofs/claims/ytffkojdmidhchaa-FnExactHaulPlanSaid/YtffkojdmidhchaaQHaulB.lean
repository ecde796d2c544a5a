/- impl.HaulBalanced, as a plain condition. -/
import Derived.Test.YtffkojdmidhchaaQ0
import Derived.Test.YtffkojdmidhchaaGHaulQ
import Derived.Test.YtffkojdmidhchaaP118
namespace Go.Proofs.Ytffkojdmidhchaa.P
open Go.RowKit Go.Proofs.YtffkojdmidhchaaW.PrintWords Go.Proofs.YtffkojdmidhchaaW.PrintLast Go.Proofs.YtffkojdmidhchaaW.PrintMore
set_option linter.unusedVariables false
set_option linter.unusedSimpArgs false

def stB (x : Int) : Bool := decide (-1000 ≤ x ∧ x ≤ 1000)
def stV (l : List Int) : Bool := decide (1 ≤ l.length ∧ l.length ≤ 12) && l.all stB
theorem stV_iff {l : List Int} : stV l = true ↔ 1 ≤ l.length ∧ l.length ≤ 12 ∧ ∀ x ∈ l, -1000 ≤ x ∧ x ≤ 1000 := by
  unfold stV stB; simp [and_assoc]
theorem st_loop (l : List Int) (hl : l.length ≤ 12) (d : Nat) : ∀ i : Nat, l.length - i = d → i ≤ l.length → Ev (fun k => impl_stationsValid.l0 k l l.length i) ((l.drop i).all stB) := by
  induction d with
  | zero =>
    intro i hd hi
    rw [drop_end (by omega)]
    exact Ev_end (fun k => by simp only [impl_stationsValid.l0]; rw [if_neg (by omega)]; rfl)
  | succ d ih =>
    intro i hd hi
    have hlt : i < l.length := by omega
    rw [drop_cons hlt]
    have hw := wn_f (l[i]) 1000 (by omega) (by omega) _ rfl
    cases hb : stB l[i] with
    | true =>
      simp only [List.all_cons, hb, Bool.true_and]
      refine Ev_step (ih (i + 1) (by omega) (by omega)) (fun k => ?_)
      simp only [impl_stationsValid.l0]
      rw [if_pos (by omega), if_pos (by omega), if_pos (by omega), rd_get hlt, wrap_succ (by omega)]
      unfold impl_within.f
      rw [hw]
      have : decide (-1000 ≤ l[i] ∧ l[i] ≤ 1000) = true := hb
      simp only [Option.bind_some, this, if_true]
    | false =>
      simp only [List.all_cons, hb, Bool.false_and]
      refine Ev_end (fun k => ?_)
      simp only [impl_stationsValid.l0]
      rw [if_pos (by omega), if_pos (by omega), if_pos (by omega), rd_get hlt]
      unfold impl_within.f
      rw [hw]
      have : decide (-1000 ≤ l[i] ∧ l[i] ≤ 1000) = false := hb
      simp [this]
theorem stationsValid_ev (l : List Int) : Ev (fun k => impl_stationsValid.f k l) (stV l) := by
  unfold impl_stationsValid.f
  by_cases h1 : (l.length : Int) < 1
  · refine Ev_pos h1 (Ev_end (fun k => ?_))
    simp only [impl_stationsValid.j0]
    have : stV l = false := by unfold stV; simp; omega
    rw [this]; simp
  · refine Ev_neg h1 ?_
    by_cases h2 : (l.length : Int) > 12
    · refine Ev_end (fun k => ?_)
      simp only [impl_stationsValid.j0]
      have : stV l = false := by unfold stV; simp; omega
      rw [this, if_pos (by simpa using h2)]
    · have : stV l = l.all stB := by unfold stV; rw [decide_eq_true (by omega)]; simp
      rw [this]
      refine Ev_step (st_loop l (by omega) l.length 0 (by omega) (by omega)) (fun k => ?_)
      simp only [impl_stationsValid.j0]
      rw [if_neg (by simpa using h2)]
      rfl
/-- The sums up to each station. -/
def curveFrom : Int → List Int → List Int
  | _, [] => []
  | s, x :: r => (s + x) :: curveFrom (s + x) r
theorem curveFrom_length (s : Int) (l : List Int) : (curveFrom s l).length = l.length := by
  induction l generalizing s with
  | nil => rfl
  | cons x r ih => simp [curveFrom, ih]
theorem curve_loop (l : List Int) (hl : l.length ≤ 12) (hb : ∀ x ∈ l, -1000 ≤ x ∧ x ≤ 1000) (d : Nat) : ∀ (i : Nat) (out : List Int) (s : Int), l.length - i = d → i ≤ l.length → out.length = i → -1000 * (i : Int) ≤ s → s ≤ 1000 * (i : Int) →
    Ev (fun k => impl_HaulCurve.l0 k out s l l.length i) (out ++ curveFrom s (l.drop i), true) := by
  induction d with
  | zero =>
    intro i out s hd hi ho h1 h2
    rw [drop_end (by omega)]
    exact Ev_end (fun k => by simp only [impl_HaulCurve.l0]; rw [if_neg (by omega)]; simp [curveFrom])
  | succ d ih =>
    intro i out s hd hi ho h1 h2
    have hlt : i < l.length := by omega
    rw [drop_cons hlt]
    have hx := hb l[i] (List.getElem_mem hlt)
    have hs : wrap64 (s + l[i]) = s + l[i] := wrap_small (by omega) (by omega)
    have h := ih (i + 1) (out ++ [s + l[i]]) (s + l[i]) (by omega) (by omega) (by simp; omega) (by omega) (by omega)
    simp only [curveFrom]
    rw [List.append_assoc, List.singleton_append] at h
    refine Ev_step h (fun k => ?_)
    simp only [impl_HaulCurve.l0]
    rw [if_pos (by omega), if_pos (by omega), if_pos (by omega), if_pos (by omega), rd_get hlt, hs, wrap_succ (by omega)]
theorem HaulCurve_ev (l : List Int) (hl : stV l = true) : Ev (fun k => impl_HaulCurve.f k l) (curveFrom 0 l, true) := by
  have hv := stV_iff.1 hl
  unfold impl_HaulCurve.f
  refine Ev_bind (stationsValid_ev l) ?_
  rw [hl]
  refine Ev_pos rfl (Ev_pos (by omega) (Ev_pos (by simp; omega) ?_))
  have h := curve_loop l hv.2.1 hv.2.2 l.length 0 [] 0 (by omega) (by omega) rfl (by omega) (by omega)
  simpa using h
theorem HaulCurve_no (l : List Int) (hl : stV l = false) : Ev (fun k => impl_HaulCurve.f k l) ([], false) := by
  unfold impl_HaulCurve.f
  refine Ev_bind (stationsValid_ev l) ?_
  rw [hl]
  exact Ev_neg (by simp) (Ev.now _)
theorem curveFrom_last (s : Int) (l : List Int) (h : l ≠ []) : (curveFrom s l).getD (l.length - 1) 0 = s + l.sum := by
  induction l generalizing s with
  | nil => exact absurd rfl h
  | cons x r ih =>
    cases r with
    | nil => simp [curveFrom]
    | cons y r =>
      have := ih (s + x) (by simp)
      simp only [List.length_cons, Nat.add_sub_cancel] at this ⊢
      rw [show curveFrom s (x :: y :: r) = (s + x) :: curveFrom (s + x) (y :: r) from rfl, List.getD_cons_succ, this]
      simp [Int.add_assoc]
def hbalB (l : List Int) : Bool := stV l && (l.sum == 0)
theorem hbalB_iff {l : List Int} : hbalB l = true ↔ hbal l := by
  unfold hbalB hbal
  rw [Bool.and_eq_true, stV_iff]
  simp [and_assoc]
theorem HaulBalanced_ev (l : List Int) : Ev (fun k => impl_HaulBalanced.f k l) (hbalB l) := by
  unfold impl_HaulBalanced.f
  cases hl : stV l with
  | true =>
    have hv := stV_iff.1 hl
    refine Ev_bind (HaulCurve_ev l hl) ?_
    have hlen := curveFrom_length 0 l
    refine Ev_pos rfl ?_
    simp only [hlen]
    rw [wrap_small (a := (l.length : Int) - 1) (by omega) (by omega)]
    refine Ev_pos (by omega) (Ev_pos (by omega) ?_)
    have hne : l ≠ [] := by intro h; rw [h] at hv; simp at hv
    have hlast : rd (curveFrom 0 l) ((l.length : Int) - 1) = l.sum := by
      have := curveFrom_last 0 l hne
      unfold rd
      rw [show ((l.length : Int) - 1).toNat = l.length - 1 by omega, this]
      simp
    rw [hlast]
    unfold hbalB
    rw [hl]
    exact Ev.now _
  | false =>
    refine Ev_bind (HaulCurve_no l hl) ?_
    unfold hbalB
    rw [hl]
    exact Ev_neg (by simp) (Ev.now _)
theorem hb_of {k : Nat} {l : List Int} (h : impl_HaulBalanced.f k l = some true) : hbal l :=
  hbalB_iff.1 (Ev_uniq (fun k => impl_HaulBalanced.mono l k) (HaulBalanced_ev l) h).symm
end Go.Proofs.Ytffkojdmidhchaa.P
