/- The law FnExactHaulPlan, over plain functions: whatever the list, HaulPlan hauls as the reference does, and marks are kept apart. No condition. -/
import Derived.Test.YtffkojdmidhchaaP8
import Derived.Test.YtffkojdmidhchaaQHaul
import Derived.Test.YtffkojdmidhchaaQExact
namespace Go.Proofs.Ytffkojdmidhchaa.Pure
open Go.RowKit Go.Proofs.Ytffkojdmidhchaa.P Go.Proofs.YtffkojdmidhchaaW.PrintWords Go.Proofs.YtffkojdmidhchaaW.PrintLast

theorem haulGo_length (n : Nat) : ∀ h m : List (Int × Int), (haulGo n h m).length ≤ n := by
  induction n with
  | zero => intro h m; simp [haulGo]
  | succ n ih =>
    intro h m
    cases h with
    | nil => rw [haulGo_nil1]; simp
    | cons p h =>
      cases m with
      | nil => rw [haulGo_nil2]; simp
      | cons q m =>
        obtain ⟨a, x⟩ := p
        obtain ⟨b, y⟩ := q
        have h1 := ih h ((b, y - x) :: m)
        have h2 := ih ((a, x - y) :: h) m
        have h3 := ih h m
        simp only [haulGo]
        split
        · simp only [List.length_cons]; omega
        · split <;> (simp only [List.length_cons]; omega)
theorem plan_length (l : List Int) : (if hbalB l = true then (haul (pilesH l 0) (pilesM l 0), true) else ([], false)).1.length ≤ 1048576 := by
  by_cases h : hbalB l = true
  · rw [if_pos h]
    have h1 := haulGo_length ((pilesH l 0).length + (pilesM l 0).length) (pilesH l 0) (pilesM l 0)
    have h2 := pilesH_len l 0
    have h3 := pilesM_len l 0
    have h4 := (hbalB_iff.1 h).2.1
    show (haulGo _ _ _).length ≤ _
    omega
  · rw [if_neg h]; simp

theorem FnExactHaulPlan : laws_FnExactHaulPlan.Pure := by
  intro l h1 h2 h3
  refine Ev.rounds ?_
  unfold laws_FnExactHaulPlan.f
  by_cases hl : (l.length : Int) > 1048576
  · exact Ev_pos hl (Ev.now _)
  · refine Ev_neg hl ?_
    have hl' : l.length ≤ 1048576 := by omega
    have hR := plan_length l
    have hi := implHaulPlan_ev l
    refine Ev_bind (toIntS_ev l hl') ?_
    refine Ev_bind (specHaulPlan_ev l hl') ?_
    refine Ev_bind (toIntS_ev l hl') ?_
    refine Ev_bind hi ?_
    generalize (if hbalB l = true then (haul (pilesH l 0) (pilesM l 0), true) else ([], false)) = R at hi hR
    refine Ev_bind (eqHaulS_ev R.1 hR) ?_
    refine Ev_pos rfl ?_
    refine Ev.step (f := ?f) ?h ?k
    case h => intro k; simp only [laws_FnExactHaulPlan.j0]; exact rfl
    case k =>
      refine Ev_neg (by simp) ?_
      refine Ev_bind (toIntS_ev l hl') (Ev_bind (eqIntS_ev l hl') (Ev_pos rfl ?_))
      obtain ⟨l', hm⟩ := markIntS_ev l hl'
      refine Ev_bind hm (Ev_neg (by simp only; omega) ?_)
      refine Ev_bind (eqHaulS_ev R.1 hR) (Ev_pos rfl ?_)
      refine Ev.step (f := ?f2) ?h2 ?k2
      case h2 => intro k; simp only [laws_FnExactHaulPlan.j1]; exact rfl
      case k2 =>
        refine Ev_neg (by simp) ?_
        refine Ev_bind (markHaulS_ev R.1 hR) ?_
        refine Ev_bind (heldHaulS_ev R.1.length hR) (Ev_neg (by omega) (Ev_pos rfl ?_))
        refine Ev_bind (toIntS_ev l hl') (Ev_bind hi ?_)
        refine Ev_bind (eqHaulS_ev R.1 hR) (Ev_pos rfl ?_)
        refine Ev.step (f := ?f3) ?h3 ?k3
        case h3 => intro k; simp only [laws_FnExactHaulPlan.j2]; exact rfl
        case k3 =>
          refine Ev_neg (by simp) ?_
          exact Ev_bind (heldHaulS_ev R.1.length hR) (Ev_neg (by omega) (Ev_pos rfl (Ev.now _)))
end Go.Proofs.Ytffkojdmidhchaa.Pure
