/- impl.HaulPlan: its plain function and its contract, in the print's form. -/
import Derived.Test.YtffkojdmidhchaaQHaulB
import Derived.Test.YtffkojdmidhchaaGHaulP
namespace Go.Proofs.Ytffkojdmidhchaa.P
open Go.RowKit Go.Proofs.YtffkojdmidhchaaW.PrintWords Go.Proofs.YtffkojdmidhchaaW.PrintLast Go.Proofs.YtffkojdmidhchaaW.PrintMore
set_option linter.unusedVariables false
set_option linter.unusedSimpArgs false
set_option maxHeartbeats 4000000
set_option maxRecDepth 20000

def impl_HaulPlan.f (k : Nat) (l0 : List Int) : Option ((List S74) × Bool) :=
  (impl_HaulBalanced.f k l0).bind fun b => if b = true then some (haul (pilesH l0 0) (pilesM l0 0), true) else some ([], false)
theorem impl_HaulPlan.mono : ∀ a0 k, LeO (impl_HaulPlan.f k a0) (impl_HaulPlan.f (k + 1) a0) := fun a0 k =>
  LeO.bind (impl_HaulBalanced.mono a0 k) (fun _ => LeO.refl _)
theorem reps_h (w : World) (base : Nat) (ok : Nat → Prop) (l : List S74) : Reps (k74.M w base ok) 3 l (hcells l) := by
  induction l with
  | nil => exact Reps.none _ _
  | cons p l ih =>
    rw [show hcells (p :: l) = .int .i64 p.f0 :: .int .i64 p.f1 :: .int .i64 p.f2 :: hcells l by simp [hcells]]
    exact Reps.c3 (k74_mkM w base ok p) ih
theorem R_of_h {w : World} {base : Nat} {v : Value} {l : List S74} (h : w.ownsRow base 74 3 v l.length (hcells l)) : Kd.R k74 74 w base (fun _ => True) v l :=
  ⟨fun _ _ => trivial, hcells l, h, reps_h _ _ _ _⟩
theorem HaulPlan_no (A0 : Option Addr) (c0 : Nat) (l : List Int) (w : World)
    (HB : Calls Try.prog 118 #[.slice A0 l.length c0] w fun e w' => e = .returned (.bool false) ∧ Below w.heap.size w w') :
    Calls Try.prog 47 #[.slice A0 l.length c0] w fun e w' => ∃ v0_ : Value, e = .returned (.tuple #[v0_, .bool false]) ∧ Kd.R k74 74 w' w.heap.size (fun _ => True) v0_ [] ∧ Below w.heap.size w w' := by
  have H0 := Aside0.mk HB; clear HB
  go_enter Try.func47, Try.ntmps47
  go_wp2_with (go_at_call 118; refine H0.out.mono ?_; rintro e w1 ⟨rfl, hw1⟩)
  go_ret2
  refine ⟨_, rfl, R_of_h (l := []) ?_, hw1.alloc hw1.size _⟩
  exact World.ownsRow_lit (base := w.heap.size) (e := 74) (size := 3) w1 #[] 0 hw1.size (by simp [maxLen]) rfl
theorem impl_HaulPlan.calls (k : Nat) (A0 : Option Addr) (c0 : Nat) (l0 : List Int) (r1 : List (S74)) (r2 : Bool) (w : World) (hr0 : Kd.C (Kd.int .i64) w A0 l0.length l0) (hc0 : l0.length ≤ c0) (h : impl_HaulPlan.f k l0 = some (r1, r2)) :
    Calls Try.prog 47 #[.slice A0 l0.length c0] w fun e w' => ∃ v0_ : Value, e = .returned (.tuple #[v0_, .bool r2]) ∧ Kd.R k74 74 w' w.heap.size (fun _ => True) v0_ r1 ∧ Below w.heap.size w w' := by
  unfold impl_HaulPlan.f at h
  obtain ⟨b, hb, h⟩ := Option.bind_eq_some_iff.mp h
  have hB := impl_HaulBalanced.calls k A0 c0 l0 b w hr0 hc0 hb
  cases b with
  | true =>
    rw [if_pos rfl] at h
    injection h with h
    injection h with h1 h2
    subst h1 h2
    refine (HaulPlan_yes A0 c0 l0 w hr0 hc0 (hb_of hb) hB).mono ?_
    rintro e w' ⟨v0, rfl, ho, hw⟩
    exact ⟨v0, rfl, R_of_h ho, hw⟩
  | false =>
    rw [if_neg (by simp)] at h
    injection h with h
    injection h with h1 h2
    subst h1 h2
    exact HaulPlan_no A0 c0 l0 w hB
end Go.Proofs.Ytffkojdmidhchaa.P
