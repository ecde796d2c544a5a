/- Proves the given statement of the law laws_FnExactGridTurn: whole, with no premise of its own. (Printed by a program of this session.) -/
import Derived.Test.YtffkojdmidhchaaRows
import Derived.Test.YtffkojdmidhchaaZFnExactGridTurn2
import Derived.Deep.Matrix
import Derived.WalkKit
import Derived.ProofKit
import Derived.OpenShut
import Derived.ShutString
import Derived.ChangeOld
import Derived.Below
import Derived.SizedLaws
import Derived.Test.YtffkojdmidhchaaWSized
section
namespace Go.Proofs.Ytffkojdmidhchaa.fnExactGridTurn
open Go.ChangeShapes Go.WideShapes Go.ChangeAt Go.RowKit
open Go.ChangeMaps (open_string shut_string)
set_option linter.unusedVariables false
theorem own : ownKnob Try.prog.godebug = none := by kernel_rfl
theorem laidOut : laidOutB Try.prog = true := by kernel_rfl
/-- A slice of rows that came in, as a list. -/
theorem opened {H : Type} {enc : TypeId × Value → H} {W : World} {base : Nat} {held : Bool} {a0 : Option Addr} {len0 cap0 : Nat} {d0 : DataW H} {p0 : List MemPlace}
    (h : DataW.Trod enc Try.prog W base (fun _ => true) held 49 (.slice a0 len0 cap0) d0 p0) : ∃ l : List (List Int), l.length = len0 ∧ len0 ≤ cap0 ∧ Go.Proofs.YtffkojdmidhchaaW.PrintWords.Kd.C P.dSS W a0 len0 l := by
  obtain ⟨fuel, hf⟩ := h
  rcases Go.Deep.open_int_rows Try.underlying49 Try.underlying62 Try.underlying3 (by kernel_rfl) (by kernel_rfl) hf with ⟨hcs, _⟩ | ⟨a, len, cap, A, L, C, Z, hcs, _, hl, hm, hx, hall⟩
  · simp [Value.cells] at hcs
    obtain ⟨rfl, rfl, rfl⟩ := hcs
    exact ⟨[], rfl, Nat.le_refl _, rfl, Nat.zero_le _, fun h => absurd h (by omega)⟩
  · simp [Value.cells] at hcs
    obtain ⟨rfl, rfl, rfl⟩ := hcs
    refine ⟨(List.range len0).map fun r => (Z r).take (L r), by simp, hl, by simp, by unfold maxLen at hm; omega, fun _ => ⟨a, rfl, fun j p hp => ?_⟩⟩
    have hj : j < len0 := by
      have := (List.getElem?_eq_some_iff.1 hp).1
      simpa using this
    have ep : p = (Z j).take (L j) := by simpa [hj] using hp.symm
    subst ep
    obtain ⟨c0, hlc, hcm, hzl, _, hnone, hsome⟩ := hall j (by omega)
    have hlen : ((Z j).take (L j)).length = L j := by rw [List.length_take]; omega
    refine ⟨[.slice (A j) (L j) (C j)], rfl, ⟨A j, C j, by rw [hlen], by rw [hlen]; exact hlc, ?_⟩, fun i u hu => ?_⟩
    · rw [hlen]
      refine ⟨hlen, by unfold maxLen at hcm; omega, fun hpos => ?_⟩
      cases hA : A j with
      | none => have := hnone hA; omega
      | some a' =>
        refine ⟨a', rfl, fun q z hz => ⟨[.int .i64 z], rfl, rfl, fun i u hu => ?_⟩⟩
        have hq : q < L j := by
          have := (List.getElem?_eq_some_iff.1 hz).1
          omega
        have hzz : (Z j).getD q 0 = z := by
          rw [List.getElem?_take_of_lt hq] at hz
          rw [List.getD_eq_getElem?_getD, hz]; rfl
        match i, hu with
        | 0, hu =>
          simp at hu
          subst hu
          have := (hsome a' hA).2 q (by omega)
          rw [hzz] at this
          rw [show q * (Go.Proofs.YtffkojdmidhchaaW.PrintWords.Kd.int .i64).sz + 0 = q by show q * 1 + 0 = q; omega]
          exact this
    · match i, hu with
      | 0, hu =>
        simp at hu
        subst hu
        rw [show j * P.dSS.sz + 0 = j by show j * 1 + 0 = j; omega]
        exact c0
set_option maxRecDepth 100000 in
theorem lifted (os : Os) (started : os.Started) (H : Type) (enc : TypeId × Value → H) :
    ReturnsInHanded {} Try.checked os 6 .any (Rows.fnExactGridTurnSpec.pre6 enc Try.prog Try.f6 Rows.fnExactGridTurnRow.domain false) (Rows.fnExactGridTurnSpec.post enc Try.prog Try.f6 false true false false) := by
  refine returnsInHanded_of_change_sized (C := Try.checked) own started (by kernel_rfl) Try.func6
    (ChangeSpec.witness6 (enc := enc) (C := Try.checked) false ⟨#[], #[.slice none 0 0], []⟩ 6 (by kernel_rfl) (by kernel_rfl) (by kernel_rfl) (by kernel_rfl)) ?_
  intro W base args ds gs before hval0 hW hcnd hsz0 _
  have hsz : (DataW.weightsEach Try.prog (Try.f6.params.toList ++ Rows.fnExactGridTurnSpec.plain.varTypes Try.prog) (ds ++ gs)).all (· ≤ reachBytes) = true := hsz0
  have hval : ∀ (j : Nat) t v, Try.f6.params[j]? = some t → args[j]? = some v → Value.okWide Try.prog W .any base t v := hval0
  have hW' := hW
  obtain ⟨p, q, hA0, hV, rfl, hfz, hnd⟩ := hW
  have hA : DataW.TrodAll enc Try.prog W 0 (fun _ => true) true Try.f6.params.toList args.toList ds p := hA0
  rw [Try.params6] at hA hval hsz
  obtain ⟨v0, vs0, d0, ds0, p0, q0, hargs, rfl, rfl, h0, r0⟩ := trodAll_cons hA
  obtain ⟨rfl, rfl, rfl⟩ := trodAll_nil r0
  obtain rfl : args = #[v0] := by cases args; simp_all
  obtain ⟨rfl, rfl⟩ := trodVars_none hV
  obtain ⟨a0, len0, cap0, rfl⟩ := okWide_slice Try.underlying49 (hval 0 49 v0 rfl rfl)
  have k0 := h0
  have lt0 : ∀ x ∈ p0, x.block < W.heap.size := by obtain ⟨m, hm⟩ := k0; exact DataW.trod_lt m _ _ _ hm
  obtain ⟨l0, el, hlc, hC⟩ := opened h0
  subst el
  clear hA0 hval0 hsz0 hsz
  refine (P.exactGrid a0 cap0 l0 W hC hlc).mono fun e W' ⟨he, bel⟩ => ?_
  subst he
  exact ⟨_, rfl, _, _, _, [], _, [], hW', trodAll_mk1 (shut_bool Try.underlying4 _), (trodAll_cons_mk (Below.trod laidOut (by kernel_rfl) (of_decide_eq_true (by kernel_rfl)) k0 bel lt0) trodAll_mk0), rfl, bel.frame _, fun h => by cases h⟩
theorem over : Rows.fnExactGridTurnRow.holds Try.pinned (OpenSpec.ofChange Rows.fnExactGridTurnSpec) :=
  OpenClaim.holds_of_wide 6 Try.f6 rfl rfl rfl rfl rfl rfl rfl ⟨rfl, rfl, rfl, rfl, rfl⟩ rfl rfl rfl rfl rfl (by kernel_rfl) Try.func6 (by kernel_rfl)
    (of_decide_eq_true (by kernel_rfl)) (by unfold Func.isWrapper; first | (rw [if_pos (by decide +kernel)]; kernel_rfl) | (rw [if_neg (by decide +kernel)]; exact ⟨rfl, rfl⟩))
    (fun os started H enc _ => lifted os started H enc)
theorem proved : Rows.FnExactGridTurnSaid := over
#print axioms proved
end Go.Proofs.Ytffkojdmidhchaa.fnExactGridTurn
namespace Go.Proofs.Ytffkojdmidhchaa
/-- The row, under a short name, for the claim. -/
theorem fnExactGridTurn_holds : Rows.FnExactGridTurnSaid := fnExactGridTurn.proved
end Go.Proofs.Ytffkojdmidhchaa
end
