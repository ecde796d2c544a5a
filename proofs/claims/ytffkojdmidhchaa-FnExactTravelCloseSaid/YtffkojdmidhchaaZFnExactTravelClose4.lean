/- Parts of the proof of the law FnExactTravelClose: the plain functions, their contracts and the plain law (merged texts of this session, part 4 of 4). -/
import Derived.Test.YtffkojdmidhchaaZFnExactTravelClose3
import Derived.Test.YtffkojdmidhchaaZFnExactTravelClose2
import Derived.Test.YtffkojdmidhchaaZFnExactTravelClose1
section
/- impl.TravelClose and spec.TravelClose close alike. No condition but the length of the list. -/
namespace Go.Proofs.Ytffkojdmidhchaa.P
open Go.RowKit Go.Proofs.YtffkojdmidhchaaW.PrintWords Go.Proofs.YtffkojdmidhchaaW.PrintLast Go.Proofs.YtffkojdmidhchaaW.PrintMore
set_option linter.unusedVariables false
set_option linter.unusedSimpArgs false

def size (x : Int) : Int := if x < 0 then -x else x
def stepLen (p : S30) : Int := size p.f0 + size p.f1
theorem absInt_size (x : Int) (h1 : -9223372036854775807 ≤ x) (h2 : x ≤ 9223372036854775807) : impl_absInt.f x = some (size x) := by
  unfold impl_absInt.f size
  by_cases c : x < 0
  · rw [if_pos c, if_pos c, wsml (by omega) (by omega)]
  · rw [if_neg c, if_neg c]
theorem l1Size_size (x : Int) (h1 : -9223372036854775807 ≤ x) (h2 : x ≤ 9223372036854775807) : spec_l1Size.f x = some (size x) := by
  unfold spec_l1Size.f size mx
  rw [wsml (a := -x) (by omega) (by omega)]
  congr 1
  split <;> split <;> omega
theorem size_bound (x b : Int) (h : -b ≤ x ∧ x ≤ b) : 0 ≤ size x ∧ size x ≤ b := by unfold size; split <;> omega
theorem stepLength_f (p : S30) (h : stepOk p = true) : impl_stepLength.f p.f0 p.f1 = some (stepLen p) := by
  have hs := stepOk_iff.1 h
  have b0 := size_bound p.f0 20000 hs.1
  have b1 := size_bound p.f1 20000 hs.2
  unfold impl_stepLength.f
  rw [absInt_size p.f0 (by omega) (by omega), absInt_size p.f1 (by omega) (by omega)]
  simp only [Option.bind_some]
  rw [wsml (by omega) (by omega)]; rfl
def lensOf (l : List S30) : List Int := l.map stepLen
theorem lensOf_take (l : List S30) (i : Nat) (h : i < l.length) : (lensOf l).take (i + 1) = (lensOf l).take i ++ [stepLen l[i]] := by
  rw [List.take_succ_eq_append_getElem (by simpa [lensOf] using h)]; simp [lensOf]
theorem shareGo_length (m : Nat) : ∀ S R : List Int, (shareGo m S R).length = S.length := by
  induction m with
  | zero => intro S R; rfl
  | succ m ih => intro S R; simp only [shareGo]; rw [ih]; simp
theorem shareOf_length (l : List Int) (a : Int) : (shareOf l a).length = l.length := by unfold shareOf; rw [shareGo_length]; simp [floors]
def addAt (l : List S30) (X Y : List Int) (i : Nat) : S30 := ⟨wrap64 ((rd_T30 l (i : Int)).f0 + X.getD i 0), wrap64 ((rd_T30 l (i : Int)).f1 + Y.getD i 0)⟩
def closed (l : List S30) (X Y : List Int) : List S30 := (List.range l.length).map (addAt l X Y)
theorem closed_take (l : List S30) (X Y : List Int) (i : Nat) (h : i < l.length) : (closed l X Y).take (i + 1) = (closed l X Y).take i ++ [addAt l X Y i] := by
  rw [List.take_succ_eq_append_getElem (by simpa [closed] using h)]; simp [closed]
theorem closed_length (l : List S30) (X Y : List Int) : (closed l X Y).length = l.length := by simp [closed]
def closeOf (l : List S30) : List S30 × Bool :=
  if travB l = true then
    if (shareB (lensOf l) (wrap64 (-(gapX l))) && shareB (lensOf l) (wrap64 (-(gapY l)))) = true then
      if travB (closed l (shareOf (lensOf l) (wrap64 (-(gapX l)))) (shareOf (lensOf l) (wrap64 (-(gapY l))))) = true then (closed l (shareOf (lensOf l) (wrap64 (-(gapX l)))) (shareOf (lensOf l) (wrap64 (-(gapY l)))), true)
      else ([], false)
    else ([], false)
  else ([], false)
theorem implClose_l1 (l : List S30) (hl : l.length ≤ 12) (X Y : List Int) (hX : X.length = l.length) (hY : Y.length = l.length) (d : Nat) : ∀ i : Nat, l.length - i = d → i ≤ l.length →
    Ev (fun k => impl_TravelClose.l1 k X Y ((closed l X Y).take i) l l.length i) (if travB (closed l X Y) = true then (closed l X Y, true) else ([], false)) := by
  have hcl := closed_length l X Y
  induction d with
  | zero =>
    intro i hd hi
    rw [List.take_of_length_le (by omega)]
    refine Ev.step (f := ?f1) ?h1 ?k1
    case h1 => intro k; simp only [impl_TravelClose.l1]; exact rfl
    case k1 =>
      refine Ev_neg (by omega) (Ev_bind (TravelValid_ev _) ?_)
      cases travB (closed l X Y) with
      | true => exact Ev_pos rfl (Ev_some _)
      | false => exact Ev_neg (by simp) (Ev_some _)
  | succ d ih =>
    intro i hd hi
    have hlt : i < l.length := by omega
    refine Ev.step (f := ?f2) ?h2 ?k2
    case h2 => intro k; simp only [impl_TravelClose.l1]; exact rfl
    case k2 =>
      refine Ev_pos (by omega) (Ev_pos (by omega) (Ev_pos (by omega) (Ev_pos (by omega) (Ev_pos (by omega) (Ev_pos (by simp; omega) ?_)))))
      rw [wrap_succ (by omega), rd_getD, rd_getD]
      have := ih (i + 1) (by omega) (by omega)
      rw [closed_take l X Y i hlt] at this
      exact this
theorem specTravel_loop (l : List S30) (hl : l.length ≤ 1048576) (d : Nat) : ∀ i : Nat, l.length - i = d → i ≤ l.length → (∀ p ∈ l.take i, stepOk p = true) → Ev (fun k => spec_TravelValid.l0 k l i) (travB l) := by
  induction d with
  | zero =>
    intro i hd hi hp
    rw [List.take_of_length_le (by omega)] at hp
    refine Ev.step (f := ?f1) ?h1 ?k1
    case h1 => intro k; simp only [spec_TravelValid.l0]; exact rfl
    case k1 =>
      refine Ev_neg (by omega) ?_
      rw [l6In_f _ 1 12 _ rfl]
      have e : travB l = decide ((1 : Int) ≤ (l.length : Int) ∧ (l.length : Int) ≤ 12) := by
        unfold travB
        rw [List.all_eq_true.2 hp, Bool.and_true]
        exact decide_eq_decide.2 (by omega)
      rw [e]
      exact Ev_bind_some (Ev_some _)
  | succ d ih =>
    intro i hd hi hp
    have hlt : i < l.length := by omega
    have hok : spec_l2StepOk.f l[i].f0 l[i].f1 = some (stepOk l[i]) := by
      unfold spec_l2StepOk.f stepOk
      rw [l6In_f _ (-20000) 20000 _ rfl, l6In_f _ (-20000) 20000 _ rfl]
      simp only [Option.bind_some]
      cases decide (-20000 ≤ l[i].f0 ∧ l[i].f0 ≤ 20000) <;> simp
    refine Ev.step (f := ?f2) ?h2 ?k2
    case h2 => intro k; simp only [spec_TravelValid.l0]; exact rfl
    case k2 =>
      refine Ev_pos (by omega) (Ev_pos (by omega) ?_)
      rw [rd_T30_get hlt, hok, wrap_succ (by omega)]
      refine Ev_bind_some ?_
      cases h : stepOk l[i] with
      | true =>
        refine Ev_pos rfl (ih (i + 1) (by omega) (by omega) (fun x hx => ?_))
        rw [List.take_succ_eq_append_getElem hlt] at hx
        rcases List.mem_append.1 hx with hx | hx
        · exact hp x hx
        · rw [List.mem_singleton] at hx; subst hx; exact h
      | false =>
        have e : travB l = false := by
          unfold travB
          have : l.all stepOk = false := List.all_eq_false.2 ⟨l[i], List.getElem_mem hlt, by rw [h]; simp⟩
          rw [this, Bool.and_false]
        rw [e]
        exact Ev_neg (by simp) (Ev_some _)
theorem specTravel_ev (l : List S30) (hl : l.length ≤ 1048576) : Ev (fun k => spec_TravelValid.f k l) (travB l) := by
  unfold spec_TravelValid.f
  exact specTravel_loop l hl _ 0 rfl (by omega) (by simp)
theorem implClose_j1 (l : List S30) (hl : l.length ≤ 12) (X Y : List Int) (hX : X.length = l.length) (hY : Y.length = l.length) :
    Ev (fun k => impl_TravelClose.j1 k l X Y false) (if travB (closed l X Y) = true then (closed l X Y, true) else ([], false)) := by
  refine Ev.step (f := ?f2) ?h2 ?k2
  case h2 => intro k; simp only [impl_TravelClose.j1]; exact rfl
  case k2 =>
    refine Ev_neg (by simp) (Ev_pos (by omega) (Ev_pos (by omega) ?_))
    have := implClose_l1 l hl X Y hX hY _ 0 rfl (by omega)
    simpa using this
theorem implClose_j1t (l : List S30) (X Y : List Int) : Ev (fun k => impl_TravelClose.j1 k l X Y true) ([], false) := Ev_end fun k => by simp only [impl_TravelClose.j1]; rfl
theorem share_len (l : List S30) (a : Int) : (shareOf (lensOf l) a).length = l.length := by rw [shareOf_length]; simp [lensOf]
theorem implClose_l0 (l : List S30) (hl : l.length ≤ 12) (hv : ∀ p ∈ l, stepOk p = true) (gx gy : Int) (d : Nat) : ∀ i : Nat, l.length - i = d → i ≤ l.length →
    Ev (fun k => impl_TravelClose.l0 k l ((lensOf l).take i) l l.length i gx gy) (if (shareB (lensOf l) (wrap64 (-gx)) && shareB (lensOf l) (wrap64 (-gy))) = true then
      if travB (closed l (shareOf (lensOf l) (wrap64 (-gx))) (shareOf (lensOf l) (wrap64 (-gy)))) = true then (closed l (shareOf (lensOf l) (wrap64 (-gx))) (shareOf (lensOf l) (wrap64 (-gy))), true) else ([], false) else ([], false)) := by
  have hll : (lensOf l).length = l.length := by simp [lensOf]
  induction d with
  | zero =>
    intro i hd hi
    rw [List.take_of_length_le (by omega)]
    refine Ev.step (f := ?f1) ?h1 ?k1
    case h1 => intro k; simp only [impl_TravelClose.l0]; exact rfl
    case k1 =>
      refine Ev_neg (by omega) ?_
      unfold impl_ShareOf.f
      refine Ev_bind_some (Ev_bind_some ?_)
      cases h1 : shareB (lensOf l) (wrap64 (-gx)) with
      | true =>
        rw [if_pos rfl]
        refine Ev_pos rfl ?_
        cases h2 : shareB (lensOf l) (wrap64 (-gy)) with
        | true =>
          rw [if_pos rfl]
          simp only [Bool.not_true, Bool.and_self, if_true]
          exact implClose_j1 l hl _ _ (share_len l _) (share_len l _)
        | false =>
          rw [if_neg (by simp)]
          simp only [Bool.not_false, Bool.and_false, Bool.false_eq_true, if_false]
          exact implClose_j1t _ _ _
      | false =>
        rw [if_neg (by simp)]
        refine Ev_neg (by simp) ?_
        simp only [Bool.false_and, Bool.false_eq_true, if_false]
        exact implClose_j1t _ _ _
  | succ d ih =>
    intro i hd hi
    have hlt : i < l.length := by omega
    refine Ev.step (f := ?f2) ?h2 ?k2
    case h2 => intro k; simp only [impl_TravelClose.l0]; exact rfl
    case k2 =>
      refine Ev_pos (by omega) (Ev_pos (by omega) (Ev_pos (by omega) ?_))
      rw [rd_T30_get hlt, stepLength_f _ (hv _ (List.getElem_mem hlt)), wrap_succ (by omega)]
      refine Ev_bind_some (Ev_pos (by simp; omega) ?_)
      have := ih (i + 1) (by omega) (by omega)
      rw [lensOf_take l i hlt] at this
      exact this
theorem implClose_ev (l : List S30) : Ev (fun k => impl_TravelClose.f k l) (closeOf l) := by
  unfold impl_TravelClose.f impl_TravelGap.f closeOf
  refine Ev_bind_some ?_
  cases hb : travB l with
  | true =>
    have hv := travB_iff.1 hb
    simp only [if_true]
    refine Ev_pos (by omega) (Ev_pos (by omega) ?_)
    have := implClose_l0 l hv.2.1 hv.2.2 (gapX l) (gapY l) _ 0 rfl (by omega)
    simpa using this
  | false =>
    simp only [Bool.false_eq_true, if_false]
    exact Ev_some _
theorem specGap_loop (l : List S30) (hl : l.length ≤ 1048576) (d : Nat) : ∀ i : Nat, l.length - i = d → i ≤ l.length → Ev (fun k => spec_l33Gap.l0 k l i (gapX (l.take i)) (gapY (l.take i))) (gapX l, gapY l) := by
  induction d with
  | zero =>
    intro i hd hi
    rw [List.take_of_length_le (by omega)]
    refine Ev_end fun k => ?_
    simp only [spec_l33Gap.l0]; rw [if_neg (by omega)]
  | succ d ih =>
    intro i hd hi
    have hlt : i < l.length := by omega
    refine Ev.step (f := ?f2) ?h2 ?k2
    case h2 => intro k; simp only [spec_l33Gap.l0]; exact rfl
    case k2 =>
      refine Ev_pos (by omega) (Ev_pos (by omega) ?_)
      rw [rd_T30_get hlt, wrap_succ (by omega), ← gapX_snoc, ← gapY_snoc, ← List.take_succ_eq_append_getElem hlt]
      exact ih (i + 1) (by omega) (by omega)
theorem specLens_loop (l : List S30) (hl : l.length ≤ 1048576) (hv : ∀ p ∈ l, stepOk p = true) (d : Nat) : ∀ i : Nat, l.length - i = d → i ≤ l.length → Ev (fun k => spec_l33Lengths.l0 k l ((lensOf l).take i) i) (lensOf l) := by
  have hll : (lensOf l).length = l.length := by simp [lensOf]
  induction d with
  | zero =>
    intro i hd hi
    rw [List.take_of_length_le (by omega)]
    refine Ev_end fun k => ?_
    simp only [spec_l33Lengths.l0]; rw [if_neg (by omega)]
  | succ d ih =>
    intro i hd hi
    have hlt : i < l.length := by omega
    have hs := stepOk_iff.1 (hv _ (List.getElem_mem hlt))
    have b0 := size_bound l[i].f0 20000 hs.1
    have b1 := size_bound l[i].f1 20000 hs.2
    refine Ev.step (f := ?f2) ?h2 ?k2
    case h2 => intro k; simp only [spec_l33Lengths.l0]; exact rfl
    case k2 =>
      refine Ev_pos (by omega) (Ev_pos (by omega) ?_)
      rw [rd_T30_get hlt, l1Size_size _ (by omega) (by omega), l1Size_size _ (by omega) (by omega), wrap_succ (by omega)]
      refine Ev_bind_some (Ev_bind_some (Ev_pos (by simp; omega) ?_))
      rw [wsml (by omega) (by omega)]
      have := ih (i + 1) (by omega) (by omega)
      rw [lensOf_take l i hlt] at this
      exact this
theorem specClose_l0 (l : List S30) (hl : l.length ≤ 12) (X Y : List Int) (hX : X.length = l.length) (hY : Y.length = l.length) (d : Nat) : ∀ i : Nat, l.length - i = d → i ≤ l.length →
    Ev (fun k => spec_TravelClose.l0 k l X Y ((closed l X Y).take i) i) (if travB (closed l X Y) = true then (closed l X Y, true) else ([], false)) := by
  have hcl := closed_length l X Y
  induction d with
  | zero =>
    intro i hd hi
    rw [List.take_of_length_le (by omega)]
    refine Ev.step (f := ?f1) ?h1 ?k1
    case h1 => intro k; simp only [spec_TravelClose.l0]; exact rfl
    case k1 =>
      refine Ev_neg (by omega) (Ev_bind (specTravel_ev _ (by omega)) ?_)
      cases travB (closed l X Y) with
      | true => exact Ev_pos rfl (Ev_some _)
      | false => exact Ev_neg (by simp) (Ev_some _)
  | succ d ih =>
    intro i hd hi
    have hlt : i < l.length := by omega
    refine Ev.step (f := ?f2) ?h2 ?k2
    case h2 => intro k; simp only [spec_TravelClose.l0]; exact rfl
    case k2 =>
      refine Ev_pos (by omega) (Ev_pos (by omega) (Ev_pos (by omega) (Ev_pos (by omega) (Ev_pos (by simp; omega) ?_))))
      rw [wrap_succ (by omega), rd_getD, rd_getD]
      have := ih (i + 1) (by omega) (by omega)
      rw [closed_take l X Y i hlt] at this
      exact this
theorem specClose_ev (l : List S30) (hl : l.length ≤ 1048576) : Ev (fun k => spec_TravelClose.f k l) (closeOf l) := by
  unfold spec_TravelClose.f closeOf
  refine Ev_bind (specTravel_ev l hl) ?_
  cases hb : travB l with
  | true =>
    have hv := travB_iff.1 hb
    have hll : (lensOf l).length = l.length := by simp [lensOf]
    have hg : Ev (fun k => spec_l33Gap.f k l) (gapX l, gapY l) := by unfold spec_l33Gap.f; exact specGap_loop l hl _ 0 rfl (by omega)
    have hL : Ev (fun k => spec_l33Lengths.f k l) (lensOf l) := by unfold spec_l33Lengths.f; simpa using specLens_loop l hl hv.2.2 _ 0 rfl (by omega)
    rw [if_pos rfl]
    refine Ev_pos rfl (Ev_bind hg (Ev_bind hL (Ev_bind (specShareOf_ev _ _ (by omega)) (Ev_bind hL (Ev_bind (specShareOf_ev _ _ (by omega)) ?_)))))
    have jt : ∀ X Y : List Int, Ev (fun k => spec_TravelClose.j0 k l X Y true) ([], false) := fun X Y => Ev_end fun k => by simp only [spec_TravelClose.j0]; rfl
    cases h1 : shareB (lensOf l) (wrap64 (-(gapX l))) with
    | true =>
      rw [if_pos rfl]
      refine Ev_pos rfl ?_
      cases h2 : shareB (lensOf l) (wrap64 (-(gapY l))) with
      | true =>
        rw [if_pos rfl]
        simp only [Bool.not_true, Bool.and_self, if_true]
        refine Ev.step (f := ?f2) ?h2 ?k2
        case h2 => intro k; simp only [spec_TravelClose.j0]; exact rfl
        case k2 =>
          refine Ev_neg (by simp) ?_
          simpa using specClose_l0 l hv.2.1 _ _ (share_len l _) (share_len l _) _ 0 rfl (by omega)
      | false =>
        rw [if_neg (by simp)]
        simp only [Bool.not_false, Bool.and_false, Bool.false_eq_true, if_false]
        exact jt _ _
    | false =>
      rw [if_neg (by simp)]
      refine Ev_neg (by simp) ?_
      simp only [Bool.false_and, Bool.false_eq_true, if_false]
      exact jt _ _
  | false =>
    rw [if_neg (by simp)]
    exact Ev_neg (by simp) (Ev_some _)
end Go.Proofs.Ytffkojdmidhchaa.P
end
section
/- The exact laws' own helpers over lists of points: copies, equality, marks. Condition: at most 1048576 points. -/
namespace Go.Proofs.Ytffkojdmidhchaa.P
open Go.RowKit Go.Proofs.YtffkojdmidhchaaW.PrintWords Go.Proofs.YtffkojdmidhchaaW.PrintLast Go.Proofs.YtffkojdmidhchaaW.PrintMore
set_option linter.unusedVariables false
set_option linter.unusedSimpArgs false

def conv (l : List S56) : List S30 := l.map fun p => ⟨p.f0, p.f1⟩
theorem conv_length (l : List S56) : (conv l).length = l.length := by simp [conv]
theorem rd_T56_get {xs : List S56} {i : Nat} (h : i < xs.length) : rd_T56 xs (i : Int) = xs[i] := by
  simp [rd_T56, List.getD_eq_getElem?_getD, List.getElem?_eq_getElem h]
theorem toPointS_loop (r : List S56) : ∀ (a : List S56) (z : List S30), a.length + r.length ≤ 1048576 → z.length = r.length →
    Ev (fun k => laws_toPointS.l0 k (a ++ r) (conv a ++ z) a.length) (conv (a ++ r)) := by
  induction r with
  | nil =>
    intro a z hl hz
    obtain rfl : z = [] := List.length_eq_zero_iff.1 (by simpa using hz)
    refine Ev_end fun k => ?_
    simp only [laws_toPointS.l0, List.append_nil]; rw [if_neg (by omega)]
  | cons x r ih =>
    intro a z hl hz
    simp only [List.length_cons] at hl
    cases z with
    | nil => simp at hz
    | cons y z =>
      have h := ih (a ++ [x]) z (by simp; omega) (by simpa using hz)
      have hx : rd_T56 (a ++ x :: r) (a.length : Int) = x := by rw [rd_T56_get (by simp)]; simp
      refine Ev.step (f := ?f2) ?h2 ?k2
      case h2 => intro k; simp only [laws_toPointS.l0]; exact rfl
      case k2 =>
        refine Ev_pos (by simp; omega) (Ev_pos (by omega) ?_)
        rw [hx, wrap_succ (by omega)]
        unfold laws_toPoint.f
        refine Ev_bind_some (Ev_pos (by simp [conv_length]; omega) ?_)
        rw [Int.toNat_natCast, show a.length = (conv a).length from (conv_length a).symm]
        have e : (conv a ++ y :: z).set (conv a).length (⟨x.f0, x.f1⟩ : S30) = conv (a ++ [x]) ++ z := by simp [conv]
        simp only [e]
        rw [conv_length]
        have e2 : a ++ x :: r = a ++ [x] ++ r := by simp
        rw [e2]
        have e3 : ((a.length + 1 : Nat) : Int) = ((a ++ [x]).length : Nat) := by simp
        rw [e3]
        exact h
theorem toPointS_ev (l : List S56) (hl : l.length ≤ 1048576) : Ev (fun k => laws_toPointS.f k l) (conv l) := by
  unfold laws_toPointS.f
  refine Ev_pos (by omega) (Ev_pos (by omega) ?_)
  have := toPointS_loop l [] (List.replicate l.length z30) (by simpa using hl) (by simp)
  simpa [conv] using this
theorem eqPointS_loop (l : List S30) (hl : l.length ≤ 1048576) (d : Nat) : ∀ (i : Nat), l.length - i = d → i ≤ l.length → Ev (fun k => laws_eqPointS.l0 k l l i) true := by
  induction d with
  | zero =>
    intro i hd hi
    exact Ev_end (fun k => by simp only [laws_eqPointS.l0]; rw [if_neg (by omega)])
  | succ d ih =>
    intro i hd hi
    refine Ev_step (ih (i + 1) (by omega) (by omega)) (fun k => ?_)
    simp only [laws_eqPointS.l0]
    rw [if_pos (by omega), if_pos (by omega), if_pos (by omega), wrap_succ (by omega)]
    simp [laws_eqPoint.f]
theorem eqPointS_ev (l : List S30) (hl : l.length ≤ 1048576) : Ev (fun k => laws_eqPointS.f k l l) true := by
  unfold laws_eqPointS.f
  exact Ev_pos rfl (eqPointS_loop l hl l.length 0 (by omega) (by omega))
/-- Points that bear the marks from m on. -/
def markT : Nat → Int → List S30
  | 0, _ => []
  | n + 1, m => ⟨m, m + 1⟩ :: markT n (m + 2)
theorem markT_length (n : Nat) (m : Int) : (markT n m).length = n := by
  induction n generalizing m with
  | zero => rfl
  | succ n ih => simp [markT, ih]
theorem set_at30 (pre : List S30) (x y : S30) (r : List S30) : (pre ++ x :: r).set pre.length y = pre ++ y :: r := by simp
theorem rd30_at (pre : List S30) (x : S30) (r : List S30) : rd_T30 (pre ++ x :: r) (pre.length : Int) = x := by
  rw [rd_T30_get (by simp)]; simp
theorem markPointS_loop (r : List S30) : ∀ (pre : List S30) (m : Int), pre.length + r.length ≤ 1048576 → 0 ≤ m → m ≤ 4611686018427387904 + 2 * pre.length → Ev (fun k => laws_markPointS.l0 k (pre ++ r) m pre.length) (m + 2 * r.length, pre ++ markT r.length m) := by
  induction r with
  | nil =>
    intro pre m hl h0 h1
    refine Ev_end (fun k => ?_)
    simp only [laws_markPointS.l0, List.append_nil]
    rw [if_neg (by omega)]
    simp [markT]
  | cons x r ih =>
    intro pre m hl h0 h1
    simp only [List.length_cons] at hl
    have h := ih (pre ++ [⟨m, m + 1⟩]) (m + 2) (by simp; omega) (by omega) (by simp; omega)
    rw [List.append_assoc, List.singleton_append, List.append_assoc, List.singleton_append] at h
    have e : m + 2 + 2 * (r.length : Int) = m + 2 * ((x :: r).length : Int) := by simp; omega
    rw [e, show (⟨m, m + 1⟩ :: markT r.length (m + 2)) = markT (x :: r).length m from rfl] at h
    refine Ev_step h (fun k => ?_)
    simp only [laws_markPointS.l0, Option.bind_some]
    rw [if_pos (by simp; omega), if_pos (by omega), wrap_succ (by omega), wrap_small (a := m + 1) (by omega) (by omega), wrap_small (a := m + 1 + 1) (by omega) (by omega), Int.toNat_natCast]
    simp only [set_at30, rd30_at]
    rw [show m + 1 + 1 = m + 2 by omega]
    simp
theorem markPointS_ev (l : List S30) (hl : l.length ≤ 1048576) : Ev (fun k => laws_markPointS.f k l 1) (1 + 2 * (l.length : Int), markT l.length 1) := by
  unfold laws_markPointS.f
  have h := markPointS_loop l [] 1 (by simpa using hl) (by omega) (by omega)
  simpa using h
theorem heldPointS_loop (n : Nat) : ∀ (pre : List S30) (m : Int), pre.length + n ≤ 1048576 → 0 ≤ m → m ≤ 4611686018427387904 + 2 * pre.length → Ev (fun k => laws_heldPointS.l0 k (pre ++ markT n m) m pre.length) (m + 2 * n) := by
  induction n with
  | zero =>
    intro pre m hl h0 h1
    refine Ev_end (fun k => ?_)
    simp only [laws_heldPointS.l0, markT, List.append_nil]
    rw [if_neg (by omega)]
    simp
  | succ n ih =>
    intro pre m hl h0 h1
    have h := ih (pre ++ [⟨m, m + 1⟩]) (m + 2) (by simp; omega) (by omega) (by simp; omega)
    rw [List.append_assoc, List.singleton_append, show m + 2 + 2 * (n : Int) = m + 2 * ((n + 1 : Nat) : Int) by omega] at h
    refine Ev_step h (fun k => ?_)
    simp only [laws_heldPointS.l0, markT]
    rw [if_pos (by simp)]
    (try rw [if_pos (by omega : (0 : Int) ≤ (pre.length : Int))])
    rw [wrap_succ (by omega), wrap_small (a := m + 1) (by omega) (by omega), wrap_small (a := m + 1 + 1) (by omega) (by omega)]
    simp only [rd30_at]
    rw [show m + 1 + 1 = m + 2 by omega]
    simp
    (try (intro hh; omega))
theorem heldPointS_ev (n : Nat) (hl : n ≤ 1048576) : Ev (fun k => laws_heldPointS.f k (markT n 1) 1) (1 + 2 * (n : Int)) := by
  unfold laws_heldPointS.f
  have h := heldPointS_loop n [] 1 (by simpa using hl) (by omega) (by omega)
  simpa using h
end Go.Proofs.Ytffkojdmidhchaa.P
end
section
/- The law FnExactTravelClose, over plain functions: whatever the steps, TravelClose closes as the reference does, and marks are kept apart. No condition. -/
namespace Go.Proofs.Ytffkojdmidhchaa.Pure
open Go.RowKit Go.Proofs.Ytffkojdmidhchaa.P Go.Proofs.YtffkojdmidhchaaW.PrintWords Go.Proofs.YtffkojdmidhchaaW.PrintLast

theorem closeOf_len (l : List S30) : (closeOf l).1.length ≤ 1048576 := by
  unfold closeOf
  split
  · rename_i h
    have := (travB_iff.1 h).2.1
    split
    · split
      · simp only [closed_length]; omega
      · simp
    · simp
  · simp
theorem exactClose (l : List S56) (h1 : l.length ≤ 9223372036854775807) : ∃ k, laws_FnExactTravelClose.f k l = some true := by
  refine Ev.rounds ?_
  unfold laws_FnExactTravelClose.f
  have e : wrap64 (1048576 - (l.length : Int)) = 1048576 - l.length := P.wrap_small (by omega) (by omega)
  by_cases hl : (l.length : Int) > 1048576
  · have e2 : laws_szPointS.f l 1048576 = some (-1) := by unfold laws_szPointS.f; rw [e, if_pos (by omega)]
    rw [e2]
    exact Ev.bind (Ev.now _) (Ev_pos (by omega) (Ev.now _))
  · have e2 : laws_szPointS.f l 1048576 = some (1048576 - (l.length : Int)) := by unfold laws_szPointS.f; rw [e, if_neg (by omega)]
    rw [e2]
    refine Ev_bind_some (Ev_neg (by omega) ?_)
    have hl' : l.length ≤ 1048576 := by omega
    have hc := toPointS_ev l hl'
    have hcl : (conv l).length ≤ 1048576 := by rw [conv_length]; exact hl'
    have hi := implClose_ev (conv l)
    have hR := closeOf_len (conv l)
    refine Ev_bind hc (Ev_bind (specClose_ev _ hcl) (Ev_bind hc (Ev_bind hi ?_)))
    generalize closeOf (conv l) = R at hi hR
    refine Ev_bind (eqPointS_ev R.1 hR) (Ev_pos rfl ?_)
    refine Ev.step (f := ?f) ?h ?k
    case h => intro k; simp only [laws_FnExactTravelClose.j0]; exact rfl
    case k =>
      refine Ev_neg (by simp) (Ev_bind hc (Ev_bind (eqPointS_ev _ hcl) (Ev_pos rfl ?_)))
      refine Ev_bind (markPointS_ev _ hcl) (Ev_neg (by omega) (Ev_bind (eqPointS_ev R.1 hR) (Ev_pos rfl ?_)))
      refine Ev.step (f := ?f2) ?h2 ?k2
      case h2 => intro k; simp only [laws_FnExactTravelClose.j1]; exact rfl
      case k2 =>
        refine Ev_neg (by simp) (Ev_bind (markPointS_ev R.1 hR) ?_)
        refine Ev_bind (heldPointS_ev R.1.length hR) (Ev_neg (by omega) (Ev_pos rfl ?_))
        refine Ev_bind hc (Ev_bind hi (Ev_bind (eqPointS_ev R.1 hR) (Ev_pos rfl ?_)))
        refine Ev.step (f := ?f3) ?h3 ?k3
        case h3 => intro k; simp only [laws_FnExactTravelClose.j2]; exact rfl
        case k3 =>
          refine Ev_neg (by simp) ?_
          exact Ev_bind (heldPointS_ev R.1.length hR) (Ev_neg (by omega) (Ev_pos rfl (Ev.now _)))
end Go.Proofs.Ytffkojdmidhchaa.Pure
end
