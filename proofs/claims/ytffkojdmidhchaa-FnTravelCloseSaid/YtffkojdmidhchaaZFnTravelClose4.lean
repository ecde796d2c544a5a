/- Parts of the proof of the law FnTravelClose: the plain functions, their contracts and the plain law (merged texts of this session, part 4 of 4). -/
import Derived.Test.YtffkojdmidhchaaZFnTravelClose2
import Derived.Test.YtffkojdmidhchaaZFnTravelClose1
import Derived.Test.YtffkojdmidhchaaZFnTravelClose3
section
/- spec's range test and sum, as plain functions. Condition: small numbers. -/
namespace Go.Proofs.Ytffkojdmidhchaa.P
open Go.RowKit Go.Proofs.YtffkojdmidhchaaW.PrintWords Go.Proofs.YtffkojdmidhchaaW.PrintLast Go.Proofs.YtffkojdmidhchaaW.PrintMore
set_option linter.unusedVariables false
set_option linter.unusedSimpArgs false

theorem l6In_f (n low high : Int) (r : Bool) (h : r = decide (low ≤ n ∧ n ≤ high)) : spec_l6In.f n low high = some r := by
  unfold spec_l6In.f
  subst h
  by_cases c : low ≤ n
  · rw [if_pos (show n ≥ low from c)]; simp [c]
  · rw [if_neg (show ¬ n ≥ low from c)]; simp [c]
theorem sum_loop (l : List Int) (hl : l.length ≤ 1048576) (hb : ∀ x ∈ l, -1000000000 ≤ x ∧ x ≤ 1000000000) (d : Nat) : ∀ (i : Nat) (s : Int), l.length - i = d → i ≤ l.length → -1000000000 * (i : Int) ≤ s → s ≤ 1000000000 * (i : Int) → Ev (fun k => spec_l14Sum.l0 k l s i) (s + (l.drop i).sum) := by
  induction d with
  | zero =>
    intro i s hd hi h1 h2
    rw [drop_end (by omega)]
    refine Ev_end (fun k => ?_)
    simp only [spec_l14Sum.l0]
    rw [if_neg (by omega)]
    simp
  | succ d ih =>
    intro i s hd hi h1 h2
    have hlt : i < l.length := by omega
    rw [drop_cons hlt]
    have hx := hb l[i] (List.getElem_mem hlt)
    have h := ih (i + 1) (s + l[i]) (by omega) (by omega) (by omega) (by omega)
    rw [List.sum_cons, ← Int.add_assoc]
    refine Ev_step h (fun k => ?_)
    simp only [spec_l14Sum.l0]
    rw [if_pos (by omega), if_pos (by omega), rd_get hlt, wrap_succ (by omega), wrap_small (a := s + l[i]) (by omega) (by omega)]
theorem l14Sum_ev (l : List Int) (hl : l.length ≤ 1048576) (hb : ∀ x ∈ l, -1000000000 ≤ x ∧ x ≤ 1000000000) : Ev (fun k => spec_l14Sum.f k l) l.sum := by
  unfold spec_l14Sum.f
  have h := sum_loop l hl hb l.length 0 0 (by omega) (by omega) (by omega) (by omega)
  simpa using h
end Go.Proofs.Ytffkojdmidhchaa.P
end
section
/- spec.ShareOf is the same shares. Condition: small numbers. -/
namespace Go.Proofs.Ytffkojdmidhchaa.P
open Go.RowKit Go.Proofs.YtffkojdmidhchaaW.PrintWords Go.Proofs.YtffkojdmidhchaaW.PrintLast Go.Proofs.YtffkojdmidhchaaW.PrintMore
set_option linter.unusedVariables false
set_option linter.unusedSimpArgs false

theorem wsml {a : Int} (h0 : -9223372036854775808 ≤ a) (h1 : a ≤ 9223372036854775807) : wrap64 a = a := Go.Proofs.Ytffkojdmidhchaa.P.wrap_small h0 h1
theorem l14Lens_loop (l : List Int) (hl : l.length ≤ 1048576) (hs : (∀ x ∈ l, 0 ≤ x ∧ x ≤ 10000) → True) (d : Nat) : ∀ i : Nat, l.length - i = d → i ≤ l.length → (∀ x ∈ l.take i, lenOk x = true) →
    Ev (fun k => spec_l14Lengths.l0 k l i) (lenB l && decide (0 < l.sum)) := by
  induction d with
  | zero =>
    intro i hd hi hp
    rw [List.take_of_length_le (by omega)] at hp
    refine Ev.step (f := ?f1) ?h1 ?k1
    case h1 => intro k; simp only [spec_l14Lengths.l0]; exact rfl
    case k1 =>
      refine Ev_neg (by omega) ?_
      rw [l6In_f _ 1 20 _ rfl]
      refine Ev_bind_some ?_
      have ha : l.all lenOk = true := List.all_eq_true.2 hp
      by_cases c : (1 : Int) ≤ (l.length : Int) ∧ (l.length : Int) ≤ 20
      · rw [decide_eq_true c]
        have e : lenB l = true := by unfold lenB; rw [ha, decide_eq_true (p := 1 ≤ l.length ∧ l.length ≤ 20) (by omega)]; rfl
        have hv := lenB_iff.1 e
        rw [e, Bool.true_and]
        exact Ev_pos rfl (Ev_bind (l14Sum_ev l hl (fun x hx => by have := hv.2.2 x hx; omega)) (Ev_some _))
      · rw [decide_eq_false c]
        have e : lenB l = false := by unfold lenB; rw [decide_eq_false (p := 1 ≤ l.length ∧ l.length ≤ 20) (by omega)]; rfl
        rw [e, Bool.false_and]
        exact Ev_neg (by simp) (Ev_some _)
  | succ d ih =>
    intro i hd hi hp
    have hlt : i < l.length := by omega
    refine Ev.step (f := ?f2) ?h2 ?k2
    case h2 => intro k; simp only [spec_l14Lengths.l0]; exact rfl
    case k2 =>
      refine Ev_pos (by omega) (Ev_pos (by omega) ?_)
      rw [rd_get hlt, l6In_f _ 0 10000 _ rfl, wrap_succ (by omega)]
      refine Ev_bind_some ?_
      cases h : decide (0 ≤ l[i] ∧ l[i] ≤ 10000) with
      | true =>
        refine Ev_pos rfl (ih (i + 1) (by omega) (by omega) (fun x hx => ?_))
        rw [List.take_succ_eq_append_getElem hlt] at hx
        rcases List.mem_append.1 hx with hx | hx
        · exact hp x hx
        · rw [List.mem_singleton] at hx; subst hx; exact h
      | false =>
        have e : lenB l = false := by
          unfold lenB
          have : l.all lenOk = false := List.all_eq_false.2 ⟨l[i], List.getElem_mem hlt, by unfold lenOk; rw [h]; simp⟩
          rw [this, Bool.and_false]
        rw [e, Bool.false_and]
        exact Ev_neg (by simp) (Ev_some _)
theorem l14Ok_ev (l : List Int) (a : Int) (hl : l.length ≤ 1048576) : Ev (fun k => spec_l14Ok.f k l a) (shareB l a) := by
  unfold spec_l14Ok.f shareB
  have h := l14Lens_loop l hl (fun _ => trivial) l.length 0 (by omega) (by omega) (by simp)
  refine Ev_bind h ?_
  rw [← Bool.and_assoc]
  cases hb : (lenB l && decide (0 < l.sum)) with
  | true =>
    rw [l6In_f _ (-10000000) 10000000 _ rfl, Bool.true_and]
    exact Ev_pos rfl (Ev_bind_some (Ev_some _))
  | false => exact Ev_neg (by simp) (Ev_some _)
theorem tdiv_floor (a b : Int) (hb : 0 < b) : (if Int.tmod a b < 0 then Int.tdiv a b - 1 else Int.tdiv a b) = a / b := by
  have hm := Int.tmod_add_mul_tdiv a b
  have hr := Int.emod_add_mul_ediv a b
  have r0 := Int.emod_nonneg a (show b ≠ 0 by omega)
  have r1 := Int.emod_lt_of_pos a hb
  have hm1 : -b < Int.tmod a b ∧ Int.tmod a b < b := by
    have := Int.natAbs_tmod a b
    have h2 : a.natAbs % b.natAbs < b.natAbs := Nat.mod_lt _ (by omega)
    omega
  by_cases c : Int.tmod a b < 0
  · rw [if_pos c]
    have h1 : b * (a / b - (Int.tdiv a b - 1)) = Int.tmod a b + b - a % b := by rw [Int.mul_sub, Int.mul_sub]; omega
    have h2 : a / b - (Int.tdiv a b - 1) = 0 := by
      generalize a / b - (Int.tdiv a b - 1) = z at *
      rcases Int.lt_trichotomy z 0 with h | h | h
      · have := Int.mul_le_mul_of_nonneg_left (show z ≤ -1 by omega) (Int.le_of_lt hb); omega
      · exact h
      · have := Int.mul_le_mul_of_nonneg_left (show 1 ≤ z by omega) (Int.le_of_lt hb); omega
    omega
  · rw [if_neg c]
    have h1 : b * (a / b - Int.tdiv a b) = Int.tmod a b - a % b := by rw [Int.mul_sub]; omega
    have h2 : a / b - Int.tdiv a b = 0 := by
      generalize a / b - Int.tdiv a b = z at *
      rcases Int.lt_trichotomy z 0 with h | h | h
      · have := Int.mul_le_mul_of_nonneg_left (show z ≤ -1 by omega) (Int.le_of_lt hb); omega
      · exact h
      · have := Int.mul_le_mul_of_nonneg_left (show 1 ≤ z by omega) (Int.le_of_lt hb); omega
    omega
theorem l14Floor_f (a b : Int) (hb : 0 < b) (h0 : -1000000000000 ≤ a) (h1 : a ≤ 1000000000000) : spec_l14Floor.f a b = some (a / b) := by
  have hq1 : -1000000000000 ≤ Int.tdiv a b ∧ Int.tdiv a b ≤ 1000000000000 := by
    have := Int.natAbs_tdiv_le_natAbs a b
    omega
  unfold spec_l14Floor.f
  rw [if_neg (by omega), ← tdiv_floor a b hb, wsml (a := Int.tdiv a b) (by omega) (by omega)]
  by_cases c : Int.tmod a b < 0
  · rw [if_pos c, if_pos c, wsml (by omega) (by omega)]
  · rw [if_neg c, if_neg c]
theorem next_loop (R : List Int) (hl : R.length ≤ 1048576) (d : Nat) : ∀ (i b : Nat), R.length - i = d → i ≤ R.length → b < R.length → (b ≤ i) → (∀ j, j < i → R.getD j 0 < R.getD b 0 ∨ (R.getD j 0 = R.getD b 0 ∧ b ≤ j)) →
    ∃ k, Best R k ∧ Ev (fun n => spec_l14Next.l0 n R b i) (k : Int) := by
  have rdg : ∀ j : Nat, rd R (j : Int) = R.getD j 0 := fun j => by simp [rd]
  induction d with
  | zero =>
    intro i b hd hi hb hbi h
    refine ⟨b, ⟨hb, fun j hj => h j (by omega)⟩, Ev_end fun k => ?_⟩
    simp only [spec_l14Next.l0]; rw [if_neg (by omega)]
  | succ d ih =>
    intro i b hd hi hb hbi h
    have go : ∀ k : Nat, Ev (fun n => if R.getD i 0 > R.getD b 0 then spec_l14Next.l0 n R i ((i + 1 : Nat) : Int) else spec_l14Next.l0 n R b ((i + 1 : Nat) : Int)) (k : Int) → Ev (fun n => spec_l14Next.l0 n R b i) (k : Int) := by
      intro k hk
      refine Ev.step (f := ?f2) ?h2 ?k2
      case h2 => intro k; simp only [spec_l14Next.l0]; exact rfl
      case k2 =>
        refine Ev_pos (by omega) (Ev_pos (by omega) (Ev_pos (by omega) (Ev_pos (by omega) ?_)))
        rw [rdg, rdg, wrap_succ (by omega)]
        exact hk
    by_cases c : R.getD i 0 > R.getD b 0
    · obtain ⟨k, hk, he⟩ := ih (i + 1) i (by omega) (by omega) (by omega) (by omega) (fun j hj => by
        rcases Nat.lt_or_ge j i with q | q
        · have := h j q; omega
        · have : j = i := by omega
          subst this; right; exact ⟨rfl, Nat.le_refl _⟩)
      exact ⟨k, hk, go k (Ev_pos c he)⟩
    · obtain ⟨k, hk, he⟩ := ih (i + 1) b (by omega) (by omega) hb (by omega) (fun j hj => by
        rcases Nat.lt_or_ge j i with q | q
        · exact h j q
        · have : j = i := by omega
          subst this; omega)
      exact ⟨k, hk, go k (Ev_neg c he)⟩
theorem l14Next_ev (R : List Int) (hl : R.length ≤ 1048576) (h : R ≠ []) : Ev (fun n => spec_l14Next.f n R) (bestOf R : Int) := by
  have hp := List.length_pos_iff.2 h
  obtain ⟨k, hk, he⟩ := next_loop R hl R.length 0 0 (by omega) (by omega) hp (by omega) (fun j hj => by omega)
  rw [← hk.uniq (bestOf_best R h)]
  exact he
theorem rd_getD (R : List Int) (j : Nat) : rd R (j : Int) = R.getD j 0 := by simp [rd]
theorem mem_getD {S : List Int} {b : Nat} (h : b < S.length) : S.getD b 0 ∈ S := by
  rw [List.getD_eq_getElem?_getD, List.getElem?_eq_getElem h]; exact List.getElem_mem h
theorem give_loop (n : Nat) (hn : 0 < n) (hn2 : n ≤ 20) (m : Nat) : ∀ (S R : List Int) (u : Int), m ≤ n → S.length = n → R.length = n → (∀ x ∈ S, -20000000 ≤ x ∧ x ≤ u) → u ≤ 30000000 - m →
    Ev (fun k => spec_ShareOf.l1 k S R (m : Int)) (shareGo m S R, true) := by
  induction m with
  | zero =>
    intro S R u hm hS hR hb hu
    refine Ev_end fun k => ?_
    simp only [spec_ShareOf.l1]; rw [if_neg (by omega)]; rfl
  | succ m ih =>
    intro S R u hm hS hR hb hu
    have hne : R ≠ [] := fun e => by subst e; simp at hR; omega
    have hbest := bestOf_best R hne
    have hbS : bestOf R < S.length := by have := hbest.1; omega
    have hv := hb _ (mem_getD hbS)
    refine Ev.step (f := ?f2) ?h2 ?k2
    case h2 => intro k; simp only [spec_ShareOf.l1]; exact rfl
    case k2 =>
      refine Ev_pos (by omega) (Ev_bind (l14Next_ev R (by omega) hne) (Ev_pos (by omega) (Ev_pos (by omega) (Ev_pos (by have := hbest.1; omega) ?_))))
      rw [Int.toNat_natCast, rd_getD, wsml (a := S.getD (bestOf R) 0 + 1) (by omega) (by omega), wsml (a := ((m + 1 : Nat) : Int) - 1) (by omega) (by omega), show ((m + 1 : Nat) : Int) - 1 = m by omega]
      simp only [shareGo]
      refine ih _ _ (u + 1) (by omega) (by simpa using hS) (by simpa using hR) (fun x hx => ?_) (by omega)
      rcases List.mem_or_eq_of_mem_set hx with hx | rfl
      · have := hb x hx; omega
      · omega
theorem lefts_one (l : List Int) (a s : Int) (i : Nat) (h : i < l.length) : (lefts l a s).take (i + 1) = (lefts l a s).take i ++ [a * l[i] % s] := by
  rw [List.take_succ_eq_append_getElem (by simpa [lefts] using h)]; simp [lefts]
theorem part_loop (l : List Int) (a : Int) (hv : lenB l = true) (hs : 0 < l.sum) (ha : -10000000 ≤ a ∧ a ≤ 10000000) (d : Nat) : ∀ i : Nat, l.length - i = d → i ≤ l.length →
    Ev (fun k => spec_ShareOf.l0 k l a ((floors l a l.sum).take i) l.sum ((lefts l a l.sum).take i) i) (shareOf l a, true) := by
  have hlen := lenB_iff.1 hv
  have hss := le_sum l (fun x hx => (hlen.2.2 x hx).1)
  have hsl := sum_le l (fun x hx => (hlen.2.2 x hx).2)
  have hfo := floors_one l a l.sum hs ha (fun x hx => ⟨(hlen.2.2 x hx).1, hss.2 x hx⟩)
  have hfl : (floors l a l.sum).length = l.length := by simp [floors]
  have hll : (lefts l a l.sum).length = l.length := by simp [lefts]
  induction d with
  | zero =>
    intro i hd hi
    rw [List.take_of_length_le (by omega), List.take_of_length_le (by omega)]
    have hm := missing_lt l a hs hlen.1
    have hfb := floors_bound l a l.sum hs ha (fun x hx => ⟨(hlen.2.2 x hx).1, hss.2 x hx⟩) l.length
    rw [List.take_of_length_le (by omega)] at hfb
    refine Ev.step (f := ?f1) ?h1 ?k1
    case h1 => intro k; simp only [spec_ShareOf.l0]; exact rfl
    case k1 =>
      refine Ev_neg (by omega) (Ev_bind (l14Sum_ev _ (by omega) (fun x hx => by have := hfo x hx; omega)) ?_)
      rw [wsml (a := a - (floors l a l.sum).sum) (by omega) (by omega)]
      have e : a - (floors l a l.sum).sum = ((a - (floors l a l.sum).sum).toNat : Int) := by omega
      rw [e]
      exact give_loop l.length (by omega) hlen.2.1 _ _ _ 10000000 (by omega) hfl hll (fun x hx => by have := hfo x hx; omega) (by omega)
  | succ d ih =>
    intro i hd hi
    have hlt : i < l.length := by omega
    have hx := hlen.2.2 l[i] (List.getElem_mem hlt)
    have hpb : -100000000000 ≤ a * l[i] ∧ a * l[i] ≤ 100000000000 := by
      have q1 := Int.mul_le_mul_of_nonneg_right ha.1 hx.1
      have q2 := Int.mul_le_mul_of_nonneg_right ha.2 hx.1
      omega
    have e1 := Int.mul_ediv_add_emod (a * l[i]) l.sum
    have e2 := Int.emod_nonneg (a * l[i]) (show l.sum ≠ 0 by omega)
    have e3 := Int.emod_lt_of_pos (a * l[i]) hs
    have f1 := floors_take l a l.sum i hlt
    have f2 := lefts_one l a l.sum i hlt
    refine Ev.step (f := ?f2) ?h2 ?k2
    case h2 => intro k; simp only [spec_ShareOf.l0]; exact rfl
    case k2 =>
      refine Ev_pos (by omega) (Ev_pos (by omega) ?_)
      rw [rd_get hlt, wsml (a := a * l[i]) (by omega) (by omega), l14Floor_f _ _ hs (by omega) (by omega), wrap_succ (by omega)]
      refine Ev_bind_some (Ev_pos (by simp; omega) (Ev_pos (by simp; omega) ?_))
      rw [Int.mul_comm (a * l[i] / l.sum) l.sum]
      rw [wsml (a := l.sum * (a * l[i] / l.sum)) (by omega) (by omega), wsml (a := a * l[i] - l.sum * (a * l[i] / l.sum)) (by omega) (by omega)]
      rw [show a * l[i] - l.sum * (a * l[i] / l.sum) = a * l[i] % l.sum by omega, ← f1, ← f2]
      exact ih (i + 1) (by omega) (by omega)
theorem specShareOf_ev (l : List Int) (a : Int) (hl : l.length ≤ 1048576) : Ev (fun k => spec_ShareOf.f k l a) (if shareB l a = true then (shareOf l a, true) else ([], false)) := by
  unfold spec_ShareOf.f
  refine Ev_bind_some (Ev_bind (l14Ok_ev l a hl) ?_)
  cases hb : shareB l a with
  | true =>
    have hb' := hb
    unfold shareB at hb'
    simp only [Bool.and_eq_true, decide_eq_true_iff] at hb'
    obtain ⟨h1, h2, h3⟩ := hb'
    have hlen := lenB_iff.1 h1
    rw [if_pos rfl]
    refine Ev_pos rfl (Ev_bind (l14Sum_ev l hl (fun x hx => by have := hlen.2.2 x hx; omega)) ?_)
    exact part_loop l a h1 h2 h3 _ 0 rfl (by omega)
  | false => exact Ev_neg (by simp) (Ev_some _)
end Go.Proofs.Ytffkojdmidhchaa.P
end
section
/- impl.TravelClose and spec.TravelClose close alike. No condition but the length of the list. -/
namespace Go.Proofs.Ytffkojdmidhchaa.P
open Go.RowKit Go.Proofs.YtffkojdmidhchaaW.PrintWords Go.Proofs.YtffkojdmidhchaaW.PrintLast Go.Proofs.YtffkojdmidhchaaW.PrintMore
set_option linter.unusedVariables false
set_option linter.unusedSimpArgs false

def size (x : Int) : Int := if x < 0 then -x else x
def stepLen (p : S30) : Int := size p.f0 + size p.f1
theorem absInt_size (x : Int) (h1 : -9223372036854775807 ≤ x) (h2 : x ≤ 9223372036854775807) : impl_absInt.f x = some (size x) := by
  unfold impl_absInt.f size
  by_cases c : x < 0
  · rw [if_pos c, if_pos c, wsml (by omega) (by omega)]
  · rw [if_neg c, if_neg c]
theorem l1Size_size (x : Int) (h1 : -9223372036854775807 ≤ x) (h2 : x ≤ 9223372036854775807) : spec_l1Size.f x = some (size x) := by
  unfold spec_l1Size.f size mx
  rw [wsml (a := -x) (by omega) (by omega)]
  congr 1
  split <;> split <;> omega
theorem size_bound (x b : Int) (h : -b ≤ x ∧ x ≤ b) : 0 ≤ size x ∧ size x ≤ b := by unfold size; split <;> omega
theorem stepLength_f (p : S30) (h : stepOk p = true) : impl_stepLength.f p.f0 p.f1 = some (stepLen p) := by
  have hs := stepOk_iff.1 h
  have b0 := size_bound p.f0 20000 hs.1
  have b1 := size_bound p.f1 20000 hs.2
  unfold impl_stepLength.f
  rw [absInt_size p.f0 (by omega) (by omega), absInt_size p.f1 (by omega) (by omega)]
  simp only [Option.bind_some]
  rw [wsml (by omega) (by omega)]; rfl
def lensOf (l : List S30) : List Int := l.map stepLen
theorem lensOf_take (l : List S30) (i : Nat) (h : i < l.length) : (lensOf l).take (i + 1) = (lensOf l).take i ++ [stepLen l[i]] := by
  rw [List.take_succ_eq_append_getElem (by simpa [lensOf] using h)]; simp [lensOf]
theorem shareGo_length (m : Nat) : ∀ S R : List Int, (shareGo m S R).length = S.length := by
  induction m with
  | zero => intro S R; rfl
  | succ m ih => intro S R; simp only [shareGo]; rw [ih]; simp
theorem shareOf_length (l : List Int) (a : Int) : (shareOf l a).length = l.length := by unfold shareOf; rw [shareGo_length]; simp [floors]
def addAt (l : List S30) (X Y : List Int) (i : Nat) : S30 := ⟨wrap64 ((rd_T30 l (i : Int)).f0 + X.getD i 0), wrap64 ((rd_T30 l (i : Int)).f1 + Y.getD i 0)⟩
def closed (l : List S30) (X Y : List Int) : List S30 := (List.range l.length).map (addAt l X Y)
theorem closed_take (l : List S30) (X Y : List Int) (i : Nat) (h : i < l.length) : (closed l X Y).take (i + 1) = (closed l X Y).take i ++ [addAt l X Y i] := by
  rw [List.take_succ_eq_append_getElem (by simpa [closed] using h)]; simp [closed]
theorem closed_length (l : List S30) (X Y : List Int) : (closed l X Y).length = l.length := by simp [closed]
def closeOf (l : List S30) : List S30 × Bool :=
  if travB l = true then
    if (shareB (lensOf l) (wrap64 (-(gapX l))) && shareB (lensOf l) (wrap64 (-(gapY l)))) = true then
      if travB (closed l (shareOf (lensOf l) (wrap64 (-(gapX l)))) (shareOf (lensOf l) (wrap64 (-(gapY l))))) = true then (closed l (shareOf (lensOf l) (wrap64 (-(gapX l)))) (shareOf (lensOf l) (wrap64 (-(gapY l)))), true)
      else ([], false)
    else ([], false)
  else ([], false)
theorem implClose_l1 (l : List S30) (hl : l.length ≤ 12) (X Y : List Int) (hX : X.length = l.length) (hY : Y.length = l.length) (d : Nat) : ∀ i : Nat, l.length - i = d → i ≤ l.length →
    Ev (fun k => impl_TravelClose.l1 k X Y ((closed l X Y).take i) l l.length i) (if travB (closed l X Y) = true then (closed l X Y, true) else ([], false)) := by
  have hcl := closed_length l X Y
  induction d with
  | zero =>
    intro i hd hi
    rw [List.take_of_length_le (by omega)]
    refine Ev.step (f := ?f1) ?h1 ?k1
    case h1 => intro k; simp only [impl_TravelClose.l1]; exact rfl
    case k1 =>
      refine Ev_neg (by omega) (Ev_bind (TravelValid_ev _) ?_)
      cases travB (closed l X Y) with
      | true => exact Ev_pos rfl (Ev_some _)
      | false => exact Ev_neg (by simp) (Ev_some _)
  | succ d ih =>
    intro i hd hi
    have hlt : i < l.length := by omega
    refine Ev.step (f := ?f2) ?h2 ?k2
    case h2 => intro k; simp only [impl_TravelClose.l1]; exact rfl
    case k2 =>
      refine Ev_pos (by omega) (Ev_pos (by omega) (Ev_pos (by omega) (Ev_pos (by omega) (Ev_pos (by omega) (Ev_pos (by simp; omega) ?_)))))
      rw [wrap_succ (by omega), rd_getD, rd_getD]
      have := ih (i + 1) (by omega) (by omega)
      rw [closed_take l X Y i hlt] at this
      exact this
theorem specTravel_loop (l : List S30) (hl : l.length ≤ 1048576) (d : Nat) : ∀ i : Nat, l.length - i = d → i ≤ l.length → (∀ p ∈ l.take i, stepOk p = true) → Ev (fun k => spec_TravelValid.l0 k l i) (travB l) := by
  induction d with
  | zero =>
    intro i hd hi hp
    rw [List.take_of_length_le (by omega)] at hp
    refine Ev.step (f := ?f1) ?h1 ?k1
    case h1 => intro k; simp only [spec_TravelValid.l0]; exact rfl
    case k1 =>
      refine Ev_neg (by omega) ?_
      rw [l6In_f _ 1 12 _ rfl]
      have e : travB l = decide ((1 : Int) ≤ (l.length : Int) ∧ (l.length : Int) ≤ 12) := by
        unfold travB
        rw [List.all_eq_true.2 hp, Bool.and_true]
        exact decide_eq_decide.2 (by omega)
      rw [e]
      exact Ev_bind_some (Ev_some _)
  | succ d ih =>
    intro i hd hi hp
    have hlt : i < l.length := by omega
    have hok : spec_l2StepOk.f l[i].f0 l[i].f1 = some (stepOk l[i]) := by
      unfold spec_l2StepOk.f stepOk
      rw [l6In_f _ (-20000) 20000 _ rfl, l6In_f _ (-20000) 20000 _ rfl]
      simp only [Option.bind_some]
      cases decide (-20000 ≤ l[i].f0 ∧ l[i].f0 ≤ 20000) <;> simp
    refine Ev.step (f := ?f2) ?h2 ?k2
    case h2 => intro k; simp only [spec_TravelValid.l0]; exact rfl
    case k2 =>
      refine Ev_pos (by omega) (Ev_pos (by omega) ?_)
      rw [rd_T30_get hlt, hok, wrap_succ (by omega)]
      refine Ev_bind_some ?_
      cases h : stepOk l[i] with
      | true =>
        refine Ev_pos rfl (ih (i + 1) (by omega) (by omega) (fun x hx => ?_))
        rw [List.take_succ_eq_append_getElem hlt] at hx
        rcases List.mem_append.1 hx with hx | hx
        · exact hp x hx
        · rw [List.mem_singleton] at hx; subst hx; exact h
      | false =>
        have e : travB l = false := by
          unfold travB
          have : l.all stepOk = false := List.all_eq_false.2 ⟨l[i], List.getElem_mem hlt, by rw [h]; simp⟩
          rw [this, Bool.and_false]
        rw [e]
        exact Ev_neg (by simp) (Ev_some _)
theorem specTravel_ev (l : List S30) (hl : l.length ≤ 1048576) : Ev (fun k => spec_TravelValid.f k l) (travB l) := by
  unfold spec_TravelValid.f
  exact specTravel_loop l hl _ 0 rfl (by omega) (by simp)
theorem implClose_j1 (l : List S30) (hl : l.length ≤ 12) (X Y : List Int) (hX : X.length = l.length) (hY : Y.length = l.length) :
    Ev (fun k => impl_TravelClose.j1 k l X Y false) (if travB (closed l X Y) = true then (closed l X Y, true) else ([], false)) := by
  refine Ev.step (f := ?f2) ?h2 ?k2
  case h2 => intro k; simp only [impl_TravelClose.j1]; exact rfl
  case k2 =>
    refine Ev_neg (by simp) (Ev_pos (by omega) (Ev_pos (by omega) ?_))
    have := implClose_l1 l hl X Y hX hY _ 0 rfl (by omega)
    simpa using this
theorem implClose_j1t (l : List S30) (X Y : List Int) : Ev (fun k => impl_TravelClose.j1 k l X Y true) ([], false) := Ev_end fun k => by simp only [impl_TravelClose.j1]; rfl
theorem share_len (l : List S30) (a : Int) : (shareOf (lensOf l) a).length = l.length := by rw [shareOf_length]; simp [lensOf]
theorem implClose_l0 (l : List S30) (hl : l.length ≤ 12) (hv : ∀ p ∈ l, stepOk p = true) (gx gy : Int) (d : Nat) : ∀ i : Nat, l.length - i = d → i ≤ l.length →
    Ev (fun k => impl_TravelClose.l0 k l ((lensOf l).take i) l l.length i gx gy) (if (shareB (lensOf l) (wrap64 (-gx)) && shareB (lensOf l) (wrap64 (-gy))) = true then
      if travB (closed l (shareOf (lensOf l) (wrap64 (-gx))) (shareOf (lensOf l) (wrap64 (-gy)))) = true then (closed l (shareOf (lensOf l) (wrap64 (-gx))) (shareOf (lensOf l) (wrap64 (-gy))), true) else ([], false) else ([], false)) := by
  have hll : (lensOf l).length = l.length := by simp [lensOf]
  induction d with
  | zero =>
    intro i hd hi
    rw [List.take_of_length_le (by omega)]
    refine Ev.step (f := ?f1) ?h1 ?k1
    case h1 => intro k; simp only [impl_TravelClose.l0]; exact rfl
    case k1 =>
      refine Ev_neg (by omega) ?_
      unfold impl_ShareOf.f
      refine Ev_bind_some (Ev_bind_some ?_)
      cases h1 : shareB (lensOf l) (wrap64 (-gx)) with
      | true =>
        rw [if_pos rfl]
        refine Ev_pos rfl ?_
        cases h2 : shareB (lensOf l) (wrap64 (-gy)) with
        | true =>
          rw [if_pos rfl]
          simp only [Bool.not_true, Bool.and_self, if_true]
          exact implClose_j1 l hl _ _ (share_len l _) (share_len l _)
        | false =>
          rw [if_neg (by simp)]
          simp only [Bool.not_false, Bool.and_false, Bool.false_eq_true, if_false]
          exact implClose_j1t _ _ _
      | false =>
        rw [if_neg (by simp)]
        refine Ev_neg (by simp) ?_
        simp only [Bool.false_and, Bool.false_eq_true, if_false]
        exact implClose_j1t _ _ _
  | succ d ih =>
    intro i hd hi
    have hlt : i < l.length := by omega
    refine Ev.step (f := ?f2) ?h2 ?k2
    case h2 => intro k; simp only [impl_TravelClose.l0]; exact rfl
    case k2 =>
      refine Ev_pos (by omega) (Ev_pos (by omega) (Ev_pos (by omega) ?_))
      rw [rd_T30_get hlt, stepLength_f _ (hv _ (List.getElem_mem hlt)), wrap_succ (by omega)]
      refine Ev_bind_some (Ev_pos (by simp; omega) ?_)
      have := ih (i + 1) (by omega) (by omega)
      rw [lensOf_take l i hlt] at this
      exact this
theorem implClose_ev (l : List S30) : Ev (fun k => impl_TravelClose.f k l) (closeOf l) := by
  unfold impl_TravelClose.f impl_TravelGap.f closeOf
  refine Ev_bind_some ?_
  cases hb : travB l with
  | true =>
    have hv := travB_iff.1 hb
    simp only [if_true]
    refine Ev_pos (by omega) (Ev_pos (by omega) ?_)
    have := implClose_l0 l hv.2.1 hv.2.2 (gapX l) (gapY l) _ 0 rfl (by omega)
    simpa using this
  | false =>
    simp only [Bool.false_eq_true, if_false]
    exact Ev_some _
theorem specGap_loop (l : List S30) (hl : l.length ≤ 1048576) (d : Nat) : ∀ i : Nat, l.length - i = d → i ≤ l.length → Ev (fun k => spec_l33Gap.l0 k l i (gapX (l.take i)) (gapY (l.take i))) (gapX l, gapY l) := by
  induction d with
  | zero =>
    intro i hd hi
    rw [List.take_of_length_le (by omega)]
    refine Ev_end fun k => ?_
    simp only [spec_l33Gap.l0]; rw [if_neg (by omega)]
  | succ d ih =>
    intro i hd hi
    have hlt : i < l.length := by omega
    refine Ev.step (f := ?f2) ?h2 ?k2
    case h2 => intro k; simp only [spec_l33Gap.l0]; exact rfl
    case k2 =>
      refine Ev_pos (by omega) (Ev_pos (by omega) ?_)
      rw [rd_T30_get hlt, wrap_succ (by omega), ← gapX_snoc, ← gapY_snoc, ← List.take_succ_eq_append_getElem hlt]
      exact ih (i + 1) (by omega) (by omega)
theorem specLens_loop (l : List S30) (hl : l.length ≤ 1048576) (hv : ∀ p ∈ l, stepOk p = true) (d : Nat) : ∀ i : Nat, l.length - i = d → i ≤ l.length → Ev (fun k => spec_l33Lengths.l0 k l ((lensOf l).take i) i) (lensOf l) := by
  have hll : (lensOf l).length = l.length := by simp [lensOf]
  induction d with
  | zero =>
    intro i hd hi
    rw [List.take_of_length_le (by omega)]
    refine Ev_end fun k => ?_
    simp only [spec_l33Lengths.l0]; rw [if_neg (by omega)]
  | succ d ih =>
    intro i hd hi
    have hlt : i < l.length := by omega
    have hs := stepOk_iff.1 (hv _ (List.getElem_mem hlt))
    have b0 := size_bound l[i].f0 20000 hs.1
    have b1 := size_bound l[i].f1 20000 hs.2
    refine Ev.step (f := ?f2) ?h2 ?k2
    case h2 => intro k; simp only [spec_l33Lengths.l0]; exact rfl
    case k2 =>
      refine Ev_pos (by omega) (Ev_pos (by omega) ?_)
      rw [rd_T30_get hlt, l1Size_size _ (by omega) (by omega), l1Size_size _ (by omega) (by omega), wrap_succ (by omega)]
      refine Ev_bind_some (Ev_bind_some (Ev_pos (by simp; omega) ?_))
      rw [wsml (by omega) (by omega)]
      have := ih (i + 1) (by omega) (by omega)
      rw [lensOf_take l i hlt] at this
      exact this
theorem specClose_l0 (l : List S30) (hl : l.length ≤ 12) (X Y : List Int) (hX : X.length = l.length) (hY : Y.length = l.length) (d : Nat) : ∀ i : Nat, l.length - i = d → i ≤ l.length →
    Ev (fun k => spec_TravelClose.l0 k l X Y ((closed l X Y).take i) i) (if travB (closed l X Y) = true then (closed l X Y, true) else ([], false)) := by
  have hcl := closed_length l X Y
  induction d with
  | zero =>
    intro i hd hi
    rw [List.take_of_length_le (by omega)]
    refine Ev.step (f := ?f1) ?h1 ?k1
    case h1 => intro k; simp only [spec_TravelClose.l0]; exact rfl
    case k1 =>
      refine Ev_neg (by omega) (Ev_bind (specTravel_ev _ (by omega)) ?_)
      cases travB (closed l X Y) with
      | true => exact Ev_pos rfl (Ev_some _)
      | false => exact Ev_neg (by simp) (Ev_some _)
  | succ d ih =>
    intro i hd hi
    have hlt : i < l.length := by omega
    refine Ev.step (f := ?f2) ?h2 ?k2
    case h2 => intro k; simp only [spec_TravelClose.l0]; exact rfl
    case k2 =>
      refine Ev_pos (by omega) (Ev_pos (by omega) (Ev_pos (by omega) (Ev_pos (by omega) (Ev_pos (by simp; omega) ?_))))
      rw [wrap_succ (by omega), rd_getD, rd_getD]
      have := ih (i + 1) (by omega) (by omega)
      rw [closed_take l X Y i hlt] at this
      exact this
theorem specClose_ev (l : List S30) (hl : l.length ≤ 1048576) : Ev (fun k => spec_TravelClose.f k l) (closeOf l) := by
  unfold spec_TravelClose.f closeOf
  refine Ev_bind (specTravel_ev l hl) ?_
  cases hb : travB l with
  | true =>
    have hv := travB_iff.1 hb
    have hll : (lensOf l).length = l.length := by simp [lensOf]
    have hg : Ev (fun k => spec_l33Gap.f k l) (gapX l, gapY l) := by unfold spec_l33Gap.f; exact specGap_loop l hl _ 0 rfl (by omega)
    have hL : Ev (fun k => spec_l33Lengths.f k l) (lensOf l) := by unfold spec_l33Lengths.f; simpa using specLens_loop l hl hv.2.2 _ 0 rfl (by omega)
    rw [if_pos rfl]
    refine Ev_pos rfl (Ev_bind hg (Ev_bind hL (Ev_bind (specShareOf_ev _ _ (by omega)) (Ev_bind hL (Ev_bind (specShareOf_ev _ _ (by omega)) ?_)))))
    have jt : ∀ X Y : List Int, Ev (fun k => spec_TravelClose.j0 k l X Y true) ([], false) := fun X Y => Ev_end fun k => by simp only [spec_TravelClose.j0]; rfl
    cases h1 : shareB (lensOf l) (wrap64 (-(gapX l))) with
    | true =>
      rw [if_pos rfl]
      refine Ev_pos rfl ?_
      cases h2 : shareB (lensOf l) (wrap64 (-(gapY l))) with
      | true =>
        rw [if_pos rfl]
        simp only [Bool.not_true, Bool.and_self, if_true]
        refine Ev.step (f := ?f2) ?h2 ?k2
        case h2 => intro k; simp only [spec_TravelClose.j0]; exact rfl
        case k2 =>
          refine Ev_neg (by simp) ?_
          simpa using specClose_l0 l hv.2.1 _ _ (share_len l _) (share_len l _) _ 0 rfl (by omega)
      | false =>
        rw [if_neg (by simp)]
        simp only [Bool.not_false, Bool.and_false, Bool.false_eq_true, if_false]
        exact jt _ _
    | false =>
      rw [if_neg (by simp)]
      refine Ev_neg (by simp) ?_
      simp only [Bool.false_and, Bool.false_eq_true, if_false]
      exact jt _ _
  | false =>
    rw [if_neg (by simp)]
    exact Ev_neg (by simp) (Ev_some _)
end Go.Proofs.Ytffkojdmidhchaa.P
end
section
/- Shares add up to the amount, and each is less than 1 away from its part. Condition: lengths and amount in range. -/
namespace Go.Proofs.Ytffkojdmidhchaa.P
open Go.RowKit Go.Proofs.YtffkojdmidhchaaW.PrintWords Go.Proofs.YtffkojdmidhchaaW.PrintLast Go.Proofs.YtffkojdmidhchaaW.PrintMore
set_option linter.unusedVariables false
set_option linter.unusedSimpArgs false

theorem sum_put (r : List Int) : ∀ (j : Nat) (h : j < r.length) (x : Int), (r.set j x).sum = r.sum - r.getD j 0 + x := by
  induction r with
  | nil => intro j h; simp at h
  | cons y r ih =>
    intro j h x
    cases j with
    | zero => simp only [List.set_cons_zero, List.sum_cons, List.getD_cons_zero]; omega
    | succ j =>
      have := ih j (by simpa using h) x
      simp only [List.set_cons_succ, List.sum_cons, List.getD_cons_succ]; rw [this]; omega
theorem shareGo_sum (m : Nat) : ∀ (S R : List Int), S.length = R.length → 0 < R.length → (shareGo m S R).sum = S.sum + m := by
  induction m with
  | zero => intro S R _ _; simp [shareGo]
  | succ m ih =>
    intro S R h h0
    have hb := bestOf_best R (fun e => by subst e; simp at h0)
    simp only [shareGo]
    rw [ih _ _ (by simpa using h) (by simpa using h0), sum_put _ _ (by have := hb.1; omega)]
    push_cast; omega
theorem shareOf_sum (l : List Int) (a : Int) (h : shareB l a = true) : (shareOf l a).sum = a := by
  unfold shareB at h
  simp only [Bool.and_eq_true, decide_eq_true_iff] at h
  obtain ⟨h1, h2, h3⟩ := h
  have hlen := lenB_iff.1 h1
  have hm := missing_lt l a h2 hlen.1
  unfold shareOf
  rw [shareGo_sum _ _ _ (by simp [floors, lefts]) (by simp [lefts]; omega)]
  omega
/-- What is left in all. -/
def posSum : List Int → Int
  | [] => 0
  | x :: r => (if 0 < x then x else 0) + posSum r
theorem posSum_put (R : List Int) : ∀ (j : Nat) (h : j < R.length), posSum (R.set j (-1)) = posSum R - (if 0 < R.getD j 0 then R.getD j 0 else 0) := by
  induction R with
  | nil => intro j h; simp at h
  | cons y r ih =>
    intro j h
    cases j with
    | zero => simp only [List.set_cons_zero, posSum, List.getD_cons_zero]; rw [if_neg (by omega)]; omega
    | succ j =>
      have := ih j (by simpa using h)
      simp only [List.set_cons_succ, posSum, List.getD_cons_succ]; rw [this]; omega
theorem posSum_none (R : List Int) (h : ∀ j, j < R.length → R.getD j 0 ≤ 0) : posSum R = 0 := by
  induction R with
  | nil => rfl
  | cons y r ih =>
    have h0 := h 0 (by simp)
    rw [List.getD_cons_zero] at h0
    have := ih (fun j hj => by have := h (j + 1) (by simp; omega); rwa [List.getD_cons_succ] at this)
    simp only [posSum]; rw [if_neg (by omega), this]; omega
theorem posSum_eq (R : List Int) (h : ∀ x ∈ R, 0 ≤ x) : posSum R = R.sum := by
  induction R with
  | nil => rfl
  | cons y r ih =>
    have h0 := h y (by simp)
    simp only [posSum, List.sum_cons]
    rw [ih (fun x hx => h x (by simp [hx]))]
    split <;> omega
theorem near_go (s : Int) (hs : 0 < s) (P : List Int) (m : Nat) : ∀ S R : List Int, S.length = R.length →
    (∀ i, i < R.length → (0 ≤ R.getD i 0 → S.getD i 0 * s + R.getD i 0 = P.getD i 0 ∧ R.getD i 0 < s) ∧ (R.getD i 0 < 0 → -s < S.getD i 0 * s - P.getD i 0 ∧ S.getD i 0 * s - P.getD i 0 < s)) →
    (m = 0 ∨ (m : Int) * (s - 1) + 1 ≤ posSum R) → ∀ i, i < R.length → -s < (shareGo m S R).getD i 0 * s - P.getD i 0 ∧ (shareGo m S R).getD i 0 * s - P.getD i 0 < s := by
  induction m with
  | zero =>
    intro S R hl h hT i hi
    simp only [shareGo]
    by_cases c : 0 ≤ R.getD i 0
    · have := (h i hi).1 c; omega
    · exact (h i hi).2 (by omega)
  | succ m ih =>
    intro S R hl h hT i hi
    have hT := hT.resolve_left (by omega)
    have hms : 0 ≤ (m : Int) * (s - 1) := Int.mul_nonneg (by omega) (by omega)
    have e0 : ((m + 1 : Nat) : Int) * (s - 1) = (m : Int) * (s - 1) + (s - 1) := by push_cast; rw [Int.add_mul]; omega
    have hb := bestOf_best R (fun e => by subst e; simp at hi)
    have hpos : 0 < R.getD (bestOf R) 0 := by
      by_cases c : 0 < R.getD (bestOf R) 0
      · exact c
      · have := posSum_none R (fun j hj => by have := hb.2 j hj; omega)
        omega
    have hin := (h _ hb.1).1 (by omega)
    simp only [shareGo]
    refine ih _ _ (by simpa using hl) (fun j hj => ?_) ?_ i (by simpa using hi)
    · simp only [List.length_set] at hj
      rw [getD_set _ _ _ _ hb.1, getD_set _ _ _ _ (by have := hb.1; omega)]
      by_cases c : j = bestOf R
      · subst c
        rw [if_pos rfl, if_pos rfl]
        refine ⟨fun q => by omega, fun _ => ?_⟩
        rw [Int.add_mul]; omega
      · rw [if_neg c, if_neg c]; exact h j hj
    · rcases Nat.eq_zero_or_pos m with c | c
      · exact .inl c
      · right
        rw [posSum_put _ _ hb.1, if_pos hpos]
        omega
theorem shareOf_near (l : List Int) (a : Int) (h : shareB l a = true) (i : Nat) (hi : i < l.length) : -l.sum < (shareOf l a).getD i 0 * l.sum - a * l.getD i 0 ∧ (shareOf l a).getD i 0 * l.sum - a * l.getD i 0 < l.sum := by
  unfold shareB at h
  simp only [Bool.and_eq_true, decide_eq_true_iff] at h
  obtain ⟨h1, h2, h3⟩ := h
  have hlen := lenB_iff.1 h1
  have hm := missing_lt l a h2 hlen.1
  have hb := missing_bound l a l.sum h2
  have g1 : ∀ j, j < l.length → (floors l a l.sum).getD j 0 = a * l.getD j 0 / l.sum := fun j hj => by
    rw [List.getD_eq_getElem?_getD, List.getD_eq_getElem?_getD, List.getElem?_eq_getElem (by simpa [floors] using hj), List.getElem?_eq_getElem hj]; simp [floors]
  have g2 : ∀ j, j < l.length → (lefts l a l.sum).getD j 0 = a * l.getD j 0 % l.sum := fun j hj => by
    rw [List.getD_eq_getElem?_getD, List.getD_eq_getElem?_getD, List.getElem?_eq_getElem (by simpa [lefts] using hj), List.getElem?_eq_getElem hj]; simp [lefts]
  have g3 : ∀ j, j < l.length → (l.map fun x => a * x).getD j 0 = a * l.getD j 0 := fun j hj => by
    rw [List.getD_eq_getElem?_getD, List.getD_eq_getElem?_getD, List.getElem?_eq_getElem (by simpa using hj), List.getElem?_eq_getElem hj]; simp
  have hnn : ∀ x ∈ lefts l a l.sum, 0 ≤ x := fun x hx => by
    obtain ⟨y, hy, rfl⟩ := List.mem_map.1 hx
    exact Int.emod_nonneg _ (by omega)
  have hT := posSum_eq _ hnn
  have key := near_go l.sum h2 (l.map fun x => a * x) (a - (floors l a l.sum).sum).toNat (floors l a l.sum) (lefts l a l.sum) (by simp [floors, lefts]) (fun j hj => by
    simp only [lefts, List.length_map] at hj
    rw [g1 j hj, g2 j hj, g3 j hj]
    have e1 := Int.mul_ediv_add_emod (a * l.getD j 0) l.sum
    have e2 := Int.emod_nonneg (a * l.getD j 0) (show l.sum ≠ 0 by omega)
    have e3 := Int.emod_lt_of_pos (a * l.getD j 0) h2
    refine ⟨fun _ => ⟨by rw [Int.mul_comm]; exact e1, e3⟩, fun q => by omega⟩) (by
    rw [hT]
    generalize hM : (a - (floors l a l.sum).sum).toNat = M
    have hMe : (M : Int) = a - (floors l a l.sum).sum := by omega
    rcases Nat.eq_zero_or_pos M with c | c
    · exact .inl c
    · right
      have e : l.sum * (M : Int) = (lefts l a l.sum).sum := by rw [hMe, Int.mul_sub, Int.mul_comm l.sum a]; omega
      rw [← e, Int.mul_comm l.sum, Int.mul_sub]
      omega) i (by simpa [lefts] using hi)
  rw [g3 i hi] at key
  exact key
theorem shareOf_bound (l : List Int) (a b : Int) (h : shareB l a = true) (hb : -b ≤ a ∧ a ≤ b) (i : Nat) (hi : i < l.length) : -b - 1 ≤ (shareOf l a).getD i 0 ∧ (shareOf l a).getD i 0 ≤ b + 1 := by
  have hn := shareOf_near l a h i hi
  unfold shareB at h
  simp only [Bool.and_eq_true, decide_eq_true_iff] at h
  obtain ⟨h1, h2, h3⟩ := h
  have hlen := lenB_iff.1 h1
  have hss := le_sum l (fun x hx => (hlen.2.2 x hx).1)
  have hx := hlen.2.2 _ (mem_getD hi)
  have hx2 := hss.2 _ (mem_getD hi)
  generalize l.getD i 0 = x at *
  generalize (shareOf l a).getD i 0 = y at *
  generalize l.sum = s at *
  have b0 : 0 ≤ b := by omega
  have q1 := Int.mul_le_mul_of_nonneg_right hb.1 hx.1
  have q2 := Int.mul_le_mul_of_nonneg_right hb.2 hx.1
  have q3 := Int.mul_le_mul_of_nonneg_left hx2 b0
  rw [Int.neg_mul] at q1
  have u1 : y * s < (b + 1) * s := by rw [Int.add_mul]; omega
  have u2 : (-b - 1) * s < y * s := by rw [Int.sub_mul, Int.neg_mul]; omega
  have v1 := Int.lt_of_mul_lt_mul_right u1 (by omega)
  have v2 := Int.lt_of_mul_lt_mul_right u2 (by omega)
  omega
end Go.Proofs.Ytffkojdmidhchaa.P
end
section
/- What a closed traverse is: its gap is 0, closing it again changes nothing, its differences are shares. Condition: a traverse that could be closed. -/
namespace Go.Proofs.Ytffkojdmidhchaa.P
open Go.RowKit Go.Proofs.YtffkojdmidhchaaW.PrintWords Go.Proofs.YtffkojdmidhchaaW.PrintLast Go.Proofs.YtffkojdmidhchaaW.PrintMore
set_option linter.unusedVariables false
set_option linter.unusedSimpArgs false

def sumX (l : List S30) : Int := (l.map (·.f0)).sum
def sumY (l : List S30) : Int := (l.map (·.f1)).sum
theorem gap_take (l : List S30) (hv : travB l = true) : ∀ i : Nat, i ≤ l.length → (gapX (l.take i) = sumX (l.take i) ∧ -20000 * (i : Int) ≤ sumX (l.take i) ∧ sumX (l.take i) ≤ 20000 * i) ∧ (gapY (l.take i) = sumY (l.take i) ∧ -20000 * (i : Int) ≤ sumY (l.take i) ∧ sumY (l.take i) ≤ 20000 * i) := by
  have h := travB_iff.1 hv
  intro i
  induction i with
  | zero => intro _; simp [gapX, gapY, sumX, sumY]
  | succ i ih =>
    intro hi
    obtain ⟨⟨a1, a2, a3⟩, b1, b2, b3⟩ := ih (by omega)
    have hs := stepOk_iff.1 (h.2.2 l[i] (List.getElem_mem (by omega)))
    have e := List.take_succ_eq_append_getElem (l := l) (i := i) (by omega)
    have ex : sumX (l.take (i + 1)) = sumX (l.take i) + l[i].f0 := by rw [e]; simp only [sumX, List.map_append, List.map_cons, List.map_nil, List.sum_append, List.sum_singleton]
    have ey : sumY (l.take (i + 1)) = sumY (l.take i) + l[i].f1 := by rw [e]; simp only [sumY, List.map_append, List.map_cons, List.map_nil, List.sum_append, List.sum_singleton]
    have gx : gapX (l.take (i + 1)) = wrap64 (gapX (l.take i) + l[i].f0) := by rw [e, gapX_snoc]
    have gy : gapY (l.take (i + 1)) = wrap64 (gapY (l.take i) + l[i].f1) := by rw [e, gapY_snoc]
    rw [gx, gy, ex, ey, a1, b1, wsml (a := sumX (l.take i) + l[i].f0) (by omega) (by omega), wsml (a := sumY (l.take i) + l[i].f1) (by omega) (by omega)]
    push_cast
    refine ⟨⟨rfl, by omega, by omega⟩, rfl, by omega, by omega⟩
theorem gap_eq (l : List S30) (hv : travB l = true) : (gapX l = sumX l ∧ -240000 ≤ sumX l ∧ sumX l ≤ 240000) ∧ (gapY l = sumY l ∧ -240000 ≤ sumY l ∧ sumY l ≤ 240000) := by
  have h := travB_iff.1 hv
  have := gap_take l hv l.length (Nat.le_refl _)
  rw [List.take_length] at this
  omega
theorem sum_range (n : Nat) (f g : Nat → Int) : ((List.range n).map fun i => f i + g i).sum = ((List.range n).map f).sum + ((List.range n).map g).sum := by
  induction n with
  | zero => rfl
  | succ n ih => simp only [List.range_succ, List.map_append, List.sum_append, ih, List.map_cons, List.map_nil, List.sum_singleton]; omega
theorem range_getD (X : List Int) : (List.range X.length).map (fun i => X.getD i 0) = X := by
  apply List.ext_getElem (by simp)
  intro i h1 h2
  simp [List.getD_eq_getElem?_getD, List.getElem?_eq_getElem h2]
theorem range_f0 (l : List S30) : (List.range l.length).map (fun (i : Nat) => (rd_T30 l (i : Int)).f0) = l.map (·.f0) := by
  apply List.ext_getElem (by simp)
  intro i h1 h2
  have : i < l.length := by simpa using h2
  simp [rd_T30_get this]
theorem range_f1 (l : List S30) : (List.range l.length).map (fun (i : Nat) => (rd_T30 l (i : Int)).f1) = l.map (·.f1) := by
  apply List.ext_getElem (by simp)
  intro i h1 h2
  have : i < l.length := by simpa using h2
  simp [rd_T30_get this]
theorem add_no_wrap (l : List S30) (hv : ∀ p ∈ l, stepOk p = true) (X Y : List Int) (hX : ∀ i, i < l.length → -1000000 ≤ X.getD i 0 ∧ X.getD i 0 ≤ 1000000) (hY : ∀ i, i < l.length → -1000000 ≤ Y.getD i 0 ∧ Y.getD i 0 ≤ 1000000) (i : Nat) (hi : i < l.length) :
    addAt l X Y i = ⟨(rd_T30 l (i : Int)).f0 + X.getD i 0, (rd_T30 l (i : Int)).f1 + Y.getD i 0⟩ := by
  unfold addAt
  rw [rd_T30_get hi]
  have hs := stepOk_iff.1 (hv _ (List.getElem_mem hi))
  have := hX i hi
  have := hY i hi
  rw [wsml (by omega) (by omega), wsml (by omega) (by omega)]
theorem sum_closed (l : List S30) (hv : ∀ p ∈ l, stepOk p = true) (X Y : List Int) (hXl : X.length = l.length) (hYl : Y.length = l.length) (hX : ∀ i, i < l.length → -1000000 ≤ X.getD i 0 ∧ X.getD i 0 ≤ 1000000) (hY : ∀ i, i < l.length → -1000000 ≤ Y.getD i 0 ∧ Y.getD i 0 ≤ 1000000) :
    sumX (closed l X Y) = sumX l + X.sum ∧ sumY (closed l X Y) = sumY l + Y.sum := by
  have e : closed l X Y = (List.range l.length).map fun (i : Nat) => (⟨(rd_T30 l (i : Int)).f0 + X.getD i 0, (rd_T30 l (i : Int)).f1 + Y.getD i 0⟩ : S30) := by
    unfold closed
    exact List.map_congr_left fun i hi => add_no_wrap l hv X Y hX hY i (List.mem_range.1 hi)
  rw [e]
  unfold sumX sumY
  rw [List.map_map, List.map_map]
  constructor
  · rw [show ((fun (x : S30) => x.f0) ∘ fun (i : Nat) => (⟨(rd_T30 l (i : Int)).f0 + X.getD i 0, (rd_T30 l (i : Int)).f1 + Y.getD i 0⟩ : S30)) = fun i : Nat => (rd_T30 l (i : Int)).f0 + X.getD i 0 from rfl, sum_range, range_f0, ← hXl, range_getD]
  · rw [show ((fun (x : S30) => x.f1) ∘ fun (i : Nat) => (⟨(rd_T30 l (i : Int)).f0 + X.getD i 0, (rd_T30 l (i : Int)).f1 + Y.getD i 0⟩ : S30)) = fun i : Nat => (rd_T30 l (i : Int)).f1 + Y.getD i 0 from rfl, sum_range, range_f1, ← hYl, range_getD]
/-- What it is to have closed. -/
structure Shut1 (l : List S30) (c : List S30) (X Y : List Int) (gx gy : Int) : Prop where
  trav : travB l = true
  gapx : gapX l = gx
  gapy : gapY l = gy
  bx : -240000 ≤ gx ∧ gx ≤ 240000
  byy : -240000 ≤ gy ∧ gy ≤ 240000
  sx : shareB (lensOf l) (-gx) = true
  sy : shareB (lensOf l) (-gy) = true
  hX : X = shareOf (lensOf l) (-gx)
  hY : Y = shareOf (lensOf l) (-gy)
  hc : c = closed l X Y
  ctrav : travB c = true
theorem closeOf_true (l c : List S30) (h : closeOf l = (c, true)) : ∃ X Y gx gy, Shut1 l c X Y gx gy := by
  unfold closeOf at h
  cases hb : travB l with
  | false => rw [hb, if_neg (by simp)] at h; injection h with _ h; cases h
  | true =>
    have hg := gap_eq l hb
    rw [hb, if_pos rfl, hg.1.1, hg.2.1, wsml (a := -(sumX l)) (by omega) (by omega), wsml (a := -(sumY l)) (by omega) (by omega)] at h
    cases hs : (shareB (lensOf l) (-(sumX l)) && shareB (lensOf l) (-(sumY l))) with
    | false => rw [hs, if_neg (by simp)] at h; injection h with _ h; cases h
    | true =>
      rw [hs, if_pos rfl] at h
      rw [Bool.and_eq_true] at hs
      cases ht : travB (closed l (shareOf (lensOf l) (-(sumX l))) (shareOf (lensOf l) (-(sumY l)))) with
      | false => rw [ht, if_neg (by simp)] at h; injection h with _ h; cases h
      | true =>
        rw [ht, if_pos rfl] at h
        injection h with h _
        exact ⟨_, _, _, _, hb, hg.1.1, hg.2.1, hg.1.2, hg.2.2, hs.1, hs.2, rfl, rfl, h.symm, by rw [← h]; exact ht⟩
theorem lens_length (l : List S30) : (lensOf l).length = l.length := by simp [lensOf]
theorem Shut1.bX {l c : List S30} {X Y : List Int} {gx gy : Int} (h : Shut1 l c X Y gx gy) : ∀ i, i < l.length → -1000000 ≤ X.getD i 0 ∧ X.getD i 0 ≤ 1000000 := fun i hi => by
  have b := h.bx
  have := shareOf_bound (lensOf l) (-gx) 240000 h.sx (by omega) i (by rw [lens_length]; exact hi)
  rw [h.hX]; omega
theorem Shut1.bY {l c : List S30} {X Y : List Int} {gx gy : Int} (h : Shut1 l c X Y gx gy) : ∀ i, i < l.length → -1000000 ≤ Y.getD i 0 ∧ Y.getD i 0 ≤ 1000000 := fun i hi => by
  have b := h.byy
  have := shareOf_bound (lensOf l) (-gy) 240000 h.sy (by omega) i (by rw [lens_length]; exact hi)
  rw [h.hY]; omega
theorem Shut1.lX {l c : List S30} {X Y : List Int} {gx gy : Int} (h : Shut1 l c X Y gx gy) : X.length = l.length ∧ Y.length = l.length := by rw [h.hX, h.hY, share_len, share_len]; exact ⟨rfl, rfl⟩
theorem Shut1.gap {l c : List S30} {X Y : List Int} {gx gy : Int} (h : Shut1 l c X Y gx gy) : gapX c = 0 ∧ gapY c = 0 := by
  have hg := gap_eq l h.trav
  have hc := gap_eq c h.ctrav
  have hs := sum_closed l (travB_iff.1 h.trav).2.2 X Y h.lX.1 h.lX.2 h.bX h.bY
  rw [← h.hc] at hs
  have e1 : X.sum = -gx := by rw [h.hX]; exact shareOf_sum _ _ h.sx
  have e2 : Y.sum = -gy := by rw [h.hY]; exact shareOf_sum _ _ h.sy
  have := h.gapx
  have := h.gapy
  omega
theorem Shut1.at {l c : List S30} {X Y : List Int} {gx gy : Int} (h : Shut1 l c X Y gx gy) (i : Nat) (hi : i < l.length) : rd_T30 c (i : Int) = ⟨(rd_T30 l (i : Int)).f0 + X.getD i 0, (rd_T30 l (i : Int)).f1 + Y.getD i 0⟩ := by
  have hl : i < c.length := by rw [h.hc, closed_length]; exact hi
  rw [rd_T30_get hl]
  simp only [h.hc, closed, List.getElem_map, List.getElem_range]
  exact add_no_wrap l (travB_iff.1 h.trav).2.2 X Y h.bX h.bY i hi
theorem shareOf_zero (l : List Int) : shareOf l 0 = List.replicate l.length 0 := by
  have e : floors l 0 l.sum = List.replicate l.length 0 := by
    unfold floors
    rw [List.map_congr_left (g := fun _ => 0) (fun x _ => by simp)]
    exact List.map_const' ..
  unfold shareOf
  rw [e]
  have e2 : (List.replicate l.length (0 : Int)).sum = 0 := by
    induction l.length with
    | zero => rfl
    | succ n ih => rw [List.replicate_succ, List.sum_cons, ih]; rfl
  rw [e2]; rfl
theorem closed_zero (c : List S30) (hv : ∀ p ∈ c, stepOk p = true) : closed c (List.replicate c.length 0) (List.replicate c.length 0) = c := by
  apply List.ext_getElem (by simp [closed])
  intro i h1 h2
  have hz : (List.replicate c.length (0 : Int)).getD i 0 = 0 := by rw [List.getD_eq_getElem?_getD, List.getElem?_replicate]; split <;> rfl
  simp only [closed, List.getElem_map, List.getElem_range]
  rw [add_no_wrap c hv _ _ (fun j _ => by rw [List.getD_eq_getElem?_getD, List.getElem?_replicate]; split <;> simp) (fun j _ => by rw [List.getD_eq_getElem?_getD, List.getElem?_replicate]; split <;> simp) i h2, hz, rd_T30_get h2]
  simp
theorem Shut1.again {l c : List S30} {X Y : List Int} {gx gy : Int} (h : Shut1 l c X Y gx gy) : closeOf c = (c, true) ∨ closeOf c = ([], false) := by
  have hg := h.gap
  unfold closeOf
  rw [h.ctrav, if_pos rfl, hg.1, hg.2, show wrap64 (-0) = 0 from by rw [wsml (by omega) (by omega)]; rfl, shareOf_zero, lens_length, closed_zero c (travB_iff.1 h.ctrav).2.2, h.ctrav, if_pos rfl]
  cases (shareB (lensOf c) 0 && shareB (lensOf c) 0) with
  | true => left; rfl
  | false => right; rfl
end Go.Proofs.Ytffkojdmidhchaa.P
end
section
/- The draws end: pick gives a number below its bound, and the reader moves on by one. Condition: bytes, a small bound, a small place. -/
namespace Go.Proofs.Ytffkojdmidhchaa.P
open Go.RowKit Go.Proofs.YtffkojdmidhchaaW.PrintWords Go.Proofs.YtffkojdmidhchaaW.PrintLast Go.Proofs.YtffkojdmidhchaaW.PrintMore
set_option linter.unusedVariables false
set_option linter.unusedSimpArgs false

theorem xor_i64_nat (a b : Nat) (ha : a < 9223372036854775808) (hb : b < 9223372036854775808) :
    Go.bits .xor .i64 (a : Int) (b : Int) = ((a ^^^ b : Nat) : Int) := by
  have hx : a ^^^ b < 2 ^ 63 := Nat.xor_lt_two_pow (by omega) (by omega)
  have h1 : (BitVec.ofInt 64 (a : Int)).toNat = a := by
    rw [BitVec.ofInt_natCast, BitVec.toNat_ofNat]; exact Nat.mod_eq_of_lt (by omega)
  have h2 : (BitVec.ofInt 64 (b : Int)).toNat = b := by
    rw [BitVec.ofInt_natCast, BitVec.toNat_ofNat]; exact Nat.mod_eq_of_lt (by omega)
  show IntKind.i64.wrap ((BitVec.ofInt 64 (a : Int) ^^^ BitVec.ofInt 64 (b : Int)).toNat : Int) = _
  rw [BitVec.toNat_xor, h1, h2]
  simp [IntKind.wrap, IntKind.bits, IntKind.signed]
  omega
theorem xor_i64_pos (a b : Int) (ha : 0 ≤ a) (ha' : a ≤ 9223372036854775807) (hb : 0 ≤ b) (hb' : b ≤ 9223372036854775807) : 0 ≤ Go.bits .xor .i64 a b := by
  have e1 : a = ((a.toNat : Nat) : Int) := by omega
  have e2 : b = ((b.toNat : Nat) : Int) := by omega
  rw [e1, e2, xor_i64_nat _ _ (by omega) (by omega)]
  exact Int.natCast_nonneg _
def byteL (l : List Int) : Prop := ∀ x ∈ l, 0 ≤ x ∧ x ≤ 255
theorem bytes_of {l : List Int} (h : ∀ x ∈ l, (Lit.int .u8 x).wf = true) : byteL l := by
  intro x hx
  have := h x hx
  simp [Lit.wf, IntKind.min, IntKind.max, IntKind.bits, IntKind.signed] at this
  omega
theorem rd_byte {l : List Int} (h : byteL l) (i : Int) : 0 ≤ rd l i ∧ rd l i ≤ 255 := by
  unfold rd
  rw [List.getD_eq_getElem?_getD]
  cases e : l[i.toNat]? with
  | none => simp
  | some x => exact h x (List.mem_of_getElem? e)
theorem tmod_in (a n : Int) (ha : 0 ≤ a) (hn : 1 ≤ n) : 0 ≤ Int.tmod a n ∧ Int.tmod a n < n := ⟨Int.tmod_nonneg _ ha, by
  rw [Int.tmod_eq_emod_of_nonneg ha]; exact Int.emod_lt_of_pos _ (by omega)⟩
/-- One pick: a number below the bound (0, if the bound is none). -/
theorem pick_ev (l : List Int) (hl : l.length ≤ 2000) (hb : byteL l) (p n : Int) (hp : 0 ≤ p) (hp' : p ≤ 1000000) :
    ∃ v, Ev (fun k => spec_l6Rd_pick.f k l p n) (v, p + 1) ∧ 0 ≤ v ∧ (1 ≤ n → v < n) := by
  unfold spec_l6Rd_pick.f
  rw [wrap_small (a := p + 1) (by omega) (by omega)]
  by_cases h1 : n < 1
  · refine ⟨0, Ev_pos h1 (Ev_end fun k => ?_), by omega, fun h => by omega⟩
    simp only [spec_l6Rd_pick.j0]; rfl
  by_cases h2 : l.length = 0
  · refine ⟨0, Ev_neg h1 (Ev_end fun k => ?_), by omega, fun h => by omega⟩
    have e : (((l.length : Int) == 0) : Bool) = true := by simp [h2]
    rw [e]
    simp only [spec_l6Rd_pick.j0]; rfl
  have e : (((l.length : Int) == 0) : Bool) = false := by rw [beq_eq_false_iff_ne]; omega
  by_cases h3 : p < l.length
  · have q := tmod_in (wrap64 (rd l p)) n (by rw [wrap_small (by have := rd_byte hb p; omega) (by have := rd_byte hb p; omega)]; exact (rd_byte hb p).1) (by omega)
    refine ⟨_, Ev_neg h1 (Ev_end fun k => ?_), q.1, fun _ => q.2⟩
    rw [e]
    simp only [spec_l6Rd_pick.j0]
    rw [wrap_small (a := p + 1 - 1) (by omega) (by omega), show p + 1 - 1 = p by omega, if_neg (by simp), if_pos h3, if_pos hp, if_neg (by omega : ¬ n = 0)]
  · have hL : (1 : Int) ≤ l.length := by omega
    have q1 := tmod_in p l.length hp hL
    have q2 := tmod_in (wrap64 (wrap64 (p * 7) + 3)) l.length (by rw [wrap_small (a := p * 7) (by omega) (by omega), wrap_small (by omega) (by omega)]; omega) hL
    have q3 : 0 ≤ Int.tdiv p l.length ∧ Int.tdiv p l.length ≤ 1000000 := ⟨Int.tdiv_nonneg hp (by omega), by
      rw [Int.tdiv_eq_ediv_of_nonneg hp]
      exact Int.le_trans (Int.ediv_le_self _ hp) hp'⟩
    have b1 := rd_byte hb (Int.tmod p l.length)
    have b2 := rd_byte hb (Int.tmod (wrap64 (wrap64 (p * 7) + 3)) l.length)
    generalize hv : (wrap64 ((wrap64 ((wrap64 ((wrap64 ((wrap64 (rd l (Int.tmod p (l.length : Int)))) * 131)) + (wrap64 ((wrap64 (rd l (Int.tmod (wrap64 ((wrap64 (p * 7)) + 3)) (l.length : Int)))) * 1117)))) + (wrap64 (p * 29)))) + (wrap64 ((wrap64 (Int.tdiv p (l.length : Int))) * 53)))) = x
    have hx : 0 ≤ x ∧ x ≤ 1000000000 := by
      subst hv
      revert b1 b2 q3
      generalize rd l (Int.tmod p (l.length : Int)) = y1
      generalize rd l (Int.tmod (wrap64 ((wrap64 (p * 7)) + 3)) (l.length : Int)) = y2
      generalize Int.tdiv p (l.length : Int) = y3
      intro b1 b2 q3
      simp (disch := omega) only [wrap_small]
      omega
    have q4 : 0 ≤ Int.tdiv x 64 ∧ Int.tdiv x 64 ≤ x := ⟨Int.tdiv_nonneg hx.1 (by omega), by
      rw [Int.tdiv_eq_ediv_of_nonneg hx.1]; exact Int.ediv_le_self _ hx.1⟩
    have q := tmod_in (Go.bits .xor .i64 x (wrap64 (Int.tdiv x 64))) n (by
      rw [wrap_small (a := Int.tdiv x 64) (by omega) (by omega)]
      exact xor_i64_pos _ _ hx.1 (by omega) q4.1 (by omega)) (by omega)
    refine ⟨_, Ev_neg h1 (Ev_end fun k => ?_), q.1, fun _ => q.2⟩
    rw [e]
    simp only [spec_l6Rd_pick.j0]
    rw [wrap_small (a := p + 1 - 1) (by omega) (by omega), show p + 1 - 1 = p by omega, hv, if_neg (by simp), if_neg h3, if_neg (by omega : ¬ (l.length : Int) = 0), if_pos q1.1, if_pos q1.2, if_pos q2.1, if_pos q2.2, if_neg (by omega : ¬ n = 0)]
/-- The reader that is opened. -/
theorem l6Open_ev (l : List Int) (h : byteL l) : ∃ l', spec_l6Open.f l = some (l', 0) ∧ l'.length ≤ 2000 ∧ byteL l' := by
  unfold spec_l6Open.f
  by_cases c : (l.length : Int) > 2000
  · exact ⟨_, by rw [if_pos c, if_pos (by omega)], by simp; omega, fun x hx => h x (List.mem_of_mem_take hx)⟩
  · exact ⟨_, by rw [if_neg c], by omega, h⟩
end Go.Proofs.Ytffkojdmidhchaa.P
end
section
/- The draw of a traverse ends; a list of points is the same as itself. Condition: bytes. -/
namespace Go.Proofs.Ytffkojdmidhchaa.P
open Go.RowKit Go.Proofs.YtffkojdmidhchaaW.PrintWords Go.Proofs.YtffkojdmidhchaaW.PrintLast Go.Proofs.YtffkojdmidhchaaW.PrintMore
set_option linter.unusedVariables false
set_option linter.unusedSimpArgs false

theorem samePoints_loop (l : List S30) (hl : l.length ≤ 1048576) (d : Nat) : ∀ i : Nat, l.length - i = d → i ≤ l.length → Ev (fun k => laws_samePoints.l0 k l l i) true := by
  induction d with
  | zero =>
    intro i hd hi
    refine Ev_end fun k => ?_
    simp only [laws_samePoints.l0]; rw [if_neg (by omega)]
  | succ d ih =>
    intro i hd hi
    refine Ev.step (f := ?f) ?h ?k
    case h => intro k; simp only [laws_samePoints.l0]; exact rfl
    case k =>
      refine Ev_pos (by omega) (Ev_pos (by omega) (Ev_pos (by omega) ?_))
      simp only [beq_self_eq_true, Bool.not_true, Bool.or_self, Bool.false_eq_true, if_false]
      rw [wrap_succ (by omega)]
      exact ih (i + 1) (by omega) (by omega)
theorem samePoints_ev (l : List S30) (hl : l.length ≤ 1048576) : Ev (fun k => laws_samePoints.f k l l) true := by
  unfold laws_samePoints.f
  exact Ev_pos rfl (samePoints_loop l hl l.length 0 (by omega) (by omega))
theorem travel_loop (b : List Int) (hb2 : b.length ≤ 2000) (hb : byteL b) (n : Nat) (hn : 1 ≤ n) (hn6 : n ≤ 6) (d : Nat) : ∀ (i : Nat) (out : List S30) (p : Int), n - i = d → i ≤ n → out.length = i → 0 ≤ p → p ≤ 10 + 2 * i →
    ∃ r : List S30, ∃ q : Int, Ev (fun k => spec_l92Travel.l0 k out n i b p) (r, q) ∧ r.length ≤ 6 := by
  induction d with
  | zero =>
    intro i out p hd hi ho hp0 hp
    obtain ⟨v, hv, v0, v1⟩ := pick_ev b hb2 hb p 40 hp0 (by omega)
    obtain ⟨u, hu, u0, u1⟩ := pick_ev b hb2 hb (p + 1) 2 (by omega) (by omega)
    have u2 := u1 (by omega)
    have step : ∀ r : List S30 × Int, Ev (fun k => (if v = 0 then ((some (([20001, 20000] : List Int) : List Int)).bind fun y706 => ((spec_l6Rd_pick.f k b (p + 1) 2).bind fun bt709 => (if 0 ≤ bt709.1 then (if bt709.1 < (y706.length : Int) then (if 0 < (out.length : Int) then (some ((out.set (0 : Int).toNat (⟨rd y706 bt709.1, (rd_T30 out 0).f1⟩ : S30)), bt709.2)) else (none)) else (none)) else (none)))) else (if v = 1 then (some ((([] : List (S30))), p + 1)) else (if v = 2 then (if 0 ≤ (n : Int) then (if ((n : Int) : Int).toNat ≤ 17592186044416 then (some ((List.replicate ((n : Int) : Int).toNat z30), p + 1)) else (none)) else (none)) else (some (out, p + 1)))))) r → Ev (fun k => spec_l92Travel.l0 k out n i b p) r := by
      intro r h
      refine Ev.step (f := ?f) ?h ?k
      case h => intro k; simp only [spec_l92Travel.l0]; exact rfl
      case k => exact Ev_neg (by omega) (Ev_bind hv h)
    by_cases c0 : v = 0
    · exact ⟨_, _, step _ (Ev_pos c0 (Ev_bind_some (Ev_bind hu (Ev_pos u0 (Ev_pos (by simpa using u2) (Ev_pos (by omega) (Ev_some _))))))), by simp; omega⟩
    · by_cases c1 : v = 1
      · exact ⟨_, _, step _ (Ev_neg c0 (Ev_pos c1 (Ev_some _))), by simp⟩
      · by_cases c2 : v = 2
        · exact ⟨_, _, step _ (Ev_neg c0 (Ev_neg c1 (Ev_pos c2 (Ev_pos (by omega) (Ev_pos (by omega) (Ev_some _)))))), by simp; omega⟩
        · exact ⟨_, _, step _ (Ev_neg c0 (Ev_neg c1 (Ev_neg c2 (Ev_some _)))), by omega⟩
  | succ d ih =>
    intro i out p hd hi ho hp0 hp
    obtain ⟨v, hv, v0, v1⟩ := pick_ev b hb2 hb p 41 hp0 (by omega)
    obtain ⟨u, hu, u0, u1⟩ := pick_ev b hb2 hb (p + 1) 41 (by omega) (by omega)
    obtain ⟨r, q, h, hr⟩ := ih (i + 1) (out ++ [⟨wrap64 (v - 20), wrap64 (u - 20)⟩]) (p + 1 + 1) (by omega) (by omega) (by simp; omega) (by omega) (by omega)
    refine ⟨r, q, ?_, hr⟩
    refine Ev.step (f := ?f2) ?h2 ?k2
    case h2 => intro k; simp only [spec_l92Travel.l0]; exact rfl
    case k2 =>
      refine Ev_pos (by omega) (Ev_bind hv (Ev_bind hu (Ev_pos (by omega) ?_)))
      rw [wrap_succ (by omega)]
      exact h
theorem drawTravelClose_ev (l : List Int) (hb : byteL l) : ∃ r : List S30, Ev (fun k => spec_DrawTravelClose.f k l) r ∧ r.length ≤ 6 := by
  obtain ⟨b, e, hb2, hb'⟩ := l6Open_ev l hb
  obtain ⟨v, hv, v0, v1⟩ := pick_ev b hb2 hb' 0 6 (by omega) (by omega)
  have e2 : wrap64 (1 + v) = ((1 + v).toNat : Int) := by rw [Go.Proofs.Ytffkojdmidhchaa.P.wrap_small (by omega) (by omega)]; omega
  obtain ⟨r, q, h, hr⟩ := travel_loop b hb2 hb' (1 + v).toNat (by omega) (by omega) _ 0 [] (0 + 1) rfl (by omega) rfl (by omega) (by omega)
  refine ⟨r, ?_, hr⟩
  unfold spec_DrawTravelClose.f spec_l92Travel.f
  rw [e]
  have h2 : Ev (fun k => (spec_l6Rd_pick.f k b 0 6).bind fun bt695 => (spec_l92Travel.l0 k (([] : List (S30))) (wrap64 (1 + bt695.1)) 0 b bt695.2)) (r, q) := by
    refine Ev_bind hv ?_
    rw [e2]; exact h
  exact Ev_bind_some (Ev_bind h2 (Ev_some _))
end Go.Proofs.Ytffkojdmidhchaa.P
end
section
/- The law FnTravelClose, over plain functions: a traverse that was closed has the gap 0, closing it again changes nothing, and what was added are shares. No condition. -/
namespace Go.Proofs.Ytffkojdmidhchaa.Pure
open Go.RowKit Go.Proofs.Ytffkojdmidhchaa.P Go.Proofs.YtffkojdmidhchaaW.PrintWords Go.Proofs.YtffkojdmidhchaaW.PrintLast
set_option linter.unusedVariables false
set_option linter.unusedSimpArgs false

theorem within_f (a m : Int) (h0 : 0 ≤ m) (h1 : m ≤ 4000000000000000000) : impl_within.f a m = some (decide (-m ≤ a ∧ a ≤ m)) := by
  unfold impl_within.f; exact wn_f a m h0 h1 _ rfl
/-- Shares of an amount are shares: each is less than 1 away from its part. -/
theorem shareOk_loop (l : List Int) (a : Int) (hs : shareB l a = true) (ha : -1000000 ≤ a ∧ a ≤ 1000000) (d : Nat) : ∀ i : Nat, (shareOf l a).length - i = d → i ≤ (shareOf l a).length →
    Ev (fun k => impl_ShareOk.l0 k l a l.sum ((shareOf l a).take i).sum (shareOf l a) (shareOf l a).length i) true := by
  have hl := shareOf_length l a
  have hs2 := hs
  unfold shareB at hs2
  simp only [Bool.and_eq_true, decide_eq_true_iff] at hs2
  have hlen := lenB_iff.1 hs2.1
  have hss := le_sum l (fun x hx => (hlen.2.2 x hx).1)
  have hsum : l.sum ≤ 200000 := by
    have : ∀ q : List Int, (∀ x ∈ q, 0 ≤ x ∧ x ≤ 10000) → q.sum ≤ 10000 * q.length := by
      intro q
      induction q with
      | nil => intro _; simp
      | cons x q ih =>
        intro h
        have := ih (fun y hy => h y (by simp [hy]))
        have := h x (by simp)
        simp only [List.sum_cons, List.length_cons]; push_cast; omega
    have := this l hlen.2.2
    omega
  have hpart : ∀ i, i ≤ (shareOf l a).length → -1000001 * (i : Int) ≤ ((shareOf l a).take i).sum ∧ ((shareOf l a).take i).sum ≤ 1000001 * i := by
    intro i
    induction i with
    | zero => intro _; simp
    | succ i ih =>
      intro hi
      have h1 := ih (by omega)
      have h2 := shareOf_bound l a 1000000 hs ha i (by omega)
      rw [List.take_succ_eq_append_getElem (by omega), List.sum_append, List.sum_singleton]
      rw [List.getD_eq_getElem?_getD, List.getElem?_eq_getElem (by omega)] at h2
      simp only [Option.getD_some] at h2
      push_cast; omega
  induction d with
  | zero =>
    intro i hd hi
    rw [List.take_of_length_le (by omega), shareOf_sum l a hs]
    refine Ev_end fun k => ?_
    simp only [impl_ShareOk.l0]; rw [if_neg (by omega)]; simp
  | succ d ih =>
    intro i hd hi
    have hlt : i < (shareOf l a).length := by omega
    have hb := shareOf_bound l a 1000000 hs ha i (by omega)
    have hn := shareOf_near l a hs i (by omega)
    have hp := hpart i hi
    have hx := hlen.2.2 _ (mem_getD (S := l) (b := i) (by omega))
    have e1 : rd (shareOf l a) (i : Int) = (shareOf l a).getD i 0 := rd_getD _ _
    have e2 : rd l (i : Int) = l.getD i 0 := rd_getD _ _
    have hmul : -200200000000 ≤ (shareOf l a).getD i 0 * l.sum ∧ (shareOf l a).getD i 0 * l.sum ≤ 200200000000 := by
      have q1 := Int.mul_le_mul_of_nonneg_right hb.1 (show 0 ≤ l.sum by omega)
      have q2 := Int.mul_le_mul_of_nonneg_right hb.2 (show 0 ≤ l.sum by omega)
      omega
    have hmul2 : -10000000000 ≤ a * l.getD i 0 ∧ a * l.getD i 0 ≤ 10000000000 := by
      have q1 := Int.mul_le_mul_of_nonneg_right ha.1 hx.1
      have q2 := Int.mul_le_mul_of_nonneg_right ha.2 hx.1
      omega
    refine Ev.step (f := ?f2) ?h2 ?k2
    case h2 => intro k; simp only [impl_ShareOk.l0]; exact rfl
    case k2 =>
      refine Ev_pos (by omega) (Ev_pos (by omega) (Ev_pos (by omega) ?_))
      rw [e1, e2, within_f _ _ (by omega) (by omega), wsml (a := _ * l.sum) (by omega) (by omega), wsml (a := a * l.getD i 0) (by omega) (by omega), wsml (a := _ - _) (by omega) (by omega), wrap_succ (by omega)]
      refine Ev_bind_some (Ev_pos (by rw [decide_eq_true_iff]; omega) (Ev_pos (by omega) ?_))
      rw [absInt_size _ (by omega) (by omega)]
      refine Ev_bind_some (Ev_neg (by unfold size; split <;> omega) ?_)
      have := ih (i + 1) (by omega) (by omega)
      rw [List.take_succ_eq_append_getElem hlt, List.sum_append, List.sum_singleton] at this
      rw [wsml (a := ((shareOf l a).take i).sum + _) (by omega) (by omega)]
      rw [List.getD_eq_getElem?_getD, List.getElem?_eq_getElem hlt]
      exact this
theorem shareOk_ev (l : List Int) (a : Int) (hs : shareB l a = true) (ha : -1000000 ≤ a ∧ a ≤ 1000000) : Ev (fun k => impl_ShareOk.f k l a (shareOf l a)) true := by
  have hs2 := hs
  unfold shareB at hs2
  simp only [Bool.and_eq_true, decide_eq_true_iff] at hs2
  have hl := shareOf_length l a
  unfold impl_ShareOk.f
  refine Ev_bind (lengthsSum_ev l) ?_
  rw [if_pos hs2.1]
  refine Ev_pos (decide_eq_true hs2.2.1) ?_
  rw [within_f _ _ (by omega) (by omega)]
  refine Ev_bind_some (Ev_pos (by rw [decide_eq_true_iff]; omega) ?_)
  refine Ev.step (f := ?f2) ?h2 ?k2
  case h2 => intro k; simp only [impl_ShareOk.j0]; exact rfl
  case k2 =>
    refine Ev_neg (by rw [hl]; simp) ?_
    have := shareOk_loop l a hs ha _ 0 rfl (by omega)
    simpa using this
theorem mx_size (x : Int) (h1 : -9223372036854775807 ≤ x) (h2 : x ≤ 9223372036854775807) : mx x (wrap64 (-x)) = size x := by
  unfold mx size
  rw [wsml (a := -x) (by omega) (by omega)]
  split <;> split <;> omega
/-- The last test: lengths and differences have been gathered. -/
theorem close_l0 {l c : List S30} {X Y : List Int} {gx gy : Int} (h : Shut1 l c X Y gx gy) (z : List S30) (s : Bool) (hz : s = true → z = c) (d : Nat) : ∀ i : Nat, l.length - i = d → i ≤ l.length →
    Ev (fun k => laws_FnTravelClose.l0 k l c true true z s ((lensOf l).take i) (X.take i) (Y.take i) i 0 0 gx gy) true := by
  have hv := travB_iff.1 h.trav
  have hlX := h.lX
  have hcl : c.length = l.length := by rw [h.hc, closed_length]
  induction d with
  | zero =>
    intro i hd hi
    have hll : (lensOf l).length = l.length := lens_length l
    rw [List.take_of_length_le (by omega), List.take_of_length_le (by omega), List.take_of_length_le (by omega)]
    have bx := h.bx
    have byy := h.byy
    have k1 : Ev (fun k => impl_ShareOk.f k (lensOf l) (wrap64 (-gx)) X) true := by
      rw [wsml (by omega) (by omega), h.hX]; exact shareOk_ev _ _ h.sx (by omega)
    have k2 : Ev (fun k => impl_ShareOk.f k (lensOf l) (wrap64 (-gy)) Y) true := by
      rw [wsml (by omega) (by omega), h.hY]; exact shareOk_ev _ _ h.sy (by omega)
    refine Ev.step (f := ?f1) ?h1 ?k1
    case h1 => intro k; simp only [laws_FnTravelClose.l0]; exact rfl
    case k1 =>
      refine Ev_neg (by omega) (Ev_pos (by simp) (Ev_pos (by simp) (Ev_pos (by simp) ?_)))
      cases s with
      | true =>
        rw [hz rfl]
        refine Ev_pos rfl (Ev_bind (samePoints_ev c (by omega)) (Ev_pos rfl (Ev_bind k1 (Ev_pos rfl (Ev_bind k2 (Ev_some _))))))
      | false => exact Ev_neg (by simp) (Ev_bind k1 (Ev_pos rfl (Ev_bind k2 (Ev_some _))))
  | succ d ih =>
    intro i hd hi
    have hlt : i < l.length := by omega
    have hst := stepOk_iff.1 (hv.2.2 _ (List.getElem_mem hlt))
    have b0 := size_bound l[i].f0 20000 hst.1
    have b1 := size_bound l[i].f1 20000 hst.2
    have hX := h.bX i hlt
    have hY := h.bY i hlt
    refine Ev.step (f := ?f2) ?h2 ?k2
    case h2 => intro k; simp only [laws_FnTravelClose.l0]; exact rfl
    case k2 =>
      refine Ev_pos (by omega) (Ev_pos (by omega) (Ev_pos (by simp [lensOf]; omega) (Ev_pos (by omega) (Ev_pos (by simp; omega) (Ev_pos (by simp; omega) ?_)))))
      rw [h.at i hlt, rd_T30_get hlt, mx_size _ (by omega) (by omega), mx_size _ (by omega) (by omega), wsml (a := size _ + size _) (by omega) (by omega), wrap_succ (by omega)]
      simp only
      rw [wsml (a := l[i].f0 + X.getD i 0 - l[i].f0) (by omega) (by omega), wsml (a := l[i].f1 + Y.getD i 0 - l[i].f1) (by omega) (by omega)]
      have := ih (i + 1) (by omega) (by omega)
      rw [lensOf_take l i hlt, List.take_succ_eq_append_getElem (by omega), List.take_succ_eq_append_getElem (by omega)] at this
      rw [show l[i].f0 + X.getD i 0 - l[i].f0 = X[i] by rw [List.getD_eq_getElem?_getD, List.getElem?_eq_getElem (by omega)]; simp; omega, show l[i].f1 + Y.getD i 0 - l[i].f1 = Y[i] by rw [List.getD_eq_getElem?_getD, List.getElem?_eq_getElem (by omega)]; simp; omega]
      exact this
theorem closeOf_length (l : List S30) (hl : l.length ≤ 6) : (closeOf l).1.length ≤ 6 := by
  unfold closeOf
  split
  · split
    · split
      · simp only [closed_length]; exact hl
      · simp
    · simp
  · simp
theorem FnTravelClose : laws_FnTravelClose.Pure := by
  intro l0 h1 h2 h3
  suffices h : Ev (fun k => laws_FnTravelClose.f k l0) true from ⟨_, h.choose_spec _ (Nat.le_refl _)⟩
  unfold laws_FnTravelClose.f
  by_cases c : (l0.length : Int) > 1048576
  · exact Ev_pos c (Ev_some _)
  refine Ev_neg c ?_
  obtain ⟨t, ht, htl⟩ := drawTravelClose_ev l0 (bytes_of h3)
  have hcl := closeOf_length t htl
  refine Ev_bind ht (Ev_bind (implClose_ev t) (Ev_bind (specClose_ev t (by omega)) ?_))
  rw [bne_self_eq_false]
  refine Ev_neg (by simp) (Ev_bind (samePoints_ev _ (by omega)) (Ev_pos rfl ?_))
  refine Ev.step (f := ?f1) ?h1 ?k1
  case h1 => intro k; simp only [laws_FnTravelClose.j0]; exact rfl
  case k1 =>
    cases hb : (closeOf t).2 with
    | false => exact Ev_pos rfl (Ev_pos (by simp) (Ev_bind (samePoints_ev _ (by omega)) (Ev_some _)))
    | true =>
      obtain ⟨X, Y, gx, gy, h⟩ := closeOf_true t (closeOf t).1 (by rw [← hb])
      refine Ev_neg (by simp) ?_
      have hg := h.gap
      have e1 : impl_TravelGap.f (closeOf t).1 = some (0, 0, true) := by unfold impl_TravelGap.f; rw [if_pos h.ctrav, hg.1, hg.2]
      have e2 : impl_TravelGap.f t = some (gx, gy, true) := by unfold impl_TravelGap.f; rw [if_pos h.trav, h.gapx, h.gapy]
      rw [e1, e2]
      refine Ev_bind_some (Ev_bind_some (Ev_bind (implClose_ev _) ?_))
      have := close_l0 h (closeOf (closeOf t).1).1 (closeOf (closeOf t).1).2 (fun hs => by rcases h.again with e | e <;> rw [e] at hs ⊢; cases hs) _ 0 rfl (by omega)
      simpa using this
end Go.Proofs.Ytffkojdmidhchaa.Pure
end
