/- Parts of the proof of the law FnExactGridTurn: the plain functions, their contracts and the plain law (merged texts of this session, part 2 of 2). -/
import Derived.Test.YtffkojdmidhchaaZFnExactGridTurn1
section
-- written by wip/tools/mkprint.py (a program of this session over the kit's print). Lean checks it.
namespace Go.Proofs.Ytffkojdmidhchaa.P
open Go.RowKit Go.Proofs.YtffkojdmidhchaaW.PrintWords Go.Proofs.YtffkojdmidhchaaW.PrintLast Go.Proofs.YtffkojdmidhchaaW.PrintMore
attribute [local go_sem] max2_int min2_int max_two min_two max_three min_three max_four min_four   -- for this text's walks alone
set_option linter.unusedVariables false
set_option linter.unusedSimpArgs false

/-! ### spec_GridTurn: function 35 -/
mutual
def spec_GridTurn.l0 : Nat → List (List Int) → List (List Int) → Int → Option ((List (List Int)) × Bool)
  | 0, _, _, _ => none
  | k + 1, x0, x4, x5 => if 0 < (x0.length : Int) then (if x5 < ((rd_L7 x0 0).length : Int) then (spec_GridTurn.l1 k x0 x4 x5 (([] : List Int)) 0) else (some (x4, true))) else (none)
def spec_GridTurn.l1 : Nat → List (List Int) → List (List Int) → Int → List Int → Int → Option ((List (List Int)) × Bool)
  | 0, _, _, _, _, _ => none
  | k + 1, x0, x4, x5, x6, x7 => if x7 < (x0.length : Int) then (if 0 ≤ x7 then (if 0 ≤ x5 then (if x5 < ((rd_L7 x0 x7).length : Int) then (if x6.length < 17592186044416 then (spec_GridTurn.l1 k x0 x4 x5 (x6 ++ [rd (rd_L7 x0 x7) x5]) (wrap64 (x7 + 1))) else (none)) else (none)) else (none)) else (none)) else (if x4.length < 5864062014805 then (spec_GridTurn.l0 k x0 (x4 ++ [x6]) (wrap64 (x5 + 1))) else (none))
end
def spec_GridTurn.f (k : Nat) (l0 : List (List Int)) : Option ((List (List Int)) × Bool) := (some (([] : List (List Int)) : List (List Int))).bind fun y112 => ((spec_GridValid.f k l0).bind fun t115 => (if t115 = true then (spec_GridTurn.l0 k l0 y112 0) else (some (y112, false))))
theorem spec_GridTurn.mono_l : ∀ k, (∀ y0 y1 y2, LeO (spec_GridTurn.l0 k y0 y1 y2) (spec_GridTurn.l0 (k + 1) y0 y1 y2)) ∧ (∀ y0 y1 y2 y3 y4, LeO (spec_GridTurn.l1 k y0 y1 y2 y3 y4) (spec_GridTurn.l1 (k + 1) y0 y1 y2 y3 y4))
  | 0 => ⟨fun _ _ _ r h => by simp [spec_GridTurn.l0] at h, fun _ _ _ _ _ r h => by simp [spec_GridTurn.l1] at h⟩
  | k + 1 => by
    obtain ⟨ih0, ih1⟩ := spec_GridTurn.mono_l k
    refine ⟨?_, ?_⟩
    · intro y0 y1 y2
      unfold spec_GridTurn.l0
      repeat' first
      | (with_reducible exact ih0 _ _ _)
      | (with_reducible exact ih1 _ _ _ _ _)
      | (with_reducible exact spec_GridValid.mono _ _)
      | (with_reducible exact LeO.refl _)
      | (with_reducible exact LeO.none _)
      | (with_reducible refine LeO.ite ?_ ?_)
      | (with_reducible refine LeO.bind ?_ (fun _ => ?_))
      | exact ih0 _ _ _
      | exact ih1 _ _ _ _ _
      | exact spec_GridValid.mono _ _
      | exact LeO.none _
      | refine LeO.ite ?_ ?_
      | refine LeO.bind ?_ (fun _ => ?_)
    · intro y0 y1 y2 y3 y4
      unfold spec_GridTurn.l1
      repeat' first
      | (with_reducible exact ih0 _ _ _)
      | (with_reducible exact ih1 _ _ _ _ _)
      | (with_reducible exact spec_GridValid.mono _ _)
      | (with_reducible exact LeO.refl _)
      | (with_reducible exact LeO.none _)
      | (with_reducible refine LeO.ite ?_ ?_)
      | (with_reducible refine LeO.bind ?_ (fun _ => ?_))
      | exact ih0 _ _ _
      | exact ih1 _ _ _ _ _
      | exact spec_GridValid.mono _ _
      | exact LeO.none _
      | refine LeO.ite ?_ ?_
      | refine LeO.bind ?_ (fun _ => ?_)
theorem spec_GridTurn.mono : ∀ a0 k, LeO (spec_GridTurn.f k a0) (spec_GridTurn.f (k + 1) a0) := by
  intro a0 k
  obtain ⟨ih0, ih1⟩ := spec_GridTurn.mono_l k
  unfold spec_GridTurn.f
  repeat' first
      | (with_reducible exact ih0 _ _ _)
      | (with_reducible exact ih1 _ _ _ _ _)
      | (with_reducible exact spec_GridValid.mono _ _)
      | (with_reducible exact LeO.refl _)
      | (with_reducible exact LeO.none _)
      | (with_reducible refine LeO.ite ?_ ?_)
      | (with_reducible refine LeO.bind ?_ (fun _ => ?_))
      | exact ih0 _ _ _
      | exact ih1 _ _ _ _ _
      | exact spec_GridValid.mono _ _
      | exact LeO.none _
      | refine LeO.ite ?_ ?_
      | refine LeO.bind ?_ (fun _ => ?_)
set_option maxHeartbeats 8000000 in
set_option maxRecDepth 100000 in
theorem spec_GridTurn.calls (k : Nat) (A0 : Option Addr) (c0 : Nat) (l0 : List (List Int)) (r1 : List (List Int)) (r2 : Bool) (w : World) (hr0 : Kd.C (Kd.slice 3 (Kd.int .i64)) w A0 l0.length l0) (hc0 : l0.length ≤ c0) (h : spec_GridTurn.f k l0 = some (r1, r2)) :
    Calls Try.prog 35 #[.slice A0 l0.length c0] w fun e w' => ∃ v0_ : Value, e = .returned (.tuple #[v0_, .bool r2]) ∧ Kd.S (Kd.slice 3 (Kd.int .i64)) 62 w' w.heap.size (fun _ => True) v0_ r1 ∧ Below w.heap.size w w' := by
  have HR0 := Aside0.mk hr0
  have HC0 := Aside0.mk hc0
  clear hr0 hc0
  have HB := Aside0.mk (Below.refl w.heap.size w)
  have H : ((some (([] : List (List Int)) : List (List Int))).bind fun y112 => ((spec_GridValid.f k l0).bind fun t115 => (if t115 = true then (spec_GridTurn.l0 k l0 y112 0) else (some (y112, false))))) = some (r1, r2) := h
  clear h
  obtain ⟨y112, hy112⟩ : ∃ y_ : List (List Int), y_ = (([] : List (List Int))) := ⟨_, rfl⟩
  replace H : ((spec_GridValid.f k l0).bind fun t115 => (if t115 = true then (spec_GridTurn.l0 k l0 y112 0) else (some (y112, false)))) = some (r1, r2) := by first | (rw [hy112]; with_reducible exact H) | (have H2_ := (Option.bind_some _ _).symm.trans H; rw [hy112]; with_reducible exact H2_) | (have H2_ := (Option.bind_some _ _).symm.trans H; with_reducible exact H2_) | with_reducible exact H | (rw [hy112]; exact H) | exact H
  have Ny112 := Aside0.mk hy112
  clear hy112
  replace H := Option.bind_eq_some_iff.mp H
  obtain ⟨t115, A20, H⟩ := H
  replace H : (if t115 = true then (spec_GridTurn.l0 k l0 y112 0) else (some (y112, false))) = some (r1, r2) := H
  have A2 := Aside0.mk A20
  clear A20
  by_cases c3 : t115 = true
  · subst c3
    have H1 : (spec_GridTurn.l0 k l0 y112 0) = some (r1, r2) := by rw [if_pos rfl] at H; exact H
    clear H
    have H := H1
    clear H1
    have H' := Aside0.mk H
    clear H
    go_enter Try.func35, Try.ntmps35
    go_wp2_with (first | ((with_reducible refine gate_dst (N := 8) rfl ?_); refine Kd.S_lit (Kd.slice 3 (Kd.int .i64)) _ 62 ?hg (N := 8) ?hd (xs := ([] : List (List Int))) (inner := []) (ok := fun _ => True) (okp := fun _ => True) ?hr ?hp (fun _ hk => hk) trivial (Below.refl _ _) (Nat.le_refl _) (by simp) ?_; (case hd => rfl); (case hg => rfl); (case hr => first | (go_simp; done) | (go_simp; rfl)); (case hp => exact (Reps.none _ _)); intro v113 w4 ho5 hb hg_ hnew_; clear hg_ hnew_; (first | rw [← Ny112.out] at ho5 | (simp only [Int.reduceToNat] at ho5; rw [← Ny112.out] at ho5)); have n0_ := Aside0.mk (Kd.S_lower ho5 (below_size (by repeat (first | (with_reducible first | exact HB.out | apply below_alloc | apply pw_below_drewN | apply below_drew1) | exact HB.out)))); have n1_ := Aside0.mk (below_step (by repeat (first | (with_reducible first | exact HB.out | apply below_alloc | apply pw_below_drewN | apply below_drew1) | exact HB.out)) hb); clear HB; have HO114 := n0_; have HB := n1_; clear n0_ n1_; clear hb ho5) | ((with_reducible refine gate_callee (f := 109) rfl ?_); refine goesL_ (some 10) rfl rfl Try.func109 (by kernel_rfl) rfl #[.slice A0 l0.length c0] rfl (by (try simp only [List.map_toArray, List.map_cons, List.map_nil]); first | done | rfl | (simp only [List.length_drop, List.length_take]; rfl)) ?_; (with_reducible refine (spec_GridValid.calls k _ _ l0 true _ ?side1 ?side2 A2.out).mono ?_); (case side1 => repeat (first | exact (Kd.C_below HR0.out HB.out) | (with_reducible refine Kd.C_alloc ?_ _) | (with_reducible refine Kd.C_drewN ?_ _) | (with_reducible refine Kd.C_drew ?_))); (case side2 => exact HC0.out); rintro e w' ⟨rfl, ⟨nd, rfl⟩⟩; refine ⟨_, rfl, ?_⟩))
    go_loopg [4, 5] k (fun kq v4 v5 w' => ∃ (x4_1 : List (List Int)) (x5_1 : Int), v5 = .int .i64 x5_1 ∧ Aside0 (spec_GridTurn.l0 kq l0 x4_1 x5_1 = some (r1, r2)) ∧ Aside0 (kq ≤ k) ∧ Aside0 (Kd.S (Kd.slice 3 (Kd.int .i64)) 62 w' w.heap.size (fun _ => True) v4 x4_1) ∧ Aside0 (Below w.heap.size w w'))
    case atStart => exact ⟨(y112), (0), (by first | rfl | (simp; done) | (simp [*]; done)), H', ⟨Nat.le_refl _⟩, ⟨by (with_reducible repeat (first | apply Kd.S_alloc | apply Kd.S_drewN | apply Kd.S_drew)); exact HO114.out⟩, ⟨by repeat (first | (with_reducible first | exact HB.out | apply below_alloc | apply pw_below_drewN | apply below_drew1) | exact HB.out)⟩⟩
    case round =>
      clear H'
      try clear c1
      try clear p2
      try clear c3
      obtain ⟨x4_1, x5_1, rfl, HA, HK1, HO_4, HB⟩ := hrel
      cases gk with
      | zero => exact absurd HA.out (by simp [spec_GridTurn.l0])
      | succ k1 =>
        have H := HA.out
        clear HA
        simp only [spec_GridTurn.l0] at H
        by_cases c6 : 0 < (l0.length : Int)
        · rw [if_pos c6] at H
          have c6b0 : decide (0 < (l0.length : Int)) = true := decide_eq_true c6
          have c6b1 : decide (0 < l0.length) = true := decide_eq_true (by omega)
          clear c6
          by_cases c7 : x5_1 < ((rd_L7 l0 0).length : Int)
          · rw [if_pos c7] at H
            have c7b0 : decide (x5_1 < ((rd_L7 l0 0).length : Int)) = true := decide_eq_true c7
            clear c7
            obtain ⟨y117, hy117⟩ : ∃ y_ : List Int, y_ = (([] : List Int)) := ⟨_, rfl⟩
            replace H : (spec_GridTurn.l1 k1 l0 x4_1 x5_1 y117 0) = some (r1, r2) := by first | (rw [hy117]; with_reducible exact H) | (have H2_ := (Option.bind_some _ _).symm.trans H; rw [hy117]; with_reducible exact H2_) | (have H2_ := (Option.bind_some _ _).symm.trans H; with_reducible exact H2_) | with_reducible exact H | (rw [hy117]; exact H) | exact H
            have Ny117 := Aside0.mk hy117
            clear hy117
            have H' := Aside0.mk H
            clear H
            have p116 : 0 ≤ (0 : Int) := (by omega)
            have q116 : 0 < (l0.length : Int) := of_decide_eq_true (by first | (with_reducible assumption) | assumption)
            obtain ⟨ad116, A116_0, c116_0, e116, hx116_0, hl116_0, hi116_0⟩ := at_L7 HR0.out 0 p116 q116
            cases e116
            have qi116 : (0 < l0.length) = True := eq_true (by omega)
            (try rw [show ((0 : Int)).toNat = 0 from rfl] at hx116_0)
            (try rw [Addr.add_zero'] at hx116_0)
            replace hx116_0 := (HB.out.cell (World.block_lt_of_cell? w _ hx116_0)).trans hx116_0
            have HR116_0 := Aside0.mk hi116_0
            have HC116_0 := Aside0.mk hl116_0
            clear hi116_0 hl116_0
            replace p116 := eq_true p116
            replace q116 := eq_true q116
            go_wp2_with (first | ((with_reducible refine gate_dst (N := 21) rfl ?_); refine Kd.R_lit (Kd.int .i64) _ 3 ?hg (N := 21) ?hd (xs := ([] : List Int)) (inner := []) (ok := fun _ => True) (okp := fun _ => True) ?hr ?hp (fun _ hk => hk) trivial (Below.refl _ _) (Nat.le_refl _) (by simp) ?_; (case hd => rfl); (case hg => rfl); (case hr => first | (go_simp; done) | (go_simp; rfl)); (case hp => exact (Reps.none _ _)); intro v118 w8 ho9 hb hg_ hnew_; clear hg_ hnew_; (first | rw [← Ny117.out] at ho9 | (simp only [Int.reduceToNat] at ho9; rw [← Ny117.out] at ho9)); have n0_ := Aside0.mk (Kd.S_elder' (by (with_reducible repeat (first | apply Kd.S_alloc | apply Kd.S_drewN | apply Kd.S_drew)); exact HO_4.out) (Kd.R_base ho9) hb); have n1_ := Aside0.mk (Kd.R_lower ho9 (below_size (by repeat (first | (with_reducible first | exact HB.out | apply below_alloc | apply pw_below_drewN | apply below_drew1) | exact HB.out)))); have n2_ := Aside0.mk (below_step (by repeat (first | (with_reducible first | exact HB.out | apply below_alloc | apply pw_below_drewN | apply below_drew1) | exact HB.out)) hb); clear HO_4; clear HB; have HO_4 := n0_; have HO119 := n1_; have HB := n2_; clear n0_ n1_ n2_; clear hb ho9))
            go_loopg [6, 7] k1 (fun kq v6 v7 w' => ∃ (x6_2 : List Int) (x7_2 : Int), v7 = .int .i64 x7_2 ∧ Aside0 (spec_GridTurn.l1 kq l0 x4_1 x5_1 x6_2 x7_2 = some (r1, r2)) ∧ Aside0 (kq ≤ k1) ∧ Aside0 (Kd.S (Kd.slice 3 (Kd.int .i64)) 62 w' w.heap.size (fun k_ => some k_ ≠ (v6 : Value).ownBlock) u4 x4_1) ∧ Aside0 (Kd.R (Kd.int .i64) 3 w' w.heap.size (fun _ => True) v6 x6_2) ∧ Aside0 (Below w.heap.size w w'))
            case atStart => exact ⟨(y117), (0), (by first | rfl | (simp; done) | (simp [*]; done)), H', ⟨Nat.le_refl _⟩, ⟨by (with_reducible repeat (first | apply Kd.S_alloc | apply Kd.S_drewN | apply Kd.S_drew)); exact Kd.S_mono HO_4.out (fun _ hk => hk.2)⟩, ⟨by (with_reducible repeat (first | apply Kd.R_alloc | apply Kd.R_drewN | apply Kd.R_drew)); exact HO119.out⟩, ⟨by repeat (first | (with_reducible first | exact HB.out | apply below_alloc | apply pw_below_drewN | apply below_drew1) | exact HB.out)⟩⟩
            case round =>
              clear H'
              try clear c1
              try clear p1
              try clear q1
              try clear hx1
              try clear qi1
              try clear p2
              try clear c3
              try clear c6
              try clear c6b0
              try clear c6b1
              try clear c7
              try clear c7b0
              try clear hx116_0
              try clear p116
              try clear p2
              try clear q116
              obtain ⟨x6_2, x7_2, rfl, HA, HK2, HO_4, HO_6, HB⟩ := hrel
              cases gk with
              | zero => exact absurd HA.out (by simp [spec_GridTurn.l1])
              | succ k2 =>
                have H := HA.out
                clear HA
                simp only [spec_GridTurn.l1] at H
                by_cases c10 : x7_2 < (l0.length : Int)
                · rw [if_pos c10] at H
                  have c10b0 : decide (x7_2 < (l0.length : Int)) = true := decide_eq_true c10
                  clear c10
                  by_cases c11 : 0 ≤ x7_2
                  · rw [if_pos c11] at H
                    have c11b0 : decide (0 ≤ x7_2) = true := decide_eq_true c11
                    clear c11
                    by_cases c12 : 0 ≤ x5_1
                    · rw [if_pos c12] at H
                      have c12b0 : decide (0 ≤ x5_1) = true := decide_eq_true c12
                      clear c12
                      by_cases c13 : x5_1 < ((rd_L7 l0 x7_2).length : Int)
                      · rw [if_pos c13] at H
                        have c13b0 : decide (x5_1 < ((rd_L7 l0 x7_2).length : Int)) = true := decide_eq_true c13
                        clear c13
                        by_cases c14 : x6_2.length < 17592186044416
                        · rw [if_pos c14] at H
                          have LMc14 := Aside0.mk c14
                          clear c14
                          obtain ⟨y122, hy122⟩ : ∃ y_ : List Int, y_ = (x6_2 ++ [rd (rd_L7 l0 x7_2) x5_1]) := ⟨_, rfl⟩
                          replace H : (spec_GridTurn.l1 k2 l0 x4_1 x5_1 y122 (wrap64 (x7_2 + 1))) = some (r1, r2) := by first | (rw [hy122]; with_reducible exact H) | (have H2_ := (Option.bind_some _ _).symm.trans H; rw [hy122]; with_reducible exact H2_) | (have H2_ := (Option.bind_some _ _).symm.trans H; with_reducible exact H2_) | with_reducible exact H | (rw [hy122]; exact H) | exact H
                          have Ny122 := Aside0.mk hy122
                          clear hy122
                          have H' := Aside0.mk H
                          clear H
                          have p120 : 0 ≤ (x7_2 : Int) := of_decide_eq_true (by first | (with_reducible assumption) | assumption)
                          have q120 : x7_2 < (l0.length : Int) := of_decide_eq_true (by first | (with_reducible assumption) | assumption)
                          obtain ⟨ad120, A120_0, c120_0, e120, hx120_0, hl120_0, hi120_0⟩ := at_L7 HR0.out x7_2 p120 q120
                          obtain rfl : ad116 = ad120 := (by injection e120)
                          replace hx120_0 := (HB.out.cell (World.block_lt_of_cell? w _ hx120_0)).trans hx120_0
                          have HR120_0 := Aside0.mk hi120_0
                          have HC120_0 := Aside0.mk hl120_0
                          clear hi120_0 hl120_0
                          replace p120 := eq_true p120
                          replace q120 := eq_true q120
                          have p121 : 0 ≤ (x5_1 : Int) := of_decide_eq_true (by first | (with_reducible assumption) | assumption)
                          have q121 : x5_1 < ((rd_L7 l0 x7_2).length : Int) := of_decide_eq_true (by first | (with_reducible assumption) | assumption)
                          obtain ⟨ad121, e121, hx121_0⟩ := Kd.at_int HR120_0.out x5_1 p121 q121
                          cases e121
                          replace hx121_0 := (HB.out.cell (World.block_lt_of_cell? w _ hx121_0)).trans hx121_0
                          replace p121 := eq_true p121
                          replace q121 := eq_true q121
                          go_wp2_with (first | ((with_reducible refine gate_builtin (b := .append) (xs := #[.tmp 28, .tmp 36]) rfl ?_); at_builtin; refine Kd.R_append (Kd.int .i64) (w0 := w) w.heap.size rfl (.tmp 28) (.tmp 36) 62 3 (.int .i64 0) 8 rfl Try.underlying62 info3 rfl (by decide) (by omega) u6 x6_2 (rd (rd_L7 l0 x7_2) x5_1) [.int .i64 (rd (rd_L7 l0 x7_2) x5_1)] (fun _ => True) (fun _ => False) rfl rfl ?aP (fun _ hk => hk.elim) ?aF ?aO ?aB ?aS ?aL ?_; (case aP => exact rfl); (case aB => exact (by repeat (first | (with_reducible first | exact HB.out | apply below_alloc | apply pw_below_drewN | apply below_drew1) | exact HB.out))); (case aF => exact (fun _ _ => trivial)); (case aO => exact (by (with_reducible repeat (first | apply Kd.R_alloc | apply Kd.R_drewN | apply Kd.R_drew)); exact HO_6.out)); (case aS => exact (below_size (by repeat (first | (with_reducible first | exact HB.out | apply below_alloc | apply pw_below_drewN | apply below_drew1) | exact HB.out)))); (case aL => have := LMc14.out; omega); intro v123 w15 ho hb hg hat; rw [← Ny122.out] at ho; have n0_ := Aside0.mk (Kd.S_after (ok := (fun _ => True)) (by (with_reducible repeat (first | apply Kd.S_alloc | apply Kd.S_drewN | apply Kd.S_drew)); exact Kd.S_mono HO_4.out (fun _ hk => ⟨trivial, hk⟩)) hg hat); have n1_ := Aside0.mk (hb); have n2_ := Aside0.mk (ho); clear HO_4; clear HB; clear HO_6; have HO_4 := n0_; have HB := n1_; have HO124 := n2_; clear n0_ n1_ n2_; clear ho hb hg hat))
                          go_roundg k2
                          case measure => have := HK1.out; have := HK2.out; omega
                          case rel => exact ⟨(y122), (wrap64 (x7_2 + 1)), (by first | rfl | (simp; done) | (simp [*]; done)), H', ⟨by have := HK1.out; have := HK2.out; omega⟩, ⟨by (with_reducible repeat (first | apply Kd.S_alloc | apply Kd.S_drewN | apply Kd.S_drew)); exact Kd.S_mono HO_4.out (fun _ hk => hk.2)⟩, ⟨by (with_reducible repeat (first | apply Kd.R_alloc | apply Kd.R_drewN | apply Kd.R_drew)); exact HO124.out⟩, ⟨by repeat (first | (with_reducible first | exact HB.out | apply below_alloc | apply pw_below_drewN | apply below_drew1) | exact HB.out)⟩⟩
                        · rw [if_neg c14] at H
                          exact absurd H (by simp)
                      · rw [if_neg c13] at H
                        exact absurd H (by simp)
                    · rw [if_neg c12] at H
                      exact absurd H (by simp)
                  · rw [if_neg c11] at H
                    exact absurd H (by simp)
                · rw [if_neg c10] at H
                  have c10b0 : decide (x7_2 < (l0.length : Int)) = false := decide_eq_false c10
                  clear c10
                  by_cases c16 : x4_1.length < 5864062014805
                  · rw [if_pos c16] at H
                    have LMc16 := Aside0.mk c16
                    clear c16
                    obtain ⟨y125, hy125⟩ : ∃ y_ : List (List Int), y_ = (x4_1 ++ [x6_2]) := ⟨_, rfl⟩
                    replace H : (spec_GridTurn.l0 k2 l0 y125 (wrap64 (x5_1 + 1))) = some (r1, r2) := by first | (rw [hy125]; with_reducible exact H) | (have H2_ := (Option.bind_some _ _).symm.trans H; rw [hy125]; with_reducible exact H2_) | (have H2_ := (Option.bind_some _ _).symm.trans H; with_reducible exact H2_) | with_reducible exact H | (rw [hy125]; exact H) | exact H
                    have Ny125 := Aside0.mk hy125
                    clear hy125
                    have H' := Aside0.mk H
                    clear H
                    obtain ⟨Ao18, co18, eo18⟩ := Kd.R_slice HO_6.out
                    subst eo18
                    go_wp2_with (first | ((with_reducible refine gate_builtin (b := .append) (xs := #[.tmp 38, .tmp 40]) rfl ?_); at_builtin; refine Kd.S_append (Kd.slice 3 (Kd.int .i64)) (w0 := w) w.heap.size rfl (.tmp 38) (.tmp 40) 49 62 (.slice none 0 0) 24 rfl Try.underlying49 info62 rfl (by decide) (by omega) u4 x4_1 x6_2 [.slice Ao18 x6_2.length co18] (fun _ => True) (fun k_ => some k_ = (.slice Ao18 x6_2.length co18 : Value).ownBlock) rfl rfl ?aP (fun k_ hk_ => ((Kd.R_mono (ok' := fun k_ => ((fun _ => True)) k_ ∧ some k_ ≠ (u4 : Value).ownBlock) (Kd.R_apart' (HO_6.out) (Kd.S_typed HO_4.out) (by decide)) (fun k_ hk => ⟨trivial, hk.2⟩))).1 k_ hk_.symm) ?aF ?aO ?aB ?aS ?aL ?_; (case aP => exact Kd.M_row (Kd.R_mono (Kd.R_tight rfl (Kd.R_mono (ok' := fun k_ => ((fun _ => True)) k_ ∧ some k_ ≠ (u4 : Value).ownBlock) (Kd.R_apart' (HO_6.out) (Kd.S_typed HO_4.out) (by decide)) (fun k_ hk => ⟨trivial, hk.2⟩))) (fun _ h_ => h_))); (case aB => exact (by repeat (first | (with_reducible first | exact HB.out | apply below_alloc | apply pw_below_drewN | apply below_drew1) | exact HB.out))); (case aF => exact (fun _ _ => trivial)); (case aO => exact (by (with_reducible repeat (first | apply Kd.S_alloc | apply Kd.S_drewN | apply Kd.S_drew)); exact Kd.S_mono HO_4.out (fun k_ hk => ⟨trivial, fun e_ => hk e_⟩))); (case aS => exact (below_size (by repeat (first | (with_reducible first | exact HB.out | apply below_alloc | apply pw_below_drewN | apply below_drew1) | exact HB.out)))); (case aL => have := LMc16.out; omega); intro v126 w17 ho hb hg hat; rw [← Ny125.out] at ho; have n0_ := Aside0.mk (hb); have n1_ := Aside0.mk (ho); clear HB; clear HO_4; clear HO_6; have HB := n0_; have HO127 := n1_; clear n0_ n1_; clear ho hb hg hat))
                    go_roundg k2
                    case measure => have := HK1.out; have := HK2.out; omega
                    case rel => exact ⟨(y125), (wrap64 (x5_1 + 1)), (by first | rfl | (simp; done) | (simp [*]; done)), H', ⟨by have := HK1.out; have := HK2.out; omega⟩, ⟨by (with_reducible repeat (first | apply Kd.S_alloc | apply Kd.S_drewN | apply Kd.S_drew)); exact HO127.out⟩, ⟨by repeat (first | (with_reducible first | exact HB.out | apply below_alloc | apply pw_below_drewN | apply below_drew1) | exact HB.out)⟩⟩
                  · rw [if_neg c16] at H
                    exact absurd H (by simp)
          · rw [if_neg c7] at H
            have c7b0 : decide (x5_1 < ((rd_L7 l0 0).length : Int)) = false := decide_eq_false c7
            clear c7
            simp only [Option.some.injEq, Prod.mk.injEq] at H
            obtain ⟨rfl, rfl⟩ := H
            have p116 : 0 ≤ (0 : Int) := (by omega)
            have q116 : 0 < (l0.length : Int) := of_decide_eq_true (by first | (with_reducible assumption) | assumption)
            obtain ⟨ad116, A116_0, c116_0, e116, hx116_0, hl116_0, hi116_0⟩ := at_L7 HR0.out 0 p116 q116
            cases e116
            have qi116 : (0 < l0.length) = True := eq_true (by omega)
            (try rw [show ((0 : Int)).toNat = 0 from rfl] at hx116_0)
            (try rw [Addr.add_zero'] at hx116_0)
            replace hx116_0 := (HB.out.cell (World.block_lt_of_cell? w _ hx116_0)).trans hx116_0
            have HR116_0 := Aside0.mk hi116_0
            have HC116_0 := Aside0.mk hl116_0
            clear hi116_0 hl116_0
            replace p116 := eq_true p116
            replace q116 := eq_true q116
            go_wp2
            go_ret2
            exact ⟨_, by first | rfl | (simp [errW_none, errW_some] <;> rfl) | (simp [*, errW_none, errW_some] <;> rfl), by (with_reducible repeat (first | apply Kd.S_alloc | apply Kd.S_drewN | apply Kd.S_drew)); exact HO_4.out, by repeat (first | (with_reducible first | exact HB.out | apply below_alloc | apply pw_below_drewN | apply below_drew1) | exact HB.out)⟩
        · rw [if_neg c6] at H
          exact absurd H (by simp)
  · replace c3 := Bool.eq_false_iff.mpr c3
    subst c3
    have H1 : (some (y112, false)) = some (r1, r2) := by rw [if_neg (show ¬ (false = true) by decide)] at H; exact H
    clear H
    have H := H1
    clear H1
    simp only [Option.some.injEq, Prod.mk.injEq] at H
    obtain ⟨rfl, rfl⟩ := H
    go_enter Try.func35, Try.ntmps35
    go_wp2_with (first | ((with_reducible refine gate_dst (N := 8) rfl ?_); refine Kd.S_lit (Kd.slice 3 (Kd.int .i64)) _ 62 ?hg (N := 8) ?hd (xs := ([] : List (List Int))) (inner := []) (ok := fun _ => True) (okp := fun _ => True) ?hr ?hp (fun _ hk => hk) trivial (Below.refl _ _) (Nat.le_refl _) (by simp) ?_; (case hd => rfl); (case hg => rfl); (case hr => first | (go_simp; done) | (go_simp; rfl)); (case hp => exact (Reps.none _ _)); intro v113 w19 ho20 hb hg_ hnew_; clear hg_ hnew_; (first | rw [← Ny112.out] at ho20 | (simp only [Int.reduceToNat] at ho20; rw [← Ny112.out] at ho20)); have n0_ := Aside0.mk (Kd.S_lower ho20 (below_size (by repeat (first | (with_reducible first | exact HB.out | apply below_alloc | apply pw_below_drewN | apply below_drew1) | exact HB.out)))); have n1_ := Aside0.mk (below_step (by repeat (first | (with_reducible first | exact HB.out | apply below_alloc | apply pw_below_drewN | apply below_drew1) | exact HB.out)) hb); clear HB; have HO114 := n0_; have HB := n1_; clear n0_ n1_; clear hb ho20) | ((with_reducible refine gate_callee (f := 109) rfl ?_); refine goesL_ (some 10) rfl rfl Try.func109 (by kernel_rfl) rfl #[.slice A0 l0.length c0] rfl (by (try simp only [List.map_toArray, List.map_cons, List.map_nil]); first | done | rfl | (simp only [List.length_drop, List.length_take]; rfl)) ?_; (with_reducible refine (spec_GridValid.calls k _ _ l0 false _ ?side1 ?side2 A2.out).mono ?_); (case side1 => repeat (first | exact (Kd.C_below HR0.out HB.out) | (with_reducible refine Kd.C_alloc ?_ _) | (with_reducible refine Kd.C_drewN ?_ _) | (with_reducible refine Kd.C_drew ?_))); (case side2 => exact HC0.out); rintro e w' ⟨rfl, ⟨nd, rfl⟩⟩; refine ⟨_, rfl, ?_⟩))
    go_ret2
    exact ⟨_, by first | rfl | (simp [errW_none, errW_some] <;> rfl) | (simp [*, errW_none, errW_some] <;> rfl), by (with_reducible repeat (first | apply Kd.S_alloc | apply Kd.S_drewN | apply Kd.S_drew)); exact HO114.out, by repeat (first | (with_reducible first | exact HB.out | apply below_alloc | apply pw_below_drewN | apply below_drew1) | exact HB.out)⟩

end Go.Proofs.Ytffkojdmidhchaa.P
end
section
-- written by wip/tools/mkprint.py (a program of this session over the kit's print). Lean checks it.
namespace Go.Proofs.Ytffkojdmidhchaa.P
open Go.RowKit Go.Proofs.YtffkojdmidhchaaW.PrintWords Go.Proofs.YtffkojdmidhchaaW.PrintLast Go.Proofs.YtffkojdmidhchaaW.PrintMore
attribute [local go_sem] max2_int min2_int max_two min_two max_three min_three max_four min_four   -- for this text's walks alone
set_option linter.unusedVariables false
set_option linter.unusedSimpArgs false

/-! ### laws_toIntSS: function 36 -/
def laws_toIntSS.l0 : Nat → List (List Int) → List (List Int) → Int → Option ((List (List Int)))
  | 0, _, _, _ => none
  | k + 1, x0, x3, x4 => if x4 < (x0.length : Int) then (if 0 ≤ x4 then ((laws_toIntS.f k (rd_L7 x0 x4)).bind fun t137 => (if x4 < (x3.length : Int) then (laws_toIntSS.l0 k x0 (x3.set (x4 : Int).toNat t137) (wrap64 (x4 + 1))) else (none))) else (none)) else (some x3)
def laws_toIntSS.f (k : Nat) (l0 : List (List Int)) : Option ((List (List Int))) := if 0 ≤ (l0.length : Int) then (if ((l0.length : Int) : Int).toNat ≤ 11728124029610 then (laws_toIntSS.l0 k l0 (List.replicate ((l0.length : Int) : Int).toNat []) 0) else (none)) else (none)
theorem laws_toIntSS.mono_l : ∀ k, (∀ y0 y1 y2, LeO (laws_toIntSS.l0 k y0 y1 y2) (laws_toIntSS.l0 (k + 1) y0 y1 y2))
  | 0 => fun _ _ _ r h => by simp [laws_toIntSS.l0] at h
  | k + 1 => by
    have ih0 := laws_toIntSS.mono_l k
    · intro y0 y1 y2
      unfold laws_toIntSS.l0
      repeat' first
      | (with_reducible exact ih0 _ _ _)
      | (with_reducible exact laws_toIntS.mono _ _)
      | (with_reducible exact LeO.refl _)
      | (with_reducible exact LeO.none _)
      | (with_reducible refine LeO.ite ?_ ?_)
      | (with_reducible refine LeO.bind ?_ (fun _ => ?_))
      | exact ih0 _ _ _
      | exact laws_toIntS.mono _ _
      | exact LeO.none _
      | refine LeO.ite ?_ ?_
      | refine LeO.bind ?_ (fun _ => ?_)
theorem laws_toIntSS.mono : ∀ a0 k, LeO (laws_toIntSS.f k a0) (laws_toIntSS.f (k + 1) a0) := by
  intro a0 k
  have ih0 := laws_toIntSS.mono_l k
  unfold laws_toIntSS.f
  repeat' first
      | (with_reducible exact ih0 _ _ _)
      | (with_reducible exact laws_toIntS.mono _ _)
      | (with_reducible exact LeO.refl _)
      | (with_reducible exact LeO.none _)
      | (with_reducible refine LeO.ite ?_ ?_)
      | (with_reducible refine LeO.bind ?_ (fun _ => ?_))
      | exact ih0 _ _ _
      | exact laws_toIntS.mono _ _
      | exact LeO.none _
      | refine LeO.ite ?_ ?_
      | refine LeO.bind ?_ (fun _ => ?_)
set_option maxHeartbeats 8000000 in
set_option maxRecDepth 100000 in
theorem laws_toIntSS.calls (k : Nat) (A0 : Option Addr) (c0 : Nat) (l0 : List (List Int)) (r : List (List Int)) (w : World) (hr0 : Kd.C (Kd.slice 3 (Kd.int .i64)) w A0 l0.length l0) (hc0 : l0.length ≤ c0) (h : laws_toIntSS.f k l0 = some r) :
    Calls Try.prog 36 #[.slice A0 l0.length c0] w fun e w' => ∃ v0_ : Value, e = .returned (v0_) ∧ Kd.S (Kd.slice 3 (Kd.int .i64)) 62 w' w.heap.size (fun _ => True) v0_ r ∧ Below w.heap.size w w' := by
  have HR0 := Aside0.mk hr0
  have HC0 := Aside0.mk hc0
  clear hr0 hc0
  have HB := Aside0.mk (Below.refl w.heap.size w)
  have H : (if 0 ≤ (l0.length : Int) then (if ((l0.length : Int) : Int).toNat ≤ 11728124029610 then (laws_toIntSS.l0 k l0 (List.replicate ((l0.length : Int) : Int).toNat []) 0) else (none)) else (none)) = some r := h
  clear h
  by_cases c2 : 0 ≤ (l0.length : Int)
  · rw [if_pos c2] at H
    have c2b0 := eq_true c2
    have c2b1 : decide (0 ≤ (l0.length : Int)) = true := decide_eq_true c2
    clear c2
    by_cases c3 : ((l0.length : Int) : Int).toNat ≤ 11728124029610
    · rw [if_pos c3] at H
      have c3b0 := eq_true c3
      have c3b1 : decide (((l0.length : Int) : Int).toNat ≤ 11728124029610) = true := decide_eq_true c3
      clear c3
      obtain ⟨y133, hy133⟩ : ∃ y_ : List (List Int), y_ = (List.replicate ((l0.length : Int) : Int).toNat []) := ⟨_, rfl⟩
      replace H : (laws_toIntSS.l0 k l0 y133 0) = some r := by first | (rw [hy133]; with_reducible exact H) | (have H2_ := (Option.bind_some _ _).symm.trans H; rw [hy133]; with_reducible exact H2_) | (have H2_ := (Option.bind_some _ _).symm.trans H; with_reducible exact H2_) | with_reducible exact H | (rw [hy133]; exact H) | exact H
      have Ny133 := Aside0.mk hy133
      clear hy133
      have H' := Aside0.mk H
      clear H
      go_enter Try.func36, Try.ntmps36
      go_wp2_with (first | ((with_reducible refine gate_dst (N := 7) rfl ?_); refine Kd.S_make (Kd.slice 3 (Kd.int .i64)) _ 62 rfl (N := 7) rfl 49 _ _ rfl (l0.length : Int) rfl rfl Try.underlying49 (.slice none 0 0) 24 info62 rfl (by decide) (by omega) [] (ok := fun _ => True) (okp := fun _ => True) ⟨_, rfl, Kd.R_nil _ _ _ _ _⟩ (fun _ hk => hk) trivial (of_decide_eq_true (by first | (with_reducible assumption) | assumption)) (Nat.le_trans (Nat.mul_le_mul_right _ (of_decide_eq_true (by first | (with_reducible assumption) | assumption) : (l0.length : Int).toNat ≤ 11728124029610)) (by omega)) (Below.refl _ _) (Nat.le_refl _) ?_; intro v134 w4 ho5 hb hg_ hnew_; clear hg_ hnew_; (first | rw [← Ny133.out] at ho5 | (simp only [Int.reduceToNat] at ho5; rw [← Ny133.out] at ho5)); have n0_ := Aside0.mk (Kd.S_lower ho5 (below_size (by repeat (first | (with_reducible first | exact HB.out | apply below_alloc | apply pw_below_drewN | apply below_drew1) | exact HB.out)))); have n1_ := Aside0.mk (below_step (by repeat (first | (with_reducible first | exact HB.out | apply below_alloc | apply pw_below_drewN | apply below_drew1) | exact HB.out)) hb); clear HB; have HO135 := n0_; have HB := n1_; clear n0_ n1_; clear hb ho5))
      go_loopg [4] k (fun kq v4 w' => ∃ (x3_1 : List (List Int)) (x4_1 : Int), v4 = .int .i64 x4_1 ∧ Aside0 (laws_toIntSS.l0 kq l0 x3_1 x4_1 = some r) ∧ Aside0 (kq ≤ k) ∧ Aside0 (Kd.S (Kd.slice 3 (Kd.int .i64)) 62 w' w.heap.size (fun _ => True) v134 x3_1) ∧ Aside0 (Below w.heap.size w w'))
      case atStart => exact ⟨(y133), (0), (by first | rfl | (simp; done) | (simp [*]; done)), H', ⟨Nat.le_refl _⟩, ⟨by (with_reducible repeat (first | apply Kd.S_alloc | apply Kd.S_drewN | apply Kd.S_drew)); exact HO135.out⟩, ⟨by repeat (first | (with_reducible first | exact HB.out | apply below_alloc | apply pw_below_drewN | apply below_drew1) | exact HB.out)⟩⟩
      case round =>
        clear H'
        try clear c2
        try clear c2b0
        try clear c2b1
        try clear p2
        try clear c3
        try clear c3b0
        try clear c3b1
        obtain ⟨x3_1, x4_1, rfl, HA, HK1, HO_3, HB⟩ := hrel
        cases gk with
        | zero => exact absurd HA.out (by simp [laws_toIntSS.l0])
        | succ k1 =>
          have H := HA.out
          clear HA
          simp only [laws_toIntSS.l0] at H
          by_cases c6 : x4_1 < (l0.length : Int)
          · rw [if_pos c6] at H
            have c6b0 : decide (x4_1 < (l0.length : Int)) = true := decide_eq_true c6
            clear c6
            by_cases c7 : 0 ≤ x4_1
            · rw [if_pos c7] at H
              have c7b0 : decide (0 ≤ x4_1) = true := decide_eq_true c7
              clear c7
              replace H := Option.bind_eq_some_iff.mp H
              obtain ⟨t137, A80, H⟩ := H
              replace H : (if x4_1 < (x3_1.length : Int) then (laws_toIntSS.l0 k1 l0 (x3_1.set (x4_1 : Int).toNat t137) (wrap64 (x4_1 + 1))) else (none)) = some r := H
              have A8 := Aside0.mk A80
              clear A80
              by_cases c9 : x4_1 < (x3_1.length : Int)
              · rw [if_pos c9] at H
                have c9b0 : decide (x4_1 < (x3_1.length : Int)) = true := decide_eq_true c9
                clear c9
                obtain ⟨y140, hy140⟩ : ∃ y_ : List (List Int), y_ = (x3_1.set (x4_1 : Int).toNat t137) := ⟨_, rfl⟩
                replace H : (laws_toIntSS.l0 k1 l0 y140 (wrap64 (x4_1 + 1))) = some r := by first | (rw [hy140]; with_reducible exact H) | (have H2_ := (Option.bind_some _ _).symm.trans H; rw [hy140]; with_reducible exact H2_) | (have H2_ := (Option.bind_some _ _).symm.trans H; with_reducible exact H2_) | with_reducible exact H | (rw [hy140]; exact H) | exact H
                have Ny140 := Aside0.mk hy140
                clear hy140
                have H' := Aside0.mk H
                clear H
                have p136 : 0 ≤ (x4_1 : Int) := of_decide_eq_true (by first | (with_reducible assumption) | assumption)
                have q136 : x4_1 < (l0.length : Int) := of_decide_eq_true (by first | (with_reducible assumption) | assumption)
                obtain ⟨ad136, A136_0, c136_0, e136, hx136_0, hl136_0, hi136_0⟩ := at_L7 HR0.out x4_1 p136 q136
                cases e136
                replace hx136_0 := (HB.out.cell (World.block_lt_of_cell? w _ hx136_0)).trans hx136_0
                have HR136_0 := Aside0.mk hi136_0
                have HC136_0 := Aside0.mk hl136_0
                clear hi136_0 hl136_0
                replace p136 := eq_true p136
                replace q136 := eq_true q136
                go_wp2_with (first | ((with_reducible refine gate_callee (f := 46) rfl ?_); refine goesL_ (some 20) rfl rfl Try.func46 (by kernel_rfl) rfl #[.slice A136_0 (rd_L7 l0 x4_1).length c136_0] rfl (by (try simp only [List.map_toArray, List.map_cons, List.map_nil]); first | done | rfl | (simp only [List.length_drop, List.length_take]; rfl)) ?_; (with_reducible refine (laws_toIntS.calls k1 _ _ (rd_L7 l0 x4_1) t137 _ ?side1 ?side2 A8.out).mono ?_); (case side1 => repeat (first | exact (Kd.C_below HR136_0.out HB.out) | (with_reducible refine Kd.C_alloc ?_ _) | (with_reducible refine Kd.C_drewN ?_ _) | (with_reducible refine Kd.C_drew ?_))); (case side2 => exact HC136_0.out); rintro e w11 ⟨v138, rfl, ho0, hb⟩; refine ⟨_, rfl, ?_⟩; have n0_ := Aside0.mk (Kd.S_elder' (by (with_reducible repeat (first | apply Kd.S_alloc | apply Kd.S_drewN | apply Kd.S_drew)); exact HO_3.out) (Kd.R_base ho0) hb); have n1_ := Aside0.mk (Kd.R_lower ho0 (below_size (by repeat (first | (with_reducible first | exact HB.out | apply below_alloc | apply pw_below_drewN | apply below_drew1) | exact HB.out)))); have n2_ := Aside0.mk (below_step (by repeat (first | (with_reducible first | exact HB.out | apply below_alloc | apply pw_below_drewN | apply below_drew1) | exact HB.out)) hb); clear HO_3; clear HB; have HO_3 := n0_; have HO139 := n1_; have HB := n2_; clear n0_ n1_ n2_; (try clear hb); (try clear hb2); (try clear hk); (try clear hi); (try clear ho0); have p10 : 0 ≤ (x4_1 : Int) := of_decide_eq_true (by first | (with_reducible assumption) | assumption); have q10 : (x4_1 : Int) < ((x3_1.length : Int) : Int) := of_decide_eq_true (by first | (with_reducible assumption) | assumption); obtain ⟨go10, co10, eo10, gb10, gl10, cl10, HG10⟩ := Kd.S_form HO_3.out (by omega); (first | cases eo10 | (injection eo10 with ea_ en_ ec_; (first | subst ea_ | (injection ea_ with ea_; subst ea_)); subst ec_; clear en_)); have GB10 := Aside0.mk gb10; have GG10 := Aside0.mk HG10; clear gb10 gl10 HG10; obtain ⟨_, ce10, hcl10, hM10, hcc10, hfr10, _, _⟩ := Kd.S_elem HO_3.out [] (x4_1 : Int) p10 q10; obtain ⟨ve10_0, rfl, ge10_0⟩ := hM10; have hx10_0 := hcc10 0 _ rfl; have hf10_0 := hfr10 0; (try simp only [show ((Kd.slice 3 (Kd.int .i64))).sz = 1 from rfl, Nat.mul_one, Nat.add_zero] at hx10_0); (try simp only [show ((Kd.slice 3 (Kd.int .i64))).sz = 1 from rfl, Nat.mul_one, Nat.add_zero] at hf10_0); clear hcl10 hcc10 hfr10; (try clear hM10); replace p10 := eq_true p10; replace q10 := eq_true q10; have n_ := Aside0.mk (Kd.S_mono (ok' := (fun k_ => some k_ ≠ (v138 : Value).ownBlock)) HO_3.out (fun k_ hk => hk.2)); clear HO_3; have HO_3 := n_; clear n_; have HX12 := Aside0.mk (show Kd.S (Kd.slice 3 (Kd.int .i64)) 62 w11 w.heap.size (fun k_ => ((fun _ => True)) k_ ∧ ¬ ((fun k_ => some k_ = (v138 : Value).ownBlock)) k_) (.slice (some ⟨go10, 0, none⟩) x3_1.length co10) x3_1 from (by (with_reducible repeat (first | apply Kd.S_alloc | apply Kd.S_drewN | apply Kd.S_drew)); exact Kd.S_mono HO_3.out (fun k_ hk => ⟨trivial, fun e_ => hk e_⟩))); obtain ⟨oki12, ce12, hcl12, hM12, hcc12, hfr12, hoki12, hH12⟩ := Kd.S_elem HX12.out [] (x4_1 : Int) (of_decide_eq_true (by first | (with_reducible assumption) | assumption)) (by have h_ : (x4_1 : Int) < ((x3_1.length : Int) : Int) := of_decide_eq_true (by first | (with_reducible assumption) | assumption); first | exact h_ | (have e_ := (Kd.S_reads' HO_3.out).1; omega) | simpa using h_); obtain ⟨ve12_0, rfl, ge12_0⟩ := hM12; have HP12 := Kd.S_seg hH12 (of_decide_eq_true (by first | (with_reducible assumption) | assumption)) (by have h_ : (x4_1 : Int) < ((x3_1.length : Int) : Int) := of_decide_eq_true (by first | (with_reducible assumption) | assumption); first | exact h_ | (have e_ := (Kd.S_reads' HO_3.out).1; omega) | simpa using h_) (seg := [v138]) (j := 0) (show 1 ≤ 1 from by decide) (x' := t137) (Kd.M_row (Kd.R_mono (Kd.R_tight rfl (Kd.R_mono (ok' := fun k_ => ((fun _ => True)) k_ ∧ k_ ≠ go10) (Kd.R_apart' (HO139.out) (Kd.S_typed HO_3.out) (by decide)) (fun k_ hk => ⟨trivial, fun e_ => (hk.2) (by rw [e_]; rfl)⟩))) (fun _ h_ => Or.inr (h_)))) (fun _ hk => hk) (fun k_ hk_ => ((Kd.R_mono (ok' := fun k_ => ((fun _ => True)) k_ ∧ k_ ≠ go10) (Kd.R_apart' (HO139.out) (Kd.S_typed HO_3.out) (by decide)) (fun k_ hk => ⟨trivial, fun e_ => (hk.2) (by rw [e_]; rfl)⟩))).1 k_ hk_.symm); have hx12_0 := hcc12 0 _ rfl; (try simp only [show ((Kd.slice 3 (Kd.int .i64))).sz = 1 from rfl, Nat.mul_one, Nat.add_zero] at hx12_0); have hf12_0 := hfr12 0; (try simp only [show ((Kd.slice 3 (Kd.int .i64))).sz = 1 from rfl, Nat.mul_one, Nat.add_zero] at hf12_0); clear hcl12 hcc12 hfr12; (try clear hM12); clear hoki12 hH12; (try simp only [show ((Kd.slice 3 (Kd.int .i64))).sz = 1 from rfl, Nat.mul_one, Nat.add_zero] at HP12)) | ((with_reducible refine gate_store (t := 62) (p := 21) rfl ?_); refine store_event (t := 62) (p := 21) (v := ?vo_w13) (w1 := (w11.setCell ⟨go10, (x4_1 : Int).toNat, none⟩ (v138))) ?hg ?ho ?hn ?hr ?_; (case ho => rfl); (case hg => rfl); (case hn => rfl); (case hr => first | (go_simp; done) | (go_simp; rfl) | (obtain ⟨_, _, e_⟩ := Kd.R_slice HO139.out; rw [e_]; go_simp; done)); intro w13 hw; have hg : w11.grownBy w13 (some go10) := (by rw [hw]; exact HP12.2); have hp_ : Kd.S (Kd.slice 3 (Kd.int .i64)) 62 w13 w.heap.size (fun _ => True) (.slice (some ⟨go10, 0, none⟩) x3_1.length co10) y140 := (by rw [hw, Ny140.out]; exact HP12.1); clear HP12; have n0_ := Aside0.mk (hp_); have n1_ := Aside0.mk ((by rw [hw]; exact below_set (HB.out) GB10.out : Below w.heap.size w w13)); clear HO_3; clear HB; clear HO139; have HO_3 := n0_; have HB := n1_; clear n0_ n1_; clear hg hw hp_))
                go_roundg k1
                case measure => have := HK1.out; omega
                case rel => exact ⟨(y140), (wrap64 (x4_1 + 1)), (by first | rfl | (simp; done) | (simp [*]; done)), H', ⟨by have := HK1.out; omega⟩, ⟨by (with_reducible repeat (first | apply Kd.S_alloc | apply Kd.S_drewN | apply Kd.S_drew)); exact HO_3.out⟩, ⟨by repeat (first | (with_reducible first | exact HB.out | apply below_alloc | apply pw_below_drewN | apply below_drew1) | exact HB.out)⟩⟩
              · rw [if_neg c9] at H
                exact absurd H (by simp)
            · rw [if_neg c7] at H
              exact absurd H (by simp)
          · rw [if_neg c6] at H
            have c6b0 : decide (x4_1 < (l0.length : Int)) = false := decide_eq_false c6
            clear c6
            obtain rfl := Option.some.inj H
            go_wp2
            go_ret
            exact ⟨_, by first | rfl | (simp [errW_none, errW_some] <;> rfl) | (simp [*, errW_none, errW_some] <;> rfl), by (with_reducible repeat (first | apply Kd.S_alloc | apply Kd.S_drewN | apply Kd.S_drew)); exact HO_3.out, by repeat (first | (with_reducible first | exact HB.out | apply below_alloc | apply pw_below_drewN | apply below_drew1) | exact HB.out)⟩
    · rw [if_neg c3] at H
      exact absurd H (by simp)
  · rw [if_neg c2] at H
    exact absurd H (by simp)

end Go.Proofs.Ytffkojdmidhchaa.P
end
section
-- written by wip/tools/mkprint.py (a program of this session over the kit's print). Lean checks it.
namespace Go.Proofs.Ytffkojdmidhchaa.P
open Go.RowKit Go.Proofs.YtffkojdmidhchaaW.PrintWords Go.Proofs.YtffkojdmidhchaaW.PrintLast Go.Proofs.YtffkojdmidhchaaW.PrintMore
attribute [local go_sem] max2_int min2_int max_two min_two max_three min_three max_four min_four   -- for this text's walks alone
set_option linter.unusedVariables false
set_option linter.unusedSimpArgs false

/-! ### impl_GridTurn: function 37 -/
mutual
def impl_GridTurn.l0 : Nat → List (List Int) → List (List Int) → Int → Int → Option ((List (List Int)) × Bool)
  | 0, _, _, _, _ => none
  | k + 1, x0, x4, x20, x21 => if x21 < x20 then (if 0 ≤ (x0.length : Int) then (if ((x0.length : Int) : Int).toNat ≤ 35184372088832 then (impl_GridTurn.l1 k x0 x4 x21 (([] : List Int)) x20 x21 (x0.length : Int) 0) else (none)) else (none)) else (some (x4, true))
def impl_GridTurn.l1 : Nat → List (List Int) → List (List Int) → Int → List Int → Int → Int → Int → Int → Option ((List (List Int)) × Bool)
  | 0, _, _, _, _, _, _, _, _ => none
  | k + 1, x0, x4, x5, x6, x20, x21, x28, x29 => if x29 < x28 then (if 0 ≤ x29 then (if x29 < (x0.length : Int) then (if 0 ≤ x5 then (if x5 < ((rd_L7 x0 x29).length : Int) then (if x6.length < 17592186044416 then (impl_GridTurn.l1 k x0 x4 x5 (x6 ++ [rd (rd_L7 x0 x29) x5]) x20 x21 x28 (wrap64 (x29 + 1))) else (none)) else (none)) else (none)) else (none)) else (none)) else (if x4.length < 5864062014805 then (impl_GridTurn.l0 k x0 (x4 ++ [x6]) x20 (wrap64 (x21 + 1))) else (none))
end
def impl_GridTurn.f (k : Nat) (l0 : List (List Int)) : Option ((List (List Int)) × Bool) := (impl_GridValid.f k l0).bind fun t144 => (if t144 = true then (if 0 < (l0.length : Int) then (if 0 ≤ ((rd_L7 l0 0).length : Int) then (if (((rd_L7 l0 0).length : Int) : Int).toNat ≤ 11728124029610 then (impl_GridTurn.l0 k l0 (([] : List (List Int))) ((rd_L7 l0 0).length : Int) 0) else (none)) else (none)) else (none)) else (some ((([] : List (List Int))), false)))
theorem impl_GridTurn.mono_l : ∀ k, (∀ y0 y1 y2 y3, LeO (impl_GridTurn.l0 k y0 y1 y2 y3) (impl_GridTurn.l0 (k + 1) y0 y1 y2 y3)) ∧ (∀ y0 y1 y2 y3 y4 y5 y6 y7, LeO (impl_GridTurn.l1 k y0 y1 y2 y3 y4 y5 y6 y7) (impl_GridTurn.l1 (k + 1) y0 y1 y2 y3 y4 y5 y6 y7))
  | 0 => ⟨fun _ _ _ _ r h => by simp [impl_GridTurn.l0] at h, fun _ _ _ _ _ _ _ _ r h => by simp [impl_GridTurn.l1] at h⟩
  | k + 1 => by
    obtain ⟨ih0, ih1⟩ := impl_GridTurn.mono_l k
    refine ⟨?_, ?_⟩
    · intro y0 y1 y2 y3
      unfold impl_GridTurn.l0
      repeat' first
      | (with_reducible exact ih0 _ _ _ _)
      | (with_reducible exact ih1 _ _ _ _ _ _ _ _)
      | (with_reducible exact impl_GridValid.mono _ _)
      | (with_reducible exact LeO.refl _)
      | (with_reducible exact LeO.none _)
      | (with_reducible refine LeO.ite ?_ ?_)
      | (with_reducible refine LeO.bind ?_ (fun _ => ?_))
      | exact ih0 _ _ _ _
      | exact ih1 _ _ _ _ _ _ _ _
      | exact impl_GridValid.mono _ _
      | exact LeO.none _
      | refine LeO.ite ?_ ?_
      | refine LeO.bind ?_ (fun _ => ?_)
    · intro y0 y1 y2 y3 y4 y5 y6 y7
      unfold impl_GridTurn.l1
      repeat' first
      | (with_reducible exact ih0 _ _ _ _)
      | (with_reducible exact ih1 _ _ _ _ _ _ _ _)
      | (with_reducible exact impl_GridValid.mono _ _)
      | (with_reducible exact LeO.refl _)
      | (with_reducible exact LeO.none _)
      | (with_reducible refine LeO.ite ?_ ?_)
      | (with_reducible refine LeO.bind ?_ (fun _ => ?_))
      | exact ih0 _ _ _ _
      | exact ih1 _ _ _ _ _ _ _ _
      | exact impl_GridValid.mono _ _
      | exact LeO.none _
      | refine LeO.ite ?_ ?_
      | refine LeO.bind ?_ (fun _ => ?_)
theorem impl_GridTurn.mono : ∀ a0 k, LeO (impl_GridTurn.f k a0) (impl_GridTurn.f (k + 1) a0) := by
  intro a0 k
  obtain ⟨ih0, ih1⟩ := impl_GridTurn.mono_l k
  unfold impl_GridTurn.f
  repeat' first
      | (with_reducible exact ih0 _ _ _ _)
      | (with_reducible exact ih1 _ _ _ _ _ _ _ _)
      | (with_reducible exact impl_GridValid.mono _ _)
      | (with_reducible exact LeO.refl _)
      | (with_reducible exact LeO.none _)
      | (with_reducible refine LeO.ite ?_ ?_)
      | (with_reducible refine LeO.bind ?_ (fun _ => ?_))
      | exact ih0 _ _ _ _
      | exact ih1 _ _ _ _ _ _ _ _
      | exact impl_GridValid.mono _ _
      | exact LeO.none _
      | refine LeO.ite ?_ ?_
      | refine LeO.bind ?_ (fun _ => ?_)
set_option maxHeartbeats 8000000 in
set_option maxRecDepth 100000 in
theorem impl_GridTurn.calls (k : Nat) (A0 : Option Addr) (c0 : Nat) (l0 : List (List Int)) (r1 : List (List Int)) (r2 : Bool) (w : World) (hr0 : Kd.C (Kd.slice 3 (Kd.int .i64)) w A0 l0.length l0) (hc0 : l0.length ≤ c0) (h : impl_GridTurn.f k l0 = some (r1, r2)) :
    Calls Try.prog 37 #[.slice A0 l0.length c0] w fun e w' => ∃ v0_ : Value, e = .returned (.tuple #[v0_, .bool r2]) ∧ Kd.S (Kd.slice 3 (Kd.int .i64)) 62 w' w.heap.size (fun _ => True) v0_ r1 ∧ Below w.heap.size w w' := by
  have HR0 := Aside0.mk hr0
  have HC0 := Aside0.mk hc0
  clear hr0 hc0
  have HB := Aside0.mk (Below.refl w.heap.size w)
  have H : ((impl_GridValid.f k l0).bind fun t144 => (if t144 = true then (if 0 < (l0.length : Int) then (if 0 ≤ ((rd_L7 l0 0).length : Int) then (if (((rd_L7 l0 0).length : Int) : Int).toNat ≤ 11728124029610 then (impl_GridTurn.l0 k l0 (([] : List (List Int))) ((rd_L7 l0 0).length : Int) 0) else (none)) else (none)) else (none)) else (some ((([] : List (List Int))), false)))) = some (r1, r2) := h
  clear h
  replace H := Option.bind_eq_some_iff.mp H
  obtain ⟨t144, A20, H⟩ := H
  replace H : (if t144 = true then (if 0 < (l0.length : Int) then (if 0 ≤ ((rd_L7 l0 0).length : Int) then (if (((rd_L7 l0 0).length : Int) : Int).toNat ≤ 11728124029610 then (impl_GridTurn.l0 k l0 (([] : List (List Int))) ((rd_L7 l0 0).length : Int) 0) else (none)) else (none)) else (none)) else (some ((([] : List (List Int))), false))) = some (r1, r2) := H
  have A2 := Aside0.mk A20
  clear A20
  by_cases c3 : t144 = true
  · subst c3
    have H1 : (if 0 < (l0.length : Int) then (if 0 ≤ ((rd_L7 l0 0).length : Int) then (if (((rd_L7 l0 0).length : Int) : Int).toNat ≤ 11728124029610 then (impl_GridTurn.l0 k l0 (([] : List (List Int))) ((rd_L7 l0 0).length : Int) 0) else (none)) else (none)) else (none)) = some (r1, r2) := by rw [if_pos rfl] at H; exact H
    clear H
    have H := H1
    clear H1
    by_cases c4 : 0 < (l0.length : Int)
    · rw [if_pos c4] at H
      have c4b0 : decide (0 < (l0.length : Int)) = true := decide_eq_true c4
      have c4b1 : decide (0 < l0.length) = true := decide_eq_true (by omega)
      clear c4
      by_cases c5 : 0 ≤ ((rd_L7 l0 0).length : Int)
      · rw [if_pos c5] at H
        have c5b0 := eq_true c5
        have c5b1 : decide (0 ≤ ((rd_L7 l0 0).length : Int)) = true := decide_eq_true c5
        clear c5
        by_cases c6 : (((rd_L7 l0 0).length : Int) : Int).toNat ≤ 11728124029610
        · rw [if_pos c6] at H
          have c6b0 := eq_true c6
          have c6b1 : decide ((((rd_L7 l0 0).length : Int) : Int).toNat ≤ 11728124029610) = true := decide_eq_true c6
          clear c6
          obtain ⟨y149, hy149⟩ : ∃ y_ : List (List Int), y_ = (([] : List (List Int))) := ⟨_, rfl⟩
          replace H : (impl_GridTurn.l0 k l0 y149 ((rd_L7 l0 0).length : Int) 0) = some (r1, r2) := by first | (rw [hy149]; with_reducible exact H) | (have H2_ := (Option.bind_some _ _).symm.trans H; rw [hy149]; with_reducible exact H2_) | (have H2_ := (Option.bind_some _ _).symm.trans H; with_reducible exact H2_) | with_reducible exact H | (rw [hy149]; exact H) | exact H
          have Ny149 := Aside0.mk hy149
          clear hy149
          have H' := Aside0.mk H
          clear H
          go_enter Try.func37, Try.ntmps37
          go_wp2_with (first | ((with_reducible refine gate_callee (f := 110) rfl ?_); refine goesL_ (some 9) rfl rfl Try.func110 (by kernel_rfl) rfl #[.slice A0 l0.length c0] rfl (by (try simp only [List.map_toArray, List.map_cons, List.map_nil]); first | done | rfl | (simp only [List.length_drop, List.length_take]; rfl)) ?_; (with_reducible refine (impl_GridValid.calls k _ _ l0 true _ ?side1 ?side2 A2.out).mono ?_); (case side1 => repeat (first | exact HR0.out | (with_reducible refine Kd.C_alloc ?_ _) | (with_reducible refine Kd.C_drewN ?_ _) | (with_reducible refine Kd.C_drew ?_))); (case side2 => exact HC0.out); rintro e w' ⟨rfl, ⟨nd, rfl⟩⟩; refine ⟨_, rfl, ?_⟩; have p148 : 0 ≤ (0 : Int) := (by omega); have q148 : 0 < (l0.length : Int) := of_decide_eq_true (by first | (with_reducible assumption) | assumption); obtain ⟨ad148, A148_0, c148_0, e148, hx148_0, hl148_0, hi148_0⟩ := at_L7 HR0.out 0 p148 q148; cases e148; have qi148 : (0 < l0.length) = True := eq_true (by omega); (try rw [show ((0 : Int)).toNat = 0 from rfl] at hx148_0); (try rw [Addr.add_zero'] at hx148_0); have HR148_0 := Aside0.mk hi148_0; have HC148_0 := Aside0.mk hl148_0; clear hi148_0 hl148_0; replace p148 := eq_true p148; replace q148 := eq_true q148) | ((with_reducible refine gate_dst (N := 16) rfl ?_); refine S_make0 (Kd.slice 3 (Kd.int .i64)) _ 62 rfl (N := 16) rfl 49 _ _ rfl ((rd_L7 l0 0).length : Int) rfl rfl Try.underlying49 (.slice none 0 0) 24 info62 rfl (by decide) (by omega) (ok := fun _ => True) trivial (of_decide_eq_true (by first | (with_reducible assumption) | assumption)) (Nat.le_trans (Nat.mul_le_mul_right _ (of_decide_eq_true (by first | (with_reducible assumption) | assumption) : ((rd_L7 l0 0).length : Int).toNat ≤ 11728124029610)) (by omega)) (Below.refl _ _) (Nat.le_refl _) ?_; intro v150 w7 ho8 hb hg_ hnew_; clear hg_ hnew_; (first | rw [← Ny149.out] at ho8 | (simp only [Int.reduceToNat] at ho8; rw [← Ny149.out] at ho8)); have n0_ := Aside0.mk (Kd.S_lower ho8 (below_size (by repeat (first | (with_reducible first | exact HB.out | apply below_alloc | apply pw_below_drewN | apply below_drew1) | exact HB.out)))); have n1_ := Aside0.mk (below_step (by repeat (first | (with_reducible first | exact HB.out | apply below_alloc | apply pw_below_drewN | apply below_drew1) | exact HB.out)) hb); clear HB; have HO151 := n0_; have HB := n1_; clear n0_ n1_; clear hb ho8; have p152 : 0 ≤ (0 : Int) := (by omega); have q152 : 0 < (l0.length : Int) := of_decide_eq_true (by first | (with_reducible assumption) | assumption); obtain ⟨ad152, A152_0, c152_0, e152, hx152_0, hl152_0, hi152_0⟩ := at_L7 HR0.out 0 p152 q152; obtain rfl : ad148 = ad152 := (by injection e152); have qi152 : (0 < l0.length) = True := eq_true (by omega); (try rw [show ((0 : Int)).toNat = 0 from rfl] at hx152_0); (try rw [Addr.add_zero'] at hx152_0); replace hx152_0 := (HB.out.cell (World.block_lt_of_cell? w _ hx152_0)).trans hx152_0; have HR152_0 := Aside0.mk hi152_0; have HC152_0 := Aside0.mk hl152_0; clear hi152_0 hl152_0; replace p152 := eq_true p152; replace q152 := eq_true q152))
          go_loopg [4, 21] k (fun kq v4 v21 w' => ∃ (x4_1 : List (List Int)) (x21_1 : Int), v21 = .int .i64 x21_1 ∧ Aside0 (impl_GridTurn.l0 kq l0 x4_1 ((rd_L7 l0 0).length : Int) x21_1 = some (r1, r2)) ∧ Aside0 (kq ≤ k) ∧ Aside0 (Kd.S (Kd.slice 3 (Kd.int .i64)) 62 w' w.heap.size (fun _ => True) v4 x4_1) ∧ Aside0 (Below w.heap.size w w'))
          case atStart => exact ⟨(y149), (0), (by first | rfl | (simp; done) | (simp [*]; done)), H', ⟨Nat.le_refl _⟩, ⟨by (with_reducible repeat (first | apply Kd.S_alloc | apply Kd.S_drewN | apply Kd.S_drew)); exact HO151.out⟩, ⟨by repeat (first | (with_reducible first | exact HB.out | apply below_alloc | apply pw_below_drewN | apply below_drew1) | exact HB.out)⟩⟩
          case round =>
            clear H'
            try clear c1
            try clear p1
            try clear q1
            try clear hx1
            try clear qi1
            try clear p2
            try clear c3
            try clear c4
            try clear c4b0
            try clear c4b1
            try clear c5
            try clear c5b0
            try clear c5b1
            try clear c6
            try clear c6b0
            try clear c6b1
            try clear hx148_0
            try clear hx152_0
            try clear p148
            try clear p152
            try clear q148
            try clear q152
            obtain ⟨x4_1, x21_1, rfl, HA, HK1, HO_4, HB⟩ := hrel
            cases gk with
            | zero => exact absurd HA.out (by simp [impl_GridTurn.l0])
            | succ k1 =>
              have H := HA.out
              clear HA
              simp only [impl_GridTurn.l0] at H
              by_cases c9 : x21_1 < ((rd_L7 l0 0).length : Int)
              · rw [if_pos c9] at H
                have c9b0 : decide (x21_1 < ((rd_L7 l0 0).length : Int)) = true := decide_eq_true c9
                clear c9
                by_cases c10 : 0 ≤ (l0.length : Int)
                · rw [if_pos c10] at H
                  have c10b0 := eq_true c10
                  have c10b1 : decide (0 ≤ (l0.length : Int)) = true := decide_eq_true c10
                  clear c10
                  by_cases c11 : ((l0.length : Int) : Int).toNat ≤ 35184372088832
                  · rw [if_pos c11] at H
                    have c11b0 := eq_true c11
                    have c11b1 : decide (((l0.length : Int) : Int).toNat ≤ 35184372088832) = true := decide_eq_true c11
                    clear c11
                    obtain ⟨y153, hy153⟩ : ∃ y_ : List Int, y_ = (([] : List Int)) := ⟨_, rfl⟩
                    replace H : (impl_GridTurn.l1 k1 l0 x4_1 x21_1 y153 ((rd_L7 l0 0).length : Int) x21_1 (l0.length : Int) 0) = some (r1, r2) := by first | (rw [hy153]; with_reducible exact H) | (have H2_ := (Option.bind_some _ _).symm.trans H; rw [hy153]; with_reducible exact H2_) | (have H2_ := (Option.bind_some _ _).symm.trans H; with_reducible exact H2_) | with_reducible exact H | (rw [hy153]; exact H) | exact H
                    have Ny153 := Aside0.mk hy153
                    clear hy153
                    have H' := Aside0.mk H
                    clear H
                    go_wp2_with (first | ((with_reducible refine gate_dst (N := 26) rfl ?_); refine R_make0 (Kd.int .i64) _ 3 rfl (N := 26) rfl 62 _ _ rfl (l0.length : Int) rfl rfl Try.underlying62 (.int .i64 0) 8 info3 rfl (by decide) (by omega) (ok := fun _ => True) trivial (of_decide_eq_true (by first | (with_reducible assumption) | assumption)) (Nat.le_trans (Nat.mul_le_mul_right _ (of_decide_eq_true (by first | (with_reducible assumption) | assumption) : (l0.length : Int).toNat ≤ 35184372088832)) (by omega)) (Below.refl _ _) (Nat.le_refl _) ?_; intro v154 w12 ho13 hb hg_ hnew_; clear hg_ hnew_; (first | rw [← Ny153.out] at ho13 | (simp only [Int.reduceToNat] at ho13; rw [← Ny153.out] at ho13)); have n0_ := Aside0.mk (Kd.S_elder' (by (with_reducible repeat (first | apply Kd.S_alloc | apply Kd.S_drewN | apply Kd.S_drew)); exact HO_4.out) (Kd.R_base ho13) hb); have n1_ := Aside0.mk (Kd.R_lower ho13 (below_size (by repeat (first | (with_reducible first | exact HB.out | apply below_alloc | apply pw_below_drewN | apply below_drew1) | exact HB.out)))); have n2_ := Aside0.mk (below_step (by repeat (first | (with_reducible first | exact HB.out | apply below_alloc | apply pw_below_drewN | apply below_drew1) | exact HB.out)) hb); clear HO_4; clear HB; have HO_4 := n0_; have HO155 := n1_; have HB := n2_; clear n0_ n1_ n2_; clear hb ho13))
                    go_loopg [6, 29] k1 (fun kq v6 v29 w' => ∃ (x6_2 : List Int) (x29_2 : Int), v29 = .int .i64 x29_2 ∧ Aside0 (impl_GridTurn.l1 kq l0 x4_1 x21_1 x6_2 ((rd_L7 l0 0).length : Int) x21_1 (l0.length : Int) x29_2 = some (r1, r2)) ∧ Aside0 (kq ≤ k1) ∧ Aside0 (Kd.S (Kd.slice 3 (Kd.int .i64)) 62 w' w.heap.size (fun k_ => some k_ ≠ (v6 : Value).ownBlock) u4 x4_1) ∧ Aside0 (Kd.R (Kd.int .i64) 3 w' w.heap.size (fun _ => True) v6 x6_2) ∧ Aside0 (Below w.heap.size w w'))
                    case atStart => exact ⟨(y153), (0), (by first | rfl | (simp; done) | (simp [*]; done)), H', ⟨Nat.le_refl _⟩, ⟨by (with_reducible repeat (first | apply Kd.S_alloc | apply Kd.S_drewN | apply Kd.S_drew)); exact Kd.S_mono HO_4.out (fun _ hk => hk.2)⟩, ⟨by (with_reducible repeat (first | apply Kd.R_alloc | apply Kd.R_drewN | apply Kd.R_drew)); exact HO155.out⟩, ⟨by repeat (first | (with_reducible first | exact HB.out | apply below_alloc | apply pw_below_drewN | apply below_drew1) | exact HB.out)⟩⟩
                    case round =>
                      clear H'
                      try clear c1
                      try clear p1
                      try clear q1
                      try clear hx1
                      try clear qi1
                      try clear p2
                      try clear c3
                      try clear c4
                      try clear c4b0
                      try clear c4b1
                      try clear c5
                      try clear c5b0
                      try clear c5b1
                      try clear c6
                      try clear c6b0
                      try clear c6b1
                      try clear c9
                      try clear c9b0
                      try clear c10
                      try clear c10b0
                      try clear c10b1
                      try clear c11
                      try clear c11b0
                      try clear c11b1
                      try clear hx148_0
                      try clear hx152_0
                      try clear p1
                      try clear p148
                      try clear p152
                      try clear p2
                      try clear q1
                      try clear q148
                      try clear q152
                      obtain ⟨x6_2, x29_2, rfl, HA, HK2, HO_4, HO_6, HB⟩ := hrel
                      cases gk with
                      | zero => exact absurd HA.out (by simp [impl_GridTurn.l1])
                      | succ k2 =>
                        have H := HA.out
                        clear HA
                        simp only [impl_GridTurn.l1] at H
                        by_cases c14 : x29_2 < (l0.length : Int)
                        · rw [if_pos c14] at H
                          have c14b0 : decide (x29_2 < (l0.length : Int)) = true := decide_eq_true c14
                          clear c14
                          by_cases c15 : 0 ≤ x29_2
                          · rw [if_pos c15] at H
                            have c15b0 : decide (0 ≤ x29_2) = true := decide_eq_true c15
                            clear c15
                            by_cases c16 : x29_2 < (l0.length : Int)
                            · rw [if_pos c16] at H
                              have c16b0 : decide (x29_2 < (l0.length : Int)) = true := decide_eq_true c16
                              clear c16
                              by_cases c17 : 0 ≤ x21_1
                              · rw [if_pos c17] at H
                                have c17b0 : decide (0 ≤ x21_1) = true := decide_eq_true c17
                                clear c17
                                by_cases c18 : x21_1 < ((rd_L7 l0 x29_2).length : Int)
                                · rw [if_pos c18] at H
                                  have c18b0 : decide (x21_1 < ((rd_L7 l0 x29_2).length : Int)) = true := decide_eq_true c18
                                  clear c18
                                  by_cases c19 : x6_2.length < 17592186044416
                                  · rw [if_pos c19] at H
                                    have LMc19 := Aside0.mk c19
                                    clear c19
                                    obtain ⟨y158, hy158⟩ : ∃ y_ : List Int, y_ = (x6_2 ++ [rd (rd_L7 l0 x29_2) x21_1]) := ⟨_, rfl⟩
                                    replace H : (impl_GridTurn.l1 k2 l0 x4_1 x21_1 y158 ((rd_L7 l0 0).length : Int) x21_1 (l0.length : Int) (wrap64 (x29_2 + 1))) = some (r1, r2) := by first | (rw [hy158]; with_reducible exact H) | (have H2_ := (Option.bind_some _ _).symm.trans H; rw [hy158]; with_reducible exact H2_) | (have H2_ := (Option.bind_some _ _).symm.trans H; with_reducible exact H2_) | with_reducible exact H | (rw [hy158]; exact H) | exact H
                                    have Ny158 := Aside0.mk hy158
                                    clear hy158
                                    have H' := Aside0.mk H
                                    clear H
                                    have p156 : 0 ≤ (x29_2 : Int) := of_decide_eq_true (by first | (with_reducible assumption) | assumption)
                                    have q156 : x29_2 < (l0.length : Int) := of_decide_eq_true (by first | (with_reducible assumption) | assumption)
                                    obtain ⟨ad156, A156_0, c156_0, e156, hx156_0, hl156_0, hi156_0⟩ := at_L7 HR0.out x29_2 p156 q156
                                    obtain rfl : ad148 = ad156 := (by injection e156)
                                    replace hx156_0 := (HB.out.cell (World.block_lt_of_cell? w _ hx156_0)).trans hx156_0
                                    have HR156_0 := Aside0.mk hi156_0
                                    have HC156_0 := Aside0.mk hl156_0
                                    clear hi156_0 hl156_0
                                    replace p156 := eq_true p156
                                    replace q156 := eq_true q156
                                    have p157 : 0 ≤ (x21_1 : Int) := of_decide_eq_true (by first | (with_reducible assumption) | assumption)
                                    have q157 : x21_1 < ((rd_L7 l0 x29_2).length : Int) := of_decide_eq_true (by first | (with_reducible assumption) | assumption)
                                    obtain ⟨ad157, e157, hx157_0⟩ := Kd.at_int HR156_0.out x21_1 p157 q157
                                    cases e157
                                    replace hx157_0 := (HB.out.cell (World.block_lt_of_cell? w _ hx157_0)).trans hx157_0
                                    replace p157 := eq_true p157
                                    replace q157 := eq_true q157
                                    go_wp2_with (first | ((with_reducible refine gate_builtin (b := .append) (xs := #[.tmp 32, .tmp 40]) rfl ?_); at_builtin; refine Kd.R_append (Kd.int .i64) (w0 := w) w.heap.size rfl (.tmp 32) (.tmp 40) 62 3 (.int .i64 0) 8 rfl Try.underlying62 info3 rfl (by decide) (by omega) u6 x6_2 (rd (rd_L7 l0 x29_2) x21_1) [.int .i64 (rd (rd_L7 l0 x29_2) x21_1)] (fun _ => True) (fun _ => False) rfl rfl ?aP (fun _ hk => hk.elim) ?aF ?aO ?aB ?aS ?aL ?_; (case aP => exact rfl); (case aB => exact (by repeat (first | (with_reducible first | exact HB.out | apply below_alloc | apply pw_below_drewN | apply below_drew1) | exact HB.out))); (case aF => exact (fun _ _ => trivial)); (case aO => exact (by (with_reducible repeat (first | apply Kd.R_alloc | apply Kd.R_drewN | apply Kd.R_drew)); exact HO_6.out)); (case aS => exact (below_size (by repeat (first | (with_reducible first | exact HB.out | apply below_alloc | apply pw_below_drewN | apply below_drew1) | exact HB.out)))); (case aL => have := LMc19.out; omega); intro v159 w20 ho hb hg hat; rw [← Ny158.out] at ho; have n0_ := Aside0.mk (Kd.S_after (ok := (fun _ => True)) (by (with_reducible repeat (first | apply Kd.S_alloc | apply Kd.S_drewN | apply Kd.S_drew)); exact Kd.S_mono HO_4.out (fun _ hk => ⟨trivial, hk⟩)) hg hat); have n1_ := Aside0.mk (hb); have n2_ := Aside0.mk (ho); clear HO_4; clear HB; clear HO_6; have HO_4 := n0_; have HB := n1_; have HO160 := n2_; clear n0_ n1_ n2_; clear ho hb hg hat))
                                    go_roundg k2
                                    case measure => have := HK1.out; have := HK2.out; omega
                                    case rel => exact ⟨(y158), (wrap64 (x29_2 + 1)), (by first | rfl | (simp; done) | (simp [*]; done)), H', ⟨by have := HK1.out; have := HK2.out; omega⟩, ⟨by (with_reducible repeat (first | apply Kd.S_alloc | apply Kd.S_drewN | apply Kd.S_drew)); exact Kd.S_mono HO_4.out (fun _ hk => hk.2)⟩, ⟨by (with_reducible repeat (first | apply Kd.R_alloc | apply Kd.R_drewN | apply Kd.R_drew)); exact HO160.out⟩, ⟨by repeat (first | (with_reducible first | exact HB.out | apply below_alloc | apply pw_below_drewN | apply below_drew1) | exact HB.out)⟩⟩
                                  · rw [if_neg c19] at H
                                    exact absurd H (by simp)
                                · rw [if_neg c18] at H
                                  exact absurd H (by simp)
                              · rw [if_neg c17] at H
                                exact absurd H (by simp)
                            · rw [if_neg c16] at H
                              exact absurd H (by simp)
                          · rw [if_neg c15] at H
                            exact absurd H (by simp)
                        · rw [if_neg c14] at H
                          have c14b0 : decide (x29_2 < (l0.length : Int)) = false := decide_eq_false c14
                          clear c14
                          by_cases c21 : x4_1.length < 5864062014805
                          · rw [if_pos c21] at H
                            have LMc21 := Aside0.mk c21
                            clear c21
                            obtain ⟨y161, hy161⟩ : ∃ y_ : List (List Int), y_ = (x4_1 ++ [x6_2]) := ⟨_, rfl⟩
                            replace H : (impl_GridTurn.l0 k2 l0 y161 ((rd_L7 l0 0).length : Int) (wrap64 (x21_1 + 1))) = some (r1, r2) := by first | (rw [hy161]; with_reducible exact H) | (have H2_ := (Option.bind_some _ _).symm.trans H; rw [hy161]; with_reducible exact H2_) | (have H2_ := (Option.bind_some _ _).symm.trans H; with_reducible exact H2_) | with_reducible exact H | (rw [hy161]; exact H) | exact H
                            have Ny161 := Aside0.mk hy161
                            clear hy161
                            have H' := Aside0.mk H
                            clear H
                            obtain ⟨Ao23, co23, eo23⟩ := Kd.R_slice HO_6.out
                            subst eo23
                            go_wp2_with (first | ((with_reducible refine gate_builtin (b := .append) (xs := #[.tmp 43, .tmp 45]) rfl ?_); at_builtin; refine Kd.S_append (Kd.slice 3 (Kd.int .i64)) (w0 := w) w.heap.size rfl (.tmp 43) (.tmp 45) 49 62 (.slice none 0 0) 24 rfl Try.underlying49 info62 rfl (by decide) (by omega) u4 x4_1 x6_2 [.slice Ao23 x6_2.length co23] (fun _ => True) (fun k_ => some k_ = (.slice Ao23 x6_2.length co23 : Value).ownBlock) rfl rfl ?aP (fun k_ hk_ => ((Kd.R_mono (ok' := fun k_ => ((fun _ => True)) k_ ∧ some k_ ≠ (u4 : Value).ownBlock) (Kd.R_apart' (HO_6.out) (Kd.S_typed HO_4.out) (by decide)) (fun k_ hk => ⟨trivial, hk.2⟩))).1 k_ hk_.symm) ?aF ?aO ?aB ?aS ?aL ?_; (case aP => exact Kd.M_row (Kd.R_mono (Kd.R_tight rfl (Kd.R_mono (ok' := fun k_ => ((fun _ => True)) k_ ∧ some k_ ≠ (u4 : Value).ownBlock) (Kd.R_apart' (HO_6.out) (Kd.S_typed HO_4.out) (by decide)) (fun k_ hk => ⟨trivial, hk.2⟩))) (fun _ h_ => h_))); (case aB => exact (by repeat (first | (with_reducible first | exact HB.out | apply below_alloc | apply pw_below_drewN | apply below_drew1) | exact HB.out))); (case aF => exact (fun _ _ => trivial)); (case aO => exact (by (with_reducible repeat (first | apply Kd.S_alloc | apply Kd.S_drewN | apply Kd.S_drew)); exact Kd.S_mono HO_4.out (fun k_ hk => ⟨trivial, fun e_ => hk e_⟩))); (case aS => exact (below_size (by repeat (first | (with_reducible first | exact HB.out | apply below_alloc | apply pw_below_drewN | apply below_drew1) | exact HB.out)))); (case aL => have := LMc21.out; omega); intro v162 w22 ho hb hg hat; rw [← Ny161.out] at ho; have n0_ := Aside0.mk (hb); have n1_ := Aside0.mk (ho); clear HB; clear HO_4; clear HO_6; have HB := n0_; have HO163 := n1_; clear n0_ n1_; clear ho hb hg hat))
                            go_roundg k2
                            case measure => have := HK1.out; have := HK2.out; omega
                            case rel => exact ⟨(y161), (wrap64 (x21_1 + 1)), (by first | rfl | (simp; done) | (simp [*]; done)), H', ⟨by have := HK1.out; have := HK2.out; omega⟩, ⟨by (with_reducible repeat (first | apply Kd.S_alloc | apply Kd.S_drewN | apply Kd.S_drew)); exact HO163.out⟩, ⟨by repeat (first | (with_reducible first | exact HB.out | apply below_alloc | apply pw_below_drewN | apply below_drew1) | exact HB.out)⟩⟩
                          · rw [if_neg c21] at H
                            exact absurd H (by simp)
                  · rw [if_neg c11] at H
                    exact absurd H (by simp)
                · rw [if_neg c10] at H
                  exact absurd H (by simp)
              · rw [if_neg c9] at H
                have c9b0 : decide (x21_1 < ((rd_L7 l0 0).length : Int)) = false := decide_eq_false c9
                clear c9
                simp only [Option.some.injEq, Prod.mk.injEq] at H
                obtain ⟨rfl, rfl⟩ := H
                go_wp2
                go_ret2
                exact ⟨_, by first | rfl | (simp [errW_none, errW_some] <;> rfl) | (simp [*, errW_none, errW_some] <;> rfl), by (with_reducible repeat (first | apply Kd.S_alloc | apply Kd.S_drewN | apply Kd.S_drew)); exact HO_4.out, by repeat (first | (with_reducible first | exact HB.out | apply below_alloc | apply pw_below_drewN | apply below_drew1) | exact HB.out)⟩
        · rw [if_neg c6] at H
          exact absurd H (by simp)
      · rw [if_neg c5] at H
        exact absurd H (by simp)
    · rw [if_neg c4] at H
      exact absurd H (by simp)
  · replace c3 := Bool.eq_false_iff.mpr c3
    subst c3
    have H1 : (some ((([] : List (List Int))), false)) = some (r1, r2) := by rw [if_neg (show ¬ (false = true) by decide)] at H; exact H
    clear H
    have H := H1
    clear H1
    obtain ⟨y145, hy145⟩ : ∃ y_ : List (List Int), y_ = (([] : List (List Int))) := ⟨_, rfl⟩
    replace H : (some (y145, false)) = some (r1, r2) := by first | (rw [hy145]; with_reducible exact H) | (have H2_ := (Option.bind_some _ _).symm.trans H; rw [hy145]; with_reducible exact H2_) | (have H2_ := (Option.bind_some _ _).symm.trans H; with_reducible exact H2_) | with_reducible exact H | (rw [hy145]; exact H) | exact H
    have Ny145 := Aside0.mk hy145
    clear hy145
    simp only [Option.some.injEq, Prod.mk.injEq] at H
    obtain ⟨rfl, rfl⟩ := H
    go_enter Try.func37, Try.ntmps37
    go_wp2_with (first | ((with_reducible refine gate_callee (f := 110) rfl ?_); refine goesL_ (some 9) rfl rfl Try.func110 (by kernel_rfl) rfl #[.slice A0 l0.length c0] rfl (by (try simp only [List.map_toArray, List.map_cons, List.map_nil]); first | done | rfl | (simp only [List.length_drop, List.length_take]; rfl)) ?_; (with_reducible refine (impl_GridValid.calls k _ _ l0 false _ ?side1 ?side2 A2.out).mono ?_); (case side1 => repeat (first | exact HR0.out | (with_reducible refine Kd.C_alloc ?_ _) | (with_reducible refine Kd.C_drewN ?_ _) | (with_reducible refine Kd.C_drew ?_))); (case side2 => exact HC0.out); rintro e w' ⟨rfl, ⟨nd, rfl⟩⟩; refine ⟨_, rfl, ?_⟩) | ((with_reducible refine gate_dst (N := 11) rfl ?_); refine Kd.S_lit (Kd.slice 3 (Kd.int .i64)) _ 62 ?hg (N := 11) ?hd (xs := ([] : List (List Int))) (inner := []) (ok := fun _ => True) (okp := fun _ => True) ?hr ?hp (fun _ hk => hk) trivial (Below.refl _ _) (Nat.le_refl _) (by simp) ?_; (case hd => rfl); (case hg => rfl); (case hr => first | (go_simp; done) | (go_simp; rfl)); (case hp => exact (Reps.none _ _)); intro v146 w24 ho25 hb hg_ hnew_; clear hg_ hnew_; (first | rw [← Ny145.out] at ho25 | (simp only [Int.reduceToNat] at ho25; rw [← Ny145.out] at ho25)); have n0_ := Aside0.mk (Kd.S_lower ho25 (below_size (by repeat (first | (with_reducible first | exact HB.out | apply below_alloc | apply pw_below_drewN | apply below_drew1) | exact HB.out)))); have n1_ := Aside0.mk (below_step (by repeat (first | (with_reducible first | exact HB.out | apply below_alloc | apply pw_below_drewN | apply below_drew1) | exact HB.out)) hb); clear HB; have HO147 := n0_; have HB := n1_; clear n0_ n1_; clear hb ho25))
    go_ret2
    exact ⟨_, by first | rfl | (simp [errW_none, errW_some] <;> rfl) | (simp [*, errW_none, errW_some] <;> rfl), by (with_reducible repeat (first | apply Kd.S_alloc | apply Kd.S_drewN | apply Kd.S_drew)); exact HO147.out, by repeat (first | (with_reducible first | exact HB.out | apply below_alloc | apply pw_below_drewN | apply below_drew1) | exact HB.out)⟩

end Go.Proofs.Ytffkojdmidhchaa.P
end
section
-- written by wip/tools/mkprint.py (a program of this session over the kit's print). Lean checks it.
namespace Go.Proofs.Ytffkojdmidhchaa.P
open Go.RowKit Go.Proofs.YtffkojdmidhchaaW.PrintWords Go.Proofs.YtffkojdmidhchaaW.PrintLast Go.Proofs.YtffkojdmidhchaaW.PrintMore
attribute [local go_sem] max2_int min2_int max_two min_two max_three min_three max_four min_four   -- for this text's walks alone
set_option linter.unusedVariables false
set_option linter.unusedSimpArgs false

/-! ### laws_eqIntSS: function 38 -/
def laws_eqIntSS.l0 : Nat → List (List Int) → List (List Int) → Int → Option (Bool)
  | 0, _, _, _ => none
  | k + 1, x0, x1, x5 => if x5 < (x0.length : Int) then (if 0 ≤ x5 then (if x5 < (x1.length : Int) then ((laws_eqIntS.f k (rd_L7 x0 x5) (rd_L7 x1 x5)).bind fun t168 => (if t168 = true then (laws_eqIntSS.l0 k x0 x1 (wrap64 (x5 + 1))) else (some false))) else (none)) else (none)) else (some true)
def laws_eqIntSS.f (k : Nat) (l0 : List (List Int)) (l1 : List (List Int)) : Option (Bool) := if (l0.length : Int) = (l1.length : Int) then (laws_eqIntSS.l0 k l0 l1 0) else (some false)
theorem laws_eqIntSS.mono_l : ∀ k, (∀ y0 y1 y2, LeO (laws_eqIntSS.l0 k y0 y1 y2) (laws_eqIntSS.l0 (k + 1) y0 y1 y2))
  | 0 => fun _ _ _ r h => by simp [laws_eqIntSS.l0] at h
  | k + 1 => by
    have ih0 := laws_eqIntSS.mono_l k
    · intro y0 y1 y2
      unfold laws_eqIntSS.l0
      repeat' first
      | (with_reducible exact ih0 _ _ _)
      | (with_reducible exact laws_eqIntS.mono _ _ _)
      | (with_reducible exact LeO.refl _)
      | (with_reducible exact LeO.none _)
      | (with_reducible refine LeO.ite ?_ ?_)
      | (with_reducible refine LeO.bind ?_ (fun _ => ?_))
      | exact ih0 _ _ _
      | exact laws_eqIntS.mono _ _ _
      | exact LeO.none _
      | refine LeO.ite ?_ ?_
      | refine LeO.bind ?_ (fun _ => ?_)
theorem laws_eqIntSS.mono : ∀ a0 a1 k, LeO (laws_eqIntSS.f k a0 a1) (laws_eqIntSS.f (k + 1) a0 a1) := by
  intro a0 a1 k
  have ih0 := laws_eqIntSS.mono_l k
  unfold laws_eqIntSS.f
  repeat' first
      | (with_reducible exact ih0 _ _ _)
      | (with_reducible exact laws_eqIntS.mono _ _ _)
      | (with_reducible exact LeO.refl _)
      | (with_reducible exact LeO.none _)
      | (with_reducible refine LeO.ite ?_ ?_)
      | (with_reducible refine LeO.bind ?_ (fun _ => ?_))
      | exact ih0 _ _ _
      | exact laws_eqIntS.mono _ _ _
      | exact LeO.none _
      | refine LeO.ite ?_ ?_
      | refine LeO.bind ?_ (fun _ => ?_)
set_option maxHeartbeats 8000000 in
set_option maxRecDepth 100000 in
theorem laws_eqIntSS.calls (k : Nat) (A0 : Option Addr) (c0 : Nat) (l0 : List (List Int)) (A1 : Option Addr) (c1 : Nat) (l1 : List (List Int)) (r : Bool) (w : World) (hr0 : Kd.C (Kd.slice 3 (Kd.int .i64)) w A0 l0.length l0) (hc0 : l0.length ≤ c0) (hr1 : Kd.C (Kd.slice 3 (Kd.int .i64)) w A1 l1.length l1) (hc1 : l1.length ≤ c1) (h : laws_eqIntSS.f k l0 l1 = some r) :
    Calls Try.prog 38 #[.slice A0 l0.length c0, .slice A1 l1.length c1] w fun e w' => e = .returned (.bool r) ∧ Drawn0 w w' := by
  have HR0 := Aside0.mk hr0
  have HC0 := Aside0.mk hc0
  clear hr0 hc0
  have HR1 := Aside0.mk hr1
  have HC1 := Aside0.mk hc1
  clear hr1 hc1
  have H : (if (l0.length : Int) = (l1.length : Int) then (laws_eqIntSS.l0 k l0 l1 0) else (some false)) = some r := h
  clear h
  by_cases c3 : (l0.length : Int) = (l1.length : Int)
  · rw [if_pos c3] at H
    have c3b0 : ((l0.length : Int) == (l1.length : Int)) = true := beq_iff_eq.mpr c3
    have c3b1 : ((l0.length : Int) != (l1.length : Int)) = false := bne_eq_false_iff_eq.mpr c3
    have c3b2 : (l0.length == l1.length) = true := by first | simpa using c3 | (simp at c3 ⊢; omega)
    clear c3
    have H' := Aside0.mk H
    clear H
    go_enter Try.func38, Try.ntmps38
    go_wp2
    repeat (go_quiet (fail); try go_wp2)
    go_loopg [5] k (fun kq v5 w' => ∃ (x5_1 : Int), v5 = .int .i64 x5_1 ∧ Aside0 (laws_eqIntSS.l0 kq l0 l1 x5_1 = some r) ∧ Aside0 (kq ≤ k) ∧ Drawn0 w w')
    case atStart => exact ⟨(0), (by first | rfl | (simp; done) | (simp [*]; done)), H', ⟨Nat.le_refl _⟩, by repeat (first | exact Drawn0.refl _ | apply Drawn0.step)⟩
    case round =>
      clear H'
      try clear c1
      try clear p2
      try clear c3
      try clear c3b0
      try clear c3b1
      try clear c3b2
      obtain ⟨x5_1, rfl, HA, HK1, ⟨m1, rfl⟩⟩ := hrel
      cases gk with
      | zero => exact absurd HA.out (by simp [laws_eqIntSS.l0])
      | succ k1 =>
        have H := HA.out
        clear HA
        simp only [laws_eqIntSS.l0] at H
        by_cases c4 : x5_1 < (l0.length : Int)
        · rw [if_pos c4] at H
          have c4b0 : decide (x5_1 < (l0.length : Int)) = true := decide_eq_true c4
          clear c4
          by_cases c5 : 0 ≤ x5_1
          · rw [if_pos c5] at H
            have c5b0 : decide (0 ≤ x5_1) = true := decide_eq_true c5
            clear c5
            by_cases c6 : x5_1 < (l1.length : Int)
            · rw [if_pos c6] at H
              have c6b0 : decide (x5_1 < (l1.length : Int)) = true := decide_eq_true c6
              clear c6
              replace H := Option.bind_eq_some_iff.mp H
              obtain ⟨t168, A70, H⟩ := H
              replace H : (if t168 = true then (laws_eqIntSS.l0 k1 l0 l1 (wrap64 (x5_1 + 1))) else (some false)) = some r := H
              have A7 := Aside0.mk A70
              clear A70
              by_cases c8 : t168 = true
              · subst c8
                have H1 : (laws_eqIntSS.l0 k1 l0 l1 (wrap64 (x5_1 + 1))) = some r := by rw [if_pos rfl] at H; exact H
                clear H
                have H := H1
                clear H1
                have H' := Aside0.mk H
                clear H
                have p166 : 0 ≤ (x5_1 : Int) := of_decide_eq_true (by first | (with_reducible assumption) | assumption)
                have q166 : x5_1 < (l0.length : Int) := of_decide_eq_true (by first | (with_reducible assumption) | assumption)
                obtain ⟨ad166, A166_0, c166_0, e166, hx166_0, hl166_0, hi166_0⟩ := at_L7 HR0.out x5_1 p166 q166
                cases e166
                have HR166_0 := Aside0.mk hi166_0
                have HC166_0 := Aside0.mk hl166_0
                clear hi166_0 hl166_0
                replace p166 := eq_true p166
                replace q166 := eq_true q166
                have p167 : 0 ≤ (x5_1 : Int) := of_decide_eq_true (by first | (with_reducible assumption) | assumption)
                have q167 : x5_1 < (l1.length : Int) := of_decide_eq_true (by first | (with_reducible assumption) | assumption)
                obtain ⟨ad167, A167_0, c167_0, e167, hx167_0, hl167_0, hi167_0⟩ := at_L7 HR1.out x5_1 p167 q167
                cases e167
                have HR167_0 := Aside0.mk hi167_0
                have HC167_0 := Aside0.mk hl167_0
                clear hi167_0 hl167_0
                replace p167 := eq_true p167
                replace q167 := eq_true q167
                go_wp2_with (first | (go_at_call 49; (with_reducible refine (laws_eqIntS.calls k1 _ _ (rd_L7 l0 x5_1) _ _ (rd_L7 l1 x5_1) true _ ?side1 ?side2 ?side3 ?side4 A7.out).mono ?_); (case side1 => repeat (first | exact HR166_0.out | (with_reducible refine Kd.C_alloc ?_ _) | (with_reducible refine Kd.C_drewN ?_ _) | (with_reducible refine Kd.C_drew ?_))); (case side2 => exact HC166_0.out); (case side3 => repeat (first | exact HR167_0.out | (with_reducible refine Kd.C_alloc ?_ _) | (with_reducible refine Kd.C_drewN ?_ _) | (with_reducible refine Kd.C_drew ?_))); (case side4 => exact HC167_0.out); rintro e w' ⟨rfl, ⟨nd, rfl⟩⟩; (try first | exact ⟨rfl, _, World.drewN_drewN _ _ _⟩ | exact ⟨rfl, _, Eq.trans (World.drewN_drewN _ _ _) (congrArg (World.drewN _) (Nat.add_assoc _ _ _))⟩)))
                repeat (go_quiet (first | (go_at_call 49; (with_reducible refine (laws_eqIntS.calls k1 _ _ (rd_L7 l0 x5_1) _ _ (rd_L7 l1 x5_1) true _ ?side1 ?side2 ?side3 ?side4 A7.out).mono ?_); (case side1 => repeat (first | exact HR166_0.out | (with_reducible refine Kd.C_alloc ?_ _) | (with_reducible refine Kd.C_drewN ?_ _) | (with_reducible refine Kd.C_drew ?_))); (case side2 => exact HC166_0.out); (case side3 => repeat (first | exact HR167_0.out | (with_reducible refine Kd.C_alloc ?_ _) | (with_reducible refine Kd.C_drewN ?_ _) | (with_reducible refine Kd.C_drew ?_))); (case side4 => exact HC167_0.out); rintro e w' ⟨rfl, ⟨nd, rfl⟩⟩; (try first | exact ⟨rfl, _, World.drewN_drewN _ _ _⟩ | exact ⟨rfl, _, Eq.trans (World.drewN_drewN _ _ _) (congrArg (World.drewN _) (Nat.add_assoc _ _ _))⟩))); try go_wp2_with (first | (go_at_call 49; (with_reducible refine (laws_eqIntS.calls k1 _ _ (rd_L7 l0 x5_1) _ _ (rd_L7 l1 x5_1) true _ ?side1 ?side2 ?side3 ?side4 A7.out).mono ?_); (case side1 => repeat (first | exact HR166_0.out | (with_reducible refine Kd.C_alloc ?_ _) | (with_reducible refine Kd.C_drewN ?_ _) | (with_reducible refine Kd.C_drew ?_))); (case side2 => exact HC166_0.out); (case side3 => repeat (first | exact HR167_0.out | (with_reducible refine Kd.C_alloc ?_ _) | (with_reducible refine Kd.C_drewN ?_ _) | (with_reducible refine Kd.C_drew ?_))); (case side4 => exact HC167_0.out); rintro e w' ⟨rfl, ⟨nd, rfl⟩⟩; (try first | exact ⟨rfl, _, World.drewN_drewN _ _ _⟩ | exact ⟨rfl, _, Eq.trans (World.drewN_drewN _ _ _) (congrArg (World.drewN _) (Nat.add_assoc _ _ _))⟩))))
                go_roundg k1
                case measure => have := HK1.out; omega
                case rel => exact ⟨(wrap64 (x5_1 + 1)), (by first | rfl | (simp; done) | (simp [*]; done)), H', ⟨by have := HK1.out; omega⟩, by repeat (first | exact Drawn0.refl _ | apply Drawn0.step)⟩
              · replace c8 := Bool.eq_false_iff.mpr c8
                subst c8
                have H1 : (some false) = some r := by rw [if_neg (show ¬ (false = true) by decide)] at H; exact H
                clear H
                have H := H1
                clear H1
                obtain rfl := Option.some.inj H
                have p166 : 0 ≤ (x5_1 : Int) := of_decide_eq_true (by first | (with_reducible assumption) | assumption)
                have q166 : x5_1 < (l0.length : Int) := of_decide_eq_true (by first | (with_reducible assumption) | assumption)
                obtain ⟨ad166, A166_0, c166_0, e166, hx166_0, hl166_0, hi166_0⟩ := at_L7 HR0.out x5_1 p166 q166
                cases e166
                have HR166_0 := Aside0.mk hi166_0
                have HC166_0 := Aside0.mk hl166_0
                clear hi166_0 hl166_0
                replace p166 := eq_true p166
                replace q166 := eq_true q166
                have p167 : 0 ≤ (x5_1 : Int) := of_decide_eq_true (by first | (with_reducible assumption) | assumption)
                have q167 : x5_1 < (l1.length : Int) := of_decide_eq_true (by first | (with_reducible assumption) | assumption)
                obtain ⟨ad167, A167_0, c167_0, e167, hx167_0, hl167_0, hi167_0⟩ := at_L7 HR1.out x5_1 p167 q167
                cases e167
                have HR167_0 := Aside0.mk hi167_0
                have HC167_0 := Aside0.mk hl167_0
                clear hi167_0 hl167_0
                replace p167 := eq_true p167
                replace q167 := eq_true q167
                go_wp2_with (first | (go_at_call 49; (with_reducible refine (laws_eqIntS.calls k1 _ _ (rd_L7 l0 x5_1) _ _ (rd_L7 l1 x5_1) false _ ?side1 ?side2 ?side3 ?side4 A7.out).mono ?_); (case side1 => repeat (first | exact HR166_0.out | (with_reducible refine Kd.C_alloc ?_ _) | (with_reducible refine Kd.C_drewN ?_ _) | (with_reducible refine Kd.C_drew ?_))); (case side2 => exact HC166_0.out); (case side3 => repeat (first | exact HR167_0.out | (with_reducible refine Kd.C_alloc ?_ _) | (with_reducible refine Kd.C_drewN ?_ _) | (with_reducible refine Kd.C_drew ?_))); (case side4 => exact HC167_0.out); rintro e w' ⟨rfl, ⟨nd, rfl⟩⟩; (try first | exact ⟨rfl, _, World.drewN_drewN _ _ _⟩ | exact ⟨rfl, _, Eq.trans (World.drewN_drewN _ _ _) (congrArg (World.drewN _) (Nat.add_assoc _ _ _))⟩)))
                repeat (go_quiet (first | (go_at_call 49; (with_reducible refine (laws_eqIntS.calls k1 _ _ (rd_L7 l0 x5_1) _ _ (rd_L7 l1 x5_1) false _ ?side1 ?side2 ?side3 ?side4 A7.out).mono ?_); (case side1 => repeat (first | exact HR166_0.out | (with_reducible refine Kd.C_alloc ?_ _) | (with_reducible refine Kd.C_drewN ?_ _) | (with_reducible refine Kd.C_drew ?_))); (case side2 => exact HC166_0.out); (case side3 => repeat (first | exact HR167_0.out | (with_reducible refine Kd.C_alloc ?_ _) | (with_reducible refine Kd.C_drewN ?_ _) | (with_reducible refine Kd.C_drew ?_))); (case side4 => exact HC167_0.out); rintro e w' ⟨rfl, ⟨nd, rfl⟩⟩; (try first | exact ⟨rfl, _, World.drewN_drewN _ _ _⟩ | exact ⟨rfl, _, Eq.trans (World.drewN_drewN _ _ _) (congrArg (World.drewN _) (Nat.add_assoc _ _ _))⟩))); try go_wp2_with (first | (go_at_call 49; (with_reducible refine (laws_eqIntS.calls k1 _ _ (rd_L7 l0 x5_1) _ _ (rd_L7 l1 x5_1) false _ ?side1 ?side2 ?side3 ?side4 A7.out).mono ?_); (case side1 => repeat (first | exact HR166_0.out | (with_reducible refine Kd.C_alloc ?_ _) | (with_reducible refine Kd.C_drewN ?_ _) | (with_reducible refine Kd.C_drew ?_))); (case side2 => exact HC166_0.out); (case side3 => repeat (first | exact HR167_0.out | (with_reducible refine Kd.C_alloc ?_ _) | (with_reducible refine Kd.C_drewN ?_ _) | (with_reducible refine Kd.C_drew ?_))); (case side4 => exact HC167_0.out); rintro e w' ⟨rfl, ⟨nd, rfl⟩⟩; (try first | exact ⟨rfl, _, World.drewN_drewN _ _ _⟩ | exact ⟨rfl, _, Eq.trans (World.drewN_drewN _ _ _) (congrArg (World.drewN _) (Nat.add_assoc _ _ _))⟩))))
                go_ret
                exact ⟨by first | rfl | (simp; done) | (simp [*]; done), by repeat (first | exact Drawn0.refl _ | apply Drawn0.step)⟩
            · rw [if_neg c6] at H
              exact absurd H (by simp)
          · rw [if_neg c5] at H
            exact absurd H (by simp)
        · rw [if_neg c4] at H
          have c4b0 : decide (x5_1 < (l0.length : Int)) = false := decide_eq_false c4
          clear c4
          obtain rfl := Option.some.inj H
          go_wp2
          repeat (go_quiet (fail); try go_wp2)
          go_ret
          exact ⟨by first | rfl | (simp; done) | (simp [*]; done), by repeat (first | exact Drawn0.refl _ | apply Drawn0.step)⟩
  · rw [if_neg c3] at H
    have c3b0 : ((l0.length : Int) == (l1.length : Int)) = false := beq_eq_false_iff_ne.mpr c3
    have c3b1 : ((l0.length : Int) != (l1.length : Int)) = true := bne_iff_ne.mpr c3
    have c3b2 : (l0.length == l1.length) = false := by first | simpa using c3 | (simp at c3 ⊢; omega)
    obtain rfl := Option.some.inj H
    go_enter Try.func38, Try.ntmps38
    go_wp2
    repeat (go_quiet (fail); try go_wp2)
    go_ret
    exact ⟨by first | rfl | (simp; done) | (simp [*]; done), by repeat (first | exact Drawn0.refl _ | apply Drawn0.step)⟩

end Go.Proofs.Ytffkojdmidhchaa.P
end
section
/- impl.GridTurn and spec.GridTurn both turn a grid; copies and equality of rows. Condition: at most 1048576 rows and numbers. -/
namespace Go.Proofs.Ytffkojdmidhchaa.P
open Go.RowKit Go.Proofs.YtffkojdmidhchaaW.PrintWords Go.Proofs.YtffkojdmidhchaaW.PrintLast Go.Proofs.YtffkojdmidhchaaW.PrintMore
set_option linter.unusedVariables false
set_option linter.unusedSimpArgs false

/-- Grids: each row has c columns. -/
theorem grid_facts {l : List (List Int)} (h : gridB l = true) : 2 ≤ l.length ∧ l.length ≤ 6 ∧ 2 ≤ (l.getD 0 []).length ∧ (l.getD 0 []).length ≤ 6 ∧ ∀ i (hi : i < l.length), l[i].length = (l.getD 0 []).length := by
  unfold gridB at h
  simp only [Bool.and_eq_true, decide_eq_true_iff, List.all_eq_true] at h
  refine ⟨h.1.1, h.1.2, h.2.1.1, h.2.1.2, fun i hi => ?_⟩
  have := h.2.2 _ (List.getElem_mem hi)
  unfold rowB at this
  simp only [Bool.and_eq_true, decide_eq_true_iff] at this
  exact this.1
def colOf (l : List (List Int)) (j : Nat) : List Int := l.map fun r => r.getD j 0
def turnOf (l : List (List Int)) : List (List Int) := (List.range (l.getD 0 []).length).map (colOf l)
theorem colOf_take (l : List (List Int)) (j i : Nat) (h : i < l.length) : (colOf l j).take (i + 1) = (colOf l j).take i ++ [l[i].getD j 0] := by
  rw [List.take_succ_eq_append_getElem (by simpa [colOf] using h)]; simp [colOf]
theorem turnOf_take (l : List (List Int)) (j : Nat) (h : j < (l.getD 0 []).length) : (turnOf l).take (j + 1) = (turnOf l).take j ++ [colOf l j] := by
  rw [List.take_succ_eq_append_getElem (by simpa [turnOf] using h)]; simp [turnOf]
theorem turnOf_length (l : List (List Int)) : (turnOf l).length = (l.getD 0 []).length := by simp [turnOf]
theorem rdI (r : List Int) (j : Nat) : rd r (j : Int) = r.getD j 0 := by simp [rd]
theorem implTurn_l1 (l : List (List Int)) (h : gridB l = true) (j : Nat) (hj : j < (l.getD 0 []).length) (o : List (List Int)) (ho : o.length = j) (R : List (List Int) × Bool)
    (hn : Ev (fun k => impl_GridTurn.l0 k l (o ++ [colOf l j]) (l.getD 0 []).length ((j + 1 : Nat) : Int)) R) (d : Nat) : ∀ i : Nat, l.length - i = d → i ≤ l.length →
    Ev (fun k => impl_GridTurn.l1 k l o j ((colOf l j).take i) (l.getD 0 []).length j l.length i) R := by
  have hg := grid_facts h
  induction d with
  | zero =>
    intro i hd hi
    rw [List.take_of_length_le (by simp [colOf]; omega)]
    refine Ev.step (f := ?f1) ?h1 ?k1
    case h1 => intro k; simp only [impl_GridTurn.l1]; exact rfl
    case k1 =>
      refine Ev_neg (by omega) (Ev_pos (by omega) ?_)
      rw [wrap_succ (by omega)]
      exact hn
  | succ d ih =>
    intro i hd hi
    have hlt : i < l.length := by omega
    have hr := hg.2.2.2.2 i hlt
    refine Ev.step (f := ?f2) ?h2 ?k2
    case h2 => intro k; simp only [impl_GridTurn.l1]; exact rfl
    case k2 =>
      rw [rd_L7_get hlt, rdI, wrap_succ (by omega)]
      refine Ev_pos (by omega) (Ev_pos (by omega) (Ev_pos (by omega) (Ev_pos (by omega) (Ev_pos (by omega) (Ev_pos (by simp; omega) ?_)))))
      have := ih (i + 1) (by omega) (by omega)
      rw [colOf_take l j i hlt] at this
      exact this
theorem implTurn_l0 (l : List (List Int)) (h : gridB l = true) (d : Nat) : ∀ j : Nat, (l.getD 0 []).length - j = d → j ≤ (l.getD 0 []).length →
    Ev (fun k => impl_GridTurn.l0 k l ((turnOf l).take j) (l.getD 0 []).length j) (turnOf l, true) := by
  have hg := grid_facts h
  induction d with
  | zero =>
    intro j hd hj
    rw [List.take_of_length_le (by rw [turnOf_length]; omega)]
    refine Ev.step (f := ?f1) ?h1 ?k1
    case h1 => intro k; simp only [impl_GridTurn.l0]; exact rfl
    case k1 => exact Ev_neg (by omega) (Ev_some _)
  | succ d ih =>
    intro j hd hj
    refine Ev.step (f := ?f2) ?h2 ?k2
    case h2 => intro k; simp only [impl_GridTurn.l0]; exact rfl
    case k2 =>
      refine Ev_pos (by omega) (Ev_pos (by omega) (Ev_pos (by omega) ?_))
      have hn := ih (j + 1) (by omega) (by omega)
      rw [turnOf_take l j (by omega)] at hn
      have := implTurn_l1 l h j (by omega) ((turnOf l).take j) (by rw [List.length_take, turnOf_length]; omega) _ hn _ 0 rfl (by omega)
      simpa using this
def turnR (l : List (List Int)) : List (List Int) × Bool := if gridB l = true then (turnOf l, true) else ([], false)
theorem implTurn_ev (l : List (List Int)) : Ev (fun k => impl_GridTurn.f k l) (turnR l) := by
  unfold impl_GridTurn.f turnR
  refine Ev_bind (GridValid_ev l) ?_
  cases h : gridB l with
  | false => exact Ev_neg (by simp) (Ev_some _)
  | true =>
    have hg := grid_facts h
    have e0 : rd_L7 l 0 = l.getD 0 [] := rfl
    rw [e0, if_pos rfl]
    refine Ev_pos rfl (Ev_pos (by omega) (Ev_pos (by omega) (Ev_pos (by omega) ?_)))
    have := implTurn_l0 l h _ 0 rfl (by omega)
    simpa using this
theorem specGrid_l1 (l : List (List Int)) (hl : l.length ≤ 6) (i : Nat) (hi : i < l.length) (hr : l[i].length ≤ 6) (b : Bool) (hn : Ev (fun k => spec_GridValid.l0 k l ((i + 1 : Nat) : Int)) b) (d : Nat) : ∀ j : Nat, l[i].length - j = d → j ≤ l[i].length →
    Ev (fun k => spec_GridValid.l1 k l i j) ((l[i].drop j).all hB && b) := by
  induction d with
  | zero =>
    intro j hd hj
    rw [drop_end (by omega)]
    refine Ev.step (f := ?f1) ?h1 ?k1
    case h1 => intro k; simp only [spec_GridValid.l1]; exact rfl
    case k1 =>
      rw [rd_L7_get hi, wrap_succ (i := i) (by omega)]
      refine Ev_pos (by omega) (Ev_pos (by omega) (Ev_neg (by omega) ?_))
      simpa using hn
  | succ d ih =>
    intro j hd hj
    have hlt : j < l[i].length := by omega
    rw [drop_cons hlt, List.all_cons]
    refine Ev.step (f := ?f2) ?h2 ?k2
    case h2 => intro k; simp only [spec_GridValid.l1]; exact rfl
    case k2 =>
      rw [rd_L7_get hi, rd_get hlt, wrap_succ (by omega)]
      refine Ev_pos (by omega) (Ev_pos (by omega) (Ev_pos (by omega) (Ev_pos (by omega) ?_)))
      rw [l6In_f _ 0 1000 _ rfl]
      refine Ev_bind_some ?_
      show Ev (fun k => if hB l[i][j] = true then _ else _) _
      cases hB l[i][j] with
      | false => exact Ev_neg (by simp) (Ev_some _)
      | true => rw [Bool.true_and]; exact Ev_pos rfl (ih (j + 1) (by omega) (by omega))
theorem specGrid_l0 (l : List (List Int)) (hl : l.length ≤ 6) (h0 : 0 < l.length) (hc : (l.getD 0 []).length ≤ 6) (d : Nat) : ∀ i : Nat, l.length - i = d → i ≤ l.length →
    Ev (fun k => spec_GridValid.l0 k l i) ((l.drop i).all (rowB (l.getD 0 []).length)) := by
  induction d with
  | zero =>
    intro i hd hi
    rw [drop_end (by omega)]
    refine Ev_end fun k => ?_
    simp only [spec_GridValid.l0]; rw [if_neg (by omega)]; rfl
  | succ d ih =>
    intro i hd hi
    have hlt : i < l.length := by omega
    rw [drop_cons hlt, List.all_cons]
    refine Ev.step (f := ?f2) ?h2 ?k2
    case h2 => intro k; simp only [spec_GridValid.l0]; exact rfl
    case k2 =>
      refine Ev_pos (by omega) (Ev_pos (by omega) (Ev_pos (by omega) ?_))
      rw [rd_L7_get hlt, show rd_L7 l 0 = l.getD 0 [] from rfl]
      unfold rowB
      by_cases c1 : l[i].length = (l.getD 0 []).length
      · rw [decide_eq_true c1, Bool.true_and]
        have := specGrid_l1 l hl i hlt (by omega) _ (ih (i + 1) (by omega) (by omega)) _ 0 rfl (by omega)
        rw [List.drop_zero] at this
        exact Ev_pos (by omega) this
      · rw [decide_eq_false c1]
        exact Ev_neg (by omega) (Ev_some _)
theorem specGrid_ev (l : List (List Int)) : Ev (fun k => spec_GridValid.f k l) (gridB l) := by
  unfold spec_GridValid.f gridB
  rw [l6In_f _ 2 6 _ rfl]
  refine Ev_bind_some ?_
  have jt : Ev (fun k => spec_GridValid.j0 k l true) false := Ev_end fun k => by simp only [spec_GridValid.j0]; rfl
  by_cases c : 2 ≤ l.length ∧ l.length ≤ 6
  · rw [decide_eq_true c, decide_eq_true (show (2 : Int) ≤ (l.length : Int) ∧ (l.length : Int) ≤ 6 by omega), Bool.true_and]
    refine Ev_pos rfl (Ev_pos (by omega) ?_)
    rw [show rd_L7 l 0 = l.getD 0 [] from rfl, l6In_f _ 2 6 _ rfl]
    refine Ev_bind_some ?_
    by_cases d : 2 ≤ (l.getD 0 []).length ∧ (l.getD 0 []).length ≤ 6
    · rw [decide_eq_true d, decide_eq_true (show (2 : Int) ≤ ((l.getD 0 []).length : Int) ∧ ((l.getD 0 []).length : Int) ≤ 6 by omega), Bool.true_and]
      refine Ev.step (f := ?f2) ?h2 ?k2
      case h2 => intro k; simp only [spec_GridValid.j0]; exact rfl
      case k2 =>
        refine Ev_neg (by simp) ?_
        exact specGrid_l0 l c.2 (by omega) d.2 _ 0 rfl (by omega)
    · rw [decide_eq_false d, decide_eq_false (show ¬ ((2 : Int) ≤ ((l.getD 0 []).length : Int) ∧ ((l.getD 0 []).length : Int) ≤ 6) by omega)]
      exact jt
  · rw [decide_eq_false c, decide_eq_false (show ¬ ((2 : Int) ≤ (l.length : Int) ∧ (l.length : Int) ≤ 6) by omega)]
    exact Ev_neg (by simp) jt
theorem specTurn_l1 (l : List (List Int)) (h : gridB l = true) (j : Nat) (hj : j < (l.getD 0 []).length) (o : List (List Int)) (ho : o.length = j) (R : List (List Int) × Bool)
    (hn : Ev (fun k => spec_GridTurn.l0 k l (o ++ [colOf l j]) ((j + 1 : Nat) : Int)) R) (d : Nat) : ∀ i : Nat, l.length - i = d → i ≤ l.length →
    Ev (fun k => spec_GridTurn.l1 k l o j ((colOf l j).take i) i) R := by
  have hg := grid_facts h
  induction d with
  | zero =>
    intro i hd hi
    rw [List.take_of_length_le (by simp [colOf]; omega)]
    refine Ev.step (f := ?f1) ?h1 ?k1
    case h1 => intro k; simp only [spec_GridTurn.l1]; exact rfl
    case k1 =>
      refine Ev_neg (by omega) (Ev_pos (by omega) ?_)
      rw [wrap_succ (by omega)]
      exact hn
  | succ d ih =>
    intro i hd hi
    have hlt : i < l.length := by omega
    have hr := hg.2.2.2.2 i hlt
    refine Ev.step (f := ?f2) ?h2 ?k2
    case h2 => intro k; simp only [spec_GridTurn.l1]; exact rfl
    case k2 =>
      rw [rd_L7_get hlt, rdI, wrap_succ (by omega)]
      refine Ev_pos (by omega) (Ev_pos (by omega) (Ev_pos (by omega) (Ev_pos (by omega) (Ev_pos (by simp; omega) ?_))))
      have := ih (i + 1) (by omega) (by omega)
      rw [colOf_take l j i hlt] at this
      exact this
theorem specTurn_l0 (l : List (List Int)) (h : gridB l = true) (d : Nat) : ∀ j : Nat, (l.getD 0 []).length - j = d → j ≤ (l.getD 0 []).length →
    Ev (fun k => spec_GridTurn.l0 k l ((turnOf l).take j) j) (turnOf l, true) := by
  have hg := grid_facts h
  induction d with
  | zero =>
    intro j hd hj
    rw [List.take_of_length_le (by rw [turnOf_length]; omega)]
    refine Ev.step (f := ?f1) ?h1 ?k1
    case h1 => intro k; simp only [spec_GridTurn.l0]; exact rfl
    case k1 =>
      rw [show rd_L7 l 0 = l.getD 0 [] from rfl]
      exact Ev_pos (by omega) (Ev_neg (by omega) (Ev_some _))
  | succ d ih =>
    intro j hd hj
    refine Ev.step (f := ?f2) ?h2 ?k2
    case h2 => intro k; simp only [spec_GridTurn.l0]; exact rfl
    case k2 =>
      rw [show rd_L7 l 0 = l.getD 0 [] from rfl]
      refine Ev_pos (by omega) (Ev_pos (by omega) ?_)
      have hn := ih (j + 1) (by omega) (by omega)
      rw [turnOf_take l j (by omega)] at hn
      have := specTurn_l1 l h j (by omega) ((turnOf l).take j) (by rw [List.length_take, turnOf_length]; omega) _ hn _ 0 rfl (by omega)
      simpa using this
theorem specTurn_ev (l : List (List Int)) : Ev (fun k => spec_GridTurn.f k l) (turnR l) := by
  unfold spec_GridTurn.f turnR
  refine Ev_bind_some (Ev_bind (specGrid_ev l) ?_)
  cases h : gridB l with
  | false => exact Ev_neg (by simp) (Ev_some _)
  | true =>
    rw [if_pos rfl]
    have := specTurn_l0 l h _ 0 rfl (by omega)
    exact Ev_pos rfl (by simpa using this)
theorem turnR_small (l : List (List Int)) : (turnR l).1.length ≤ 6 ∧ many (turnR l).1 ≤ 36 ∧ ∀ r ∈ (turnR l).1, r.length ≤ 6 := by
  unfold turnR
  cases h : gridB l with
  | false => simp [many]
  | true =>
    have hg := grid_facts h
    rw [if_pos rfl]
    have hr : ∀ r ∈ turnOf l, r.length ≤ 6 := fun r hr => by
      obtain ⟨j, _, rfl⟩ := List.mem_map.1 hr
      simp [colOf]; omega
    have hs : ∀ q : List (List Int), (∀ r ∈ q, r.length ≤ 6) → many q ≤ 6 * q.length := by
      intro q
      induction q with
      | nil => intro _; simp [many]
      | cons r q ih =>
        intro h
        have := ih (fun x hx => h x (by simp [hx]))
        have := h r (by simp)
        rw [many_cons, List.length_cons]; omega
    have := hs _ hr
    simp only
    rw [turnOf_length] at *
    exact ⟨by omega, by omega, hr⟩
theorem toIntSS_loop (l : List (List Int)) (hl : l.length ≤ 1048576) (hm : many l ≤ 1048576) (d : Nat) : ∀ (i : Nat) (xs : List (List Int)), l.length - i = d → i ≤ l.length → xs.length = l.length → xs.take i = l.take i → Ev (fun k => laws_toIntSS.l0 k l xs i) l := by
  induction d with
  | zero =>
    intro i xs hd hi hx ht
    have : xs = l := by rw [List.take_of_length_le (by omega), List.take_of_length_le (by omega)] at ht; exact ht
    subst this
    exact Ev_end (fun k => by simp only [laws_toIntSS.l0]; rw [if_neg (by omega)])
  | succ d ih =>
    intro i xs hd hi hx ht
    have hlt : i < l.length := by omega
    have := mem_many hlt
    refine Ev.step (f := ?f2) ?h2 ?k2
    case h2 => intro k; simp only [laws_toIntSS.l0]; exact rfl
    case k2 =>
      rw [rd_L7_get hlt, wrap_succ (by omega)]
      refine Ev_pos (by omega) (Ev_pos (by omega) (Ev_bind (toIntS_ev l[i] (by omega)) (Ev_pos (by omega) ?_)))
      rw [Int.toNat_natCast]
      exact ih (i + 1) (xs.set i l[i]) (by omega) (by omega) (by simpa using hx) (take_set xs l i hlt hx ht)
theorem toIntSS_ev (l : List (List Int)) (hl : l.length ≤ 1048576) (hm : many l ≤ 1048576) : Ev (fun k => laws_toIntSS.f k l) l := by
  unfold laws_toIntSS.f
  refine Ev_pos (by omega) (Ev_pos (by omega) ?_)
  exact toIntSS_loop l hl hm l.length 0 _ (by omega) (by omega) (by simp) (by simp)
theorem eqIntSS_loop (l : List (List Int)) (hl : l.length ≤ 1048576) (hm : many l ≤ 1048576) (d : Nat) : ∀ (i : Nat), l.length - i = d → i ≤ l.length → Ev (fun k => laws_eqIntSS.l0 k l l i) true := by
  induction d with
  | zero =>
    intro i hd hi
    exact Ev_end (fun k => by simp only [laws_eqIntSS.l0]; rw [if_neg (by omega)])
  | succ d ih =>
    intro i hd hi
    have hlt : i < l.length := by omega
    have := mem_many hlt
    refine Ev.step (f := ?f2) ?h2 ?k2
    case h2 => intro k; simp only [laws_eqIntSS.l0]; exact rfl
    case k2 =>
      rw [rd_L7_get hlt, wrap_succ (by omega)]
      exact Ev_pos (by omega) (Ev_pos (by omega) (Ev_pos (by omega) (Ev_bind (eqIntS_ev l[i] (by omega)) (Ev_pos rfl (ih (i + 1) (by omega) (by omega))))))
theorem eqIntSS_ev (l : List (List Int)) (hl : l.length ≤ 1048576) (hm : many l ≤ 1048576) : Ev (fun k => laws_eqIntSS.f k l l) true := by
  unfold laws_eqIntSS.f
  exact Ev_pos rfl (eqIntSS_loop l hl hm l.length 0 (by omega) (by omega))
/-- The size: too great, or at most 1048576 rows and numbers. -/
theorem szIntSS_loop (l : List (List Int)) (hl : l.length ≤ 1048576) (hx : ∀ r ∈ l, r.length ≤ 9223372036854775807) (d : Nat) : ∀ (i : Nat) (a : Int), l.length - i = d → i ≤ l.length → 0 ≤ a → a + many (l.take i) ≤ 1048576 →
    Ev (fun k => laws_szIntSS.l0 k l a i) (-1) ∨ (∃ r : Int, 0 ≤ r ∧ Ev (fun k => laws_szIntSS.l0 k l a i) r ∧ many l ≤ 1048576) := by
  induction d with
  | zero =>
    intro i a hd hi h0 h1
    right
    rw [List.take_of_length_le (by omega)] at h1
    exact ⟨a, h0, Ev_end (fun k => by simp only [laws_szIntSS.l0]; rw [if_neg (by omega)]), by omega⟩
  | succ d ih =>
    intro i a hd hi h0 h1
    have hlt : i < l.length := by omega
    have hr := hx _ (List.getElem_mem hlt)
    have e : wrap64 (a - (l[i].length : Int)) = a - l[i].length := Go.Proofs.Ytffkojdmidhchaa.P.wrap_small (by omega) (by omega)
    by_cases c : a - (l[i].length : Int) < 0
    · left
      refine Ev.step (f := ?f2) ?h2 ?k2
      case h2 => intro k; simp only [laws_szIntSS.l0]; exact rfl
      case k2 =>
        refine Ev_pos (by omega) (Ev_pos (by omega) ?_)
        rw [rd_L7_get hlt]
        unfold laws_szIntS.f
        rw [e, if_pos c]
        exact Ev_bind_some (Ev_pos (by omega) (Ev_some _))
    · have st : ∀ r, Ev (fun k => laws_szIntSS.l0 k l (a - l[i].length) ((i + 1 : Nat) : Int)) r → Ev (fun k => laws_szIntSS.l0 k l a i) r := by
        intro r h
        refine Ev.step (f := ?f3) ?h3 ?k3
        case h3 => intro k; simp only [laws_szIntSS.l0]; exact rfl
        case k3 =>
          refine Ev_pos (by omega) (Ev_pos (by omega) ?_)
          rw [rd_L7_get hlt]
          unfold laws_szIntS.f
          rw [e, if_neg c, wrap_succ (by omega)]
          exact Ev_bind_some (Ev_neg (by omega) h)
      rcases ih (i + 1) (a - l[i].length) (by omega) (by omega) (by omega) (by rw [take_many l i hlt]; push_cast; omega) with h | ⟨r, h0, h, hm⟩
      · exact .inl (st _ h)
      · exact .inr ⟨r, h0, st _ h, hm⟩
theorem szIntSS_ev (l : List (List Int)) (hl : l.length ≤ 9223372036854775807) (hx : ∀ r ∈ l, r.length ≤ 9223372036854775807) :
    Ev (fun k => laws_szIntSS.f k l 1048576) (-1) ∨ (∃ r : Int, 0 ≤ r ∧ Ev (fun k => laws_szIntSS.f k l 1048576) r ∧ l.length ≤ 1048576 ∧ many l ≤ 1048576) := by
  unfold laws_szIntSS.f
  have e : wrap64 (1048576 - (l.length : Int)) = 1048576 - l.length := Go.Proofs.Ytffkojdmidhchaa.P.wrap_small (by omega) (by omega)
  rw [e]
  by_cases c : (1048576 : Int) - l.length < 0
  · left; exact Ev_pos c (Ev_some _)
  · rcases szIntSS_loop l (by omega) hx _ 0 (1048576 - l.length) rfl (by omega) (by omega) (by simp [many]; omega) with h | ⟨r, h0, h, hm⟩
    · exact .inl (Ev_neg c h)
    · exact .inr ⟨r, h0, Ev_neg c h, by omega, hm⟩
end Go.Proofs.Ytffkojdmidhchaa.P
end
section
/- The law FnExactGridTurn: the walk. No condition. -/
namespace Go.Proofs.Ytffkojdmidhchaa.P
open Go.RowKit Go.Proofs.YtffkojdmidhchaaW.PrintWords Go.Proofs.YtffkojdmidhchaaW.PrintLast Go.Proofs.YtffkojdmidhchaaW.PrintMore
set_option linter.unusedVariables false
set_option linter.unusedSimpArgs false
set_option maxHeartbeats 8000000
set_option maxRecDepth 20000

/-- Rows that lie apart, in blocks from lo to hi. -/
def Rw (W : World) (bs lo hi : Nat) (v : Value) (xs : List (List Int)) : Prop := ∃ A c, v = .slice A xs.length c ∧ xs.length ≤ c ∧ Kd.S dSS 62 W bs (fun k => lo ≤ k ∧ k < hi) v xs ∧ hi ≤ W.heap.size
theorem Rw.of {W w' : World} {v : Value} {xs : List (List Int)} (h : Kd.S dSS 62 w' W.heap.size (fun _ => True) v xs) : Rw w' W.heap.size W.heap.size w'.heap.size v xs := by
  obtain ⟨A, c, rfl, hc, _⟩ := Kd.S_reads h
  exact ⟨A, c, rfl, hc, Kd.S_mono (Kd.S_bound h) (fun k hk => ⟨hk.2.1, hk.2.2.1⟩), Nat.le_refl _⟩
theorem Rw.lower {W : World} {bs bs' lo hi : Nat} {v : Value} {xs : List (List Int)} (h : Rw W bs lo hi v xs) (hb : bs' ≤ bs) : Rw W bs' lo hi v xs := by
  obtain ⟨A, c, e, hc, hS, hh⟩ := h
  exact ⟨A, c, e, hc, Kd.S_lower hS hb, hh⟩
theorem Rw.keep {W w' : World} {bs lo hi : Nat} {v : Value} {xs : List (List Int)} {S : Nat → Prop} (h : Rw W bs lo hi v xs) (hk : Kept W w' S) (hs : ∀ k, lo ≤ k → k < hi → ¬ S k) : Rw w' bs lo hi v xs := by
  obtain ⟨A, c, e, hc, hS, hh⟩ := h
  exact ⟨A, c, e, hc, Kd.S_step hS (fun k ho hl => hk.2 k hl (hs k ho.1 ho.2)), Nat.le_trans hh hk.1⟩
theorem Rw.below {W w' : World} {bs lo hi : Nat} {v : Value} {xs : List (List Int)} (h : Rw W bs lo hi v xs) (hb : Below W.heap.size W w') : Rw w' bs lo hi v xs := h.keep (Kept.of_below hb (fun _ => False)) (fun _ _ _ h => h)
theorem Rw.drewN {W : World} {bs lo hi : Nat} {v : Value} {xs : List (List Int)} (h : Rw W bs lo hi v xs) (q : Nat) : Rw (W.drewN q) bs lo hi v xs := h.below (pw_below_drewN (Below.refl _ _) q)
theorem Rw.C {W : World} {bs lo hi : Nat} {A : Option Addr} {n c : Nat} {xs : List (List Int)} (h : Rw W bs lo hi (.slice A n c) xs) : Kd.C dSS W A xs.length xs := by
  obtain ⟨A', c', e, hc, hS, hh⟩ := h
  injection e with e1 e2 e3
  subst e1 e3
  obtain ⟨A2, c2, e, hc2, hC⟩ := Kd.S_reads hS
  injection e with e1 e2 e3
  subst e1
  exact hC
theorem Rw.cap {W : World} {bs lo hi : Nat} {A : Option Addr} {n c : Nat} {xs : List (List Int)} (h : Rw W bs lo hi (.slice A n c) xs) : xs.length ≤ c := by
  obtain ⟨A', c', e, hc, hS, hh⟩ := h
  injection e with e1 e2 e3
  subst e3; exact hc
theorem to_any (l : List (List Int)) (hl : l.length ≤ 1048576) (hm : many l ≤ 1048576) (W : World) (A : Option Addr) (c : Nat) (hC : Kd.C dSS W A l.length l) (hc : l.length ≤ c) :
    Calls Try.prog 36 #[.slice A l.length c] W fun e w' => ∃ A' c', e = .returned (.slice A' l.length c') ∧ Rw w' W.heap.size W.heap.size w'.heap.size (.slice A' l.length c') l ∧ Below W.heap.size W w' := by
  obtain ⟨K, hK⟩ := toIntSS_ev l hl hm
  refine (laws_toIntSS.calls K A c l l W hC hc (hK K (Nat.le_refl _))).mono ?_
  rintro e w' ⟨v, rfl, hS, hB⟩
  have hR := Rw.of hS
  have hR2 := hR
  obtain ⟨A', c', rfl, _⟩ := hR2
  exact ⟨A', c', rfl, hR, hB⟩
theorem specT_any (l : List (List Int)) (W : World) (A : Option Addr) (c : Nat) (hC : Kd.C dSS W A l.length l) (hc : l.length ≤ c) :
    Calls Try.prog 35 #[.slice A l.length c] W fun e w' => ∃ A' c', e = .returned (.tuple #[.slice A' (turnR l).1.length c', .bool (turnR l).2]) ∧ Rw w' W.heap.size W.heap.size w'.heap.size (.slice A' (turnR l).1.length c') (turnR l).1 ∧ Below W.heap.size W w' := by
  obtain ⟨K, hK⟩ := specTurn_ev l
  refine (spec_GridTurn.calls K A c l (turnR l).1 (turnR l).2 W hC hc (hK K (Nat.le_refl _))).mono ?_
  rintro e w' ⟨v, rfl, hS, hB⟩
  have hR := Rw.of hS
  have hR2 := hR
  obtain ⟨A', c', rfl, _⟩ := hR2
  exact ⟨A', c', rfl, hR, hB⟩
theorem implT_any (l : List (List Int)) (W : World) (A : Option Addr) (c : Nat) (hC : Kd.C dSS W A l.length l) (hc : l.length ≤ c) :
    Calls Try.prog 37 #[.slice A l.length c] W fun e w' => ∃ A' c', e = .returned (.tuple #[.slice A' (turnR l).1.length c', .bool (turnR l).2]) ∧ Rw w' W.heap.size W.heap.size w'.heap.size (.slice A' (turnR l).1.length c') (turnR l).1 ∧ Below W.heap.size W w' := by
  obtain ⟨K, hK⟩ := implTurn_ev l
  refine (impl_GridTurn.calls K A c l (turnR l).1 (turnR l).2 W hC hc (hK K (Nat.le_refl _))).mono ?_
  rintro e w' ⟨v, rfl, hS, hB⟩
  have hR := Rw.of hS
  have hR2 := hR
  obtain ⟨A', c', rfl, _⟩ := hR2
  exact ⟨A', c', rfl, hR, hB⟩
theorem eqT_any (l : List (List Int)) (hl : l.length ≤ 1048576) (hm : many l ≤ 1048576) (W : World) (bs lo hi bs2 lo2 hi2 : Nat) (A : Option Addr) (c : Nat) (A2 : Option Addr) (c2 : Nat) (h : Rw W bs lo hi (.slice A l.length c) l) (h2 : Rw W bs2 lo2 hi2 (.slice A2 l.length c2) l) :
    Calls Try.prog 38 #[.slice A l.length c, .slice A2 l.length c2] W fun e w' => e = .returned (.bool true) ∧ ∃ q, W.drewN q = w' := by
  obtain ⟨K, hK⟩ := eqIntSS_ev l hl hm
  refine (laws_eqIntSS.calls K A c l A2 c2 l true W h.C h.cap h2.C h2.cap (hK K (Nat.le_refl _))).mono ?_
  rintro e w' ⟨rfl, ⟨q, rfl⟩⟩
  exact ⟨rfl, q, rfl⟩
theorem markT_any (l : List (List Int)) (hl : l.length ≤ 1048576) (hm : many l ≤ 1048576) (W0 W : World) (bs lo hi : Nat) (A : Option Addr) (c : Nat) (hB : Below W0.heap.size W0 W) (hle : W0.heap.size ≤ bs) (h : Rw W bs lo hi (.slice A l.length c) l) :
    Calls Try.prog 39 #[.slice A l.length c, .int .i64 1] W fun e w' => e = .returned (.int .i64 (1 + many l)) ∧ Rw w' W0.heap.size lo hi (.slice A l.length c) (seqMM l 1) ∧ Below W0.heap.size W0 w' ∧ Kept W w' (fun k => lo ≤ k ∧ k < hi) := by
  obtain ⟨A', c', e, hc, hS, hh⟩ := h.lower hle
  refine (markSS_calls _ l 1 _ W0 W hB hS hl hm (by omega) (by omega)).mono ?_
  rintro e w' ⟨rfl, hS', hB', hK⟩
  refine ⟨rfl, ⟨A', c', by rw [seqMM_length]; exact e, by rw [seqMM_length]; exact hc, hS', Nat.le_trans hh hK.1⟩, hB', hK⟩
theorem heldT_any (l : List (List Int)) (hl : l.length ≤ 1048576) (hm : many l ≤ 1048576) (W : World) (bs lo hi : Nat) (A : Option Addr) (c : Nat) (h : Rw W bs lo hi (.slice A l.length c) (seqMM l 1)) :
    Calls Try.prog 40 #[.slice A l.length c, .int .i64 1] W fun e w' => e = .returned (.int .i64 (1 + many l)) ∧ ∃ q, W.drewN q = w' := by
  obtain ⟨K, hK⟩ := heldSS_ev l 1 hl hm (by omega) (by omega)
  have hc := h.cap
  have hC := h.C
  have := laws_heldIntSS.calls K A c (seqMM l 1) 1 (1 + many l) W hC hc (hK K (Nat.le_refl _))
  rw [seqMM_length] at this
  refine this.mono ?_
  rintro e w' ⟨rfl, ⟨q, rfl⟩⟩
  exact ⟨rfl, q, rfl⟩
theorem grid_big (A0 : Option Addr) (c0 : Nat) (l : List (List Int)) (w : World) (hC : Kd.C dSS w A0 l.length l) (hc : l.length ≤ c0) (h : Ev (fun k => laws_szIntSS.f k l 1048576) (-1)) :
    Calls Try.prog 6 #[.slice A0 l.length c0] w fun e w' => e = .returned (.bool true) ∧ Below w.heap.size w w' := by
  obtain ⟨K, hK⟩ := h
  have HS := Aside0.mk (laws_szIntSS.calls K A0 c0 l 1048576 (-1) w hC hc (hK K (Nat.le_refl _)))
  go_enter Try.func6, Try.ntmps6
  go_wp2_with (go_at_call 34; refine HS.out.mono ?_; rintro e w1 ⟨rfl, ⟨q, rfl⟩⟩)
  go_ret
  exact ⟨rfl, pw_below_drewN (Below.refl _ _) q⟩
theorem grid_small (A0 : Option Addr) (c0 : Nat) (l : List (List Int)) (w : World) (hC : Kd.C dSS w A0 l.length l) (hc : l.length ≤ c0) (r : Int) (hr : 0 ≤ r) (h : Ev (fun k => laws_szIntSS.f k l 1048576) r) (hl : l.length ≤ 1048576) (hm : many l ≤ 1048576) :
    Calls Try.prog 6 #[.slice A0 l.length c0] w fun e w' => e = .returned (.bool true) ∧ Below w.heap.size w w' := by
  obtain ⟨K, hK⟩ := h
  have hsm := turnR_small l
  have HS := Aside0.mk (laws_szIntSS.calls K A0 c0 l 1048576 r w hC hc (hK K (Nat.le_refl _)))
  have HT := Aside0.mk (fun (W : World) (A : Option Addr) (c : Nat) h1 h2 => to_any l hl hm W A c h1 h2)
  have HP := Aside0.mk (fun (W : World) (A : Option Addr) (c : Nat) h1 h2 => specT_any l W A c h1 h2)
  have HI := Aside0.mk (fun (W : World) (A : Option Addr) (c : Nat) h1 h2 => implT_any l W A c h1 h2)
  have HL := Aside0.mk (fun (W : World) => eqT_any l hl hm W)
  have HM := Aside0.mk (fun (W0 W : World) => markT_any l hl hm W0 W)
  have HQ := Aside0.mk (fun (W : World) => eqT_any (turnR l).1 (by omega) (by omega) W)
  have HN := Aside0.mk (fun (W0 W : World) => markT_any (turnR l).1 (by omega) (by omega) W0 W)
  have HH := Aside0.mk (fun (W : World) => heldT_any (turnR l).1 (by omega) (by omega) W)
  have hC0 := Aside0.mk hC
  have hc0 := Aside0.mk hc
  have hmm : (many (turnR l).1 : Int) ≤ 36 := by omega
  have hn1 : ((1 : Int) + many (turnR l).1 < 0) = False := by simp; omega
  have hn2 : ((1 : Int) + many l < 0) = False := by simp; omega
  have dn1 : decide ((1 : Int) + many (turnR l).1 < 0) = false := by simp; omega
  have dn2 : decide ((1 : Int) + many l < 0) = false := by simp; omega
  generalize (turnR l).2 = b at *
  generalize hTR : (turnR l).1 = T at *
  clear hK hC hc
  go_enter Try.func6, Try.ntmps6
  go_wp2_with (first
    | (go_at_call 40; refine (HH.out _ _ _ _ _ _ G9).mono ?_; rintro e w9d ⟨rfl, q9, rfl⟩)
    | (go_at_call 38; refine (HQ.out _ _ _ _ _ _ _ _ _ _ _ H9 W9).mono ?_; rintro e w9e ⟨rfl, q9e, rfl⟩; have G9 := Rw.drewN G9p q9e)
    | (go_at_call 37; refine (HI.out _ _ _ Z8.C Z8.cap).mono ?_; rintro e w9 ⟨A9, c9, rfl, H9, hB9⟩; have W9 := Rw.below W8 hB9; have G9p := Rw.below G8 hB9; have B9 := below_step B8 hB9)
    | (go_at_call 36; refine (HT.out _ _ _ (Kd.C_below hC0.out B7) hc0.out).mono ?_; rintro e w8 ⟨A8, c8, rfl, Z8, hB8⟩; have W8 := Rw.below W7 hB8; have G8 := Rw.below G7d hB8; have B8 := below_step B7 hB8; clear B7)
    | (go_at_call 40; refine (HH.out _ _ _ _ _ _ G7).mono ?_; rintro e w7d ⟨rfl, q7, rfl⟩; have W7 := Rw.drewN W6b q7; have G7d := Rw.drewN G7 q7; have B7 := pw_below_drewN (Below.mono Bg7 S2.1) q7; have B7 := Below.trans (Below.mono S2.2 (Nat.le_refl _)) B7; clear G7)
    | (go_at_call 39; refine (HN.out w2 _ _ _ _ _ _ Bx6d (Nat.le_of_lt_succ (Nat.lt_succ_of_le S3)) G6).mono ?_; rintro e w7 ⟨rfl, G7, Bg7, K7⟩; have W6b := Rw.keep W6 K7 (fun k h1 h2 h3 => by omega))
    | (go_at_call 38; refine (HQ.out _ _ _ _ _ _ _ _ _ _ _ G6p W6p).mono ?_; rintro e w6d ⟨rfl, q6, rfl⟩; have G6 := Rw.drewN G6p q6; have W6 := Rw.drewN W6p q6; have Bx6d := pw_below_drewN Bx6 q6; clear G6p W6p)
    | (go_at_call 39; refine (HM.out w2 _ _ _ _ _ _ Bx5d (Nat.le_refl _) X5).mono ?_; rintro e w6 ⟨rfl, X6, Bx6, K6⟩; have G6p := Rw.keep G5 K6 (fun k h1 h2 h3 => by omega); have W6p := Rw.keep W5 K6 (fun k h1 h2 h3 => by omega))
    | (go_at_call 38; refine (HL.out _ _ _ _ _ _ _ _ _ _ _ X5p Y5).mono ?_; rintro e w5d ⟨rfl, q5, rfl⟩; have G5 := Rw.drewN G5p q5; have W5 := Rw.drewN W5p q5; have X5 := Rw.drewN X5p q5; have Bx5d := pw_below_drewN Bx5 q5; clear X5p)
    | (go_at_call 36; refine (HT.out _ _ _ (Kd.C_below hC0.out B4) hc0.out).mono ?_; rintro e w5 ⟨A5, c5, rfl, Y5, hB5⟩; have G5p := Rw.below G4 hB5; have W5p := Rw.below W4 hB5; have X5p := Rw.below X4 hB5; have Bx5 := below_step Bx4d hB5; clear B4)
    | (go_at_call 38; refine (HQ.out _ _ _ _ _ _ _ _ _ _ _ G4p W4p).mono ?_; rintro e w4d ⟨rfl, q4, rfl⟩; have G4 := Rw.drewN G4p q4; have W4 := Rw.drewN W4p q4; have X4 := Rw.drewN X4p q4; have B4 := pw_below_drewN B4p q4; have Bx4d := pw_below_drewN Bx4 q4; clear G4p)
    | (go_at_call 37; refine (HI.out _ _ _ X3.C X3.cap).mono ?_; rintro e w4 ⟨A4, c4, rfl, G4p, hB4⟩; have W4p := Rw.below W3 hB4; have X4p := Rw.below X3 hB4; have B4p := below_step B3 hB4; have Bx4 := below_step Bx3 hB4; clear B3)
    | (go_at_call 36; refine (HT.out _ _ _ (Kd.C_below hC0.out B2) hc0.out).mono ?_; rintro e w3 ⟨A3, c3, rfl, X3, Bx3⟩; have W3 := Rw.below W2 Bx3; have B3 := below_step B2 Bx3; have S2 : w.heap.size ≤ w2.heap.size ∧ Below w.heap.size w w2 := ⟨B2.size, B2⟩; have S3 : w2.heap.size ≤ w3.heap.size := Bx3.size; clear B2)
    | (go_at_call 35; refine (HP.out _ _ _ X1.C X1.cap).mono ?_; rintro e w2 ⟨A2, c2, rfl, W2, hB2⟩; have B2 := below_step B1 hB2)
    | (go_at_call 36; refine (HT.out _ _ _ (Kd.C_drewN hC0.out _) hc0.out).mono ?_; rintro e w1 ⟨A1, c1, rfl, X1, hB1⟩; have B1 := below_step (pw_below_drewN (Below.refl _ w) _) hB1)
    | (go_at_call 34; refine HS.out.mono ?_; rintro e w0 ⟨rfl, ⟨q, rfl⟩⟩))
  go_ret
  exact ⟨rfl, pw_below_drewN B9 _⟩
theorem exactGrid (A0 : Option Addr) (c0 : Nat) (l : List (List Int)) (w : World) (hC : Kd.C dSS w A0 l.length l) (hc : l.length ≤ c0) :
    Calls Try.prog 6 #[.slice A0 l.length c0] w fun e w' => e = .returned (.bool true) ∧ Below w.heap.size w w' := by
  have hx : ∀ r ∈ l, r.length ≤ 9223372036854775807 := by
    intro r hr
    obtain ⟨i, hi, rfl⟩ := List.getElem_of_mem hr
    obtain ⟨ad, A, c, _, _, _, h⟩ := at_L7 hC i (by omega) (by omega)
    rw [rd_L7_get hi] at h
    exact h.2.1
  rcases szIntSS_ev l hC.2.1 hx with h | ⟨r, hr, h, hl, hm⟩
  · exact grid_big A0 c0 l w hC hc h
  · exact grid_small A0 c0 l w hC hc r hr h hl hm
end Go.Proofs.Ytffkojdmidhchaa.P
end
