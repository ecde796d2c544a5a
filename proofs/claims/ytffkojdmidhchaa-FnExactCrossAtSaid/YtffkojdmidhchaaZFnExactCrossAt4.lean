/- Parts of the proof of the law FnExactCrossAt: the plain functions, their contracts and the plain law (merged texts of this session, part 4 of 4). -/
import Derived.Test.YtffkojdmidhchaaZFnExactCrossAt1
import Derived.Test.YtffkojdmidhchaaZFnExactCrossAt3
section
-- written by wip/tools/mkprint.py (a program of this session over the kit's print). Lean checks it.
namespace Go.Proofs.Ytffkojdmidhchaa.P
open Go.RowKit Go.Proofs.YtffkojdmidhchaaW.PrintWords Go.Proofs.YtffkojdmidhchaaW.PrintLast Go.Proofs.YtffkojdmidhchaaW.PrintMore
attribute [local go_sem] max2_int min2_int max_two min_two max_three min_three max_four min_four   -- for this text's walks alone
set_option linter.unusedVariables false
set_option linter.unusedSimpArgs false

/-! ### laws_eqQuo: function 44 -/
def laws_eqQuo.f (a0_0 : Int) (a0_1 : Int) (a1_0 : Int) (a1_1 : Int) : Option (Bool) := if a0_0 = a1_0 then (if a0_1 = a1_1 then (some true) else (some false)) else (some false)
set_option maxHeartbeats 8000000 in
set_option maxRecDepth 100000 in
theorem laws_eqQuo.calls (a0_0 : Int) (a0_1 : Int) (a1_0 : Int) (a1_1 : Int) (r : Bool) (w : World) (h : laws_eqQuo.f a0_0 a0_1 a1_0 a1_1 = some r) :
    Calls Try.prog 44 #[.agg #[.int .i64 a0_0, .int .i64 a0_1], .agg #[.int .i64 a1_0, .int .i64 a1_1]] w fun e w' => e = .returned (.bool r) ∧ Below w.heap.size w w' := by
  have hu43 := Try.underlying43
  have HB := Aside0.mk (Below.refl w.heap.size w)
  have H : (if a0_0 = a1_0 then (if a0_1 = a1_1 then (some true) else (some false)) else (some false)) = some r := h
  clear h
  by_cases c3 : a0_0 = a1_0
  · rw [if_pos c3] at H
    have c3b0 : (a0_0 == a1_0) = true := beq_iff_eq.mpr c3
    have c3b1 : (a0_0 != a1_0) = false := bne_eq_false_iff_eq.mpr c3
    clear c3
    by_cases c4 : a0_1 = a1_1
    · rw [if_pos c4] at H
      have c4b0 : (a0_1 == a1_1) = true := beq_iff_eq.mpr c4
      have c4b1 : (a0_1 != a1_1) = false := bne_eq_false_iff_eq.mpr c4
      clear c4
      obtain rfl := Option.some.inj H
      go_enter Try.func44, Try.ntmps44
      go_wp2_with (first | ((with_reducible refine gate_dst (N := 2) rfl ?_); refine box_event ?hg (N := 2) ?hd (cs := #[.int .i64 a0_0, .int .i64 a0_1]) (t := 43) ?hr ?_; (case hd => rfl); (case hg => rfl); (case hr => first | (go_simp; done) | (go_simp; rfl)); intro gb256 hg w5 hbox hb; have n0_ := Aside0.mk (below_step (by repeat (first | (with_reducible first | exact HB.out | apply below_alloc | apply pw_below_drewN | apply below_drew1) | exact HB.out)) hb); have n1_ := Aside0.mk (hbox); have n2_ := Aside0.mk ((by rw [hg]; exact (below_size (by repeat (first | (with_reducible first | exact HB.out | apply below_alloc | apply pw_below_drewN | apply below_drew1) | exact HB.out))) : w.heap.size ≤ gb256)); have n3_ := Aside0.mk ((by rw [hg]; exact (below_size (by repeat (first | (with_reducible first | exact HB.out | apply below_alloc | apply pw_below_drewN | apply below_drew1) | exact HB.out))) : w.heap.size ≤ gb256)); clear HB; have HB := n0_; have BK256 := n1_; have GW256 := n2_; have GE256 := n3_; clear n0_ n1_ n2_ n3_; clear hb hbox hg) | ((with_reducible refine gate_dst (N := 3) rfl ?_); refine box_event ?hg (N := 3) ?hd (cs := #[.int .i64 a1_0, .int .i64 a1_1]) (t := 43) ?hr ?_; (case hd => rfl); (case hg => rfl); (case hr => first | (go_simp; done) | (go_simp; rfl)); intro gb257 hg w6 hbox hb; have n0_ := Aside0.mk (blk_below (g := gb256) (o := .cells #[.int .i64 a0_0, .int .i64 a0_1] 43 (0, 0)) (by (with_reducible repeat (first | refine blk_drewN ?_ _ | refine blk_drew ?_ | refine blk_alloc ?_ _)); exact BK256.out) hb); have n1_ := Aside0.mk (below_step (by repeat (first | (with_reducible first | exact HB.out | apply below_alloc | apply pw_below_drewN | apply below_drew1 | refine below_set ?_ GE256.out) | exact HB.out)) hb); have n2_ := Aside0.mk (hbox); have n3_ := Aside0.mk ((by rw [hg]; exact (below_size (by repeat (first | (with_reducible first | exact HB.out | apply below_alloc | apply pw_below_drewN | apply below_drew1 | refine below_set ?_ GE256.out) | exact HB.out))) : w.heap.size ≤ gb257)); have n4_ := Aside0.mk ((by rw [hg]; exact (below_size (by repeat (first | (with_reducible first | exact HB.out | apply below_alloc | apply pw_below_drewN | apply below_drew1 | refine below_set ?_ GE256.out) | exact HB.out))) : w.heap.size ≤ gb257)); have n5_ := Aside0.mk ((by rw [hg]; exact Nat.ne_of_lt (blk_lt (g := gb256) (o := .cells #[.int .i64 a0_0, .int .i64 a0_1] 43 (0, 0)) (by (with_reducible repeat (first | refine blk_drewN ?_ _ | refine blk_drew ?_ | refine blk_alloc ?_ _)); exact BK256.out)) : gb256 ≠ gb257)); have n6_ := Aside0.mk ((by rw [hg]; exact Nat.ne_of_gt (blk_lt (g := gb256) (o := .cells #[.int .i64 a0_0, .int .i64 a0_1] 43 (0, 0)) (by (with_reducible repeat (first | refine blk_drewN ?_ _ | refine blk_drew ?_ | refine blk_alloc ?_ _)); exact BK256.out)) : gb257 ≠ gb256)); clear BK256; clear HB; have BK256 := n0_; have HB := n1_; have BK257 := n2_; have GW257 := n3_; have GE257 := n4_; have NB256_257 := n5_; have NB257_256 := n6_; clear n0_ n1_ n2_ n3_ n4_ n5_ n6_; clear hb hbox hg; have hnb7 := NB256_257.out; have hnc7 := NB257_256.out; have hcz8_0 : w6.cell? ⟨gb256, 0, none⟩ = some (.int .i64 a0_0) := (blk_cell BK256.out 0).trans rfl; have hcz8_1 : w6.cell? ⟨gb256, 1, none⟩ = some (.int .i64 a0_1) := (blk_cell BK256.out 1).trans rfl; have hfz8_0 := blk_frozen BK256.out 0; have hfz8_1 := blk_frozen BK256.out 1; have hcz9_0 : w6.cell? ⟨gb257, 0, none⟩ = some (.int .i64 a1_0) := (blk_cell BK257.out 0).trans rfl; have hcz9_1 : w6.cell? ⟨gb257, 1, none⟩ = some (.int .i64 a1_1) := (blk_cell BK257.out 1).trans rfl; have hfz9_0 := blk_frozen BK257.out 0; have hfz9_1 := blk_frozen BK257.out 1))
      go_ret
      exact ⟨by first | rfl | (simp [errW_none, errW_some] <;> rfl) | (simp [*, errW_none, errW_some] <;> rfl), by repeat (first | (with_reducible first | exact HB.out | apply below_alloc | apply pw_below_drewN | apply below_drew1 | refine below_set ?_ GE256.out | refine below_set ?_ GE257.out) | exact HB.out)⟩
    · rw [if_neg c4] at H
      have c4b0 : (a0_1 == a1_1) = false := beq_eq_false_iff_ne.mpr c4
      have c4b1 : (a0_1 != a1_1) = true := bne_iff_ne.mpr c4
      obtain rfl := Option.some.inj H
      go_enter Try.func44, Try.ntmps44
      go_wp2_with (first | ((with_reducible refine gate_dst (N := 2) rfl ?_); refine box_event ?hg (N := 2) ?hd (cs := #[.int .i64 a0_0, .int .i64 a0_1]) (t := 43) ?hr ?_; (case hd => rfl); (case hg => rfl); (case hr => first | (go_simp; done) | (go_simp; rfl)); intro gb256 hg w10 hbox hb; have n0_ := Aside0.mk (below_step (by repeat (first | (with_reducible first | exact HB.out | apply below_alloc | apply pw_below_drewN | apply below_drew1) | exact HB.out)) hb); have n1_ := Aside0.mk (hbox); have n2_ := Aside0.mk ((by rw [hg]; exact (below_size (by repeat (first | (with_reducible first | exact HB.out | apply below_alloc | apply pw_below_drewN | apply below_drew1) | exact HB.out))) : w.heap.size ≤ gb256)); have n3_ := Aside0.mk ((by rw [hg]; exact (below_size (by repeat (first | (with_reducible first | exact HB.out | apply below_alloc | apply pw_below_drewN | apply below_drew1) | exact HB.out))) : w.heap.size ≤ gb256)); clear HB; have HB := n0_; have BK256 := n1_; have GW256 := n2_; have GE256 := n3_; clear n0_ n1_ n2_ n3_; clear hb hbox hg) | ((with_reducible refine gate_dst (N := 3) rfl ?_); refine box_event ?hg (N := 3) ?hd (cs := #[.int .i64 a1_0, .int .i64 a1_1]) (t := 43) ?hr ?_; (case hd => rfl); (case hg => rfl); (case hr => first | (go_simp; done) | (go_simp; rfl)); intro gb257 hg w11 hbox hb; have n0_ := Aside0.mk (blk_below (g := gb256) (o := .cells #[.int .i64 a0_0, .int .i64 a0_1] 43 (0, 0)) (by (with_reducible repeat (first | refine blk_drewN ?_ _ | refine blk_drew ?_ | refine blk_alloc ?_ _)); exact BK256.out) hb); have n1_ := Aside0.mk (below_step (by repeat (first | (with_reducible first | exact HB.out | apply below_alloc | apply pw_below_drewN | apply below_drew1 | refine below_set ?_ GE256.out) | exact HB.out)) hb); have n2_ := Aside0.mk (hbox); have n3_ := Aside0.mk ((by rw [hg]; exact (below_size (by repeat (first | (with_reducible first | exact HB.out | apply below_alloc | apply pw_below_drewN | apply below_drew1 | refine below_set ?_ GE256.out) | exact HB.out))) : w.heap.size ≤ gb257)); have n4_ := Aside0.mk ((by rw [hg]; exact (below_size (by repeat (first | (with_reducible first | exact HB.out | apply below_alloc | apply pw_below_drewN | apply below_drew1 | refine below_set ?_ GE256.out) | exact HB.out))) : w.heap.size ≤ gb257)); have n5_ := Aside0.mk ((by rw [hg]; exact Nat.ne_of_lt (blk_lt (g := gb256) (o := .cells #[.int .i64 a0_0, .int .i64 a0_1] 43 (0, 0)) (by (with_reducible repeat (first | refine blk_drewN ?_ _ | refine blk_drew ?_ | refine blk_alloc ?_ _)); exact BK256.out)) : gb256 ≠ gb257)); have n6_ := Aside0.mk ((by rw [hg]; exact Nat.ne_of_gt (blk_lt (g := gb256) (o := .cells #[.int .i64 a0_0, .int .i64 a0_1] 43 (0, 0)) (by (with_reducible repeat (first | refine blk_drewN ?_ _ | refine blk_drew ?_ | refine blk_alloc ?_ _)); exact BK256.out)) : gb257 ≠ gb256)); clear BK256; clear HB; have BK256 := n0_; have HB := n1_; have BK257 := n2_; have GW257 := n3_; have GE257 := n4_; have NB256_257 := n5_; have NB257_256 := n6_; clear n0_ n1_ n2_ n3_ n4_ n5_ n6_; clear hb hbox hg; have hnb12 := NB256_257.out; have hnc12 := NB257_256.out; have hcz13_0 : w11.cell? ⟨gb256, 0, none⟩ = some (.int .i64 a0_0) := (blk_cell BK256.out 0).trans rfl; have hcz13_1 : w11.cell? ⟨gb256, 1, none⟩ = some (.int .i64 a0_1) := (blk_cell BK256.out 1).trans rfl; have hfz13_0 := blk_frozen BK256.out 0; have hfz13_1 := blk_frozen BK256.out 1; have hcz14_0 : w11.cell? ⟨gb257, 0, none⟩ = some (.int .i64 a1_0) := (blk_cell BK257.out 0).trans rfl; have hcz14_1 : w11.cell? ⟨gb257, 1, none⟩ = some (.int .i64 a1_1) := (blk_cell BK257.out 1).trans rfl; have hfz14_0 := blk_frozen BK257.out 0; have hfz14_1 := blk_frozen BK257.out 1))
      go_ret
      exact ⟨by first | rfl | (simp [errW_none, errW_some] <;> rfl) | (simp [*, errW_none, errW_some] <;> rfl), by repeat (first | (with_reducible first | exact HB.out | apply below_alloc | apply pw_below_drewN | apply below_drew1 | refine below_set ?_ GE256.out | refine below_set ?_ GE257.out) | exact HB.out)⟩
  · rw [if_neg c3] at H
    have c3b0 : (a0_0 == a1_0) = false := beq_eq_false_iff_ne.mpr c3
    have c3b1 : (a0_0 != a1_0) = true := bne_iff_ne.mpr c3
    obtain rfl := Option.some.inj H
    go_enter Try.func44, Try.ntmps44
    go_wp2_with (first | ((with_reducible refine gate_dst (N := 2) rfl ?_); refine box_event ?hg (N := 2) ?hd (cs := #[.int .i64 a0_0, .int .i64 a0_1]) (t := 43) ?hr ?_; (case hd => rfl); (case hg => rfl); (case hr => first | (go_simp; done) | (go_simp; rfl)); intro gb256 hg w15 hbox hb; have n0_ := Aside0.mk (below_step (by repeat (first | (with_reducible first | exact HB.out | apply below_alloc | apply pw_below_drewN | apply below_drew1) | exact HB.out)) hb); have n1_ := Aside0.mk (hbox); have n2_ := Aside0.mk ((by rw [hg]; exact (below_size (by repeat (first | (with_reducible first | exact HB.out | apply below_alloc | apply pw_below_drewN | apply below_drew1) | exact HB.out))) : w.heap.size ≤ gb256)); have n3_ := Aside0.mk ((by rw [hg]; exact (below_size (by repeat (first | (with_reducible first | exact HB.out | apply below_alloc | apply pw_below_drewN | apply below_drew1) | exact HB.out))) : w.heap.size ≤ gb256)); clear HB; have HB := n0_; have BK256 := n1_; have GW256 := n2_; have GE256 := n3_; clear n0_ n1_ n2_ n3_; clear hb hbox hg) | ((with_reducible refine gate_dst (N := 3) rfl ?_); refine box_event ?hg (N := 3) ?hd (cs := #[.int .i64 a1_0, .int .i64 a1_1]) (t := 43) ?hr ?_; (case hd => rfl); (case hg => rfl); (case hr => first | (go_simp; done) | (go_simp; rfl)); intro gb257 hg w16 hbox hb; have n0_ := Aside0.mk (blk_below (g := gb256) (o := .cells #[.int .i64 a0_0, .int .i64 a0_1] 43 (0, 0)) (by (with_reducible repeat (first | refine blk_drewN ?_ _ | refine blk_drew ?_ | refine blk_alloc ?_ _)); exact BK256.out) hb); have n1_ := Aside0.mk (below_step (by repeat (first | (with_reducible first | exact HB.out | apply below_alloc | apply pw_below_drewN | apply below_drew1 | refine below_set ?_ GE256.out) | exact HB.out)) hb); have n2_ := Aside0.mk (hbox); have n3_ := Aside0.mk ((by rw [hg]; exact (below_size (by repeat (first | (with_reducible first | exact HB.out | apply below_alloc | apply pw_below_drewN | apply below_drew1 | refine below_set ?_ GE256.out) | exact HB.out))) : w.heap.size ≤ gb257)); have n4_ := Aside0.mk ((by rw [hg]; exact (below_size (by repeat (first | (with_reducible first | exact HB.out | apply below_alloc | apply pw_below_drewN | apply below_drew1 | refine below_set ?_ GE256.out) | exact HB.out))) : w.heap.size ≤ gb257)); have n5_ := Aside0.mk ((by rw [hg]; exact Nat.ne_of_lt (blk_lt (g := gb256) (o := .cells #[.int .i64 a0_0, .int .i64 a0_1] 43 (0, 0)) (by (with_reducible repeat (first | refine blk_drewN ?_ _ | refine blk_drew ?_ | refine blk_alloc ?_ _)); exact BK256.out)) : gb256 ≠ gb257)); have n6_ := Aside0.mk ((by rw [hg]; exact Nat.ne_of_gt (blk_lt (g := gb256) (o := .cells #[.int .i64 a0_0, .int .i64 a0_1] 43 (0, 0)) (by (with_reducible repeat (first | refine blk_drewN ?_ _ | refine blk_drew ?_ | refine blk_alloc ?_ _)); exact BK256.out)) : gb257 ≠ gb256)); clear BK256; clear HB; have BK256 := n0_; have HB := n1_; have BK257 := n2_; have GW257 := n3_; have GE257 := n4_; have NB256_257 := n5_; have NB257_256 := n6_; clear n0_ n1_ n2_ n3_ n4_ n5_ n6_; clear hb hbox hg; have hnb17 := NB256_257.out; have hnc17 := NB257_256.out; have hcz18_0 : w16.cell? ⟨gb256, 0, none⟩ = some (.int .i64 a0_0) := (blk_cell BK256.out 0).trans rfl; have hcz18_1 : w16.cell? ⟨gb256, 1, none⟩ = some (.int .i64 a0_1) := (blk_cell BK256.out 1).trans rfl; have hfz18_0 := blk_frozen BK256.out 0; have hfz18_1 := blk_frozen BK256.out 1; have hcz19_0 : w16.cell? ⟨gb257, 0, none⟩ = some (.int .i64 a1_0) := (blk_cell BK257.out 0).trans rfl; have hcz19_1 : w16.cell? ⟨gb257, 1, none⟩ = some (.int .i64 a1_1) := (blk_cell BK257.out 1).trans rfl; have hfz19_0 := blk_frozen BK257.out 0; have hfz19_1 := blk_frozen BK257.out 1))
    go_ret
    exact ⟨by first | rfl | (simp [errW_none, errW_some] <;> rfl) | (simp [*, errW_none, errW_some] <;> rfl), by repeat (first | (with_reducible first | exact HB.out | apply below_alloc | apply pw_below_drewN | apply below_drew1 | refine below_set ?_ GE256.out | refine below_set ?_ GE257.out) | exact HB.out)⟩

end Go.Proofs.Ytffkojdmidhchaa.P
end
section
/- FnExactCrossAt: the walk of the law. No condition. -/
namespace Go.Proofs.Ytffkojdmidhchaa.P
open Go.RowKit Go.Proofs.YtffkojdmidhchaaW.PrintWords Go.Proofs.YtffkojdmidhchaaW.PrintLast Go.Proofs.YtffkojdmidhchaaW.PrintMore
set_option linter.unusedVariables false
set_option linter.unusedSimpArgs false
set_option maxHeartbeats 40000000
set_option maxRecDepth 20000
attribute [local go_sem] frozen_alloc' max2_int min2_int max_two min_two

def LBox (W : World) (g : Nat) (x y : Int) : Prop := W.heap[g]? = some (.cells #[.int .i64 x, .int .i64 y] 56 (0, 0))
def LBox4 (W : World) (g : Nat) (ax ay bx bY cx cy dx dy : Int) : Prop := LBox W g ax ay ∧ LBox W (g + 1) bx bY ∧ LBox W (g + 1 + 1) cx cy ∧ LBox W (g + 1 + 1 + 1) dx dy
theorem LBox.below {W0 W : World} {g : Nat} {x y : Int} (h : LBox W0 g x y) (hb : Below W0.heap.size W0 W) : LBox W g x y := (hb.block g (blk_lt h)).trans h
theorem LBox4.cells {W0 W : World} {g : Nat} {ax ay bx bY cx cy dx dy : Int} (h : LBox4 W0 g ax ay bx bY cx cy dx dy) (hb : Below W0.heap.size W0 W) :
    W.cell? ⟨g, 0, none⟩ = some (.int .i64 ax) ∧ W.cell? ⟨g, 1, none⟩ = some (.int .i64 ay) ∧ W.cell? ⟨g + 1, 0, none⟩ = some (.int .i64 bx) ∧ W.cell? ⟨g + 1, 1, none⟩ = some (.int .i64 bY) ∧
      W.cell? ⟨g + 1 + 1, 0, none⟩ = some (.int .i64 cx) ∧ W.cell? ⟨g + 1 + 1, 1, none⟩ = some (.int .i64 cy) ∧ W.cell? ⟨g + 1 + 1 + 1, 0, none⟩ = some (.int .i64 dx) ∧ W.cell? ⟨g + 1 + 1 + 1, 1, none⟩ = some (.int .i64 dy) :=
  ⟨blk_c (h.1.below hb) 0 _ rfl, blk_c (h.1.below hb) 1 _ rfl, blk_c (h.2.1.below hb) 0 _ rfl, blk_c (h.2.1.below hb) 1 _ rfl, blk_c (h.2.2.1.below hb) 0 _ rfl, blk_c (h.2.2.1.below hb) 1 _ rfl, blk_c (h.2.2.2.below hb) 0 _ rfl, blk_c (h.2.2.2.below hb) 1 _ rfl⟩
def lbox4 (w : World) (ax ay bx bY cx cy dx dy : Int) : World := (((w.alloc (.cells #[.int .i64 ax, .int .i64 ay] 56)).alloc (.cells #[.int .i64 bx, .int .i64 bY] 56)).alloc (.cells #[.int .i64 cx, .int .i64 cy] 56)).alloc (.cells #[.int .i64 dx, .int .i64 dy] 56)
theorem lbox4_at (w : World) (ax ay bx bY cx cy dx dy : Int) : LBox4 (lbox4 w ax ay bx bY cx cy dx dy) w.heap.size ax ay bx bY cx cy dx dy ∧ Below w.heap.size w (lbox4 w ax ay bx bY cx cy dx dy) := by
  have h1 := heap_alloc_new w (.cells #[.int .i64 ax, .int .i64 ay] 56)
  have h2 := heap_alloc_new (w.alloc (.cells #[.int .i64 ax, .int .i64 ay] 56)) (.cells #[.int .i64 bx, .int .i64 bY] 56)
  have h3 := heap_alloc_new ((w.alloc (.cells #[.int .i64 ax, .int .i64 ay] 56)).alloc (.cells #[.int .i64 bx, .int .i64 bY] 56)) (.cells #[.int .i64 cx, .int .i64 cy] 56)
  have h4 := heap_alloc_new (((w.alloc (.cells #[.int .i64 ax, .int .i64 ay] 56)).alloc (.cells #[.int .i64 bx, .int .i64 bY] 56)).alloc (.cells #[.int .i64 cx, .int .i64 cy] 56)) (.cells #[.int .i64 dx, .int .i64 dy] 56)
  simp only [World.size_alloc] at h2 h3 h4
  unfold lbox4
  refine ⟨⟨?_, ?_, ?_, h4⟩, ?_⟩
  · exact (Below.heap_alloc _ _ _ (by simp <;> omega)).trans ((Below.heap_alloc _ _ _ (by simp <;> omega)).trans ((Below.heap_alloc _ _ _ (by simp)).trans h1))
  · exact (Below.heap_alloc _ _ _ (by simp <;> omega)).trans ((Below.heap_alloc _ _ _ (by simp)).trans h2)
  · exact (Below.heap_alloc _ _ _ (by simp)).trans h3
  · exact ((((Below.refl _ w).alloc (Nat.le_refl _) _).alloc (by simp) _).alloc (by simp <;> omega) _).alloc (by simp <;> omega) _
theorem QBox.alloc {W : World} {g : Nat} {x y : Int} (h : QBox W g x y) (o : Obj) : QBox (W.alloc o) g x y := h.below (below_alloc (Below.refl _ _) o)
theorem QBox.new (W : World) : QBox (W.alloc (.cells #[.int .i64 0, .int .i64 0] 43)) W.heap.size 0 0 := heap_alloc_new W _
theorem QBox.newAfter {W : World} {g : Nat} {x y : Int} (_ : QBox W g x y) : QBox (W.alloc (.cells #[.int .i64 0, .int .i64 0] 43)) W.heap.size 0 0 := heap_alloc_new W _
theorem QBox.new2 (W : World) (o : Obj) : QBox ((W.alloc o).alloc (.cells #[.int .i64 0, .int .i64 0] 43)) (W.heap.size + 1) 0 0 := by
  have := QBox.new (W.alloc o)
  rwa [World.size_alloc] at this
theorem QBox.top {W : World} {g : Nat} {x y : Int} (h : g = W.heap.size) : QBox (W.alloc (.cells #[.int .i64 x, .int .i64 y] 43)) g x y := by subst h; exact heap_alloc_new W _
theorem QBox.put2 {W : World} {g : Nat} {a b : Int} (h : QBox W g a b) (x y : Int) : QBox ((W.setCell ⟨g, 0, none⟩ (.int .i64 x)).setCell ⟨g, 1, none⟩ (.int .i64 y)) g x y := blk_put (blk_put h 0 _ rfl) 1 _ rfl
def two (W : World) (x y : Int) : Obj := .cells #[.int .i64 x, .int .i64 y] 43
structure Leaf (W0 W : World) (g9 g10 : Nat) (a b c d : Int) : Prop where
  q1 : QBox W g9 a b
  q2 : QBox W g10 c d
  bel : Below W0.heap.size W0 W
theorem leafA {W0 u : World} {g9 g10 : Nat} {p q r s : Int} (hx : QBox u g9 p q) (hy : QBox u g10 r s) (hne : g9 ≠ g10) (hB : Below W0.heap.size W0 u) (h9 : W0.heap.size ≤ g9) (h10 : W0.heap.size ≤ g10) (a b c d : Int) :
    Leaf W0 ((((u.setCell ⟨g9, 0, none⟩ (.int .i64 a)).setCell ⟨g9, 1, none⟩ (.int .i64 b)).setCell ⟨g10, 0, none⟩ (.int .i64 c)).setCell ⟨g10, 1, none⟩ (.int .i64 d)) g9 g10 a b c d :=
  ⟨(hx.put2 a b).set2 hne _ _ _ _, (hy.set2 (Ne.symm hne) _ _ _ _).put2 c d, (((hB.setCell h9 _).setCell h9 _).setCell h10 _).setCell h10 _⟩
theorem leafB {W0 u : World} (hB : Below W0.heap.size W0 u) (a b c d : Int) : Leaf W0 ((u.alloc (.cells #[.int .i64 a, .int .i64 b] 43)).alloc (.cells #[.int .i64 c, .int .i64 d] 43)) u.heap.size (u.heap.size + 1) a b c d :=
  ⟨QBox.alloc (QBox.top rfl) _, QBox.top (by simp), below_alloc (below_alloc hB _) _⟩
theorem leafB' {W0 u : World} (hB : Below W0.heap.size W0 u) (a b c d : Int) : Leaf W0 ((u.alloc (.cells #[.int .i64 c, .int .i64 d] 43)).alloc (.cells #[.int .i64 a, .int .i64 b] 43)) (u.heap.size + 1) u.heap.size a b c d :=
  ⟨QBox.top (by simp), QBox.alloc (QBox.top rfl) _, below_alloc (below_alloc hB _) _⟩
theorem leafC {W0 u : World} {g9 : Nat} {p q : Int} (hx : QBox u g9 p q) (hB : Below W0.heap.size W0 u) (h9 : W0.heap.size ≤ g9) (a b c d : Int) :
    Leaf W0 (((u.setCell ⟨g9, 0, none⟩ (.int .i64 a)).setCell ⟨g9, 1, none⟩ (.int .i64 b)).alloc (.cells #[.int .i64 c, .int .i64 d] 43)) g9 u.heap.size a b c d :=
  ⟨(hx.put2 a b).alloc _, QBox.top (by simp [World.setCell]), below_alloc ((hB.setCell h9 _).setCell h9 _) _⟩
theorem leafD {W0 u : World} {g10 : Nat} {p q : Int} (hx : QBox u g10 p q) (hB : Below W0.heap.size W0 u) (h9 : W0.heap.size ≤ g10) (a b c d : Int) :
    Leaf W0 (((u.setCell ⟨g10, 0, none⟩ (.int .i64 c)).setCell ⟨g10, 1, none⟩ (.int .i64 d)).alloc (.cells #[.int .i64 a, .int .i64 b] 43)) u.heap.size g10 a b c d :=
  ⟨QBox.top (by simp [World.setCell]), (hx.put2 c d).alloc _, below_alloc ((hB.setCell h9 _).setCell h9 _) _⟩
theorem eqQ_f (a b : Int) : laws_eqQuo.f a b a b = some true := by unfold laws_eqQuo.f; rw [if_pos rfl, if_pos rfl]
theorem LBox4.below {W0 W : World} {g : Nat} {ax ay bx bY cx cy dx dy : Int} (h : LBox4 W0 g ax ay bx bY cx cy dx dy) (hb : Below W0.heap.size W0 W) : LBox4 W g ax ay bx bY cx cy dx dy :=
  ⟨h.1.below hb, h.2.1.below hb, h.2.2.1.below hb, h.2.2.2.below hb⟩
theorem qne {W : World} {g g' : Nat} {x y x' y' : Int} (_ : QBox W g x y) (_ : QBox W g' x' y') (h : g ≠ g') : g ≠ g' := h
theorem late_blk (u : World) (p q : Addr) (v v' : Value) (o : Obj) : (((u.setCell p v).setCell q v').alloc o).heap[u.heap.size]? = some o := by
  have h := heap_alloc_new ((u.setCell p v).setCell q v') o
  have e : ((u.setCell p v).setCell q v').heap.size = u.heap.size := by simp [World.setCell]
  rwa [e] at h
theorem cell_late (u : World) (p q : Addr) (v v' : Value) (xs : Array Value) (T : TypeId) (i : Nat) : (((u.setCell p v).setCell q v').alloc (.cells xs T)).cell? ⟨u.heap.size, i, none⟩ = xs[i]? := blk_cell (late_blk u p q v v' _) i
theorem frozen_late (u : World) (p q : Addr) (v v' : Value) (xs : Array Value) (T : TypeId) (i : Nat) : (((u.setCell p v).setCell q v').alloc (.cells xs T)).frozen? ⟨u.heap.size, i, none⟩ = false := blk_f (late_blk u p q v v' _) i
theorem frozen_end (u : World) (i : Nat) : u.frozen? ⟨u.heap.size, i, none⟩ = false := by simp [World.frozen?]
theorem frozen_end1 (u : World) (i : Nat) : u.frozen? ⟨u.heap.size + 1, i, none⟩ = false := by simp [World.frozen?]
attribute [local go_sem] cell_late frozen_end frozen_end1
theorem toP_any (x y : Int) (w : World) : Calls Try.prog 42 #[.agg #[.int .i64 x, .int .i64 y]] w fun e w' => e = .returned (.agg #[.int .i64 x, .int .i64 y]) ∧ Below w.heap.size w w' := laws_toPoint.calls x y x y w rfl

theorem exact_walk (ax ay bx bY cx cy dx dy : Int) (w : World) (r0 r1 r2 r3 : Int) (r4 : Bool)
    (hS : ∀ W : World, Calls Try.prog 41 #[.agg #[.int .i64 ax, .int .i64 ay], .agg #[.int .i64 bx, .int .i64 bY], .agg #[.int .i64 cx, .int .i64 cy], .agg #[.int .i64 dx, .int .i64 dy]] W fun e w' => e = .returned (.tuple #[.agg #[.int .i64 r0, .int .i64 r1], .agg #[.int .i64 r2, .int .i64 r3], .bool r4]) ∧ Below W.heap.size W w')
    (hI : ∀ W : World, Calls Try.prog 43 #[.agg #[.int .i64 ax, .int .i64 ay], .agg #[.int .i64 bx, .int .i64 bY], .agg #[.int .i64 cx, .int .i64 cy], .agg #[.int .i64 dx, .int .i64 dy]] W fun e w' => e = .returned (.tuple #[.agg #[.int .i64 r0, .int .i64 r1], .agg #[.int .i64 r2, .int .i64 r3], .bool r4]) ∧ Below W.heap.size W w') :
    Calls Try.prog 7 #[.agg #[.int .i64 ax, .int .i64 ay], .agg #[.int .i64 bx, .int .i64 bY], .agg #[.int .i64 cx, .int .i64 cy], .agg #[.int .i64 dx, .int .i64 dy]] w fun e w' => e = .returned (.bool true) ∧ Below w.heap.size w w' := by
  have hu43 := Try.underlying43
  have hu56 := Try.underlying56
  have HS := Aside0.mk hS
  have HI := Aside0.mk hI
  obtain ⟨hb4, hB⟩ := lbox4_at w ax ay bx bY cx cy dx dy
  have H4 := Aside0.mk hb4
  have HB := Aside0.mk hB
  clear hB hb4 hS hI
  go_enter Try.func7, Try.ntmps7
  go_upto_region 1 with (fail)
  rw [show (((w.alloc (.cells #[.int .i64 ax, .int .i64 ay] 56)).alloc (.cells #[.int .i64 bx, .int .i64 bY] 56)).alloc (.cells #[.int .i64 cx, .int .i64 cy] 56)).alloc (.cells #[.int .i64 dx, .int .i64 dy] 56) = lbox4 w ax ay bx bY cx cy dx dy from rfl]
  generalize lbox4 w ax ay bx bY cx cy dx dy = W0 at *
  have H0 : Below W0.heap.size W0 W0 := Below.refl _ _
  go_cut [9, 10, 11] (fun v9 v10 v11 w' => ∃ g9 g10, v9 = .pointer (some ⟨g9, 0, none⟩) ∧ v10 = .pointer (some ⟨g10, 0, none⟩) ∧ v11 = .bool r4 ∧ Leaf W0 w' g9 g10 r0 r1 r2 r3)
  case rest =>
    obtain ⟨g9, g10, rfl, rfl, rfl, hL⟩ := hcut
    have HL := Aside0.mk hL
    have H41 := Aside0.mk (H4.out.below hL.bel)
    have HB1 := Aside0.mk (below_step HB.out hL.bel)
    clear hL HS H4 HB H0
    have H0 : Below wc.heap.size wc wc := Below.refl _ _
    go_upto_region 2 with (fail)
    go_cut [12, 13, 14] (fun v12 v13 v14 w' => ∃ g12 g13, v12 = .pointer (some ⟨g12, 0, none⟩) ∧ v13 = .pointer (some ⟨g13, 0, none⟩) ∧ v14 = .bool r4 ∧ Leaf wc w' g12 g13 r0 r1 r2 r3)
    case rest =>
      obtain ⟨g12, g13, rfl, rfl, rfl, hM⟩ := hcut
      have z9 := HL.out.q1.below hM.bel
      have z10 := HL.out.q2.below hM.bel
      have HM := Aside0.mk hM
      have p0 := blk_c z9 0 _ rfl
      have p1 := blk_c z9 1 _ rfl
      have p2 := blk_c z10 0 _ rfl
      have p3 := blk_c z10 1 _ rfl
      have p4 := blk_c hM.q1 0 _ rfl
      have p5 := blk_c hM.q1 1 _ rfl
      have p6 := blk_c hM.q2 0 _ rfl
      have p7 := blk_c hM.q2 1 _ rfl
      go_wp2_with (first
        | (go_at_call 44; (with_reducible refine (laws_eqQuo.calls r2 r3 r2 r3 true _ (eqQ_f r2 r3)).mono ?_); rintro e w2 ⟨rfl, hb2⟩; have HB3 := Aside0.mk (below_step HB2.out hb2))
        | (go_at_call 44; (with_reducible refine (laws_eqQuo.calls r0 r1 r0 r1 true _ (eqQ_f r0 r1)).mono ?_); rintro e w1 ⟨rfl, hb1⟩; have HB2 := Aside0.mk (below_step (below_step HB1.out HM.out.bel) hb1); have y0 := blk_c (z9.below hb1) 0 _ rfl; have y1 := blk_c (z9.below hb1) 1 _ rfl; have y2 := blk_c (z10.below hb1) 0 _ rfl; have y3 := blk_c (z10.below hb1) 1 _ rfl; have y4 := blk_c (HM.out.q1.below hb1) 0 _ rfl; have y5 := blk_c (HM.out.q1.below hb1) 1 _ rfl; have y6 := blk_c (HM.out.q2.below hb1) 0 _ rfl; have y7 := blk_c (HM.out.q2.below hb1) 1 _ rfl))
      refine bodyPost_ret (v := .bool true) (by simp [results, Try.results7, go_sem]) rfl ?_
      exact ⟨rfl, HB3.out⟩
    case first =>
      rename_i J K' hJ hK
      go_region_held3 (fun w' => w'.cell? ⟨w.heap.size, 0, none⟩ = some (.int .i64 ax) ∧ w'.cell? ⟨w.heap.size, 1, none⟩ = some (.int .i64 ay) ∧ w'.cell? ⟨w.heap.size + 1, 0, none⟩ = some (.int .i64 bx) ∧ w'.cell? ⟨w.heap.size + 1, 1, none⟩ = some (.int .i64 bY) ∧
        w'.cell? ⟨w.heap.size + 1 + 1, 0, none⟩ = some (.int .i64 cx) ∧ w'.cell? ⟨w.heap.size + 1 + 1, 1, none⟩ = some (.int .i64 cy) ∧ w'.cell? ⟨w.heap.size + 1 + 1 + 1, 0, none⟩ = some (.int .i64 dx) ∧ w'.cell? ⟨w.heap.size + 1 + 1 + 1, 1, none⟩ = some (.int .i64 dy))
        (first | exact H41.out.cells (by repeat (first | (with_reducible assumption) | apply below_alloc | apply below_drew | (refine Below.setCell ?_ (by simp <;> omega) _))))
        (first
          | (go_at_call 43; (with_reducible refine (HI.out _).mono ?_); rintro e u5 ⟨rfl, hb⟩; have I5_ := below_step (show Below wc.heap.size wc _ from (by repeat (first | (with_reducible assumption) | apply below_alloc | apply below_drew | (refine Below.setCell ?_ (by simp <;> omega) _)))) hb; have s5 := I5_.size; (first | have x5 := QBox.below x4 hb | have x5 := QBox.below (x4.alloc _) hb | have x5 := QBox.below ((QBox.new u4).alloc _) hb | have x5 := QBox.below (QBox.new u4) hb | skip); (first | have y5 := QBox.below y4 hb | have y5 := QBox.below (QBox.newAfter x4) hb | have y5 := QBox.below (QBox.new2 u4 _) hb | skip); (try have zx5 := blk_lt x5); (try have zy5 := blk_lt y5); (try (have c0 := blk_c x5 0 _ rfl; have c1 := blk_c x5 1 _ rfl; have k0 := blk_f x5 0; have k1 := blk_f x5 1; have zx := Nat.lt_succ_of_lt zx5; have zx_ := Nat.lt_succ_of_lt zx)); (try (have d0 := blk_c y5 0 _ rfl; have d1 := blk_c y5 1 _ rfl; have l0 := blk_f y5 0; have l1 := blk_f y5 1; have zy := Nat.lt_succ_of_lt zy5; have zy_ := Nat.lt_succ_of_lt zy)); (try have nxy := qne x5 y5 (by omega)); (try have nyx := nxy.symm); (try have nz := Nat.ne_of_lt zx5); (try have nz_ := (Nat.ne_of_lt zx5).symm); (try have ny := Nat.ne_of_lt zy5); (try have ny_ := (Nat.ne_of_lt zy5).symm))
          | (go_at_call 42; (with_reducible refine (toP_any dx dy _).mono ?_); rintro e u4 ⟨rfl, hb⟩; have I4_ := below_step (show Below wc.heap.size wc _ from (by repeat (first | (with_reducible assumption) | apply below_alloc | apply below_drew | (refine Below.setCell ?_ (by simp <;> omega) _)))) hb; have s4 := I4_.size; (first | have x4 := QBox.below x3 hb | have x4 := QBox.below (x3.alloc _) hb | have x4 := QBox.below ((QBox.new u3).alloc _) hb | have x4 := QBox.below (QBox.new u3) hb | skip); (first | have y4 := QBox.below y3 hb | have y4 := QBox.below (QBox.newAfter x3) hb | have y4 := QBox.below (QBox.new2 u3 _) hb | skip); (try have zx4 := blk_lt x4); (try have zy4 := blk_lt y4))
          | (go_at_call 42; (with_reducible refine (toP_any cx cy _).mono ?_); rintro e u3 ⟨rfl, hb⟩; have I3_ := below_step (show Below wc.heap.size wc _ from (by repeat (first | (with_reducible assumption) | apply below_alloc | apply below_drew | (refine Below.setCell ?_ (by simp <;> omega) _)))) hb; have s3 := I3_.size; (first | have x3 := QBox.below x2 hb | have x3 := QBox.below (x2.alloc _) hb | have x3 := QBox.below ((QBox.new u2).alloc _) hb | have x3 := QBox.below (QBox.new u2) hb | skip); (first | have y3 := QBox.below y2 hb | have y3 := QBox.below (QBox.newAfter x2) hb | have y3 := QBox.below (QBox.new2 u2 _) hb | skip); (try have zx3 := blk_lt x3); (try have zy3 := blk_lt y3))
          | (go_at_call 42; (with_reducible refine (toP_any bx bY _).mono ?_); rintro e u2 ⟨rfl, hb⟩; have I2_ := below_step (show Below wc.heap.size wc _ from (by repeat (first | (with_reducible assumption) | apply below_alloc | apply below_drew | (refine Below.setCell ?_ (by simp <;> omega) _)))) hb; have s2 := I2_.size; (first | have x2 := QBox.below x1 hb | have x2 := QBox.below (x1.alloc _) hb | have x2 := QBox.below ((QBox.new u1).alloc _) hb | have x2 := QBox.below (QBox.new u1) hb | skip); (first | have y2 := QBox.below y1 hb | have y2 := QBox.below (QBox.newAfter x1) hb | have y2 := QBox.below (QBox.new2 u1 _) hb | skip); (try have zx2 := blk_lt x2); (try have zy2 := blk_lt y2))
          | (go_at_call 42; (with_reducible refine (toP_any ax ay _).mono ?_); rintro e u1 ⟨rfl, hb⟩; have I1_ := below_step (show Below wc.heap.size wc _ from (by repeat (first | (with_reducible assumption) | apply below_alloc | apply below_drew | (refine Below.setCell ?_ (by simp <;> omega) _)))) hb; have s1 := I1_.size; (first | have x1 : QBox u1 wc.heap.size 0 0 := QBox.below ((QBox.new wc.drew).alloc _) hb | have x1 : QBox u1 wc.heap.size 0 0 := QBox.below (QBox.new wc.drew) hb | skip); (first | have y1 : QBox u1 (wc.heap.size + 1) 0 0 := QBox.below (QBox.new2 wc.drew _) hb | skip); (try have zx1 := blk_lt x1); (try have zy1 := blk_lt y1)))
      all_goals (first | refine hJ _ _ ?_ | refine hK _ _ (Met.intro (hJ _ _ ?_)))
      all_goals (repeat apply Exists.intro)
      all_goals (refine ⟨?_, rfl⟩)
      all_goals (refine ⟨_, _, rfl, rfl, rfl, ?_⟩)
      all_goals (first
        | (with_reducible exact leafB I5_ _ _ _ _)
        | (with_reducible exact leafB' I5_ _ _ _ _)
        | (with_reducible refine leafA x5 y5 nxy I5_ ?_ ?_ _ _ _ _)
        | (with_reducible refine leafA y5 x5 nyx I5_ ?_ ?_ _ _ _ _)
        | (with_reducible refine leafC x5 I5_ ?_ _ _ _ _)
        | (with_reducible refine leafD x5 I5_ ?_ _ _ _ _))
      all_goals (first | exact Nat.le_refl _ | assumption | exact Nat.le_succ _ | omega)
  case first =>
    rename_i J K' hJ hK
    go_region_held3 (fun w' => w'.cell? ⟨w.heap.size, 0, none⟩ = some (.int .i64 ax) ∧ w'.cell? ⟨w.heap.size, 1, none⟩ = some (.int .i64 ay) ∧ w'.cell? ⟨w.heap.size + 1, 0, none⟩ = some (.int .i64 bx) ∧ w'.cell? ⟨w.heap.size + 1, 1, none⟩ = some (.int .i64 bY) ∧
      w'.cell? ⟨w.heap.size + 1 + 1, 0, none⟩ = some (.int .i64 cx) ∧ w'.cell? ⟨w.heap.size + 1 + 1, 1, none⟩ = some (.int .i64 cy) ∧ w'.cell? ⟨w.heap.size + 1 + 1 + 1, 0, none⟩ = some (.int .i64 dx) ∧ w'.cell? ⟨w.heap.size + 1 + 1 + 1, 1, none⟩ = some (.int .i64 dy))
      (first | exact H4.out.cells (by repeat (first | (with_reducible assumption) | apply below_alloc | apply below_drew | (refine Below.setCell ?_ (by simp <;> omega) _))))
      (first
        | (go_at_call 41; (with_reducible refine (HS.out _).mono ?_); rintro e u5 ⟨rfl, hb⟩; have H5_ := below_step (show Below W0.heap.size W0 _ from (by repeat (first | (with_reducible assumption) | apply below_alloc | apply below_drew | (refine Below.setCell ?_ (by simp <;> omega) _)))) hb; have s5 := H5_.size; (first | have x5 := QBox.below x4 hb | have x5 := QBox.below (x4.alloc _) hb | have x5 := QBox.below ((QBox.new u4).alloc _) hb | have x5 := QBox.below (QBox.new u4) hb | skip); (first | have y5 := QBox.below y4 hb | have y5 := QBox.below (QBox.newAfter x4) hb | have y5 := QBox.below (QBox.new2 u4 _) hb | skip); (try have zx5 := blk_lt x5); (try have zy5 := blk_lt y5); (try (have c0 := blk_c x5 0 _ rfl; have c1 := blk_c x5 1 _ rfl; have k0 := blk_f x5 0; have k1 := blk_f x5 1; have zx := Nat.lt_succ_of_lt zx5; have zx_ := Nat.lt_succ_of_lt zx)); (try (have d0 := blk_c y5 0 _ rfl; have d1 := blk_c y5 1 _ rfl; have l0 := blk_f y5 0; have l1 := blk_f y5 1; have zy := Nat.lt_succ_of_lt zy5; have zy_ := Nat.lt_succ_of_lt zy)); (try have nxy := qne x5 y5 (by omega)); (try have nyx := nxy.symm); (try have nz := Nat.ne_of_lt zx5); (try have nz_ := (Nat.ne_of_lt zx5).symm); (try have ny := Nat.ne_of_lt zy5); (try have ny_ := (Nat.ne_of_lt zy5).symm))
        | (go_at_call 42; (with_reducible refine (toP_any dx dy _).mono ?_); rintro e u4 ⟨rfl, hb⟩; have H4_ := below_step (show Below W0.heap.size W0 _ from (by repeat (first | (with_reducible assumption) | apply below_alloc | apply below_drew | (refine Below.setCell ?_ (by simp <;> omega) _)))) hb; have s4 := H4_.size; (first | have x4 := QBox.below x3 hb | have x4 := QBox.below (x3.alloc _) hb | have x4 := QBox.below ((QBox.new u3).alloc _) hb | have x4 := QBox.below (QBox.new u3) hb | skip); (first | have y4 := QBox.below y3 hb | have y4 := QBox.below (QBox.newAfter x3) hb | have y4 := QBox.below (QBox.new2 u3 _) hb | skip); (try have zx4 := blk_lt x4); (try have zy4 := blk_lt y4))
        | (go_at_call 42; (with_reducible refine (toP_any cx cy _).mono ?_); rintro e u3 ⟨rfl, hb⟩; have H3_ := below_step (show Below W0.heap.size W0 _ from (by repeat (first | (with_reducible assumption) | apply below_alloc | apply below_drew | (refine Below.setCell ?_ (by simp <;> omega) _)))) hb; have s3 := H3_.size; (first | have x3 := QBox.below x2 hb | have x3 := QBox.below (x2.alloc _) hb | have x3 := QBox.below ((QBox.new u2).alloc _) hb | have x3 := QBox.below (QBox.new u2) hb | skip); (first | have y3 := QBox.below y2 hb | have y3 := QBox.below (QBox.newAfter x2) hb | have y3 := QBox.below (QBox.new2 u2 _) hb | skip); (try have zx3 := blk_lt x3); (try have zy3 := blk_lt y3))
        | (go_at_call 42; (with_reducible refine (toP_any bx bY _).mono ?_); rintro e u2 ⟨rfl, hb⟩; have H2_ := below_step (show Below W0.heap.size W0 _ from (by repeat (first | (with_reducible assumption) | apply below_alloc | apply below_drew | (refine Below.setCell ?_ (by simp <;> omega) _)))) hb; have s2 := H2_.size; (first | have x2 := QBox.below x1 hb | have x2 := QBox.below (x1.alloc _) hb | have x2 := QBox.below ((QBox.new u1).alloc _) hb | have x2 := QBox.below (QBox.new u1) hb | skip); (first | have y2 := QBox.below y1 hb | have y2 := QBox.below (QBox.newAfter x1) hb | have y2 := QBox.below (QBox.new2 u1 _) hb | skip); (try have zx2 := blk_lt x2); (try have zy2 := blk_lt y2))
        | (go_at_call 42; (with_reducible refine (toP_any ax ay _).mono ?_); rintro e u1 ⟨rfl, hb⟩; have H1_ := below_step (show Below W0.heap.size W0 _ from (by repeat (first | (with_reducible assumption) | apply below_alloc | apply below_drew | (refine Below.setCell ?_ (by simp <;> omega) _)))) hb; have s1 := H1_.size; (first | have x1 : QBox u1 W0.heap.size 0 0 := QBox.below ((QBox.new W0.drew).alloc _) hb | have x1 : QBox u1 W0.heap.size 0 0 := QBox.below (QBox.new W0.drew) hb | skip); (first | have y1 : QBox u1 (W0.heap.size + 1) 0 0 := QBox.below (QBox.new2 W0.drew _) hb | skip); (try have zx1 := blk_lt x1); (try have zy1 := blk_lt y1)))
    all_goals (first | refine hJ _ _ ?_ | refine hK _ _ (Met.intro (hJ _ _ ?_)))
    all_goals (repeat apply Exists.intro)
    all_goals (refine ⟨?_, rfl⟩)
    all_goals (refine ⟨_, _, rfl, rfl, rfl, ?_⟩)
    all_goals (first
      | (with_reducible exact leafB H5_ _ _ _ _)
      | (with_reducible exact leafB' H5_ _ _ _ _)
      | (with_reducible refine leafA x5 y5 nxy H5_ ?_ ?_ _ _ _ _)
      | (with_reducible refine leafA y5 x5 nyx H5_ ?_ ?_ _ _ _ _)
      | (with_reducible refine leafC x5 H5_ ?_ _ _ _ _)
      | (with_reducible refine leafD x5 H5_ ?_ _ _ _ _))
    all_goals (first | exact Nat.le_refl _ | assumption | exact Nat.le_succ _ | omega)
theorem exactCross (ax ay bx bY cx cy dx dy : Int) (w : World) :
    Calls Try.prog 7 #[.agg #[.int .i64 ax, .int .i64 ay], .agg #[.int .i64 bx, .int .i64 bY], .agg #[.int .i64 cx, .int .i64 cy], .agg #[.int .i64 dx, .int .i64 dy]] w fun e w' => e = .returned (.bool true) ∧ Below w.heap.size w w' := by

  exact exact_walk ax ay bx bY cx cy dx dy w _ _ _ _ _ (specCross_any ax ay bx bY cx cy dx dy _ _ _ _ _ rfl) (implCross_any ax ay bx bY cx cy dx dy _ _ _ _ _ rfl)
end Go.Proofs.Ytffkojdmidhchaa.P
end
