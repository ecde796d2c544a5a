/- Parts of the proof of the law FnExactTravelClose: the plain functions, their contracts and the plain law (merged texts of this session, part 1 of 4). -/
import Derived.Test.YtffkojdmidhchaaWWords
import Derived.Test.YtffkojdmidhchaaWApart
import Derived.Test.YtffkojdmidhchaaProg
import Derived.Below
import Derived.Deep.Draws
import Derived.Deep.AppendLies
import Derived.Maps.AppendAt
import Derived.OwnWalk
import Derived.Laws.BytesArg
import Derived.Laws.MakeOwn
import Derived.Laws.OwnMore
import Derived.Deep.OwnRows
import Derived.Tactics
import Derived.Lib.ConvBytes
import Derived.Laws.Slices
import Derived.WalkKit
import Derived.KernelRfl
import Derived.RowKit3
import Derived.Deep.LoopGhost
import Derived.Deep.QuietTactic
import Derived.BigQuiet
import Derived.WideLaws
import Derived.Deep.DeepCutAuto
import Derived.Deep.CutBlock
import Derived.Deep.RegionHeld3
import Derived.Laws.Rows
import Derived.Lib.AppendStr
import Derived.ArgAppend
import Derived.Laws.IdiomCopy
import Derived.OrdersHeld
import Derived.Laws.BitsLemmas
import Derived.RowKit
import Derived.Test.YtffkojdmidhchaaWLast
import Derived.Test.YtffkojdmidhchaaWTab
import Derived.Test.YtffkojdmidhchaaWFour
import Derived.Test.YtffkojdmidhchaaWQPut
import Derived.Test.YtffkojdmidhchaaWArr
import Derived.Test.YtffkojdmidhchaaWZeros
import Derived.Test.YtffkojdmidhchaaWFoot
import Derived.Test.YtffkojdmidhchaaWKept
import Derived.Test.YtffkojdmidhchaaWShare
import Derived.Test.YtffkojdmidhchaaWN
import Derived.Test.YtffkojdmidhchaaWFootNe
import Derived.Test.YtffkojdmidhchaaWAt
import Derived.Test.YtffkojdmidhchaaWEqStruct
import Derived.Test.YtffkojdmidhchaaWRepsOne
import Derived.Test.YtffkojdmidhchaaWInv
import Derived.Test.YtffkojdmidhchaaWInvWords
import Derived.Test.YtffkojdmidhchaaWGuard
import Derived.Test.YtffkojdmidhchaaWNEv
import Derived.Test.YtffkojdmidhchaaWMore
import Derived.Outline
import Derived.Deep.RegionLaw
import Derived.Shelf.Abstract
import Derived.RegionTactic
import Derived.Deep.DeepMust
section
/- make([]T, 0, n): an empty row of the call's own, whatever its capacity; a lemma beside the printed words. -/
namespace Go.Proofs.Ytffkojdmidhchaa.P
open Go.RowKit Go.Proofs.YtffkojdmidhchaaW.PrintWords
set_option linter.unusedVariables false
section
variable {P : Program} {ops : Array Oper} {rest : List Oper} {o : Oper} {a : Act} {Q : Exit → Act → World → Prop} {α : Type}
theorem R_make0 (d : Kd α) {w0 W : World} (base e : Nat) (hgd : o.guard = none) {N : Tmp} (hd : o.dst = some N) (t : TypeId) (x y : Operand) (ho : o.op = .makeSlice t x y) (n : Int) (hx : a.eval x = .int .i64 0) (hy : a.eval y = .int .i64 n)
    (ht : P.underlying t = some (.slice e)) (z : Value) (bytes : Nat) (hinfo : (P.info? e).map (fun i => (i.zero, i.size, i.bytes)) = some (some z, d.sz, bytes)) (hz : z.cells.size = d.sz) (hs0 : 0 < d.sz) (hb0 : 0 < bytes)
    {ok : Nat → Prop} (hfresh : ok W.heap.size) (h0 : 0 ≤ n) (hl : n.toNat * bytes ≤ 281474976710656) (HB : Below base w0 W) (hbase : base ≤ W.heap.size)
    (h : ∀ v1 w1, d.R e w1 base ok v1 [] → Below base w0 w1 → W.grownBy w1 none → (∃ b, v1.ownBlock = some b ∧ W.heap.size ≤ b) → wpList P ops Q rest (a.put o.dst v1) w1) : wpList P ops Q (o :: rest) a W := by
  obtain ⟨m, rfl⟩ := Int.eq_ofNat_of_zero_le h0
  simp only [Int.toNat_natCast] at hl h
  obtain ⟨i0, hi, hzz⟩ := Option.map_eq_some_iff.1 hinfo
  simp only [Prod.mk.injEq] at hzz
  obtain ⟨hz0, hz1, hz2⟩ := hzz
  have hm : m ≤ 281474976710656 := Nat.le_trans (Nat.le_mul_of_pos_right _ hb0) hl
  have hr := run_make (P := P) W t e i0 z ht hi hz0 .i64 .i64 0 (m : Int) (by omega) (by omega)
    (by
      have h3 : ((i0.bytes * m : Nat) : Int) ≤ 281474976710656 := by rw [hz2, Nat.mul_comm]; omega
      rwa [Int.natCast_mul] at h3) (by omega)
  simp only [Int.toNat_natCast] at hr
  rw [hz1] at hr
  have hrow : (W.alloc (.cells (madeCells z.cells (m * d.sz)) e)).ownsRow base e d.sz (.slice (some ⟨W.heap.size, 0, none⟩) m m) m (madeCells z.cells (m * d.sz)).toList :=
    World.ownsRow_lit (base := base) (e := e) (size := d.sz) W (madeCells z.cells (m * d.sz)) m hbase (by simp only [maxLen]; omega) (by simp [size_madeCells])
  have hcut := own_take hrow (m := 0) (Nat.zero_le _)
  simp only [Nat.zero_mul, List.take_zero] at hcut
  refine Kd.event_run hgd (v := .slice (some ⟨W.heap.size, 0, none⟩) 0 m) (w1 := W.alloc (.cells (madeCells z.cells (m * d.sz)) e)) (by simp [execOp, ho, hx, hy, hr])
    (h _ _ ⟨fun k hk => ?_, [], ?_, ?_⟩ (HB.alloc hbase _) (World.grownBy_alloc W _ none) ⟨W.heap.size, by simp [Value.ownBlock], Nat.le_refl _⟩)
  · have : W.heap.size = k := by simpa [Value.ownBlock] using hk
    subst this
    exact hfresh
  · simpa using hcut
  · exact Reps.none _ _
theorem S_make0 (d : Kd α) {w0 W : World} (base e : Nat) (hgd : o.guard = none) {N : Tmp} (hd : o.dst = some N) (t : TypeId) (x y : Operand) (ho : o.op = .makeSlice t x y) (n : Int) (hx : a.eval x = .int .i64 0) (hy : a.eval y = .int .i64 n)
    (ht : P.underlying t = some (.slice e)) (z : Value) (bytes : Nat) (hinfo : (P.info? e).map (fun i => (i.zero, i.size, i.bytes)) = some (some z, d.sz, bytes)) (hz : z.cells.size = d.sz) (hs0 : 0 < d.sz) (hb0 : 0 < bytes)
    {ok : Nat → Prop} (hfresh : ok W.heap.size) (h0 : 0 ≤ n) (hl : n.toNat * bytes ≤ 281474976710656) (HB : Below base w0 W) (hbase : base ≤ W.heap.size)
    (h : ∀ v1 w1, Kd.S d e w1 base ok v1 [] → Below base w0 w1 → W.grownBy w1 none → (∃ b, v1.ownBlock = some b ∧ W.heap.size ≤ b) → wpList P ops Q rest (a.put o.dst v1) w1) : wpList P ops Q (o :: rest) a W :=
  R_make0 (Kd.bare d) base e hgd hd t x y ho n hx hy ht z bytes hinfo hz hs0 hb0 (ok := ok) hfresh h0 hl HB hbase (fun v1 w1 hr => h v1 w1 (Kd.S_bare hr))
end
end Go.Proofs.Ytffkojdmidhchaa.P
end
section
-- written by wip/tools/mkprint.py (a program of this session over the kit's print). Lean checks it.
namespace Go.Proofs.Ytffkojdmidhchaa.P
open Go.RowKit Go.Proofs.YtffkojdmidhchaaW.PrintWords Go.Proofs.YtffkojdmidhchaaW.PrintLast Go.Proofs.YtffkojdmidhchaaW.PrintMore
attribute [local go_sem] max2_int min2_int max_two min_two max_three min_three max_four min_four   -- for this text's walks alone
set_option linter.unusedVariables false
set_option linter.unusedSimpArgs false



def errW : Option Int → Value
  | none => .nilIface
  | some c => .iface 0 (.int .i64 c)
theorem errW_none : errW none = .nilIface := rfl
theorem errW_some (c : Int) : errW (some c) = .iface 0 (.int .i64 c) := rfl

theorem info3 : (Try.prog.info? 3).map (fun i => (i.zero, i.size, i.bytes)) = some (some (.int .i64 0), 1, 8) := by kernel_rfl
theorem info5 : (Try.prog.info? 5).map (fun i => (i.zero, i.size, i.bytes)) = some (some (.int .u8 0), 1, 1) := by kernel_rfl
theorem info30 : (Try.prog.info? 30).map (fun i => (i.zero, i.size, i.bytes)) = some (some (.agg #[(.int .i64 0), (.int .i64 0)]), 2, 16) := by kernel_rfl
theorem info56 : (Try.prog.info? 56).map (fun i => (i.zero, i.size, i.bytes)) = some (some (.agg #[(.int .i64 0), (.int .i64 0)]), 2, 16) := by kernel_rfl
theorem info62 : (Try.prog.info? 62).map (fun i => (i.zero, i.size, i.bytes)) = some (some (.slice none 0 0), 1, 24) := by kernel_rfl
theorem info74 : (Try.prog.info? 74).map (fun i => (i.zero, i.size, i.bytes)) = some (some (.agg #[(.int .i64 0), (.int .i64 0), (.int .i64 0)]), 3, 24) := by kernel_rfl
theorem info141 : (Try.prog.info? 141).map (fun i => (i.zero, i.size, i.bytes)) = some (some (.agg #[(.int .i64 0), (.int .i64 0)]), 2, 16) := by kernel_rfl
-- the values' own types
def rd_L3 (xs : List (List Int)) (i : Int) : (List Int) := xs.getD i.toNat ([] : List Int)
theorem at_L3 {w : World} {A : Option Addr} {n : Nat} {xs : List (List Int)} (h : Kd.C (Kd.slice 5 (Kd.int .u8)) w A n xs) (i : Int) (h0 : 0 ≤ i) (h1 : i < n) : ∃ ad A0 c0, A = some ad ∧ w.cell? (ad.add i.toNat) = some (.slice A0 (rd_L3 xs i).length c0) ∧ (rd_L3 xs i).length ≤ c0 ∧ (Kd.int .u8).C w A0 (rd_L3 xs i).length (rd_L3 xs i) := by
  obtain ⟨ad, c, e, _, hK, hc0⟩ := Kd.C_get h ([] : List Int) i h0 h1
  have hc : ∀ j u, c[j]? = some u → w.cell? (ad.add (i.toNat * 1 + j)) = some u := hc0
  obtain ⟨A0, c0, rfl, l0, g0⟩ := hK
  exact ⟨ad, A0, c0, e, by have hq := hc 0 _ rfl; rwa [Nat.mul_one, Nat.add_zero] at hq, l0, g0⟩

/-! #### struct type 30 -/
structure S30 where
  f0 : Int
  f1 : Int
def z30 : S30 := ⟨(0 : Int), (0 : Int)⟩
def k30 : Kd S30 := Kd.iso (Kd.pair (Kd.int .i64) (Kd.int .i64)) (fun x : S30 => (x.f0, x.f1))
theorem k30_heap : Kd.Heap k30 := Kd.heap_iso _ (Kd.heap_pair (Kd.heap_int .i64) (Kd.heap_int .i64))
theorem k30_open {w : World} {x : S30} {cs : List Value} (h : k30.K w x cs) : cs = [.int .i64 x.f0, .int .i64 x.f1] := by
  obtain ⟨_, _, rfl, rfl, rfl⟩ := h
  exact rfl
theorem k30_openM {w : World} {base : Nat} {ok : Nat → Prop} {x : S30} {cs : List Value} (h : k30.M w base ok x cs) : cs = [.int .i64 x.f0, .int .i64 x.f1] := by
  obtain ⟨_, _, rfl, rfl, rfl⟩ := h
  exact rfl
theorem k30_mk (w : World) (x : S30)  : k30.K w x [.int .i64 x.f0, .int .i64 x.f1] := ⟨[.int .i64 x.f0], [.int .i64 x.f1], rfl, rfl, rfl⟩
theorem k30_mkM (w : World) (base : Nat) (ok : Nat → Prop) (x : S30)  : k30.M w base ok x [.int .i64 x.f0, .int .i64 x.f1] := ⟨[.int .i64 x.f0], [.int .i64 x.f1], rfl, rfl, rfl⟩
theorem k30_mkF (W : World) (ok : Nat → Prop) (x : S30) : Kd.FK k30 W ok x [.int .i64 x.f0, .int .i64 x.f1] := fun W2 _ => k30_mk W2 x
def rd_T30 (xs : List S30) (i : Int) : S30 := xs.getD i.toNat z30
theorem at_T30 {w : World} {A : Option Addr} {n : Nat} {xs : List S30} (h : Kd.C k30 w A n xs) (i : Int) (h0 : 0 ≤ i) (h1 : i < n) : ∃ ad , A = some ad ∧ w.cell? (ad.add (i.toNat * 2)) = some (.int .i64 (rd_T30 xs i).f0) ∧ w.cell? ⟨(ad.add (i.toNat * 2)).block, (ad.add (i.toNat * 2)).off + 1, none⟩ = some (.int .i64 (rd_T30 xs i).f1) := by
  obtain ⟨ad, c, e, _, hK, hc0⟩ := Kd.C_get h z30 i h0 h1
  have hc : ∀ j u, c[j]? = some u → w.cell? (ad.add (i.toNat * 2 + j)) = some u := hc0
  obtain rfl := k30_open hK
  exact ⟨ad, e, hc 0 _ rfl, by rw [← add_field _ _ 1 (by omega)]; exact hc 1 _ rfl⟩

def rd_L5 (xs : List (List S30)) (i : Int) : (List S30) := xs.getD i.toNat ([] : List S30)
theorem at_L5 {w : World} {A : Option Addr} {n : Nat} {xs : List (List S30)} (h : Kd.C (Kd.slice 30 k30) w A n xs) (i : Int) (h0 : 0 ≤ i) (h1 : i < n) : ∃ ad A0 c0, A = some ad ∧ w.cell? (ad.add i.toNat) = some (.slice A0 (rd_L5 xs i).length c0) ∧ (rd_L5 xs i).length ≤ c0 ∧ k30.C w A0 (rd_L5 xs i).length (rd_L5 xs i) := by
  obtain ⟨ad, c, e, _, hK, hc0⟩ := Kd.C_get h ([] : List S30) i h0 h1
  have hc : ∀ j u, c[j]? = some u → w.cell? (ad.add (i.toNat * 1 + j)) = some u := hc0
  obtain ⟨A0, c0, rfl, l0, g0⟩ := hK
  exact ⟨ad, A0, c0, e, by have hq := hc 0 _ rfl; rwa [Nat.mul_one, Nat.add_zero] at hq, l0, g0⟩

/-! #### struct type 43 -/
structure S43 where
  f0 : Int
  f1 : Int
def z43 : S43 := ⟨(0 : Int), (0 : Int)⟩
def k43 : Kd S43 := Kd.iso (Kd.pair (Kd.int .i64) (Kd.int .i64)) (fun x : S43 => (x.f0, x.f1))
theorem k43_heap : Kd.Heap k43 := Kd.heap_iso _ (Kd.heap_pair (Kd.heap_int .i64) (Kd.heap_int .i64))
theorem k43_open {w : World} {x : S43} {cs : List Value} (h : k43.K w x cs) : cs = [.int .i64 x.f0, .int .i64 x.f1] := by
  obtain ⟨_, _, rfl, rfl, rfl⟩ := h
  exact rfl
theorem k43_openM {w : World} {base : Nat} {ok : Nat → Prop} {x : S43} {cs : List Value} (h : k43.M w base ok x cs) : cs = [.int .i64 x.f0, .int .i64 x.f1] := by
  obtain ⟨_, _, rfl, rfl, rfl⟩ := h
  exact rfl
theorem k43_mk (w : World) (x : S43)  : k43.K w x [.int .i64 x.f0, .int .i64 x.f1] := ⟨[.int .i64 x.f0], [.int .i64 x.f1], rfl, rfl, rfl⟩
theorem k43_mkM (w : World) (base : Nat) (ok : Nat → Prop) (x : S43)  : k43.M w base ok x [.int .i64 x.f0, .int .i64 x.f1] := ⟨[.int .i64 x.f0], [.int .i64 x.f1], rfl, rfl, rfl⟩
theorem k43_mkF (W : World) (ok : Nat → Prop) (x : S43) : Kd.FK k43 W ok x [.int .i64 x.f0, .int .i64 x.f1] := fun W2 _ => k43_mk W2 x
def rd_T43 (xs : List S43) (i : Int) : S43 := xs.getD i.toNat z43
theorem at_T43 {w : World} {A : Option Addr} {n : Nat} {xs : List S43} (h : Kd.C k43 w A n xs) (i : Int) (h0 : 0 ≤ i) (h1 : i < n) : ∃ ad , A = some ad ∧ w.cell? (ad.add (i.toNat * 2)) = some (.int .i64 (rd_T43 xs i).f0) ∧ w.cell? ⟨(ad.add (i.toNat * 2)).block, (ad.add (i.toNat * 2)).off + 1, none⟩ = some (.int .i64 (rd_T43 xs i).f1) := by
  obtain ⟨ad, c, e, _, hK, hc0⟩ := Kd.C_get h z43 i h0 h1
  have hc : ∀ j u, c[j]? = some u → w.cell? (ad.add (i.toNat * 2 + j)) = some u := hc0
  obtain rfl := k43_open hK
  exact ⟨ad, e, hc 0 _ rfl, by rw [← add_field _ _ 1 (by omega)]; exact hc 1 _ rfl⟩

def rd_L7 (xs : List (List Int)) (i : Int) : (List Int) := xs.getD i.toNat ([] : List Int)
theorem at_L7 {w : World} {A : Option Addr} {n : Nat} {xs : List (List Int)} (h : Kd.C (Kd.slice 3 (Kd.int .i64)) w A n xs) (i : Int) (h0 : 0 ≤ i) (h1 : i < n) : ∃ ad A0 c0, A = some ad ∧ w.cell? (ad.add i.toNat) = some (.slice A0 (rd_L7 xs i).length c0) ∧ (rd_L7 xs i).length ≤ c0 ∧ (Kd.int .i64).C w A0 (rd_L7 xs i).length (rd_L7 xs i) := by
  obtain ⟨ad, c, e, _, hK, hc0⟩ := Kd.C_get h ([] : List Int) i h0 h1
  have hc : ∀ j u, c[j]? = some u → w.cell? (ad.add (i.toNat * 1 + j)) = some u := hc0
  obtain ⟨A0, c0, rfl, l0, g0⟩ := hK
  exact ⟨ad, A0, c0, e, by have hq := hc 0 _ rfl; rwa [Nat.mul_one, Nat.add_zero] at hq, l0, g0⟩

def rd_L8 (xs : List (List (List Int))) (i : Int) : (List (List Int)) := xs.getD i.toNat ([] : List (List Int))
theorem at_L8 {w : World} {A : Option Addr} {n : Nat} {xs : List (List (List Int))} (h : Kd.C (Kd.slice 62 (Kd.slice 3 (Kd.int .i64))) w A n xs) (i : Int) (h0 : 0 ≤ i) (h1 : i < n) : ∃ ad A0 c0, A = some ad ∧ w.cell? (ad.add i.toNat) = some (.slice A0 (rd_L8 xs i).length c0) ∧ (rd_L8 xs i).length ≤ c0 ∧ (Kd.slice 3 (Kd.int .i64)).C w A0 (rd_L8 xs i).length (rd_L8 xs i) := by
  obtain ⟨ad, c, e, _, hK, hc0⟩ := Kd.C_get h ([] : List (List Int)) i h0 h1
  have hc : ∀ j u, c[j]? = some u → w.cell? (ad.add (i.toNat * 1 + j)) = some u := hc0
  obtain ⟨A0, c0, rfl, l0, g0⟩ := hK
  exact ⟨ad, A0, c0, e, by have hq := hc 0 _ rfl; rwa [Nat.mul_one, Nat.add_zero] at hq, l0, g0⟩

/-! #### struct type 56 -/
structure S56 where
  f0 : Int
  f1 : Int
def z56 : S56 := ⟨(0 : Int), (0 : Int)⟩
def k56 : Kd S56 := Kd.iso (Kd.pair (Kd.int .i64) (Kd.int .i64)) (fun x : S56 => (x.f0, x.f1))
theorem k56_heap : Kd.Heap k56 := Kd.heap_iso _ (Kd.heap_pair (Kd.heap_int .i64) (Kd.heap_int .i64))
theorem k56_open {w : World} {x : S56} {cs : List Value} (h : k56.K w x cs) : cs = [.int .i64 x.f0, .int .i64 x.f1] := by
  obtain ⟨_, _, rfl, rfl, rfl⟩ := h
  exact rfl
theorem k56_openM {w : World} {base : Nat} {ok : Nat → Prop} {x : S56} {cs : List Value} (h : k56.M w base ok x cs) : cs = [.int .i64 x.f0, .int .i64 x.f1] := by
  obtain ⟨_, _, rfl, rfl, rfl⟩ := h
  exact rfl
theorem k56_mk (w : World) (x : S56)  : k56.K w x [.int .i64 x.f0, .int .i64 x.f1] := ⟨[.int .i64 x.f0], [.int .i64 x.f1], rfl, rfl, rfl⟩
theorem k56_mkM (w : World) (base : Nat) (ok : Nat → Prop) (x : S56)  : k56.M w base ok x [.int .i64 x.f0, .int .i64 x.f1] := ⟨[.int .i64 x.f0], [.int .i64 x.f1], rfl, rfl, rfl⟩
theorem k56_mkF (W : World) (ok : Nat → Prop) (x : S56) : Kd.FK k56 W ok x [.int .i64 x.f0, .int .i64 x.f1] := fun W2 _ => k56_mk W2 x
def rd_T56 (xs : List S56) (i : Int) : S56 := xs.getD i.toNat z56
theorem at_T56 {w : World} {A : Option Addr} {n : Nat} {xs : List S56} (h : Kd.C k56 w A n xs) (i : Int) (h0 : 0 ≤ i) (h1 : i < n) : ∃ ad , A = some ad ∧ w.cell? (ad.add (i.toNat * 2)) = some (.int .i64 (rd_T56 xs i).f0) ∧ w.cell? ⟨(ad.add (i.toNat * 2)).block, (ad.add (i.toNat * 2)).off + 1, none⟩ = some (.int .i64 (rd_T56 xs i).f1) := by
  obtain ⟨ad, c, e, _, hK, hc0⟩ := Kd.C_get h z56 i h0 h1
  have hc : ∀ j u, c[j]? = some u → w.cell? (ad.add (i.toNat * 2 + j)) = some u := hc0
  obtain rfl := k56_open hK
  exact ⟨ad, e, hc 0 _ rfl, by rw [← add_field _ _ 1 (by omega)]; exact hc 1 _ rfl⟩

/-! #### struct type 74 -/
structure S74 where
  f0 : Int
  f1 : Int
  f2 : Int
def z74 : S74 := ⟨(0 : Int), (0 : Int), (0 : Int)⟩
def k74 : Kd S74 := Kd.iso (Kd.pair (Kd.int .i64) (Kd.pair (Kd.int .i64) (Kd.int .i64))) (fun x : S74 => (x.f0, x.f1, x.f2))
theorem k74_heap : Kd.Heap k74 := Kd.heap_iso _ (Kd.heap_pair (Kd.heap_int .i64) (Kd.heap_pair (Kd.heap_int .i64) (Kd.heap_int .i64)))
theorem k74_open {w : World} {x : S74} {cs : List Value} (h : k74.K w x cs) : cs = [.int .i64 x.f0, .int .i64 x.f1, .int .i64 x.f2] := by
  obtain ⟨_, _, rfl, rfl, ⟨_, _, rfl, rfl, rfl⟩⟩ := h
  exact rfl
theorem k74_openM {w : World} {base : Nat} {ok : Nat → Prop} {x : S74} {cs : List Value} (h : k74.M w base ok x cs) : cs = [.int .i64 x.f0, .int .i64 x.f1, .int .i64 x.f2] := by
  obtain ⟨_, _, rfl, rfl, ⟨_, _, rfl, rfl, rfl⟩⟩ := h
  exact rfl
theorem k74_mk (w : World) (x : S74)  : k74.K w x [.int .i64 x.f0, .int .i64 x.f1, .int .i64 x.f2] := ⟨[.int .i64 x.f0], [.int .i64 x.f1, .int .i64 x.f2], rfl, rfl, ⟨[.int .i64 x.f1], [.int .i64 x.f2], rfl, rfl, rfl⟩⟩
theorem k74_mkM (w : World) (base : Nat) (ok : Nat → Prop) (x : S74)  : k74.M w base ok x [.int .i64 x.f0, .int .i64 x.f1, .int .i64 x.f2] := ⟨[.int .i64 x.f0], [.int .i64 x.f1, .int .i64 x.f2], rfl, rfl, ⟨[.int .i64 x.f1], [.int .i64 x.f2], rfl, rfl, rfl⟩⟩
theorem k74_mkF (W : World) (ok : Nat → Prop) (x : S74) : Kd.FK k74 W ok x [.int .i64 x.f0, .int .i64 x.f1, .int .i64 x.f2] := fun W2 _ => k74_mk W2 x
def rd_T74 (xs : List S74) (i : Int) : S74 := xs.getD i.toNat z74
theorem at_T74 {w : World} {A : Option Addr} {n : Nat} {xs : List S74} (h : Kd.C k74 w A n xs) (i : Int) (h0 : 0 ≤ i) (h1 : i < n) : ∃ ad , A = some ad ∧ w.cell? (ad.add (i.toNat * 3)) = some (.int .i64 (rd_T74 xs i).f0) ∧ w.cell? ⟨(ad.add (i.toNat * 3)).block, (ad.add (i.toNat * 3)).off + 1, none⟩ = some (.int .i64 (rd_T74 xs i).f1) ∧ w.cell? ⟨(ad.add (i.toNat * 3)).block, (ad.add (i.toNat * 3)).off + 2, none⟩ = some (.int .i64 (rd_T74 xs i).f2) := by
  obtain ⟨ad, c, e, _, hK, hc0⟩ := Kd.C_get h z74 i h0 h1
  have hc : ∀ j u, c[j]? = some u → w.cell? (ad.add (i.toNat * 3 + j)) = some u := hc0
  obtain rfl := k74_open hK
  exact ⟨ad, e, hc 0 _ rfl, by rw [← add_field _ _ 1 (by omega)]; exact hc 1 _ rfl, by rw [← add_field _ _ 2 (by omega)]; exact hc 2 _ rfl⟩

def rd_L11 (xs : List (List S74)) (i : Int) : (List S74) := xs.getD i.toNat ([] : List S74)
theorem at_L11 {w : World} {A : Option Addr} {n : Nat} {xs : List (List S74)} (h : Kd.C (Kd.slice 74 k74) w A n xs) (i : Int) (h0 : 0 ≤ i) (h1 : i < n) : ∃ ad A0 c0, A = some ad ∧ w.cell? (ad.add i.toNat) = some (.slice A0 (rd_L11 xs i).length c0) ∧ (rd_L11 xs i).length ≤ c0 ∧ k74.C w A0 (rd_L11 xs i).length (rd_L11 xs i) := by
  obtain ⟨ad, c, e, _, hK, hc0⟩ := Kd.C_get h ([] : List S74) i h0 h1
  have hc : ∀ j u, c[j]? = some u → w.cell? (ad.add (i.toNat * 1 + j)) = some u := hc0
  obtain ⟨A0, c0, rfl, l0, g0⟩ := hK
  exact ⟨ad, A0, c0, e, by have hq := hc 0 _ rfl; rwa [Nat.mul_one, Nat.add_zero] at hq, l0, g0⟩

def rd_L12 (xs : List (List S56)) (i : Int) : (List S56) := xs.getD i.toNat ([] : List S56)
theorem at_L12 {w : World} {A : Option Addr} {n : Nat} {xs : List (List S56)} (h : Kd.C (Kd.slice 56 k56) w A n xs) (i : Int) (h0 : 0 ≤ i) (h1 : i < n) : ∃ ad A0 c0, A = some ad ∧ w.cell? (ad.add i.toNat) = some (.slice A0 (rd_L12 xs i).length c0) ∧ (rd_L12 xs i).length ≤ c0 ∧ k56.C w A0 (rd_L12 xs i).length (rd_L12 xs i) := by
  obtain ⟨ad, c, e, _, hK, hc0⟩ := Kd.C_get h ([] : List S56) i h0 h1
  have hc : ∀ j u, c[j]? = some u → w.cell? (ad.add (i.toNat * 1 + j)) = some u := hc0
  obtain ⟨A0, c0, rfl, l0, g0⟩ := hK
  exact ⟨ad, A0, c0, e, by have hq := hc 0 _ rfl; rwa [Nat.mul_one, Nat.add_zero] at hq, l0, g0⟩

/-! #### struct type 111 -/
structure S111 where
  f0 : Int
  f1 : Int
def z111 : S111 := ⟨(0 : Int), (0 : Int)⟩
def k111 : Kd S111 := Kd.iso (Kd.pair (Kd.int .i64) (Kd.int .i64)) (fun x : S111 => (x.f0, x.f1))
theorem k111_heap : Kd.Heap k111 := Kd.heap_iso _ (Kd.heap_pair (Kd.heap_int .i64) (Kd.heap_int .i64))
theorem k111_open {w : World} {x : S111} {cs : List Value} (h : k111.K w x cs) : cs = [.int .i64 x.f0, .int .i64 x.f1] := by
  obtain ⟨_, _, rfl, rfl, rfl⟩ := h
  exact rfl
theorem k111_openM {w : World} {base : Nat} {ok : Nat → Prop} {x : S111} {cs : List Value} (h : k111.M w base ok x cs) : cs = [.int .i64 x.f0, .int .i64 x.f1] := by
  obtain ⟨_, _, rfl, rfl, rfl⟩ := h
  exact rfl
theorem k111_mk (w : World) (x : S111)  : k111.K w x [.int .i64 x.f0, .int .i64 x.f1] := ⟨[.int .i64 x.f0], [.int .i64 x.f1], rfl, rfl, rfl⟩
theorem k111_mkM (w : World) (base : Nat) (ok : Nat → Prop) (x : S111)  : k111.M w base ok x [.int .i64 x.f0, .int .i64 x.f1] := ⟨[.int .i64 x.f0], [.int .i64 x.f1], rfl, rfl, rfl⟩
theorem k111_mkF (W : World) (ok : Nat → Prop) (x : S111) : Kd.FK k111 W ok x [.int .i64 x.f0, .int .i64 x.f1] := fun W2 _ => k111_mk W2 x
def rd_T111 (xs : List S111) (i : Int) : S111 := xs.getD i.toNat z111
theorem at_T111 {w : World} {A : Option Addr} {n : Nat} {xs : List S111} (h : Kd.C k111 w A n xs) (i : Int) (h0 : 0 ≤ i) (h1 : i < n) : ∃ ad , A = some ad ∧ w.cell? (ad.add (i.toNat * 2)) = some (.int .i64 (rd_T111 xs i).f0) ∧ w.cell? ⟨(ad.add (i.toNat * 2)).block, (ad.add (i.toNat * 2)).off + 1, none⟩ = some (.int .i64 (rd_T111 xs i).f1) := by
  obtain ⟨ad, c, e, _, hK, hc0⟩ := Kd.C_get h z111 i h0 h1
  have hc : ∀ j u, c[j]? = some u → w.cell? (ad.add (i.toNat * 2 + j)) = some u := hc0
  obtain rfl := k111_open hK
  exact ⟨ad, e, hc 0 _ rfl, by rw [← add_field _ _ 1 (by omega)]; exact hc 1 _ rfl⟩

/-! #### struct type 141 -/
structure S141 where
  f0 : Int
  f1 : Int
def z141 : S141 := ⟨(0 : Int), (0 : Int)⟩
def k141 : Kd S141 := Kd.iso (Kd.pair (Kd.int .i64) (Kd.int .i64)) (fun x : S141 => (x.f0, x.f1))
theorem k141_heap : Kd.Heap k141 := Kd.heap_iso _ (Kd.heap_pair (Kd.heap_int .i64) (Kd.heap_int .i64))
theorem k141_open {w : World} {x : S141} {cs : List Value} (h : k141.K w x cs) : cs = [.int .i64 x.f0, .int .i64 x.f1] := by
  obtain ⟨_, _, rfl, rfl, rfl⟩ := h
  exact rfl
theorem k141_openM {w : World} {base : Nat} {ok : Nat → Prop} {x : S141} {cs : List Value} (h : k141.M w base ok x cs) : cs = [.int .i64 x.f0, .int .i64 x.f1] := by
  obtain ⟨_, _, rfl, rfl, rfl⟩ := h
  exact rfl
theorem k141_mk (w : World) (x : S141)  : k141.K w x [.int .i64 x.f0, .int .i64 x.f1] := ⟨[.int .i64 x.f0], [.int .i64 x.f1], rfl, rfl, rfl⟩
theorem k141_mkM (w : World) (base : Nat) (ok : Nat → Prop) (x : S141)  : k141.M w base ok x [.int .i64 x.f0, .int .i64 x.f1] := ⟨[.int .i64 x.f0], [.int .i64 x.f1], rfl, rfl, rfl⟩
theorem k141_mkF (W : World) (ok : Nat → Prop) (x : S141) : Kd.FK k141 W ok x [.int .i64 x.f0, .int .i64 x.f1] := fun W2 _ => k141_mk W2 x
def rd_T141 (xs : List S141) (i : Int) : S141 := xs.getD i.toNat z141
theorem at_T141 {w : World} {A : Option Addr} {n : Nat} {xs : List S141} (h : Kd.C k141 w A n xs) (i : Int) (h0 : 0 ≤ i) (h1 : i < n) : ∃ ad , A = some ad ∧ w.cell? (ad.add (i.toNat * 2)) = some (.int .i64 (rd_T141 xs i).f0) ∧ w.cell? ⟨(ad.add (i.toNat * 2)).block, (ad.add (i.toNat * 2)).off + 1, none⟩ = some (.int .i64 (rd_T141 xs i).f1) := by
  obtain ⟨ad, c, e, _, hK, hc0⟩ := Kd.C_get h z141 i h0 h1
  have hc : ∀ j u, c[j]? = some u → w.cell? (ad.add (i.toNat * 2 + j)) = some u := hc0
  obtain rfl := k141_open hK
  exact ⟨ad, e, hc 0 _ rfl, by rw [← add_field _ _ 1 (by omega)]; exact hc 1 _ rfl⟩

def rd_L15 (xs : List (List S141)) (i : Int) : (List S141) := xs.getD i.toNat ([] : List S141)
theorem at_L15 {w : World} {A : Option Addr} {n : Nat} {xs : List (List S141)} (h : Kd.C (Kd.slice 141 k141) w A n xs) (i : Int) (h0 : 0 ≤ i) (h1 : i < n) : ∃ ad A0 c0, A = some ad ∧ w.cell? (ad.add i.toNat) = some (.slice A0 (rd_L15 xs i).length c0) ∧ (rd_L15 xs i).length ≤ c0 ∧ k141.C w A0 (rd_L15 xs i).length (rd_L15 xs i) := by
  obtain ⟨ad, c, e, _, hK, hc0⟩ := Kd.C_get h ([] : List S141) i h0 h1
  have hc : ∀ j u, c[j]? = some u → w.cell? (ad.add (i.toNat * 1 + j)) = some u := hc0
  obtain ⟨A0, c0, rfl, l0, g0⟩ := hK
  exact ⟨ad, A0, c0, e, by have hq := hc 0 _ rfl; rwa [Nat.mul_one, Nat.add_zero] at hq, l0, g0⟩

end Go.Proofs.Ytffkojdmidhchaa.P
end
section
-- written by wip/tools/mkprint.py (a program of this session over the kit's print). Lean checks it.
namespace Go.Proofs.Ytffkojdmidhchaa.P
open Go.RowKit Go.Proofs.YtffkojdmidhchaaW.PrintWords Go.Proofs.YtffkojdmidhchaaW.PrintLast Go.Proofs.YtffkojdmidhchaaW.PrintMore
attribute [local go_sem] max2_int min2_int max_two min_two max_three min_three max_four min_four   -- for this text's walks alone
set_option linter.unusedVariables false
set_option linter.unusedSimpArgs false

/-! ### impl_absInt: function 99 -/
def impl_absInt.f (a0 : Int) : Option (Int) := if a0 < 0 then (some (wrap64 (-a0))) else (some a0)
set_option maxHeartbeats 8000000 in
set_option maxRecDepth 100000 in
theorem impl_absInt.calls (a0 : Int) (r : Int) (w : World) (h : impl_absInt.f a0 = some r) :
    Calls Try.prog 99 #[.int .i64 a0] w fun e w' => e = .returned (.int .i64 r) ∧ Drawn0 w w' := by
  have H : (if a0 < 0 then (some (wrap64 (-a0))) else (some a0)) = some r := h
  clear h
  by_cases c2 : a0 < 0
  · rw [if_pos c2] at H
    have c2b0 : decide (a0 < 0) = true := decide_eq_true c2
    clear c2
    obtain rfl := Option.some.inj H
    go_enter Try.func99, Try.ntmps99
    go_wp2
    go_ret
    exact ⟨by first | rfl | (simp; done) | (simp [*]; done), by repeat (first | exact Drawn0.refl _ | apply Drawn0.step)⟩
  · rw [if_neg c2] at H
    have c2b0 : decide (a0 < 0) = false := decide_eq_false c2
    clear c2
    obtain rfl := Option.some.inj H
    go_enter Try.func99, Try.ntmps99
    go_wp2
    go_ret
    exact ⟨by first | rfl | (simp; done) | (simp [*]; done), by repeat (first | exact Drawn0.refl _ | apply Drawn0.step)⟩

end Go.Proofs.Ytffkojdmidhchaa.P
end
section
-- written by wip/tools/mkprint.py (a program of this session over the kit's print). Lean checks it.
namespace Go.Proofs.Ytffkojdmidhchaa.P
open Go.RowKit Go.Proofs.YtffkojdmidhchaaW.PrintWords Go.Proofs.YtffkojdmidhchaaW.PrintLast Go.Proofs.YtffkojdmidhchaaW.PrintMore
attribute [local go_sem] max2_int min2_int max_two min_two max_three min_three max_four min_four   -- for this text's walks alone
set_option linter.unusedVariables false
set_option linter.unusedSimpArgs false

/-! ### impl_stepLength: function 80 -/
def impl_stepLength.f (a0_0 : Int) (a0_1 : Int) : Option (Int) := (impl_absInt.f a0_0).bind fun t498 => ((impl_absInt.f a0_1).bind fun t499 => (some (wrap64 (t498 + t499))))
set_option maxHeartbeats 8000000 in
set_option maxRecDepth 100000 in
theorem impl_stepLength.calls (a0_0 : Int) (a0_1 : Int) (r : Int) (w : World) (h : impl_stepLength.f a0_0 a0_1 = some r) :
    Calls Try.prog 80 #[.agg #[.int .i64 a0_0, .int .i64 a0_1]] w fun e w' => e = .returned (.int .i64 r) ∧ Below w.heap.size w w' := by
  have hu30 := Try.underlying30
  have HB := Aside0.mk (Below.refl w.heap.size w)
  have H : ((impl_absInt.f a0_0).bind fun t498 => ((impl_absInt.f a0_1).bind fun t499 => (some (wrap64 (t498 + t499))))) = some r := h
  clear h
  replace H := Option.bind_eq_some_iff.mp H
  obtain ⟨t498, A20, H⟩ := H
  replace H : ((impl_absInt.f a0_1).bind fun t499 => (some (wrap64 (t498 + t499)))) = some r := H
  have A2 := Aside0.mk A20
  clear A20
  replace H := Option.bind_eq_some_iff.mp H
  obtain ⟨t499, A30, H⟩ := H
  replace H : (some (wrap64 (t498 + t499))) = some r := H
  have A3 := Aside0.mk A30
  clear A30
  obtain rfl := Option.some.inj H
  go_enter Try.func80, Try.ntmps80
  go_wp2_with (first | ((with_reducible refine gate_dst (N := 1) rfl ?_); refine box_event ?hg (N := 1) ?hd (cs := #[.int .i64 a0_0, .int .i64 a0_1]) (t := 30) ?hr ?_; (case hd => rfl); (case hg => rfl); (case hr => first | (go_simp; done) | (go_simp; rfl)); intro gb497 hg w4 hbox hb; have n0_ := Aside0.mk (below_step (by repeat (first | (with_reducible first | exact HB.out | apply below_alloc | apply pw_below_drewN | apply below_drew1) | exact HB.out)) hb); have n1_ := Aside0.mk (hbox); have n2_ := Aside0.mk ((by rw [hg]; exact (below_size (by repeat (first | (with_reducible first | exact HB.out | apply below_alloc | apply pw_below_drewN | apply below_drew1) | exact HB.out))) : w.heap.size ≤ gb497)); have n3_ := Aside0.mk ((by rw [hg]; exact (below_size (by repeat (first | (with_reducible first | exact HB.out | apply below_alloc | apply pw_below_drewN | apply below_drew1) | exact HB.out))) : w.heap.size ≤ gb497)); clear HB; have HB := n0_; have BK497 := n1_; have GW497 := n2_; have GE497 := n3_; clear n0_ n1_ n2_ n3_; clear hb hbox hg; have hcz5_0 : w4.cell? ⟨gb497, 0, none⟩ = some (.int .i64 a0_0) := (blk_cell BK497.out 0).trans rfl; have hcz5_1 : w4.cell? ⟨gb497, 1, none⟩ = some (.int .i64 a0_1) := (blk_cell BK497.out 1).trans rfl; have hfz5_0 := blk_frozen BK497.out 0; have hfz5_1 := blk_frozen BK497.out 1) | (go_at_call 99; (with_reducible refine (impl_absInt.calls a0_0 t498 _ A2.out).mono ?_); rintro e w' ⟨rfl, ⟨nd, rfl⟩⟩; (try first | exact ⟨rfl, _, World.drewN_drewN _ _ _⟩ | exact ⟨rfl, _, Eq.trans (World.drewN_drewN _ _ _) (congrArg (World.drewN _) (Nat.add_assoc _ _ _))⟩)) | (go_at_call 99; (with_reducible refine (impl_absInt.calls a0_1 t499 _ A3.out).mono ?_); rintro e w' ⟨rfl, ⟨nd, rfl⟩⟩; (try first | exact ⟨rfl, _, World.drewN_drewN _ _ _⟩ | exact ⟨rfl, _, Eq.trans (World.drewN_drewN _ _ _) (congrArg (World.drewN _) (Nat.add_assoc _ _ _))⟩)))
  repeat (go_quiet (first | ((with_reducible refine gate_dst (N := 1) rfl ?_); refine box_event ?hg (N := 1) ?hd (cs := #[.int .i64 a0_0, .int .i64 a0_1]) (t := 30) ?hr ?_; (case hd => rfl); (case hg => rfl); (case hr => first | (go_simp; done) | (go_simp; rfl)); intro gb497 hg w4 hbox hb; have n0_ := Aside0.mk (below_step (by repeat (first | (with_reducible first | exact HB.out | apply below_alloc | apply pw_below_drewN | apply below_drew1) | exact HB.out)) hb); have n1_ := Aside0.mk (hbox); have n2_ := Aside0.mk ((by rw [hg]; exact (below_size (by repeat (first | (with_reducible first | exact HB.out | apply below_alloc | apply pw_below_drewN | apply below_drew1) | exact HB.out))) : w.heap.size ≤ gb497)); have n3_ := Aside0.mk ((by rw [hg]; exact (below_size (by repeat (first | (with_reducible first | exact HB.out | apply below_alloc | apply pw_below_drewN | apply below_drew1) | exact HB.out))) : w.heap.size ≤ gb497)); clear HB; have HB := n0_; have BK497 := n1_; have GW497 := n2_; have GE497 := n3_; clear n0_ n1_ n2_ n3_; clear hb hbox hg; have hcz5_0 : w4.cell? ⟨gb497, 0, none⟩ = some (.int .i64 a0_0) := (blk_cell BK497.out 0).trans rfl; have hcz5_1 : w4.cell? ⟨gb497, 1, none⟩ = some (.int .i64 a0_1) := (blk_cell BK497.out 1).trans rfl; have hfz5_0 := blk_frozen BK497.out 0; have hfz5_1 := blk_frozen BK497.out 1) | (go_at_call 99; (with_reducible refine (impl_absInt.calls a0_0 t498 _ A2.out).mono ?_); rintro e w' ⟨rfl, ⟨nd, rfl⟩⟩; (try first | exact ⟨rfl, _, World.drewN_drewN _ _ _⟩ | exact ⟨rfl, _, Eq.trans (World.drewN_drewN _ _ _) (congrArg (World.drewN _) (Nat.add_assoc _ _ _))⟩)) | (go_at_call 99; (with_reducible refine (impl_absInt.calls a0_1 t499 _ A3.out).mono ?_); rintro e w' ⟨rfl, ⟨nd, rfl⟩⟩; (try first | exact ⟨rfl, _, World.drewN_drewN _ _ _⟩ | exact ⟨rfl, _, Eq.trans (World.drewN_drewN _ _ _) (congrArg (World.drewN _) (Nat.add_assoc _ _ _))⟩))); try go_wp2_with (first | ((with_reducible refine gate_dst (N := 1) rfl ?_); refine box_event ?hg (N := 1) ?hd (cs := #[.int .i64 a0_0, .int .i64 a0_1]) (t := 30) ?hr ?_; (case hd => rfl); (case hg => rfl); (case hr => first | (go_simp; done) | (go_simp; rfl)); intro gb497 hg w4 hbox hb; have n0_ := Aside0.mk (below_step (by repeat (first | (with_reducible first | exact HB.out | apply below_alloc | apply pw_below_drewN | apply below_drew1) | exact HB.out)) hb); have n1_ := Aside0.mk (hbox); have n2_ := Aside0.mk ((by rw [hg]; exact (below_size (by repeat (first | (with_reducible first | exact HB.out | apply below_alloc | apply pw_below_drewN | apply below_drew1) | exact HB.out))) : w.heap.size ≤ gb497)); have n3_ := Aside0.mk ((by rw [hg]; exact (below_size (by repeat (first | (with_reducible first | exact HB.out | apply below_alloc | apply pw_below_drewN | apply below_drew1) | exact HB.out))) : w.heap.size ≤ gb497)); clear HB; have HB := n0_; have BK497 := n1_; have GW497 := n2_; have GE497 := n3_; clear n0_ n1_ n2_ n3_; clear hb hbox hg; have hcz5_0 : w4.cell? ⟨gb497, 0, none⟩ = some (.int .i64 a0_0) := (blk_cell BK497.out 0).trans rfl; have hcz5_1 : w4.cell? ⟨gb497, 1, none⟩ = some (.int .i64 a0_1) := (blk_cell BK497.out 1).trans rfl; have hfz5_0 := blk_frozen BK497.out 0; have hfz5_1 := blk_frozen BK497.out 1) | (go_at_call 99; (with_reducible refine (impl_absInt.calls a0_0 t498 _ A2.out).mono ?_); rintro e w' ⟨rfl, ⟨nd, rfl⟩⟩; (try first | exact ⟨rfl, _, World.drewN_drewN _ _ _⟩ | exact ⟨rfl, _, Eq.trans (World.drewN_drewN _ _ _) (congrArg (World.drewN _) (Nat.add_assoc _ _ _))⟩)) | (go_at_call 99; (with_reducible refine (impl_absInt.calls a0_1 t499 _ A3.out).mono ?_); rintro e w' ⟨rfl, ⟨nd, rfl⟩⟩; (try first | exact ⟨rfl, _, World.drewN_drewN _ _ _⟩ | exact ⟨rfl, _, Eq.trans (World.drewN_drewN _ _ _) (congrArg (World.drewN _) (Nat.add_assoc _ _ _))⟩))))
  go_ret
  exact ⟨by first | rfl | (simp [errW_none, errW_some] <;> rfl) | (simp [*, errW_none, errW_some] <;> rfl), by repeat (first | (with_reducible first | exact HB.out | apply below_alloc | apply pw_below_drewN | apply below_drew1 | refine below_set ?_ GE497.out) | exact HB.out)⟩

end Go.Proofs.Ytffkojdmidhchaa.P
end
section
-- written by wip/tools/mkprint.py (a program of this session over the kit's print). Lean checks it.
namespace Go.Proofs.Ytffkojdmidhchaa.P
open Go.RowKit Go.Proofs.YtffkojdmidhchaaW.PrintWords Go.Proofs.YtffkojdmidhchaaW.PrintLast Go.Proofs.YtffkojdmidhchaaW.PrintMore
attribute [local go_sem] max2_int min2_int max_two min_two max_three min_three max_four min_four   -- for this text's walks alone
set_option linter.unusedVariables false
set_option linter.unusedSimpArgs false

/-! ### impl_within: function 133 -/
def impl_within.f (a0 : Int) (a1 : Int) : Option (Bool) := if (wrap64 (-a1)) ≤ a0 then (some (decide (a0 ≤ a1))) else (some false)
set_option maxHeartbeats 8000000 in
set_option maxRecDepth 100000 in
theorem impl_within.calls (a0 : Int) (a1 : Int) (r : Bool) (w : World) (h : impl_within.f a0 a1 = some r) :
    Calls Try.prog 133 #[.int .i64 a0, .int .i64 a1] w fun e w' => e = .returned (.bool r) ∧ Drawn0 w w' := by
  have H : (if (wrap64 (-a1)) ≤ a0 then (some (decide (a0 ≤ a1))) else (some false)) = some r := h
  clear h
  by_cases c3 : (wrap64 (-a1)) ≤ a0
  · rw [if_pos c3] at H
    have c3b0 : decide ((wrap64 (-a1)) ≤ a0) = true := decide_eq_true c3
    clear c3
    obtain rfl := Option.some.inj H
    go_enter Try.func133, Try.ntmps133
    go_wp2
    go_ret
    exact ⟨by first | rfl | (simp; done) | (simp [*]; done), by repeat (first | exact Drawn0.refl _ | apply Drawn0.step)⟩
  · rw [if_neg c3] at H
    have c3b0 : decide ((wrap64 (-a1)) ≤ a0) = false := decide_eq_false c3
    clear c3
    obtain rfl := Option.some.inj H
    go_enter Try.func133, Try.ntmps133
    go_wp2
    go_ret
    exact ⟨by first | rfl | (simp; done) | (simp [*]; done), by repeat (first | exact Drawn0.refl _ | apply Drawn0.step)⟩

end Go.Proofs.Ytffkojdmidhchaa.P
end
section
-- written by wip/tools/mkprint.py (a program of this session over the kit's print). Lean checks it.
namespace Go.Proofs.Ytffkojdmidhchaa.P
open Go.RowKit Go.Proofs.YtffkojdmidhchaaW.PrintWords Go.Proofs.YtffkojdmidhchaaW.PrintLast Go.Proofs.YtffkojdmidhchaaW.PrintMore
attribute [local go_sem] max2_int min2_int max_two min_two max_three min_three max_four min_four   -- for this text's walks alone
set_option linter.unusedVariables false
set_option linter.unusedSimpArgs false

/-! ### impl_pair_inRange: function 154 -/
def impl_pair_inRange.f (a0_0 : Int) (a0_1 : Int) (a1 : Int) : Option (Bool) := (impl_within.f a0_0 a1).bind fun t503 => (if t503 = true then ((impl_within.f a0_1 a1).bind fun t504 => (some t504)) else (some false))
set_option maxHeartbeats 8000000 in
set_option maxRecDepth 100000 in
theorem impl_pair_inRange.calls (a0_0 : Int) (a0_1 : Int) (a1 : Int) (r : Bool) (w : World) (h : impl_pair_inRange.f a0_0 a0_1 a1 = some r) :
    Calls Try.prog 154 #[.agg #[.int .i64 a0_0, .int .i64 a0_1], .int .i64 a1] w fun e w' => e = .returned (.bool r) ∧ Below w.heap.size w w' := by
  have hu111 := Try.underlying111
  have HB := Aside0.mk (Below.refl w.heap.size w)
  have H : ((impl_within.f a0_0 a1).bind fun t503 => (if t503 = true then ((impl_within.f a0_1 a1).bind fun t504 => (some t504)) else (some false))) = some r := h
  clear h
  replace H := Option.bind_eq_some_iff.mp H
  obtain ⟨t503, A30, H⟩ := H
  replace H : (if t503 = true then ((impl_within.f a0_1 a1).bind fun t504 => (some t504)) else (some false)) = some r := H
  have A3 := Aside0.mk A30
  clear A30
  by_cases c4 : t503 = true
  · subst c4
    have H1 : ((impl_within.f a0_1 a1).bind fun t504 => (some t504)) = some r := by rw [if_pos rfl] at H; exact H
    clear H
    have H := H1
    clear H1
    replace H := Option.bind_eq_some_iff.mp H
    obtain ⟨t504, A50, H⟩ := H
    replace H : (some t504) = some r := H
    have A5 := Aside0.mk A50
    clear A50
    obtain rfl := Option.some.inj H
    go_enter Try.func154, Try.ntmps154
    go_wp2_with (first | ((with_reducible refine gate_dst (N := 2) rfl ?_); refine box_event ?hg (N := 2) ?hd (cs := #[.int .i64 a0_0, .int .i64 a0_1]) (t := 111) ?hr ?_; (case hd => rfl); (case hg => rfl); (case hr => first | (go_simp; done) | (go_simp; rfl)); intro gb502 hg w6 hbox hb; have n0_ := Aside0.mk (below_step (by repeat (first | (with_reducible first | exact HB.out | apply below_alloc | apply pw_below_drewN | apply below_drew1) | exact HB.out)) hb); have n1_ := Aside0.mk (hbox); have n2_ := Aside0.mk ((by rw [hg]; exact (below_size (by repeat (first | (with_reducible first | exact HB.out | apply below_alloc | apply pw_below_drewN | apply below_drew1) | exact HB.out))) : w.heap.size ≤ gb502)); have n3_ := Aside0.mk ((by rw [hg]; exact (below_size (by repeat (first | (with_reducible first | exact HB.out | apply below_alloc | apply pw_below_drewN | apply below_drew1) | exact HB.out))) : w.heap.size ≤ gb502)); clear HB; have HB := n0_; have BK502 := n1_; have GW502 := n2_; have GE502 := n3_; clear n0_ n1_ n2_ n3_; clear hb hbox hg; have hcz7_0 : w6.cell? ⟨gb502, 0, none⟩ = some (.int .i64 a0_0) := (blk_cell BK502.out 0).trans rfl; have hcz7_1 : w6.cell? ⟨gb502, 1, none⟩ = some (.int .i64 a0_1) := (blk_cell BK502.out 1).trans rfl; have hfz7_0 := blk_frozen BK502.out 0; have hfz7_1 := blk_frozen BK502.out 1) | ((with_reducible refine gate_callee (f := 133) rfl ?_); refine goesL_ (some 8) rfl rfl Try.func133 (by kernel_rfl) rfl #[.int .i64 a0_0, .int .i64 a1] rfl (by (try simp only [List.map_toArray, List.map_cons, List.map_nil]); first | done | rfl | (simp only [List.length_drop, List.length_take]; rfl)) ?_; (with_reducible refine (impl_within.calls a0_0 a1 true _ A3.out).mono ?_); rintro e w' ⟨rfl, ⟨nd, rfl⟩⟩; refine ⟨_, rfl, ?_⟩) | (go_at_call 133; (with_reducible refine (impl_within.calls a0_1 a1 t504 _ A5.out).mono ?_); rintro e w' ⟨rfl, ⟨nd, rfl⟩⟩))
    go_ret
    exact ⟨by first | rfl | (simp [errW_none, errW_some] <;> rfl) | (simp [*, errW_none, errW_some] <;> rfl), by repeat (first | (with_reducible first | exact HB.out | apply below_alloc | apply pw_below_drewN | apply below_drew1 | refine below_set ?_ GE502.out) | exact HB.out)⟩
  · replace c4 := Bool.eq_false_iff.mpr c4
    subst c4
    have H1 : (some false) = some r := by rw [if_neg (show ¬ (false = true) by decide)] at H; exact H
    clear H
    have H := H1
    clear H1
    obtain rfl := Option.some.inj H
    go_enter Try.func154, Try.ntmps154
    go_wp2_with (first | ((with_reducible refine gate_dst (N := 2) rfl ?_); refine box_event ?hg (N := 2) ?hd (cs := #[.int .i64 a0_0, .int .i64 a0_1]) (t := 111) ?hr ?_; (case hd => rfl); (case hg => rfl); (case hr => first | (go_simp; done) | (go_simp; rfl)); intro gb502 hg w8 hbox hb; have n0_ := Aside0.mk (below_step (by repeat (first | (with_reducible first | exact HB.out | apply below_alloc | apply pw_below_drewN | apply below_drew1) | exact HB.out)) hb); have n1_ := Aside0.mk (hbox); have n2_ := Aside0.mk ((by rw [hg]; exact (below_size (by repeat (first | (with_reducible first | exact HB.out | apply below_alloc | apply pw_below_drewN | apply below_drew1) | exact HB.out))) : w.heap.size ≤ gb502)); have n3_ := Aside0.mk ((by rw [hg]; exact (below_size (by repeat (first | (with_reducible first | exact HB.out | apply below_alloc | apply pw_below_drewN | apply below_drew1) | exact HB.out))) : w.heap.size ≤ gb502)); clear HB; have HB := n0_; have BK502 := n1_; have GW502 := n2_; have GE502 := n3_; clear n0_ n1_ n2_ n3_; clear hb hbox hg; have hcz9_0 : w8.cell? ⟨gb502, 0, none⟩ = some (.int .i64 a0_0) := (blk_cell BK502.out 0).trans rfl; have hcz9_1 : w8.cell? ⟨gb502, 1, none⟩ = some (.int .i64 a0_1) := (blk_cell BK502.out 1).trans rfl; have hfz9_0 := blk_frozen BK502.out 0; have hfz9_1 := blk_frozen BK502.out 1) | ((with_reducible refine gate_callee (f := 133) rfl ?_); refine goesL_ (some 8) rfl rfl Try.func133 (by kernel_rfl) rfl #[.int .i64 a0_0, .int .i64 a1] rfl (by (try simp only [List.map_toArray, List.map_cons, List.map_nil]); first | done | rfl | (simp only [List.length_drop, List.length_take]; rfl)) ?_; (with_reducible refine (impl_within.calls a0_0 a1 false _ A3.out).mono ?_); rintro e w' ⟨rfl, ⟨nd, rfl⟩⟩; refine ⟨_, rfl, ?_⟩))
    go_ret
    exact ⟨by first | rfl | (simp [errW_none, errW_some] <;> rfl) | (simp [*, errW_none, errW_some] <;> rfl), by repeat (first | (with_reducible first | exact HB.out | apply below_alloc | apply pw_below_drewN | apply below_drew1 | refine below_set ?_ GE502.out) | exact HB.out)⟩

end Go.Proofs.Ytffkojdmidhchaa.P
end
section
-- written by wip/tools/mkprint.py (a program of this session over the kit's print). Lean checks it.
namespace Go.Proofs.Ytffkojdmidhchaa.P
open Go.RowKit Go.Proofs.YtffkojdmidhchaaW.PrintWords Go.Proofs.YtffkojdmidhchaaW.PrintLast Go.Proofs.YtffkojdmidhchaaW.PrintMore
attribute [local go_sem] max2_int min2_int max_two min_two max_three min_three max_four min_four   -- for this text's walks alone
set_option linter.unusedVariables false
set_option linter.unusedSimpArgs false

/-! ### impl_pairOf: function 95 -/
def impl_pairOf.f (a0_0 : Int) (a0_1 : Int) : Option (Int × Int) := some (a0_0, a0_1)
set_option maxHeartbeats 8000000 in
set_option maxRecDepth 100000 in
theorem impl_pairOf.calls (a0_0 : Int) (a0_1 : Int) (r1 : Int) (r2 : Int) (w : World) (h : impl_pairOf.f a0_0 a0_1 = some (r1, r2)) :
    Calls Try.prog 95 #[.agg #[.int .i64 a0_0, .int .i64 a0_1]] w fun e w' => e = .returned (.agg #[.int .i64 r1, .int .i64 r2]) ∧ Below w.heap.size w w' := by
  have hu30 := Try.underlying30
  have hu111 := Try.underlying111
  have HB := Aside0.mk (Below.refl w.heap.size w)
  have H : (some (a0_0, a0_1)) = some (r1, r2) := h
  clear h
  simp only [Option.some.injEq, Prod.mk.injEq] at H
  obtain ⟨rfl, rfl⟩ := H
  go_enter Try.func95, Try.ntmps95
  go_wp2_with (first | ((with_reducible refine gate_dst (N := 1) rfl ?_); refine box_event ?hg (N := 1) ?hd (cs := #[.int .i64 a0_0, .int .i64 a0_1]) (t := 30) ?hr ?_; (case hd => rfl); (case hg => rfl); (case hr => first | (go_simp; done) | (go_simp; rfl)); intro gb500 hg w2 hbox hb; have n0_ := Aside0.mk (below_step (by repeat (first | (with_reducible first | exact HB.out | apply below_alloc | apply pw_below_drewN | apply below_drew1) | exact HB.out)) hb); have n1_ := Aside0.mk (hbox); have n2_ := Aside0.mk ((by rw [hg]; exact (below_size (by repeat (first | (with_reducible first | exact HB.out | apply below_alloc | apply pw_below_drewN | apply below_drew1) | exact HB.out))) : w.heap.size ≤ gb500)); have n3_ := Aside0.mk ((by rw [hg]; exact (below_size (by repeat (first | (with_reducible first | exact HB.out | apply below_alloc | apply pw_below_drewN | apply below_drew1) | exact HB.out))) : w.heap.size ≤ gb500)); clear HB; have HB := n0_; have BK500 := n1_; have GW500 := n2_; have GE500 := n3_; clear n0_ n1_ n2_ n3_; clear hb hbox hg) | ((with_reducible refine gate_dst (N := 2) rfl ?_); refine box_event ?hg (N := 2) ?hd (cs := #[.int .i64 0, .int .i64 0]) (t := 111) ?hr ?_; (case hd => rfl); (case hg => rfl); (case hr => first | (go_simp; done) | (go_simp; rfl)); intro gb501 hg w3 hbox hb; have n0_ := Aside0.mk (blk_below (g := gb500) (o := .cells #[.int .i64 a0_0, .int .i64 a0_1] 30 (0, 0)) (by (with_reducible repeat (first | refine blk_drewN ?_ _ | refine blk_drew ?_ | refine blk_alloc ?_ _)); exact BK500.out) hb); have n1_ := Aside0.mk (below_step (by repeat (first | (with_reducible first | exact HB.out | apply below_alloc | apply pw_below_drewN | apply below_drew1 | refine below_set ?_ GE500.out) | exact HB.out)) hb); have n2_ := Aside0.mk (hbox); have n3_ := Aside0.mk ((by rw [hg]; exact (below_size (by repeat (first | (with_reducible first | exact HB.out | apply below_alloc | apply pw_below_drewN | apply below_drew1 | refine below_set ?_ GE500.out) | exact HB.out))) : w.heap.size ≤ gb501)); have n4_ := Aside0.mk ((by rw [hg]; exact (below_size (by repeat (first | (with_reducible first | exact HB.out | apply below_alloc | apply pw_below_drewN | apply below_drew1 | refine below_set ?_ GE500.out) | exact HB.out))) : w.heap.size ≤ gb501)); have n5_ := Aside0.mk ((by rw [hg]; exact Nat.ne_of_lt (blk_lt (g := gb500) (o := .cells #[.int .i64 a0_0, .int .i64 a0_1] 30 (0, 0)) (by (with_reducible repeat (first | refine blk_drewN ?_ _ | refine blk_drew ?_ | refine blk_alloc ?_ _)); exact BK500.out)) : gb500 ≠ gb501)); have n6_ := Aside0.mk ((by rw [hg]; exact Nat.ne_of_gt (blk_lt (g := gb500) (o := .cells #[.int .i64 a0_0, .int .i64 a0_1] 30 (0, 0)) (by (with_reducible repeat (first | refine blk_drewN ?_ _ | refine blk_drew ?_ | refine blk_alloc ?_ _)); exact BK500.out)) : gb501 ≠ gb500)); clear BK500; clear HB; have BK500 := n0_; have HB := n1_; have BK501 := n2_; have GW501 := n3_; have GE501 := n4_; have NB500_501 := n5_; have NB501_500 := n6_; clear n0_ n1_ n2_ n3_ n4_ n5_ n6_; clear hb hbox hg; have hnb4 := NB500_501.out; have hnc4 := NB501_500.out; have hcz5_0 : w3.cell? ⟨gb500, 0, none⟩ = some (.int .i64 a0_0) := (blk_cell BK500.out 0).trans rfl; have hcz5_1 : w3.cell? ⟨gb500, 1, none⟩ = some (.int .i64 a0_1) := (blk_cell BK500.out 1).trans rfl; have hfz5_0 := blk_frozen BK500.out 0; have hfz5_1 := blk_frozen BK500.out 1; have hcz6_0 : w3.cell? ⟨gb501, 0, none⟩ = some (.int .i64 0) := (blk_cell BK501.out 0).trans rfl; have hcz6_1 : w3.cell? ⟨gb501, 1, none⟩ = some (.int .i64 0) := (blk_cell BK501.out 1).trans rfl; have hfz6_0 := blk_frozen BK501.out 0; have hfz6_1 := blk_frozen BK501.out 1))
  refine bodyPost_ret (results_cell_row rfl _ _ gb501 111 #[.int .i64 a0_0, .int .i64 a0_1] (0, 0) _ rfl (by (with_reducible repeat (first | refine blk_drewN ?_ _ | refine blk_drew ?_ | refine blk_alloc ?_ _)); refine blk_put (cs := #[.int .i64 a0_0, .int .i64 0]) ?_ 1 _ rfl; (with_reducible repeat (first | refine blk_drewN ?_ _ | refine blk_drew ?_ | refine blk_alloc ?_ _)); refine blk_put (cs := #[.int .i64 0, .int .i64 0]) ?_ 0 _ rfl; (with_reducible repeat (first | refine blk_drewN ?_ _ | refine blk_drew ?_ | refine blk_alloc ?_ _)); exact BK501.out) Try.underlying111 rfl (by kernel_rfl)) rfl ?_
  exact ⟨by first | rfl | (simp [errW_none, errW_some] <;> rfl) | (simp [*, errW_none, errW_some] <;> rfl), by repeat (first | (with_reducible first | exact HB.out | apply below_alloc | apply pw_below_drewN | apply below_drew1 | refine below_set ?_ GE500.out | refine below_set ?_ GE501.out) | exact HB.out)⟩

end Go.Proofs.Ytffkojdmidhchaa.P
end
section
-- written by wip/tools/mkprint.py (a program of this session over the kit's print). Lean checks it.
namespace Go.Proofs.Ytffkojdmidhchaa.P
open Go.RowKit Go.Proofs.YtffkojdmidhchaaW.PrintWords Go.Proofs.YtffkojdmidhchaaW.PrintLast Go.Proofs.YtffkojdmidhchaaW.PrintMore
attribute [local go_sem] max2_int min2_int max_two min_two max_three min_three max_four min_four   -- for this text's walks alone
set_option linter.unusedVariables false
set_option linter.unusedSimpArgs false

/-! ### impl_stepValid: function 147 -/
def impl_stepValid.f (a0_0 : Int) (a0_1 : Int) : Option (Bool) := (impl_pairOf.f a0_0 a0_1).bind fun bt506 => ((impl_pair_inRange.f bt506.1 bt506.2 20000).bind fun t508 => (some t508))
set_option maxHeartbeats 8000000 in
set_option maxRecDepth 100000 in
theorem impl_stepValid.calls (a0_0 : Int) (a0_1 : Int) (r : Bool) (w : World) (h : impl_stepValid.f a0_0 a0_1 = some r) :
    Calls Try.prog 147 #[.agg #[.int .i64 a0_0, .int .i64 a0_1]] w fun e w' => e = .returned (.bool r) ∧ Below w.heap.size w w' := by
  have hu30 := Try.underlying30
  have HB := Aside0.mk (Below.refl w.heap.size w)
  have H : ((impl_pairOf.f a0_0 a0_1).bind fun bt506 => ((impl_pair_inRange.f bt506.1 bt506.2 20000).bind fun t508 => (some t508))) = some r := h
  clear h
  replace H := Option.bind_eq_some_iff.mp H
  obtain ⟨⟨t506, t507⟩, A20, H⟩ := H
  replace H : ((impl_pair_inRange.f t506 t507 20000).bind fun t508 => (some t508)) = some r := H
  have A2 := Aside0.mk A20
  clear A20
  replace H := Option.bind_eq_some_iff.mp H
  obtain ⟨t508, A30, H⟩ := H
  replace H : (some t508) = some r := H
  have A3 := Aside0.mk A30
  clear A30
  obtain rfl := Option.some.inj H
  go_enter Try.func147, Try.ntmps147
  go_wp2_with (first | ((with_reducible refine gate_dst (N := 1) rfl ?_); refine box_event ?hg (N := 1) ?hd (cs := #[.int .i64 a0_0, .int .i64 a0_1]) (t := 30) ?hr ?_; (case hd => rfl); (case hg => rfl); (case hr => first | (go_simp; done) | (go_simp; rfl)); intro gb505 hg w4 hbox hb; have n0_ := Aside0.mk (below_step (by repeat (first | (with_reducible first | exact HB.out | apply below_alloc | apply pw_below_drewN | apply below_drew1) | exact HB.out)) hb); have n1_ := Aside0.mk (hbox); have n2_ := Aside0.mk ((by rw [hg]; exact (below_size (by repeat (first | (with_reducible first | exact HB.out | apply below_alloc | apply pw_below_drewN | apply below_drew1) | exact HB.out))) : w.heap.size ≤ gb505)); have n3_ := Aside0.mk ((by rw [hg]; exact (below_size (by repeat (first | (with_reducible first | exact HB.out | apply below_alloc | apply pw_below_drewN | apply below_drew1) | exact HB.out))) : w.heap.size ≤ gb505)); clear HB; have HB := n0_; have BK505 := n1_; have GW505 := n2_; have GE505 := n3_; clear n0_ n1_ n2_ n3_; clear hb hbox hg; have hcz5_0 : w4.cell? ⟨gb505, 0, none⟩ = some (.int .i64 a0_0) := (blk_cell BK505.out 0).trans rfl; have hcz5_1 : w4.cell? ⟨gb505, 1, none⟩ = some (.int .i64 a0_1) := (blk_cell BK505.out 1).trans rfl; have hfz5_0 := blk_frozen BK505.out 0; have hfz5_1 := blk_frozen BK505.out 1) | ((with_reducible refine gate_callee (f := 95) rfl ?_); refine goesL_ (some 4) rfl rfl Try.func95 (by kernel_rfl) rfl #[.agg #[.int .i64 a0_0, .int .i64 a0_1]] rfl (by (try simp only [List.map_toArray, List.map_cons, List.map_nil]); first | done | rfl | (simp only [List.length_drop, List.length_take]; rfl)) ?_; (with_reducible refine (impl_pairOf.calls a0_0 a0_1 t506 t507 _ A2.out).mono ?_); rintro e w6 ⟨rfl, hb⟩; refine ⟨_, rfl, ?_⟩; have n0_ := Aside0.mk (blk_below (g := gb505) (o := .cells #[.int .i64 a0_0, .int .i64 a0_1] 30 (0, 0)) (by (with_reducible repeat (first | refine blk_drewN ?_ _ | refine blk_drew ?_ | refine blk_alloc ?_ _)); exact BK505.out) hb); have n1_ := Aside0.mk (below_step (by repeat (first | (with_reducible first | exact HB.out | apply below_alloc | apply pw_below_drewN | apply below_drew1 | refine below_set ?_ GE505.out) | exact HB.out)) hb); clear BK505; clear HB; have BK505 := n0_; have HB := n1_; clear n0_ n1_; (try clear hb); (try clear hb2); (try clear hk); (try clear hi)) | ((with_reducible refine gate_callee (f := 154) rfl ?_); refine goesL_ (some 5) rfl rfl Try.func154 (by kernel_rfl) rfl #[.agg #[.int .i64 t506, .int .i64 t507], .int .i64 20000] rfl (by (try simp only [List.map_toArray, List.map_cons, List.map_nil]); first | done | rfl | (simp only [List.length_drop, List.length_take]; rfl)) ?_; (with_reducible refine (impl_pair_inRange.calls t506 t507 20000 t508 _ A3.out).mono ?_); rintro e w7 ⟨rfl, hb⟩; refine ⟨_, rfl, ?_⟩; have n0_ := Aside0.mk (blk_below (g := gb505) (o := .cells #[.int .i64 a0_0, .int .i64 a0_1] 30 (0, 0)) (by (with_reducible repeat (first | refine blk_drewN ?_ _ | refine blk_drew ?_ | refine blk_alloc ?_ _)); exact BK505.out) hb); have n1_ := Aside0.mk (below_step (by repeat (first | (with_reducible first | exact HB.out | apply below_alloc | apply pw_below_drewN | apply below_drew1 | refine below_set ?_ GE505.out) | exact HB.out)) hb); clear BK505; clear HB; have BK505 := n0_; have HB := n1_; clear n0_ n1_; (try clear hb); (try clear hb2); (try clear hk); (try clear hi)))
  go_ret
  exact ⟨by first | rfl | (simp [errW_none, errW_some] <;> rfl) | (simp [*, errW_none, errW_some] <;> rfl), by repeat (first | (with_reducible first | exact HB.out | apply below_alloc | apply pw_below_drewN | apply below_drew1 | refine below_set ?_ GE505.out) | exact HB.out)⟩

end Go.Proofs.Ytffkojdmidhchaa.P
end
section
-- written by wip/tools/mkprint.py (a program of this session over the kit's print). Lean checks it.
namespace Go.Proofs.Ytffkojdmidhchaa.P
open Go.RowKit Go.Proofs.YtffkojdmidhchaaW.PrintWords Go.Proofs.YtffkojdmidhchaaW.PrintLast Go.Proofs.YtffkojdmidhchaaW.PrintMore
attribute [local go_sem] max2_int min2_int max_two min_two max_three min_three max_four min_four   -- for this text's walks alone
set_option linter.unusedVariables false
set_option linter.unusedSimpArgs false

/-! ### impl_TravelValid: function 82 -/
mutual
def impl_TravelValid.j0 : Nat → List (S30) → Bool → Option (Bool)
  | 0, _, _ => none
  | k + 1, x0, x12 => if x12 = true then (some false) else (impl_TravelValid.l0 k x0 (x0.length : Int) 0)
def impl_TravelValid.l0 : Nat → List (S30) → Int → Int → Option (Bool)
  | 0, _, _, _ => none
  | k + 1, x13, x14, x15 => if x15 < x14 then (if 0 ≤ x15 then (if x15 < (x13.length : Int) then ((impl_stepValid.f ((rd_T30 x13 x15).f0) ((rd_T30 x13 x15).f1)).bind fun t511 => (if t511 = true then (impl_TravelValid.l0 k x13 x14 (wrap64 (x15 + 1))) else (some false))) else (none)) else (none)) else (some true)
end
def impl_TravelValid.f (k : Nat) (l0 : List (S30)) : Option (Bool) := if (l0.length : Int) < 1 then (impl_TravelValid.j0 k l0 true) else (impl_TravelValid.j0 k l0 (decide ((l0.length : Int) > 12)))
theorem impl_TravelValid.mono_l : ∀ k, (∀ y0 y1, LeO (impl_TravelValid.j0 k y0 y1) (impl_TravelValid.j0 (k + 1) y0 y1)) ∧ (∀ y0 y1 y2, LeO (impl_TravelValid.l0 k y0 y1 y2) (impl_TravelValid.l0 (k + 1) y0 y1 y2))
  | 0 => ⟨fun _ _ r h => by simp [impl_TravelValid.j0] at h, fun _ _ _ r h => by simp [impl_TravelValid.l0] at h⟩
  | k + 1 => by
    obtain ⟨ih0, ih1⟩ := impl_TravelValid.mono_l k
    refine ⟨?_, ?_⟩
    · intro y0 y1
      unfold impl_TravelValid.j0
      repeat' first
      | (with_reducible exact ih0 _ _)
      | (with_reducible exact ih1 _ _ _)
      | (with_reducible exact LeO.refl _)
      | (with_reducible exact LeO.none _)
      | (with_reducible refine LeO.ite ?_ ?_)
      | (with_reducible refine LeO.bind ?_ (fun _ => ?_))
      | exact ih0 _ _
      | exact ih1 _ _ _
      | exact LeO.none _
      | refine LeO.ite ?_ ?_
      | refine LeO.bind ?_ (fun _ => ?_)
    · intro y0 y1 y2
      unfold impl_TravelValid.l0
      repeat' first
      | (with_reducible exact ih0 _ _)
      | (with_reducible exact ih1 _ _ _)
      | (with_reducible exact LeO.refl _)
      | (with_reducible exact LeO.none _)
      | (with_reducible refine LeO.ite ?_ ?_)
      | (with_reducible refine LeO.bind ?_ (fun _ => ?_))
      | exact ih0 _ _
      | exact ih1 _ _ _
      | exact LeO.none _
      | refine LeO.ite ?_ ?_
      | refine LeO.bind ?_ (fun _ => ?_)
theorem impl_TravelValid.mono : ∀ a0 k, LeO (impl_TravelValid.f k a0) (impl_TravelValid.f (k + 1) a0) := by
  intro a0 k
  obtain ⟨ih0, ih1⟩ := impl_TravelValid.mono_l k
  unfold impl_TravelValid.f
  repeat' first
      | (with_reducible exact ih0 _ _)
      | (with_reducible exact ih1 _ _ _)
      | (with_reducible exact LeO.refl _)
      | (with_reducible exact LeO.none _)
      | (with_reducible refine LeO.ite ?_ ?_)
      | (with_reducible refine LeO.bind ?_ (fun _ => ?_))
      | exact ih0 _ _
      | exact ih1 _ _ _
      | exact LeO.none _
      | refine LeO.ite ?_ ?_
      | refine LeO.bind ?_ (fun _ => ?_)
set_option maxHeartbeats 8000000 in
set_option maxRecDepth 100000 in
theorem impl_TravelValid.calls (k : Nat) (A0 : Option Addr) (c0 : Nat) (l0 : List (S30)) (r : Bool) (w : World) (hr0 : Kd.C k30 w A0 l0.length l0) (hc0 : l0.length ≤ c0) (h : impl_TravelValid.f k l0 = some r) :
    Calls Try.prog 82 #[.slice A0 l0.length c0] w fun e w' => e = .returned (.bool r) ∧ Below w.heap.size w w' := by
  have hu30 := Try.underlying30
  have HR0 := Aside0.mk hr0
  have HC0 := Aside0.mk hc0
  clear hr0 hc0
  have HB := Aside0.mk (Below.refl w.heap.size w)
  have H : (if (l0.length : Int) < 1 then (impl_TravelValid.j0 k l0 true) else (impl_TravelValid.j0 k l0 (decide ((l0.length : Int) > 12)))) = some r := h
  clear h
  have HC2 := Aside0.mk H
  clear H
  go_enter Try.func82, Try.ntmps82
  go_upto_region 1 with (fail)
  go_cut [12] (fun v12 wc => ∃ (kq : Nat) (x12_1 : Bool), v12 = .bool x12_1 ∧ Aside0 (impl_TravelValid.j0 kq l0 x12_1 = some r) ∧ Aside0 (kq ≤ k) ∧ Aside0 (Below w.heap.size w wc))
  case first =>
    have H := HC2.out
    clear HC2
    by_cases c3 : (l0.length : Int) < 1
    · rw [if_pos c3] at H
      have c3b0 : decide ((l0.length : Int) < 1) = true := decide_eq_true c3
      have c3b1 : decide (l0.length < 1) = true := decide_eq_true (by omega)
      clear c3
      (first | rw [c3b0] | (simp only [i64_w, i32_w]; rw [c3b0]) | skip)
      have H' := Aside0.mk H
      clear H
      go_wp2
      go_meet
      case rel => exact ⟨_, (true), (by first | rfl | (simp; done) | (simp [*]; done)), H', ⟨by first | omega | exact Nat.le_refl _⟩, ⟨by repeat (first | (with_reducible first | exact HB.out | apply below_alloc | apply pw_below_drewN | apply below_drew1) | exact HB.out)⟩⟩
    · rw [if_neg c3] at H
      have c3b0 : decide ((l0.length : Int) < 1) = false := decide_eq_false c3
      have c3b1 : decide (l0.length < 1) = false := decide_eq_false (by omega)
      clear c3
      (first | rw [c3b0] | (simp only [i64_w, i32_w]; rw [c3b0]) | skip)
      have H' := Aside0.mk H
      clear H
      go_wp2
      go_meet
      case rel => exact ⟨_, (decide ((l0.length : Int) > 12)), (by first | rfl | (simp; done) | (simp [*]; done)), H', ⟨by first | omega | exact Nat.le_refl _⟩, ⟨by repeat (first | (with_reducible first | exact HB.out | apply below_alloc | apply pw_below_drewN | apply below_drew1) | exact HB.out)⟩⟩
  case rest =>
    clear HC2
    try clear p2
    try clear c3
    try clear c3b0
    try clear c3b1
    obtain ⟨kq, x12_1, rfl, HA, HJ1, HB⟩ := hcut
    cases kq with
    | zero => exact absurd HA.out (by simp [impl_TravelValid.j0])
    | succ kj1 =>
      have H := HA.out
      clear HA
      simp only [impl_TravelValid.j0] at H
      by_cases c4 : x12_1 = true
      · subst c4
        have H1 : (some false) = some r := by rw [if_pos rfl] at H; exact H
        clear H
        have H := H1
        clear H1
        obtain rfl := Option.some.inj H
        go_wp2
        go_ret
        exact ⟨by first | rfl | (simp [errW_none, errW_some] <;> rfl) | (simp [*, errW_none, errW_some] <;> rfl), by repeat (first | (with_reducible first | exact HB.out | apply below_alloc | apply pw_below_drewN | apply below_drew1) | exact HB.out)⟩
      · replace c4 := Bool.eq_false_iff.mpr c4
        subst c4
        have H1 : (impl_TravelValid.l0 kj1 l0 (l0.length : Int) 0) = some r := by rw [if_neg (show ¬ (false = true) by decide)] at H; exact H
        clear H
        have H := H1
        clear H1
        have H' := Aside0.mk H
        clear H
        go_wp2
        go_loopg [15] kj1 (fun kq v15 w' => ∃ (x15_2 : Int), v15 = .int .i64 x15_2 ∧ Aside0 (impl_TravelValid.l0 kq l0 (l0.length : Int) x15_2 = some r) ∧ Aside0 (kq ≤ kj1) ∧ Aside0 (Below w.heap.size w w'))
        case atStart => exact ⟨(0), (by first | rfl | (simp; done) | (simp [*]; done)), H', ⟨Nat.le_refl _⟩, ⟨by repeat (first | (with_reducible first | exact HB.out | apply below_alloc | apply pw_below_drewN | apply below_drew1) | exact HB.out)⟩⟩
        case round =>
          clear H'
          try clear p2
          try clear c3
          try clear c3b0
          try clear c3b1
          try clear c4
          try clear p2
          obtain ⟨x15_2, rfl, HA, HK2, HB⟩ := hrel
          cases gk with
          | zero => exact absurd HA.out (by simp [impl_TravelValid.l0])
          | succ k2 =>
            have H := HA.out
            clear HA
            simp only [impl_TravelValid.l0] at H
            by_cases c5 : x15_2 < (l0.length : Int)
            · rw [if_pos c5] at H
              have c5b0 : decide (x15_2 < (l0.length : Int)) = true := decide_eq_true c5
              clear c5
              by_cases c6 : 0 ≤ x15_2
              · rw [if_pos c6] at H
                have c6b0 : decide (0 ≤ x15_2) = true := decide_eq_true c6
                clear c6
                by_cases c7 : x15_2 < (l0.length : Int)
                · rw [if_pos c7] at H
                  have c7b0 : decide (x15_2 < (l0.length : Int)) = true := decide_eq_true c7
                  clear c7
                  replace H := Option.bind_eq_some_iff.mp H
                  obtain ⟨t511, A80, H⟩ := H
                  replace H : (if t511 = true then (impl_TravelValid.l0 k2 l0 (l0.length : Int) (wrap64 (x15_2 + 1))) else (some false)) = some r := H
                  have A8 := Aside0.mk A80
                  clear A80
                  by_cases c9 : t511 = true
                  · subst c9
                    have H1 : (impl_TravelValid.l0 k2 l0 (l0.length : Int) (wrap64 (x15_2 + 1))) = some r := by rw [if_pos rfl] at H; exact H
                    clear H
                    have H := H1
                    clear H1
                    have H' := Aside0.mk H
                    clear H
                    have p509 : 0 ≤ (x15_2 : Int) := of_decide_eq_true (by first | (with_reducible assumption) | assumption)
                    have q509 : x15_2 < (l0.length : Int) := of_decide_eq_true (by first | (with_reducible assumption) | assumption)
                    obtain ⟨ad509, e509, hx509_0, hx509_1⟩ := at_T30 HR0.out x15_2 p509 q509
                    cases e509
                    replace hx509_0 := (HB.out.cell (World.block_lt_of_cell? w _ hx509_0)).trans hx509_0
                    replace hx509_1 := (HB.out.cell (World.block_lt_of_cell? w _ hx509_1)).trans hx509_1
                    replace p509 := eq_true p509
                    replace q509 := eq_true q509
                    go_wp2_with (first | ((with_reducible refine gate_dst (N := 4) rfl ?_); (try (refine gate_guard (by rfl) ?_; dsimp only)); refine box_event ?hg (N := 4) ?hd (cs := #[.int .i64 0, .int .i64 0]) (t := 30) ?hr ?_; (case hd => rfl); (case hg => rfl); (case hr => first | (go_simp; done) | (go_simp; rfl)); intro gb510 hg w10 hbox hb; have n0_ := Aside0.mk (below_step (by repeat (first | (with_reducible first | exact HB.out | apply below_alloc | apply pw_below_drewN | apply below_drew1) | exact HB.out)) hb); have n1_ := Aside0.mk (hbox); have n2_ := Aside0.mk ((by rw [hg]; exact (below_size (by repeat (first | (with_reducible first | exact HB.out | apply below_alloc | apply pw_below_drewN | apply below_drew1) | exact HB.out))) : w.heap.size ≤ gb510)); have n3_ := Aside0.mk ((by rw [hg]; exact (below_size (by repeat (first | (with_reducible first | exact HB.out | apply below_alloc | apply pw_below_drewN | apply below_drew1) | exact HB.out))) : w.heap.size ≤ gb510)); clear HB; have HB := n0_; have BK510 := n1_; have GW510 := n2_; have GE510 := n3_; clear n0_ n1_ n2_ n3_; clear hb hbox hg; have hcz11_0 : w10.cell? ⟨gb510, 0, none⟩ = some (.int .i64 0) := (blk_cell BK510.out 0).trans rfl; have hcz11_1 : w10.cell? ⟨gb510, 1, none⟩ = some (.int .i64 0) := (blk_cell BK510.out 1).trans rfl; have hfz11_0 := blk_frozen BK510.out 0; have hfz11_1 := blk_frozen BK510.out 1) | ((with_reducible refine gate_callee (f := 147) rfl ?_); refine goesL_ (some 20) rfl rfl Try.func147 (by kernel_rfl) rfl #[.agg #[.int .i64 ((rd_T30 l0 x15_2).f0), .int .i64 ((rd_T30 l0 x15_2).f1)]] rfl (by (try simp only [List.map_toArray, List.map_cons, List.map_nil]); first | done | rfl | (simp only [List.length_drop, List.length_take]; rfl)) ?_; (with_reducible refine (impl_stepValid.calls ((rd_T30 l0 x15_2).f0) ((rd_T30 l0 x15_2).f1) true _ A8.out).mono ?_); rintro e w12 ⟨rfl, hb⟩; refine ⟨_, rfl, ?_⟩; have n0_ := Aside0.mk (blk_below (g := gb510) (o := .cells #[.int .i64 ((rd_T30 l0 x15_2).f0), .int .i64 ((rd_T30 l0 x15_2).f1)] 30 (0, 0)) (by (with_reducible repeat (first | refine blk_drewN ?_ _ | refine blk_drew ?_ | refine blk_alloc ?_ _)); refine blk_put (cs := #[.int .i64 ((rd_T30 l0 x15_2).f0), .int .i64 0]) ?_ 1 _ rfl; (with_reducible repeat (first | refine blk_drewN ?_ _ | refine blk_drew ?_ | refine blk_alloc ?_ _)); refine blk_put (cs := #[.int .i64 0, .int .i64 0]) ?_ 0 _ rfl; (with_reducible repeat (first | refine blk_drewN ?_ _ | refine blk_drew ?_ | refine blk_alloc ?_ _)); exact BK510.out) hb); have n1_ := Aside0.mk (below_step (by repeat (first | (with_reducible first | exact HB.out | apply below_alloc | apply pw_below_drewN | apply below_drew1 | refine below_set ?_ GE510.out) | exact HB.out)) hb); clear BK510; clear HB; have BK510 := n0_; have HB := n1_; clear n0_ n1_; (try clear hb); (try clear hb2); (try clear hk); (try clear hi)))
                    go_roundg k2
                    case measure => have := HJ1.out; have := HK2.out; omega
                    case rel => exact ⟨(wrap64 (x15_2 + 1)), (by first | rfl | (simp; done) | (simp [*]; done)), H', ⟨by have := HJ1.out; have := HK2.out; omega⟩, ⟨by repeat (first | (with_reducible first | exact HB.out | apply below_alloc | apply pw_below_drewN | apply below_drew1 | refine below_set ?_ GE510.out) | exact HB.out)⟩⟩
                  · replace c9 := Bool.eq_false_iff.mpr c9
                    subst c9
                    have H1 : (some false) = some r := by rw [if_neg (show ¬ (false = true) by decide)] at H; exact H
                    clear H
                    have H := H1
                    clear H1
                    obtain rfl := Option.some.inj H
                    have p509 : 0 ≤ (x15_2 : Int) := of_decide_eq_true (by first | (with_reducible assumption) | assumption)
                    have q509 : x15_2 < (l0.length : Int) := of_decide_eq_true (by first | (with_reducible assumption) | assumption)
                    obtain ⟨ad509, e509, hx509_0, hx509_1⟩ := at_T30 HR0.out x15_2 p509 q509
                    cases e509
                    replace hx509_0 := (HB.out.cell (World.block_lt_of_cell? w _ hx509_0)).trans hx509_0
                    replace hx509_1 := (HB.out.cell (World.block_lt_of_cell? w _ hx509_1)).trans hx509_1
                    replace p509 := eq_true p509
                    replace q509 := eq_true q509
                    go_wp2_with (first | ((with_reducible refine gate_dst (N := 4) rfl ?_); (try (refine gate_guard (by rfl) ?_; dsimp only)); refine box_event ?hg (N := 4) ?hd (cs := #[.int .i64 0, .int .i64 0]) (t := 30) ?hr ?_; (case hd => rfl); (case hg => rfl); (case hr => first | (go_simp; done) | (go_simp; rfl)); intro gb510 hg w13 hbox hb; have n0_ := Aside0.mk (below_step (by repeat (first | (with_reducible first | exact HB.out | apply below_alloc | apply pw_below_drewN | apply below_drew1) | exact HB.out)) hb); have n1_ := Aside0.mk (hbox); have n2_ := Aside0.mk ((by rw [hg]; exact (below_size (by repeat (first | (with_reducible first | exact HB.out | apply below_alloc | apply pw_below_drewN | apply below_drew1) | exact HB.out))) : w.heap.size ≤ gb510)); have n3_ := Aside0.mk ((by rw [hg]; exact (below_size (by repeat (first | (with_reducible first | exact HB.out | apply below_alloc | apply pw_below_drewN | apply below_drew1) | exact HB.out))) : w.heap.size ≤ gb510)); clear HB; have HB := n0_; have BK510 := n1_; have GW510 := n2_; have GE510 := n3_; clear n0_ n1_ n2_ n3_; clear hb hbox hg; have hcz14_0 : w13.cell? ⟨gb510, 0, none⟩ = some (.int .i64 0) := (blk_cell BK510.out 0).trans rfl; have hcz14_1 : w13.cell? ⟨gb510, 1, none⟩ = some (.int .i64 0) := (blk_cell BK510.out 1).trans rfl; have hfz14_0 := blk_frozen BK510.out 0; have hfz14_1 := blk_frozen BK510.out 1) | ((with_reducible refine gate_callee (f := 147) rfl ?_); refine goesL_ (some 20) rfl rfl Try.func147 (by kernel_rfl) rfl #[.agg #[.int .i64 ((rd_T30 l0 x15_2).f0), .int .i64 ((rd_T30 l0 x15_2).f1)]] rfl (by (try simp only [List.map_toArray, List.map_cons, List.map_nil]); first | done | rfl | (simp only [List.length_drop, List.length_take]; rfl)) ?_; (with_reducible refine (impl_stepValid.calls ((rd_T30 l0 x15_2).f0) ((rd_T30 l0 x15_2).f1) false _ A8.out).mono ?_); rintro e w15 ⟨rfl, hb⟩; refine ⟨_, rfl, ?_⟩; have n0_ := Aside0.mk (blk_below (g := gb510) (o := .cells #[.int .i64 ((rd_T30 l0 x15_2).f0), .int .i64 ((rd_T30 l0 x15_2).f1)] 30 (0, 0)) (by (with_reducible repeat (first | refine blk_drewN ?_ _ | refine blk_drew ?_ | refine blk_alloc ?_ _)); refine blk_put (cs := #[.int .i64 ((rd_T30 l0 x15_2).f0), .int .i64 0]) ?_ 1 _ rfl; (with_reducible repeat (first | refine blk_drewN ?_ _ | refine blk_drew ?_ | refine blk_alloc ?_ _)); refine blk_put (cs := #[.int .i64 0, .int .i64 0]) ?_ 0 _ rfl; (with_reducible repeat (first | refine blk_drewN ?_ _ | refine blk_drew ?_ | refine blk_alloc ?_ _)); exact BK510.out) hb); have n1_ := Aside0.mk (below_step (by repeat (first | (with_reducible first | exact HB.out | apply below_alloc | apply pw_below_drewN | apply below_drew1 | refine below_set ?_ GE510.out) | exact HB.out)) hb); clear BK510; clear HB; have BK510 := n0_; have HB := n1_; clear n0_ n1_; (try clear hb); (try clear hb2); (try clear hk); (try clear hi)))
                    go_ret
                    exact ⟨by first | rfl | (simp [errW_none, errW_some] <;> rfl) | (simp [*, errW_none, errW_some] <;> rfl), by repeat (first | (with_reducible first | exact HB.out | apply below_alloc | apply pw_below_drewN | apply below_drew1 | refine below_set ?_ GE510.out) | exact HB.out)⟩
                · rw [if_neg c7] at H
                  exact absurd H (by simp)
              · rw [if_neg c6] at H
                exact absurd H (by simp)
            · rw [if_neg c5] at H
              have c5b0 : decide (x15_2 < (l0.length : Int)) = false := decide_eq_false c5
              clear c5
              obtain rfl := Option.some.inj H
              go_wp2
              go_ret
              exact ⟨by first | rfl | (simp [errW_none, errW_some] <;> rfl) | (simp [*, errW_none, errW_some] <;> rfl), by repeat (first | (with_reducible first | exact HB.out | apply below_alloc | apply pw_below_drewN | apply below_drew1) | exact HB.out)⟩

end Go.Proofs.Ytffkojdmidhchaa.P
end
section
/- Helpers for the hand-written walks: worlds, blocks, rows. -/
namespace Go.Proofs.Ytffkojdmidhchaa.P
open Go.RowKit Go.Proofs.YtffkojdmidhchaaW.PrintWords Go.Proofs.YtffkojdmidhchaaW.PrintLast Go.Proofs.YtffkojdmidhchaaW.PrintMore
set_option linter.unusedVariables false
set_option linter.unusedSimpArgs false

theorem frozen_alloc' (W : World) (xs : Array Value) (T : TypeId) (x : Addr) : (W.alloc (.cells xs T)).frozen? x = W.frozen? x := by
  rcases Nat.lt_trichotomy x.block W.heap.size with h | h | h
  · simp only [World.frozen?, Below.heap_alloc W _ _ h]
  · simp only [World.frozen?, h, heap_alloc_new]
    simp
  · have h1 : W.heap.size + 1 ≤ x.block := h
    simp only [World.frozen?]
    rw [Array.getElem?_eq_none (by simpa using h1), Array.getElem?_eq_none (by omega)]
theorem grown_set (W : World) (b i : Nat) (v : Value) : W.grownBy (W.setCell ⟨b, i, none⟩ v) (some b) :=
  ⟨rfl, rfl, rfl, by simp [World.setCell], fun k _ hne => Below.heap_setCell W ⟨b, i, none⟩ v k (fun e => hne (by rw [e]))⟩
theorem bcell {W w1 : World} (hb : Below W.heap.size W w1) : (∀ b o, b < W.heap.size → w1.cell? ⟨b, o, none⟩ = W.cell? ⟨b, o, none⟩) ∧ (∀ b o, b < W.heap.size → w1.frozen? ⟨b, o, none⟩ = W.frozen? ⟨b, o, none⟩) :=
  ⟨fun b o h => hb.cell (p := ⟨b, o, none⟩) h, fun b o h => hb.frozen (p := ⟨b, o, none⟩) h⟩
/-- A block that is known whole. -/
theorem blk_c {w : World} {g : Nat} {t : TypeId} {cs : Array Value} (h : w.heap[g]? = some (.cells cs t (0, 0))) (i : Nat) (v : Value) (hv : cs[i]? = some v) : w.cell? ⟨g, i, none⟩ = some v := (blk_cell h i).trans hv
theorem blk_f {w : World} {g : Nat} {t : TypeId} {cs : Array Value} (h : w.heap[g]? = some (.cells cs t (0, 0))) (i : Nat) : w.frozen? ⟨g, i, none⟩ = false := by simp [World.frozen?, h]
theorem blk_ne {w : World} {g g' : Nat} {t t' : TypeId} {cs cs' : Array Value} {f f' : Nat × Nat} (h : w.heap[g]? = some (.cells cs t f)) (h' : w.heap[g']? = some (.cells cs' t' f')) (hne : t ≠ t') : g ≠ g' := by
  rintro rfl
  rw [h] at h'
  injection h' with h'
  injection h' with _ ht
  exact hne ht
theorem own_blk {w : World} {base : Nat} {e : TypeId} {size n : Nat} {v : Value} {xs : List Value} (h : w.ownsRow base e size v n xs) {g : Nat} (hg : v.ownBlock = some g) : ∃ cur, w.heap[g]? = some (.cells cur e (0, 0)) := by
  rcases h.2 with ⟨rfl, _⟩ | ⟨g', cap, cur, rfl, _, hh, _⟩
  · simp [Value.ownBlock] at hg
  · have : g' = g := by simpa [Value.ownBlock] using hg
    subst this
    exact ⟨cur, hh⟩
theorem own_ne_blk {w : World} {base : Nat} {e : TypeId} {size n : Nat} {v : Value} {xs : List Value} (h : w.ownsRow base e size v n xs) {g : Nat} {t : TypeId} {cs : Array Value} {f : Nat × Nat}
    (hg : w.heap[g]? = some (.cells cs t f)) (hne : e ≠ t) : v.ownBlock ≠ some g := fun he => by
  obtain ⟨cur, hc⟩ := own_blk h he
  exact blk_ne hc hg hne rfl
/-- A row is kept where its block is. -/
theorem own_keep {w w1 : World} {base : Nat} {e : TypeId} {size n : Nat} {v : Value} {xs : List Value} {S : Nat → Prop} (h : w.ownsRow base e size v n xs) (hk : Kept w w1 S) (hS : ∀ g, v.ownBlock = some g → ¬ S g) : w1.ownsRow base e size v n xs := by
  refine ⟨h.1, ?_⟩
  rcases h.2 with h2 | ⟨g, cap, cur, rfl, hb, hh, hr⟩
  · exact .inl h2
  · exact .inr ⟨g, cap, cur, rfl, hb, (hk.2 g (blk_lt hh) (hS g (by simp [Value.ownBlock]))).trans hh, hr⟩
end Go.Proofs.Ytffkojdmidhchaa.P
end
section
/- The methods of impl.remainders: Len, Less, Swap, Pop, and how they are reached through heap.Interface. -/
namespace Go.Proofs.Ytffkojdmidhchaa.P
open Go.RowKit Go.Proofs.YtffkojdmidhchaaW.PrintWords Go.Proofs.YtffkojdmidhchaaW.PrintLast Go.Proofs.YtffkojdmidhchaaW.PrintMore
set_option linter.unusedVariables false
set_option linter.unusedSimpArgs false
set_option maxHeartbeats 4000000
set_option maxRecDepth 20000
attribute [local go_sem] frozen_alloc' max2_int min2_int max_two min_two

/-- An array of remainders: index and what is left. -/
def ArrAt (W : World) (ga : Nat) (d : List (Int × Int)) : Prop :=
  ∃ cur, W.heap[ga]? = some (.cells cur 165 (0, 0)) ∧ ∀ i : Nat, ∀ h : i < d.length, cur[i * 2]? = some (.int .i64 d[i].1) ∧ cur[i * 2 + 1]? = some (.int .i64 d[i].2)
/-- Which of two remainders comes first. -/
def rlt (a b : Int × Int) : Bool := if a.2 = b.2 then decide (a.1 < b.1) else decide (b.2 < a.2)
theorem ArrAt.cell {W : World} {ga : Nat} {d : List (Int × Int)} (h : ArrAt W ga d) (i : Nat) (hi : i < d.length) :
    W.cell? ⟨ga, i * 2, none⟩ = some (.int .i64 d[i].1) ∧ W.cell? ⟨ga, i * 2 + 1, none⟩ = some (.int .i64 d[i].2) ∧ (∀ o, W.frozen? ⟨ga, o, none⟩ = false) := by
  obtain ⟨cur, hh, hc⟩ := h
  exact ⟨blk_c hh _ _ (hc i hi).1, blk_c hh _ _ (hc i hi).2, fun o => blk_f hh o⟩
theorem less_any (ga n c : Nat) (d : List (Int × Int)) (i j : Nat) (W : World) (h : ArrAt W ga d) (hi : i < n) (hj : j < n) (hn : n ≤ d.length) (hnc : n ≤ 1000) :
    Calls Try.prog 203 #[.slice (some ⟨ga, 0, none⟩) n c, .int .i64 i, .int .i64 j] W fun e w' => e = .returned (.bool (rlt (d[i]'(by omega)) (d[j]'(by omega)))) ∧ ∃ q, w' = W.drewN q := by
  have hu162 := Try.underlying162
  have hu165 := Try.underlying165
  obtain ⟨a1, a2, _⟩ := h.cell i (by omega)
  obtain ⟨b1, b2, _⟩ := h.cell j (by omega)
  clear h
  have e : rlt (d[i]'(by omega)) (d[j]'(by omega)) = (if d[i].2 = d[j].2 then decide (d[i].1 < d[j].1) else decide (d[j].2 < d[i].2)) := rfl
  rw [e]
  clear e
  generalize d[i].1 = x1 at *
  generalize d[i].2 = x2 at *
  generalize d[j].1 = y1 at *
  generalize d[j].2 = y2 at *
  by_cases c2 : x2 = y2
  · subst c2
    rw [if_pos rfl]
    go_enter Try.func203, Try.ntmps203
    go_wp2
    go_quiet (fail)
    go_wp2
    go_quiet (fail)
    go_wp2
    go_ret
    exact ⟨rfl, _, World.drewN_drewN _ _ _⟩
  · rw [if_neg c2]
    go_enter Try.func203, Try.ntmps203
    go_wp2
    go_quiet (fail)
    go_wp2
    go_quiet (fail)
    go_wp2
    go_ret
    exact ⟨rfl, _, World.drewN_drewN _ _ _⟩
theorem swap_walk (ga n c : Nat) (i j : Nat) (x1 x2 y1 y2 : Int) (W : World) (hi : i < n) (hj : j < n) (hnc : n ≤ 1000)
    (a1 : W.cell? ⟨ga, i * 2, none⟩ = some (.int .i64 x1)) (a2 : W.cell? ⟨ga, i * 2 + 1, none⟩ = some (.int .i64 x2)) (b1 : W.cell? ⟨ga, j * 2, none⟩ = some (.int .i64 y1)) (b2 : W.cell? ⟨ga, j * 2 + 1, none⟩ = some (.int .i64 y2))
    (f0 : ∀ o, W.frozen? ⟨ga, o, none⟩ = false) :
    Calls Try.prog 205 #[.slice (some ⟨ga, 0, none⟩) n c, .int .i64 i, .int .i64 j] W fun e w' => e = .returned (.tuple #[]) ∧
      ∃ q, w' = ((((W.setCell ⟨ga, i * 2, none⟩ (.int .i64 y1)).setCell ⟨ga, i * 2 + 1, none⟩ (.int .i64 y2)).setCell ⟨ga, j * 2, none⟩ (.int .i64 x1)).setCell ⟨ga, j * 2 + 1, none⟩ (.int .i64 x2)).drewN q := by
  have hu162 := Try.underlying162
  have hu165 := Try.underlying165
  obtain ⟨u1, k1⟩ := cell?_setCell_some (w := W) (p := ⟨ga, i * 2, none⟩) (x := .int .i64 y1) (q := ⟨ga, j * 2, none⟩) b1
  obtain ⟨u2, k2⟩ := cell?_setCell_some (w := W) (p := ⟨ga, i * 2, none⟩) (x := .int .i64 y1) (q := ⟨ga, j * 2 + 1, none⟩) b2
  obtain ⟨u3, k3⟩ := cell?_setCell_some (w := W.setCell ⟨ga, i * 2, none⟩ (.int .i64 y1)) (p := ⟨ga, i * 2 + 1, none⟩) (x := .int .i64 y2) (q := ⟨ga, j * 2 + 1, none⟩) k2
  go_enter Try.func205, Try.ntmps205
  go_wp2
  go_region
  all_goals (try go_wp2)
  all_goals go_end0
  all_goals exact ⟨rfl, 1, rfl⟩
def swapL (d : List (Int × Int)) (i j : Nat) : List (Int × Int) := (d.set i (d.getD j (0, 0))).set j (d.getD i (0, 0))
theorem swapL_length (d : List (Int × Int)) (i j : Nat) : (swapL d i j).length = d.length := by simp [swapL]
theorem ArrAt.put {W : World} {ga : Nat} {d : List (Int × Int)} (h : ArrAt W ga d) (i : Nat) (hi : i < d.length) (p : Int × Int) :
    ArrAt ((W.setCell ⟨ga, i * 2, none⟩ (.int .i64 p.1)).setCell ⟨ga, i * 2 + 1, none⟩ (.int .i64 p.2)) ga (d.set i p) := by
  obtain ⟨cur, hh, hc⟩ := h
  refine ⟨_, blk_put (blk_put hh _ _ rfl) _ _ rfl, fun k hk => ?_⟩
  simp only [List.length_set] at hk
  have ⟨q1, q2⟩ := hc i hi
  have l1 : i * 2 < cur.size := by
    rcases Nat.lt_or_ge (i * 2) cur.size with h | h
    · exact h
    · rw [Array.getElem?_eq_none h] at q1; cases q1
  have l2 : i * 2 + 1 < cur.size := by
    rcases Nat.lt_or_ge (i * 2 + 1) cur.size with h | h
    · exact h
    · rw [Array.getElem?_eq_none h] at q2; cases q2
  obtain ⟨k1, k2⟩ := hc k hk
  by_cases e : i = k
  · subst e
    constructor
    · rw [Array.getElem?_setIfInBounds_ne (by omega), Array.getElem?_setIfInBounds_self_of_lt l1]; simp
    · rw [Array.getElem?_setIfInBounds_self_of_lt (by simpa using l2)]; simp
  · constructor
    · rw [Array.getElem?_setIfInBounds_ne (by omega), Array.getElem?_setIfInBounds_ne (by omega), k1, List.getElem_set_ne e]
    · rw [Array.getElem?_setIfInBounds_ne (by omega), Array.getElem?_setIfInBounds_ne (by omega), k2, List.getElem_set_ne e]
theorem ArrAt.drewN {W : World} {ga : Nat} {d : List (Int × Int)} (h : ArrAt W ga d) (q : Nat) : ArrAt (W.drewN q) ga d := h
theorem getD_of (d : List (Int × Int)) (i : Nat) (h : i < d.length) : d.getD i (0, 0) = d[i] := by rw [List.getD_eq_getElem?_getD, List.getElem?_eq_getElem h]; rfl
theorem swap_any (ga n c : Nat) (d : List (Int × Int)) (i j : Nat) (W : World) (h : ArrAt W ga d) (hi : i < n) (hj : j < n) (hn : n ≤ d.length) (hnc : n ≤ 1000) :
    Calls Try.prog 205 #[.slice (some ⟨ga, 0, none⟩) n c, .int .i64 i, .int .i64 j] W fun e w' => e = .returned (.tuple #[]) ∧
      ArrAt w' ga (swapL d i j) ∧ Kept W w' (fun k => k = ga) ∧ ∀ B, B ≤ ga → Below B W w' := by
  obtain ⟨a1, a2, f0⟩ := h.cell i (by omega)
  obtain ⟨b1, b2, _⟩ := h.cell j (by omega)
  refine (swap_walk ga n c i j _ _ _ _ W hi hj hnc a1 a2 b1 b2 f0).mono ?_
  rintro e w' ⟨rfl, q, rfl⟩
  refine ⟨rfl, ?_, ?_, ?_⟩
  · have H := (h.put i (by omega) (d[j]'(by omega))).put j (by simp; omega) (d[i]'(by omega))
    unfold swapL
    rw [getD_of d i (by omega), getD_of d j (by omega)]
    exact H.drewN q
  · refine Kept.drewN (Kept.setCell (Kept.setCell (Kept.setCell (Kept.setCell (Kept.refl W _) ?_ _) ?_ _) ?_ _) ?_ _) q <;> exact Or.inl rfl
  · intro B hB
    refine pw_below_drewN (Below.setCell (Below.setCell (Below.setCell (Below.setCell (Below.refl B W) ?_ _) ?_ _) ?_ _) ?_ _) q <;> exact hB
theorem len_any (A : Option Addr) (n c : Nat) (W : World) : Calls Try.prog 202 #[.slice A n c] W fun e w' => e = .returned (.int .i64 n) ∧ W = w' := by
  have hu162 := Try.underlying162
  go_enter Try.func202, Try.ntmps202
  go_wp2
  go_ret
  exact ⟨rfl, rfl⟩
/-- The heap: the slice in block gr, its array. -/
def HeapAt (W : World) (gr ga n c : Nat) (d : List (Int × Int)) : Prop :=
  W.heap[gr]? = some (.cells #[.slice (some ⟨ga, 0, none⟩) n c] 162 (0, 0)) ∧ ArrAt W ga d ∧ n ≤ d.length ∧ n ≤ 1000 ∧ n ≤ c
theorem ArrAt.lt {W : World} {ga : Nat} {d : List (Int × Int)} (h : ArrAt W ga d) : ga < W.heap.size := by obtain ⟨cur, hh, _⟩ := h; exact blk_lt hh
theorem ArrAt.kept {W W1 : World} {ga : Nat} {d : List (Int × Int)} {S : Nat → Prop} (h : ArrAt W ga d) (k : Kept W W1 S) (hs : ¬ S ga) : ArrAt W1 ga d := by
  obtain ⟨cur, hh, hc⟩ := h
  exact ⟨cur, (k.2 ga (blk_lt hh) hs).trans hh, hc⟩
theorem HeapAt.ne {W : World} {gr ga n c : Nat} {d : List (Int × Int)} (h : HeapAt W gr ga n c d) : gr ≠ ga := by
  obtain ⟨hr, ⟨cur, hh, _⟩, _⟩ := h
  exact blk_ne hr hh (by decide)
theorem HeapAt.kept {W W1 : World} {gr ga n c : Nat} {d : List (Int × Int)} {S : Nat → Prop} (h : HeapAt W gr ga n c d) (k : Kept W W1 S) (h1 : ¬ S gr) (h2 : ¬ S ga) : HeapAt W1 gr ga n c d :=
  ⟨(k.2 gr (blk_lt h.1) h1).trans h.1, h.2.1.kept k h2, h.2.2⟩
theorem HeapAt.arr {W W1 : World} {gr ga n c : Nat} {d d' : List (Int × Int)} (h : HeapAt W gr ga n c d) (k : Kept W W1 (fun k => k = ga)) (ha : ArrAt W1 ga d') (hl : d'.length = d.length) : HeapAt W1 gr ga n c d' :=
  ⟨(k.2 gr (blk_lt h.1) h.ne).trans h.1, ha, by rw [hl]; exact h.2.2.1, h.2.2.2⟩
theorem pop_any (gr ga n c : Nat) (d : List (Int × Int)) (W : World) (h : HeapAt W gr ga (n + 1) c d) :
    Calls Try.prog 204 #[.pointer (some ⟨gr, 0, none⟩)] W fun e w' => e = .returned (.iface 165 (.agg #[.int .i64 (d.getD n (0, 0)).1, .int .i64 (d.getD n (0, 0)).2])) ∧
      HeapAt w' gr ga n c d ∧ Kept W w' (fun k => k = gr) ∧ ∀ B, B ≤ gr → B ≤ W.heap.size → Below B W w' := by
  have hne := h.ne
  obtain ⟨hr, ha, hn, hm, hnc⟩ := h
  have hu162 := Try.underlying162
  have hu165 := Try.underlying165
  have hu160 := Try.underlying160
  have hcr := blk_c hr 0 _ rfl
  have hfr := blk_f hr 0
  obtain ⟨a1, a2, f0⟩ := ha.cell n (by omega)
  have hgl := blk_lt hr
  have hal : ga < W.heap.size := by obtain ⟨cur, hh, _⟩ := ha; exact blk_lt hh
  have e := getD_of d n (by omega)
  rw [e]
  have HA := Aside0.mk ha
  have HR := Aside0.mk hr
  clear ha hr e
  generalize hx : (d[n]'(by omega)).1 = x at *
  generalize hy : (d[n]'(by omega)).2 = y at *
  clear hx hy
  have hm1 : ((n + 1 : Nat) : Int) - 1 = n := by omega
  go_enter Try.func204, Try.ntmps204
  go_wp2
  go_ret
  refine ⟨rfl, ⟨?_, ?_, by omega, by omega, by omega⟩, ?_, ?_⟩
  · exact (Below.heap_alloc _ _ gr (by simpa using hgl)).trans (blk_put HR.out 0 _ rfl)
  · refine (HA.out.kept (S := fun k => k = gr) (by refine Kept.setCell (Kept.refl W _) ?_ _; exact Or.inl rfl) hne.symm).kept (S := fun _ => False) ((Kept.refl _ _).alloc _) (fun h => h)
  · refine Kept.alloc (Kept.setCell (Kept.refl W _) ?_ _) _; exact Or.inl rfl
  · intro B h1 h2
    exact Below.alloc (Below.setCell (Below.refl B W) h1 _) (by simpa using h2) _
theorem meth_len (g : Nat) (w : World) : (method (Try.prog.types.size + Made.depth) 160 (.pointer (some ⟨g, 0, none⟩)) "Len").run Try.prog w = (loadVar 162 ⟨g, 0, none⟩ >>= fun v => pure (202, v)).run Try.prog w := by kernel_rfl
theorem meth_less (g : Nat) (w : World) : (method (Try.prog.types.size + Made.depth) 160 (.pointer (some ⟨g, 0, none⟩)) "Less").run Try.prog w = (loadVar 162 ⟨g, 0, none⟩ >>= fun v => pure (203, v)).run Try.prog w := by kernel_rfl
theorem meth_swap (g : Nat) (w : World) : (method (Try.prog.types.size + Made.depth) 160 (.pointer (some ⟨g, 0, none⟩)) "Swap").run Try.prog w = (loadVar 162 ⟨g, 0, none⟩ >>= fun v => pure (205, v)).run Try.prog w := by kernel_rfl
theorem meth_pop (g : Nat) (w : World) : (method (Try.prog.types.size + Made.depth) 160 (.pointer (some ⟨g, 0, none⟩)) "Pop").run Try.prog w = .ok (204, .pointer (some ⟨g, 0, none⟩)) w := by kernel_rfl
theorem load_slice (g n c : Nat) (A : Option Addr) (w : World) (h : w.cell? ⟨g, 0, none⟩ = some (.slice A n c)) (f : Nat) : (loadVar 162 ⟨g, 0, none⟩ >>= fun v => pure (f, v)).run Try.prog w = .ok (f, .slice A n c) w := by
  have hu := Try.underlying162
  go_simp
end Go.Proofs.Ytffkojdmidhchaa.P
end
section
/- container/heap's down, Init and Pop over impl.remainders: what they do to the array. -/
namespace Go.Proofs.Ytffkojdmidhchaa.P
open Go.RowKit Go.Proofs.YtffkojdmidhchaaW.PrintWords Go.Proofs.YtffkojdmidhchaaW.PrintLast Go.Proofs.YtffkojdmidhchaaW.PrintMore
set_option linter.unusedVariables false
set_option linter.unusedSimpArgs false
set_option maxHeartbeats 4000000
set_option maxRecDepth 20000
attribute [local go_sem] frozen_alloc' max2_int min2_int max_two min_two

def rget (d : List (Int × Int)) (i : Nat) : Int × Int := d.getD i (0, 0)
theorem rget_of (d : List (Int × Int)) (i : Nat) (h : i < d.length) : rget d i = d[i] := getD_of d i h
theorem less_at (ga n c : Nat) (d : List (Int × Int)) (i j : Nat) (x y : Int) (W : World) (b : Bool) (h : ArrAt W ga d) (hx : x = i) (hy : y = j) (hi : i < n) (hj : j < n) (hn : n ≤ d.length) (hnc : n ≤ 1000) (hb : rlt (rget d i) (rget d j) = b) :
    Calls Try.prog 203 #[.slice (some ⟨ga, 0, none⟩) n c, .int .i64 x, .int .i64 y] W fun e w' => e = .returned (.bool b) ∧ ∃ q, w' = W.drewN q := by
  subst hx hy hb
  rw [rget_of d i (by omega), rget_of d j (by omega)]
  exact less_any ga n c d i j W h hi hj hn hnc
theorem swap_at (ga n c : Nat) (d : List (Int × Int)) (i j : Nat) (x y : Int) (W : World) (h : ArrAt W ga d) (hx : x = i) (hy : y = j) (hi : i < n) (hj : j < n) (hn : n ≤ d.length) (hnc : n ≤ 1000) :
    Calls Try.prog 205 #[.slice (some ⟨ga, 0, none⟩) n c, .int .i64 x, .int .i64 y] W fun e w' => e = .returned (.tuple #[]) ∧
      ArrAt w' ga (swapL d i j) ∧ Kept W w' (fun k => k = ga) ∧ ∀ B, B ≤ ga → Below B W w' := by
  subst hx hy
  exact swap_any ga n c d i j W h hi hj hn hnc
/-- The child of i that comes first, among the first n. -/
def kid (d : List (Int × Int)) (i n : Nat) : Nat := if 2 * i + 2 < n ∧ rlt (rget d (2 * i + 2)) (rget d (2 * i + 1)) = true then 2 * i + 2 else 2 * i + 1
def downP : Nat → List (Int × Int) → Nat → Nat → List (Int × Int)
  | 0, d, _, _ => d
  | k + 1, d, i, n => if n ≤ 2 * i + 1 then d else if rlt (rget d (kid d i n)) (rget d i) = true then downP k (swapL d i (kid d i n)) (kid d i n) n else d
def DownRel (W : World) (gr ga n0 n c : Nat) (d : List (Int × Int)) (F : List (Int × Int)) (v : Value) (wr : World) : Prop :=
  ∃ (i : Nat) (d' : List (Int × Int)), v = .int .i64 i ∧ i ≤ n0 ∧ HeapAt wr gr ga n c d' ∧ d'.length = d.length ∧ downP (n0 - i) d' i n0 = F ∧ Kept W wr (fun k => k = ga) ∧ ∀ B, B ≤ ga → Below B W wr
def DownPost (W : World) (gr ga n c : Nat) (d F : List (Int × Int)) (e : Ending) (w' : World) : Prop :=
  (∃ b, e = .returned (.bool b)) ∧ HeapAt w' gr ga n c F ∧ F.length = d.length ∧ Kept W w' (fun k => k = ga) ∧ ∀ B, B ≤ ga → Below B W w'
theorem downP_end (n0 i : Nat) (d : List (Int × Int)) (h : n0 ≤ 2 * i + 1) : downP (n0 - i) d i n0 = d := by
  cases hk : n0 - i with
  | zero => rfl
  | succ k => simp only [downP]; rw [if_pos h]
theorem downP_stop (n0 i : Nat) (d : List (Int × Int)) (h : ¬ n0 ≤ 2 * i + 1) (hr : rlt (rget d (kid d i n0)) (rget d i) = false) : downP (n0 - i) d i n0 = d := by
  obtain ⟨k, hk⟩ : ∃ k, n0 - i = k + 1 := ⟨n0 - i - 1, by omega⟩
  rw [hk]; simp only [downP]; rw [if_neg h, hr, if_neg (by simp)]
theorem downP_more (k m n : Nat) : ∀ (i : Nat) (d : List (Int × Int)), n - i ≤ k → n - i ≤ m → downP k d i n = downP m d i n := by
  induction k generalizing m with
  | zero =>
    intro i d h1 h2
    cases m with
    | zero => rfl
    | succ m => simp only [downP]; rw [if_pos (by omega)]
  | succ k ih =>
    intro i d h1 h2
    cases m with
    | zero => simp only [downP]; rw [if_pos (by omega)]
    | succ m =>
      simp only [downP]
      by_cases c1 : n ≤ 2 * i + 1
      · rw [if_pos c1, if_pos c1]
      · rw [if_neg c1, if_neg c1]
        have hj : i + 1 ≤ kid d i n := by unfold kid; split <;> omega
        rw [ih m (kid d i n) _ (by omega) (by omega)]
theorem downP_go (n0 i : Nat) (d : List (Int × Int)) (h : ¬ n0 ≤ 2 * i + 1) (hr : rlt (rget d (kid d i n0)) (rget d i) = true) : downP (n0 - i) d i n0 = downP (n0 - kid d i n0) (swapL d i (kid d i n0)) (kid d i n0) n0 := by
  obtain ⟨k, hk⟩ : ∃ k, n0 - i = k + 1 := ⟨n0 - i - 1, by omega⟩
  have hj : i + 1 ≤ kid d i n0 := by unfold kid; split <;> omega
  rw [hk]; simp only [downP]; rw [if_neg h, hr, if_pos rfl]
  exact downP_more _ _ _ _ _ (by omega) (Nat.le_refl _)
theorem down_any (gr ga n c i0 n0 : Nat) (d : List (Int × Int)) (W : World) (h : HeapAt W gr ga n c d) (hn : n0 ≤ n) (hi : i0 ≤ n0) :
    Calls Try.prog 181 #[.iface 160 (.pointer (some ⟨gr, 0, none⟩)), .int .i64 i0, .int .i64 n0] W (DownPost W gr ga n c d (downP (n0 - i0) d i0 n0)) := by
  have hu162 := Try.underlying162
  have hu160 := Try.underlying160
  have mL : ∀ w : World, w.cell? ⟨gr, 0, none⟩ = some (.slice (some ⟨ga, 0, none⟩) n c) → (method 309 160 (.pointer (some ⟨gr, 0, none⟩)) "Less").run Try.prog w = .ok (203, .slice (some ⟨ga, 0, none⟩) n c) w := fun w h => (meth_less gr w).trans (load_slice gr n c _ w h 203)
  have mS : ∀ w : World, w.cell? ⟨gr, 0, none⟩ = some (.slice (some ⟨ga, 0, none⟩) n c) → (method 309 160 (.pointer (some ⟨gr, 0, none⟩)) "Swap").run Try.prog w = .ok (205, .slice (some ⟨ga, 0, none⟩) n c) w := fun w h => (meth_swap gr w).trans (load_slice gr n c _ w h 205)
  have eL : Enters Try.prog 203 := enters_of Try.func203 (by kernel_rfl) rfl
  have eS : Enters Try.prog 205 := enters_of Try.func205 (by kernel_rfl) rfl
  have hm : n ≤ 1000 := h.2.2.2.1
  have H0 := Aside0.mk h
  clear h
  go_enter Try.func181, Try.ntmps181
  go_wp2
  go_loopw [7] (fun v wr => DownRel W gr ga n0 n c d (downP (n0 - i0) d i0 n0) v wr) (fun v _ => n0 - (intOf v).toNat)
  case atStart => exact ⟨i0, d, rfl, hi, H0.out, rfl, rfl, Kept.refl _ _, fun B _ => Below.refl _ _⟩
  case round =>
    obtain ⟨i, d', rfl, hi, HH, hl, hF, hK, hB⟩ := hrel
    have hcr := blk_c HH.1 0 _ rfl
    have hnd : n ≤ d'.length := HH.2.2.1
    by_cases c1 : n0 ≤ 2 * i + 1
    · rw [downP_end _ _ _ c1] at hF
      subst hF
      have H1 := Aside0.mk HH
      have HK := Aside0.mk hK
      have HB := Aside0.mk hB
      clear HH hK hB
      go_wp2
      go_ret
      exact ⟨⟨_, rfl⟩, H1.out, hl, HK.out, HB.out⟩
    · have e1 := downP_stop n0 i d' c1
      have e2 := downP_go n0 i d' c1
      have hkid : i < kid d' i n0 ∧ kid d' i n0 < n0 := by unfold kid; split <;> omega
      have hk0 : kid d' i n0 = if 2 * i + 2 < n0 ∧ rlt (rget d' (2 * i + 2)) (rget d' (2 * i + 1)) = true then 2 * i + 2 else 2 * i + 1 := rfl
      have step : ∀ (w2 : World) (q : Nat) (x : Int), x = (kid d' i n0 : Nat) → rlt (rget d' (kid d' i n0)) (rget d' i) = true → ArrAt w2 ga (swapL d' i (kid d' i n0)) → Kept (wr.drewN q) w2 (fun k => k = ga) → (∀ B, B ≤ ga → Below B (wr.drewN q) w2) →
          DownRel W gr ga n0 n c d (downP (n0 - i0) d i0 n0) (.int .i64 x) w2 := fun w2 q x hx hr ha hk hb =>
        ⟨kid d' i n0, _, by rw [hx], by omega, HH.arr ((Kept.drewN (Kept.refl _ _) q).then_ hk (fun k hk => .inl hk)) ha (swapL_length _ _ _), by rw [swapL_length]; exact hl, by rw [← e2 hr]; exact hF, (hK.drewN q).then_ hk (fun k hk => .inl hk), fun B hB' => (pw_below_drewN (hB B hB') q).trans (hb B hB')⟩
      have stop : ∀ w2 : World, rlt (rget d' (kid d' i n0)) (rget d' i) = false → ∀ q, w2 = wr.drewN q → ∀ b, DownPost W gr ga n c d (downP (n0 - i0) d i0 n0) (.returned (.bool b)) w2 := fun w2 hr q hq b => by
        subst hq
        rw [← hF, e1 hr]
        exact ⟨⟨_, rfl⟩, HH.kept (S := fun _ => False) (Kept.drewN (Kept.refl _ _) q) (fun h => h) (fun h => h), hl, Kept.drewN hK q, fun B hB' => pw_below_drewN (hB B hB') q⟩
      have HA := Aside0.mk HH.2.1
      have hd1 := HH.2.2.1
      have ST := Aside0.mk step
      have SP := Aside0.mk stop
      clear HH hK hB step stop e1 e2 hF
      by_cases c2 : 2 * i + 2 < n0
      · cases cb : rlt (rget d' (2 * i + 2)) (rget d' (2 * i + 1)) with
        | true =>
          rw [if_pos ⟨c2, cb⟩] at hk0
          rw [hk0] at ST SP
          cases cr : rlt (rget d' (2 * i + 2)) (rget d' i) with
          | true =>
            go_wp2_with (first
              | (go_at_call 203; (with_reducible refine (less_at ga n c d' (2 * i + 2) (2 * i + 1) _ _ _ _ HA.out (by omega) (by omega) (by omega) (by omega) (by omega) hm cb).mono ?_); rintro e w1 ⟨rfl, q, rfl⟩)
              | (go_at_call 203; (with_reducible refine (less_at ga n c d' (2 * i + 2) i _ _ _ _ (HA.out.drewN _) (by omega) (by omega) (by omega) (by omega) (by omega) hm cr).mono ?_); rintro e w1 ⟨rfl, q2, rfl⟩)
              | (go_at_call 205; (with_reducible refine (swap_at ga n c d' i (2 * i + 2) _ _ _ (HA.out.drewN _) (by omega) (by omega) (by omega) (by omega) (by omega) hm).mono ?_); rintro e w1 ⟨rfl, hA, hk, hb⟩))
            exact ⟨ST.out _ _ _ (by omega) cr hA hk hb, by simp [intOf]; omega⟩
          | false =>
            go_wp2_with (first
              | (go_at_call 203; (with_reducible refine (less_at ga n c d' (2 * i + 2) (2 * i + 1) _ _ _ _ HA.out (by omega) (by omega) (by omega) (by omega) (by omega) hm cb).mono ?_); rintro e w1 ⟨rfl, q, rfl⟩)
              | (go_at_call 203; (with_reducible refine (less_at ga n c d' (2 * i + 2) i _ _ _ _ (HA.out.drewN _) (by omega) (by omega) (by omega) (by omega) (by omega) hm cr).mono ?_); rintro e w1 ⟨rfl, q2, rfl⟩)
              | fail)
            go_ret
            exact SP.out _ cr _ rfl _
        | false =>
          rw [if_neg (fun h => by rw [cb] at h; exact absurd h.2 (by simp))] at hk0
          rw [hk0] at ST SP
          cases cr : rlt (rget d' (2 * i + 1)) (rget d' i) with
          | true =>
            go_wp2_with (first
              | (go_at_call 203; (with_reducible refine (less_at ga n c d' (2 * i + 2) (2 * i + 1) _ _ _ _ HA.out (by omega) (by omega) (by omega) (by omega) (by omega) hm cb).mono ?_); rintro e w1 ⟨rfl, q, rfl⟩)
              | (go_at_call 203; (with_reducible refine (less_at ga n c d' (2 * i + 1) i _ _ _ _ (HA.out.drewN _) (by omega) (by omega) (by omega) (by omega) (by omega) hm cr).mono ?_); rintro e w1 ⟨rfl, q2, rfl⟩)
              | (go_at_call 205; (with_reducible refine (swap_at ga n c d' i (2 * i + 1) _ _ _ (HA.out.drewN _) (by omega) (by omega) (by omega) (by omega) (by omega) hm).mono ?_); rintro e w1 ⟨rfl, hA, hk, hb⟩))
            exact ⟨ST.out _ _ _ (by omega) cr hA hk hb, by simp [intOf]; omega⟩
          | false =>
            go_wp2_with (first
              | (go_at_call 203; (with_reducible refine (less_at ga n c d' (2 * i + 2) (2 * i + 1) _ _ _ _ HA.out (by omega) (by omega) (by omega) (by omega) (by omega) hm cb).mono ?_); rintro e w1 ⟨rfl, q, rfl⟩)
              | (go_at_call 203; (with_reducible refine (less_at ga n c d' (2 * i + 1) i _ _ _ _ (HA.out.drewN _) (by omega) (by omega) (by omega) (by omega) (by omega) hm cr).mono ?_); rintro e w1 ⟨rfl, q2, rfl⟩)
              | fail)
            go_ret
            exact SP.out _ cr _ rfl _
      · rw [if_neg (fun h => c2 h.1)] at hk0
        rw [hk0] at ST SP
        cases cr : rlt (rget d' (2 * i + 1)) (rget d' i) with
        | true =>
          go_wp2_with (first
            | (go_at_call 203; (with_reducible refine (less_at ga n c d' (2 * i + 1) i _ _ _ _ HA.out (by omega) (by omega) (by omega) (by omega) (by omega) hm cr).mono ?_); rintro e w1 ⟨rfl, q2, rfl⟩)
            | (go_at_call 205; (with_reducible refine (swap_at ga n c d' i (2 * i + 1) _ _ _ (HA.out.drewN _) (by omega) (by omega) (by omega) (by omega) (by omega) hm).mono ?_); rintro e w1 ⟨rfl, hA, hk, hb⟩))
          exact ⟨ST.out _ _ _ (by omega) cr hA hk hb, by simp [intOf]; omega⟩
        | false =>
          go_wp2_with (first
            | (go_at_call 203; (with_reducible refine (less_at ga n c d' (2 * i + 1) i _ _ _ _ HA.out (by omega) (by omega) (by omega) (by omega) (by omega) hm cr).mono ?_); rintro e w1 ⟨rfl, q2, rfl⟩)
            | fail)
          go_ret
          exact SP.out _ cr _ rfl _
theorem downP_length (k : Nat) : ∀ (d : List (Int × Int)) (i n : Nat), (downP k d i n).length = d.length := by
  induction k with
  | zero => intro d i n; rfl
  | succ k ih =>
    intro d i n
    simp only [downP]
    split
    · rfl
    · split
      · rw [ih, swapL_length]
      · rfl
theorem down_at (gr ga n c i0 n0 : Nat) (d : List (Int × Int)) (x y : Int) (W : World) (h : HeapAt W gr ga n c d) (hn : n0 ≤ n) (hi : i0 ≤ n0) (hx : x = i0) (hy : y = n0) :
    Calls Try.prog 181 #[.iface 160 (.pointer (some ⟨gr, 0, none⟩)), .int .i64 x, .int .i64 y] W (DownPost W gr ga n c d (downP (n0 - i0) d i0 n0)) := by
  subst hx hy
  exact down_any gr ga n c i0 n0 d W h hn hi
def initP : Nat → List (Int × Int) → Nat → List (Int × Int)
  | 0, d, _ => d
  | k + 1, d, n => initP k (downP (n - k) d k n) n
def InitRel (W : World) (gr ga n c : Nat) (d F : List (Int × Int)) (v : Value) (wr : World) : Prop :=
  ∃ (k : Nat) (d' : List (Int × Int)), v = .int .i64 ((k : Int) - 1) ∧ k ≤ n / 2 ∧ HeapAt wr gr ga n c d' ∧ d'.length = d.length ∧ initP k d' n = F ∧ Kept W wr (fun k => k = ga) ∧ ∀ B, B ≤ ga → Below B W wr
def InitPost (W : World) (gr ga n c : Nat) (d F : List (Int × Int)) (e : Ending) (w' : World) : Prop :=
  e = .returned (.tuple #[]) ∧ HeapAt w' gr ga n c F ∧ F.length = d.length ∧ Kept W w' (fun k => k = ga) ∧ ∀ B, B ≤ ga → Below B W w'
theorem init_any (gr ga n c : Nat) (d : List (Int × Int)) (W : World) (h : HeapAt W gr ga n c d) :
    Calls Try.prog 145 #[.iface 160 (.pointer (some ⟨gr, 0, none⟩))] W (InitPost W gr ga n c d (initP (n / 2) d n)) := by
  have hu162 := Try.underlying162
  have hu160 := Try.underlying160
  have mN : ∀ w : World, w.cell? ⟨gr, 0, none⟩ = some (.slice (some ⟨ga, 0, none⟩) n c) → (method 309 160 (.pointer (some ⟨gr, 0, none⟩)) "Len").run Try.prog w = .ok (202, .slice (some ⟨ga, 0, none⟩) n c) w := fun w h => (meth_len gr w).trans (load_slice gr n c _ w h 202)
  have eN : Enters Try.prog 202 := enters_of Try.func202 (by kernel_rfl) rfl
  have hm : n ≤ 1000 := h.2.2.2.1
  have hcr := blk_c h.1 0 _ rfl
  have hq : Int.tdiv (n : Int) 2 = ((n / 2 : Nat) : Int) := by rw [Int.tdiv_eq_ediv_of_nonneg (by omega)]; omega
  have H0 := Aside0.mk h
  clear h
  go_enter Try.func145, Try.ntmps145
  go_wp2_with (go_at_call 202; refine (len_any _ n c _).mono ?_; rintro e w1 ⟨rfl, rfl⟩)
  go_loopw [3] (fun v wr => InitRel W gr ga n c d (initP (n / 2) d n) v wr) (fun v _ => (intOf v + 1).toNat)
  case atStart => exact ⟨n / 2, d, by go_num, Nat.le_refl _, H0.out, rfl, rfl, Kept.refl _ _, fun B _ => Below.refl _ _⟩
  case round =>
    obtain ⟨k, d', rfl, hk, HH, hl, hF, hK, hB⟩ := hrel
    cases k with
    | zero =>
      have H1 := Aside0.mk HH
      have HK := Aside0.mk hK
      have HB := Aside0.mk hB
      have hF' : d' = initP (n / 2) d n := hF
      clear HH hK hB hF
      rw [← hF']
      go_wp2
      go_end0
      exact ⟨rfl, H1.out, hl, HK.out, HB.out⟩
    | succ k =>
      have H1 := Aside0.mk HH
      have HK := Aside0.mk hK
      have HB := Aside0.mk hB
      have HF := Aside0.mk hF
      clear HH hK hB hF
      have e1 : ((k + 1 : Nat) : Int) - 1 = k := by omega
      rw [e1]
      go_wp2_with (go_at_call 181; (with_reducible refine (down_at gr ga n c k n d' _ _ _ H1.out (Nat.le_refl _) (by omega) rfl rfl).mono ?_); rintro e w1 ⟨⟨b, rfl⟩, h2, hl2, hk2, hb2⟩)
      exact ⟨⟨k, _, by go_num, by omega, h2, by rw [hl2, hl], HF.out, HK.out.then_ hk2 (fun k hk => .inl hk), fun B hB' => (HB.out B hB').trans (hb2 B hB')⟩, by simp [intOf]⟩
def HPopPost (W : World) (gr ga n c : Nat) (d d' : List (Int × Int)) (e : Ending) (w' : World) : Prop :=
  e = .returned (.iface 165 (.agg #[.int .i64 (rget d' n).1, .int .i64 (rget d' n).2])) ∧ HeapAt w' gr ga n c d' ∧ d'.length = d.length ∧ Kept W w' (fun k => k = ga ∨ k = gr) ∧ ∀ B, B ≤ ga → B ≤ gr → B ≤ W.heap.size → Below B W w'
theorem hpop_any (gr ga n c : Nat) (d : List (Int × Int)) (W : World) (h : HeapAt W gr ga (n + 1) c d) :
    Calls Try.prog 146 #[.iface 160 (.pointer (some ⟨gr, 0, none⟩))] W (HPopPost W gr ga n c d (downP n (swapL d 0 n) 0 n)) := by
  have hu162 := Try.underlying162
  have hu160 := Try.underlying160
  have mN : ∀ w : World, w.cell? ⟨gr, 0, none⟩ = some (.slice (some ⟨ga, 0, none⟩) (n + 1) c) → (method 309 160 (.pointer (some ⟨gr, 0, none⟩)) "Len").run Try.prog w = .ok (202, .slice (some ⟨ga, 0, none⟩) (n + 1) c) w := fun w h => (meth_len gr w).trans (load_slice gr (n + 1) c _ w h 202)
  have mS : ∀ w : World, w.cell? ⟨gr, 0, none⟩ = some (.slice (some ⟨ga, 0, none⟩) (n + 1) c) → (method 309 160 (.pointer (some ⟨gr, 0, none⟩)) "Swap").run Try.prog w = .ok (205, .slice (some ⟨ga, 0, none⟩) (n + 1) c) w := fun w h => (meth_swap gr w).trans (load_slice gr (n + 1) c _ w h 205)
  have mP : ∀ w : World, (method 309 160 (.pointer (some ⟨gr, 0, none⟩)) "Pop").run Try.prog w = .ok (204, .pointer (some ⟨gr, 0, none⟩)) w := fun w => meth_pop gr w
  have eN : Enters Try.prog 202 := enters_of Try.func202 (by kernel_rfl) rfl
  have eS : Enters Try.prog 205 := enters_of Try.func205 (by kernel_rfl) rfl
  have eP : Enters Try.prog 204 := enters_of Try.func204 (by kernel_rfl) rfl
  have hm : n + 1 ≤ 1000 := h.2.2.2.1
  have hd := h.2.2.1
  have hcr := blk_c h.1 0 _ rfl
  have HA := Aside0.mk h.2.1
  have H0 := Aside0.mk h
  clear h
  have e1 : ((n + 1 : Nat) : Int) - 1 = n := by omega
  go_enter Try.func146, Try.ntmps146
  go_wp2_with (first
    | (go_at_call 202; refine (len_any _ (n + 1) c _).mono ?_; rintro e w1 ⟨rfl, rfl⟩)
    | (go_at_call 205; (with_reducible refine (swap_at ga (n + 1) c d 0 n _ _ _ HA.out (by omega) (by omega) (by omega) (by omega) (by omega) hm).mono ?_); rintro e w1 ⟨rfl, hA1, hk1, hb1⟩; have h1 := H0.out.arr hk1 hA1 (swapL_length _ _ _); have hcr1 := blk_c h1.1 0 _ rfl; have H1 := Aside0.mk h1; clear h1 hA1)
    | (go_at_call 181; (with_reducible refine (down_at gr ga (n + 1) c 0 n _ _ _ _ H1.out (by omega) (by omega) (by omega) (by omega)).mono ?_); rintro e w2 ⟨⟨b, rfl⟩, h2, hl2, hk2, hb2⟩; have H2 := Aside0.mk h2; clear h2)
    | (go_at_call 204; (with_reducible refine (pop_any gr ga n c _ _ H2.out).mono ?_); rintro e w3 ⟨rfl, h3, hk3, hb3⟩))
  go_ret
  have l1 := hk1.1
  have l2 := hk2.1
  refine ⟨rfl, h3, by rw [downP_length, swapL_length], ?_, fun B h1 h2 h3 => ((hb1 B h1).trans (hb2 B h1)).trans (hb3 B h2 (by omega))⟩
  exact ((hk1.mono (fun k hk => .inl hk)).then_ hk2 (fun k hk => .inl (.inl hk))).then_ hk3 (fun k hk => .inl (.inr hk))
end Go.Proofs.Ytffkojdmidhchaa.P
end
section
/- The heap of remainders, over plain lists: what Pop hands back is the first greatest remainder. Condition: indexes apart. -/
namespace Go.Proofs.Ytffkojdmidhchaa.P
open Go.RowKit Go.Proofs.YtffkojdmidhchaaW.PrintWords Go.Proofs.YtffkojdmidhchaaW.PrintLast Go.Proofs.YtffkojdmidhchaaW.PrintMore
set_option linter.unusedVariables false
set_option linter.unusedSimpArgs false

def leP (a b : Int × Int) : Prop := b.2 < a.2 ∨ (a.2 = b.2 ∧ a.1 ≤ b.1)
theorem leP_of {a b : Int × Int} (h : rlt b a = false) : leP a b := by
  unfold rlt at h; unfold leP
  by_cases c : b.2 = a.2
  · rw [if_pos c] at h; have := of_decide_eq_false h; omega
  · rw [if_neg c] at h; have := of_decide_eq_false h; omega
theorem leP_lt {a b : Int × Int} (h : rlt a b = true) : leP a b := by
  unfold rlt at h; unfold leP
  by_cases c : a.2 = b.2
  · rw [if_pos c] at h; have := of_decide_eq_true h; omega
  · rw [if_neg c] at h; have := of_decide_eq_true h; omega
theorem leP_refl (a : Int × Int) : leP a a := .inr ⟨rfl, Int.le_refl _⟩
theorem leP_trans {a b c : Int × Int} (h : leP a b) (k : leP b c) : leP a c := by unfold leP at *; omega
def tr (i j k : Nat) : Nat := if k = j then i else if k = i then j else k
theorem rget_swap (d : List (Int × Int)) (i j k : Nat) (hi : i < d.length) (hj : j < d.length) : rget (swapL d i j) k = rget d (tr i j k) := by
  unfold rget swapL tr
  by_cases c1 : k = j
  · subst c1
    rw [if_pos rfl, List.getD_eq_getElem?_getD, List.getElem?_set_self (by simpa using hj)]
    rfl
  · rw [if_neg c1, List.getD_eq_getElem?_getD, List.getElem?_set_ne (Ne.symm c1)]
    by_cases c2 : k = i
    · subst c2; rw [if_pos rfl, List.getElem?_set_self hi]; rfl
    · rw [if_neg c2, List.getElem?_set_ne (Ne.symm c2), ← List.getD_eq_getElem?_getD]
theorem tr_lt {i j k n : Nat} (hi : i < n) (hj : j < n) (hk : k < n) : tr i j k < n := by
  unfold tr
  (repeat' split) <;> assumption
theorem tr_tr (i j k : Nat) : tr i j (tr i j k) = k := by unfold tr; (repeat' split) <;> omega
/-- Both children of p come behind it. -/
def OkP (d : List (Int × Int)) (p n : Nat) : Prop := (2 * p + 1 < n → leP (rget d p) (rget d (2 * p + 1))) ∧ (2 * p + 2 < n → leP (rget d p) (rget d (2 * p + 2)))
def HFrom (d : List (Int × Int)) (lo n : Nat) : Prop := ∀ p, lo ≤ p → OkP d p n
theorem kid_le (d : List (Int × Int)) (i n : Nat) (h : ¬ n ≤ 2 * i + 1) : (2 * i + 1 < n → leP (rget d (kid d i n)) (rget d (2 * i + 1))) ∧ (2 * i + 2 < n → leP (rget d (kid d i n)) (rget d (2 * i + 2))) := by
  unfold kid
  by_cases c : 2 * i + 2 < n ∧ rlt (rget d (2 * i + 2)) (rget d (2 * i + 1)) = true
  · rw [if_pos c]; exact ⟨fun _ => leP_lt c.2, fun _ => leP_refl _⟩
  · rw [if_neg c]
    refine ⟨fun _ => leP_refl _, fun h2 => leP_of ?_⟩
    cases e : rlt (rget d (2 * i + 2)) (rget d (2 * i + 1)) with
    | true => exact absurd ⟨h2, e⟩ c
    | false => rfl
theorem kid_is (d : List (Int × Int)) (i n : Nat) (h : ¬ n ≤ 2 * i + 1) : (kid d i n = 2 * i + 1 ∨ kid d i n = 2 * i + 2) ∧ kid d i n < n := by unfold kid; split <;> omega
theorem down_heap (k : Nat) : ∀ (d : List (Int × Int)) (i lo n : Nat), n - i ≤ k → n ≤ d.length → lo ≤ i → (∀ p, lo ≤ p → p ≠ i → OkP d p n) →
    (∀ p, lo ≤ p → (2 * p + 1 = i ∨ 2 * p + 2 = i) → (2 * i + 1 < n → leP (rget d p) (rget d (2 * i + 1))) ∧ (2 * i + 2 < n → leP (rget d p) (rget d (2 * i + 2)))) →
    HFrom (downP k d i n) lo n := by
  induction k with
  | zero =>
    intro d i lo n hk hn hlo h1 h2 p hp
    by_cases e : p = i
    · subst e; exact ⟨fun h => by omega, fun h => by omega⟩
    · exact h1 p hp e
  | succ k ih =>
    intro d i lo n hk hn hlo h1 h2
    simp only [downP]
    by_cases c1 : n ≤ 2 * i + 1
    · rw [if_pos c1]
      intro p hp
      by_cases e : p = i
      · subst e; exact ⟨fun h => by omega, fun h => by omega⟩
      · exact h1 p hp e
    · rw [if_neg c1]
      have hk1 := kid_le d i n c1
      have hk2 := kid_is d i n c1
      cases c2 : rlt (rget d (kid d i n)) (rget d i) with
      | false =>
        rw [if_neg (by simp)]
        intro p hp
        by_cases e : p = i
        · subst e
          have := leP_of c2
          exact ⟨fun h => leP_trans this (hk1.1 h), fun h => leP_trans this (hk1.2 h)⟩
        · exact h1 p hp e
      | true =>
        rw [if_pos rfl]
        have hlt := leP_lt c2
        obtain ⟨hj, hjn⟩ := hk2
        generalize kid d i n = j at *
        have hgi : i < d.length := by omega
        have hgj : j < d.length := by omega
        have g := fun k => rget_swap d i j k hgi hgj
        have tj : tr i j j = i := by unfold tr; rw [if_pos rfl]
        have ti : tr i j i = j := by unfold tr; rw [if_neg (by omega), if_pos rfl]
        have tk : ∀ k, k ≠ i → k ≠ j → tr i j k = k := fun k a b => by unfold tr; rw [if_neg b, if_neg a]
        refine ih _ j lo n (by omega) (by rw [swapL_length]; exact hn) (by omega) ?_ ?_
        · intro p hp hpj
          by_cases e : p = i
          · subst e
            unfold OkP
            rw [g, g, g, ti]
            rcases hj with e | e
            · subst e
              rw [tj, tk (2 * p + 2) (by omega) (by omega)]
              exact ⟨fun _ => hlt, hk1.2⟩
            · subst e
              rw [tj, tk (2 * p + 1) (by omega) (by omega)]
              exact ⟨hk1.1, fun _ => hlt⟩
          · have hok := h1 p hp e
            unfold OkP at hok ⊢
            rw [g, g, g, tk p e hpj]
            constructor
            · intro h
              by_cases e1 : 2 * p + 1 = i
              · rw [e1, ti]
                have := h2 p hp (.inl e1)
                rcases hj with e | e <;> subst e
                · exact this.1 hjn
                · exact this.2 hjn
              · rw [tk (2 * p + 1) e1 (by omega)]; exact hok.1 h
            · intro h
              by_cases e1 : 2 * p + 2 = i
              · rw [e1, ti]
                have := h2 p hp (.inr e1)
                rcases hj with e | e <;> subst e
                · exact this.1 hjn
                · exact this.2 hjn
              · rw [tk (2 * p + 2) e1 (by omega)]; exact hok.2 h
        · intro p hp hpj
          have e : p = i := by omega
          subst e
          rw [g, g, g, ti, tk (2 * j + 1) (by omega) (by omega), tk (2 * j + 2) (by omega) (by omega)]
          exact h1 j (by omega) (by omega)
theorem down_from (d : List (Int × Int)) (i n : Nat) (hn : n ≤ d.length) (h : HFrom d (i + 1) n) : HFrom (downP (n - i) d i n) i n :=
  down_heap (n - i) d i i n (Nat.le_refl _) hn (Nat.le_refl _) (fun p h1 h2 => h p (by omega)) (fun p h1 h2 => by omega)
theorem init_heap (n : Nat) : ∀ (k : Nat) (d : List (Int × Int)), n ≤ d.length → HFrom d k n → HFrom (initP k d n) 0 n := by
  intro k
  induction k with
  | zero => intro d _ h; exact h
  | succ k ih => intro d hn h; exact ih _ (by rw [downP_length]; exact hn) (down_from d k n hn h)
theorem half_heap (d : List (Int × Int)) (n : Nat) : HFrom d (n / 2) n := fun p hp => ⟨fun h => by omega, fun h => by omega⟩
theorem heap_min (d : List (Int × Int)) (n : Nat) (h : HFrom d 0 n) (m : Nat) : ∀ i, i ≤ m → i < n → leP (rget d 0) (rget d i) := by
  induction m with
  | zero => intro i h1 h2; exact (show i = 0 by omega) ▸ leP_refl _
  | succ m ih =>
    intro i h1 h2
    rcases Nat.eq_zero_or_pos i with e | e
    · subst e; exact leP_refl _
    · have hp := h ((i - 1) / 2) (Nat.zero_le _)
      have a := ih ((i - 1) / 2) (by omega) (by omega)
      rcases Nat.mod_two_eq_zero_or_one (i - 1) with c | c
      · have e1 : 2 * ((i - 1) / 2) + 1 = i := by omega
        rw [OkP, e1] at hp
        exact leP_trans a (hp.1 h2)
      · have e1 : 2 * ((i - 1) / 2) + 2 = i := by omega
        rw [OkP, e1] at hp
        exact leP_trans a (hp.2 h2)
/-- What lies in the first n places: the remainders that are left, each with its index. -/
def Con (d : List (Int × Int)) (n : Nat) (R : List Int) : Prop :=
  (∀ i, i < n → ∃ k : Nat, k < R.length ∧ rget d i = ((k : Int), R.getD k 0) ∧ 0 ≤ R.getD k 0) ∧ (∀ k : Nat, k < R.length → 0 ≤ R.getD k 0 → ∃ i, i < n ∧ rget d i = ((k : Int), R.getD k 0)) ∧
  (∀ i j, i < n → j < n → (rget d i).1 = (rget d j).1 → i = j)
theorem Con.swap {d : List (Int × Int)} {n : Nat} {R : List Int} (h : Con d n R) (i j : Nat) (hi : i < n) (hj : j < n) (hn : n ≤ d.length) : Con (swapL d i j) n R := by
  have g := fun k => rget_swap d i j k (by omega) (by omega)
  refine ⟨fun k hk => ?_, fun k hk h0 => ?_, fun a b ha hb e => ?_⟩
  · rw [g]; exact h.1 _ (tr_lt hi hj hk)
  · obtain ⟨m, hm, e⟩ := h.2.1 k hk h0
    exact ⟨tr i j m, tr_lt hi hj hm, by rw [g, tr_tr]; exact e⟩
  · rw [g, g] at e
    have := h.2.2 _ _ (tr_lt hi hj ha) (tr_lt hi hj hb) e
    rw [← tr_tr i j a, this, tr_tr]
theorem Con.down {n : Nat} {R : List Int} (k : Nat) : ∀ {d : List (Int × Int)} (i : Nat), Con d n R → i < n → n ≤ d.length → Con (downP k d i n) n R := by
  induction k with
  | zero => intro d i h _ _; exact h
  | succ k ih =>
    intro d i h hi hn
    simp only [downP]
    by_cases c1 : n ≤ 2 * i + 1
    · rw [if_pos c1]; exact h
    · rw [if_neg c1]
      have hk2 := kid_is d i n c1
      by_cases c2 : rlt (rget d (kid d i n)) (rget d i) = true
      · rw [if_pos c2]
        exact ih _ (h.swap _ _ hi hk2.2 hn) hk2.2 (by rw [swapL_length]; exact hn)
      · rw [if_neg c2]; exact h
theorem Con.init {n : Nat} {R : List Int} (k : Nat) : ∀ {d : List (Int × Int)}, Con d n R → k ≤ n → n ≤ d.length → Con (initP k d n) n R := by
  induction k with
  | zero => intro d h _ _; exact h
  | succ k ih => intro d h hk hn; exact ih (h.down _ k (by omega) hn) (by omega) (by rw [downP_length]; exact hn)
theorem down_out (k : Nat) : ∀ (d : List (Int × Int)) (i n m : Nat), n ≤ d.length → i < n → n ≤ m → rget (downP k d i n) m = rget d m := by
  induction k with
  | zero => intro d i n m _ _ _; rfl
  | succ k ih =>
    intro d i n m hn hi hm
    simp only [downP]
    by_cases c1 : n ≤ 2 * i + 1
    · rw [if_pos c1]
    · rw [if_neg c1]
      have hk2 := kid_is d i n c1
      by_cases c2 : rlt (rget d (kid d i n)) (rget d i) = true
      · rw [if_pos c2, ih _ _ _ _ (by rw [swapL_length]; exact hn) hk2.2 hm, rget_swap _ _ _ _ (by omega) (by omega)]
        unfold tr; rw [if_neg (by omega), if_neg (by omega)]
      · rw [if_neg c2]
/-- The first index with the greatest remainder. -/
def Best (R : List Int) (k : Nat) : Prop := k < R.length ∧ ∀ j, j < R.length → R.getD j 0 < R.getD k 0 ∨ (R.getD j 0 = R.getD k 0 ∧ k ≤ j)
theorem Best.uniq {R : List Int} {k m : Nat} (h : Best R k) (h' : Best R m) : k = m := by
  have a := h.2 m h'.1
  have b := h'.2 k h.1
  omega
theorem getD_set (R : List Int) (k j : Nat) (x : Int) (hk : k < R.length) : (R.set k x).getD j 0 = if j = k then x else R.getD j 0 := by
  rw [List.getD_eq_getElem?_getD]
  by_cases c : j = k
  · subst c; rw [if_pos rfl, List.getElem?_set_self hk]; rfl
  · rw [if_neg c, List.getElem?_set_ne (Ne.symm c), ← List.getD_eq_getElem?_getD]
/-- One pop. -/
theorem pop_step {d : List (Int × Int)} {n : Nat} {R : List Int} (hn : n + 1 ≤ d.length) (hh : HFrom d 0 (n + 1)) (hc : Con d (n + 1) R) (hR : ∀ j, j < R.length → -1 ≤ R.getD j 0) :
    ∃ k, Best R k ∧ 0 ≤ R.getD k 0 ∧ rget (downP n (swapL d 0 n) 0 n) n = ((k : Int), R.getD k 0) ∧ HFrom (downP n (swapL d 0 n) 0 n) 0 n ∧ Con (downP n (swapL d 0 n) 0 n) n (R.set k (-1)) := by
  obtain ⟨k, hk, ek, k0⟩ := hc.1 0 (by omega)
  have g := fun m => rget_swap d 0 n m (by omega) (by omega)
  have tn : tr 0 n n = 0 := by unfold tr; rw [if_pos rfl]
  have tk : ∀ m, m ≠ 0 → m ≠ n → tr 0 n m = m := fun m a b => by unfold tr; rw [if_neg b, if_neg a]
  have hs := hc.swap 0 n (by omega) (by omega) hn
  have hrn : rget (swapL d 0 n) n = ((k : Int), R.getD k 0) := by rw [g, tn, ek]
  have hout : rget (downP n (swapL d 0 n) 0 n) n = rget (swapL d 0 n) n := by
    rcases Nat.eq_zero_or_pos n with e | e
    · subst e; rfl
    · exact down_out _ _ _ _ _ (by rw [swapL_length]; omega) e (Nat.le_refl _)
  have hcon : Con (swapL d 0 n) n (R.set k (-1)) := by
    refine ⟨fun i hi => ?_, fun m hm h0 => ?_, fun a b ha hb e => hs.2.2 a b (by omega) (by omega) e⟩
    · obtain ⟨m, hm, e, m0⟩ := hs.1 i (by omega)
      have hne : m ≠ k := by
        intro he
        subst he
        have := hs.2.2 i n (by omega) (by omega) (by rw [e, hrn])
        omega
      exact ⟨m, by simpa using hm, by rw [getD_set _ _ _ _ hk, if_neg hne]; exact e, by rw [getD_set _ _ _ _ hk, if_neg hne]; exact m0⟩
    · rw [getD_set _ _ _ _ hk] at h0 ⊢
      have hne : m ≠ k := by intro he; rw [if_pos he] at h0; omega
      rw [if_neg hne] at h0 ⊢
      obtain ⟨i, hi, e⟩ := hs.2.1 m (by simpa using hm) h0
      refine ⟨i, ?_, e⟩
      have : i ≠ n := by
        intro he
        subst he
        rw [hrn] at e
        injection e with e1 e2
        omega
      omega
  refine ⟨k, ⟨hk, fun j hj => ?_⟩, k0, by rw [hout, hrn], ?_, ?_⟩
  · by_cases c : 0 ≤ R.getD j 0
    · obtain ⟨i, hi, e⟩ := hc.2.1 j hj c
      have := heap_min d (n + 1) hh i i (Nat.le_refl _) hi
      rw [ek, e] at this
      unfold leP at this
      simp only at this
      omega
    · left; have := hR j hj; omega
  · have := down_from (swapL d 0 n) 0 n (by rw [swapL_length]; omega) (fun p hp => by
      have := hh p (by omega)
      unfold OkP at this ⊢
      constructor
      · intro h; rw [g, g, tk p (by omega) (by omega), tk (2 * p + 1) (by omega) (by omega)]; exact this.1 (by omega)
      · intro h; rw [g, g, tk p (by omega) (by omega), tk (2 * p + 2) (by omega) (by omega)]; exact this.2 (by omega))
    exact this
  · rcases Nat.eq_zero_or_pos n with e | e
    · subst e; exact hcon
    · exact hcon.down n 0 e (by rw [swapL_length]; omega)
end Go.Proofs.Ytffkojdmidhchaa.P
end
section
-- written by wip/tools/mkprint.py (a program of this session over the kit's print). Lean checks it.
namespace Go.Proofs.Ytffkojdmidhchaa.P
open Go.RowKit Go.Proofs.YtffkojdmidhchaaW.PrintWords Go.Proofs.YtffkojdmidhchaaW.PrintLast Go.Proofs.YtffkojdmidhchaaW.PrintMore
attribute [local go_sem] max2_int min2_int max_two min_two max_three min_three max_four min_four   -- for this text's walks alone
set_option linter.unusedVariables false
set_option linter.unusedSimpArgs false

/-! ### impl_lengthsSum: function 132 -/
mutual
def impl_lengthsSum.j0 : Nat → List Int → Bool → Option (Int × Bool)
  | 0, _, _ => none
  | k + 1, x0, x14 => if x14 = true then (some (0, false)) else (impl_lengthsSum.l0 k 0 x0 (x0.length : Int) 0)
def impl_lengthsSum.l0 : Nat → Int → List Int → Int → Int → Option (Int × Bool)
  | 0, _, _, _, _ => none
  | k + 1, x4, x15, x16, x17 => if x17 < x16 then (if 0 ≤ x17 then (if x17 < (x15.length : Int) then (if (rd x15 x17) < 0 then (some (0, false)) else (if (rd x15 x17) > 10000 then (some (0, false)) else (impl_lengthsSum.l0 k (wrap64 (x4 + (rd x15 x17))) x15 x16 (wrap64 (x17 + 1))))) else (none)) else (none)) else (some (x4, decide (x4 > 0)))
end
def impl_lengthsSum.f (k : Nat) (l0 : List Int) : Option (Int × Bool) := if (l0.length : Int) < 1 then (impl_lengthsSum.j0 k l0 true) else (impl_lengthsSum.j0 k l0 (decide ((l0.length : Int) > 20)))
theorem impl_lengthsSum.mono_l : ∀ k, (∀ y0 y1, LeO (impl_lengthsSum.j0 k y0 y1) (impl_lengthsSum.j0 (k + 1) y0 y1)) ∧ (∀ y0 y1 y2 y3, LeO (impl_lengthsSum.l0 k y0 y1 y2 y3) (impl_lengthsSum.l0 (k + 1) y0 y1 y2 y3))
  | 0 => ⟨fun _ _ r h => by simp [impl_lengthsSum.j0] at h, fun _ _ _ _ r h => by simp [impl_lengthsSum.l0] at h⟩
  | k + 1 => by
    obtain ⟨ih0, ih1⟩ := impl_lengthsSum.mono_l k
    refine ⟨?_, ?_⟩
    · intro y0 y1
      unfold impl_lengthsSum.j0
      repeat' first
      | (with_reducible exact ih0 _ _)
      | (with_reducible exact ih1 _ _ _ _)
      | (with_reducible exact LeO.refl _)
      | (with_reducible exact LeO.none _)
      | (with_reducible refine LeO.ite ?_ ?_)
      | (with_reducible refine LeO.bind ?_ (fun _ => ?_))
      | exact ih0 _ _
      | exact ih1 _ _ _ _
      | exact LeO.none _
      | refine LeO.ite ?_ ?_
      | refine LeO.bind ?_ (fun _ => ?_)
    · intro y0 y1 y2 y3
      unfold impl_lengthsSum.l0
      repeat' first
      | (with_reducible exact ih0 _ _)
      | (with_reducible exact ih1 _ _ _ _)
      | (with_reducible exact LeO.refl _)
      | (with_reducible exact LeO.none _)
      | (with_reducible refine LeO.ite ?_ ?_)
      | (with_reducible refine LeO.bind ?_ (fun _ => ?_))
      | exact ih0 _ _
      | exact ih1 _ _ _ _
      | exact LeO.none _
      | refine LeO.ite ?_ ?_
      | refine LeO.bind ?_ (fun _ => ?_)
theorem impl_lengthsSum.mono : ∀ a0 k, LeO (impl_lengthsSum.f k a0) (impl_lengthsSum.f (k + 1) a0) := by
  intro a0 k
  obtain ⟨ih0, ih1⟩ := impl_lengthsSum.mono_l k
  unfold impl_lengthsSum.f
  repeat' first
      | (with_reducible exact ih0 _ _)
      | (with_reducible exact ih1 _ _ _ _)
      | (with_reducible exact LeO.refl _)
      | (with_reducible exact LeO.none _)
      | (with_reducible refine LeO.ite ?_ ?_)
      | (with_reducible refine LeO.bind ?_ (fun _ => ?_))
      | exact ih0 _ _
      | exact ih1 _ _ _ _
      | exact LeO.none _
      | refine LeO.ite ?_ ?_
      | refine LeO.bind ?_ (fun _ => ?_)
set_option maxHeartbeats 8000000 in
set_option maxRecDepth 100000 in
theorem impl_lengthsSum.calls (k : Nat) (A0 : Option Addr) (c0 : Nat) (l0 : List Int) (r1 : Int) (r2 : Bool) (w : World) (hr0 : Kd.C (Kd.int .i64) w A0 l0.length l0) (hc0 : l0.length ≤ c0) (h : impl_lengthsSum.f k l0 = some (r1, r2)) :
    Calls Try.prog 132 #[.slice A0 l0.length c0] w fun e w' => e = .returned (.tuple #[.int .i64 r1, .bool r2]) ∧ Drawn0 w w' := by
  have HR0 := Aside0.mk hr0
  have HC0 := Aside0.mk hc0
  clear hr0 hc0
  have H : (if (l0.length : Int) < 1 then (impl_lengthsSum.j0 k l0 true) else (impl_lengthsSum.j0 k l0 (decide ((l0.length : Int) > 20)))) = some (r1, r2) := h
  clear h
  have HC2 := Aside0.mk H
  clear H
  go_enter Try.func132, Try.ntmps132
  go_upto_region 1 with (fail)
  go_cut [14] (fun v14 wc => ∃ (kq : Nat) (x14_1 : Bool), v14 = .bool x14_1 ∧ Aside0 (impl_lengthsSum.j0 kq l0 x14_1 = some (r1, r2)) ∧ Aside0 (kq ≤ k) ∧ Drawn0 w wc)
  case first =>
    have H := HC2.out
    clear HC2
    by_cases c3 : (l0.length : Int) < 1
    · rw [if_pos c3] at H
      have c3b0 : decide ((l0.length : Int) < 1) = true := decide_eq_true c3
      have c3b1 : decide (l0.length < 1) = true := decide_eq_true (by omega)
      clear c3
      (first | rw [c3b0] | (simp only [i64_w, i32_w]; rw [c3b0]) | skip)
      have H' := Aside0.mk H
      clear H
      go_wp2
      go_meet
      case rel => exact ⟨_, (true), (by first | rfl | (simp; done) | (simp [*]; done)), H', ⟨by first | omega | exact Nat.le_refl _⟩, by repeat (first | exact Drawn0.refl _ | apply Drawn0.step)⟩
    · rw [if_neg c3] at H
      have c3b0 : decide ((l0.length : Int) < 1) = false := decide_eq_false c3
      have c3b1 : decide (l0.length < 1) = false := decide_eq_false (by omega)
      clear c3
      (first | rw [c3b0] | (simp only [i64_w, i32_w]; rw [c3b0]) | skip)
      have H' := Aside0.mk H
      clear H
      go_wp2
      go_meet
      case rel => exact ⟨_, (decide ((l0.length : Int) > 20)), (by first | rfl | (simp; done) | (simp [*]; done)), H', ⟨by first | omega | exact Nat.le_refl _⟩, by repeat (first | exact Drawn0.refl _ | apply Drawn0.step)⟩
  case rest =>
    clear HC2
    try clear c1
    try clear p2
    try clear c3
    try clear c3b0
    try clear c3b1
    obtain ⟨kq, x14_1, rfl, HA, HJ1, ⟨mc1, rfl⟩⟩ := hcut
    cases kq with
    | zero => exact absurd HA.out (by simp [impl_lengthsSum.j0])
    | succ kj1 =>
      have H := HA.out
      clear HA
      simp only [impl_lengthsSum.j0] at H
      by_cases c4 : x14_1 = true
      · subst c4
        have H1 : (some (0, false)) = some (r1, r2) := by rw [if_pos rfl] at H; exact H
        clear H
        have H := H1
        clear H1
        simp only [Option.some.injEq, Prod.mk.injEq] at H
        obtain ⟨rfl, rfl⟩ := H
        go_wp2
        go_ret2
        exact ⟨by first | rfl | (simp; done) | (simp [*]; done), by repeat (first | exact Drawn0.refl _ | apply Drawn0.step)⟩
      · replace c4 := Bool.eq_false_iff.mpr c4
        subst c4
        have H1 : (impl_lengthsSum.l0 kj1 0 l0 (l0.length : Int) 0) = some (r1, r2) := by rw [if_neg (show ¬ (false = true) by decide)] at H; exact H
        clear H
        have H := H1
        clear H1
        have H' := Aside0.mk H
        clear H
        go_wp2
        go_loopg [4, 17] kj1 (fun kq v4 v17 w' => ∃ (x4_2 : Int) (x17_2 : Int), v4 = .int .i64 x4_2 ∧ v17 = .int .i64 x17_2 ∧ Aside0 (impl_lengthsSum.l0 kq x4_2 l0 (l0.length : Int) x17_2 = some (r1, r2)) ∧ Aside0 (kq ≤ kj1) ∧ Drawn0 w w')
        case atStart => exact ⟨(0), (0), (by first | rfl | (simp; done) | (simp [*]; done)), (by first | rfl | (simp; done) | (simp [*]; done)), H', ⟨Nat.le_refl _⟩, by repeat (first | exact Drawn0.refl _ | apply Drawn0.step)⟩
        case round =>
          clear H'
          try clear c1
          try clear p2
          try clear c3
          try clear c3b0
          try clear c3b1
          try clear c4
          try clear p2
          obtain ⟨x4_2, x17_2, rfl, rfl, HA, HK2, ⟨m2, rfl⟩⟩ := hrel
          cases gk with
          | zero => exact absurd HA.out (by simp [impl_lengthsSum.l0])
          | succ k2 =>
            have H := HA.out
            clear HA
            simp only [impl_lengthsSum.l0] at H
            by_cases c5 : x17_2 < (l0.length : Int)
            · rw [if_pos c5] at H
              have c5b0 : decide (x17_2 < (l0.length : Int)) = true := decide_eq_true c5
              clear c5
              by_cases c6 : 0 ≤ x17_2
              · rw [if_pos c6] at H
                have c6b0 : decide (0 ≤ x17_2) = true := decide_eq_true c6
                clear c6
                by_cases c7 : x17_2 < (l0.length : Int)
                · rw [if_pos c7] at H
                  have c7b0 : decide (x17_2 < (l0.length : Int)) = true := decide_eq_true c7
                  clear c7
                  by_cases c8 : (rd l0 x17_2) < 0
                  · rw [if_pos c8] at H
                    have c8b0 : decide ((rd l0 x17_2) < 0) = true := decide_eq_true c8
                    clear c8
                    simp only [Option.some.injEq, Prod.mk.injEq] at H
                    obtain ⟨rfl, rfl⟩ := H
                    have p728 : 0 ≤ (x17_2 : Int) := of_decide_eq_true (by first | (with_reducible assumption) | assumption)
                    have q728 : x17_2 < (l0.length : Int) := of_decide_eq_true (by first | (with_reducible assumption) | assumption)
                    obtain ⟨ad728, e728, hx728_0⟩ := Kd.at_int HR0.out x17_2 p728 q728
                    cases e728
                    replace p728 := eq_true p728
                    replace q728 := eq_true q728
                    go_wp2
                    go_ret2
                    exact ⟨by first | rfl | (simp; done) | (simp [*]; done), by repeat (first | exact Drawn0.refl _ | apply Drawn0.step)⟩
                  · rw [if_neg c8] at H
                    have c8b0 : decide ((rd l0 x17_2) < 0) = false := decide_eq_false c8
                    clear c8
                    by_cases c9 : (rd l0 x17_2) > 10000
                    · rw [if_pos c9] at H
                      have c9b0 : decide (10000 < (rd l0 x17_2)) = true := decide_eq_true c9
                      clear c9
                      simp only [Option.some.injEq, Prod.mk.injEq] at H
                      obtain ⟨rfl, rfl⟩ := H
                      have p728 : 0 ≤ (x17_2 : Int) := of_decide_eq_true (by first | (with_reducible assumption) | assumption)
                      have q728 : x17_2 < (l0.length : Int) := of_decide_eq_true (by first | (with_reducible assumption) | assumption)
                      obtain ⟨ad728, e728, hx728_0⟩ := Kd.at_int HR0.out x17_2 p728 q728
                      cases e728
                      replace p728 := eq_true p728
                      replace q728 := eq_true q728
                      go_wp2
                      go_ret2
                      exact ⟨by first | rfl | (simp; done) | (simp [*]; done), by repeat (first | exact Drawn0.refl _ | apply Drawn0.step)⟩
                    · rw [if_neg c9] at H
                      have c9b0 : decide (10000 < (rd l0 x17_2)) = false := decide_eq_false c9
                      clear c9
                      have H' := Aside0.mk H
                      clear H
                      have p728 : 0 ≤ (x17_2 : Int) := of_decide_eq_true (by first | (with_reducible assumption) | assumption)
                      have q728 : x17_2 < (l0.length : Int) := of_decide_eq_true (by first | (with_reducible assumption) | assumption)
                      obtain ⟨ad728, e728, hx728_0⟩ := Kd.at_int HR0.out x17_2 p728 q728
                      cases e728
                      replace p728 := eq_true p728
                      replace q728 := eq_true q728
                      go_wp2
                      go_roundg k2
                      case measure => have := HJ1.out; have := HK2.out; omega
                      case rel => exact ⟨(wrap64 (x4_2 + (rd l0 x17_2))), (wrap64 (x17_2 + 1)), (by first | rfl | (simp; done) | (simp [*]; done)), (by first | rfl | (simp; done) | (simp [*]; done)), H', ⟨by have := HJ1.out; have := HK2.out; omega⟩, by repeat (first | exact Drawn0.refl _ | apply Drawn0.step)⟩
                · rw [if_neg c7] at H
                  exact absurd H (by simp)
              · rw [if_neg c6] at H
                exact absurd H (by simp)
            · rw [if_neg c5] at H
              have c5b0 : decide (x17_2 < (l0.length : Int)) = false := decide_eq_false c5
              clear c5
              simp only [Option.some.injEq, Prod.mk.injEq] at H
              obtain ⟨rfl, rfl⟩ := H
              go_wp2
              go_ret2
              exact ⟨by first | rfl | (simp; done) | (simp [*]; done), by repeat (first | exact Drawn0.refl _ | apply Drawn0.step)⟩

end Go.Proofs.Ytffkojdmidhchaa.P
end
section
/- Plain helpers for functions with rounds. -/
namespace Go.Proofs.Ytffkojdmidhchaa.P
open Go.RowKit Go.Proofs.YtffkojdmidhchaaW.PrintWords Go.Proofs.YtffkojdmidhchaaW.PrintLast Go.Proofs.YtffkojdmidhchaaW.PrintMore
set_option linter.unusedVariables false
set_option linter.unusedSimpArgs false

theorem wrap_small {a : Int} (h0 : -9223372036854775808 ≤ a) (h1 : a ≤ 9223372036854775807) : wrap64 a = a := by unfold wrap64; omega
theorem wrap_succ {i : Nat} (h : i < 9223372036854775807) : wrap64 ((i : Int) + 1) = ((i + 1 : Nat) : Int) := by unfold wrap64; omega
theorem Ev_uniq {α : Type} {g : Nat → Option α} {r q : α} (hg : ∀ k, LeO (g k) (g (k + 1))) (h : Ev g r) {k : Nat} (hk : g k = some q) : q = r := by
  obtain ⟨K, hK⟩ := h
  have h1 := at_rounds hg (Nat.le_max_left k K) hk
  rw [hK _ (Nat.le_max_right k K)] at h1
  exact (Option.some.inj h1).symm
theorem Ev_some {α : Type} (r : α) : Ev (fun _ => some r) r := Ev.now r
/-- One round, what it comes to, and what follows. -/
theorem Ev_step {α : Type} {g : Nat → Option α} {f : Nat → Option α} {r : α} (k : Ev f r) (h : ∀ k, g (k + 1) = f k) : Ev g r := Ev.step h k
theorem Ev_end {α : Type} {g : Nat → Option α} {r : α} (h : ∀ k, g (k + 1) = some r) : Ev g r := Ev.step h (Ev.now r)
theorem Ev_bind {α β : Type} {g : Nat → Option α} {f : Nat → α → Option β} {a : α} {r : β} (h : Ev g a) (k : Ev (fun n => f n a) r) : Ev (fun n => (g n).bind (f n)) r := Ev.bind h k
theorem Ev_bind_some {α β : Type} {x : α} {f : Nat → α → Option β} {r : β} (k : Ev (fun n => f n x) r) : Ev (fun n => (some x).bind (f n)) r := k
theorem Ev_pos {α : Type} {c : Prop} [Decidable c] {g f : Nat → Option α} {r : α} (hc : c) (h : Ev g r) : Ev (fun k => if c then g k else f k) r := by
  simp only [if_pos hc]; exact h
theorem Ev_neg {α : Type} {c : Prop} [Decidable c] {g f : Nat → Option α} {r : α} (hc : ¬ c) (h : Ev f r) : Ev (fun k => if c then g k else f k) r := by
  simp only [if_neg hc]; exact h
theorem rd_get {xs : List Int} {i : Nat} (h : i < xs.length) : rd xs (i : Int) = xs[i] := by
  simp [rd, List.getD_eq_getElem?_getD, List.getElem?_eq_getElem h]
theorem rd_T74_get {xs : List S74} {i : Nat} (h : i < xs.length) : rd_T74 xs (i : Int) = xs[i] := by
  simp [rd_T74, List.getD_eq_getElem?_getD, List.getElem?_eq_getElem h]
theorem rd_T30_get {xs : List S30} {i : Nat} (h : i < xs.length) : rd_T30 xs (i : Int) = xs[i] := by
  simp [rd_T30, List.getD_eq_getElem?_getD, List.getElem?_eq_getElem h]
theorem drop_cons {α : Type} {xs : List α} {i : Nat} (h : i < xs.length) : xs.drop i = xs[i] :: xs.drop (i + 1) := List.drop_eq_getElem_cons h
theorem drop_end {α : Type} {xs : List α} {i : Nat} (h : xs.length ≤ i) : xs.drop i = [] := List.drop_eq_nil_of_le h
theorem wn_f (a m : Int) (h0 : 0 ≤ m) (h1 : m ≤ 4000000000000000000) (r : Bool) (h : r = decide (-m ≤ a ∧ a ≤ m)) : (if (wrap64 (-m)) ≤ a then (some (decide (a ≤ m))) else (some false)) = some r := by
  rw [wrap_small (by omega) (by omega), h]
  by_cases c : -m ≤ a <;> simp [c]
end Go.Proofs.Ytffkojdmidhchaa.P
end
section
/- Shares: floors, remainders and who gets one more, as plain functions. -/
namespace Go.Proofs.Ytffkojdmidhchaa.P
open Go.RowKit Go.Proofs.YtffkojdmidhchaaW.PrintWords Go.Proofs.YtffkojdmidhchaaW.PrintLast Go.Proofs.YtffkojdmidhchaaW.PrintMore
set_option linter.unusedVariables false
set_option linter.unusedSimpArgs false

def lenOk (x : Int) : Bool := decide (0 ≤ x ∧ x ≤ 10000)
def lenB (l : List Int) : Bool := decide (1 ≤ l.length ∧ l.length ≤ 20) && l.all lenOk
theorem lenB_iff {l : List Int} : lenB l = true ↔ 1 ≤ l.length ∧ l.length ≤ 20 ∧ ∀ x ∈ l, 0 ≤ x ∧ x ≤ 10000 := by
  unfold lenB lenOk; simp [and_assoc]
theorem lens_loop (l : List Int) (hl : l.length ≤ 20) (d : Nat) : ∀ (i : Nat) (s : Int), l.length - i = d → i ≤ l.length → 0 ≤ s → s ≤ 10000 * i →
    Ev (fun k => impl_lengthsSum.l0 k s l l.length i) (if (l.drop i).all lenOk = true then (s + (l.drop i).sum, decide (0 < s + (l.drop i).sum)) else (0, false)) := by
  induction d with
  | zero =>
    intro i s hd hi h1 h2
    rw [drop_end (by omega)]
    refine Ev_end fun k => ?_
    simp only [impl_lengthsSum.l0]; rw [if_neg (by omega)]; simp
  | succ d ih =>
    intro i s hd hi h1 h2
    have hlt : i < l.length := by omega
    rw [drop_cons hlt, List.all_cons, List.sum_cons]
    refine Ev.step (f := ?f2) ?h2 ?k2
    case h2 => intro k; simp only [impl_lengthsSum.l0]; exact rfl
    case k2 =>
      refine Ev_pos (by omega) (Ev_pos (by omega) (Ev_pos (by omega) ?_))
      rw [rd_get hlt, wrap_succ (by omega)]
      by_cases c1 : l[i] < 0
      · have e : lenOk l[i] = false := by unfold lenOk; rw [decide_eq_false_iff_not]; omega
        rw [e, Bool.false_and, if_neg (by simp)]; exact Ev_pos c1 (Ev_some _)
      · by_cases c2 : l[i] > 10000
        · have e : lenOk l[i] = false := by unfold lenOk; rw [decide_eq_false_iff_not]; omega
          rw [e, Bool.false_and, if_neg (by simp)]; exact Ev_neg c1 (Ev_pos c2 (Ev_some _))
        · have e : lenOk l[i] = true := by unfold lenOk; rw [decide_eq_true_iff]; omega
          rw [e, Bool.true_and, ← Int.add_assoc, Go.Proofs.Ytffkojdmidhchaa.P.wrap_small (a := s + l[i]) (by omega) (by omega)]
          exact Ev_neg c1 (Ev_neg c2 (ih (i + 1) (s + l[i]) (by omega) (by omega) (by omega) (by push_cast; omega)))
theorem lengthsSum_ev (l : List Int) : Ev (fun k => impl_lengthsSum.f k l) (if lenB l = true then (l.sum, decide (0 < l.sum)) else (0, false)) := by
  unfold impl_lengthsSum.f
  have jt : Ev (fun k => impl_lengthsSum.j0 k l true) (0, false) := Ev_end fun k => by simp only [impl_lengthsSum.j0]; rfl
  by_cases c1 : (l.length : Int) < 1
  · have e : lenB l = false := by unfold lenB; rw [decide_eq_false (p := 1 ≤ l.length ∧ l.length ≤ 20) (by omega)]; rfl
    rw [e, if_neg (by simp)]; exact Ev_pos c1 jt
  by_cases c2 : (l.length : Int) > 20
  · have e : lenB l = false := by unfold lenB; rw [decide_eq_false (p := 1 ≤ l.length ∧ l.length ≤ 20) (by omega)]; rfl
    rw [e, if_neg (by simp), decide_eq_true c2]; exact Ev_neg c1 jt
  have e : lenB l = l.all lenOk := by unfold lenB; rw [decide_eq_true (p := 1 ≤ l.length ∧ l.length ≤ 20) (by omega)]; simp
  rw [e, decide_eq_false c2]
  refine Ev_neg c1 ?_
  refine Ev.step (f := ?f2) ?h2 ?k2
  case h2 => intro k; simp only [impl_lengthsSum.j0]; exact rfl
  case k2 =>
    refine Ev_neg (by simp) ?_
    have := lens_loop l (by omega) l.length 0 0 (by omega) (by omega) (by omega) (by omega)
    simpa using this
/-- Parts rounded down, and what rounding has left. -/
def floors (l : List Int) (a s : Int) : List Int := l.map fun x => (a * x) / s
def lefts (l : List Int) (a s : Int) : List Int := l.map fun x => (a * x) % s
def bestOf (R : List Int) : Nat := (List.range R.length).foldl (fun b i => if R.getD b 0 < R.getD i 0 then i else b) 0
def shareGo : Nat → List Int → List Int → List Int
  | 0, S, _ => S
  | m + 1, S, R => shareGo m (S.set (bestOf R) (S.getD (bestOf R) 0 + 1)) (R.set (bestOf R) (-1))
def shareB (l : List Int) (a : Int) : Bool := lenB l && (decide (0 < l.sum) && decide (-10000000 ≤ a ∧ a ≤ 10000000))
def shareOf (l : List Int) (a : Int) : List Int := shareGo (a - (floors l a l.sum).sum).toNat (floors l a l.sum) (lefts l a l.sum)
theorem bestOf_best (R : List Int) (h : R ≠ []) : Best R (bestOf R) := by
  have key : ∀ n, n ≤ R.length → 0 < n → ∃ b, (List.range n).foldl (fun b i => if R.getD b 0 < R.getD i 0 then i else b) 0 = b ∧ b < n ∧ ∀ j, j < n → R.getD j 0 < R.getD b 0 ∨ (R.getD j 0 = R.getD b 0 ∧ b ≤ j) := by
    intro n
    induction n with
    | zero => intro _ h; omega
    | succ n ih =>
      intro hn _
      rw [List.range_succ, List.foldl_append]
      simp only [List.foldl_cons, List.foldl_nil]
      rcases Nat.eq_zero_or_pos n with e | e
      · subst e
        refine ⟨0, by simp, by omega, fun j hj => ?_⟩
        have : j = 0 := by omega
        subst this; right; exact ⟨rfl, Nat.le_refl _⟩
      · obtain ⟨b, e1, e2, e3⟩ := ih (by omega) e
        rw [e1]
        by_cases c : R.getD b 0 < R.getD n 0
        · rw [if_pos c]
          refine ⟨n, rfl, by omega, fun j hj => ?_⟩
          rcases Nat.lt_or_ge j n with h | h
          · have := e3 j h; omega
          · have : j = n := by omega
            subst this; right; exact ⟨rfl, Nat.le_refl _⟩
        · rw [if_neg c]
          refine ⟨b, rfl, by omega, fun j hj => ?_⟩
          rcases Nat.lt_or_ge j n with h | h
          · exact e3 j h
          · have : j = n := by omega
            subst this; omega
  have hp := List.length_pos_iff.2 h
  obtain ⟨b, e1, e2, e3⟩ := key R.length (Nat.le_refl _) hp
  unfold bestOf
  rw [e1]
  exact ⟨e2, e3⟩
/-- How much is missing: less than there are lengths. -/
theorem missing_bound (l : List Int) (a s : Int) (hs : 0 < s) : s * (floors l a s).sum + (lefts l a s).sum = a * l.sum ∧ 0 ≤ (lefts l a s).sum ∧ (lefts l a s).sum ≤ (s - 1) * l.length := by
  induction l with
  | nil => simp [floors, lefts]
  | cons x l ih =>
    obtain ⟨h1, h2, h3⟩ := ih
    have e1 := Int.mul_ediv_add_emod (a * x) s
    have e2 := Int.emod_nonneg (a * x) (show s ≠ 0 by omega)
    have e3 := Int.emod_lt_of_pos (a * x) hs
    have d1 : floors (x :: l) a s = (a * x) / s :: floors l a s := rfl
    have d2 : lefts (x :: l) a s = (a * x) % s :: lefts l a s := rfl
    rw [d1, d2]
    simp only [List.sum_cons, List.length_cons]
    push_cast
    refine ⟨?_, by omega, ?_⟩
    · rw [Int.mul_add, Int.mul_add]; omega
    · rw [Int.mul_add]; omega
theorem missing_lt (l : List Int) (a : Int) (hs : 0 < l.sum) (hl : 1 ≤ l.length) : 0 ≤ a - (floors l a l.sum).sum ∧ a - (floors l a l.sum).sum < l.length := by
  obtain ⟨h1, h2, h3⟩ := missing_bound l a l.sum hs
  generalize (floors l a l.sum).sum = F at *
  generalize (lefts l a l.sum).sum = L at *
  generalize l.sum = s at *
  have e : s * (a - F) = L := by rw [Int.mul_sub, Int.mul_comm s a]; omega
  constructor
  · by_cases h : a - F < 0
    · have := Int.mul_neg_of_pos_of_neg hs h; omega
    · omega
  · by_cases h : a - F < l.length
    · exact h
    · have := Int.mul_le_mul_of_nonneg_left (show (l.length : Int) ≤ a - F by omega) (Int.le_of_lt hs)
      rw [Int.sub_mul] at h3
      omega
end Go.Proofs.Ytffkojdmidhchaa.P
end
section
/- impl.ShareOf: its plain function and its contract, in the print's form. -/
namespace Go.Proofs.Ytffkojdmidhchaa.P
open Go.RowKit Go.Proofs.YtffkojdmidhchaaW.PrintWords Go.Proofs.YtffkojdmidhchaaW.PrintLast Go.Proofs.YtffkojdmidhchaaW.PrintMore
set_option linter.unusedVariables false
set_option linter.unusedSimpArgs false
set_option maxHeartbeats 8000000
set_option maxRecDepth 20000
attribute [local go_sem] frozen_alloc' max2_int min2_int max_two min_two

theorem floor_any (a b : Int) (w : World) (hb : 0 < b) (hb' : b ≤ 1000000000000) (ha : -1000000000000 ≤ a) (ha' : a ≤ 1000000000000) :
    Calls Try.prog 144 #[.int .i64 a, .int .i64 b] w fun e w' => e = .returned (.tuple #[.int .i64 (a / b), .int .i64 (a % b)]) ∧ ∃ q, w' = w.drewN q := by
  have hb0 : b ≠ 0 := by omega
  have hm := Int.tmod_add_mul_tdiv a b
  have hr := Int.emod_add_mul_ediv a b
  have r0 := Int.emod_nonneg a hb0
  have r1 := Int.emod_lt_of_pos a hb
  have hq1 : -1000000000000 ≤ Int.tdiv a b ∧ Int.tdiv a b ≤ 1000000000000 := by
    have := Int.natAbs_tdiv_le_natAbs a b
    omega
  have hm1 : -b < Int.tmod a b ∧ Int.tmod a b < b := by
    have := Int.natAbs_tmod a b
    have h2 : a.natAbs % b.natAbs < b.natAbs := Nat.mod_lt _ (by omega)
    omega
  by_cases c : Int.tmod a b < 0
  · have e : a / b = Int.tdiv a b - 1 ∧ a % b = Int.tmod a b + b := by
      have h1 : b * (a / b - (Int.tdiv a b - 1)) = Int.tmod a b + b - a % b := by rw [Int.mul_sub, Int.mul_sub]; omega
      have h2 : a / b - (Int.tdiv a b - 1) = 0 := by
        generalize a / b - (Int.tdiv a b - 1) = z at *
        rcases Int.lt_trichotomy z 0 with h | h | h
        · have := Int.mul_le_mul_of_nonneg_left (show z ≤ -1 by omega) (Int.le_of_lt hb); omega
        · exact h
        · have := Int.mul_le_mul_of_nonneg_left (show 1 ≤ z by omega) (Int.le_of_lt hb); omega
      rw [h2] at h1
      omega
    rw [e.1, e.2]
    clear e hm hr r0 r1
    go_enter Try.func144, Try.ntmps144
    go_wp2
    go_quiet (fail)
    go_wp2
    go_ret2
    exact ⟨rfl, _, rfl⟩
  · have e : a / b = Int.tdiv a b ∧ a % b = Int.tmod a b := by
      have h1 : b * (a / b - Int.tdiv a b) = Int.tmod a b - a % b := by rw [Int.mul_sub]; omega
      have h2 : a / b - Int.tdiv a b = 0 := by
        generalize a / b - Int.tdiv a b = z at *
        rcases Int.lt_trichotomy z 0 with h | h | h
        · have := Int.mul_le_mul_of_nonneg_left (show z ≤ -1 by omega) (Int.le_of_lt hb); omega
        · exact h
        · have := Int.mul_le_mul_of_nonneg_left (show 1 ≤ z by omega) (Int.le_of_lt hb); omega
      rw [h2] at h1
      omega
    rw [e.1, e.2]
    clear e hm hr r0 r1
    go_enter Try.func144, Try.ntmps144
    go_wp2
    go_quiet (fail)
    go_wp2
    go_ret2
    exact ⟨rfl, _, rfl⟩

def IntBlk (W : World) (g : Nat) (xs : List Int) : Prop := W.heap[g]? = some (.cells (xs.map (Value.int .i64)).toArray 3 (0, 0))
theorem IntBlk.put {W : World} {g : Nat} {xs ys : List Int} (h : IntBlk W g xs) (i : Nat) (x : Int) (e : xs.set i x = ys) : IntBlk (W.setCell ⟨g, i, none⟩ (.int .i64 x)) g ys := by
  subst e
  exact blk_put h i _ (by rw [List.setIfInBounds_toArray, List.map_set])
theorem IntBlk.cell {W : World} {g : Nat} {xs : List Int} (h : IntBlk W g xs) (i : Nat) (hi : i < xs.length) : W.cell? ⟨g, i, none⟩ = some (.int .i64 (xs.getD i 0)) ∧ W.frozen? ⟨g, i, none⟩ = false := by
  refine ⟨blk_c h i _ ?_, blk_f h i⟩
  rw [List.getElem?_toArray, List.getElem?_map, List.getElem?_eq_getElem hi, List.getD_eq_getElem?_getD, List.getElem?_eq_getElem hi]; rfl
theorem IntBlk.kept {W W1 : World} {g : Nat} {xs : List Int} {S : Nat → Prop} (h : IntBlk W g xs) (k : Kept W W1 S) (hs : ¬ S g) : IntBlk W1 g xs := (k.2 g (blk_lt h) hs).trans h
theorem IntBlk.own {W : World} {g base : Nat} {xs : List Int} (h : IntBlk W g xs) (hb : base ≤ g) (hl : xs.length ≤ 1000) : W.ownsRow base 3 1 (.slice (some ⟨g, 0, none⟩) xs.length xs.length) xs.length (xs.map (Value.int .i64)) := by
  refine ⟨by simp, .inr ⟨g, xs.length, _, rfl, hb, h, Nat.le_refl _, by simp only [maxLen]; omega, by simp, ?_⟩⟩
  rw [List.take_of_length_le (by simp)]
theorem IntBlk.made {W : World} {n : Nat} : IntBlk (W.alloc (.cells (madeCells #[.int .i64 0] n) 3)) W.heap.size (List.replicate n 0) := by
  unfold IntBlk
  rw [heap_alloc_new]
  congr 2
  rw [List.map_replicate, ← toList_madeCells_one]
def rcells (l : List (Int × Int)) : List Value := l.flatMap fun p => [.int .i64 p.1, .int .i64 p.2]
theorem rcells_snoc (l : List (Int × Int)) (p : Int × Int) : rcells (l ++ [p]) = rcells l ++ [.int .i64 p.1, .int .i64 p.2] := by simp [rcells]
def prs (R : List Int) : List (Int × Int) := (List.range R.length).map fun (i : Nat) => ((i : Int), R.getD i 0)
theorem prs_take (R : List Int) (i : Nat) (h : i < R.length) : (prs R).take (i + 1) = (prs R).take i ++ [((i : Int), R.getD i 0)] := by
  rw [List.take_succ_eq_append_getElem (by simpa [prs] using h)]
  simp [prs]
def FillRel (w : World) (l : List Int) (a : Int) (v37 v10 : Value) (wr : World) : Prop :=
  ∃ (i : Nat) (v : Value), i ≤ l.length ∧ v37 = .int .i64 i ∧ v10 = .int .i64 (a - ((floors l a l.sum).take i).sum) ∧ IntBlk wr w.heap.size ((floors l a l.sum).take i ++ List.replicate (l.length - i) 0) ∧
    wr.heap[w.heap.size + 2]? = some (.cells #[v] 162 (0, 0)) ∧ wr.ownsRow w.heap.size 165 2 v i (rcells ((prs (lefts l a l.sum)).take i)) ∧ Below w.heap.size w wr
theorem fill_start (w : World) (l : List Int) (a : Int) (q : Nat) : FillRel w l a (.int .i64 0) (.int .i64 a)
    ((((w.drewN q).alloc (.cells (madeCells #[.int .i64 0] l.length) 3)).alloc (.cells #[] 165)).alloc (.cells #[.slice (some ⟨w.heap.size + 1, 0, none⟩) 0 0] 162)) := by
  refine ⟨0, .slice (some ⟨w.heap.size + 1, 0, none⟩) 0 0, Nat.zero_le _, rfl, by simp, ?_, ?_, ?_, ?_⟩
  · have h := IntBlk.made (W := w.drewN q) (n := l.length)
    rw [World.heap_drewN] at h
    simp only [List.take_zero, List.nil_append, Nat.sub_zero]
    exact (h.kept (S := fun _ => False) ((Kept.refl _ _).alloc _) (fun h => h)).kept (S := fun _ => False) ((Kept.refl _ _).alloc _) (fun h => h)
  · have h := heap_alloc_new (((w.drewN q).alloc (.cells (madeCells #[.int .i64 0] l.length) 3)).alloc (.cells #[] 165)) (.cells #[.slice (some ⟨w.heap.size + 1, 0, none⟩) 0 0] 162)
    simp only [World.size_alloc, World.heap_drewN] at h
    exact h
  · have h0 := World.ownsRow_lit (base := w.heap.size) (e := 165) (size := 2) ((w.drewN q).alloc (.cells (madeCells #[.int .i64 0] l.length) 3)) #[] 0 (by simp) (by simp [maxLen]) rfl
    simp only [World.size_alloc, World.heap_drewN] at h0
    exact own_keep h0 (S := fun _ => False) ((Kept.refl _ _).alloc _) (fun _ _ h => h)
  · exact Below.alloc (Below.alloc (Below.alloc (pw_below_drewN (Below.refl _ w) q) (by simp) _) (by simp) _) (by simp; omega) _
theorem fill_keep (w wr : World) (i q : Nat) (x : Int) (o : Obj) : Kept wr (((wr.drewN q).setCell ⟨w.heap.size, i, none⟩ (.int .i64 x)).alloc o) (fun k => k = w.heap.size) := by
  refine Kept.alloc (Kept.setCell (Kept.drewN (Kept.refl _ _) q) ?_ _) _
  exact Or.inl rfl
theorem fill_own (w wr : World) (i q : Nat) (x : Int) (o : Obj) {v : Value} {n : Nat} {xs : List Value} {ys : List Int} (h : wr.ownsRow w.heap.size 165 2 v n xs) (hS : IntBlk wr w.heap.size ys) :
    (((wr.drewN q).setCell ⟨w.heap.size, i, none⟩ (.int .i64 x)).alloc o).ownsRow w.heap.size 165 2 v n xs :=
  own_keep h (fill_keep w wr i q x o) (fun g hg e => own_ne_blk h hS (by decide) (e ▸ hg))
theorem fill_new (wr : World) (q : Nat) (p : Addr) (x : Value) (o : Obj) : (((wr.drewN q).setCell p x).alloc o).heap[wr.heap.size]? = some o := by
  have h := heap_alloc_new ((wr.drewN q).setCell p x) o
  have e : ((wr.drewN q).setCell p x).heap.size = wr.heap.size := by simp [World.setCell]
  rw [e] at h
  exact h
theorem fill_app (w wr w2 : World) (i q : Nat) (v : Value) (x : Int) (o : Obj) (hg : wr.heap[w.heap.size + 2]? = some (.cells #[v] 162 (0, 0))) (hv : v.ownBlock ≠ some (w.heap.size + 2))
    (h : (((wr.drewN q).setCell ⟨w.heap.size, i, none⟩ (.int .i64 x)).alloc o).grownBy w2 v.ownBlock) :
    w2.heap[w.heap.size + 2]? = some (.cells #[v] 162 (0, 0)) ∧ w2.cell? ⟨w.heap.size + 1 + 1, 0, none⟩ = some v ∧ w2.frozen? ⟨w.heap.size + 1 + 1, 0, none⟩ = false := by
  have hK := fill_keep w wr i q x o
  have h1 := (hK.2 _ (blk_lt hg) (by omega)).trans hg
  have h2 := (h.block _ (blk_lt h1) (Ne.symm hv)).trans h1
  exact ⟨h2, blk_c h2 0 _ rfl, blk_f h2 0⟩
theorem fill_next (w wr w2 : World) (i q gg cap : Nat) (v : Value) (x : Int) (o : Obj) (xs ys : List Value) (zs zs' : List Int) (hg : wr.heap[w.heap.size + 2]? = some (.cells #[v] 162 (0, 0))) (hv : v.ownBlock ≠ some (w.heap.size + 2))
    (hown : wr.ownsRow w.heap.size 165 2 v i xs) (hS : IntBlk wr w.heap.size zs) (hz : zs.set i x = zs') (hB : Below w.heap.size w wr)
    (h : (((wr.drewN q).setCell ⟨w.heap.size, i, none⟩ (.int .i64 x)).alloc o).grownBy w2 v.ownBlock) (hown1 : w2.ownsRow w.heap.size 165 2 (.slice (some ⟨gg, 0, none⟩) (i + 1) cap) (i + 1) ys)
    (k0 : w2.heap[w.heap.size + 2]? = some (.cells #[v] 162 (0, 0))) :
    IntBlk (w2.setCell ⟨w.heap.size + 1 + 1, 0, none⟩ (.slice (some ⟨gg, 0, none⟩) (i + 1) cap)) w.heap.size zs' ∧
      (w2.setCell ⟨w.heap.size + 1 + 1, 0, none⟩ (.slice (some ⟨gg, 0, none⟩) (i + 1) cap)).heap[w.heap.size + 2]? = some (.cells #[.slice (some ⟨gg, 0, none⟩) (i + 1) cap] 162 (0, 0)) ∧
      (w2.setCell ⟨w.heap.size + 1 + 1, 0, none⟩ (.slice (some ⟨gg, 0, none⟩) (i + 1) cap)).ownsRow w.heap.size 165 2 (.slice (some ⟨gg, 0, none⟩) (i + 1) cap) (i + 1) ys ∧
      Below w.heap.size w (w2.setCell ⟨w.heap.size + 1 + 1, 0, none⟩ (.slice (some ⟨gg, 0, none⟩) (i + 1) cap)) := by
  have hvS := own_ne_blk hown hS (by decide)
  have hgg := own_ne_blk hown1 k0 (by decide)
  have hS1 : IntBlk ((wr.drewN q).setCell ⟨w.heap.size, i, none⟩ (.int .i64 x)) w.heap.size zs' := IntBlk.put (W := wr.drewN q) hS i x hz
  have hS2 := hS1.kept (S := fun _ => False) ((Kept.refl _ _).alloc o) (fun h => h)
  have hS3 : IntBlk w2 w.heap.size zs' := (h.block _ (blk_lt hS2) (Ne.symm hvS)).trans hS2
  refine ⟨blk_far hS3 (by simp; omega) _, blk_put k0 0 _ rfl, hown1.kept (grown_set w2 (w.heap.size + 2) 0 _) (.inr hgg), ?_⟩
  have hB1 : Below w.heap.size w (((wr.drewN q).setCell ⟨w.heap.size, i, none⟩ (.int .i64 x)).alloc o) := ((pw_below_drewN hB q).setCell (Nat.le_refl _) _).alloc (by have := hB.size; simp; omega) _
  exact (pw_below_grown hB1 v.ownBlock (by have := hB.size; simp; omega) h (fun k hk => own_base hown k hk)).setCell (by simp; omega) _
theorem floors_take (l : List Int) (a s : Int) (i : Nat) (h : i < l.length) : (floors l a s).take (i + 1) = (floors l a s).take i ++ [a * l[i] / s] := by
  rw [List.take_succ_eq_append_getElem (by simpa [floors] using h)]; simp [floors]
theorem fill_set (f : List Int) (i n : Nat) (x : Int) (h : i < n) (hl : f.length = n) : (f.take i ++ List.replicate (n - i) 0).set i x = f.take i ++ [x] ++ List.replicate (n - (i + 1)) 0 := by
  have hi : (f.take i).length = i := by rw [List.length_take]; omega
  rw [List.set_append, if_neg (by omega), hi, Nat.sub_self, show n - i = (n - (i + 1)) + 1 by omega, List.replicate_succ]
  simp
theorem floors_bound (l : List Int) (a s : Int) (hs : 0 < s) (ha : -10000000 ≤ a ∧ a ≤ 10000000) (hx : ∀ x ∈ l, 0 ≤ x ∧ x ≤ s) (i : Nat) : -10000000 * (i : Int) ≤ ((floors l a s).take i).sum ∧ ((floors l a s).take i).sum ≤ 10000000 * i := by
  induction l generalizing i with
  | nil => simp [floors]; omega
  | cons x l ih =>
    cases i with
    | zero => simp
    | succ i =>
      have h := ih (fun x h => hx x (by simp [h])) i
      have h0 := hx x (by simp)
      have d : floors (x :: l) a s = (a * x) / s :: floors l a s := rfl
      rw [d, List.take_succ_cons, List.sum_cons]
      have b1 : -10000000 * s ≤ a * x := by
        have := Int.mul_le_mul_of_nonneg_right (show -10000000 ≤ a from ha.1) h0.1
        have := Int.mul_le_mul_of_nonneg_left h0.2 (show (0 : Int) ≤ 10000000 by omega)
        omega
      have b2 : a * x ≤ 10000000 * s := by
        have := Int.mul_le_mul_of_nonneg_right (show a ≤ 10000000 from ha.2) h0.1
        have := Int.mul_le_mul_of_nonneg_left h0.2 (show (0 : Int) ≤ 10000000 by omega)
        omega
      have c1 : -10000000 ≤ a * x / s := (Int.le_ediv_iff_mul_le hs).2 b1
      have c2 : a * x / s ≤ 10000000 := Int.ediv_le_of_le_mul hs b2
      push_cast
      omega
theorem floors_one (l : List Int) (a s : Int) (hs : 0 < s) (ha : -10000000 ≤ a ∧ a ≤ 10000000) (hx : ∀ x ∈ l, 0 ≤ x ∧ x ≤ s) : ∀ y ∈ floors l a s, -10000000 ≤ y ∧ y ≤ 10000000 := by
  intro y hy
  obtain ⟨x, hxl, rfl⟩ := List.mem_map.1 hy
  have := floors_bound [x] a s hs ha (fun z hz => by rw [List.mem_singleton] at hz; subst hz; exact hx z hxl) 1
  have e : ((floors [x] a s).take 1).sum = a * x / s := by simp [floors]
  omega
theorem le_sum (l : List Int) (h : ∀ x ∈ l, 0 ≤ x) : 0 ≤ l.sum ∧ ∀ x ∈ l, x ≤ l.sum := by
  induction l with
  | nil => simp
  | cons y l ih =>
    have hy := h y (by simp)
    obtain ⟨h1, h2⟩ := ih (fun x hx => h x (by simp [hx]))
    simp only [List.sum_cons]
    refine ⟨by omega, fun x hx => ?_⟩
    rcases List.mem_cons.1 hx with rfl | hx
    · omega
    · have := h2 x hx; omega
theorem sum_le (l : List Int) (h : ∀ x ∈ l, x ≤ 10000) : l.sum ≤ 10000 * l.length := by
  induction l with
  | nil => simp
  | cons y l ih =>
    have hy := h y (by simp)
    have := ih (fun x hx => h x (by simp [hx]))
    simp only [List.sum_cons, List.length_cons]; push_cast; omega
theorem rcells_get (d : List (Int × Int)) : ∀ i : Nat, ∀ h : i < d.length, (rcells d)[i * 2]? = some (.int .i64 d[i].1) ∧ (rcells d)[i * 2 + 1]? = some (.int .i64 d[i].2) := by
  induction d with
  | nil => intro i h; simp at h
  | cons p d ih =>
    intro i h
    have e : rcells (p :: d) = .int .i64 p.1 :: .int .i64 p.2 :: rcells d := rfl
    rw [e]
    cases i with
    | zero => simp
    | succ i =>
      have := ih i (by simpa using h)
      rw [show (i + 1) * 2 = i * 2 + 1 + 1 by omega, show i * 2 + 1 + 1 + 1 = (i * 2 + 1) + 1 + 1 by omega]
      simpa using this
theorem rcells_length (d : List (Int × Int)) : (rcells d).length = d.length * 2 := by
  induction d with
  | nil => rfl
  | cons p d ih => rw [show rcells (p :: d) = .int .i64 p.1 :: .int .i64 p.2 :: rcells d from rfl]; simp [ih]; omega
theorem arr_of_own {W : World} {base n : Nat} {v : Value} {d : List (Int × Int)} (h : W.ownsRow base 165 2 v n (rcells d)) (hn : n = d.length) (h1 : 1 ≤ n) :
    ∃ ga cap, v = .slice (some ⟨ga, 0, none⟩) n cap ∧ base ≤ ga ∧ ArrAt W ga d ∧ n ≤ cap := by
  rcases h.2 with ⟨_, h0⟩ | ⟨ga, cap, cur, hv, hb, hh, hc, _, _, ht⟩
  · omega
  · refine ⟨ga, cap, hv, hb, ⟨cur, hh, fun i hi => ?_⟩, hc⟩
    obtain ⟨a1, a2⟩ := rcells_get d i hi
    rw [← ht] at a1 a2
    rw [List.getElem?_take_of_lt (by omega), Array.getElem?_toList] at a1 a2
    exact ⟨a1, a2⟩
theorem prs_con (R : List Int) (hR : ∀ j, j < R.length → 0 ≤ R.getD j 0) : Con (prs R) R.length R := by
  have g : ∀ i, i < R.length → rget (prs R) i = ((i : Int), R.getD i 0) := fun i hi => by
    rw [rget_of _ _ (by simpa [prs] using hi)]; simp [prs]
  refine ⟨fun i hi => ⟨i, hi, g i hi, hR i hi⟩, fun k hk _ => ⟨k, hk, g k hk⟩, fun i j hi hj e => ?_⟩
  rw [g i hi, g j hj] at e
  simp only at e
  omega
def PopRel (w : World) (gr ga cap n : Nat) (M : Nat) (F : List Int) (v : Value) (wr : World) : Prop :=
  ∃ (k : Nat) (d : List (Int × Int)) (S R : List Int), v = .int .i64 k ∧ k ≤ M ∧ HeapAt wr gr ga (n - k) cap d ∧ d.length = n ∧ HFrom d 0 (n - k) ∧ Con d (n - k) R ∧ R.length = n ∧ (∀ j, j < R.length → -1 ≤ R.getD j 0) ∧
    IntBlk wr w.heap.size S ∧ S.length = n ∧ (∀ x ∈ S, -20000000 ≤ x ∧ x ≤ 20000000 + k) ∧ shareGo (M - k) S R = F ∧ Below w.heap.size w wr
theorem hpop_at (gr ga n c : Nat) (d : List (Int × Int)) (W : World) (x y : Int) (h : HeapAt W gr ga (n + 1) c d) (e : rget (downP n (swapL d 0 n) 0 n) n = (x, y)) :
    Calls Try.prog 146 #[.iface 160 (.pointer (some ⟨gr, 0, none⟩))] W fun e w' => e = .returned (.iface 165 (.agg #[.int .i64 x, .int .i64 y])) ∧
      HeapAt w' gr ga n c (downP n (swapL d 0 n) 0 n) ∧ Kept W w' (fun k => k = ga ∨ k = gr) ∧ ∀ B, B ≤ ga → B ≤ gr → B ≤ W.heap.size → Below B W w' := by
  refine (hpop_any gr ga n c d W h).mono ?_
  rintro e1 w' ⟨h1, h2, _, h3, h4⟩
  rw [e] at h1
  exact ⟨h1, h2, h3, h4⟩
theorem info165 : (Try.prog.info? 165).map (fun i => (i.zero, i.size, i.bytes)) = some (some (.agg #[(.int .i64 0), (.int .i64 0)]), 2, 16) := by kernel_rfl
def SharePost (w : World) (r : List Int) (e : Ending) (w' : World) : Prop :=
  ∃ v0, e = .returned (.tuple #[v0, .bool true]) ∧ w'.ownsRow w.heap.size 3 1 v0 r.length (r.map (Value.int .i64)) ∧ Below w.heap.size w w'
theorem assert_rem (y z : Int) (W : World) : (Instr.typeAssert (.iface 165 (.agg #[.int .i64 y, .int .i64 z])) 20 165 false).run Try.prog W = .ok (.agg #[.int .i64 y, .int .i64 z]) W := by kernel_rfl
theorem ShareOf_yes (A0 : Option Addr) (c0 : Nat) (l : List Int) (a : Int) (w : World) (hr : Kd.C (Kd.int .i64) w A0 l.length l) (hc : l.length ≤ c0) (hb : shareB l a = true) :
    Calls Try.prog 81 #[.slice A0 l.length c0, .int .i64 a] w (SharePost w (shareOf l a)) := by
  have hu162 := Try.underlying162
  have hu165 := Try.underlying165
  have hu160 := Try.underlying160
  have hu62 := Try.underlying62
  unfold shareB at hb
  simp only [Bool.and_eq_true, decide_eq_true_iff] at hb
  obtain ⟨hb1, hb2, hb3, hb4⟩ := hb
  have hlen := lenB_iff.1 hb1
  obtain ⟨KL, hKL⟩ := lengthsSum_ev l
  have hL := hKL KL (Nat.le_refl _)
  rw [if_pos hb1, decide_eq_true hb2] at hL
  have HL := Aside0.mk (impl_lengthsSum.calls KL A0 c0 l _ _ w hr hc hL)
  have HW := Aside0.mk (fun w1 => impl_within.calls a 10000000 true w1 (wn_f a 10000000 (by omega) (by omega) true (by simp; omega)))
  clear hKL hL hb1
  have hmk := print_make (P := Try.prog) 62 3 .i64 8 Try.underlying62 (by kernel_rfl) (by omega) l.length (by omega)
  have hss := le_sum l (fun x hx => (hlen.2.2 x hx).1)
  have hsl := sum_le l (fun x hx => (hlen.2.2 x hx).2)
  have hfb := floors_bound l a l.sum hb2 ⟨hb3, hb4⟩ (fun x hx => ⟨(hlen.2.2 x hx).1, hss.2 x hx⟩)
  obtain ⟨i0, hi0, hz0, hz1, hz2⟩ := info_parts info165
  have hta := assert_rem
  go_enter Try.func81, Try.ntmps81
  go_wp2_with (first
    | (go_at_call 132; refine HL.out.mono ?_; rintro e w1 ⟨rfl, m, rfl⟩)
    | (go_at_call 133; refine (HW.out _).mono ?_; rintro e w2 ⟨rfl, m2, rfl⟩))
  go_loopw [37, 10] (fun v37 v10 wr => FillRel w l a v37 v10 wr) (fun v37 _ _ => l.length - (intOf v37).toNat)
  case atStart => exact fill_start w l a _
  case round =>
    obtain ⟨i, v, hi, rfl, rfl, hS, hgr, hown, hB⟩ := hrel
    by_cases hlt : i < l.length
    · obtain ⟨ad, rfl, hcell0⟩ := Kd.at_int hr i (by omega) (by omega)
      have hcell : wr.cell? (ad.add i) = some (.int .i64 l[i]) := by
        have := (hB.cell (World.block_lt_of_cell? w _ hcell0)).trans hcell0
        rw [rd_get hlt] at this
        simpa using this
      clear hcell0
      have hx := hlen.2.2 l[i] (List.getElem_mem hlt)
      have hsx := hss.2 l[i] (List.getElem_mem hlt)
      obtain ⟨p, hp⟩ : ∃ p, a * l[i] = p := ⟨_, rfl⟩
      have hfl := hfb i
      have hfl1 := hfb (i + 1)
      have t1 := floors_take l a l.sum i hlt
      rw [hp] at t1
      rw [t1, List.sum_append, List.sum_singleton] at hfl1
      have hpb : -100000000000 ≤ p ∧ p ≤ 100000000000 := by
        rw [← hp]
        have q1 := Int.mul_le_mul_of_nonneg_right hb3 hx.1
        have q2 := Int.mul_le_mul_of_nonneg_right hb4 hx.1
        omega
      have t2 := prs_take (lefts l a l.sum) i (by simpa [lefts] using hlt)
      have t3 : (lefts l a l.sum).getD i 0 = p % l.sum := by
        rw [List.getD_eq_getElem?_getD, List.getElem?_eq_getElem (by simpa [lefts] using hlt)]
        simp [lefts, hp]
      have t4 := fill_set (floors l a l.sum) i l.length (p / l.sum) hlt (by simp [floors])
      rw [t3] at t2
      have hpm0 := Int.emod_nonneg p (show l.sum ≠ 0 by omega)
      generalize l[i] = x at *
      have cgr : wr.cell? ⟨w.heap.size + 1 + 1, 0, none⟩ = some v := blk_c hgr 0 _ rfl
      have fgr : wr.frozen? ⟨w.heap.size + 1 + 1, 0, none⟩ = false := blk_f hgr 0
      obtain ⟨cS, fS⟩ := hS.cell i (by simp [floors]; omega)
      have hvS := own_ne_blk hown hS (by decide)
      have hvg := own_ne_blk hown hgr (by decide)
      have lgr := blk_lt hgr
      have HS := Aside0.mk hS
      have HG := Aside0.mk hgr
      have HO := Aside0.mk hown
      have HB := Aside0.mk hB
      clear hS hgr hown hB
      have hsz := HB.out.size
      have AP := Aside0.mk (fun (q : Nat) (w2 : World) (hg : ((((wr.drewN q).setCell ⟨w.heap.size, i, none⟩ (.int .i64 (p / l.sum))).alloc (.cells #[.int .i64 i, .int .i64 (p % l.sum)] 165))).grownBy w2 v.ownBlock) => fill_app w wr w2 i q v _ _ HG.out hvg hg)
      go_wp2_with (first
        | (go_at_call 144; (with_reducible refine (floor_any p l.sum _ hb2 (by omega) (by omega) (by omega)).mono ?_); rintro e w1 ⟨rfl, q, rfl⟩)
        | (at_builtin; refine wpList_append_lies _ rfl _ _ 162 rfl w.heap.size 165 i0 _ 2 16 Try.underlying162 hi0 hz0 hz1 hz2 rfl (by omega) v i (rcells ((prs (lefts l a l.sum)).take i)) rfl (fill_own w wr i _ _ _ HO.out HS.out) ⟨wr.heap.size, 0, none⟩ 1 1 [.int .i64 i, .int .i64 (p % l.sum)] rfl (by rfl) (World.news_of_block (cs := #[.int .i64 i, .int .i64 (p % l.sum)]) (t := 165) (fr := (0, 0)) (fill_new wr _ _ _ _)) (by simp [Value.oneCell']) (by omega) (by simp only [maxLen]; omega) (by omega) (by simp; omega) (wr.heap.size + 1) (by simp) ?_; intro gg cap w2 hown1 hgrow hat hlt1; obtain ⟨k0, k1, k2⟩ := AP.out _ _ hgrow))
      obtain ⟨n1, n2, n3, n4⟩ := fill_next w wr w2 i q gg cap v (p / l.sum) _ _ _ _ _ HG.out hvg HO.out HS.out t4 HB.out hgrow hown1 k0
      refine ⟨⟨i + 1, _, by omega, by go_num, ?_, ?_, n2, ?_, n4⟩, by simp [intOf]; omega⟩
      · rw [t1, List.sum_append, List.sum_singleton]; congr 1; omega
      · rw [t1]; exact n1
      · rw [t2, rcells_snoc]; exact n3
    · have hin : i = l.length := by omega
      subst hin
      have hfl : (floors l a l.sum).length = l.length := by simp [floors]
      have hll : (lefts l a l.sum).length = l.length := by simp [lefts]
      have hpl : (prs (lefts l a l.sum)).length = l.length := by simp [prs, hll]
      rw [List.take_of_length_le (by omega), Nat.sub_self, List.replicate_zero, List.append_nil] at hS
      rw [List.take_of_length_le (by omega)] at hown
      obtain ⟨ga, cap, rfl, hga, hA, hcap⟩ := arr_of_own hown (by omega) hlen.1
      have hm := missing_lt l a hb2 hlen.1
      rw [List.take_of_length_le (by omega)] at *
      have HH : HeapAt wr (w.heap.size + 2) ga l.length cap (prs (lefts l a l.sum)) := ⟨hgr, hA, by omega, by omega, hcap⟩
      have hR : ∀ j, j < (lefts l a l.sum).length → 0 ≤ (lefts l a l.sum).getD j 0 := fun j hj => by
        rw [List.getD_eq_getElem?_getD, List.getElem?_eq_getElem hj]
        simp only [lefts, List.getElem_map]
        exact Int.emod_nonneg _ (by omega)
      have hcon := prs_con _ hR
      rw [hll] at hcon
      have H1 := Aside0.mk HH
      have HS := Aside0.mk hS
      have HB := Aside0.mk hB
      have HC := Aside0.mk hcon
      have hge : l.length ≤ l.length := Nat.le_refl _
      clear hS hgr hown hB hA HH hcon hlt
      go_wp2_with (go_at_call 145; (with_reducible refine (init_any (w.heap.size + 1 + 1) ga l.length cap (prs (lefts l a l.sum)) _ H1.out).mono ?_); rintro e w2 ⟨rfl, h2, hl2, hk2, hb2'⟩)
      have hst : PopRel w (w.heap.size + 1 + 1) ga cap l.length (a - (floors l a l.sum).sum).toNat (shareOf l a) (.int .i64 0) w2 := by
        have hgS := HS.out
        obtain ⟨cur, hcur, _⟩ := H1.out.2.1
        refine ⟨0, _, _, _, rfl, Nat.zero_le _, h2, by rw [hl2]; exact hpl, ?_, HC.out.init _ (by omega) (by omega), hll, fun j hj => by have := hR j hj; omega, hgS.kept hk2 (blk_ne hgS hcur (by decide)), hfl, ?_, rfl, HB.out.trans (hb2' _ hga)⟩
        · exact init_heap _ _ _ (by omega) (half_heap _ _)
        · intro x hx
          obtain ⟨j, hj, rfl⟩ := List.getElem_of_mem hx
          have := floors_one l a l.sum hb2 ⟨hb3, hb4⟩ (fun x hx => ⟨(hlen.2.2 x hx).1, hss.2 x hx⟩) _ hx
          omega
      have HP := Aside0.mk hst
      clear h2 hl2 hk2 hb2' hst
      have hMn : ((a - (floors l a l.sum).sum).toNat : Int) = a - (floors l a l.sum).sum := by omega
      have hMl : (a - (floors l a l.sum).sum).toNat < l.length := by omega
      generalize (a - (floors l a l.sum).sum).toNat = M at *
      rw [← hMn]
      clear hMn hm
      go_loopw [72] (fun v wr => PopRel w (w.heap.size + 1 + 1) ga cap l.length M (shareOf l a) v wr) (fun v _ => M - (intOf v).toNat)
      case atStart => exact HP.out
      case round =>
        obtain ⟨k, d, S, R, rfl, hk, hH, hdl, hF, hC, hRl, hRb, hSb, hSl, hSx, hgo, hBw⟩ := hrel
        by_cases hkM : k < M
        · obtain ⟨m, hm'⟩ : ∃ m, l.length - k = m + 1 := ⟨l.length - k - 1, by omega⟩
          rw [hm'] at hH hF hC
          obtain ⟨b, hbest, hb0, er, hF2, hC2⟩ := pop_step (by rw [hdl]; omega) hF hC hRb
          have hbS : b < S.length := by have := hbest.1; omega
          have hbo : b = bestOf R := hbest.uniq (bestOf_best R (fun e => by rw [e] at hRl; simp at hRl; omega))
          obtain ⟨M', hM'⟩ : ∃ M', M - k = M' + 1 := ⟨M - k - 1, by omega⟩
          have hgo' : shareGo (M - (k + 1)) (S.set b (S.getD b 0 + 1)) (R.set b (-1)) = shareOf l a := by
            rw [← hgo, hM', show M - (k + 1) = M' by omega]
            simp only [shareGo]
            rw [hbo]
          have hSv : -20000000 ≤ S.getD b 0 ∧ S.getD b 0 ≤ 20000000 + k := by
            rw [List.getD_eq_getElem?_getD, List.getElem?_eq_getElem hbS]
            exact hSx _ (List.getElem_mem hbS)
          obtain ⟨cur, hcur, _⟩ := hH.2.1
          have hSa := blk_ne hSb hcur (by decide)
          have HH := Aside0.mk hH
          have HSb := Aside0.mk hSb
          have HBw := Aside0.mk hBw
          have HF2 := Aside0.mk hF2
          have HC2 := Aside0.mk hC2
          have HSx := Aside0.mk hSx
          have HRb := Aside0.mk hRb
          have lt0 := blk_lt hSb
          obtain ⟨y, hy⟩ : ∃ y, S.getD b 0 = y := ⟨_, rfl⟩
          rw [hy] at hSv hgo'
          have hbl : b < l.length := by omega
          have HG := Aside0.mk hgo'
          clear hH hSb hBw hF hC hF2 hC2 hgo hgo' hSx hRb hcur hbo hM'
          go_wp2_with (go_at_call 146; (with_reducible refine (hpop_at (w.heap.size + 1 + 1) ga m cap d _ _ _ HH.out er).mono ?_); rintro e w3 ⟨rfl, h3, hk3, hb3'⟩; have hS3 := HSb.out.kept hk3 (by rintro (e | e) <;> omega); obtain ⟨cS, fS⟩ := hS3.cell b hbS; rw [hy] at cS; have lt3 := blk_lt hS3; have H3 := Aside0.mk h3; have HS3 := Aside0.mk hS3; clear h3 hS3)
          have hmk' : l.length - (k + 1) = m := by omega
          have hSK : IntBlk (w3.setCell ⟨w.heap.size, b, none⟩ (.int .i64 (y + 1))) w.heap.size (S.set b (y + 1)) := HS3.out.put b _ rfl
          have hKp : Kept w3 (w3.setCell ⟨w.heap.size, b, none⟩ (.int .i64 (y + 1))) (fun k => k = w.heap.size) := by
            refine Kept.setCell (Kept.refl _ _) ?_ _
            exact Or.inl rfl
          have hH4 := (H3.out.kept hKp (by omega) hSa.symm)
          have hbR : b < R.length := hbest.1
          refine ⟨⟨k + 1, downP m (swapL d 0 m) 0 m, S.set b (y + 1), R.set b (-1), by go_num, by omega, ?_, by rw [downP_length, swapL_length]; exact hdl, ?_, ?_, by simpa using hRl, ?_, ?_, by simpa using hSl, ?_, HG.out, ?_⟩, by simp [intOf]; omega⟩
          · rw [hmk']; exact hH4.kept (S := fun _ => False) ((Kept.refl _ _).alloc _) (fun h => h) (fun h => h)
          · rw [hmk']; exact HF2.out
          · rw [hmk']; exact HC2.out
          · intro j hj
            rw [getD_set _ _ _ _ hbR]
            split
            · omega
            · exact HRb.out j (by simpa using hj)
          · exact hSK.kept (S := fun _ => False) ((Kept.refl _ _).alloc _) (fun h => h)
          · intro x hx
            rcases List.mem_or_eq_of_mem_set hx with hx | rfl
            · have := HSx.out x hx; push_cast; omega
            · push_cast; omega
          · have b1 := hb3' _ hga (by omega) (by have := HBw.out.size; omega)
            have b2 := HBw.out.trans b1
            exact (b2.setCell (Nat.le_refl _) _).alloc (by have := b2.size; simp [World.setCell]; omega) _
        · have hkM' : k = M := by omega
          subst hkM'
          rw [Nat.sub_self] at hgo
          have hgo' : S = shareOf l a := hgo
          have HSb := Aside0.mk hSb
          have HBw := Aside0.mk hBw
          have hge2 : k ≤ k := Nat.le_refl _
          clear hH hSb hBw hF hC hgo
          go_wp2
          go_ret2
          subst hgo'
          refine ⟨_, rfl, ?_, HBw.out⟩
          have := HSb.out.own (Nat.le_refl _) (by omega)
          rw [hSl] at this ⊢
          exact this
theorem ShareOf_no (A0 : Option Addr) (c0 : Nat) (l : List Int) (a : Int) (w : World) (s : Int) (ok inR : Bool) (h : (ok && inR) = false)
    (hL : Calls Try.prog 132 #[.slice A0 l.length c0] w fun e w' => e = .returned (.tuple #[.int .i64 s, .bool ok]) ∧ Drawn0 w w')
    (hW : ∀ w1, Calls Try.prog 133 #[.int .i64 a, .int .i64 10000000] w1 fun e w' => e = .returned (.bool inR) ∧ Drawn0 w1 w') :
    Calls Try.prog 81 #[.slice A0 l.length c0, .int .i64 a] w fun e w' => ∃ v0 : Value, e = .returned (.tuple #[v0, .bool false]) ∧ w'.ownsRow w.heap.size 3 1 v0 0 [] ∧ Below w.heap.size w w' := by
  have HL := Aside0.mk hL
  have HW := Aside0.mk hW
  clear hL hW
  cases ok with
  | false =>
    go_enter Try.func81, Try.ntmps81
    go_wp2_with (go_at_call 132; refine HL.out.mono ?_; rintro e w1 ⟨rfl, m, rfl⟩)
    go_ret2
    refine ⟨_, rfl, World.ownsRow_lit (base := w.heap.size) (e := 3) (size := 1) (w.drewN m) #[] 0 (by simp) (by simp [maxLen]) rfl, (pw_below_drewN (Below.refl _ _) m).alloc (by simp) _⟩
  | true =>
    have h1 : inR = false := h
    subst h1
    go_enter Try.func81, Try.ntmps81
    go_wp2_with (first
      | (go_at_call 132; refine HL.out.mono ?_; rintro e w1 ⟨rfl, m, rfl⟩)
      | (go_at_call 133; refine (HW.out _).mono ?_; rintro e w2 ⟨rfl, m2, rfl⟩))
    go_ret2
    refine ⟨_, rfl, World.ownsRow_lit (base := w.heap.size) (e := 3) (size := 1) (w.drewN (m + m2)) #[] 0 (by simp) (by simp [maxLen]) rfl, (pw_below_drewN (Below.refl _ _) (m + m2)).alloc (by simp) _⟩
theorem reps_i (w : World) (base : Nat) (ok : Nat → Prop) (l : List Int) : Reps ((Kd.int .i64).M w base ok) 1 l (l.map (Value.int .i64)) := by
  induction l with
  | nil => exact Reps.none _ _
  | cons p l ih => exact Reps.front (show ((Kd.int .i64).M w base ok) p [.int .i64 p] from rfl) rfl ih rfl
theorem R_of_i {w : World} {base n : Nat} {v : Value} {l : List Int} (h : w.ownsRow base 3 1 v n (l.map (Value.int .i64))) : Kd.R (Kd.int .i64) 3 w base (fun _ => True) v l := by
  have hn : n = l.length := by have := h.1; simpa using this.symm
  subst hn
  exact ⟨fun _ _ => trivial, l.map (Value.int .i64), h, reps_i _ _ _ _⟩
def impl_ShareOf.f (l : List Int) (a : Int) : Option (List Int × Bool) := some (if shareB l a = true then (shareOf l a, true) else ([], false))
theorem impl_ShareOf.calls (A0 : Option Addr) (c0 : Nat) (l0 : List Int) (a1 : Int) (r1 : List Int) (r2 : Bool) (w : World) (hr0 : Kd.C (Kd.int .i64) w A0 l0.length l0) (hc0 : l0.length ≤ c0) (h : impl_ShareOf.f l0 a1 = some (r1, r2)) :
    Calls Try.prog 81 #[.slice A0 l0.length c0, .int .i64 a1] w fun e w' => ∃ v0_ : Value, e = .returned (.tuple #[v0_, .bool r2]) ∧ Kd.R (Kd.int .i64) 3 w' w.heap.size (fun _ => True) v0_ r1 ∧ Below w.heap.size w w' := by
  unfold impl_ShareOf.f at h
  have h := Option.some.inj h
  cases hb : shareB l0 a1 with
  | true =>
    rw [hb, if_pos rfl] at h
    injection h with e1 e2
    subst e1 e2
    refine (ShareOf_yes A0 c0 l0 a1 w hr0 hc0 hb).mono ?_
    rintro e w' ⟨v0, rfl, ho, hB⟩
    exact ⟨v0, rfl, R_of_i ho, hB⟩
  | false =>
    rw [hb, if_neg (by simp)] at h
    injection h with e1 e2
    subst e1 e2
    obtain ⟨KL, hKL⟩ := lengthsSum_ev l0
    have hL := hKL KL (Nat.le_refl _)
    have hW : ∀ w1, Calls Try.prog 133 #[.int .i64 a1, .int .i64 10000000] w1 fun e w' => e = .returned (.bool (decide (-10000000 ≤ a1 ∧ a1 ≤ 10000000))) ∧ Drawn0 w1 w' := fun w1 =>
      impl_within.calls a1 10000000 _ w1 (wn_f a1 10000000 (by omega) (by omega) _ rfl)
    have hv : ∃ s ok, impl_lengthsSum.f KL l0 = some (s, ok) ∧ (ok && decide (-10000000 ≤ a1 ∧ a1 ≤ 10000000)) = false := by
      unfold shareB at hb
      cases hl : lenB l0 with
      | true => rw [hl, if_pos rfl] at hL; rw [hl] at hb; exact ⟨_, _, hL, by simpa using hb⟩
      | false => rw [hl, if_neg (by simp)] at hL; exact ⟨_, _, hL, rfl⟩
    obtain ⟨s, ok, hs, ho⟩ := hv
    refine (ShareOf_no A0 c0 l0 a1 w s ok _ ho (impl_lengthsSum.calls KL A0 c0 l0 _ _ w hr0 hc0 hs) hW).mono ?_
    rintro e w' ⟨v0, rfl, ho, hB⟩
    exact ⟨v0, rfl, R_of_i (l := []) ho, hB⟩
end Go.Proofs.Ytffkojdmidhchaa.P
end
section
-- written by wip/tools/mkprint.py (a program of this session over the kit's print). Lean checks it.
namespace Go.Proofs.Ytffkojdmidhchaa.P
open Go.RowKit Go.Proofs.YtffkojdmidhchaaW.PrintWords Go.Proofs.YtffkojdmidhchaaW.PrintLast Go.Proofs.YtffkojdmidhchaaW.PrintMore
attribute [local go_sem] max2_int min2_int max_two min_two max_three min_three max_four min_four   -- for this text's walks alone
set_option linter.unusedVariables false
set_option linter.unusedSimpArgs false

/-! ### impl_PointValid: function 87 -/
def impl_PointValid.f (a0_0 : Int) (a0_1 : Int) : Option (Bool) := (impl_pairOf.f a0_0 a0_1).bind fun bt962 => ((impl_pair_inRange.f bt962.1 bt962.2 10000).bind fun t964 => (some t964))
set_option maxHeartbeats 8000000 in
set_option maxRecDepth 100000 in
theorem impl_PointValid.calls (a0_0 : Int) (a0_1 : Int) (r : Bool) (w : World) (h : impl_PointValid.f a0_0 a0_1 = some r) :
    Calls Try.prog 87 #[.agg #[.int .i64 a0_0, .int .i64 a0_1]] w fun e w' => e = .returned (.bool r) ∧ Below w.heap.size w w' := by
  have hu30 := Try.underlying30
  have HB := Aside0.mk (Below.refl w.heap.size w)
  have H : ((impl_pairOf.f a0_0 a0_1).bind fun bt962 => ((impl_pair_inRange.f bt962.1 bt962.2 10000).bind fun t964 => (some t964))) = some r := h
  clear h
  replace H := Option.bind_eq_some_iff.mp H
  obtain ⟨⟨t962, t963⟩, A20, H⟩ := H
  replace H : ((impl_pair_inRange.f t962 t963 10000).bind fun t964 => (some t964)) = some r := H
  have A2 := Aside0.mk A20
  clear A20
  replace H := Option.bind_eq_some_iff.mp H
  obtain ⟨t964, A30, H⟩ := H
  replace H : (some t964) = some r := H
  have A3 := Aside0.mk A30
  clear A30
  obtain rfl := Option.some.inj H
  go_enter Try.func87, Try.ntmps87
  go_wp2_with (first | ((with_reducible refine gate_dst (N := 1) rfl ?_); refine box_event ?hg (N := 1) ?hd (cs := #[.int .i64 a0_0, .int .i64 a0_1]) (t := 30) ?hr ?_; (case hd => rfl); (case hg => rfl); (case hr => first | (go_simp; done) | (go_simp; rfl)); intro gb961 hg w4 hbox hb; have n0_ := Aside0.mk (below_step (by repeat (first | (with_reducible first | exact HB.out | apply below_alloc | apply pw_below_drewN | apply below_drew1) | exact HB.out)) hb); have n1_ := Aside0.mk (hbox); have n2_ := Aside0.mk ((by rw [hg]; exact (below_size (by repeat (first | (with_reducible first | exact HB.out | apply below_alloc | apply pw_below_drewN | apply below_drew1) | exact HB.out))) : w.heap.size ≤ gb961)); have n3_ := Aside0.mk ((by rw [hg]; exact (below_size (by repeat (first | (with_reducible first | exact HB.out | apply below_alloc | apply pw_below_drewN | apply below_drew1) | exact HB.out))) : w.heap.size ≤ gb961)); clear HB; have HB := n0_; have BK961 := n1_; have GW961 := n2_; have GE961 := n3_; clear n0_ n1_ n2_ n3_; clear hb hbox hg; have hcz5_0 : w4.cell? ⟨gb961, 0, none⟩ = some (.int .i64 a0_0) := (blk_cell BK961.out 0).trans rfl; have hcz5_1 : w4.cell? ⟨gb961, 1, none⟩ = some (.int .i64 a0_1) := (blk_cell BK961.out 1).trans rfl; have hfz5_0 := blk_frozen BK961.out 0; have hfz5_1 := blk_frozen BK961.out 1) | ((with_reducible refine gate_callee (f := 95) rfl ?_); refine goesL_ (some 4) rfl rfl Try.func95 (by kernel_rfl) rfl #[.agg #[.int .i64 a0_0, .int .i64 a0_1]] rfl (by (try simp only [List.map_toArray, List.map_cons, List.map_nil]); first | done | rfl | (simp only [List.length_drop, List.length_take]; rfl)) ?_; (with_reducible refine (impl_pairOf.calls a0_0 a0_1 t962 t963 _ A2.out).mono ?_); rintro e w6 ⟨rfl, hb⟩; refine ⟨_, rfl, ?_⟩; have n0_ := Aside0.mk (blk_below (g := gb961) (o := .cells #[.int .i64 a0_0, .int .i64 a0_1] 30 (0, 0)) (by (with_reducible repeat (first | refine blk_drewN ?_ _ | refine blk_drew ?_ | refine blk_alloc ?_ _)); exact BK961.out) hb); have n1_ := Aside0.mk (below_step (by repeat (first | (with_reducible first | exact HB.out | apply below_alloc | apply pw_below_drewN | apply below_drew1 | refine below_set ?_ GE961.out) | exact HB.out)) hb); clear BK961; clear HB; have BK961 := n0_; have HB := n1_; clear n0_ n1_; (try clear hb); (try clear hb2); (try clear hk); (try clear hi)) | ((with_reducible refine gate_callee (f := 154) rfl ?_); refine goesL_ (some 5) rfl rfl Try.func154 (by kernel_rfl) rfl #[.agg #[.int .i64 t962, .int .i64 t963], .int .i64 10000] rfl (by (try simp only [List.map_toArray, List.map_cons, List.map_nil]); first | done | rfl | (simp only [List.length_drop, List.length_take]; rfl)) ?_; (with_reducible refine (impl_pair_inRange.calls t962 t963 10000 t964 _ A3.out).mono ?_); rintro e w7 ⟨rfl, hb⟩; refine ⟨_, rfl, ?_⟩; have n0_ := Aside0.mk (blk_below (g := gb961) (o := .cells #[.int .i64 a0_0, .int .i64 a0_1] 30 (0, 0)) (by (with_reducible repeat (first | refine blk_drewN ?_ _ | refine blk_drew ?_ | refine blk_alloc ?_ _)); exact BK961.out) hb); have n1_ := Aside0.mk (below_step (by repeat (first | (with_reducible first | exact HB.out | apply below_alloc | apply pw_below_drewN | apply below_drew1 | refine below_set ?_ GE961.out) | exact HB.out)) hb); clear BK961; clear HB; have BK961 := n0_; have HB := n1_; clear n0_ n1_; (try clear hb); (try clear hb2); (try clear hk); (try clear hi)))
  go_ret
  exact ⟨by first | rfl | (simp [errW_none, errW_some] <;> rfl) | (simp [*, errW_none, errW_some] <;> rfl), by repeat (first | (with_reducible first | exact HB.out | apply below_alloc | apply pw_below_drewN | apply below_drew1 | refine below_set ?_ GE961.out) | exact HB.out)⟩

end Go.Proofs.Ytffkojdmidhchaa.P
end
section
-- written by wip/tools/mkprint.py (a program of this session over the kit's print). Lean checks it.
namespace Go.Proofs.Ytffkojdmidhchaa.P
open Go.RowKit Go.Proofs.YtffkojdmidhchaaW.PrintWords Go.Proofs.YtffkojdmidhchaaW.PrintLast Go.Proofs.YtffkojdmidhchaaW.PrintMore
attribute [local go_sem] max2_int min2_int max_two min_two max_three min_three max_four min_four   -- for this text's walks alone
set_option linter.unusedVariables false
set_option linter.unusedSimpArgs false

/-! ### impl_pair_point: function 131 -/
def impl_pair_point.f (a0_0 : Int) (a0_1 : Int) : Option (Int × Int) := some (a0_0, a0_1)
set_option maxHeartbeats 8000000 in
set_option maxRecDepth 100000 in
theorem impl_pair_point.calls (a0_0 : Int) (a0_1 : Int) (r1 : Int) (r2 : Int) (w : World) (h : impl_pair_point.f a0_0 a0_1 = some (r1, r2)) :
    Calls Try.prog 131 #[.agg #[.int .i64 a0_0, .int .i64 a0_1]] w fun e w' => e = .returned (.agg #[.int .i64 r1, .int .i64 r2]) ∧ Below w.heap.size w w' := by
  have hu111 := Try.underlying111
  have hu30 := Try.underlying30
  have HB := Aside0.mk (Below.refl w.heap.size w)
  have H : (some (a0_0, a0_1)) = some (r1, r2) := h
  clear h
  simp only [Option.some.injEq, Prod.mk.injEq] at H
  obtain ⟨rfl, rfl⟩ := H
  go_enter Try.func131, Try.ntmps131
  go_wp2_with (first | ((with_reducible refine gate_dst (N := 1) rfl ?_); refine box_event ?hg (N := 1) ?hd (cs := #[.int .i64 a0_0, .int .i64 a0_1]) (t := 111) ?hr ?_; (case hd => rfl); (case hg => rfl); (case hr => first | (go_simp; done) | (go_simp; rfl)); intro gb1313 hg w2 hbox hb; have n0_ := Aside0.mk (below_step (by repeat (first | (with_reducible first | exact HB.out | apply below_alloc | apply pw_below_drewN | apply below_drew1) | exact HB.out)) hb); have n1_ := Aside0.mk (hbox); have n2_ := Aside0.mk ((by rw [hg]; exact (below_size (by repeat (first | (with_reducible first | exact HB.out | apply below_alloc | apply pw_below_drewN | apply below_drew1) | exact HB.out))) : w.heap.size ≤ gb1313)); have n3_ := Aside0.mk ((by rw [hg]; exact (below_size (by repeat (first | (with_reducible first | exact HB.out | apply below_alloc | apply pw_below_drewN | apply below_drew1) | exact HB.out))) : w.heap.size ≤ gb1313)); clear HB; have HB := n0_; have BK1313 := n1_; have GW1313 := n2_; have GE1313 := n3_; clear n0_ n1_ n2_ n3_; clear hb hbox hg) | ((with_reducible refine gate_dst (N := 2) rfl ?_); refine box_event ?hg (N := 2) ?hd (cs := #[.int .i64 0, .int .i64 0]) (t := 30) ?hr ?_; (case hd => rfl); (case hg => rfl); (case hr => first | (go_simp; done) | (go_simp; rfl)); intro gb1314 hg w3 hbox hb; have n0_ := Aside0.mk (blk_below (g := gb1313) (o := .cells #[.int .i64 a0_0, .int .i64 a0_1] 111 (0, 0)) (by (with_reducible repeat (first | refine blk_drewN ?_ _ | refine blk_drew ?_ | refine blk_alloc ?_ _)); exact BK1313.out) hb); have n1_ := Aside0.mk (below_step (by repeat (first | (with_reducible first | exact HB.out | apply below_alloc | apply pw_below_drewN | apply below_drew1 | refine below_set ?_ GE1313.out) | exact HB.out)) hb); have n2_ := Aside0.mk (hbox); have n3_ := Aside0.mk ((by rw [hg]; exact (below_size (by repeat (first | (with_reducible first | exact HB.out | apply below_alloc | apply pw_below_drewN | apply below_drew1 | refine below_set ?_ GE1313.out) | exact HB.out))) : w.heap.size ≤ gb1314)); have n4_ := Aside0.mk ((by rw [hg]; exact (below_size (by repeat (first | (with_reducible first | exact HB.out | apply below_alloc | apply pw_below_drewN | apply below_drew1 | refine below_set ?_ GE1313.out) | exact HB.out))) : w.heap.size ≤ gb1314)); have n5_ := Aside0.mk ((by rw [hg]; exact Nat.ne_of_lt (blk_lt (g := gb1313) (o := .cells #[.int .i64 a0_0, .int .i64 a0_1] 111 (0, 0)) (by (with_reducible repeat (first | refine blk_drewN ?_ _ | refine blk_drew ?_ | refine blk_alloc ?_ _)); exact BK1313.out)) : gb1313 ≠ gb1314)); have n6_ := Aside0.mk ((by rw [hg]; exact Nat.ne_of_gt (blk_lt (g := gb1313) (o := .cells #[.int .i64 a0_0, .int .i64 a0_1] 111 (0, 0)) (by (with_reducible repeat (first | refine blk_drewN ?_ _ | refine blk_drew ?_ | refine blk_alloc ?_ _)); exact BK1313.out)) : gb1314 ≠ gb1313)); clear BK1313; clear HB; have BK1313 := n0_; have HB := n1_; have BK1314 := n2_; have GW1314 := n3_; have GE1314 := n4_; have NB1313_1314 := n5_; have NB1314_1313 := n6_; clear n0_ n1_ n2_ n3_ n4_ n5_ n6_; clear hb hbox hg; have hnb4 := NB1313_1314.out; have hnc4 := NB1314_1313.out; have hcz5_0 : w3.cell? ⟨gb1313, 0, none⟩ = some (.int .i64 a0_0) := (blk_cell BK1313.out 0).trans rfl; have hcz5_1 : w3.cell? ⟨gb1313, 1, none⟩ = some (.int .i64 a0_1) := (blk_cell BK1313.out 1).trans rfl; have hfz5_0 := blk_frozen BK1313.out 0; have hfz5_1 := blk_frozen BK1313.out 1; have hcz6_0 : w3.cell? ⟨gb1314, 0, none⟩ = some (.int .i64 0) := (blk_cell BK1314.out 0).trans rfl; have hcz6_1 : w3.cell? ⟨gb1314, 1, none⟩ = some (.int .i64 0) := (blk_cell BK1314.out 1).trans rfl; have hfz6_0 := blk_frozen BK1314.out 0; have hfz6_1 := blk_frozen BK1314.out 1))
  refine bodyPost_ret (results_cell_row rfl _ _ gb1314 30 #[.int .i64 a0_0, .int .i64 a0_1] (0, 0) _ rfl (by (with_reducible repeat (first | refine blk_drewN ?_ _ | refine blk_drew ?_ | refine blk_alloc ?_ _)); refine blk_put (cs := #[.int .i64 a0_0, .int .i64 0]) ?_ 1 _ rfl; (with_reducible repeat (first | refine blk_drewN ?_ _ | refine blk_drew ?_ | refine blk_alloc ?_ _)); refine blk_put (cs := #[.int .i64 0, .int .i64 0]) ?_ 0 _ rfl; (with_reducible repeat (first | refine blk_drewN ?_ _ | refine blk_drew ?_ | refine blk_alloc ?_ _)); exact BK1314.out) Try.underlying30 rfl (by kernel_rfl)) rfl ?_
  exact ⟨by first | rfl | (simp [errW_none, errW_some] <;> rfl) | (simp [*, errW_none, errW_some] <;> rfl), by repeat (first | (with_reducible first | exact HB.out | apply below_alloc | apply pw_below_drewN | apply below_drew1 | refine below_set ?_ GE1313.out | refine below_set ?_ GE1314.out) | exact HB.out)⟩

end Go.Proofs.Ytffkojdmidhchaa.P
end
section
/- impl.TravelValid tells whether steps are a traverse. No condition. -/
namespace Go.Proofs.Ytffkojdmidhchaa.P
open Go.RowKit Go.Proofs.YtffkojdmidhchaaW.PrintWords Go.Proofs.YtffkojdmidhchaaW.PrintLast Go.Proofs.YtffkojdmidhchaaW.PrintMore
set_option linter.unusedVariables false
set_option linter.unusedSimpArgs false

def stepOk (p : S30) : Bool := decide (-20000 ≤ p.f0 ∧ p.f0 ≤ 20000) && decide (-20000 ≤ p.f1 ∧ p.f1 ≤ 20000)
theorem stepOk_iff {p : S30} : stepOk p = true ↔ (-20000 ≤ p.f0 ∧ p.f0 ≤ 20000) ∧ (-20000 ≤ p.f1 ∧ p.f1 ≤ 20000) := by unfold stepOk; simp
theorem stepValid_f (p : S30) : impl_stepValid.f p.f0 p.f1 = some (stepOk p) := by
  unfold impl_stepValid.f impl_pairOf.f impl_pair_inRange.f impl_within.f
  simp only [Option.bind_some]
  rw [wn_f p.f0 20000 (by omega) (by omega) _ rfl, wn_f p.f1 20000 (by omega) (by omega) _ rfl]
  unfold stepOk
  cases decide (-20000 ≤ p.f0 ∧ p.f0 ≤ 20000) <;> simp
def travB (l : List S30) : Bool := decide (1 ≤ l.length ∧ l.length ≤ 12) && l.all stepOk
theorem travB_iff {l : List S30} : travB l = true ↔ 1 ≤ l.length ∧ l.length ≤ 12 ∧ ∀ p ∈ l, stepOk p = true := by unfold travB; simp [and_assoc]
theorem trav_loop (l : List S30) (hl : l.length ≤ 12) (d : Nat) : ∀ i : Nat, l.length - i = d → i ≤ l.length → Ev (fun k => impl_TravelValid.l0 k l l.length i) ((l.drop i).all stepOk) := by
  induction d with
  | zero =>
    intro i hd hi
    rw [drop_end (by omega)]
    refine Ev_end fun k => ?_
    simp only [impl_TravelValid.l0]; rw [if_neg (by omega)]; rfl
  | succ d ih =>
    intro i hd hi
    have hlt : i < l.length := by omega
    rw [drop_cons hlt, List.all_cons]
    refine Ev.step (f := ?f2) ?h2 ?k2
    case h2 => intro k; simp only [impl_TravelValid.l0]; exact rfl
    case k2 =>
      refine Ev_pos (by omega) (Ev_pos (by omega) (Ev_pos (by omega) ?_))
      rw [rd_T30_get hlt, stepValid_f, wrap_succ (by omega)]
      refine Ev_bind_some ?_
      cases h : stepOk l[i] with
      | true => rw [Bool.true_and]; exact Ev_pos rfl (ih (i + 1) (by omega) (by omega))
      | false => rw [Bool.false_and]; exact Ev_neg (by simp) (Ev_some _)
theorem TravelValid_ev (l : List S30) : Ev (fun k => impl_TravelValid.f k l) (travB l) := by
  unfold impl_TravelValid.f travB
  by_cases c1 : (l.length : Int) < 1
  · rw [decide_eq_false (p := 1 ≤ l.length ∧ l.length ≤ 12) (by omega), Bool.false_and]
    refine Ev_pos c1 (Ev_end fun k => ?_)
    simp only [impl_TravelValid.j0]; rfl
  by_cases c2 : (l.length : Int) > 12
  · rw [decide_eq_false (p := 1 ≤ l.length ∧ l.length ≤ 12) (by omega), Bool.false_and, decide_eq_true c2]
    refine Ev_neg c1 (Ev_end fun k => ?_)
    simp only [impl_TravelValid.j0]; rfl
  rw [decide_eq_true (p := 1 ≤ l.length ∧ l.length ≤ 12) (by omega), Bool.true_and, decide_eq_false c2]
  refine Ev_neg c1 ?_
  refine Ev.step (f := ?f2) ?h2 ?k2
  case h2 => intro k; simp only [impl_TravelValid.j0]; exact rfl
  case k2 =>
    refine Ev_neg (by simp) ?_
    exact trav_loop l (by omega) _ 0 rfl (by omega)
end Go.Proofs.Ytffkojdmidhchaa.P
end
section
/- impl.TravelGap and impl.TravelPoints: their plain functions and contracts, in the print's form. -/
namespace Go.Proofs.Ytffkojdmidhchaa.P
open Go.RowKit Go.Proofs.YtffkojdmidhchaaW.PrintWords Go.Proofs.YtffkojdmidhchaaW.PrintLast Go.Proofs.YtffkojdmidhchaaW.PrintMore
set_option linter.unusedVariables false
set_option linter.unusedSimpArgs false
set_option maxHeartbeats 4000000
set_option maxRecDepth 20000
attribute [local go_sem] frozen_alloc' max2_int min2_int max_two min_two

theorem cell_alloc_old (W : World) (o : Obj) (b i : Nat) (h : b < W.heap.size) : (W.alloc o).cell? ⟨b, i, none⟩ = W.cell? ⟨b, i, none⟩ :=
  (below_alloc (Below.refl W.heap.size W) o).cell (p := ⟨b, i, none⟩) h
def pairW (w : World) (x y : Int) : World := (w.alloc (.cells #[.int .i64 x, .int .i64 y] 30)).alloc (.cells #[.int .i64 x, .int .i64 y] 111)
theorem pairOf_ex (x y : Int) (w : World) : Calls Try.prog 95 #[.agg #[.int .i64 x, .int .i64 y]] w fun e w' =>
    e = .returned (.agg #[.int .i64 x, .int .i64 y]) ∧ (w.alloc (.cells #[.int .i64 x, .int .i64 y] 30)).alloc (.cells #[.int .i64 x, .int .i64 y] 111) = w' := by
  have hu111 := Try.underlying111
  have hu30 := Try.underlying30
  have fz0 : w.frozen? ⟨w.heap.size + 1, 0, none⟩ = false := by simp [World.frozen?]
  have fz1 : w.frozen? ⟨w.heap.size + 1, 1, none⟩ = false := by simp [World.frozen?]
  go_enter Try.func95, Try.ntmps95
  go_wp2
  refine bodyPost_ret (v := .agg #[.int .i64 x, .int .i64 y]) (by simp [results, Try.results95, go_sem]) rfl ?_
  exact ⟨rfl, rfl⟩
theorem plus_ex (x1 y1 x2 y2 : Int) (w : World) : Calls Try.prog 175 #[.agg #[.int .i64 x1, .int .i64 y1], .agg #[.int .i64 x2, .int .i64 y2]] w fun e w' =>
    e = .returned (.agg #[.int .i64 (wrap64 (x1 + x2)), .int .i64 (wrap64 (y1 + y2))]) ∧
      ((w.alloc (.cells #[.int .i64 x1, .int .i64 y1] 111)).alloc (.cells #[.int .i64 x2, .int .i64 y2] 111)).alloc (.cells #[.int .i64 (wrap64 (x1 + x2)), .int .i64 (wrap64 (y1 + y2))] 111) = w' := by
  have hu111 := Try.underlying111
  have fz0 : w.frozen? ⟨w.heap.size + 1, 0, none⟩ = false := by simp [World.frozen?]
  have fz1 : w.frozen? ⟨w.heap.size + 1 + 1, 0, none⟩ = false := by simp only [World.frozen?]; rw [Array.getElem?_eq_none (by omega)]
  have fz2 : w.frozen? ⟨w.heap.size + 1 + 1, 1, none⟩ = false := by simp only [World.frozen?]; rw [Array.getElem?_eq_none (by omega)]
  go_enter Try.func175, Try.ntmps175
  go_wp2
  refine bodyPost_ret (v := .agg #[.int .i64 (wrap64 (x1 + x2)), .int .i64 (wrap64 (y1 + y2))]) (by simp [results, Try.results175, go_sem]) rfl ?_
  exact ⟨rfl, rfl⟩
theorem plus_any (x1 y1 x2 y2 : Int) (w : World) : Calls Try.prog 175 #[.agg #[.int .i64 x1, .int .i64 y1], .agg #[.int .i64 x2, .int .i64 y2]] w fun e w' =>
    e = .returned (.agg #[.int .i64 (wrap64 (x1 + x2)), .int .i64 (wrap64 (y1 + y2))]) ∧ Below w.heap.size w w' := by
  refine (plus_ex x1 y1 x2 y2 w).mono ?_
  rintro e w' ⟨rfl, rfl⟩
  exact ⟨rfl, (((Below.refl _ w).alloc (Nat.le_refl _) _).alloc (by simp) _).alloc (by simp; omega) _⟩
theorem point_ex (x y : Int) (w : World) : Calls Try.prog 131 #[.agg #[.int .i64 x, .int .i64 y]] w fun e w' =>
    e = .returned (.agg #[.int .i64 x, .int .i64 y]) ∧ (w.alloc (.cells #[.int .i64 x, .int .i64 y] 111)).alloc (.cells #[.int .i64 x, .int .i64 y] 30) = w' := by
  have hu111 := Try.underlying111
  have hu30 := Try.underlying30
  have fz0 : w.frozen? ⟨w.heap.size + 1, 0, none⟩ = false := by simp [World.frozen?]
  have fz1 : w.frozen? ⟨w.heap.size + 1, 1, none⟩ = false := by simp [World.frozen?]
  go_enter Try.func131, Try.ntmps131
  go_wp2
  refine bodyPost_ret (v := .agg #[.int .i64 x, .int .i64 y]) (by simp [results, Try.results131, go_sem]) rfl ?_
  exact ⟨rfl, rfl⟩
def adder1_T : Bool × List (List Nat × List Nat) := (true, [([], []), ([], []), ([1], [1]), ([0, 2, 2], [0, 2]), ([3, 3, 0, 1, 2, 3], [3])])
def adder1_B : List Nat := [0, 0, 2, 7, 15]
theorem adder1_tab : rtab .any (opsOf Try.f174 1) = adder1_T := by kernel_rfl
theorem adder1_bits : waitsOk adder1_T.2 adder1_B = true := by kernel_rfl
theorem adder1_any (gc : Nat) (sx sy x y : Int) (w : World) (hc : w.heap[gc]? = some (.cells #[.int .i64 sx, .int .i64 sy] 111 (0, 0))) :
    Calls Try.prog 174 #[.agg #[.int .i64 x, .int .i64 y], .pointer (some ⟨gc, 0, none⟩)] w fun e w' => e = .returned (.agg #[.int .i64 (wrap64 (sx + x)), .int .i64 (wrap64 (sy + y))]) ∧
      w'.heap[gc]? = some (.cells #[.int .i64 (wrap64 (sx + x)), .int .i64 (wrap64 (sy + y))] 111 (0, 0)) ∧ (∀ B, B ≤ gc → B ≤ w.heap.size → Below B w w') ∧ Kept w w' (fun k => k = gc) := by
  have hu111 := Try.underlying111
  have hu30 := Try.underlying30
  have c0 := blk_c hc 0 _ rfl
  have c1 := blk_c hc 1 _ rfl
  have f0 := blk_f hc 0
  have f1 := blk_f hc 1
  have lt := blk_lt hc
  have l1 : gc < w.heap.size + 1 := by omega
  have l2 : gc < w.heap.size + 1 + 1 := by omega
  have l3 : gc < w.heap.size + 1 + 1 + 1 := by omega
  have l4 : gc < w.heap.size + 1 + 1 + 1 + 1 := by omega
  have l5 : gc < w.heap.size + 1 + 1 + 1 + 1 + 1 := by omega
  have l6 : gc < w.heap.size + 1 + 1 + 1 + 1 + 1 + 1 := by omega
  have l7 : gc < w.heap.size + 1 + 1 + 1 + 1 + 1 + 1 + 1 := by omega
  have HC := Aside0.mk hc
  clear hc
  go_enter Try.func174, Try.ntmps174
  go_wp2
  have hb0 : w.heap.size ≤ (((w.alloc (.cells #[.int .i64 x, .int .i64 y] 30)).alloc (.cells #[.int .i64 0, .int .i64 0] 111)).drew).heap.size := by simp; omega
  have HB1 : Below w.heap.size w (((w.alloc (.cells #[.int .i64 x, .int .i64 y] 30)).alloc (.cells #[.int .i64 0, .int .i64 0] 111)).drew) := pw_below_drewN (((Below.refl _ w).alloc (Nat.le_refl _) _).alloc (by simp) _) 1
  have BC : (((w.alloc (.cells #[.int .i64 x, .int .i64 y] 30)).alloc (.cells #[.int .i64 0, .int .i64 0] 111)).drew).heap[gc]? = some (.cells #[.int .i64 sx, .int .i64 sy] 111 (0, 0)) := (HB1.block gc lt).trans HC.out
  have BB : (((w.alloc (.cells #[.int .i64 x, .int .i64 y] 30)).alloc (.cells #[.int .i64 0, .int .i64 0] 111)).drew).heap[w.heap.size]? = some (.cells #[.int .i64 x, .int .i64 y] 30 (0, 0)) :=
    (Below.heap_alloc _ _ _ (by simp)).trans (heap_alloc_new w _)
  have BR : (((w.alloc (.cells #[.int .i64 x, .int .i64 y] 30)).alloc (.cells #[.int .i64 0, .int .i64 0] 111)).drew).heap[w.heap.size + 1]? = some (.cells #[.int .i64 0, .int .i64 0] 111 (0, 0)) := by
    have h := heap_alloc_new (w.alloc (.cells #[.int .i64 x, .int .i64 y] 30)) (.cells #[.int .i64 0, .int .i64 0] 111)
    rw [World.size_alloc] at h
    exact h
  refine start_ (n := 5) (S := fun w' => w'.cell? ⟨gc, 0, none⟩ = some (.int .i64 sx) ∧ w'.cell? ⟨gc, 1, none⟩ = some (.int .i64 sy) ∧ w'.cell? ⟨w.heap.size, 0, none⟩ = some (.int .i64 x) ∧ w'.cell? ⟨w.heap.size, 1, none⟩ = some (.int .i64 y)) (ds := [4]) #[false, false, false, false, false] (by kernel_rfl) rfl rfl ⟨blk_c BC 0 _ rfl, blk_c BC 1 _ rfl, blk_c BB 0 _ rfl, blk_c BB 1 _ rfl⟩ (fun hHeld => ?_)
  refine with_tabW adder1_tab adder1_bits (fun HT_ HW_ => ?_)
  generalize (((w.alloc (.cells #[.int .i64 x, .int .i64 y] 30)).alloc (.cells #[.int .i64 0, .int .i64 0] 111)).drew) = w1 at *
  refine take_ (i := 0) (N := some 4) (v := ?_) (a' := ?_) #[true, false, false, false, false] rfl rfl (take_ofW HT_.out HW_.out (by kernel_rfl)) (fun _ _ _ h => h) (Or.inl ⟨by rfl, ?_⟩) hHeld ?_ ?_
  rotate_left
  · rintro w' ⟨s0, s1, s2, s3⟩
    go_simp
    with_reducible rfl
  rotate_left
  · simp only [Act.put, List.setIfInBounds_toArray, List.set_cons_zero, List.set_cons_succ, i64_w, i32_w]
    rfl
  refine take_ (i := 1) (N := some 5) (v := ?_) (a' := ?_) #[true, true, false, false, false] rfl rfl (take_ofW HT_.out HW_.out (by kernel_rfl)) (fun _ _ _ h => h) (Or.inl ⟨by rfl, ?_⟩) hHeld ?_ ?_
  rotate_left
  · rintro w' ⟨s0, s1, s2, s3⟩
    go_simp
    with_reducible rfl
  rotate_left
  · simp only [Act.put, List.setIfInBounds_toArray, List.set_cons_zero, List.set_cons_succ, i64_w, i32_w]
    rfl
  refine one_ (i := 2) (N := some 6) #[true, true, true, false, false] rfl rfl (one_of HT_.out (by kernel_rfl)) (by decide) (fun K hK => ?_)
  refine goes_ Try.func95 (by kernel_rfl) rfl #[.agg #[.int .i64 x, .int .i64 y]] (by rfl) rfl rfl (by (try simp only [List.map_toArray, List.map_cons, List.map_nil]); first | done | rfl) ?_
  with_reducible refine (impl_pairOf.calls x y x y _ rfl).mono ?_
  rintro e w2 ⟨rfl, hb2⟩
  refine ⟨_, rfl, ?_⟩
  have BC2 := (hb2.block gc (blk_lt BC)).trans BC
  have BB2 := (hb2.block _ (blk_lt BB)).trans BB
  have BR2 := (hb2.block _ (blk_lt BR)).trans BR
  have HB2 := below_step HB1 hb2
  clear BC BB BR HB1 hb2
  refine hK.out _ _ ⟨blk_c BC2 0 _ rfl, blk_c BC2 1 _ rfl, blk_c BB2 0 _ rfl, blk_c BB2 1 _ rfl⟩ (fun hHeld => ?_)
  clear hK K
  refine norm_ (a' := ?_) ?_ ?_
  rotate_left
  · show Act.put _ (some 6) _ = _
    simp only [Act.put, List.setIfInBounds_toArray, List.set_cons_zero, List.set_cons_succ, i64_w, i32_w]
    rfl
  refine one_ (i := 3) (N := some 7) #[true, true, true, true, false] rfl rfl (one_of HT_.out (by kernel_rfl)) (by decide) (fun K hK => ?_)
  refine goes_ Try.func175 (by kernel_rfl) rfl #[.agg #[.int .i64 sx, .int .i64 sy], .agg #[.int .i64 x, .int .i64 y]] (by rfl) rfl rfl (by (try simp only [List.map_toArray, List.map_cons, List.map_nil]); first | done | rfl) ?_
  with_reducible refine (plus_any sx sy x y _).mono ?_
  rintro e w3 ⟨rfl, hb3⟩
  refine ⟨_, rfl, ?_⟩
  have BC3 := (hb3.block gc (blk_lt BC2)).trans BC2
  have BB3 := (hb3.block _ (blk_lt BB2)).trans BB2
  have BR3 := (hb3.block _ (blk_lt BR2)).trans BR2
  have HB3 := below_step HB2 hb3
  clear BC2 BB2 BR2 HB2 hb3
  refine hK.out _ _ ⟨blk_c BC3 0 _ rfl, blk_c BC3 1 _ rfl, blk_c BB3 0 _ rfl, blk_c BB3 1 _ rfl⟩ (fun hHeld => ?_)
  clear hK K
  refine norm_ (a' := ?_) ?_ ?_
  rotate_left
  · show Act.put _ (some 7) _ = _
    simp only [Act.put, List.setIfInBounds_toArray, List.set_cons_zero, List.set_cons_succ, i64_w, i32_w]
    rfl
  have q0 := blk_c BC3 0 _ rfl
  have q1 := blk_c BC3 1 _ rfl
  have g0 := blk_f BC3 0
  have g1 := blk_f BC3 1
  have r0 := blk_c BR3 0 _ rfl
  have r1 := blk_c BR3 1 _ rfl
  have k0 := blk_f BR3 0
  have k1 := blk_f BR3 1
  have hne : gc ≠ w.heap.size + 1 := by omega
  refine last_ (i := 4) (N := none) #[true, true, true, true, true] rfl rfl (one_of HT_.out (by kernel_rfl)) (by decide) (fun K hK => ?_)
  refine skip_ (w1 := ?_) (by rfl) rfl ?_ ?_
  rotate_left
  · go_simp
    rfl
  refine hK.out _ _ ?_
  clear hK K
  refine done_ (done_of HT_.out (by kernel_rfl)) ?_
  go_wp2
  have BR4 : (((w3.setCell ⟨gc, 0, none⟩ (.int .i64 (wrap64 (sx + x)))).setCell ⟨gc, 1, none⟩ (.int .i64 (wrap64 (sy + y)))).setCell ⟨w.heap.size + 1, 0, none⟩ (.int .i64 (wrap64 (sx + x)))).setCell ⟨w.heap.size + 1, 1, none⟩ (.int .i64 (wrap64 (sy + y))) |>.heap[w.heap.size + 1]? =
      some (.cells #[.int .i64 (wrap64 (sx + x)), .int .i64 (wrap64 (sy + y))] 111 (0, 0)) := blk_put (blk_put (blk_far (blk_far BR3 hne.symm _) hne.symm _) 0 _ rfl) 1 _ rfl
  refine bodyPost_ret (results_cell_row rfl _ _ (w.heap.size + 1) 111 #[.int .i64 (wrap64 (sx + x)), .int .i64 (wrap64 (sy + y))] (0, 0) _ rfl BR4 Try.underlying111 rfl (by kernel_rfl)) rfl ?_
  refine ⟨rfl, blk_far (blk_far (blk_put (blk_put BC3 0 _ rfl) 1 _ rfl) hne _) hne _, fun B h1 h2 => ?_, ?_⟩
  rotate_left
  · refine Kept.setCell (Kept.setCell (Kept.setCell (Kept.setCell (Kept.of_below HB3 _) ?_ _) ?_ _) ?_ _) ?_ _
    · exact Or.inl rfl
    · exact Or.inl rfl
    · exact Or.inr (by simp)
    · exact Or.inr (by simp)
  exact ((((HB3.mono h2).setCell h1 _).setCell h1 _).setCell (by simp; omega) _).setCell (by simp; omega) _
def AddAt (w0 : World) (gc gs : Nat) (sx sy : Int) (W : World) : Prop :=
  W.heap[gc]? = some (.cells #[.int .i64 sx, .int .i64 sy] 111 (0, 0)) ∧ W.heap[gs]? = some (.cells #[.int .i64 sx, .int .i64 sy] 111 (0, 0)) ∧ Below w0.heap.size w0 W
theorem adder_any (w : World) : Calls Try.prog 130 #[] w fun e w' => e = .returned (.func (.func 174) #[] #[.pointer (some ⟨w.heap.size, 0, none⟩)]) ∧ w.alloc (.cells #[.int .i64 0, .int .i64 0] 111) = w' := by
  have hu111 := Try.underlying111
  have fz0 : w.frozen? ⟨w.heap.size, 0, none⟩ = false := by simp [World.frozen?]
  have fz1 : w.frozen? ⟨w.heap.size, 1, none⟩ = false := by simp [World.frozen?]
  go_enter Try.func130, Try.ntmps130
  go_wp2
  go_ret
  exact ⟨rfl, rfl⟩
def gapX (l : List S30) : Int := l.foldl (fun s p => wrap64 (s + p.f0)) 0
def gapY (l : List S30) : Int := l.foldl (fun s p => wrap64 (s + p.f1)) 0
theorem gapX_snoc (l : List S30) (p : S30) : gapX (l ++ [p]) = wrap64 (gapX l + p.f0) := by simp [gapX]
theorem gapY_snoc (l : List S30) (p : S30) : gapY (l ++ [p]) = wrap64 (gapY l + p.f1) := by simp [gapY]
def GapRel (w : World) (gc gs : Nat) (l : List S30) (v : Value) (wr : World) : Prop :=
  ∃ i : Nat, i ≤ l.length ∧ v = .int .i64 i ∧ AddAt w gc gs (gapX (l.take i)) (gapY (l.take i)) wr ∧ wr.heap[w.heap.size]? = some (.cells #[.int .i64 0, .int .i64 0] 30 (0, 0))
def GapPost (w : World) (x y : Int) (b : Bool) (e : Ending) (w' : World) : Prop := e = .returned (.tuple #[.agg #[.int .i64 x, .int .i64 y], .bool b]) ∧ Below w.heap.size w w'
theorem TravelGap_yes (A0 : Option Addr) (c0 : Nat) (l : List S30) (w : World) (hr : Kd.C k30 w A0 l.length l) (hc : l.length ≤ c0) (hl : l.length ≤ 12)
    (hV : ∀ W, Kd.C k30 W A0 l.length l → Calls Try.prog 82 #[.slice A0 l.length c0] W fun e w' => e = .returned (.bool true) ∧ Below W.heap.size W w') :
    Calls Try.prog 65 #[.slice A0 l.length c0] w (GapPost w (gapX l) (gapY l) true) := by
  have hu111 := Try.underlying111
  have hu30 := Try.underlying30
  have eg : Enters Try.prog 174 := enters_of Try.func174 (by kernel_rfl) rfl
  have HV := Aside0.mk hV
  clear hV
  go_enter Try.func65, Try.ntmps65
  go_wp2_with (first
    | (go_at_call 82; (with_reducible refine (HV.out _ ?hC).mono ?_); (case hC => exact Kd.C_alloc hr _); rintro e w1 ⟨rfl, hw1⟩)
    | (go_at_call 130; (with_reducible refine (adder_any _).mono ?_); rintro e w2 ⟨rfl, rfl⟩))
  have hz1 : w.heap.size + 1 ≤ w1.heap.size := by have := hw1.size; simpa using this
  have hst : GapRel w w1.heap.size (w1.heap.size + 1) l (.int .i64 0) ((w1.alloc (.cells #[.int .i64 0, .int .i64 0] 111)).alloc (.cells #[.int .i64 0, .int .i64 0] 111)) := by
    refine ⟨0, Nat.zero_le _, rfl, ⟨?_, ?_, ?_⟩, ?_⟩
    · exact (Below.heap_alloc _ _ _ (by simp)).trans (heap_alloc_new w1 _)
    · have h := heap_alloc_new (w1.alloc (.cells #[.int .i64 0, .int .i64 0] 111)) (.cells #[.int .i64 0, .int .i64 0] 111)
      rw [World.size_alloc] at h
      exact h
    · exact ((below_then (below_alloc (Below.refl _ w) _) (by simp) hw1).alloc (by omega) _).alloc (by simp; omega) _
    · refine (Below.heap_alloc _ _ _ (by simp; omega)).trans ((Below.heap_alloc _ _ _ (by omega)).trans ((hw1.block _ (by simp)).trans (heap_alloc_new w _)))
  have HS := Aside0.mk hst
  clear hst hw1
  have hw0 : w.heap.size < w1.heap.size := by omega
  generalize w1.heap.size = gc at *
  go_loopw [16] (fun v wr => GapRel w gc (gc + 1) l v wr) (fun v _ => l.length - (intOf v).toNat)
  case atStart => exact HS.out
  case round =>
    obtain ⟨i, hi, rfl, ⟨hA, hG, hB⟩, hR⟩ := hrel
    by_cases hlt : i < l.length
    · obtain ⟨ad, rfl, hx0, hx1⟩ := at_T30 hr i (by omega) (by omega)
      have hy0 := (hB.cell (World.block_lt_of_cell? w _ hx0)).trans hx0
      have hy1 := (hB.cell (World.block_lt_of_cell? w _ hx1)).trans hx1
      simp only [Int.toNat_natCast] at hy0 hy1
      clear hx0 hx1
      have tk : l.take (i + 1) = l.take i ++ [rd_T30 l i] := by rw [List.take_succ_eq_append_getElem hlt, rd_T30_get hlt]
      have tx := gapX_snoc (l.take i) (rd_T30 l i)
      have ty := gapY_snoc (l.take i) (rd_T30 l i)
      rw [← tk] at tx ty
      generalize (rd_T30 l i).f0 = px at *
      generalize (rd_T30 l i).f1 = py at *
      have HA := Aside0.mk hA
      have HG := Aside0.mk hG
      have HB := Aside0.mk hB
      have HR := Aside0.mk hR
      have TX := Aside0.mk tx
      have TY := Aside0.mk ty
      have lg := blk_lt hG
      have fg0 := blk_f hG 0
      clear hA hG hB hR tk tx ty
      have HAA := Aside0.mk (fun (o : Obj) => (Below.heap_alloc wr o gc (by omega)).trans HA.out)
      have HGG := Aside0.mk (fun (o : Obj) (w3 : World) (hK : Kept (wr.alloc o) w3 (fun k => k = gc)) => (hK.2 (gc + 1) (by simp; omega) (by omega)).trans ((Below.heap_alloc wr o (gc + 1) lg).trans HG.out))
      go_wp2_with (go_at_call 174; (with_reducible refine (adder1_any gc _ _ px py _ (HAA.out _)).mono ?_); rintro e w3 ⟨rfl, hA3, hB3, hK3⟩; have hG3 := HGG.out _ _ hK3; have q0 := blk_c hG3 0 _ rfl; have q1 := blk_c hG3 1 _ rfl; have g0 := blk_f hG3 0; have g1 := blk_f hG3 1)
      have hBn : Below w.heap.size w w3 := (HB.out.alloc HB.out.size _).trans (hB3 w.heap.size (by omega) (by have := HB.out.size; simp; omega))
      have hR3 : w3.heap[w.heap.size]? = some (.cells #[.int .i64 0, .int .i64 0] 30 (0, 0)) := (hK3.2 w.heap.size (by have := HB.out.size; simp; omega) (by omega)).trans ((Below.heap_alloc wr _ w.heap.size (blk_lt HR.out)).trans HR.out)
      refine ⟨⟨i + 1, by omega, by go_num, ⟨?_, ?_, ?_⟩, ?_⟩, by simp [intOf]; omega⟩
      · rw [TX.out, TY.out]; exact blk_far (blk_far hA3 (by simp) _) (by simp) _
      · rw [TX.out, TY.out]; exact blk_put (blk_put hG3 0 _ rfl) 1 _ rfl
      · exact (hBn.setCell (by simp; omega) _).setCell (by simp; omega) _
      · exact blk_far (blk_far hR3 (by simp; omega) _) (by simp; omega) _
    · have htl : l.take i = l := List.take_of_length_le (by omega)
      rw [htl] at hA hG
      have s0 := blk_c hG 0 _ rfl
      have s1 := blk_c hG 1 _ rfl
      have r0 := blk_c hR 0 _ rfl
      have r1 := blk_c hR 1 _ rfl
      have k0 := blk_f hR 0
      have k1 := blk_f hR 1
      have HB := Aside0.mk hB
      have HR := Aside0.mk hR
      have hge : l.length ≤ i := by omega
      have lR := blk_lt hR
      clear hA hG hB hR htl hlt
      go_wp2_with (go_at_call 131; (with_reducible refine (point_ex (gapX l) (gapY l) _).mono ?_); rintro e w4 ⟨rfl, rfl⟩)
      have z : ∀ o1 o2 : Obj, ((((wr.setCell ⟨w.heap.size, 0, none⟩ (.int .i64 (gapX l))).setCell ⟨w.heap.size, 1, none⟩ (.int .i64 (gapY l))).alloc o1).alloc o2).heap[w.heap.size]? = some (.cells #[.int .i64 (gapX l), .int .i64 (gapY l)] 30 (0, 0)) := fun o1 o2 =>
        (Below.heap_alloc _ _ _ (by simp [World.setCell]; omega)).trans ((Below.heap_alloc _ _ _ (by simp [World.setCell]; omega)).trans (blk_put (blk_put HR.out 0 _ rfl) 1 _ rfl))
      have z0 := fun o1 o2 => blk_c (z o1 o2) 0 _ rfl
      have z1 := fun o1 o2 => blk_c (z o1 o2) 1 _ rfl
      have hBz : ∀ o1 o2 : Obj, Below w.heap.size w ((((wr.setCell ⟨w.heap.size, 0, none⟩ (.int .i64 (gapX l))).setCell ⟨w.heap.size, 1, none⟩ (.int .i64 (gapY l))).alloc o1).alloc o2) := fun o1 o2 =>
        (((HB.out.setCell (Nat.le_refl _) _).setCell (Nat.le_refl _) _).alloc (by simp [World.setCell]; omega) _).alloc (by simp [World.setCell]; omega) _
      refine bodyPost_ret (v := .tuple #[.agg #[.int .i64 (gapX l), .int .i64 (gapY l)], .bool true]) (by simp [results, Try.results65, go_sem, z0, z1]) rfl ?_
      exact ⟨rfl, hBz _ _⟩
theorem TravelGap_no (A0 : Option Addr) (c0 : Nat) (l : List S30) (w : World) (hr : Kd.C k30 w A0 l.length l) (hc : l.length ≤ c0)
    (hV : ∀ W, Kd.C k30 W A0 l.length l → Calls Try.prog 82 #[.slice A0 l.length c0] W fun e w' => e = .returned (.bool false) ∧ Below W.heap.size W w') :
    Calls Try.prog 65 #[.slice A0 l.length c0] w (GapPost w 0 0 false) := by
  have hu111 := Try.underlying111
  have hu30 := Try.underlying30
  have HV := Aside0.mk hV
  clear hV
  go_enter Try.func65, Try.ntmps65
  go_wp2_with (go_at_call 82; (with_reducible refine (HV.out _ ?hC).mono ?_); (case hC => exact Kd.C_alloc hr _); rintro e w1 ⟨rfl, hw1⟩; have hR := (hw1.block w.heap.size (by simp)).trans (heap_alloc_new w _); have r0 := blk_c hR 0 _ rfl; have r1 := blk_c hR 1 _ rfl; have k0 := blk_f hR 0; have k1 := blk_f hR 1)
  have hB := below_then (below_alloc (Below.refl _ w) _) (by simp) hw1
  have z : ((w1.setCell ⟨w.heap.size, 0, none⟩ (.int .i64 0)).setCell ⟨w.heap.size, 1, none⟩ (.int .i64 0)).heap[w.heap.size]? = some (.cells #[.int .i64 0, .int .i64 0] 30 (0, 0)) := blk_put (blk_put hR 0 _ rfl) 1 _ rfl
  have z0 := blk_c z 0 _ rfl
  have z1 := blk_c z 1 _ rfl
  refine bodyPost_ret (v := .tuple #[.agg #[.int .i64 0, .int .i64 0], .bool false]) (by simp [results, Try.results65, go_sem, z0, z1]) rfl ?_
  exact ⟨rfl, (hB.setCell (Nat.le_refl _) _).setCell (Nat.le_refl _) _⟩
theorem travV (A0 : Option Addr) (c0 : Nat) (l : List S30) (hc : l.length ≤ c0) : ∀ W, Kd.C k30 W A0 l.length l → Calls Try.prog 82 #[.slice A0 l.length c0] W fun e w' => e = .returned (.bool (travB l)) ∧ Below W.heap.size W w' := fun W h => by
  obtain ⟨K, hK⟩ := TravelValid_ev l
  exact impl_TravelValid.calls K A0 c0 l _ W h hc (hK K (Nat.le_refl _))
def impl_TravelGap.f (l : List S30) : Option (Int × Int × Bool) := some (if travB l = true then (gapX l, gapY l, true) else (0, 0, false))
theorem impl_TravelGap.calls (A0 : Option Addr) (c0 : Nat) (l0 : List S30) (r1 r2 : Int) (r3 : Bool) (w : World) (hr0 : Kd.C k30 w A0 l0.length l0) (hc0 : l0.length ≤ c0) (h : impl_TravelGap.f l0 = some (r1, r2, r3)) :
    Calls Try.prog 65 #[.slice A0 l0.length c0] w fun e w' => e = .returned (.tuple #[.agg #[.int .i64 r1, .int .i64 r2], .bool r3]) ∧ Below w.heap.size w w' := by
  unfold impl_TravelGap.f at h
  have h := Option.some.inj h
  have hV := travV A0 c0 l0 hc0
  cases hb : travB l0 with
  | true =>
    rw [hb] at hV
    rw [hb, if_pos rfl] at h
    injection h with e1 h
    injection h with e2 e3
    subst e1 e2 e3
    exact TravelGap_yes A0 c0 l0 w hr0 hc0 (travB_iff.1 hb).2.1 hV
  | false =>
    rw [hb] at hV
    rw [hb, if_neg (by simp)] at h
    injection h with e1 h
    injection h with e2 e3
    subst e1 e2 e3
    exact TravelGap_no A0 c0 l0 w hr0 hc0 hV
end Go.Proofs.Ytffkojdmidhchaa.P
end
