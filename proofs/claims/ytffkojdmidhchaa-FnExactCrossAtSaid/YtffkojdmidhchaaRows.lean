/-
  No cell of these rows narrows 'for every input' (looked for: loops, veiled, ifaces, maps, wideKeys, modest, calm, conditions, laid).
  DERIVED. THE GIVEN ROWS OF THIS SEAT. 12 by the template 'for every input the law returns true; each argument reads behind the call as it read before'; 0 by the template 'total and deterministic' (their statements: YtffkojdmidhchaaTotals.lean).
  GIVEN WITH THE SEED: the statements are not yours to turn. If you find one false, say at which input.
  Laid BY PROGRAM, IN A SANDBOX (cutbox-rows.mjs): the forced cells as the released guide's own fill.sh prints them over the translation 248249021c97e810… (all of the seat's roots in one cut). By AI agents, Wed Nov 11 2026. No macro, syntax, notation, axiom, sorry.
-/
import Derived.Test.YtffkojdmidhchaaChecked
import GoSem.Claim
import GoSem.ClaimJoined
import GoSem.ClaimMapViews
import Derived.JoinedTies
import Derived.KernelRfl
namespace Go.Proofs.Ytffkojdmidhchaa
/- THE CELL 'sum', in the pinned program and in every row, IS THE sha256 OF THE DUMP (.gsa) THAT YtffkojdmidhchaaProg.lean LOADS. Nothing in Lean hashes anything: it is a label: what it is worth is what the hold of that sum in a sandbox is worth. -/
noncomputable def Try.pinned : Pinned := { name := "ytffkojdmidhchaa", sum := "248249021c97e810c12c3293d484cb748f2236a4a123a36e4a68fee78d0e7996", checked := Try.checked }
namespace Rows
def none {H : Type} : Left H := { results := [], args := [] }

/-- 'laws.FnTravelArea': WHATEVER THE INPUT: true; the input reads as it did. -/
def fnTravelAreaSpec : ChangeSpec := { name := "fnTravelArea", fn := fun _ => fun
  | [d] => { results := [.lit (.bool true)], args := [d] }
  | _ => none }
def fnTravelAreaRow : OpenClaim := { program := "ytffkojdmidhchaa", sum := "248249021c97e810c12c3293d484cb748f2236a4a123a36e4a68fee78d0e7996", func := "loop.example/levellingnet/laws.FnTravelArea", spec := "fnTravelArea", unfollowed := true, recurses := true, apart := false }
def FnTravelAreaSaid : Prop := fnTravelAreaRow.holds Try.pinned (OpenSpec.ofChange fnTravelAreaSpec)

/-- ITS FALSE NEIGHBOUR: 'it returns false'. Refute it at one input. -/
def fnTravelAreaWrong : ChangeSpec := { name := "fnTravelArea", fn := fun _ => fun
  | [d] => { results := [.lit (.bool false)], args := [d] }
  | _ => none }
def FnTravelAreaWrongFalsely : Prop := fnTravelAreaRow.holds Try.pinned (OpenSpec.ofChange fnTravelAreaWrong)

/-- 'laws.FnSplit': WHATEVER THE INPUT: true; the input reads as it did. -/
def fnSplitSpec : ChangeSpec := { name := "fnSplit", fn := fun _ => fun
  | [d] => { results := [.lit (.bool true)], args := [d] }
  | _ => none }
def fnSplitRow : OpenClaim := { program := "ytffkojdmidhchaa", sum := "248249021c97e810c12c3293d484cb748f2236a4a123a36e4a68fee78d0e7996", func := "loop.example/levellingnet/laws.FnSplit", spec := "fnSplit", unfollowed := true, recurses := true, apart := false }
def FnSplitSaid : Prop := fnSplitRow.holds Try.pinned (OpenSpec.ofChange fnSplitSpec)

/-- ITS FALSE NEIGHBOUR: 'it returns false'. Refute it at one input. -/
def fnSplitWrong : ChangeSpec := { name := "fnSplit", fn := fun _ => fun
  | [d] => { results := [.lit (.bool false)], args := [d] }
  | _ => none }
def FnSplitWrongFalsely : Prop := fnSplitRow.holds Try.pinned (OpenSpec.ofChange fnSplitWrong)

/-- 'laws.FnShareParcel': WHATEVER THE INPUT: true; the input reads as it did. -/
def fnShareParcelSpec : ChangeSpec := { name := "fnShareParcel", fn := fun _ => fun
  | [d] => { results := [.lit (.bool true)], args := [d] }
  | _ => none }
def fnShareParcelRow : OpenClaim := { program := "ytffkojdmidhchaa", sum := "248249021c97e810c12c3293d484cb748f2236a4a123a36e4a68fee78d0e7996", func := "loop.example/levellingnet/laws.FnShareParcel", spec := "fnShareParcel", unfollowed := true, recurses := true, apart := false }
def FnShareParcelSaid : Prop := fnShareParcelRow.holds Try.pinned (OpenSpec.ofChange fnShareParcelSpec)

/-- ITS FALSE NEIGHBOUR: 'it returns false'. Refute it at one input. -/
def fnShareParcelWrong : ChangeSpec := { name := "fnShareParcel", fn := fun _ => fun
  | [d] => { results := [.lit (.bool false)], args := [d] }
  | _ => none }
def FnShareParcelWrongFalsely : Prop := fnShareParcelRow.holds Try.pinned (OpenSpec.ofChange fnShareParcelWrong)

/-- 'laws.FnExactGridTurn': WHATEVER THE INPUT: true; the input reads as it did. -/
def fnExactGridTurnSpec : ChangeSpec := { name := "fnExactGridTurn", fn := fun _ => fun
  | [d] => { results := [.lit (.bool true)], args := [d] }
  | _ => none }
def fnExactGridTurnRow : OpenClaim := { program := "ytffkojdmidhchaa", sum := "248249021c97e810c12c3293d484cb748f2236a4a123a36e4a68fee78d0e7996", func := "loop.example/levellingnet/laws.FnExactGridTurn", spec := "fnExactGridTurn", apart := false }
def FnExactGridTurnSaid : Prop := fnExactGridTurnRow.holds Try.pinned (OpenSpec.ofChange fnExactGridTurnSpec)

/-- ITS FALSE NEIGHBOUR: 'it returns false'. Refute it at one input. -/
def fnExactGridTurnWrong : ChangeSpec := { name := "fnExactGridTurn", fn := fun _ => fun
  | [d] => { results := [.lit (.bool false)], args := [d] }
  | _ => none }
def FnExactGridTurnWrongFalsely : Prop := fnExactGridTurnRow.holds Try.pinned (OpenSpec.ofChange fnExactGridTurnWrong)

/-- 'laws.FnExactCrossAt': WHATEVER THE INPUT: true; the input reads as it did. -/
def fnExactCrossAtSpec : ChangeSpec := { name := "fnExactCrossAt", fn := fun _ => fun
  | [d1, d2, d3, d4] => { results := [.lit (.bool true)], args := [d1, d2, d3, d4] }
  | _ => none }
def fnExactCrossAtRow : OpenClaim := { program := "ytffkojdmidhchaa", sum := "248249021c97e810c12c3293d484cb748f2236a4a123a36e4a68fee78d0e7996", func := "loop.example/levellingnet/laws.FnExactCrossAt", spec := "fnExactCrossAt", apart := false }
def FnExactCrossAtSaid : Prop := fnExactCrossAtRow.holds Try.pinned (OpenSpec.ofChange fnExactCrossAtSpec)

/-- ITS FALSE NEIGHBOUR: 'it returns false'. Refute it at one input. -/
def fnExactCrossAtWrong : ChangeSpec := { name := "fnExactCrossAt", fn := fun _ => fun
  | [d1, d2, d3, d4] => { results := [.lit (.bool false)], args := [d1, d2, d3, d4] }
  | _ => none }
def FnExactCrossAtWrongFalsely : Prop := fnExactCrossAtRow.holds Try.pinned (OpenSpec.ofChange fnExactCrossAtWrong)

/-- 'laws.FnExactHaulPlan': WHATEVER THE INPUT: true; the input reads as it did. -/
def fnExactHaulPlanSpec : ChangeSpec := { name := "fnExactHaulPlan", fn := fun _ => fun
  | [d] => { results := [.lit (.bool true)], args := [d] }
  | _ => none }
def fnExactHaulPlanRow : OpenClaim := { program := "ytffkojdmidhchaa", sum := "248249021c97e810c12c3293d484cb748f2236a4a123a36e4a68fee78d0e7996", func := "loop.example/levellingnet/laws.FnExactHaulPlan", spec := "fnExactHaulPlan", apart := false }
def FnExactHaulPlanSaid : Prop := fnExactHaulPlanRow.holds Try.pinned (OpenSpec.ofChange fnExactHaulPlanSpec)

/-- ITS FALSE NEIGHBOUR: 'it returns false'. Refute it at one input. -/
def fnExactHaulPlanWrong : ChangeSpec := { name := "fnExactHaulPlan", fn := fun _ => fun
  | [d] => { results := [.lit (.bool false)], args := [d] }
  | _ => none }
def FnExactHaulPlanWrongFalsely : Prop := fnExactHaulPlanRow.holds Try.pinned (OpenSpec.ofChange fnExactHaulPlanWrong)

/-- 'laws.FnHaulPlan': WHATEVER THE INPUT: true; the input reads as it did. -/
def fnHaulPlanSpec : ChangeSpec := { name := "fnHaulPlan", fn := fun _ => fun
  | [d] => { results := [.lit (.bool true)], args := [d] }
  | _ => none }
def fnHaulPlanRow : OpenClaim := { program := "ytffkojdmidhchaa", sum := "248249021c97e810c12c3293d484cb748f2236a4a123a36e4a68fee78d0e7996", func := "loop.example/levellingnet/laws.FnHaulPlan", spec := "fnHaulPlan", apart := false }
def FnHaulPlanSaid : Prop := fnHaulPlanRow.holds Try.pinned (OpenSpec.ofChange fnHaulPlanSpec)

/-- ITS FALSE NEIGHBOUR: 'it returns false'. Refute it at one input. -/
def fnHaulPlanWrong : ChangeSpec := { name := "fnHaulPlan", fn := fun _ => fun
  | [d] => { results := [.lit (.bool false)], args := [d] }
  | _ => none }
def FnHaulPlanWrongFalsely : Prop := fnHaulPlanRow.holds Try.pinned (OpenSpec.ofChange fnHaulPlanWrong)

/-- 'laws.FnHaulLevel': WHATEVER THE INPUT: true; the input reads as it did. -/
def fnHaulLevelSpec : ChangeSpec := { name := "fnHaulLevel", fn := fun _ => fun
  | [d] => { results := [.lit (.bool true)], args := [d] }
  | _ => none }
def fnHaulLevelRow : OpenClaim := { program := "ytffkojdmidhchaa", sum := "248249021c97e810c12c3293d484cb748f2236a4a123a36e4a68fee78d0e7996", func := "loop.example/levellingnet/laws.FnHaulLevel", spec := "fnHaulLevel", unfollowed := true, recurses := true, apart := false }
def FnHaulLevelSaid : Prop := fnHaulLevelRow.holds Try.pinned (OpenSpec.ofChange fnHaulLevelSpec)

/-- ITS FALSE NEIGHBOUR: 'it returns false'. Refute it at one input. -/
def fnHaulLevelWrong : ChangeSpec := { name := "fnHaulLevel", fn := fun _ => fun
  | [d] => { results := [.lit (.bool false)], args := [d] }
  | _ => none }
def FnHaulLevelWrongFalsely : Prop := fnHaulLevelRow.holds Try.pinned (OpenSpec.ofChange fnHaulLevelWrong)

/-- 'laws.FnExactTravelClose': WHATEVER THE INPUT: true; the input reads as it did. -/
def fnExactTravelCloseSpec : ChangeSpec := { name := "fnExactTravelClose", fn := fun _ => fun
  | [d] => { results := [.lit (.bool true)], args := [d] }
  | _ => none }
def fnExactTravelCloseRow : OpenClaim := { program := "ytffkojdmidhchaa", sum := "248249021c97e810c12c3293d484cb748f2236a4a123a36e4a68fee78d0e7996", func := "loop.example/levellingnet/laws.FnExactTravelClose", spec := "fnExactTravelClose", unfollowed := true, recurses := true, apart := false }
def FnExactTravelCloseSaid : Prop := fnExactTravelCloseRow.holds Try.pinned (OpenSpec.ofChange fnExactTravelCloseSpec)

/-- ITS FALSE NEIGHBOUR: 'it returns false'. Refute it at one input. -/
def fnExactTravelCloseWrong : ChangeSpec := { name := "fnExactTravelClose", fn := fun _ => fun
  | [d] => { results := [.lit (.bool false)], args := [d] }
  | _ => none }
def FnExactTravelCloseWrongFalsely : Prop := fnExactTravelCloseRow.holds Try.pinned (OpenSpec.ofChange fnExactTravelCloseWrong)

/-- 'laws.FnTravelClose': WHATEVER THE INPUT: true; the input reads as it did. -/
def fnTravelCloseSpec : ChangeSpec := { name := "fnTravelClose", fn := fun _ => fun
  | [d] => { results := [.lit (.bool true)], args := [d] }
  | _ => none }
def fnTravelCloseRow : OpenClaim := { program := "ytffkojdmidhchaa", sum := "248249021c97e810c12c3293d484cb748f2236a4a123a36e4a68fee78d0e7996", func := "loop.example/levellingnet/laws.FnTravelClose", spec := "fnTravelClose", unfollowed := true, recurses := true, apart := false }
def FnTravelCloseSaid : Prop := fnTravelCloseRow.holds Try.pinned (OpenSpec.ofChange fnTravelCloseSpec)

/-- ITS FALSE NEIGHBOUR: 'it returns false'. Refute it at one input. -/
def fnTravelCloseWrong : ChangeSpec := { name := "fnTravelClose", fn := fun _ => fun
  | [d] => { results := [.lit (.bool false)], args := [d] }
  | _ => none }
def FnTravelCloseWrongFalsely : Prop := fnTravelCloseRow.holds Try.pinned (OpenSpec.ofChange fnTravelCloseWrong)

/-- 'laws.FnCrossQuad': WHATEVER THE INPUT: true; the input reads as it did. -/
def fnCrossQuadSpec : ChangeSpec := { name := "fnCrossQuad", fn := fun _ => fun
  | [d] => { results := [.lit (.bool true)], args := [d] }
  | _ => none }
def fnCrossQuadRow : OpenClaim := { program := "ytffkojdmidhchaa", sum := "248249021c97e810c12c3293d484cb748f2236a4a123a36e4a68fee78d0e7996", func := "loop.example/levellingnet/laws.FnCrossQuad", spec := "fnCrossQuad", unfollowed := true, recurses := true, apart := false }
def FnCrossQuadSaid : Prop := fnCrossQuadRow.holds Try.pinned (OpenSpec.ofChange fnCrossQuadSpec)

/-- ITS FALSE NEIGHBOUR: 'it returns false'. Refute it at one input. -/
def fnCrossQuadWrong : ChangeSpec := { name := "fnCrossQuad", fn := fun _ => fun
  | [d] => { results := [.lit (.bool false)], args := [d] }
  | _ => none }
def FnCrossQuadWrongFalsely : Prop := fnCrossQuadRow.holds Try.pinned (OpenSpec.ofChange fnCrossQuadWrong)

/-- 'laws.FnMarks': WHATEVER THE INPUT: true; the input reads as it did. -/
def fnMarksSpec : ChangeSpec := { name := "fnMarks", fn := fun _ => fun
  | [d] => { results := [.lit (.bool true)], args := [d] }
  | _ => none }
def fnMarksRow : OpenClaim := { program := "ytffkojdmidhchaa", sum := "248249021c97e810c12c3293d484cb748f2236a4a123a36e4a68fee78d0e7996", func := "loop.example/levellingnet/laws.FnMarks", spec := "fnMarks", unfollowed := true, recurses := true, apart := false }
def FnMarksSaid : Prop := fnMarksRow.holds Try.pinned (OpenSpec.ofChange fnMarksSpec)

/-- ITS FALSE NEIGHBOUR: 'it returns false'. Refute it at one input. -/
def fnMarksWrong : ChangeSpec := { name := "fnMarks", fn := fun _ => fun
  | [d] => { results := [.lit (.bool false)], args := [d] }
  | _ => none }
def FnMarksWrongFalsely : Prop := fnMarksRow.holds Try.pinned (OpenSpec.ofChange fnMarksWrong)

/- THE SECOND FORM. 'bulk': how many values and letters a reading holds, each counted each time it is reached (what is shared counts as often as it is met; a slice's spare places count too). A statement '..UptoSaid' is the law's where the arguments, and the package variables that the reading takes, are together of bulk at most 1048576: NARROWER than '..Said'. Prove '..Said' where nothing that the law and all that it calls make is longer than what came in: it says more and counts as full. Else prove '..UptoSaid'. A law counts once. -/
mutual
def uptoBulk {H : Type} : DataW H → Nat
  | .lit (.string bytes) => bytes.length + 1
  | .lit _ => 1
  | .nil => 1
  | .ptr d => uptoBulk d + 1
  | .slice elems spare => uptoBulkAll elems + uptoBulkAll spare + 1
  | .agg parts => uptoBulkAll parts + 1
  | .iface _ d => uptoBulk d + 1
  | .map entries => uptoBulkEntries entries + 1
  | .held _ => 1
def uptoBulkAll {H : Type} : List (DataW H) → Nat
  | [] => 0
  | d :: r => uptoBulk d + uptoBulkAll r
def uptoBulkEntries {H : Type} : List (Lit × DataW H) → Nat
  | [] => 0
  | x :: r => uptoBulkEntry x + uptoBulkEntries r
def uptoBulkEntry {H : Type} : Lit × DataW H → Nat
  | (.string bytes, d) => bytes.length + uptoBulk d + 1
  | (_, d) => uptoBulk d + 1
 end
def uptoSmall : (H : Type) → List (DataW H) → Bool := fun _ ds => decide (uptoBulkAll ds ≤ 1048576)
def OpenSpec.upto (s : _root_.Go.ChangeSpec) : _root_.Go.OpenSpec := { _root_.Go.OpenSpec.ofChange s with cond := some uptoSmall }

/-- 'laws.FnTravelArea', WHERE WHAT IT READS IS OF BULK AT MOST 1048576: true; the input reads as it did. -/
def fnTravelAreaUptoRow : OpenClaim := { program := "ytffkojdmidhchaa", sum := "248249021c97e810c12c3293d484cb748f2236a4a123a36e4a68fee78d0e7996", func := "loop.example/levellingnet/laws.FnTravelArea", spec := "fnTravelArea", unfollowed := true, recurses := true, apart := false, narrowed := true }
def FnTravelAreaUptoSaid : Prop := fnTravelAreaUptoRow.holds Try.pinned (OpenSpec.upto fnTravelAreaSpec)

/-- 'laws.FnSplit', WHERE WHAT IT READS IS OF BULK AT MOST 1048576: true; the input reads as it did. -/
def fnSplitUptoRow : OpenClaim := { program := "ytffkojdmidhchaa", sum := "248249021c97e810c12c3293d484cb748f2236a4a123a36e4a68fee78d0e7996", func := "loop.example/levellingnet/laws.FnSplit", spec := "fnSplit", unfollowed := true, recurses := true, apart := false, narrowed := true }
def FnSplitUptoSaid : Prop := fnSplitUptoRow.holds Try.pinned (OpenSpec.upto fnSplitSpec)

/-- 'laws.FnShareParcel', WHERE WHAT IT READS IS OF BULK AT MOST 1048576: true; the input reads as it did. -/
def fnShareParcelUptoRow : OpenClaim := { program := "ytffkojdmidhchaa", sum := "248249021c97e810c12c3293d484cb748f2236a4a123a36e4a68fee78d0e7996", func := "loop.example/levellingnet/laws.FnShareParcel", spec := "fnShareParcel", unfollowed := true, recurses := true, apart := false, narrowed := true }
def FnShareParcelUptoSaid : Prop := fnShareParcelUptoRow.holds Try.pinned (OpenSpec.upto fnShareParcelSpec)

/-- 'laws.FnExactGridTurn', WHERE WHAT IT READS IS OF BULK AT MOST 1048576: true; the input reads as it did. -/
def fnExactGridTurnUptoRow : OpenClaim := { program := "ytffkojdmidhchaa", sum := "248249021c97e810c12c3293d484cb748f2236a4a123a36e4a68fee78d0e7996", func := "loop.example/levellingnet/laws.FnExactGridTurn", spec := "fnExactGridTurn", apart := false, narrowed := true }
def FnExactGridTurnUptoSaid : Prop := fnExactGridTurnUptoRow.holds Try.pinned (OpenSpec.upto fnExactGridTurnSpec)

/-- 'laws.FnExactCrossAt', WHERE WHAT IT READS IS OF BULK AT MOST 1048576: true; the input reads as it did. -/
def fnExactCrossAtUptoRow : OpenClaim := { program := "ytffkojdmidhchaa", sum := "248249021c97e810c12c3293d484cb748f2236a4a123a36e4a68fee78d0e7996", func := "loop.example/levellingnet/laws.FnExactCrossAt", spec := "fnExactCrossAt", apart := false, narrowed := true }
def FnExactCrossAtUptoSaid : Prop := fnExactCrossAtUptoRow.holds Try.pinned (OpenSpec.upto fnExactCrossAtSpec)

/-- 'laws.FnExactHaulPlan', WHERE WHAT IT READS IS OF BULK AT MOST 1048576: true; the input reads as it did. -/
def fnExactHaulPlanUptoRow : OpenClaim := { program := "ytffkojdmidhchaa", sum := "248249021c97e810c12c3293d484cb748f2236a4a123a36e4a68fee78d0e7996", func := "loop.example/levellingnet/laws.FnExactHaulPlan", spec := "fnExactHaulPlan", apart := false, narrowed := true }
def FnExactHaulPlanUptoSaid : Prop := fnExactHaulPlanUptoRow.holds Try.pinned (OpenSpec.upto fnExactHaulPlanSpec)

/-- 'laws.FnHaulPlan', WHERE WHAT IT READS IS OF BULK AT MOST 1048576: true; the input reads as it did. -/
def fnHaulPlanUptoRow : OpenClaim := { program := "ytffkojdmidhchaa", sum := "248249021c97e810c12c3293d484cb748f2236a4a123a36e4a68fee78d0e7996", func := "loop.example/levellingnet/laws.FnHaulPlan", spec := "fnHaulPlan", apart := false, narrowed := true }
def FnHaulPlanUptoSaid : Prop := fnHaulPlanUptoRow.holds Try.pinned (OpenSpec.upto fnHaulPlanSpec)

/-- 'laws.FnHaulLevel', WHERE WHAT IT READS IS OF BULK AT MOST 1048576: true; the input reads as it did. -/
def fnHaulLevelUptoRow : OpenClaim := { program := "ytffkojdmidhchaa", sum := "248249021c97e810c12c3293d484cb748f2236a4a123a36e4a68fee78d0e7996", func := "loop.example/levellingnet/laws.FnHaulLevel", spec := "fnHaulLevel", unfollowed := true, recurses := true, apart := false, narrowed := true }
def FnHaulLevelUptoSaid : Prop := fnHaulLevelUptoRow.holds Try.pinned (OpenSpec.upto fnHaulLevelSpec)

/-- 'laws.FnExactTravelClose', WHERE WHAT IT READS IS OF BULK AT MOST 1048576: true; the input reads as it did. -/
def fnExactTravelCloseUptoRow : OpenClaim := { program := "ytffkojdmidhchaa", sum := "248249021c97e810c12c3293d484cb748f2236a4a123a36e4a68fee78d0e7996", func := "loop.example/levellingnet/laws.FnExactTravelClose", spec := "fnExactTravelClose", unfollowed := true, recurses := true, apart := false, narrowed := true }
def FnExactTravelCloseUptoSaid : Prop := fnExactTravelCloseUptoRow.holds Try.pinned (OpenSpec.upto fnExactTravelCloseSpec)

/-- 'laws.FnTravelClose', WHERE WHAT IT READS IS OF BULK AT MOST 1048576: true; the input reads as it did. -/
def fnTravelCloseUptoRow : OpenClaim := { program := "ytffkojdmidhchaa", sum := "248249021c97e810c12c3293d484cb748f2236a4a123a36e4a68fee78d0e7996", func := "loop.example/levellingnet/laws.FnTravelClose", spec := "fnTravelClose", unfollowed := true, recurses := true, apart := false, narrowed := true }
def FnTravelCloseUptoSaid : Prop := fnTravelCloseUptoRow.holds Try.pinned (OpenSpec.upto fnTravelCloseSpec)

/-- 'laws.FnCrossQuad', WHERE WHAT IT READS IS OF BULK AT MOST 1048576: true; the input reads as it did. -/
def fnCrossQuadUptoRow : OpenClaim := { program := "ytffkojdmidhchaa", sum := "248249021c97e810c12c3293d484cb748f2236a4a123a36e4a68fee78d0e7996", func := "loop.example/levellingnet/laws.FnCrossQuad", spec := "fnCrossQuad", unfollowed := true, recurses := true, apart := false, narrowed := true }
def FnCrossQuadUptoSaid : Prop := fnCrossQuadUptoRow.holds Try.pinned (OpenSpec.upto fnCrossQuadSpec)

/-- 'laws.FnMarks', WHERE WHAT IT READS IS OF BULK AT MOST 1048576: true; the input reads as it did. -/
def fnMarksUptoRow : OpenClaim := { program := "ytffkojdmidhchaa", sum := "248249021c97e810c12c3293d484cb748f2236a4a123a36e4a68fee78d0e7996", func := "loop.example/levellingnet/laws.FnMarks", spec := "fnMarks", unfollowed := true, recurses := true, apart := false, narrowed := true }
def FnMarksUptoSaid : Prop := fnMarksUptoRow.holds Try.pinned (OpenSpec.upto fnMarksSpec)

end Rows
end Go.Proofs.Ytffkojdmidhchaa
