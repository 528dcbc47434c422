/-
  No cell of these rows narrows 'for every input' (looked for: loops, veiled, ifaces, maps, wideKeys, modest, calm, conditions, laid).
  DERIVED. THE GIVEN ROWS OF THIS SEAT. 6 by the template 'for every input the law returns true; each argument reads behind the call as it read before'; 0 by the template 'total and deterministic' (their statements: YtcdjgfamgnhffaaTotals.lean).
  GIVEN WITH THE SEED: the statements are not yours to turn. If you find one false, say at which input.
  Laid BY PROGRAM, IN A SANDBOX (cutbox-rows.mjs): the forced cells as the released guide's own fill.sh prints them over the translation 84a88a4faa823755… (all of the seat's roots in one cut). By AI agents, Wed Nov 11 2026. No macro, syntax, notation, axiom, sorry.
-/
import Derived.Test.YtcdjgfamgnhffaaChecked
import GoSem.Claim
import GoSem.ClaimJoined
import GoSem.ClaimMapViews
import Derived.JoinedTies
import Derived.KernelRfl
namespace Go.Proofs.Ytcdjgfamgnhffaa
/- THE CELL 'sum', in the pinned program and in every row, IS THE sha256 OF THE DUMP (.gsa) THAT YtcdjgfamgnhffaaProg.lean LOADS. Nothing in Lean hashes anything: it is a label: what it is worth is what the hold of that sum in a sandbox is worth. -/
noncomputable def Try.pinned : Pinned := { name := "ytcdjgfamgnhffaa", sum := "84a88a4faa823755b407e4b54bc79d9081285fd3201dc0ed309c203ec8f75130", checked := Try.checked }
namespace Rows
def none {H : Type} : Left H := { results := [], args := [] }

/-- 'brocadelaw11.ShapeValidates': WHATEVER THE INPUT: true; the input reads as it did. -/
def shapeValidatesSpec : ChangeSpec := { name := "shapeValidates", fn := fun _ => fun
  | [d] => { results := [.lit (.bool true)], args := [d] }
  | _ => none }
def shapeValidatesRow : OpenClaim := { program := "ytcdjgfamgnhffaa", sum := "84a88a4faa823755b407e4b54bc79d9081285fd3201dc0ed309c203ec8f75130", func := "brocade/brocadelaw11.ShapeValidates", spec := "shapeValidates", apart := false }
def ShapeValidatesSaid : Prop := shapeValidatesRow.holds Try.pinned (OpenSpec.ofChange shapeValidatesSpec)

/-- ITS FALSE NEIGHBOUR: 'it returns false'. Refute it at one input. -/
def shapeValidatesWrong : ChangeSpec := { name := "shapeValidates", fn := fun _ => fun
  | [d] => { results := [.lit (.bool false)], args := [d] }
  | _ => none }
def ShapeValidatesWrongFalsely : Prop := shapeValidatesRow.holds Try.pinned (OpenSpec.ofChange shapeValidatesWrong)

/-- 'brocadelaw11.ShapePermutes': WHATEVER THE INPUT: true; the input reads as it did. -/
def shapePermutesSpec : ChangeSpec := { name := "shapePermutes", fn := fun _ => fun
  | [d1, d2] => { results := [.lit (.bool true)], args := [d1, d2] }
  | _ => none }
def shapePermutesRow : OpenClaim := { program := "ytcdjgfamgnhffaa", sum := "84a88a4faa823755b407e4b54bc79d9081285fd3201dc0ed309c203ec8f75130", func := "brocade/brocadelaw11.ShapePermutes", spec := "shapePermutes", apart := false }
def ShapePermutesSaid : Prop := shapePermutesRow.holds Try.pinned (OpenSpec.ofChange shapePermutesSpec)

/-- ITS FALSE NEIGHBOUR: 'it returns false'. Refute it at one input. -/
def shapePermutesWrong : ChangeSpec := { name := "shapePermutes", fn := fun _ => fun
  | [d1, d2] => { results := [.lit (.bool false)], args := [d1, d2] }
  | _ => none }
def ShapePermutesWrongFalsely : Prop := shapePermutesRow.holds Try.pinned (OpenSpec.ofChange shapePermutesWrong)

/-- 'brocadelaw11.ShapeIndexes': WHATEVER THE INPUT: true; the input reads as it did. -/
def shapeIndexesSpec : ChangeSpec := { name := "shapeIndexes", fn := fun _ => fun
  | [d1, d2, d3] => { results := [.lit (.bool true)], args := [d1, d2, d3] }
  | _ => none }
def shapeIndexesRow : OpenClaim := { program := "ytcdjgfamgnhffaa", sum := "84a88a4faa823755b407e4b54bc79d9081285fd3201dc0ed309c203ec8f75130", func := "brocade/brocadelaw11.ShapeIndexes", spec := "shapeIndexes", apart := false }
def ShapeIndexesSaid : Prop := shapeIndexesRow.holds Try.pinned (OpenSpec.ofChange shapeIndexesSpec)

/-- ITS FALSE NEIGHBOUR: 'it returns false'. Refute it at one input. -/
def shapeIndexesWrong : ChangeSpec := { name := "shapeIndexes", fn := fun _ => fun
  | [d1, d2, d3] => { results := [.lit (.bool false)], args := [d1, d2, d3] }
  | _ => none }
def ShapeIndexesWrongFalsely : Prop := shapeIndexesRow.holds Try.pinned (OpenSpec.ofChange shapeIndexesWrong)

/-- 'brocadelaw11.ShapeCounts': WHATEVER THE INPUT: true; the input reads as it did. -/
def shapeCountsSpec : ChangeSpec := { name := "shapeCounts", fn := fun _ => fun
  | [d] => { results := [.lit (.bool true)], args := [d] }
  | _ => none }
def shapeCountsRow : OpenClaim := { program := "ytcdjgfamgnhffaa", sum := "84a88a4faa823755b407e4b54bc79d9081285fd3201dc0ed309c203ec8f75130", func := "brocade/brocadelaw11.ShapeCounts", spec := "shapeCounts", apart := false }
def ShapeCountsSaid : Prop := shapeCountsRow.holds Try.pinned (OpenSpec.ofChange shapeCountsSpec)

/-- ITS FALSE NEIGHBOUR: 'it returns false'. Refute it at one input. -/
def shapeCountsWrong : ChangeSpec := { name := "shapeCounts", fn := fun _ => fun
  | [d] => { results := [.lit (.bool false)], args := [d] }
  | _ => none }
def ShapeCountsWrongFalsely : Prop := shapeCountsRow.holds Try.pinned (OpenSpec.ofChange shapeCountsWrong)

/-- 'brocadelaw11.ShapeBroadcasts': WHATEVER THE INPUT: true; the input reads as it did. -/
def shapeBroadcastsSpec : ChangeSpec := { name := "shapeBroadcasts", fn := fun _ => fun
  | [d1, d2] => { results := [.lit (.bool true)], args := [d1, d2] }
  | _ => none }
def shapeBroadcastsRow : OpenClaim := { program := "ytcdjgfamgnhffaa", sum := "84a88a4faa823755b407e4b54bc79d9081285fd3201dc0ed309c203ec8f75130", func := "brocade/brocadelaw11.ShapeBroadcasts", spec := "shapeBroadcasts", apart := false }
def ShapeBroadcastsSaid : Prop := shapeBroadcastsRow.holds Try.pinned (OpenSpec.ofChange shapeBroadcastsSpec)

/-- ITS FALSE NEIGHBOUR: 'it returns false'. Refute it at one input. -/
def shapeBroadcastsWrong : ChangeSpec := { name := "shapeBroadcasts", fn := fun _ => fun
  | [d1, d2] => { results := [.lit (.bool false)], args := [d1, d2] }
  | _ => none }
def ShapeBroadcastsWrongFalsely : Prop := shapeBroadcastsRow.holds Try.pinned (OpenSpec.ofChange shapeBroadcastsWrong)

/-- 'brocadelaw11.ShapeSlices': WHATEVER THE INPUT: true; the input reads as it did. -/
def shapeSlicesSpec : ChangeSpec := { name := "shapeSlices", fn := fun _ => fun
  | [d1, d2] => { results := [.lit (.bool true)], args := [d1, d2] }
  | _ => none }
def shapeSlicesRow : OpenClaim := { program := "ytcdjgfamgnhffaa", sum := "84a88a4faa823755b407e4b54bc79d9081285fd3201dc0ed309c203ec8f75130", func := "brocade/brocadelaw11.ShapeSlices", spec := "shapeSlices", apart := false }
def ShapeSlicesSaid : Prop := shapeSlicesRow.holds Try.pinned (OpenSpec.ofChange shapeSlicesSpec)

/-- ITS FALSE NEIGHBOUR: 'it returns false'. Refute it at one input. -/
def shapeSlicesWrong : ChangeSpec := { name := "shapeSlices", fn := fun _ => fun
  | [d1, d2] => { results := [.lit (.bool false)], args := [d1, d2] }
  | _ => none }
def ShapeSlicesWrongFalsely : Prop := shapeSlicesRow.holds Try.pinned (OpenSpec.ofChange shapeSlicesWrong)

/- THE SECOND FORM. 'bulk': how many values and letters a reading holds, each counted each time it is reached (what is shared counts as often as it is met; a slice's spare places count too). A statement '..UptoSaid' is the law's where the arguments, and the package variables that the reading takes, are together of bulk at most 1048576: NARROWER than '..Said'. Prove '..Said' where nothing that the law and all that it calls make is longer than what came in: it says more and counts as full. Else prove '..UptoSaid'. A law counts once. -/
mutual
def uptoBulk {H : Type} : DataW H → Nat
  | .lit (.string bytes) => bytes.length + 1
  | .lit _ => 1
  | .nil => 1
  | .ptr d => uptoBulk d + 1
  | .slice elems spare => uptoBulkAll elems + uptoBulkAll spare + 1
  | .agg parts => uptoBulkAll parts + 1
  | .iface _ d => uptoBulk d + 1
  | .map entries => uptoBulkEntries entries + 1
  | .held _ => 1
def uptoBulkAll {H : Type} : List (DataW H) → Nat
  | [] => 0
  | d :: r => uptoBulk d + uptoBulkAll r
def uptoBulkEntries {H : Type} : List (Lit × DataW H) → Nat
  | [] => 0
  | x :: r => uptoBulkEntry x + uptoBulkEntries r
def uptoBulkEntry {H : Type} : Lit × DataW H → Nat
  | (.string bytes, d) => bytes.length + uptoBulk d + 1
  | (_, d) => uptoBulk d + 1
 end
def uptoSmall : (H : Type) → List (DataW H) → Bool := fun _ ds => decide (uptoBulkAll ds ≤ 1048576)
def OpenSpec.upto (s : _root_.Go.ChangeSpec) : _root_.Go.OpenSpec := { _root_.Go.OpenSpec.ofChange s with cond := some uptoSmall }

/-- 'brocadelaw11.ShapeValidates', WHERE WHAT IT READS IS OF BULK AT MOST 1048576: true; the input reads as it did. -/
def shapeValidatesUptoRow : OpenClaim := { program := "ytcdjgfamgnhffaa", sum := "84a88a4faa823755b407e4b54bc79d9081285fd3201dc0ed309c203ec8f75130", func := "brocade/brocadelaw11.ShapeValidates", spec := "shapeValidates", apart := false, narrowed := true }
def ShapeValidatesUptoSaid : Prop := shapeValidatesUptoRow.holds Try.pinned (OpenSpec.upto shapeValidatesSpec)

/-- 'brocadelaw11.ShapePermutes', WHERE WHAT IT READS IS OF BULK AT MOST 1048576: true; the input reads as it did. -/
def shapePermutesUptoRow : OpenClaim := { program := "ytcdjgfamgnhffaa", sum := "84a88a4faa823755b407e4b54bc79d9081285fd3201dc0ed309c203ec8f75130", func := "brocade/brocadelaw11.ShapePermutes", spec := "shapePermutes", apart := false, narrowed := true }
def ShapePermutesUptoSaid : Prop := shapePermutesUptoRow.holds Try.pinned (OpenSpec.upto shapePermutesSpec)

/-- 'brocadelaw11.ShapeIndexes', WHERE WHAT IT READS IS OF BULK AT MOST 1048576: true; the input reads as it did. -/
def shapeIndexesUptoRow : OpenClaim := { program := "ytcdjgfamgnhffaa", sum := "84a88a4faa823755b407e4b54bc79d9081285fd3201dc0ed309c203ec8f75130", func := "brocade/brocadelaw11.ShapeIndexes", spec := "shapeIndexes", apart := false, narrowed := true }
def ShapeIndexesUptoSaid : Prop := shapeIndexesUptoRow.holds Try.pinned (OpenSpec.upto shapeIndexesSpec)

/-- 'brocadelaw11.ShapeCounts', WHERE WHAT IT READS IS OF BULK AT MOST 1048576: true; the input reads as it did. -/
def shapeCountsUptoRow : OpenClaim := { program := "ytcdjgfamgnhffaa", sum := "84a88a4faa823755b407e4b54bc79d9081285fd3201dc0ed309c203ec8f75130", func := "brocade/brocadelaw11.ShapeCounts", spec := "shapeCounts", apart := false, narrowed := true }
def ShapeCountsUptoSaid : Prop := shapeCountsUptoRow.holds Try.pinned (OpenSpec.upto shapeCountsSpec)

/-- 'brocadelaw11.ShapeBroadcasts', WHERE WHAT IT READS IS OF BULK AT MOST 1048576: true; the input reads as it did. -/
def shapeBroadcastsUptoRow : OpenClaim := { program := "ytcdjgfamgnhffaa", sum := "84a88a4faa823755b407e4b54bc79d9081285fd3201dc0ed309c203ec8f75130", func := "brocade/brocadelaw11.ShapeBroadcasts", spec := "shapeBroadcasts", apart := false, narrowed := true }
def ShapeBroadcastsUptoSaid : Prop := shapeBroadcastsUptoRow.holds Try.pinned (OpenSpec.upto shapeBroadcastsSpec)

/-- 'brocadelaw11.ShapeSlices', WHERE WHAT IT READS IS OF BULK AT MOST 1048576: true; the input reads as it did. -/
def shapeSlicesUptoRow : OpenClaim := { program := "ytcdjgfamgnhffaa", sum := "84a88a4faa823755b407e4b54bc79d9081285fd3201dc0ed309c203ec8f75130", func := "brocade/brocadelaw11.ShapeSlices", spec := "shapeSlices", apart := false, narrowed := true }
def ShapeSlicesUptoSaid : Prop := shapeSlicesUptoRow.holds Try.pinned (OpenSpec.upto shapeSlicesSpec)

end Rows
end Go.Proofs.Ytcdjgfamgnhffaa
