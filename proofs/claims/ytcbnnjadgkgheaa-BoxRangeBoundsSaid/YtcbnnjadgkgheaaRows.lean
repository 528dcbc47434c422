/-
  No cell of these rows narrows 'for every input' (looked for: loops, veiled, ifaces, maps, wideKeys, modest, calm, conditions, laid).
  DERIVED. THE GIVEN ROWS OF THIS SEAT. 12 by the template 'for every input the law returns true; each argument reads behind the call as it read before'; 0 by the template 'total and deterministic' (their statements: YtcbnnjadgkgheaaTotals.lean).
  GIVEN WITH THE SEED: the statements are not yours to turn. If you find one false, say at which input.
  Laid BY PROGRAM, IN A SANDBOX (cutbox-rows.mjs): the forced cells as the released guide's own fill.sh prints them over the translation b707d54c9cb1c679… (all of the seat's roots in one cut). By AI agents, Wed Nov 11 2026. No macro, syntax, notation, axiom, sorry.
-/
import Derived.Test.YtcbnnjadgkgheaaChecked
import GoSem.Claim
import GoSem.ClaimJoined
import GoSem.ClaimMapViews
import Derived.JoinedTies
import Derived.KernelRfl
namespace Go.Proofs.Ytcbnnjadgkgheaa
/- THE CELL 'sum', in the pinned program and in every row, IS THE sha256 OF THE DUMP (.gsa) THAT YtcbnnjadgkgheaaProg.lean LOADS. Nothing in Lean hashes anything: it is a label: what it is worth is what the hold of that sum in a sandbox is worth. -/
noncomputable def Try.pinned : Pinned := { name := "ytcbnnjadgkgheaa", sum := "b707d54c9cb1c6797d2004b9719e32dd3a7fb43505ae9d78715f57500a8e0404", checked := Try.checked }
namespace Rows
def none {H : Type} : Left H := { results := [], args := [] }

/-- 'brocadelaw52.ShardValidates': WHATEVER THE INPUT: true; the input reads as it did. -/
def shardValidatesSpec : ChangeSpec := { name := "shardValidates", fn := fun _ => fun
  | [d1, d2] => { results := [.lit (.bool true)], args := [d1, d2] }
  | _ => none }
def shardValidatesRow : OpenClaim := { program := "ytcbnnjadgkgheaa", sum := "b707d54c9cb1c6797d2004b9719e32dd3a7fb43505ae9d78715f57500a8e0404", func := "brocade/brocadelaw52.ShardValidates", spec := "shardValidates", apart := false }
def ShardValidatesSaid : Prop := shardValidatesRow.holds Try.pinned (OpenSpec.ofChange shardValidatesSpec)

/-- ITS FALSE NEIGHBOUR: 'it returns false'. Refute it at one input. -/
def shardValidatesWrong : ChangeSpec := { name := "shardValidates", fn := fun _ => fun
  | [d1, d2] => { results := [.lit (.bool false)], args := [d1, d2] }
  | _ => none }
def ShardValidatesWrongFalsely : Prop := shardValidatesRow.holds Try.pinned (OpenSpec.ofChange shardValidatesWrong)

/-- 'brocadelaw51.MeshCoordinates': WHATEVER THE INPUT: true; the input reads as it did. -/
def meshCoordinatesSpec : ChangeSpec := { name := "meshCoordinates", fn := fun _ => fun
  | [d1, d2, d3] => { results := [.lit (.bool true)], args := [d1, d2, d3] }
  | _ => none }
def meshCoordinatesRow : OpenClaim := { program := "ytcbnnjadgkgheaa", sum := "b707d54c9cb1c6797d2004b9719e32dd3a7fb43505ae9d78715f57500a8e0404", func := "brocade/brocadelaw51.MeshCoordinates", spec := "meshCoordinates", apart := false }
def MeshCoordinatesSaid : Prop := meshCoordinatesRow.holds Try.pinned (OpenSpec.ofChange meshCoordinatesSpec)

/-- ITS FALSE NEIGHBOUR: 'it returns false'. Refute it at one input. -/
def meshCoordinatesWrong : ChangeSpec := { name := "meshCoordinates", fn := fun _ => fun
  | [d1, d2, d3] => { results := [.lit (.bool false)], args := [d1, d2, d3] }
  | _ => none }
def MeshCoordinatesWrongFalsely : Prop := meshCoordinatesRow.holds Try.pinned (OpenSpec.ofChange meshCoordinatesWrong)

/-- 'brocadelaw51.MeshGroups': WHATEVER THE INPUT: true; the input reads as it did. -/
def meshGroupsSpec : ChangeSpec := { name := "meshGroups", fn := fun _ => fun
  | [d1, d2, d3] => { results := [.lit (.bool true)], args := [d1, d2, d3] }
  | _ => none }
def meshGroupsRow : OpenClaim := { program := "ytcbnnjadgkgheaa", sum := "b707d54c9cb1c6797d2004b9719e32dd3a7fb43505ae9d78715f57500a8e0404", func := "brocade/brocadelaw51.MeshGroups", spec := "meshGroups", apart := false }
def MeshGroupsSaid : Prop := meshGroupsRow.holds Try.pinned (OpenSpec.ofChange meshGroupsSpec)

/-- ITS FALSE NEIGHBOUR: 'it returns false'. Refute it at one input. -/
def meshGroupsWrong : ChangeSpec := { name := "meshGroups", fn := fun _ => fun
  | [d1, d2, d3] => { results := [.lit (.bool false)], args := [d1, d2, d3] }
  | _ => none }
def MeshGroupsWrongFalsely : Prop := meshGroupsRow.holds Try.pinned (OpenSpec.ofChange meshGroupsWrong)

/-- 'brocadelaw51.MeshRoundTrip': WHATEVER THE INPUT: true; the input reads as it did. -/
def meshRoundTripSpec : ChangeSpec := { name := "meshRoundTrip", fn := fun _ => fun
  | [d] => { results := [.lit (.bool true)], args := [d] }
  | _ => none }
def meshRoundTripRow : OpenClaim := { program := "ytcbnnjadgkgheaa", sum := "b707d54c9cb1c6797d2004b9719e32dd3a7fb43505ae9d78715f57500a8e0404", func := "brocade/brocadelaw51.MeshRoundTrip", spec := "meshRoundTrip", apart := false }
def MeshRoundTripSaid : Prop := meshRoundTripRow.holds Try.pinned (OpenSpec.ofChange meshRoundTripSpec)

/-- ITS FALSE NEIGHBOUR: 'it returns false'. Refute it at one input. -/
def meshRoundTripWrong : ChangeSpec := { name := "meshRoundTrip", fn := fun _ => fun
  | [d] => { results := [.lit (.bool false)], args := [d] }
  | _ => none }
def MeshRoundTripWrongFalsely : Prop := meshRoundTripRow.holds Try.pinned (OpenSpec.ofChange meshRoundTripWrong)

/-- 'brocadelaw51.MeshPartition': WHATEVER THE INPUT: true; the input reads as it did. -/
def meshPartitionSpec : ChangeSpec := { name := "meshPartition", fn := fun _ => fun
  | [d1, d2] => { results := [.lit (.bool true)], args := [d1, d2] }
  | _ => none }
def meshPartitionRow : OpenClaim := { program := "ytcbnnjadgkgheaa", sum := "b707d54c9cb1c6797d2004b9719e32dd3a7fb43505ae9d78715f57500a8e0404", func := "brocade/brocadelaw51.MeshPartition", spec := "meshPartition", apart := false }
def MeshPartitionSaid : Prop := meshPartitionRow.holds Try.pinned (OpenSpec.ofChange meshPartitionSpec)

/-- ITS FALSE NEIGHBOUR: 'it returns false'. Refute it at one input. -/
def meshPartitionWrong : ChangeSpec := { name := "meshPartition", fn := fun _ => fun
  | [d1, d2] => { results := [.lit (.bool false)], args := [d1, d2] }
  | _ => none }
def MeshPartitionWrongFalsely : Prop := meshPartitionRow.holds Try.pinned (OpenSpec.ofChange meshPartitionWrong)

/-- 'brocadelaw09.BoxValidates': WHATEVER THE INPUT: true; the input reads as it did. -/
def boxValidatesSpec : ChangeSpec := { name := "boxValidates", fn := fun _ => fun
  | [d] => { results := [.lit (.bool true)], args := [d] }
  | _ => none }
def boxValidatesRow : OpenClaim := { program := "ytcbnnjadgkgheaa", sum := "b707d54c9cb1c6797d2004b9719e32dd3a7fb43505ae9d78715f57500a8e0404", func := "brocade/brocadelaw09.BoxValidates", spec := "boxValidates", unfollowed := true, recurses := true, apart := false }
def BoxValidatesSaid : Prop := boxValidatesRow.holds Try.pinned (OpenSpec.ofChange boxValidatesSpec)

/-- ITS FALSE NEIGHBOUR: 'it returns false'. Refute it at one input. -/
def boxValidatesWrong : ChangeSpec := { name := "boxValidates", fn := fun _ => fun
  | [d] => { results := [.lit (.bool false)], args := [d] }
  | _ => none }
def BoxValidatesWrongFalsely : Prop := boxValidatesRow.holds Try.pinned (OpenSpec.ofChange boxValidatesWrong)

/-- 'brocadelaw09.BoxEnumerates': WHATEVER THE INPUT: true; the input reads as it did. -/
def boxEnumeratesSpec : ChangeSpec := { name := "boxEnumerates", fn := fun _ => fun
  | [d1, d2] => { results := [.lit (.bool true)], args := [d1, d2] }
  | _ => none }
def boxEnumeratesRow : OpenClaim := { program := "ytcbnnjadgkgheaa", sum := "b707d54c9cb1c6797d2004b9719e32dd3a7fb43505ae9d78715f57500a8e0404", func := "brocade/brocadelaw09.BoxEnumerates", spec := "boxEnumerates", unfollowed := true, recurses := true, apart := false }
def BoxEnumeratesSaid : Prop := boxEnumeratesRow.holds Try.pinned (OpenSpec.ofChange boxEnumeratesSpec)

/-- ITS FALSE NEIGHBOUR: 'it returns false'. Refute it at one input. -/
def boxEnumeratesWrong : ChangeSpec := { name := "boxEnumerates", fn := fun _ => fun
  | [d1, d2] => { results := [.lit (.bool false)], args := [d1, d2] }
  | _ => none }
def BoxEnumeratesWrongFalsely : Prop := boxEnumeratesRow.holds Try.pinned (OpenSpec.ofChange boxEnumeratesWrong)

/-- 'brocadelaw09.BoxRange': WHATEVER THE INPUT: true; the input reads as it did. -/
def boxRangeSpec : ChangeSpec := { name := "boxRange", fn := fun _ => fun
  | [d1, d2, d3] => { results := [.lit (.bool true)], args := [d1, d2, d3] }
  | _ => none }
def boxRangeRow : OpenClaim := { program := "ytcbnnjadgkgheaa", sum := "b707d54c9cb1c6797d2004b9719e32dd3a7fb43505ae9d78715f57500a8e0404", func := "brocade/brocadelaw09.BoxRange", spec := "boxRange", unfollowed := true, recurses := true, apart := false }
def BoxRangeSaid : Prop := boxRangeRow.holds Try.pinned (OpenSpec.ofChange boxRangeSpec)

/-- ITS FALSE NEIGHBOUR: 'it returns false'. Refute it at one input. -/
def boxRangeWrong : ChangeSpec := { name := "boxRange", fn := fun _ => fun
  | [d1, d2, d3] => { results := [.lit (.bool false)], args := [d1, d2, d3] }
  | _ => none }
def BoxRangeWrongFalsely : Prop := boxRangeRow.holds Try.pinned (OpenSpec.ofChange boxRangeWrong)

/-- 'brocadelaw09.BoxRangeBounds': WHATEVER THE INPUT: true; the input reads as it did. -/
def boxRangeBoundsSpec : ChangeSpec := { name := "boxRangeBounds", fn := fun _ => fun
  | [d1, d2, d3] => { results := [.lit (.bool true)], args := [d1, d2, d3] }
  | _ => none }
def boxRangeBoundsRow : OpenClaim := { program := "ytcbnnjadgkgheaa", sum := "b707d54c9cb1c6797d2004b9719e32dd3a7fb43505ae9d78715f57500a8e0404", func := "brocade/brocadelaw09.BoxRangeBounds", spec := "boxRangeBounds", unfollowed := true, recurses := true, apart := false }
def BoxRangeBoundsSaid : Prop := boxRangeBoundsRow.holds Try.pinned (OpenSpec.ofChange boxRangeBoundsSpec)

/-- ITS FALSE NEIGHBOUR: 'it returns false'. Refute it at one input. -/
def boxRangeBoundsWrong : ChangeSpec := { name := "boxRangeBounds", fn := fun _ => fun
  | [d1, d2, d3] => { results := [.lit (.bool false)], args := [d1, d2, d3] }
  | _ => none }
def BoxRangeBoundsWrongFalsely : Prop := boxRangeBoundsRow.holds Try.pinned (OpenSpec.ofChange boxRangeBoundsWrong)

/-- 'brocadelaw09.BoxPoints': WHATEVER THE INPUT: true; the input reads as it did. -/
def boxPointsSpec : ChangeSpec := { name := "boxPoints", fn := fun _ => fun
  | [d1, d2, d3] => { results := [.lit (.bool true)], args := [d1, d2, d3] }
  | _ => none }
def boxPointsRow : OpenClaim := { program := "ytcbnnjadgkgheaa", sum := "b707d54c9cb1c6797d2004b9719e32dd3a7fb43505ae9d78715f57500a8e0404", func := "brocade/brocadelaw09.BoxPoints", spec := "boxPoints", unfollowed := true, recurses := true, apart := false }
def BoxPointsSaid : Prop := boxPointsRow.holds Try.pinned (OpenSpec.ofChange boxPointsSpec)

/-- ITS FALSE NEIGHBOUR: 'it returns false'. Refute it at one input. -/
def boxPointsWrong : ChangeSpec := { name := "boxPoints", fn := fun _ => fun
  | [d1, d2, d3] => { results := [.lit (.bool false)], args := [d1, d2, d3] }
  | _ => none }
def BoxPointsWrongFalsely : Prop := boxPointsRow.holds Try.pinned (OpenSpec.ofChange boxPointsWrong)

/-- 'brocadelaw09.BoxTotalOrder': WHATEVER THE INPUT: true; the input reads as it did. -/
def boxTotalOrderSpec : ChangeSpec := { name := "boxTotalOrder", fn := fun _ => fun
  | [d1, d2, d3] => { results := [.lit (.bool true)], args := [d1, d2, d3] }
  | _ => none }
def boxTotalOrderRow : OpenClaim := { program := "ytcbnnjadgkgheaa", sum := "b707d54c9cb1c6797d2004b9719e32dd3a7fb43505ae9d78715f57500a8e0404", func := "brocade/brocadelaw09.BoxTotalOrder", spec := "boxTotalOrder", unfollowed := true, recurses := true, apart := false }
def BoxTotalOrderSaid : Prop := boxTotalOrderRow.holds Try.pinned (OpenSpec.ofChange boxTotalOrderSpec)

/-- ITS FALSE NEIGHBOUR: 'it returns false'. Refute it at one input. -/
def boxTotalOrderWrong : ChangeSpec := { name := "boxTotalOrder", fn := fun _ => fun
  | [d1, d2, d3] => { results := [.lit (.bool false)], args := [d1, d2, d3] }
  | _ => none }
def BoxTotalOrderWrongFalsely : Prop := boxTotalOrderRow.holds Try.pinned (OpenSpec.ofChange boxTotalOrderWrong)

/-- 'brocadelaw09.BoxInverse': WHATEVER THE INPUT: true; the input reads as it did. -/
def boxInverseSpec : ChangeSpec := { name := "boxInverse", fn := fun _ => fun
  | [d1, d2] => { results := [.lit (.bool true)], args := [d1, d2] }
  | _ => none }
def boxInverseRow : OpenClaim := { program := "ytcbnnjadgkgheaa", sum := "b707d54c9cb1c6797d2004b9719e32dd3a7fb43505ae9d78715f57500a8e0404", func := "brocade/brocadelaw09.BoxInverse", spec := "boxInverse", unfollowed := true, recurses := true, apart := false }
def BoxInverseSaid : Prop := boxInverseRow.holds Try.pinned (OpenSpec.ofChange boxInverseSpec)

/-- ITS FALSE NEIGHBOUR: 'it returns false'. Refute it at one input. -/
def boxInverseWrong : ChangeSpec := { name := "boxInverse", fn := fun _ => fun
  | [d1, d2] => { results := [.lit (.bool false)], args := [d1, d2] }
  | _ => none }
def BoxInverseWrongFalsely : Prop := boxInverseRow.holds Try.pinned (OpenSpec.ofChange boxInverseWrong)

/- THE SECOND FORM. 'bulk': how many values and letters a reading holds, each counted each time it is reached (what is shared counts as often as it is met; a slice's spare places count too). A statement '..UptoSaid' is the law's where the arguments, and the package variables that the reading takes, are together of bulk at most 1048576: NARROWER than '..Said'. Prove '..Said' where nothing that the law and all that it calls make is longer than what came in: it says more and counts as full. Else prove '..UptoSaid'. A law counts once. -/
mutual
def uptoBulk {H : Type} : DataW H → Nat
  | .lit (.string bytes) => bytes.length + 1
  | .lit _ => 1
  | .nil => 1
  | .ptr d => uptoBulk d + 1
  | .slice elems spare => uptoBulkAll elems + uptoBulkAll spare + 1
  | .agg parts => uptoBulkAll parts + 1
  | .iface _ d => uptoBulk d + 1
  | .map entries => uptoBulkEntries entries + 1
  | .held _ => 1
def uptoBulkAll {H : Type} : List (DataW H) → Nat
  | [] => 0
  | d :: r => uptoBulk d + uptoBulkAll r
def uptoBulkEntries {H : Type} : List (Lit × DataW H) → Nat
  | [] => 0
  | x :: r => uptoBulkEntry x + uptoBulkEntries r
def uptoBulkEntry {H : Type} : Lit × DataW H → Nat
  | (.string bytes, d) => bytes.length + uptoBulk d + 1
  | (_, d) => uptoBulk d + 1
 end
def uptoSmall : (H : Type) → List (DataW H) → Bool := fun _ ds => decide (uptoBulkAll ds ≤ 1048576)
def OpenSpec.upto (s : _root_.Go.ChangeSpec) : _root_.Go.OpenSpec := { _root_.Go.OpenSpec.ofChange s with cond := some uptoSmall }

/-- 'brocadelaw52.ShardValidates', WHERE WHAT IT READS IS OF BULK AT MOST 1048576: true; the input reads as it did. -/
def shardValidatesUptoRow : OpenClaim := { program := "ytcbnnjadgkgheaa", sum := "b707d54c9cb1c6797d2004b9719e32dd3a7fb43505ae9d78715f57500a8e0404", func := "brocade/brocadelaw52.ShardValidates", spec := "shardValidates", apart := false, narrowed := true }
def ShardValidatesUptoSaid : Prop := shardValidatesUptoRow.holds Try.pinned (OpenSpec.upto shardValidatesSpec)

/-- 'brocadelaw51.MeshCoordinates', WHERE WHAT IT READS IS OF BULK AT MOST 1048576: true; the input reads as it did. -/
def meshCoordinatesUptoRow : OpenClaim := { program := "ytcbnnjadgkgheaa", sum := "b707d54c9cb1c6797d2004b9719e32dd3a7fb43505ae9d78715f57500a8e0404", func := "brocade/brocadelaw51.MeshCoordinates", spec := "meshCoordinates", apart := false, narrowed := true }
def MeshCoordinatesUptoSaid : Prop := meshCoordinatesUptoRow.holds Try.pinned (OpenSpec.upto meshCoordinatesSpec)

/-- 'brocadelaw51.MeshGroups', WHERE WHAT IT READS IS OF BULK AT MOST 1048576: true; the input reads as it did. -/
def meshGroupsUptoRow : OpenClaim := { program := "ytcbnnjadgkgheaa", sum := "b707d54c9cb1c6797d2004b9719e32dd3a7fb43505ae9d78715f57500a8e0404", func := "brocade/brocadelaw51.MeshGroups", spec := "meshGroups", apart := false, narrowed := true }
def MeshGroupsUptoSaid : Prop := meshGroupsUptoRow.holds Try.pinned (OpenSpec.upto meshGroupsSpec)

/-- 'brocadelaw51.MeshRoundTrip', WHERE WHAT IT READS IS OF BULK AT MOST 1048576: true; the input reads as it did. -/
def meshRoundTripUptoRow : OpenClaim := { program := "ytcbnnjadgkgheaa", sum := "b707d54c9cb1c6797d2004b9719e32dd3a7fb43505ae9d78715f57500a8e0404", func := "brocade/brocadelaw51.MeshRoundTrip", spec := "meshRoundTrip", apart := false, narrowed := true }
def MeshRoundTripUptoSaid : Prop := meshRoundTripUptoRow.holds Try.pinned (OpenSpec.upto meshRoundTripSpec)

/-- 'brocadelaw51.MeshPartition', WHERE WHAT IT READS IS OF BULK AT MOST 1048576: true; the input reads as it did. -/
def meshPartitionUptoRow : OpenClaim := { program := "ytcbnnjadgkgheaa", sum := "b707d54c9cb1c6797d2004b9719e32dd3a7fb43505ae9d78715f57500a8e0404", func := "brocade/brocadelaw51.MeshPartition", spec := "meshPartition", apart := false, narrowed := true }
def MeshPartitionUptoSaid : Prop := meshPartitionUptoRow.holds Try.pinned (OpenSpec.upto meshPartitionSpec)

/-- 'brocadelaw09.BoxValidates', WHERE WHAT IT READS IS OF BULK AT MOST 1048576: true; the input reads as it did. -/
def boxValidatesUptoRow : OpenClaim := { program := "ytcbnnjadgkgheaa", sum := "b707d54c9cb1c6797d2004b9719e32dd3a7fb43505ae9d78715f57500a8e0404", func := "brocade/brocadelaw09.BoxValidates", spec := "boxValidates", unfollowed := true, recurses := true, apart := false, narrowed := true }
def BoxValidatesUptoSaid : Prop := boxValidatesUptoRow.holds Try.pinned (OpenSpec.upto boxValidatesSpec)

/-- 'brocadelaw09.BoxEnumerates', WHERE WHAT IT READS IS OF BULK AT MOST 1048576: true; the input reads as it did. -/
def boxEnumeratesUptoRow : OpenClaim := { program := "ytcbnnjadgkgheaa", sum := "b707d54c9cb1c6797d2004b9719e32dd3a7fb43505ae9d78715f57500a8e0404", func := "brocade/brocadelaw09.BoxEnumerates", spec := "boxEnumerates", unfollowed := true, recurses := true, apart := false, narrowed := true }
def BoxEnumeratesUptoSaid : Prop := boxEnumeratesUptoRow.holds Try.pinned (OpenSpec.upto boxEnumeratesSpec)

/-- 'brocadelaw09.BoxRange', WHERE WHAT IT READS IS OF BULK AT MOST 1048576: true; the input reads as it did. -/
def boxRangeUptoRow : OpenClaim := { program := "ytcbnnjadgkgheaa", sum := "b707d54c9cb1c6797d2004b9719e32dd3a7fb43505ae9d78715f57500a8e0404", func := "brocade/brocadelaw09.BoxRange", spec := "boxRange", unfollowed := true, recurses := true, apart := false, narrowed := true }
def BoxRangeUptoSaid : Prop := boxRangeUptoRow.holds Try.pinned (OpenSpec.upto boxRangeSpec)

/-- 'brocadelaw09.BoxRangeBounds', WHERE WHAT IT READS IS OF BULK AT MOST 1048576: true; the input reads as it did. -/
def boxRangeBoundsUptoRow : OpenClaim := { program := "ytcbnnjadgkgheaa", sum := "b707d54c9cb1c6797d2004b9719e32dd3a7fb43505ae9d78715f57500a8e0404", func := "brocade/brocadelaw09.BoxRangeBounds", spec := "boxRangeBounds", unfollowed := true, recurses := true, apart := false, narrowed := true }
def BoxRangeBoundsUptoSaid : Prop := boxRangeBoundsUptoRow.holds Try.pinned (OpenSpec.upto boxRangeBoundsSpec)

/-- 'brocadelaw09.BoxPoints', WHERE WHAT IT READS IS OF BULK AT MOST 1048576: true; the input reads as it did. -/
def boxPointsUptoRow : OpenClaim := { program := "ytcbnnjadgkgheaa", sum := "b707d54c9cb1c6797d2004b9719e32dd3a7fb43505ae9d78715f57500a8e0404", func := "brocade/brocadelaw09.BoxPoints", spec := "boxPoints", unfollowed := true, recurses := true, apart := false, narrowed := true }
def BoxPointsUptoSaid : Prop := boxPointsUptoRow.holds Try.pinned (OpenSpec.upto boxPointsSpec)

/-- 'brocadelaw09.BoxTotalOrder', WHERE WHAT IT READS IS OF BULK AT MOST 1048576: true; the input reads as it did. -/
def boxTotalOrderUptoRow : OpenClaim := { program := "ytcbnnjadgkgheaa", sum := "b707d54c9cb1c6797d2004b9719e32dd3a7fb43505ae9d78715f57500a8e0404", func := "brocade/brocadelaw09.BoxTotalOrder", spec := "boxTotalOrder", unfollowed := true, recurses := true, apart := false, narrowed := true }
def BoxTotalOrderUptoSaid : Prop := boxTotalOrderUptoRow.holds Try.pinned (OpenSpec.upto boxTotalOrderSpec)

/-- 'brocadelaw09.BoxInverse', WHERE WHAT IT READS IS OF BULK AT MOST 1048576: true; the input reads as it did. -/
def boxInverseUptoRow : OpenClaim := { program := "ytcbnnjadgkgheaa", sum := "b707d54c9cb1c6797d2004b9719e32dd3a7fb43505ae9d78715f57500a8e0404", func := "brocade/brocadelaw09.BoxInverse", spec := "boxInverse", unfollowed := true, recurses := true, apart := false, narrowed := true }
def BoxInverseUptoSaid : Prop := boxInverseUptoRow.holds Try.pinned (OpenSpec.upto boxInverseSpec)

end Rows
end Go.Proofs.Ytcbnnjadgkgheaa
