/-
  No cell of these rows narrows 'for every input' (looked for: loops, veiled, ifaces, maps, wideKeys, modest, calm, conditions, laid).
  DERIVED. THE GIVEN ROWS OF THIS SEAT. 3 by the template 'for every input the law returns true; each argument reads behind the call as it read before'; 0 by the template 'total and deterministic' (their statements: YtcnbccmmhcoanaaTotals.lean).
  GIVEN WITH THE SEED: the statements are not yours to turn. If you find one false, say at which input.
  Laid BY PROGRAM, IN A SANDBOX (cutbox-rows.mjs): the forced cells as the released guide's own fill.sh prints them over the translation 448832e0102c6306… (all of the seat's roots in one cut). By AI agents, Wed Nov 11 2026. No macro, syntax, notation, axiom, sorry.
-/
import Derived.Test.YtcnbccmmhcoanaaChecked
import GoSem.Claim
import GoSem.ClaimJoined
import GoSem.ClaimMapViews
import Derived.JoinedTies
import Derived.KernelRfl
namespace Go.Proofs.Ytcnbccmmhcoanaa
/- THE CELL 'sum', in the pinned program and in every row, IS THE sha256 OF THE DUMP (.gsa) THAT YtcnbccmmhcoanaaProg.lean LOADS. Nothing in Lean hashes anything: it is a label: what it is worth is what the hold of that sum in a sandbox is worth. -/
noncomputable def Try.pinned : Pinned := { name := "ytcnbccmmhcoanaa", sum := "448832e0102c6306bfa55257e0c29cf2d992e0d30f630e8fae828616fadd2b8f", checked := Try.checked }
namespace Rows
def none {H : Type} : Left H := { results := [], args := [] }

/-- 'brocadelaw52.ShardScatters': WHATEVER THE INPUT: true; the input reads as it did. -/
def shardScattersSpec : ChangeSpec := { name := "shardScatters", fn := fun _ => fun
  | [d1, d2] => { results := [.lit (.bool true)], args := [d1, d2] }
  | _ => none }
def shardScattersRow : OpenClaim := { program := "ytcnbccmmhcoanaa", sum := "448832e0102c6306bfa55257e0c29cf2d992e0d30f630e8fae828616fadd2b8f", func := "brocade/brocadelaw52.ShardScatters", spec := "shardScatters", unfollowed := true, recurses := true, apart := false }
def ShardScattersSaid : Prop := shardScattersRow.holds Try.pinned (OpenSpec.ofChange shardScattersSpec)

/-- ITS FALSE NEIGHBOUR: 'it returns false'. Refute it at one input. -/
def shardScattersWrong : ChangeSpec := { name := "shardScatters", fn := fun _ => fun
  | [d1, d2] => { results := [.lit (.bool false)], args := [d1, d2] }
  | _ => none }
def ShardScattersWrongFalsely : Prop := shardScattersRow.holds Try.pinned (OpenSpec.ofChange shardScattersWrong)

/-- 'brocadelaw52.ShardGathers': WHATEVER THE INPUT: true; the input reads as it did. -/
def shardGathersSpec : ChangeSpec := { name := "shardGathers", fn := fun _ => fun
  | [d1, d2, d3] => { results := [.lit (.bool true)], args := [d1, d2, d3] }
  | _ => none }
def shardGathersRow : OpenClaim := { program := "ytcnbccmmhcoanaa", sum := "448832e0102c6306bfa55257e0c29cf2d992e0d30f630e8fae828616fadd2b8f", func := "brocade/brocadelaw52.ShardGathers", spec := "shardGathers", unfollowed := true, recurses := true, apart := false }
def ShardGathersSaid : Prop := shardGathersRow.holds Try.pinned (OpenSpec.ofChange shardGathersSpec)

/-- ITS FALSE NEIGHBOUR: 'it returns false'. Refute it at one input. -/
def shardGathersWrong : ChangeSpec := { name := "shardGathers", fn := fun _ => fun
  | [d1, d2, d3] => { results := [.lit (.bool false)], args := [d1, d2, d3] }
  | _ => none }
def ShardGathersWrongFalsely : Prop := shardGathersRow.holds Try.pinned (OpenSpec.ofChange shardGathersWrong)

/-- 'brocadelaw52.ShardReturns': WHATEVER THE INPUT: true; the input reads as it did. -/
def shardReturnsSpec : ChangeSpec := { name := "shardReturns", fn := fun _ => fun
  | [d1, d2] => { results := [.lit (.bool true)], args := [d1, d2] }
  | _ => none }
def shardReturnsRow : OpenClaim := { program := "ytcnbccmmhcoanaa", sum := "448832e0102c6306bfa55257e0c29cf2d992e0d30f630e8fae828616fadd2b8f", func := "brocade/brocadelaw52.ShardReturns", spec := "shardReturns", unfollowed := true, recurses := true, apart := false }
def ShardReturnsSaid : Prop := shardReturnsRow.holds Try.pinned (OpenSpec.ofChange shardReturnsSpec)

/-- ITS FALSE NEIGHBOUR: 'it returns false'. Refute it at one input. -/
def shardReturnsWrong : ChangeSpec := { name := "shardReturns", fn := fun _ => fun
  | [d1, d2] => { results := [.lit (.bool false)], args := [d1, d2] }
  | _ => none }
def ShardReturnsWrongFalsely : Prop := shardReturnsRow.holds Try.pinned (OpenSpec.ofChange shardReturnsWrong)

/- THE SECOND FORM. 'bulk': how many values and letters a reading holds, each counted each time it is reached (what is shared counts as often as it is met; a slice's spare places count too). A statement '..UptoSaid' is the law's where the arguments, and the package variables that the reading takes, are together of bulk at most 1048576: NARROWER than '..Said'. Prove '..Said' where nothing that the law and all that it calls make is longer than what came in: it says more and counts as full. Else prove '..UptoSaid'. A law counts once. -/
mutual
def uptoBulk {H : Type} : DataW H → Nat
  | .lit (.string bytes) => bytes.length + 1
  | .lit _ => 1
  | .nil => 1
  | .ptr d => uptoBulk d + 1
  | .slice elems spare => uptoBulkAll elems + uptoBulkAll spare + 1
  | .agg parts => uptoBulkAll parts + 1
  | .iface _ d => uptoBulk d + 1
  | .map entries => uptoBulkEntries entries + 1
  | .held _ => 1
def uptoBulkAll {H : Type} : List (DataW H) → Nat
  | [] => 0
  | d :: r => uptoBulk d + uptoBulkAll r
def uptoBulkEntries {H : Type} : List (Lit × DataW H) → Nat
  | [] => 0
  | x :: r => uptoBulkEntry x + uptoBulkEntries r
def uptoBulkEntry {H : Type} : Lit × DataW H → Nat
  | (.string bytes, d) => bytes.length + uptoBulk d + 1
  | (_, d) => uptoBulk d + 1
 end
def uptoSmall : (H : Type) → List (DataW H) → Bool := fun _ ds => decide (uptoBulkAll ds ≤ 1048576)
def OpenSpec.upto (s : _root_.Go.ChangeSpec) : _root_.Go.OpenSpec := { _root_.Go.OpenSpec.ofChange s with cond := some uptoSmall }

/-- 'brocadelaw52.ShardScatters', WHERE WHAT IT READS IS OF BULK AT MOST 1048576: true; the input reads as it did. -/
def shardScattersUptoRow : OpenClaim := { program := "ytcnbccmmhcoanaa", sum := "448832e0102c6306bfa55257e0c29cf2d992e0d30f630e8fae828616fadd2b8f", func := "brocade/brocadelaw52.ShardScatters", spec := "shardScatters", unfollowed := true, recurses := true, apart := false, narrowed := true }
def ShardScattersUptoSaid : Prop := shardScattersUptoRow.holds Try.pinned (OpenSpec.upto shardScattersSpec)

/-- 'brocadelaw52.ShardGathers', WHERE WHAT IT READS IS OF BULK AT MOST 1048576: true; the input reads as it did. -/
def shardGathersUptoRow : OpenClaim := { program := "ytcnbccmmhcoanaa", sum := "448832e0102c6306bfa55257e0c29cf2d992e0d30f630e8fae828616fadd2b8f", func := "brocade/brocadelaw52.ShardGathers", spec := "shardGathers", unfollowed := true, recurses := true, apart := false, narrowed := true }
def ShardGathersUptoSaid : Prop := shardGathersUptoRow.holds Try.pinned (OpenSpec.upto shardGathersSpec)

/-- 'brocadelaw52.ShardReturns', WHERE WHAT IT READS IS OF BULK AT MOST 1048576: true; the input reads as it did. -/
def shardReturnsUptoRow : OpenClaim := { program := "ytcnbccmmhcoanaa", sum := "448832e0102c6306bfa55257e0c29cf2d992e0d30f630e8fae828616fadd2b8f", func := "brocade/brocadelaw52.ShardReturns", spec := "shardReturns", unfollowed := true, recurses := true, apart := false, narrowed := true }
def ShardReturnsUptoSaid : Prop := shardReturnsUptoRow.holds Try.pinned (OpenSpec.upto shardReturnsSpec)

end Rows
end Go.Proofs.Ytcnbccmmhcoanaa
