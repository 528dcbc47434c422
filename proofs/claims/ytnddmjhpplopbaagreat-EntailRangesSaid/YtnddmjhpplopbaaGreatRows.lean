/-
  No cell of these rows narrows 'for every input' (looked for: loops, veiled, ifaces, maps, wideKeys, modest, calm, conditions, laid).
  DERIVED. THE GIVEN ROWS OF THIS SEAT. 3 by the template 'for every input the law returns true; each argument reads behind the call as it read before'; 0 by the template 'total and deterministic' (their statements: YtnddmjhpplopbaaGreatTotals.lean).
  GIVEN WITH THE SEED: the statements are not yours to turn. If you find one false, say at which input.
  Laid BY PROGRAM, IN A SANDBOX (cutbox-rows.mjs): the forced cells as the released guide's own fill.sh prints them over the translation 4cb6d75339ef0cbb… (all of the seat's roots in one cut). By AI agents, Wed Nov 11 2026. No macro, syntax, notation, axiom, sorry.
-/
import Derived.Test.YtnddmjhpplopbaaGreatChecked
import GoSem.Claim
import GoSem.ClaimJoined
import GoSem.ClaimMapViews
import Derived.JoinedTies
import Derived.KernelRfl
namespace Go.Proofs.YtnddmjhpplopbaaGreat
/- THE CELL 'sum', in the pinned program and in every row, IS THE sha256 OF THE DUMP (.gsa) THAT YtnddmjhpplopbaaGreatProg.lean LOADS. Nothing in Lean hashes anything: it is a label: what it is worth is what the hold of that sum in a sandbox is worth. -/
noncomputable def Tryz.pinned : Pinned := { name := "ytnddmjhpplopbaagreat", sum := "4cb6d75339ef0cbb162beba5de3a8514c6452a74a4bd02f6261dedc0d460b2dc", checked := Tryz.checked }
namespace Rows
def none {H : Type} : Left H := { results := [], args := [] }

/-- 'brocadelaw08.EntailChecks': WHATEVER THE INPUT: true; the input reads as it did. -/
def entailChecksSpec : ChangeSpec := { name := "entailChecks", fn := fun _ => fun
  | [d1, d2, d3] => { results := [.lit (.bool true)], args := [d1, d2, d3] }
  | _ => none }
def entailChecksRow : OpenClaim := { program := "ytnddmjhpplopbaagreat", sum := "4cb6d75339ef0cbb162beba5de3a8514c6452a74a4bd02f6261dedc0d460b2dc", func := "brocade/brocadelaw08.EntailChecks", spec := "entailChecks", unfollowed := true, recurses := true, apart := false }
def EntailChecksSaid : Prop := entailChecksRow.holds Tryz.pinned (OpenSpec.ofChange entailChecksSpec)

/-- ITS FALSE NEIGHBOUR: 'it returns false'. Refute it at one input. -/
def entailChecksWrong : ChangeSpec := { name := "entailChecks", fn := fun _ => fun
  | [d1, d2, d3] => { results := [.lit (.bool false)], args := [d1, d2, d3] }
  | _ => none }
def EntailChecksWrongFalsely : Prop := entailChecksRow.holds Tryz.pinned (OpenSpec.ofChange entailChecksWrong)

/-- 'brocadelaw08.EntailRanges': WHATEVER THE INPUT: true; the input reads as it did. -/
def entailRangesSpec : ChangeSpec := { name := "entailRanges", fn := fun _ => fun
  | [d1, d2, d3] => { results := [.lit (.bool true)], args := [d1, d2, d3] }
  | _ => none }
def entailRangesRow : OpenClaim := { program := "ytnddmjhpplopbaagreat", sum := "4cb6d75339ef0cbb162beba5de3a8514c6452a74a4bd02f6261dedc0d460b2dc", func := "brocade/brocadelaw08.EntailRanges", spec := "entailRanges", unfollowed := true, recurses := true, apart := false }
def EntailRangesSaid : Prop := entailRangesRow.holds Tryz.pinned (OpenSpec.ofChange entailRangesSpec)

/-- ITS FALSE NEIGHBOUR: 'it returns false'. Refute it at one input. -/
def entailRangesWrong : ChangeSpec := { name := "entailRanges", fn := fun _ => fun
  | [d1, d2, d3] => { results := [.lit (.bool false)], args := [d1, d2, d3] }
  | _ => none }
def EntailRangesWrongFalsely : Prop := entailRangesRow.holds Tryz.pinned (OpenSpec.ofChange entailRangesWrong)

/-- 'brocadelaw08.EntailBounds': WHATEVER THE INPUT: true; the input reads as it did. -/
def entailBoundsSpec : ChangeSpec := { name := "entailBounds", fn := fun _ => fun
  | [d1, d2, d3] => { results := [.lit (.bool true)], args := [d1, d2, d3] }
  | _ => none }
def entailBoundsRow : OpenClaim := { program := "ytnddmjhpplopbaagreat", sum := "4cb6d75339ef0cbb162beba5de3a8514c6452a74a4bd02f6261dedc0d460b2dc", func := "brocade/brocadelaw08.EntailBounds", spec := "entailBounds", unfollowed := true, recurses := true, apart := false }
def EntailBoundsSaid : Prop := entailBoundsRow.holds Tryz.pinned (OpenSpec.ofChange entailBoundsSpec)

/-- ITS FALSE NEIGHBOUR: 'it returns false'. Refute it at one input. -/
def entailBoundsWrong : ChangeSpec := { name := "entailBounds", fn := fun _ => fun
  | [d1, d2, d3] => { results := [.lit (.bool false)], args := [d1, d2, d3] }
  | _ => none }
def EntailBoundsWrongFalsely : Prop := entailBoundsRow.holds Tryz.pinned (OpenSpec.ofChange entailBoundsWrong)

/- THE SECOND FORM. 'bulk': how many values and letters a reading holds, each counted each time it is reached (what is shared counts as often as it is met; a slice's spare places count too). A statement '..UptoSaid' is the law's where the arguments, and the package variables that the reading takes, are together of bulk at most 1048576: NARROWER than '..Said'. Prove '..Said' where nothing that the law and all that it calls make is longer than what came in: it says more and counts as full. Else prove '..UptoSaid'. A law counts once. -/
mutual
def uptoBulk {H : Type} : DataW H → Nat
  | .lit (.string bytes) => bytes.length + 1
  | .lit _ => 1
  | .nil => 1
  | .ptr d => uptoBulk d + 1
  | .slice elems spare => uptoBulkAll elems + uptoBulkAll spare + 1
  | .agg parts => uptoBulkAll parts + 1
  | .iface _ d => uptoBulk d + 1
  | .map entries => uptoBulkEntries entries + 1
  | .held _ => 1
def uptoBulkAll {H : Type} : List (DataW H) → Nat
  | [] => 0
  | d :: r => uptoBulk d + uptoBulkAll r
def uptoBulkEntries {H : Type} : List (Lit × DataW H) → Nat
  | [] => 0
  | x :: r => uptoBulkEntry x + uptoBulkEntries r
def uptoBulkEntry {H : Type} : Lit × DataW H → Nat
  | (.string bytes, d) => bytes.length + uptoBulk d + 1
  | (_, d) => uptoBulk d + 1
 end
def uptoSmall : (H : Type) → List (DataW H) → Bool := fun _ ds => decide (uptoBulkAll ds ≤ 1048576)
def OpenSpec.upto (s : _root_.Go.ChangeSpec) : _root_.Go.OpenSpec := { _root_.Go.OpenSpec.ofChange s with cond := some uptoSmall }

/-- 'brocadelaw08.EntailChecks', WHERE WHAT IT READS IS OF BULK AT MOST 1048576: true; the input reads as it did. -/
def entailChecksUptoRow : OpenClaim := { program := "ytnddmjhpplopbaagreat", sum := "4cb6d75339ef0cbb162beba5de3a8514c6452a74a4bd02f6261dedc0d460b2dc", func := "brocade/brocadelaw08.EntailChecks", spec := "entailChecks", unfollowed := true, recurses := true, apart := false, narrowed := true }
def EntailChecksUptoSaid : Prop := entailChecksUptoRow.holds Tryz.pinned (OpenSpec.upto entailChecksSpec)

/-- 'brocadelaw08.EntailRanges', WHERE WHAT IT READS IS OF BULK AT MOST 1048576: true; the input reads as it did. -/
def entailRangesUptoRow : OpenClaim := { program := "ytnddmjhpplopbaagreat", sum := "4cb6d75339ef0cbb162beba5de3a8514c6452a74a4bd02f6261dedc0d460b2dc", func := "brocade/brocadelaw08.EntailRanges", spec := "entailRanges", unfollowed := true, recurses := true, apart := false, narrowed := true }
def EntailRangesUptoSaid : Prop := entailRangesUptoRow.holds Tryz.pinned (OpenSpec.upto entailRangesSpec)

/-- 'brocadelaw08.EntailBounds', WHERE WHAT IT READS IS OF BULK AT MOST 1048576: true; the input reads as it did. -/
def entailBoundsUptoRow : OpenClaim := { program := "ytnddmjhpplopbaagreat", sum := "4cb6d75339ef0cbb162beba5de3a8514c6452a74a4bd02f6261dedc0d460b2dc", func := "brocade/brocadelaw08.EntailBounds", spec := "entailBounds", unfollowed := true, recurses := true, apart := false, narrowed := true }
def EntailBoundsUptoSaid : Prop := entailBoundsUptoRow.holds Tryz.pinned (OpenSpec.upto entailBoundsSpec)

end Rows
end Go.Proofs.YtnddmjhpplopbaaGreat
