/-
  No cell of these rows narrows 'for every input' (looked for: loops, veiled, ifaces, maps, wideKeys, modest, calm, conditions, laid).
  DERIVED. THE GIVEN ROWS OF THIS SEAT. 6 by the template 'for every input the law returns true; each argument reads behind the call as it read before'; 0 by the template 'total and deterministic' (their statements: YtnddmjhpplopbaaTotals.lean).
  GIVEN WITH THE SEED: the statements are not yours to turn. If you find one false, say at which input.
  Laid BY PROGRAM, IN A SANDBOX (cutbox-rows.mjs): the forced cells as the released guide's own fill.sh prints them over the translation a6748f6019e4fa79… (all of the seat's roots in one cut). By AI agents, Wed Nov 11 2026. No macro, syntax, notation, axiom, sorry.
-/
import Derived.Test.YtnddmjhpplopbaaChecked
import GoSem.Claim
import GoSem.ClaimJoined
import GoSem.ClaimMapViews
import Derived.JoinedTies
import Derived.KernelRfl
namespace Go.Proofs.Ytnddmjhpplopbaa
/- THE CELL 'sum', in the pinned program and in every row, IS THE sha256 OF THE DUMP (.gsa) THAT YtnddmjhpplopbaaProg.lean LOADS. Nothing in Lean hashes anything: it is a label: what it is worth is what the hold of that sum in a sandbox is worth. -/
noncomputable def Try.pinned : Pinned := { name := "ytnddmjhpplopbaa", sum := "a6748f6019e4fa79ff22d4795857d455c0c48e47b9aecc02421072dc0d345d08", checked := Try.checked }
namespace Rows
def none {H : Type} : Left H := { results := [], args := [] }

/-- 'brocadelaw07.ElimDecides': WHATEVER THE INPUT: true; the input reads as it did. -/
def elimDecidesSpec : ChangeSpec := { name := "elimDecides", fn := fun _ => fun
  | [d] => { results := [.lit (.bool true)], args := [d] }
  | _ => none }
def elimDecidesRow : OpenClaim := { program := "ytnddmjhpplopbaa", sum := "a6748f6019e4fa79ff22d4795857d455c0c48e47b9aecc02421072dc0d345d08", func := "brocade/brocadelaw07.ElimDecides", spec := "elimDecides", unfollowed := true, recurses := true, apart := false }
def ElimDecidesSaid : Prop := elimDecidesRow.holds Try.pinned (OpenSpec.ofChange elimDecidesSpec)

/-- ITS FALSE NEIGHBOUR: 'it returns false'. Refute it at one input. -/
def elimDecidesWrong : ChangeSpec := { name := "elimDecides", fn := fun _ => fun
  | [d] => { results := [.lit (.bool false)], args := [d] }
  | _ => none }
def ElimDecidesWrongFalsely : Prop := elimDecidesRow.holds Try.pinned (OpenSpec.ofChange elimDecidesWrong)

/-- 'brocadelaw08.EntailImplies': WHATEVER THE INPUT: true; the input reads as it did. -/
def entailImpliesSpec : ChangeSpec := { name := "entailImplies", fn := fun _ => fun
  | [d1, d2, d3] => { results := [.lit (.bool true)], args := [d1, d2, d3] }
  | _ => none }
def entailImpliesRow : OpenClaim := { program := "ytnddmjhpplopbaa", sum := "a6748f6019e4fa79ff22d4795857d455c0c48e47b9aecc02421072dc0d345d08", func := "brocade/brocadelaw08.EntailImplies", spec := "entailImplies", unfollowed := true, recurses := true, apart := false }
def EntailImpliesSaid : Prop := entailImpliesRow.holds Try.pinned (OpenSpec.ofChange entailImpliesSpec)

/-- ITS FALSE NEIGHBOUR: 'it returns false'. Refute it at one input. -/
def entailImpliesWrong : ChangeSpec := { name := "entailImplies", fn := fun _ => fun
  | [d1, d2, d3] => { results := [.lit (.bool false)], args := [d1, d2, d3] }
  | _ => none }
def EntailImpliesWrongFalsely : Prop := entailImpliesRow.holds Try.pinned (OpenSpec.ofChange entailImpliesWrong)

/-- 'brocadelaw08.EntailSound': WHATEVER THE INPUT: true; the input reads as it did. -/
def entailSoundSpec : ChangeSpec := { name := "entailSound", fn := fun _ => fun
  | [d1, d2, d3] => { results := [.lit (.bool true)], args := [d1, d2, d3] }
  | _ => none }
def entailSoundRow : OpenClaim := { program := "ytnddmjhpplopbaa", sum := "a6748f6019e4fa79ff22d4795857d455c0c48e47b9aecc02421072dc0d345d08", func := "brocade/brocadelaw08.EntailSound", spec := "entailSound", unfollowed := true, recurses := true, apart := false }
def EntailSoundSaid : Prop := entailSoundRow.holds Try.pinned (OpenSpec.ofChange entailSoundSpec)

/-- ITS FALSE NEIGHBOUR: 'it returns false'. Refute it at one input. -/
def entailSoundWrong : ChangeSpec := { name := "entailSound", fn := fun _ => fun
  | [d1, d2, d3] => { results := [.lit (.bool false)], args := [d1, d2, d3] }
  | _ => none }
def EntailSoundWrongFalsely : Prop := entailSoundRow.holds Try.pinned (OpenSpec.ofChange entailSoundWrong)

/-- 'brocadelaw08.EntailOwn': WHATEVER THE INPUT: true; the input reads as it did. -/
def entailOwnSpec : ChangeSpec := { name := "entailOwn", fn := fun _ => fun
  | [d1, d2] => { results := [.lit (.bool true)], args := [d1, d2] }
  | _ => none }
def entailOwnRow : OpenClaim := { program := "ytnddmjhpplopbaa", sum := "a6748f6019e4fa79ff22d4795857d455c0c48e47b9aecc02421072dc0d345d08", func := "brocade/brocadelaw08.EntailOwn", spec := "entailOwn", unfollowed := true, recurses := true, apart := false }
def EntailOwnSaid : Prop := entailOwnRow.holds Try.pinned (OpenSpec.ofChange entailOwnSpec)

/-- ITS FALSE NEIGHBOUR: 'it returns false'. Refute it at one input. -/
def entailOwnWrong : ChangeSpec := { name := "entailOwn", fn := fun _ => fun
  | [d1, d2] => { results := [.lit (.bool false)], args := [d1, d2] }
  | _ => none }
def EntailOwnWrongFalsely : Prop := entailOwnRow.holds Try.pinned (OpenSpec.ofChange entailOwnWrong)

/-- 'brocadelaw08.EntailBoundsHold': WHATEVER THE INPUT: true; the input reads as it did. -/
def entailBoundsHoldSpec : ChangeSpec := { name := "entailBoundsHold", fn := fun _ => fun
  | [d1, d2, d3] => { results := [.lit (.bool true)], args := [d1, d2, d3] }
  | _ => none }
def entailBoundsHoldRow : OpenClaim := { program := "ytnddmjhpplopbaa", sum := "a6748f6019e4fa79ff22d4795857d455c0c48e47b9aecc02421072dc0d345d08", func := "brocade/brocadelaw08.EntailBoundsHold", spec := "entailBoundsHold", unfollowed := true, recurses := true, apart := false }
def EntailBoundsHoldSaid : Prop := entailBoundsHoldRow.holds Try.pinned (OpenSpec.ofChange entailBoundsHoldSpec)

/-- ITS FALSE NEIGHBOUR: 'it returns false'. Refute it at one input. -/
def entailBoundsHoldWrong : ChangeSpec := { name := "entailBoundsHold", fn := fun _ => fun
  | [d1, d2, d3] => { results := [.lit (.bool false)], args := [d1, d2, d3] }
  | _ => none }
def EntailBoundsHoldWrongFalsely : Prop := entailBoundsHoldRow.holds Try.pinned (OpenSpec.ofChange entailBoundsHoldWrong)

/-- 'brocadelaw07.ElimExact': WHATEVER THE INPUT: true; the input reads as it did. -/
def elimExactSpec : ChangeSpec := { name := "elimExact", fn := fun _ => fun
  | [d1, d2, d3] => { results := [.lit (.bool true)], args := [d1, d2, d3] }
  | _ => none }
def elimExactRow : OpenClaim := { program := "ytnddmjhpplopbaa", sum := "a6748f6019e4fa79ff22d4795857d455c0c48e47b9aecc02421072dc0d345d08", func := "brocade/brocadelaw07.ElimExact", spec := "elimExact", unfollowed := true, recurses := true, apart := false }
def ElimExactSaid : Prop := elimExactRow.holds Try.pinned (OpenSpec.ofChange elimExactSpec)

/-- ITS FALSE NEIGHBOUR: 'it returns false'. Refute it at one input. -/
def elimExactWrong : ChangeSpec := { name := "elimExact", fn := fun _ => fun
  | [d1, d2, d3] => { results := [.lit (.bool false)], args := [d1, d2, d3] }
  | _ => none }
def ElimExactWrongFalsely : Prop := elimExactRow.holds Try.pinned (OpenSpec.ofChange elimExactWrong)

/- THE SECOND FORM. 'bulk': how many values and letters a reading holds, each counted each time it is reached (what is shared counts as often as it is met; a slice's spare places count too). A statement '..UptoSaid' is the law's where the arguments, and the package variables that the reading takes, are together of bulk at most 1048576: NARROWER than '..Said'. Prove '..Said' where nothing that the law and all that it calls make is longer than what came in: it says more and counts as full. Else prove '..UptoSaid'. A law counts once. -/
mutual
def uptoBulk {H : Type} : DataW H → Nat
  | .lit (.string bytes) => bytes.length + 1
  | .lit _ => 1
  | .nil => 1
  | .ptr d => uptoBulk d + 1
  | .slice elems spare => uptoBulkAll elems + uptoBulkAll spare + 1
  | .agg parts => uptoBulkAll parts + 1
  | .iface _ d => uptoBulk d + 1
  | .map entries => uptoBulkEntries entries + 1
  | .held _ => 1
def uptoBulkAll {H : Type} : List (DataW H) → Nat
  | [] => 0
  | d :: r => uptoBulk d + uptoBulkAll r
def uptoBulkEntries {H : Type} : List (Lit × DataW H) → Nat
  | [] => 0
  | x :: r => uptoBulkEntry x + uptoBulkEntries r
def uptoBulkEntry {H : Type} : Lit × DataW H → Nat
  | (.string bytes, d) => bytes.length + uptoBulk d + 1
  | (_, d) => uptoBulk d + 1
 end
def uptoSmall : (H : Type) → List (DataW H) → Bool := fun _ ds => decide (uptoBulkAll ds ≤ 1048576)
def OpenSpec.upto (s : _root_.Go.ChangeSpec) : _root_.Go.OpenSpec := { _root_.Go.OpenSpec.ofChange s with cond := some uptoSmall }

/-- 'brocadelaw07.ElimDecides', WHERE WHAT IT READS IS OF BULK AT MOST 1048576: true; the input reads as it did. -/
def elimDecidesUptoRow : OpenClaim := { program := "ytnddmjhpplopbaa", sum := "a6748f6019e4fa79ff22d4795857d455c0c48e47b9aecc02421072dc0d345d08", func := "brocade/brocadelaw07.ElimDecides", spec := "elimDecides", unfollowed := true, recurses := true, apart := false, narrowed := true }
def ElimDecidesUptoSaid : Prop := elimDecidesUptoRow.holds Try.pinned (OpenSpec.upto elimDecidesSpec)

/-- 'brocadelaw08.EntailImplies', WHERE WHAT IT READS IS OF BULK AT MOST 1048576: true; the input reads as it did. -/
def entailImpliesUptoRow : OpenClaim := { program := "ytnddmjhpplopbaa", sum := "a6748f6019e4fa79ff22d4795857d455c0c48e47b9aecc02421072dc0d345d08", func := "brocade/brocadelaw08.EntailImplies", spec := "entailImplies", unfollowed := true, recurses := true, apart := false, narrowed := true }
def EntailImpliesUptoSaid : Prop := entailImpliesUptoRow.holds Try.pinned (OpenSpec.upto entailImpliesSpec)

/-- 'brocadelaw08.EntailSound', WHERE WHAT IT READS IS OF BULK AT MOST 1048576: true; the input reads as it did. -/
def entailSoundUptoRow : OpenClaim := { program := "ytnddmjhpplopbaa", sum := "a6748f6019e4fa79ff22d4795857d455c0c48e47b9aecc02421072dc0d345d08", func := "brocade/brocadelaw08.EntailSound", spec := "entailSound", unfollowed := true, recurses := true, apart := false, narrowed := true }
def EntailSoundUptoSaid : Prop := entailSoundUptoRow.holds Try.pinned (OpenSpec.upto entailSoundSpec)

/-- 'brocadelaw08.EntailOwn', WHERE WHAT IT READS IS OF BULK AT MOST 1048576: true; the input reads as it did. -/
def entailOwnUptoRow : OpenClaim := { program := "ytnddmjhpplopbaa", sum := "a6748f6019e4fa79ff22d4795857d455c0c48e47b9aecc02421072dc0d345d08", func := "brocade/brocadelaw08.EntailOwn", spec := "entailOwn", unfollowed := true, recurses := true, apart := false, narrowed := true }
def EntailOwnUptoSaid : Prop := entailOwnUptoRow.holds Try.pinned (OpenSpec.upto entailOwnSpec)

/-- 'brocadelaw08.EntailBoundsHold', WHERE WHAT IT READS IS OF BULK AT MOST 1048576: true; the input reads as it did. -/
def entailBoundsHoldUptoRow : OpenClaim := { program := "ytnddmjhpplopbaa", sum := "a6748f6019e4fa79ff22d4795857d455c0c48e47b9aecc02421072dc0d345d08", func := "brocade/brocadelaw08.EntailBoundsHold", spec := "entailBoundsHold", unfollowed := true, recurses := true, apart := false, narrowed := true }
def EntailBoundsHoldUptoSaid : Prop := entailBoundsHoldUptoRow.holds Try.pinned (OpenSpec.upto entailBoundsHoldSpec)

/-- 'brocadelaw07.ElimExact', WHERE WHAT IT READS IS OF BULK AT MOST 1048576: true; the input reads as it did. -/
def elimExactUptoRow : OpenClaim := { program := "ytnddmjhpplopbaa", sum := "a6748f6019e4fa79ff22d4795857d455c0c48e47b9aecc02421072dc0d345d08", func := "brocade/brocadelaw07.ElimExact", spec := "elimExact", unfollowed := true, recurses := true, apart := false, narrowed := true }
def ElimExactUptoSaid : Prop := elimExactUptoRow.holds Try.pinned (OpenSpec.upto elimExactSpec)

end Rows
end Go.Proofs.Ytnddmjhpplopbaa
