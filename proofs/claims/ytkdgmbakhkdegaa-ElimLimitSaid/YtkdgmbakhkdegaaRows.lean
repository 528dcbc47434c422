/-
  No cell of these rows narrows 'for every input' (looked for: loops, veiled, ifaces, maps, wideKeys, modest, calm, conditions, laid).
  DERIVED. THE GIVEN ROWS OF THIS SEAT. 11 by the template 'for every input the law returns true; each argument reads behind the call as it read before'; 0 by the template 'total and deterministic' (their statements: YtkdgmbakhkdegaaTotals.lean).
  GIVEN WITH THE SEED: the statements are not yours to turn. If you find one false, say at which input.
  Laid BY PROGRAM, IN A SANDBOX (cutbox-rows.mjs): the forced cells as the released guide's own fill.sh prints them over the translation b1dce29719a2b9f4… (all of the seat's roots in one cut). By AI agents, Wed Nov 11 2026. No macro, syntax, notation, axiom, sorry.
-/
import Derived.Test.YtkdgmbakhkdegaaChecked
import GoSem.Claim
import GoSem.ClaimJoined
import GoSem.ClaimMapViews
import Derived.JoinedTies
import Derived.KernelRfl
namespace Go.Proofs.Ytkdgmbakhkdegaa
/- THE CELL 'sum', in the pinned program and in every row, IS THE sha256 OF THE DUMP (.gsa) THAT YtkdgmbakhkdegaaProg.lean LOADS. Nothing in Lean hashes anything: it is a label: what it is worth is what the hold of that sum in a sandbox is worth. -/
noncomputable def Try.pinned : Pinned := { name := "ytkdgmbakhkdegaa", sum := "b1dce29719a2b9f4d962391af1aa247a261cd59adf243035c1f671a0cf497a45", checked := Try.checked }
namespace Rows
def none {H : Type} : Left H := { results := [], args := [] }

/-- 'brocadelaw07.ElimCombine': WHATEVER THE INPUT: true; the input reads as it did. -/
def elimCombineSpec : ChangeSpec := { name := "elimCombine", fn := fun _ => fun
  | [d1, d2, d3] => { results := [.lit (.bool true)], args := [d1, d2, d3] }
  | _ => none }
def elimCombineRow : OpenClaim := { program := "ytkdgmbakhkdegaa", sum := "b1dce29719a2b9f4d962391af1aa247a261cd59adf243035c1f671a0cf497a45", func := "brocade/brocadelaw07.ElimCombine", spec := "elimCombine", unfollowed := true, recurses := true, apart := false }
def ElimCombineSaid : Prop := elimCombineRow.holds Try.pinned (OpenSpec.ofChange elimCombineSpec)

/-- ITS FALSE NEIGHBOUR: 'it returns false'. Refute it at one input. -/
def elimCombineWrong : ChangeSpec := { name := "elimCombine", fn := fun _ => fun
  | [d1, d2, d3] => { results := [.lit (.bool false)], args := [d1, d2, d3] }
  | _ => none }
def ElimCombineWrongFalsely : Prop := elimCombineRow.holds Try.pinned (OpenSpec.ofChange elimCombineWrong)

/-- 'brocadelaw07.ElimCertificates': WHATEVER THE INPUT: true; the input reads as it did. -/
def elimCertificatesSpec : ChangeSpec := { name := "elimCertificates", fn := fun _ => fun
  | [d1, d2] => { results := [.lit (.bool true)], args := [d1, d2] }
  | _ => none }
def elimCertificatesRow : OpenClaim := { program := "ytkdgmbakhkdegaa", sum := "b1dce29719a2b9f4d962391af1aa247a261cd59adf243035c1f671a0cf497a45", func := "brocade/brocadelaw07.ElimCertificates", spec := "elimCertificates", unfollowed := true, recurses := true, apart := false }
def ElimCertificatesSaid : Prop := elimCertificatesRow.holds Try.pinned (OpenSpec.ofChange elimCertificatesSpec)

/-- ITS FALSE NEIGHBOUR: 'it returns false'. Refute it at one input. -/
def elimCertificatesWrong : ChangeSpec := { name := "elimCertificates", fn := fun _ => fun
  | [d1, d2] => { results := [.lit (.bool false)], args := [d1, d2] }
  | _ => none }
def ElimCertificatesWrongFalsely : Prop := elimCertificatesRow.holds Try.pinned (OpenSpec.ofChange elimCertificatesWrong)

/-- 'brocadelaw07.ElimInfeasible': WHATEVER THE INPUT: true; the input reads as it did. -/
def elimInfeasibleSpec : ChangeSpec := { name := "elimInfeasible", fn := fun _ => fun
  | [d1, d2] => { results := [.lit (.bool true)], args := [d1, d2] }
  | _ => none }
def elimInfeasibleRow : OpenClaim := { program := "ytkdgmbakhkdegaa", sum := "b1dce29719a2b9f4d962391af1aa247a261cd59adf243035c1f671a0cf497a45", func := "brocade/brocadelaw07.ElimInfeasible", spec := "elimInfeasible", unfollowed := true, recurses := true, apart := false }
def ElimInfeasibleSaid : Prop := elimInfeasibleRow.holds Try.pinned (OpenSpec.ofChange elimInfeasibleSpec)

/-- ITS FALSE NEIGHBOUR: 'it returns false'. Refute it at one input. -/
def elimInfeasibleWrong : ChangeSpec := { name := "elimInfeasible", fn := fun _ => fun
  | [d1, d2] => { results := [.lit (.bool false)], args := [d1, d2] }
  | _ => none }
def ElimInfeasibleWrongFalsely : Prop := elimInfeasibleRow.holds Try.pinned (OpenSpec.ofChange elimInfeasibleWrong)

/-- 'brocadelaw07.ElimDecides': WHATEVER THE INPUT: true; the input reads as it did. -/
def elimDecidesSpec : ChangeSpec := { name := "elimDecides", fn := fun _ => fun
  | [d] => { results := [.lit (.bool true)], args := [d] }
  | _ => none }
def elimDecidesRow : OpenClaim := { program := "ytkdgmbakhkdegaa", sum := "b1dce29719a2b9f4d962391af1aa247a261cd59adf243035c1f671a0cf497a45", func := "brocade/brocadelaw07.ElimDecides", spec := "elimDecides", unfollowed := true, recurses := true, apart := false }
def ElimDecidesSaid : Prop := elimDecidesRow.holds Try.pinned (OpenSpec.ofChange elimDecidesSpec)

/-- ITS FALSE NEIGHBOUR: 'it returns false'. Refute it at one input. -/
def elimDecidesWrong : ChangeSpec := { name := "elimDecides", fn := fun _ => fun
  | [d] => { results := [.lit (.bool false)], args := [d] }
  | _ => none }
def ElimDecidesWrongFalsely : Prop := elimDecidesRow.holds Try.pinned (OpenSpec.ofChange elimDecidesWrong)

/-- 'brocadelaw07.ElimNever': WHATEVER THE INPUT: true; the input reads as it did. -/
def elimNeverSpec : ChangeSpec := { name := "elimNever", fn := fun _ => fun
  | [d1, d2, d3, d4] => { results := [.lit (.bool true)], args := [d1, d2, d3, d4] }
  | _ => none }
def elimNeverRow : OpenClaim := { program := "ytkdgmbakhkdegaa", sum := "b1dce29719a2b9f4d962391af1aa247a261cd59adf243035c1f671a0cf497a45", func := "brocade/brocadelaw07.ElimNever", spec := "elimNever", unfollowed := true, recurses := true, apart := false }
def ElimNeverSaid : Prop := elimNeverRow.holds Try.pinned (OpenSpec.ofChange elimNeverSpec)

/-- ITS FALSE NEIGHBOUR: 'it returns false'. Refute it at one input. -/
def elimNeverWrong : ChangeSpec := { name := "elimNever", fn := fun _ => fun
  | [d1, d2, d3, d4] => { results := [.lit (.bool false)], args := [d1, d2, d3, d4] }
  | _ => none }
def ElimNeverWrongFalsely : Prop := elimNeverRow.holds Try.pinned (OpenSpec.ofChange elimNeverWrong)

/-- 'brocadelaw08.EntailImplies': WHATEVER THE INPUT: true; the input reads as it did. -/
def entailImpliesSpec : ChangeSpec := { name := "entailImplies", fn := fun _ => fun
  | [d1, d2, d3] => { results := [.lit (.bool true)], args := [d1, d2, d3] }
  | _ => none }
def entailImpliesRow : OpenClaim := { program := "ytkdgmbakhkdegaa", sum := "b1dce29719a2b9f4d962391af1aa247a261cd59adf243035c1f671a0cf497a45", func := "brocade/brocadelaw08.EntailImplies", spec := "entailImplies", unfollowed := true, recurses := true, apart := false }
def EntailImpliesSaid : Prop := entailImpliesRow.holds Try.pinned (OpenSpec.ofChange entailImpliesSpec)

/-- ITS FALSE NEIGHBOUR: 'it returns false'. Refute it at one input. -/
def entailImpliesWrong : ChangeSpec := { name := "entailImplies", fn := fun _ => fun
  | [d1, d2, d3] => { results := [.lit (.bool false)], args := [d1, d2, d3] }
  | _ => none }
def EntailImpliesWrongFalsely : Prop := entailImpliesRow.holds Try.pinned (OpenSpec.ofChange entailImpliesWrong)

/-- 'brocadelaw08.EntailSound': WHATEVER THE INPUT: true; the input reads as it did. -/
def entailSoundSpec : ChangeSpec := { name := "entailSound", fn := fun _ => fun
  | [d1, d2, d3] => { results := [.lit (.bool true)], args := [d1, d2, d3] }
  | _ => none }
def entailSoundRow : OpenClaim := { program := "ytkdgmbakhkdegaa", sum := "b1dce29719a2b9f4d962391af1aa247a261cd59adf243035c1f671a0cf497a45", func := "brocade/brocadelaw08.EntailSound", spec := "entailSound", unfollowed := true, recurses := true, apart := false }
def EntailSoundSaid : Prop := entailSoundRow.holds Try.pinned (OpenSpec.ofChange entailSoundSpec)

/-- ITS FALSE NEIGHBOUR: 'it returns false'. Refute it at one input. -/
def entailSoundWrong : ChangeSpec := { name := "entailSound", fn := fun _ => fun
  | [d1, d2, d3] => { results := [.lit (.bool false)], args := [d1, d2, d3] }
  | _ => none }
def EntailSoundWrongFalsely : Prop := entailSoundRow.holds Try.pinned (OpenSpec.ofChange entailSoundWrong)

/-- 'brocadelaw07.ElimEliminates': WHATEVER THE INPUT: true; the input reads as it did. -/
def elimEliminatesSpec : ChangeSpec := { name := "elimEliminates", fn := fun _ => fun
  | [d1, d2] => { results := [.lit (.bool true)], args := [d1, d2] }
  | _ => none }
def elimEliminatesRow : OpenClaim := { program := "ytkdgmbakhkdegaa", sum := "b1dce29719a2b9f4d962391af1aa247a261cd59adf243035c1f671a0cf497a45", func := "brocade/brocadelaw07.ElimEliminates", spec := "elimEliminates", unfollowed := true, recurses := true, apart := false }
def ElimEliminatesSaid : Prop := elimEliminatesRow.holds Try.pinned (OpenSpec.ofChange elimEliminatesSpec)

/-- ITS FALSE NEIGHBOUR: 'it returns false'. Refute it at one input. -/
def elimEliminatesWrong : ChangeSpec := { name := "elimEliminates", fn := fun _ => fun
  | [d1, d2] => { results := [.lit (.bool false)], args := [d1, d2] }
  | _ => none }
def ElimEliminatesWrongFalsely : Prop := elimEliminatesRow.holds Try.pinned (OpenSpec.ofChange elimEliminatesWrong)

/-- 'brocadelaw07.ElimLimit': WHATEVER THE INPUT: true; the input reads as it did. -/
def elimLimitSpec : ChangeSpec := { name := "elimLimit", fn := fun _ => fun
  | [d1, d2] => { results := [.lit (.bool true)], args := [d1, d2] }
  | _ => none }
def elimLimitRow : OpenClaim := { program := "ytkdgmbakhkdegaa", sum := "b1dce29719a2b9f4d962391af1aa247a261cd59adf243035c1f671a0cf497a45", func := "brocade/brocadelaw07.ElimLimit", spec := "elimLimit", unfollowed := true, recurses := true, apart := false }
def ElimLimitSaid : Prop := elimLimitRow.holds Try.pinned (OpenSpec.ofChange elimLimitSpec)

/-- ITS FALSE NEIGHBOUR: 'it returns false'. Refute it at one input. -/
def elimLimitWrong : ChangeSpec := { name := "elimLimit", fn := fun _ => fun
  | [d1, d2] => { results := [.lit (.bool false)], args := [d1, d2] }
  | _ => none }
def ElimLimitWrongFalsely : Prop := elimLimitRow.holds Try.pinned (OpenSpec.ofChange elimLimitWrong)

/-- 'brocadelaw07.ElimSound': WHATEVER THE INPUT: true; the input reads as it did. -/
def elimSoundSpec : ChangeSpec := { name := "elimSound", fn := fun _ => fun
  | [d1, d2, d3] => { results := [.lit (.bool true)], args := [d1, d2, d3] }
  | _ => none }
def elimSoundRow : OpenClaim := { program := "ytkdgmbakhkdegaa", sum := "b1dce29719a2b9f4d962391af1aa247a261cd59adf243035c1f671a0cf497a45", func := "brocade/brocadelaw07.ElimSound", spec := "elimSound", unfollowed := true, recurses := true, apart := false }
def ElimSoundSaid : Prop := elimSoundRow.holds Try.pinned (OpenSpec.ofChange elimSoundSpec)

/-- ITS FALSE NEIGHBOUR: 'it returns false'. Refute it at one input. -/
def elimSoundWrong : ChangeSpec := { name := "elimSound", fn := fun _ => fun
  | [d1, d2, d3] => { results := [.lit (.bool false)], args := [d1, d2, d3] }
  | _ => none }
def ElimSoundWrongFalsely : Prop := elimSoundRow.holds Try.pinned (OpenSpec.ofChange elimSoundWrong)

/-- 'brocadelaw07.ElimExact': WHATEVER THE INPUT: true; the input reads as it did. -/
def elimExactSpec : ChangeSpec := { name := "elimExact", fn := fun _ => fun
  | [d1, d2, d3] => { results := [.lit (.bool true)], args := [d1, d2, d3] }
  | _ => none }
def elimExactRow : OpenClaim := { program := "ytkdgmbakhkdegaa", sum := "b1dce29719a2b9f4d962391af1aa247a261cd59adf243035c1f671a0cf497a45", func := "brocade/brocadelaw07.ElimExact", spec := "elimExact", unfollowed := true, recurses := true, apart := false }
def ElimExactSaid : Prop := elimExactRow.holds Try.pinned (OpenSpec.ofChange elimExactSpec)

/-- ITS FALSE NEIGHBOUR: 'it returns false'. Refute it at one input. -/
def elimExactWrong : ChangeSpec := { name := "elimExact", fn := fun _ => fun
  | [d1, d2, d3] => { results := [.lit (.bool false)], args := [d1, d2, d3] }
  | _ => none }
def ElimExactWrongFalsely : Prop := elimExactRow.holds Try.pinned (OpenSpec.ofChange elimExactWrong)

/- THE SECOND FORM. 'bulk': how many values and letters a reading holds, each counted each time it is reached (what is shared counts as often as it is met; a slice's spare places count too). A statement '..UptoSaid' is the law's where the arguments, and the package variables that the reading takes, are together of bulk at most 1048576: NARROWER than '..Said'. Prove '..Said' where nothing that the law and all that it calls make is longer than what came in: it says more and counts as full. Else prove '..UptoSaid'. A law counts once. -/
mutual
def uptoBulk {H : Type} : DataW H → Nat
  | .lit (.string bytes) => bytes.length + 1
  | .lit _ => 1
  | .nil => 1
  | .ptr d => uptoBulk d + 1
  | .slice elems spare => uptoBulkAll elems + uptoBulkAll spare + 1
  | .agg parts => uptoBulkAll parts + 1
  | .iface _ d => uptoBulk d + 1
  | .map entries => uptoBulkEntries entries + 1
  | .held _ => 1
def uptoBulkAll {H : Type} : List (DataW H) → Nat
  | [] => 0
  | d :: r => uptoBulk d + uptoBulkAll r
def uptoBulkEntries {H : Type} : List (Lit × DataW H) → Nat
  | [] => 0
  | x :: r => uptoBulkEntry x + uptoBulkEntries r
def uptoBulkEntry {H : Type} : Lit × DataW H → Nat
  | (.string bytes, d) => bytes.length + uptoBulk d + 1
  | (_, d) => uptoBulk d + 1
 end
def uptoSmall : (H : Type) → List (DataW H) → Bool := fun _ ds => decide (uptoBulkAll ds ≤ 1048576)
def OpenSpec.upto (s : _root_.Go.ChangeSpec) : _root_.Go.OpenSpec := { _root_.Go.OpenSpec.ofChange s with cond := some uptoSmall }

/-- 'brocadelaw07.ElimCombine', WHERE WHAT IT READS IS OF BULK AT MOST 1048576: true; the input reads as it did. -/
def elimCombineUptoRow : OpenClaim := { program := "ytkdgmbakhkdegaa", sum := "b1dce29719a2b9f4d962391af1aa247a261cd59adf243035c1f671a0cf497a45", func := "brocade/brocadelaw07.ElimCombine", spec := "elimCombine", unfollowed := true, recurses := true, apart := false, narrowed := true }
def ElimCombineUptoSaid : Prop := elimCombineUptoRow.holds Try.pinned (OpenSpec.upto elimCombineSpec)

/-- 'brocadelaw07.ElimCertificates', WHERE WHAT IT READS IS OF BULK AT MOST 1048576: true; the input reads as it did. -/
def elimCertificatesUptoRow : OpenClaim := { program := "ytkdgmbakhkdegaa", sum := "b1dce29719a2b9f4d962391af1aa247a261cd59adf243035c1f671a0cf497a45", func := "brocade/brocadelaw07.ElimCertificates", spec := "elimCertificates", unfollowed := true, recurses := true, apart := false, narrowed := true }
def ElimCertificatesUptoSaid : Prop := elimCertificatesUptoRow.holds Try.pinned (OpenSpec.upto elimCertificatesSpec)

/-- 'brocadelaw07.ElimInfeasible', WHERE WHAT IT READS IS OF BULK AT MOST 1048576: true; the input reads as it did. -/
def elimInfeasibleUptoRow : OpenClaim := { program := "ytkdgmbakhkdegaa", sum := "b1dce29719a2b9f4d962391af1aa247a261cd59adf243035c1f671a0cf497a45", func := "brocade/brocadelaw07.ElimInfeasible", spec := "elimInfeasible", unfollowed := true, recurses := true, apart := false, narrowed := true }
def ElimInfeasibleUptoSaid : Prop := elimInfeasibleUptoRow.holds Try.pinned (OpenSpec.upto elimInfeasibleSpec)

/-- 'brocadelaw07.ElimDecides', WHERE WHAT IT READS IS OF BULK AT MOST 1048576: true; the input reads as it did. -/
def elimDecidesUptoRow : OpenClaim := { program := "ytkdgmbakhkdegaa", sum := "b1dce29719a2b9f4d962391af1aa247a261cd59adf243035c1f671a0cf497a45", func := "brocade/brocadelaw07.ElimDecides", spec := "elimDecides", unfollowed := true, recurses := true, apart := false, narrowed := true }
def ElimDecidesUptoSaid : Prop := elimDecidesUptoRow.holds Try.pinned (OpenSpec.upto elimDecidesSpec)

/-- 'brocadelaw07.ElimNever', WHERE WHAT IT READS IS OF BULK AT MOST 1048576: true; the input reads as it did. -/
def elimNeverUptoRow : OpenClaim := { program := "ytkdgmbakhkdegaa", sum := "b1dce29719a2b9f4d962391af1aa247a261cd59adf243035c1f671a0cf497a45", func := "brocade/brocadelaw07.ElimNever", spec := "elimNever", unfollowed := true, recurses := true, apart := false, narrowed := true }
def ElimNeverUptoSaid : Prop := elimNeverUptoRow.holds Try.pinned (OpenSpec.upto elimNeverSpec)

/-- 'brocadelaw08.EntailImplies', WHERE WHAT IT READS IS OF BULK AT MOST 1048576: true; the input reads as it did. -/
def entailImpliesUptoRow : OpenClaim := { program := "ytkdgmbakhkdegaa", sum := "b1dce29719a2b9f4d962391af1aa247a261cd59adf243035c1f671a0cf497a45", func := "brocade/brocadelaw08.EntailImplies", spec := "entailImplies", unfollowed := true, recurses := true, apart := false, narrowed := true }
def EntailImpliesUptoSaid : Prop := entailImpliesUptoRow.holds Try.pinned (OpenSpec.upto entailImpliesSpec)

/-- 'brocadelaw08.EntailSound', WHERE WHAT IT READS IS OF BULK AT MOST 1048576: true; the input reads as it did. -/
def entailSoundUptoRow : OpenClaim := { program := "ytkdgmbakhkdegaa", sum := "b1dce29719a2b9f4d962391af1aa247a261cd59adf243035c1f671a0cf497a45", func := "brocade/brocadelaw08.EntailSound", spec := "entailSound", unfollowed := true, recurses := true, apart := false, narrowed := true }
def EntailSoundUptoSaid : Prop := entailSoundUptoRow.holds Try.pinned (OpenSpec.upto entailSoundSpec)

/-- 'brocadelaw07.ElimEliminates', WHERE WHAT IT READS IS OF BULK AT MOST 1048576: true; the input reads as it did. -/
def elimEliminatesUptoRow : OpenClaim := { program := "ytkdgmbakhkdegaa", sum := "b1dce29719a2b9f4d962391af1aa247a261cd59adf243035c1f671a0cf497a45", func := "brocade/brocadelaw07.ElimEliminates", spec := "elimEliminates", unfollowed := true, recurses := true, apart := false, narrowed := true }
def ElimEliminatesUptoSaid : Prop := elimEliminatesUptoRow.holds Try.pinned (OpenSpec.upto elimEliminatesSpec)

/-- 'brocadelaw07.ElimLimit', WHERE WHAT IT READS IS OF BULK AT MOST 1048576: true; the input reads as it did. -/
def elimLimitUptoRow : OpenClaim := { program := "ytkdgmbakhkdegaa", sum := "b1dce29719a2b9f4d962391af1aa247a261cd59adf243035c1f671a0cf497a45", func := "brocade/brocadelaw07.ElimLimit", spec := "elimLimit", unfollowed := true, recurses := true, apart := false, narrowed := true }
def ElimLimitUptoSaid : Prop := elimLimitUptoRow.holds Try.pinned (OpenSpec.upto elimLimitSpec)

/-- 'brocadelaw07.ElimSound', WHERE WHAT IT READS IS OF BULK AT MOST 1048576: true; the input reads as it did. -/
def elimSoundUptoRow : OpenClaim := { program := "ytkdgmbakhkdegaa", sum := "b1dce29719a2b9f4d962391af1aa247a261cd59adf243035c1f671a0cf497a45", func := "brocade/brocadelaw07.ElimSound", spec := "elimSound", unfollowed := true, recurses := true, apart := false, narrowed := true }
def ElimSoundUptoSaid : Prop := elimSoundUptoRow.holds Try.pinned (OpenSpec.upto elimSoundSpec)

/-- 'brocadelaw07.ElimExact', WHERE WHAT IT READS IS OF BULK AT MOST 1048576: true; the input reads as it did. -/
def elimExactUptoRow : OpenClaim := { program := "ytkdgmbakhkdegaa", sum := "b1dce29719a2b9f4d962391af1aa247a261cd59adf243035c1f671a0cf497a45", func := "brocade/brocadelaw07.ElimExact", spec := "elimExact", unfollowed := true, recurses := true, apart := false, narrowed := true }
def ElimExactUptoSaid : Prop := elimExactUptoRow.holds Try.pinned (OpenSpec.upto elimExactSpec)

end Rows
end Go.Proofs.Ytkdgmbakhkdegaa
