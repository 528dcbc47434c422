/- Walks by the abstract machine: names, sums and products of numbers. -/
import Derived.Test.YtehjbfljenpfoaaV00
set_option linter.unusedVariables false
set_option linter.unusedSimpArgs false
set_option maxRecDepth 20000
namespace Go.Proofs.Ytehjbfljenpfoaa
open Go.Abs Go.RowKit

def words : List ByteArray := [⟨⟨[115, 105, 122, 101]⟩⟩, ⟨⟨[119, 104, 101, 114, 101]⟩⟩, ⟨⟨[105, 110]⟩⟩, ⟨⟨[100, 101, 102]⟩⟩, ⟨⟨[111, 117, 116]⟩⟩, ⟨⟨[115, 117, 109]⟩⟩, ⟨⟨[112, 114, 111, 100]⟩⟩, ⟨⟨[109, 105, 110]⟩⟩, ⟨⟨[109, 97, 120]⟩⟩, ⟨⟨[115, 99, 97, 110]⟩⟩, ⟨⟨[111, 118, 101, 114]⟩⟩, ⟨⟨[105, 102]⟩⟩, ⟨⟨[99, 97, 115, 116]⟩⟩, ⟨⟨[102, 114, 97, 99]⟩⟩, ⟨⟨[105, 110, 116]⟩⟩, ⟨⟨[102, 105, 120]⟩⟩, ⟨⟨[99, 101, 105, 108]⟩⟩, ⟨⟨[102, 108, 111, 111, 114]⟩⟩, ⟨⟨[122, 101, 114, 111]⟩⟩, ⟨⟨[101, 118, 101, 110]⟩⟩, ⟨⟨[115, 97, 116]⟩⟩, ⟨⟨[119, 114, 97, 112]⟩⟩]
theorem lin_reserved_abs (s : ByteArray) : PCalls Try.prog n_lin_reserved [S s] (Go.Abs.B (decide (s ∈ words))) := by
 refine PCalls.of is_lin_reserved (by simp) fun _ => runW_sound ?_
 simp only [c_lin_reserved]
 repeat' first | simp (disch := omega) only [go_sem, *] | ((with_reducible apply condT) <;> intro h <;> try omega)
 all_goals simp [words, *]
end Go.Proofs.Ytehjbfljenpfoaa
