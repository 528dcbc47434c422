/- Walks by the abstract machine: what both eliminations need. -/
import Derived.Test.YtnddmjhpplopbaaV07y
import Derived.Test.YtnddmjhpplopbaaPlain07ij
set_option linter.unusedVariables false
set_option linter.unusedSimpArgs false
set_option maxRecDepth 20000
namespace Go.Proofs.Ytnddmjhpplopbaa
open Go.Abs Go.RowKit

theorem frOk_s {N : Nat} {s : List Nat} {F : List (Nat × Box)} (h : frOk N s F) : True := trivial
abbrev aDers (x : List Row × Int) : AV := .tup [aRows x.1, I x.2]
abbrev natR (l : List Nat) : List (List PC) := l.map fun (i : Nat) => [pI (i : Int)]
theorem natR_snoc (l : List Nat) (i : Nat) : natR (l ++ [i]) = natR l ++ [[pI (i : Int)]] := by simp [natR]
theorem sgn_cases (c : Int) : (c = 0 ∧ c.sign = 0) ∨ (0 < c ∧ c.sign = 1) ∨ (c < 0 ∧ c.sign = -1) := by
 rcases Int.lt_trichotomy c 0 with h | h | h
 ·exact .inr (.inr ⟨h, Int.sign_eq_neg_one_of_neg h⟩)
 ·exact .inl ⟨h, by rw [h]; rfl⟩
 ·exact .inr (.inl ⟨h, Int.sign_eq_one_of_pos h⟩)
theorem step_unit {l : List Con} {i : Nat} {acc : List Row} (hl : ∀ c ∈ l, linOk c.1.2 ∧ con64 c) (hi : i < l.length) : stepD l (units2 l.length i 1 i 1) acc = (acc ++ [(l[i], units2 l.length i 1 i 1)], 0) := by
 rw [stepD, units_one, der_unit hi hl, if_neg (by simp)]
theorem list_drop {α : Type} {l : List α} {k : Nat} (h : k < l.length) : l.drop k = l[k] :: l.drop (k + 1) := List.drop_eq_getElem_cons h
theorem wrap_small {x : Int} (h0 : 0 ≤ x) (h1 : x ≤ 1000000000) : IntKind.wrap .i64 x = x := wrap_i64 (by omega)
end Go.Proofs.Ytnddmjhpplopbaa
