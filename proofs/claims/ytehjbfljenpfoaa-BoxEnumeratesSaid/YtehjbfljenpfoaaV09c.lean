/- Walks by the abstract machine: the two orders of layer 9. -/
import Derived.Test.YtehjbfljenpfoaaV09b
set_option linter.unusedVariables false
set_option linter.unusedSimpArgs false
set_option maxRecDepth 20000
namespace Go.Proofs.Ytehjbfljenpfoaa
open Go.Abs Go.RowKit

def lex : List Int → List Int → Int
 | [], [] => 0
 | [], _ :: _ => -1
 | _ :: _, [] => 1
 | x :: xs, y :: ys => if x < y then -1 else if y < x then 1 else lex xs ys
theorem lex_ne {xs ys : List Int} {k : Nat} (h : k < xs.length) (h' : k < ys.length) (e : xs[k] ≠ ys[k]) : lex (xs.drop k) (ys.drop k) = if xs[k] > ys[k] then 1 else -1 := by
 rw [List.drop_eq_getElem_cons h, List.drop_eq_getElem_cons h', lex]
 split
 ·rw [if_neg (by omega)]
 ·rw [if_pos (by omega), if_pos (by omega)]
theorem lex_eq {xs ys : List Int} {k : Nat} (h : k < xs.length) (h' : k < ys.length) (e : xs[k] = ys[k]) : lex (xs.drop k) (ys.drop k) = lex (xs.drop (k + 1)) (ys.drop (k + 1)) := by
 rw [List.drop_eq_getElem_cons h, List.drop_eq_getElem_cons h', lex, if_neg (by omega), if_neg (by omega)]
theorem lex_end {xs ys : List Int} {k : Nat} (h : k = min xs.length ys.length) : lex (xs.drop k) (ys.drop k) = if xs.length = ys.length then 0 else if xs.length > ys.length then 1 else -1 := by
 by_cases e : xs.length = ys.length
 ·rw [List.drop_eq_nil_of_le (by omega), List.drop_eq_nil_of_le (by omega), if_pos e, lex]
 ·rw [if_neg e]
  by_cases h1 : xs.length > ys.length
  ·rw [List.drop_eq_getElem_cons (show k < xs.length by omega), List.drop_eq_nil_of_le (show ys.length ≤ k by omega), if_pos h1, lex]
  ·rw [List.drop_eq_getElem_cons (show k < ys.length by omega), List.drop_eq_nil_of_le (show xs.length ≤ k by omega), if_neg h1, lex]

end Go.Proofs.Ytehjbfljenpfoaa
