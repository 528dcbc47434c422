/- Plain laws of the lexicographic order. -/
import Derived.Test.YtehjbfljenpfoaaV09d
set_option linter.unusedVariables false
namespace Go.Proofs.Ytehjbfljenpfoaa

theorem lex_range : ∀ (xs ys : List Int), lex xs ys = -1 ∨ lex xs ys = 0 ∨ lex xs ys = 1
 | [], [] => by simp [lex]
 | [], _ :: _ => by simp [lex]
 | _ :: _, [] => by simp [lex]
 |x :: xs, y :: ys => by
  rw [lex]
  split
  ·exact .inl rfl
  ·split
   ·exact .inr (.inr rfl)
   ·exact lex_range xs ys
theorem lex_swap : ∀ (xs ys : List Int), lex ys xs = - lex xs ys
 | [], [] => by simp [lex]
 | [], _ :: _ => by simp [lex]
 | _ :: _, [] => by simp [lex]
 |x :: xs, y :: ys => by
  rw [lex, lex]
  have := lex_swap xs ys
  split <;> split <;> (try split) <;> first | omega | rfl
theorem lex_zero : ∀ {xs ys : List Int}, lex xs ys = 0 ↔ xs = ys
 | [], [] => by simp [lex]
 | [], _ :: _ => by simp [lex]
 | _ :: _, [] => by simp [lex]
 |x :: xs, y :: ys => by
  rw [lex]
  split
  ·simp; intro h; omega
  ·split
   ·simp; intro h; omega
   ·rw [lex_zero, List.cons.injEq]
    exact ⟨fun h => ⟨by omega, h⟩, fun h => h.2⟩
theorem lex_trans : ∀ {xs ys zs : List Int}, lex xs ys ≤ 0 → lex ys zs ≤ 0 → lex xs zs ≤ 0
 | [], _, [], _, _ => by simp [lex]
 | [], _, _ :: _, _, _ => by simp [lex]
 | _ :: _, [], _, h, _ => by simp [lex] at h
 | _ :: _, _ :: _, [], _, h => by simp [lex] at h
 |x :: xs, y :: ys, z :: zs, h, h' => by
  rw [lex] at h h' ⊢
  have ih := lex_trans (xs := xs) (ys := ys) (zs := zs)
  split at h
  ·split at h'
   ·rw [if_pos (by omega)]; omega
   ·split at h'
    ·omega
    ·rw [if_pos (by omega)]; omega
  ·split at h
   ·omega
   ·split at h'
    ·rw [if_pos (by omega)]; omega
    ·split at h'
     ·omega
     ·rw [if_neg (by omega), if_neg (by omega)]
      exact ih h h'
end Go.Proofs.Ytehjbfljenpfoaa
