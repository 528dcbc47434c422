/- Walks by the abstract machine: contradictions, tight lists. -/
import Derived.Test.YtkdgmbakhkdegaaV07k
set_option linter.unusedVariables false
set_option linter.unusedSimpArgs false
set_option maxRecDepth 20000
namespace Go.Proofs.Ytkdgmbakhkdegaa
open Go.Abs Go.RowKit

/-- A constraint without names that nothing satisfies. -/
def conBad (c : Con) : Prop := c.1.2 = [] ∧ (c.1.1 < 0 ∨ (c.2 = true ∧ c.1.1 ≠ 0))
noncomputable instance (c : Con) : Decidable (conBad c) := Classical.propDecidable _
theorem elim_contradictory_abs (c : Con) : PCalls Try.prog n_elim_contradictory [aCon c] (Go.Abs.B (decide (conBad c))) := by
 refine PCalls.of is_elim_contradictory (by simp) fun _ => runW_sound ?_
 obtain ⟨⟨k, l⟩, q⟩ := c
 simp only [c_elim_contradictory]
 cases l with
 | nil =>
  have e : decide (conBad ((k, []), q)) = (decide (k < 0) || (q && decide (k ≠ 0))) := by
   rw [Bool.eq_iff_iff]
   simp [conBad]
  rw [e]
  by_cases h : k < 0
  ·cases q
   ·repeat' first | simp (disch := omega) only [go_sem, ↓reduceIte, Nat.reduceEqDiff, reduceCtorEq, Int.reduceEq] | ((with_reducible first | refine condD ?_ ?_ | refine condX ?_ ?_ | refine condW_intro ?_ ?_) <;> intro h <;> first | (exfalso; omega) | simp (disch := omega) only [go_sem, ↓reduceIte, Nat.reduceEqDiff, reduceCtorEq, Int.reduceEq, *] | skip)
    all_goals simp [h]
   ·repeat' first | simp (disch := omega) only [go_sem, ↓reduceIte, Nat.reduceEqDiff, reduceCtorEq, Int.reduceEq] | ((with_reducible first | refine condD ?_ ?_ | refine condX ?_ ?_ | refine condW_intro ?_ ?_) <;> intro h <;> first | (exfalso; omega) | simp (disch := omega) only [go_sem, ↓reduceIte, Nat.reduceEqDiff, reduceCtorEq, Int.reduceEq, *] | skip)
    all_goals simp [h]
  ·by_cases h0 : k = 0
   ·subst h0
    cases q
    ·repeat' first | simp (disch := omega) only [go_sem, ↓reduceIte, Nat.reduceEqDiff, reduceCtorEq, Int.reduceEq] | ((with_reducible first | refine condD ?_ ?_ | refine condX ?_ ?_ | refine condW_intro ?_ ?_) <;> intro h <;> first | (exfalso; omega) | simp (disch := omega) only [go_sem, ↓reduceIte, Nat.reduceEqDiff, reduceCtorEq, Int.reduceEq, *] | skip)
     all_goals simp
    ·repeat' first | simp (disch := omega) only [go_sem, ↓reduceIte, Nat.reduceEqDiff, reduceCtorEq, Int.reduceEq] | ((with_reducible first | refine condD ?_ ?_ | refine condX ?_ ?_ | refine condW_intro ?_ ?_) <;> intro h <;> first | (exfalso; omega) | simp (disch := omega) only [go_sem, ↓reduceIte, Nat.reduceEqDiff, reduceCtorEq, Int.reduceEq, *] | skip)
     all_goals simp
   ·cases q
    ·repeat' first | simp (disch := omega) only [go_sem, ↓reduceIte, Nat.reduceEqDiff, reduceCtorEq, Int.reduceEq, h0] | ((with_reducible first | refine condD ?_ ?_ | refine condX ?_ ?_ | refine condW_intro ?_ ?_) <;> intro h <;> first | (exfalso; omega) | simp (disch := omega) only [go_sem, ↓reduceIte, Nat.reduceEqDiff, reduceCtorEq, Int.reduceEq, *, h0] | skip)
     all_goals simp [h, h0]
    ·repeat' first | simp (disch := omega) only [go_sem, ↓reduceIte, Nat.reduceEqDiff, reduceCtorEq, Int.reduceEq, h0] | ((with_reducible first | refine condD ?_ ?_ | refine condX ?_ ?_ | refine condW_intro ?_ ?_) <;> intro h <;> first | (exfalso; omega) | simp (disch := omega) only [go_sem, ↓reduceIte, Nat.reduceEqDiff, reduceCtorEq, Int.reduceEq, *, h0] | skip)
     all_goals simp [h, h0]
 | cons m r =>
  have e : decide (conBad ((k, m :: r), q)) = false := decide_eq_false fun h => by cases h.1
  rw [e]
  have e0 : ¬ (((m :: r).length : Nat) : Int) = 0 := by simp; omega
  generalize m :: r = L at *
  repeat' first | simp (disch := omega) only [go_sem, ↓reduceIte, Nat.reduceEqDiff, reduceCtorEq, Int.reduceEq, e0] | ((with_reducible first | refine condD ?_ ?_ | refine condX ?_ ?_ | refine condW_intro ?_ ?_) <;> intro h <;> first | (exfalso; omega) | simp (disch := omega) only [go_sem, ↓reduceIte, Nat.reduceEqDiff, reduceCtorEq, Int.reduceEq, *, e0] | skip)
theorem ref07_Contradictory_abs (c : Con) : PCalls Try.prog n_ref07_Contradictory [aCon c] (Go.Abs.B (decide (conBad c))) := by
 refine PCalls.of is_ref07_Contradictory (by simp) fun _ => runW_sound ?_
 obtain ⟨⟨k, l⟩, q⟩ := c
 simp only [c_ref07_Contradictory]
 cases l with
 | nil =>
  have e : decide (conBad ((k, []), q)) = (decide (k < 0) || (q && decide (k ≠ 0))) := by
   rw [Bool.eq_iff_iff]
   simp [conBad]
  rw [e]
  by_cases h : k < 0
  ·cases q
   ·repeat' first | simp (disch := omega) only [go_sem, ↓reduceIte, Nat.reduceEqDiff, reduceCtorEq, Int.reduceEq] | ((with_reducible first | refine condD ?_ ?_ | refine condX ?_ ?_ | refine condW_intro ?_ ?_) <;> intro h <;> first | (exfalso; omega) | simp (disch := omega) only [go_sem, ↓reduceIte, Nat.reduceEqDiff, reduceCtorEq, Int.reduceEq, *] | skip)
    all_goals simp [h]
   ·repeat' first | simp (disch := omega) only [go_sem, ↓reduceIte, Nat.reduceEqDiff, reduceCtorEq, Int.reduceEq] | ((with_reducible first | refine condD ?_ ?_ | refine condX ?_ ?_ | refine condW_intro ?_ ?_) <;> intro h <;> first | (exfalso; omega) | simp (disch := omega) only [go_sem, ↓reduceIte, Nat.reduceEqDiff, reduceCtorEq, Int.reduceEq, *] | skip)
    all_goals simp [h]
  ·by_cases h0 : k = 0
   ·subst h0
    cases q
    ·repeat' first | simp (disch := omega) only [go_sem, ↓reduceIte, Nat.reduceEqDiff, reduceCtorEq, Int.reduceEq] | ((with_reducible first | refine condD ?_ ?_ | refine condX ?_ ?_ | refine condW_intro ?_ ?_) <;> intro h <;> first | (exfalso; omega) | simp (disch := omega) only [go_sem, ↓reduceIte, Nat.reduceEqDiff, reduceCtorEq, Int.reduceEq, *] | skip)
     all_goals simp
    ·repeat' first | simp (disch := omega) only [go_sem, ↓reduceIte, Nat.reduceEqDiff, reduceCtorEq, Int.reduceEq] | ((with_reducible first | refine condD ?_ ?_ | refine condX ?_ ?_ | refine condW_intro ?_ ?_) <;> intro h <;> first | (exfalso; omega) | simp (disch := omega) only [go_sem, ↓reduceIte, Nat.reduceEqDiff, reduceCtorEq, Int.reduceEq, *] | skip)
     all_goals simp
   ·cases q
    ·repeat' first | simp (disch := omega) only [go_sem, ↓reduceIte, Nat.reduceEqDiff, reduceCtorEq, Int.reduceEq, h0] | ((with_reducible first | refine condD ?_ ?_ | refine condX ?_ ?_ | refine condW_intro ?_ ?_) <;> intro h <;> first | (exfalso; omega) | simp (disch := omega) only [go_sem, ↓reduceIte, Nat.reduceEqDiff, reduceCtorEq, Int.reduceEq, *, h0] | skip)
     all_goals simp [h, h0]
    ·repeat' first | simp (disch := omega) only [go_sem, ↓reduceIte, Nat.reduceEqDiff, reduceCtorEq, Int.reduceEq, h0] | ((with_reducible first | refine condD ?_ ?_ | refine condX ?_ ?_ | refine condW_intro ?_ ?_) <;> intro h <;> first | (exfalso; omega) | simp (disch := omega) only [go_sem, ↓reduceIte, Nat.reduceEqDiff, reduceCtorEq, Int.reduceEq, *, h0] | skip)
     all_goals simp [h, h0]
 | cons m r =>
  have e : decide (conBad ((k, m :: r), q)) = false := decide_eq_false fun h => by cases h.1
  rw [e]
  have e0 : ¬ (((m :: r).length : Nat) : Int) = 0 := by simp; omega
  generalize m :: r = L at *
  repeat' first | simp (disch := omega) only [go_sem, ↓reduceIte, Nat.reduceEqDiff, reduceCtorEq, Int.reduceEq, e0] | ((with_reducible first | refine condD ?_ ?_ | refine condX ?_ ?_ | refine condW_intro ?_ ?_) <;> intro h <;> first | (exfalso; omega) | simp (disch := omega) only [go_sem, ↓reduceIte, Nat.reduceEqDiff, reduceCtorEq, Int.reduceEq, *, e0] | skip)
end Go.Proofs.Ytkdgmbakhkdegaa
