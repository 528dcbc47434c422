/- Walks by the abstract machine: floors of forms. -/
import Derived.Test.YtkdgmbakhkdegaaV07h
set_option linter.unusedVariables false
set_option linter.unusedSimpArgs false
set_option maxRecDepth 20000
namespace Go.Proofs.Ytkdgmbakhkdegaa
open Go.Abs Go.RowKit

theorem tdiv_64 {x : Int} {g : Nat} (hx : in64 x) : in64 (x.tdiv g) ∨ x.tdiv g = 9223372036854775808 := by
 have h : (x.tdiv g).natAbs ≤ x.natAbs := by rw [Int.natAbs_tdiv]; exact Nat.div_le_self _ _
 unfold in64 at *
 omega
theorem floor_facts {x : Int} {g : Nat} (hx : in64 x) (hg : 0 < g) (hg2 : g ≤ 9223372036854775808) : in64 (x.tdiv g) ∧ (x.tmod g < 0 → in64 (x.tdiv g - 1)) ∧ in64 (x.tdiv g * g) ∧ (x.tmod g < 0 ↔ x < x.tdiv g * g) := by
 have h1 := Int.tmod_def x g
 have e := ediv_tdiv (x := x) hg
 have h3 := div_64 hx hg
 have h2 : (x.tmod g).natAbs < g := by rw [Int.natAbs_tmod]; exact Nat.mod_lt _ (by simpa using hg)
 have h5 : (x.tdiv g * g).natAbs ≤ x.natAbs := by
  rw [Int.natAbs_mul, Int.natAbs_tdiv]
  exact Nat.div_mul_le_self _ _
 have h6 := Int.mul_comm (g : Int) (x.tdiv g)
 have h4 := tdiv_64 (g := g) hx
 rw [h6] at h1
 have hneg : x.tdiv g = 9223372036854775808 → False := fun h => by
  rw [e, h] at h3
  unfold in64 at h3 hx
  rw [h] at h1 h5
  have : 9223372036854775808 * 1 ≤ 9223372036854775808 * (g : Int) := Int.mul_le_mul_of_nonneg_left (by omega) (by omega)
  split at h3 <;> omega
 refine ⟨h4.resolve_right hneg, fun h => ?_, ?_, by omega⟩
 ·rw [e, if_pos h] at h3; exact h3
 ·unfold in64 at *
  by_cases hm : x = -9223372036854775808
  ·omega
  ·omega
theorem constraint_floorDiv_abs {x : Int} {g : Nat} (hx : in64 x) (hg : 0 < g) (hg2 : g ≤ 9223372036854775808) : PCalls Try.prog n_constraint_floorDiv [I x, I g] (I (x / (g : Int))) := by
 refine PCalls.of is_constraint_floorDiv (by simp) fun _ => runW_sound ?_
 simp only [c_constraint_floorDiv]
 obtain ⟨f1, f2, f3, f4⟩ := floor_facts hx hg hg2
 rw [ediv_tdiv hg]
 have hg' : ¬ (g : Int) = 0 := by omega
 unfold in64 at f1 f2
 have w1 : IntKind.wrap .i64 (x.tdiv g) = x.tdiv g := wrap_i64 f1
 clear f3 f4
 by_cases h : x.tmod g < 0
 ·have w2 : IntKind.wrap .i64 (x.tdiv g - 1) = x.tdiv g - 1 := wrap_i64 (f2 h)
  clear f2 f1
  repeat' first | simp (disch := omega) only [go_sem, ↓reduceIte, Nat.reduceEqDiff, reduceCtorEq, Int.reduceEq, hg', ne_eq, w1, w2] | ((with_reducible first | refine condD ?_ ?_ | refine condX ?_ ?_ | refine condW_intro ?_ ?_) <;> intro h <;> first | (exfalso; omega) | simp (disch := omega) only [go_sem, ↓reduceIte, Nat.reduceEqDiff, reduceCtorEq, Int.reduceEq, *, hg', ne_eq, w1, w2] | skip)
 ·clear f2 f1
  repeat' first | simp (disch := omega) only [go_sem, ↓reduceIte, Nat.reduceEqDiff, reduceCtorEq, Int.reduceEq, hg', ne_eq, w1] | ((with_reducible first | refine condD ?_ ?_ | refine condX ?_ ?_ | refine condW_intro ?_ ?_) <;> intro h <;> first | (exfalso; omega) | simp (disch := omega) only [go_sem, ↓reduceIte, Nat.reduceEqDiff, reduceCtorEq, Int.reduceEq, *, hg', ne_eq, w1] | skip)
theorem ref07_floor_abs {x : Int} {g : Nat} (hx : in64 x) (hg : 0 < g) (hg2 : g ≤ 9223372036854775808) : PCalls Try.prog n_ref07_floor [I x, I g] (I (x / (g : Int))) := by
 refine PCalls.of is_ref07_floor (by simp) fun _ => runW_sound ?_
 simp only [c_ref07_floor]
 obtain ⟨f1, f2, f3, f4⟩ := floor_facts hx hg hg2
 rw [ediv_tdiv hg]
 have hg' : ¬ (g : Int) = 0 := by omega
 unfold in64 at f1 f2 f3
 have w1 : IntKind.wrap .i64 (x.tdiv g) = x.tdiv g := wrap_i64 f1
 have w3 : IntKind.wrap .i64 (x.tdiv g * g) = x.tdiv g * g := wrap_i64 f3
 clear f3
 by_cases h : x.tmod g < 0
 ·have w2 : IntKind.wrap .i64 (x.tdiv g - 1) = x.tdiv g - 1 := wrap_i64 (f2 h)
  rw [if_pos h]
  have h' := f4.1 h
  clear f2 f1 f4 h
  repeat' first | simp (disch := omega) only [go_sem, ↓reduceIte, Nat.reduceEqDiff, reduceCtorEq, Int.reduceEq, hg', ne_eq, w1, w2, w3] | ((with_reducible first | refine condD ?_ ?_ | refine condX ?_ ?_ | refine condW_intro ?_ ?_) <;> intro h <;> first | (exfalso; omega) | simp (disch := omega) only [go_sem, ↓reduceIte, Nat.reduceEqDiff, reduceCtorEq, Int.reduceEq, *, hg', ne_eq, w1, w2, w3] | skip)
 ·rw [if_neg h]
  have h' := fun g => h (f4.2 g)
  clear f2 f1 f4 h
  repeat' first | simp (disch := omega) only [go_sem, ↓reduceIte, Nat.reduceEqDiff, reduceCtorEq, Int.reduceEq, hg', ne_eq, w1, w3] | ((with_reducible first | refine condD ?_ ?_ | refine condX ?_ ?_ | refine condW_intro ?_ ?_) <;> intro h <;> first | (exfalso; omega) | simp (disch := omega) only [go_sem, ↓reduceIte, Nat.reduceEqDiff, reduceCtorEq, Int.reduceEq, *, hg', ne_eq, w1, w3] | skip)
  all_goals exact (h' (by assumption)).elim
/-- The reference: the floor, or its negative. -/
def divR (x : Int) (g : Nat) (s : Bool) : Int × Bool := if s then ok64 (-(x / (g : Int))) else (x / (g : Int), true)
theorem big_div {x : Int} (hx : in64 x) : x / 9223372036854775808 = if x < 0 then -1 else 0 := by
 unfold in64 at hx
 split <;> omega
theorem ref07_divided_abs {x : Int} {g : Nat} (s : Bool) (hx : in64 x) (hg : 0 < g) (hg2 : g ≤ 9223372036854775808) : PCalls Try.prog n_ref07_divided [I x, U g, Go.Abs.B s] (aOk (divR x g s)) := by
 refine PCalls.of is_ref07_divided (by simp) fun _ => runW_sound ?_
 simp only [c_ref07_divided, divR]
 by_cases hb : g = 9223372036854775808
 ·subst hb
  rw [show ((9223372036854775808 : Nat) : Int) = 9223372036854775808 from rfl, big_div hx]
  have p1 := ref07_signed_abs (n := 1) false
  have p2 := ref07_signed_abs (n := 1) true
  by_cases h : x < 0
  ·rw [if_pos h]
   cases s
   ·repeat' first | simp (disch := omega) only [go_sem, ↓reduceIte, Nat.reduceEqDiff, reduceCtorEq, Int.reduceEq] | ((with_reducible first | refine condD ?_ ?_ | refine condX ?_ ?_ | refine condW_intro ?_ ?_) <;> intro h <;> first | (exfalso; omega) | simp (disch := omega) only [go_sem, ↓reduceIte, Nat.reduceEqDiff, reduceCtorEq, Int.reduceEq, *] | skip) | (refine callW_of p2 rfl (.inl rfl) ?_)
    all_goals rfl
   ·repeat' first | simp (disch := omega) only [go_sem, ↓reduceIte, Nat.reduceEqDiff, reduceCtorEq, Int.reduceEq] | ((with_reducible first | refine condD ?_ ?_ | refine condX ?_ ?_ | refine condW_intro ?_ ?_) <;> intro h <;> first | (exfalso; omega) | simp (disch := omega) only [go_sem, ↓reduceIte, Nat.reduceEqDiff, reduceCtorEq, Int.reduceEq, *] | skip) | (refine callW_of p1 rfl (.inl rfl) ?_)
    all_goals rfl
  ·rw [if_neg h]
   cases s
   ·repeat' first | simp (disch := omega) only [go_sem, ↓reduceIte, Nat.reduceEqDiff, reduceCtorEq, Int.reduceEq] | ((with_reducible first | refine condD ?_ ?_ | refine condX ?_ ?_ | refine condW_intro ?_ ?_) <;> intro h <;> first | (exfalso; omega) | simp (disch := omega) only [go_sem, ↓reduceIte, Nat.reduceEqDiff, reduceCtorEq, Int.reduceEq, *] | skip)
    all_goals rfl
   ·repeat' first | simp (disch := omega) only [go_sem, ↓reduceIte, Nat.reduceEqDiff, reduceCtorEq, Int.reduceEq] | ((with_reducible first | refine condD ?_ ?_ | refine condX ?_ ?_ | refine condW_intro ?_ ?_) <;> intro h <;> first | (exfalso; omega) | simp (disch := omega) only [go_sem, ↓reduceIte, Nat.reduceEqDiff, reduceCtorEq, Int.reduceEq, *] | skip)
    all_goals rfl
 ·have hb' : ¬ (g : Int) = 9223372036854775808 := by omega
  have w1 : IntKind.wrap .i64 (g : Int) = g := wrap_i64 (by omega)
  have p1 := ref07_floor_abs hx hg hg2
  have hq := div_64 hx hg
  generalize x / (g : Int) = q at *
  cases s
  ·repeat' first | simp (disch := omega) only [go_sem, ↓reduceIte, Nat.reduceEqDiff, reduceCtorEq, Int.reduceEq, hb', w1] | ((with_reducible first | refine condD ?_ ?_ | refine condX ?_ ?_ | refine condW_intro ?_ ?_) <;> intro h <;> first | (exfalso; omega) | simp (disch := omega) only [go_sem, ↓reduceIte, Nat.reduceEqDiff, reduceCtorEq, Int.reduceEq, *, hb', w1] | skip) | (refine callW_of p1 rfl (.inl rfl) ?_)
   all_goals rfl
  ·have p2 := ref07_size_abs hq
   have p3 := ref07_signed_abs (n := q.natAbs) (decide (q > 0))
   have e : sgnR q.natAbs (decide (q > 0)) = ok64 (-q) := by
    unfold in64 at hq
    by_cases h : q > 0
    ·rw [decide_eq_true h, sgnR, if_neg (by omega), sgnE, if_neg (by omega), if_pos rfl, ok64_in (by unfold in64; omega)]
     exact Prod.ext (by simp only; omega) rfl
    ·rw [decide_eq_false h, sgnR, if_neg (fun h => by cases h.2), sgnE]
     by_cases h2 : q = -9223372036854775808
     ·subst h2; rfl
     ·rw [if_neg (by omega), ok64_in (by unfold in64; omega)]
      exact Prod.ext (by simp; omega) rfl
   rw [e] at p3
   rw [if_pos rfl]
   generalize ok64 (-q) = R at *
   generalize q.natAbs = N at *
   repeat' first | simp (disch := omega) only [go_sem, ↓reduceIte, Nat.reduceEqDiff, reduceCtorEq, Int.reduceEq, hb', w1] | ((with_reducible first | refine condD ?_ ?_ | refine condX ?_ ?_ | refine condW_intro ?_ ?_) <;> intro h <;> first | (exfalso; omega) | simp (disch := omega) only [go_sem, ↓reduceIte, Nat.reduceEqDiff, reduceCtorEq, Int.reduceEq, *, hb', w1] | skip) | (refine callW_of p1 rfl (.inl rfl) ?_) | (refine callW_of p2 rfl (.inl rfl) ?_) | (refine callW_of p3 rfl (.inl rfl) ?_)
   all_goals rfl
end Go.Proofs.Ytkdgmbakhkdegaa
