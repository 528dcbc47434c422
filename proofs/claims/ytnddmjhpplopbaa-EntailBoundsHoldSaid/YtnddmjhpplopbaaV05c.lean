/- Walks by the abstract machine: the reference's values of forms: numbers of six digits. -/
import Derived.Test.YtnddmjhpplopbaaV05b
import Derived.Test.YtnddmjhpplopbaaCodesE
import Derived.Lib.Hide
set_option linter.unusedVariables false
set_option linter.unusedSimpArgs false
set_option maxRecDepth 20000
namespace Go.Proofs.Ytnddmjhpplopbaa
open Go.Abs Go.RowKit

def Bp : Nat → Int
 | 0 => 1
 | 1 => 4294967296
 | 2 => 18446744073709551616
 | 3 => 79228162514264337593543950336
 | 4 => 340282366920938463463374607431768211456
 | 5 => 1461501637330902918203684832716283019655932542976
 | _ => 6277101735386680763835789423207666416102355444464034512896
abbrev u64 (n : Int) : AC := .pure (.val (.int .u64 n))
abbrev U5 (n : Int) : AV := .c (u64 n)
/-- Six digits. -/
abbrev u6 (a : Nat → Int) : List AC := [u64 (a 0), u64 (a 1), u64 (a 2), u64 (a 3), u64 (a 4), u64 (a 5)]
def w6sum (a : Nat → Int) : Int := a 0 * Bp 0 + a 1 * Bp 1 + a 2 * Bp 2 + a 3 * Bp 3 + a 4 * Bp 4 + a 5 * Bp 5
def isDig (a : Nat → Int) : Prop := ∀ j, j < 6 → 0 ≤ a j ∧ a j < 4294967296
/-- The digits of x. -/
def dg (x : Int) (j : Nat) : Int := x / Bp j % 4294967296
abbrev aW (x : Int) : AV := .agg (u6 (dg x))
theorem dg_dig (x : Int) : isDig (dg x) := fun j _ => by unfold dg; omega
theorem dg_sum {x : Int} (h0 : 0 ≤ x) (h1 : x < Bp 6) : w6sum (dg x) = x := by
 simp only [w6sum, dg, Bp] at *
 omega
theorem dg_of {a : Nat → Int} (h : isDig a) : ∀ j, j < 6 → dg (w6sum a) j = a j := by
 intro j hj
 have h0 := h 0 (by omega)
 have h1 := h 1 (by omega)
 have h2 := h 2 (by omega)
 have h3 := h 3 (by omega)
 have h4 := h 4 (by omega)
 have h5 := h 5 (by omega)
 simp only [w6sum, dg, Bp]
 match j, hj with
 | 0, _ => simp only [Bp]; omega
 | 1, _ => simp only [Bp]; omega
 | 2, _ => simp only [Bp]; omega
 | 3, _ => simp only [Bp]; omega
 | 4, _ => simp only [Bp]; omega
 | 5, _ => simp only [Bp]; omega
theorem u6_of {a : Nat → Int} (h : isDig a) {x : Int} (hx : w6sum a = x) : u6 a = u6 (dg x) := by
 subst hx
 simp only [u6, dg_of h 0 (by omega), dg_of h 1 (by omega), dg_of h 2 (by omega), dg_of h 3 (by omega), dg_of h 4 (by omega), dg_of h 5 (by omega)]

theorem ref05_digit_abs {x n : Int} {at' : Nat} (hat : at' ≤ 2) (hx0 : 0 ≤ x) (hn0 : 0 ≤ n) (hn1 : n < 18446744073709551616) (hx1 : x + n * Bp at' < Bp 6) : PCalls Try.prog n_ref05_digit [aW x, I at', U5 n] (aW (x + n * Bp at')) := by
 refine PCalls.of is_ref05_digit (by simp) fun _ => runW_sound ?_
 have hB : 0 ≤ n * Bp at' := Int.mul_nonneg hn0 (by match at', hat with | 0, _ => decide | 1, _ => decide | 2, _ => decide)
 have hsum := dg_sum hx0 (by omega)
 have hdig := dg_dig x
 obtain ⟨R, hR⟩ : ∃ R, R = x + n * Bp at' := ⟨_, rfl⟩
 rw [← hR] at hx1 ⊢
 simp only [c_ref05_digit]
 repeat' first | simp (disch := omega) only [go_sem, ↓reduceIte, Nat.reduceEqDiff, reduceCtorEq, Int.reduceEq] | ((with_reducible first | refine condD ?_ ?_ | refine condX ?_ ?_ | refine condW_intro ?_ ?_) <;> intro h <;> first | (exfalso; omega) | simp (disch := omega) only [go_sem, ↓reduceIte, Nat.reduceEqDiff, reduceCtorEq, Int.reduceEq, *] | skip)
 refine AW_loop (fun s : Nat × (Nat → Int) × Int × Int => ⟨[(2, U5 s.2.2.2), (3, .c (.ptr 0 0)), (6, .c (.ptr 1 0)), (7, U5 s.2.2.1), (8, I s.1)], [(0, .var (u6 s.2.1)), (1, .var (u6 fun _ => 0))], 2, 0⟩)
  (fun s => s.1 ≤ 6 ∧ isDig s.2.1 ∧ 0 ≤ s.2.2.1 ∧ s.2.2.1 ≤ 1 ∧ 0 ≤ s.2.2.2 ∧ s.2.2.2 < 18446744073709551616 ∧ w6sum s.2.1 + (s.2.2.2 + s.2.2.1) * Bp s.1 = R) (fun s => 6 - s.1) ⟨(at', dg x, 0, n), [], ⟨by show at' ≤ 6; omega, hdig, by show (0 : Int) ≤ 0; decide, by show (0 : Int) ≤ 1; decide, hn0, hn1, ?_⟩, by simp [Wk, wkF, wkM, wkL, look_cons, renV, renA, renC, renB, rn, clV, clA, clAs, clB, notIn, findB, findB_setB, clA.go]⟩ ?_
 ·show w6sum (dg x) + (n + 0) * Bp at' = R
  rw [hsum, Int.add_zero, hR]
 clear hsum hdig hR hn0 hn1 hB
 rintro ⟨i, a, c, n⟩ ⟨hi, ha, hc0, hc1, hn0, hn1, hsum⟩
 refine runW_sound ?_
 simp only at hi ha hc0 hc1 hn0 hn1 hsum
 have h0 := ha 0 (by omega)
 have h1 := ha 1 (by omega)
 have h2 := ha 2 (by omega)
 have h3 := ha 3 (by omega)
 have h4 := ha 4 (by omega)
 have h5 := ha 5 (by omega)
 by_cases h6 : i = 6
 ·subst h6
  have hz : w6sum a = R := by
   simp only [w6sum, Bp] at hsum hx1 ⊢
   omega
  repeat' first | simp (disch := omega) only [go_sem, ↓reduceIte, Nat.reduceEqDiff, reduceCtorEq, Int.reduceEq, Int.toNat_natCast] | ((with_reducible first | refine condD ?_ ?_ | refine condX ?_ ?_ | refine condW_intro ?_ ?_) <;> intro h <;> first | (exfalso; omega) | simp (disch := omega) only [go_sem, ↓reduceIte, Nat.reduceEqDiff, reduceCtorEq, Int.reduceEq, *, Int.toNat_natCast] | skip)
  show AV.agg (u6 a) = _
  rw [u6_of ha hz]
 ·have upd : ∀ k d, k < 6 → 0 ≤ d → d < 4294967296 → isDig (fun j => if j = k then d else a j) := by
   intro k d hk hd0 hd1 j hj
   by_cases e : j = k
   ·simp only [e, if_true]; exact ⟨hd0, hd1⟩
   ·simp only [e, if_false]; exact ha j hj
  match i, (show i < 6 by omega) with
  | 0, _ =>
   repeat' first | simp (disch := omega) only [go_sem, ↓reduceIte, Nat.reduceEqDiff, reduceCtorEq, Int.reduceEq, Int.toNat_natCast, Nat.mul_one, wrap_u64, Int.tdiv_eq_ediv_of_nonneg, Int.tmod_eq_emod_of_nonneg, wrap_i64] | ((with_reducible first | refine condD ?_ ?_ | refine condX ?_ ?_ | refine condW_intro ?_ ?_) <;> intro h <;> first | (exfalso; omega) | simp (disch := omega) only [go_sem, ↓reduceIte, Nat.reduceEqDiff, reduceCtorEq, Int.reduceEq, *, Int.toNat_natCast, Nat.mul_one, wrap_u64, Int.tdiv_eq_ediv_of_nonneg, Int.tmod_eq_emod_of_nonneg, wrap_i64] | skip)
   refine ⟨(0 + 1, fun j => if j = 0 then (a 0 + n % 4294967296 + c) % 4294967296 else a j, (a 0 + n % 4294967296 + c) / 4294967296, n / 4294967296), [], ⟨by show 0 + 1 ≤ 6; omega, upd 0 _ (by omega) (by omega) (by omega), ?_, ?_, ?_, ?_, ?_⟩, by show 6 - (0 + 1) < 6 - 0; omega, by simp [Wk, wkF, wkM, wkL, look_cons, renV, renA, renC, renB, rn, clV, clA, clAs, clB, notIn, findB, findB_setB, clA.go]⟩
   ·show 0 ≤ (a 0 + n % 4294967296 + c) / 4294967296; omega
   ·show (a 0 + n % 4294967296 + c) / 4294967296 ≤ 1; omega
   ·show 0 ≤ n / 4294967296; omega
   ·show n / 4294967296 < 18446744073709551616; omega
   ·simp only [w6sum, Bp, Nat.reduceEqDiff, if_true, if_false, reduceIte, Nat.zero_ne_one] at hsum ⊢
    omega
  | 1, _ =>
   repeat' first | simp (disch := omega) only [go_sem, ↓reduceIte, Nat.reduceEqDiff, reduceCtorEq, Int.reduceEq, Int.toNat_natCast, Nat.mul_one, wrap_u64, Int.tdiv_eq_ediv_of_nonneg, Int.tmod_eq_emod_of_nonneg, wrap_i64] | ((with_reducible first | refine condD ?_ ?_ | refine condX ?_ ?_ | refine condW_intro ?_ ?_) <;> intro h <;> first | (exfalso; omega) | simp (disch := omega) only [go_sem, ↓reduceIte, Nat.reduceEqDiff, reduceCtorEq, Int.reduceEq, *, Int.toNat_natCast, Nat.mul_one, wrap_u64, Int.tdiv_eq_ediv_of_nonneg, Int.tmod_eq_emod_of_nonneg, wrap_i64] | skip)
   refine ⟨(1 + 1, fun j => if j = 1 then (a 1 + n % 4294967296 + c) % 4294967296 else a j, (a 1 + n % 4294967296 + c) / 4294967296, n / 4294967296), [], ⟨by show 1 + 1 ≤ 6; omega, upd 1 _ (by omega) (by omega) (by omega), ?_, ?_, ?_, ?_, ?_⟩, by show 6 - (1 + 1) < 6 - 1; omega, by simp [Wk, wkF, wkM, wkL, look_cons, renV, renA, renC, renB, rn, clV, clA, clAs, clB, notIn, findB, findB_setB, clA.go]⟩
   ·show 0 ≤ (a 1 + n % 4294967296 + c) / 4294967296; omega
   ·show (a 1 + n % 4294967296 + c) / 4294967296 ≤ 1; omega
   ·show 0 ≤ n / 4294967296; omega
   ·show n / 4294967296 < 18446744073709551616; omega
   ·simp only [w6sum, Bp, Nat.reduceEqDiff, if_true, if_false, reduceIte, Nat.zero_ne_one] at hsum ⊢
    omega
  | 2, _ =>
   repeat' first | simp (disch := omega) only [go_sem, ↓reduceIte, Nat.reduceEqDiff, reduceCtorEq, Int.reduceEq, Int.toNat_natCast, Nat.mul_one, wrap_u64, Int.tdiv_eq_ediv_of_nonneg, Int.tmod_eq_emod_of_nonneg, wrap_i64] | ((with_reducible first | refine condD ?_ ?_ | refine condX ?_ ?_ | refine condW_intro ?_ ?_) <;> intro h <;> first | (exfalso; omega) | simp (disch := omega) only [go_sem, ↓reduceIte, Nat.reduceEqDiff, reduceCtorEq, Int.reduceEq, *, Int.toNat_natCast, Nat.mul_one, wrap_u64, Int.tdiv_eq_ediv_of_nonneg, Int.tmod_eq_emod_of_nonneg, wrap_i64] | skip)
   refine ⟨(2 + 1, fun j => if j = 2 then (a 2 + n % 4294967296 + c) % 4294967296 else a j, (a 2 + n % 4294967296 + c) / 4294967296, n / 4294967296), [], ⟨by show 2 + 1 ≤ 6; omega, upd 2 _ (by omega) (by omega) (by omega), ?_, ?_, ?_, ?_, ?_⟩, by show 6 - (2 + 1) < 6 - 2; omega, by simp [Wk, wkF, wkM, wkL, look_cons, renV, renA, renC, renB, rn, clV, clA, clAs, clB, notIn, findB, findB_setB, clA.go]⟩
   ·show 0 ≤ (a 2 + n % 4294967296 + c) / 4294967296; omega
   ·show (a 2 + n % 4294967296 + c) / 4294967296 ≤ 1; omega
   ·show 0 ≤ n / 4294967296; omega
   ·show n / 4294967296 < 18446744073709551616; omega
   ·simp only [w6sum, Bp, Nat.reduceEqDiff, if_true, if_false, reduceIte, Nat.zero_ne_one] at hsum ⊢
    omega
  | 3, _ =>
   repeat' first | simp (disch := omega) only [go_sem, ↓reduceIte, Nat.reduceEqDiff, reduceCtorEq, Int.reduceEq, Int.toNat_natCast, Nat.mul_one, wrap_u64, Int.tdiv_eq_ediv_of_nonneg, Int.tmod_eq_emod_of_nonneg, wrap_i64] | ((with_reducible first | refine condD ?_ ?_ | refine condX ?_ ?_ | refine condW_intro ?_ ?_) <;> intro h <;> first | (exfalso; omega) | simp (disch := omega) only [go_sem, ↓reduceIte, Nat.reduceEqDiff, reduceCtorEq, Int.reduceEq, *, Int.toNat_natCast, Nat.mul_one, wrap_u64, Int.tdiv_eq_ediv_of_nonneg, Int.tmod_eq_emod_of_nonneg, wrap_i64] | skip)
   refine ⟨(3 + 1, fun j => if j = 3 then (a 3 + n % 4294967296 + c) % 4294967296 else a j, (a 3 + n % 4294967296 + c) / 4294967296, n / 4294967296), [], ⟨by show 3 + 1 ≤ 6; omega, upd 3 _ (by omega) (by omega) (by omega), ?_, ?_, ?_, ?_, ?_⟩, by show 6 - (3 + 1) < 6 - 3; omega, by simp [Wk, wkF, wkM, wkL, look_cons, renV, renA, renC, renB, rn, clV, clA, clAs, clB, notIn, findB, findB_setB, clA.go]⟩
   ·show 0 ≤ (a 3 + n % 4294967296 + c) / 4294967296; omega
   ·show (a 3 + n % 4294967296 + c) / 4294967296 ≤ 1; omega
   ·show 0 ≤ n / 4294967296; omega
   ·show n / 4294967296 < 18446744073709551616; omega
   ·simp only [w6sum, Bp, Nat.reduceEqDiff, if_true, if_false, reduceIte, Nat.zero_ne_one] at hsum ⊢
    omega
  | 4, _ =>
   repeat' first | simp (disch := omega) only [go_sem, ↓reduceIte, Nat.reduceEqDiff, reduceCtorEq, Int.reduceEq, Int.toNat_natCast, Nat.mul_one, wrap_u64, Int.tdiv_eq_ediv_of_nonneg, Int.tmod_eq_emod_of_nonneg, wrap_i64] | ((with_reducible first | refine condD ?_ ?_ | refine condX ?_ ?_ | refine condW_intro ?_ ?_) <;> intro h <;> first | (exfalso; omega) | simp (disch := omega) only [go_sem, ↓reduceIte, Nat.reduceEqDiff, reduceCtorEq, Int.reduceEq, *, Int.toNat_natCast, Nat.mul_one, wrap_u64, Int.tdiv_eq_ediv_of_nonneg, Int.tmod_eq_emod_of_nonneg, wrap_i64] | skip)
   refine ⟨(4 + 1, fun j => if j = 4 then (a 4 + n % 4294967296 + c) % 4294967296 else a j, (a 4 + n % 4294967296 + c) / 4294967296, n / 4294967296), [], ⟨by show 4 + 1 ≤ 6; omega, upd 4 _ (by omega) (by omega) (by omega), ?_, ?_, ?_, ?_, ?_⟩, by show 6 - (4 + 1) < 6 - 4; omega, by simp [Wk, wkF, wkM, wkL, look_cons, renV, renA, renC, renB, rn, clV, clA, clAs, clB, notIn, findB, findB_setB, clA.go]⟩
   ·show 0 ≤ (a 4 + n % 4294967296 + c) / 4294967296; omega
   ·show (a 4 + n % 4294967296 + c) / 4294967296 ≤ 1; omega
   ·show 0 ≤ n / 4294967296; omega
   ·show n / 4294967296 < 18446744073709551616; omega
   ·simp only [w6sum, Bp, Nat.reduceEqDiff, if_true, if_false, reduceIte, Nat.zero_ne_one] at hsum ⊢
    omega
  | 5, _ =>
   repeat' first | simp (disch := omega) only [go_sem, ↓reduceIte, Nat.reduceEqDiff, reduceCtorEq, Int.reduceEq, Int.toNat_natCast, Nat.mul_one, wrap_u64, Int.tdiv_eq_ediv_of_nonneg, Int.tmod_eq_emod_of_nonneg, wrap_i64] | ((with_reducible first | refine condD ?_ ?_ | refine condX ?_ ?_ | refine condW_intro ?_ ?_) <;> intro h <;> first | (exfalso; omega) | simp (disch := omega) only [go_sem, ↓reduceIte, Nat.reduceEqDiff, reduceCtorEq, Int.reduceEq, *, Int.toNat_natCast, Nat.mul_one, wrap_u64, Int.tdiv_eq_ediv_of_nonneg, Int.tmod_eq_emod_of_nonneg, wrap_i64] | skip)
   refine ⟨(5 + 1, fun j => if j = 5 then (a 5 + n % 4294967296 + c) % 4294967296 else a j, (a 5 + n % 4294967296 + c) / 4294967296, n / 4294967296), [], ⟨by show 5 + 1 ≤ 6; omega, upd 5 _ (by omega) (by omega) (by omega), ?_, ?_, ?_, ?_, ?_⟩, by show 6 - (5 + 1) < 6 - 5; omega, by simp [Wk, wkF, wkM, wkL, look_cons, renV, renA, renC, renB, rn, clV, clA, clAs, clB, notIn, findB, findB_setB, clA.go]⟩
   ·show 0 ≤ (a 5 + n % 4294967296 + c) / 4294967296; omega
   ·show (a 5 + n % 4294967296 + c) / 4294967296 ≤ 1; omega
   ·show 0 ≤ n / 4294967296; omega
   ·show n / 4294967296 < 18446744073709551616; omega
   ·simp only [w6sum, Bp, Nat.reduceEqDiff, if_true, if_false, reduceIte, Nat.zero_ne_one] at hsum ⊢
    omega

/-! Sums of products. -/
theorem ref05_plus_abs {x a b : Int} (hx0 : 0 ≤ x) (ha0 : 0 ≤ a) (ha1 : a < 18446744073709551616) (hb0 : 0 ≤ b) (hb1 : b < 18446744073709551616) (hx1 : x + a * b < Bp 6) : PCalls Try.prog n_ref05_plus [aW x, U5 a, U5 b] (aW (x + a * b)) := by
 refine PCalls.of is_ref05_plus (by simp) fun _ => runW_sound ?_
 have ea : a = a % 4294967296 + 4294967296 * (a / 4294967296) := by omega
 have eb : b = b % 4294967296 + 4294967296 * (b / 4294967296) := by omega
 have a0 : 0 ≤ a % 4294967296 ∧ a % 4294967296 ≤ 4294967295 := by omega
 have a1 : 0 ≤ a / 4294967296 ∧ a / 4294967296 ≤ 4294967295 := by omega
 have b0 : 0 ≤ b % 4294967296 ∧ b % 4294967296 ≤ 4294967295 := by omega
 have b1 : 0 ≤ b / 4294967296 ∧ b / 4294967296 ≤ 4294967295 := by omega
 have pr : ∀ {p q : Int}, 0 ≤ p ∧ p ≤ 4294967295 → 0 ≤ q ∧ q ≤ 4294967295 → 0 ≤ p * q ∧ p * q ≤ 18446744065119617025 := by
  intro p q hp hq
  refine ⟨Int.mul_nonneg hp.1 hq.1, ?_⟩
  have := Int.mul_le_mul hp.2 hq.2 hq.1 (by omega)
  omega
 have hab : a * b = (a % 4294967296) * (b % 4294967296) * Bp 0 + (a % 4294967296) * (b / 4294967296) * Bp 1 + (a / 4294967296) * (b % 4294967296) * Bp 1 + (a / 4294967296) * (b / 4294967296) * Bp 2 := by
  generalize a % 4294967296 = p at *
  generalize a / 4294967296 = q at *
  generalize b % 4294967296 = r at *
  generalize b / 4294967296 = s at *
  subst ea
  subst eb
  have e1 : p * (4294967296 * s) = 4294967296 * (p * s) := Int.mul_left_comm _ _ _
  have e2 : (4294967296 * q) * r = 4294967296 * (q * r) := Int.mul_assoc _ _ _
  have e3 : (4294967296 * q) * (4294967296 * s) = 4294967296 * (4294967296 * (q * s)) := by rw [Int.mul_assoc, Int.mul_left_comm q]
  rw [Int.add_mul, Int.mul_add, Int.mul_add, e1, e2, e3]
  simp only [Bp]
  omega
 have p00 := pr a0 b0
 have p01 := pr a0 b1
 have p10 := pr a1 b0
 have p11 := pr a1 b1
 have da : a.tdiv 4294967296 = a / 4294967296 := Int.tdiv_eq_ediv_of_nonneg ha0
 have db : b.tdiv 4294967296 = b / 4294967296 := Int.tdiv_eq_ediv_of_nonneg hb0
 have ma : a.tmod 4294967296 = a % 4294967296 := Int.tmod_eq_emod_of_nonneg ha0
 have mb : b.tmod 4294967296 = b % 4294967296 := Int.tmod_eq_emod_of_nonneg hb0
 have wa : IntKind.wrap .u64 (a / 4294967296) = a / 4294967296 := wrap_u64 (by omega)
 have wb : IntKind.wrap .u64 (b / 4294967296) = b / 4294967296 := wrap_u64 (by omega)
 generalize a % 4294967296 = p at *
 generalize a / 4294967296 = q at *
 generalize b % 4294967296 = r at *
 generalize b / 4294967296 = s at *
 rw [hab] at hx1
 rw [hab, ← Int.add_assoc, ← Int.add_assoc, ← Int.add_assoc]
 simp only [Bp] at hx1
 have d1 := ref05_digit_abs (x := x) (n := p * r) (at' := 0) (by omega) hx0 p00.1 (by omega) (by simp only [Bp]; omega)
 have d2 := ref05_digit_abs (x := x + p * r * Bp 0) (n := p * s) (at' := 1) (by omega) (by simp only [Bp]; omega) p01.1 (by omega) (by simp only [Bp]; omega)
 have d3 := ref05_digit_abs (x := x + p * r * Bp 0 + p * s * Bp 1) (n := q * r) (at' := 1) (by omega) (by simp only [Bp]; omega) p10.1 (by omega) (by simp only [Bp]; omega)
 have d4 := ref05_digit_abs (x := x + p * r * Bp 0 + p * s * Bp 1 + q * r * Bp 1) (n := q * s) (at' := 2) (by omega) (by simp only [Bp]; omega) p11.1 (by omega) (by simp only [Bp]; omega)
 simp only [c_ref05_plus]
 clear hab ea eb hx1 pr
 have w1 : IntKind.wrap .u64 (p * r) = p * r := wrap_u64 (by omega)
 have w2 : IntKind.wrap .u64 (p * s) = p * s := wrap_u64 (by omega)
 have w3 : IntKind.wrap .u64 (q * r) = q * r := wrap_u64 (by omega)
 have w4 : IntKind.wrap .u64 (q * s) = q * s := wrap_u64 (by omega)
 repeat' first | simp (disch := omega) only [go_sem, ↓reduceIte, Nat.reduceEqDiff, reduceCtorEq, Int.reduceEq, da, db, ma, mb, wa, wb, w1, w2, w3, w4, ne_eq] | ((with_reducible first | refine condD ?_ ?_ | refine condX ?_ ?_ | refine condW_intro ?_ ?_) <;> intro h <;> first | (exfalso; omega) | simp (disch := omega) only [go_sem, ↓reduceIte, Nat.reduceEqDiff, reduceCtorEq, Int.reduceEq, *, da, db, ma, mb, wa, wb, w1, w2, w3, w4, ne_eq] | skip) | (refine callW_of d1 rfl (.inl rfl) ?_) | (refine callW_of d2 rfl (.inl rfl) ?_) | (refine callW_of d3 rfl (.inl rfl) ?_) | (refine callW_of d4 rfl (.inl rfl) ?_)

theorem ref05_less_abs {x y : Int} (hx0 : 0 ≤ x) (hx1 : x < Bp 6) (hy0 : 0 ≤ y) (hy1 : y < Bp 6) : PCalls Try.prog n_ref05_less [aW x, aW y] (Go.Abs.B (decide (x < y))) := by
 refine PCalls.of is_ref05_less (by simp) fun _ => runW_sound ?_
 have sx := dg_sum hx0 hx1
 have sy := dg_sum hy0 hy1
 have dx := dg_dig x
 have dy := dg_dig y
 simp only [c_ref05_less]
 repeat' first | simp (disch := omega) only [go_sem, ↓reduceIte, Nat.reduceEqDiff, reduceCtorEq, Int.reduceEq] | ((with_reducible first | refine condD ?_ ?_ | refine condX ?_ ?_ | refine condW_intro ?_ ?_) <;> intro h <;> first | (exfalso; omega) | simp (disch := omega) only [go_sem, ↓reduceIte, Nat.reduceEqDiff, reduceCtorEq, Int.reduceEq, *] | skip)
 refine AW_loop (fun i : Nat => ⟨[(2, .c (.ptr 0 0)), (3, .c (.ptr 1 0)), (5, I ((i : Int) - 1))], [(0, .var (u6 (dg x))), (1, .var (u6 (dg y)))], 2, 0⟩)
  (fun i => i ≤ 6 ∧ ∀ j, i ≤ j → j < 6 → dg x j = dg y j) (fun i => i) ⟨6, [], ⟨Nat.le_refl _, fun j h1 h2 => by omega⟩, by simp [Wk, wkF, wkM, wkL, look_cons, renV, renA, renC, renB, rn, clV, clA, clAs, clB, notIn, findB, findB_setB, clA.go]⟩ ?_
 rintro i ⟨hi, hall⟩
 refine runW_sound ?_
 generalize dg x = p at *
 generalize dg y = q at *
 have h0 := dx 0 (by omega)
 have h1 := dx 1 (by omega)
 have h2 := dx 2 (by omega)
 have h3 := dx 3 (by omega)
 have h4 := dx 4 (by omega)
 have h5 := dx 5 (by omega)
 have k0 := dy 0 (by omega)
 have k1 := dy 1 (by omega)
 have k2 := dy 2 (by omega)
 have k3 := dy 3 (by omega)
 have k4 := dy 4 (by omega)
 have k5 := dy 5 (by omega)
 clear dx dy
 simp only [w6sum, Bp] at sx sy
 match i, hi with
 | 0, _ =>
  have e0 := hall 0 (by omega) (by omega)
  have e1 := hall 1 (by omega) (by omega)
  have e2 := hall 2 (by omega) (by omega)
  have e3 := hall 3 (by omega) (by omega)
  have e4 := hall 4 (by omega) (by omega)
  have e5 := hall 5 (by omega) (by omega)
  have hz : decide (x < y) = false := decide_eq_false (by omega)
  clear sx sy hall e0 e1 e2 e3 e4 e5
  repeat' first | simp (disch := omega) only [go_sem, ↓reduceIte, Nat.reduceEqDiff, reduceCtorEq, Int.reduceEq] | ((with_reducible first | refine condD ?_ ?_ | refine condX ?_ ?_ | refine condW_intro ?_ ?_) <;> intro h <;> first | (exfalso; omega) | simp (disch := omega) only [go_sem, ↓reduceIte, Nat.reduceEqDiff, reduceCtorEq, Int.reduceEq, *] | skip)
 | 1, _ =>
  have e1 := hall 1 (by omega) (by omega)
  have e2 := hall 2 (by omega) (by omega)
  have e3 := hall 3 (by omega) (by omega)
  have e4 := hall 4 (by omega) (by omega)
  have e5 := hall 5 (by omega) (by omega)
  have hz : p 0 ≠ q 0 → decide (x < y) = decide (p 0 < q 0) := fun hne => by rw [decide_eq_decide]; omega
  clear sx sy e1 e2 e3 e4 e5
  have hall' := Lib.hid hall
  clear hall
  have ek : (((1 : Nat) : Int) - 1) = ((0 : Nat) : Int) := rfl
  simp only [ek]
  repeat' first | simp (disch := omega) only [go_sem, ↓reduceIte, Nat.reduceEqDiff, reduceCtorEq, Int.reduceEq, Int.toNat_natCast, Nat.mul_one, wrap_i64] | ((with_reducible first | refine condD ?_ ?_ | refine condX ?_ ?_ | refine condW_intro ?_ ?_) <;> intro h <;> first | (exfalso; omega) | simp (disch := omega) only [go_sem, ↓reduceIte, Nat.reduceEqDiff, reduceCtorEq, Int.reduceEq, *, Int.toNat_natCast, Nat.mul_one, wrap_i64] | skip)
  ·refine ⟨0, [], ⟨by omega, fun j h1 h2 => ?_⟩, by omega, by simp [Wk, wkF, wkM, wkL, look_cons, renV, renA, renC, renB, rn, clV, clA, clAs, clB, notIn, findB, findB_setB, clA.go]⟩
   by_cases e : j = 0
   ·rw [e]; assumption
   ·exact hall'.out j (by omega) h2
 | 2, _ =>
  have e2 := hall 2 (by omega) (by omega)
  have e3 := hall 3 (by omega) (by omega)
  have e4 := hall 4 (by omega) (by omega)
  have e5 := hall 5 (by omega) (by omega)
  have hz : p 1 ≠ q 1 → decide (x < y) = decide (p 1 < q 1) := fun hne => by rw [decide_eq_decide]; omega
  clear sx sy e2 e3 e4 e5
  have hall' := Lib.hid hall
  clear hall
  have ek : (((2 : Nat) : Int) - 1) = ((1 : Nat) : Int) := rfl
  simp only [ek]
  repeat' first | simp (disch := omega) only [go_sem, ↓reduceIte, Nat.reduceEqDiff, reduceCtorEq, Int.reduceEq, Int.toNat_natCast, Nat.mul_one, wrap_i64] | ((with_reducible first | refine condD ?_ ?_ | refine condX ?_ ?_ | refine condW_intro ?_ ?_) <;> intro h <;> first | (exfalso; omega) | simp (disch := omega) only [go_sem, ↓reduceIte, Nat.reduceEqDiff, reduceCtorEq, Int.reduceEq, *, Int.toNat_natCast, Nat.mul_one, wrap_i64] | skip)
  ·refine ⟨1, [], ⟨by omega, fun j h1 h2 => ?_⟩, by omega, by simp [Wk, wkF, wkM, wkL, look_cons, renV, renA, renC, renB, rn, clV, clA, clAs, clB, notIn, findB, findB_setB, clA.go]⟩
   by_cases e : j = 1
   ·rw [e]; assumption
   ·exact hall'.out j (by omega) h2
 | 3, _ =>
  have e3 := hall 3 (by omega) (by omega)
  have e4 := hall 4 (by omega) (by omega)
  have e5 := hall 5 (by omega) (by omega)
  have hz : p 2 ≠ q 2 → decide (x < y) = decide (p 2 < q 2) := fun hne => by rw [decide_eq_decide]; omega
  clear sx sy e3 e4 e5
  have hall' := Lib.hid hall
  clear hall
  have ek : (((3 : Nat) : Int) - 1) = ((2 : Nat) : Int) := rfl
  simp only [ek]
  repeat' first | simp (disch := omega) only [go_sem, ↓reduceIte, Nat.reduceEqDiff, reduceCtorEq, Int.reduceEq, Int.toNat_natCast, Nat.mul_one, wrap_i64] | ((with_reducible first | refine condD ?_ ?_ | refine condX ?_ ?_ | refine condW_intro ?_ ?_) <;> intro h <;> first | (exfalso; omega) | simp (disch := omega) only [go_sem, ↓reduceIte, Nat.reduceEqDiff, reduceCtorEq, Int.reduceEq, *, Int.toNat_natCast, Nat.mul_one, wrap_i64] | skip)
  ·refine ⟨2, [], ⟨by omega, fun j h1 h2 => ?_⟩, by omega, by simp [Wk, wkF, wkM, wkL, look_cons, renV, renA, renC, renB, rn, clV, clA, clAs, clB, notIn, findB, findB_setB, clA.go]⟩
   by_cases e : j = 2
   ·rw [e]; assumption
   ·exact hall'.out j (by omega) h2
 | 4, _ =>
  have e4 := hall 4 (by omega) (by omega)
  have e5 := hall 5 (by omega) (by omega)
  have hz : p 3 ≠ q 3 → decide (x < y) = decide (p 3 < q 3) := fun hne => by rw [decide_eq_decide]; omega
  clear sx sy e4 e5
  have hall' := Lib.hid hall
  clear hall
  have ek : (((4 : Nat) : Int) - 1) = ((3 : Nat) : Int) := rfl
  simp only [ek]
  repeat' first | simp (disch := omega) only [go_sem, ↓reduceIte, Nat.reduceEqDiff, reduceCtorEq, Int.reduceEq, Int.toNat_natCast, Nat.mul_one, wrap_i64] | ((with_reducible first | refine condD ?_ ?_ | refine condX ?_ ?_ | refine condW_intro ?_ ?_) <;> intro h <;> first | (exfalso; omega) | simp (disch := omega) only [go_sem, ↓reduceIte, Nat.reduceEqDiff, reduceCtorEq, Int.reduceEq, *, Int.toNat_natCast, Nat.mul_one, wrap_i64] | skip)
  ·refine ⟨3, [], ⟨by omega, fun j h1 h2 => ?_⟩, by omega, by simp [Wk, wkF, wkM, wkL, look_cons, renV, renA, renC, renB, rn, clV, clA, clAs, clB, notIn, findB, findB_setB, clA.go]⟩
   by_cases e : j = 3
   ·rw [e]; assumption
   ·exact hall'.out j (by omega) h2
 | 5, _ =>
  have e5 := hall 5 (by omega) (by omega)
  have hz : p 4 ≠ q 4 → decide (x < y) = decide (p 4 < q 4) := fun hne => by rw [decide_eq_decide]; omega
  clear sx sy e5
  have hall' := Lib.hid hall
  clear hall
  have ek : (((5 : Nat) : Int) - 1) = ((4 : Nat) : Int) := rfl
  simp only [ek]
  repeat' first | simp (disch := omega) only [go_sem, ↓reduceIte, Nat.reduceEqDiff, reduceCtorEq, Int.reduceEq, Int.toNat_natCast, Nat.mul_one, wrap_i64] | ((with_reducible first | refine condD ?_ ?_ | refine condX ?_ ?_ | refine condW_intro ?_ ?_) <;> intro h <;> first | (exfalso; omega) | simp (disch := omega) only [go_sem, ↓reduceIte, Nat.reduceEqDiff, reduceCtorEq, Int.reduceEq, *, Int.toNat_natCast, Nat.mul_one, wrap_i64] | skip)
  ·refine ⟨4, [], ⟨by omega, fun j h1 h2 => ?_⟩, by omega, by simp [Wk, wkF, wkM, wkL, look_cons, renV, renA, renC, renB, rn, clV, clA, clAs, clB, notIn, findB, findB_setB, clA.go]⟩
   by_cases e : j = 4
   ·rw [e]; assumption
   ·exact hall'.out j (by omega) h2
 | 6, _ =>
  have hz : p 5 ≠ q 5 → decide (x < y) = decide (p 5 < q 5) := fun hne => by rw [decide_eq_decide]; omega
  clear sx sy
  have hall' := Lib.hid hall
  clear hall
  have ek : (((6 : Nat) : Int) - 1) = ((5 : Nat) : Int) := rfl
  simp only [ek]
  repeat' first | simp (disch := omega) only [go_sem, ↓reduceIte, Nat.reduceEqDiff, reduceCtorEq, Int.reduceEq, Int.toNat_natCast, Nat.mul_one, wrap_i64] | ((with_reducible first | refine condD ?_ ?_ | refine condX ?_ ?_ | refine condW_intro ?_ ?_) <;> intro h <;> first | (exfalso; omega) | simp (disch := omega) only [go_sem, ↓reduceIte, Nat.reduceEqDiff, reduceCtorEq, Int.reduceEq, *, Int.toNat_natCast, Nat.mul_one, wrap_i64] | skip)
  ·refine ⟨5, [], ⟨by omega, fun j h1 h2 => ?_⟩, by omega, by simp [Wk, wkF, wkM, wkL, look_cons, renV, renA, renC, renB, rn, clV, clA, clAs, clB, notIn, findB, findB_setB, clA.go]⟩
   by_cases e : j = 5
   ·rw [e]; assumption
   ·exact hall'.out j (by omega) h2

def S6 (q : Nat → Int) (i : Nat) : Int := (if i ≤ 0 then q 0 * Bp 0 else 0) + (if i ≤ 1 then q 1 * Bp 1 else 0) + (if i ≤ 2 then q 2 * Bp 2 else 0) + (if i ≤ 3 then q 3 * Bp 3 else 0) + (if i ≤ 4 then q 4 * Bp 4 else 0) + (if i ≤ 5 then q 5 * Bp 5 else 0)
theorem ref05_minus_abs {x y : Int} (hx1 : x < Bp 6) (hy0 : 0 ≤ y) (hyx : y ≤ x) : PCalls Try.prog n_ref05_minus [aW x, aW y] (aW (x - y)) := by
 refine PCalls.of is_ref05_minus (by simp) fun _ => runW_sound ?_
 have sx := dg_sum (by omega) hx1
 have sy := dg_sum hy0 (by omega)
 have dx := dg_dig x
 have dy := dg_dig y
 simp only [c_ref05_minus]
 repeat' first | simp (disch := omega) only [go_sem, ↓reduceIte, Nat.reduceEqDiff, reduceCtorEq, Int.reduceEq] | ((with_reducible first | refine condD ?_ ?_ | refine condX ?_ ?_ | refine condW_intro ?_ ?_) <;> intro h <;> first | (exfalso; omega) | simp (disch := omega) only [go_sem, ↓reduceIte, Nat.reduceEqDiff, reduceCtorEq, Int.reduceEq, *] | skip)
 refine AW_loop (fun s : Nat × (Nat → Int) × Int => ⟨[(2, .c (.ptr 0 0)), (3, .c (.ptr 1 0)), (4, .c (.ptr 2 0)), (5, U5 s.2.2), (6, I s.1)], [(0, .var (u6 s.2.1)), (1, .var (u6 (dg y))), (2, .var (u6 fun _ => 0))], 3, 0⟩)
  (fun s => s.1 ≤ 6 ∧ isDig s.2.1 ∧ 0 ≤ s.2.2 ∧ s.2.2 ≤ 1 ∧ w6sum s.2.1 - S6 (dg y) s.1 - s.2.2 * Bp s.1 = x - y) (fun s => 6 - s.1) ⟨(0, dg x, 0), [], ⟨by show 0 ≤ 6; omega, dx, by show (0 : Int) ≤ 0; decide, by show (0 : Int) ≤ 1; decide, ?_⟩, by simp [Wk, wkF, wkM, wkL, look_cons, renV, renA, renC, renB, rn, clV, clA, clAs, clB, notIn, findB, findB_setB, clA.go]⟩ ?_
 ·show w6sum (dg x) - S6 (dg y) 0 - 0 * Bp 0 = x - y
  rw [sx]
  have : S6 (dg y) 0 = w6sum (dg y) := by simp [S6, w6sum]
  rw [this, sy]
  omega
 clear sx dx
 rintro ⟨i, a, c⟩ ⟨hi, ha, hc0, hc1, hsum⟩
 refine runW_sound ?_
 simp only at hi ha hc0 hc1 hsum
 generalize dg y = q at *
 obtain ⟨R, hR⟩ : ∃ R, R = x - y := ⟨_, rfl⟩
 rw [← hR] at hsum ⊢
 have hR0 : 0 ≤ R := by omega
 clear hR sy hyx
 have h0 := ha 0 (by omega)
 have h1 := ha 1 (by omega)
 have h2 := ha 2 (by omega)
 have h3 := ha 3 (by omega)
 have h4 := ha 4 (by omega)
 have h5 := ha 5 (by omega)
 have k0 := dy 0 (by omega)
 have k1 := dy 1 (by omega)
 have k2 := dy 2 (by omega)
 have k3 := dy 3 (by omega)
 have k4 := dy 4 (by omega)
 have k5 := dy 5 (by omega)
 by_cases h6 : i = 6
 ·subst h6
  have hz : w6sum a = R := by
   simp only [w6sum, Bp, S6] at hsum ⊢
   simp at hsum
   omega
  repeat' first | simp (disch := omega) only [go_sem, ↓reduceIte, Nat.reduceEqDiff, reduceCtorEq, Int.reduceEq] | ((with_reducible first | refine condD ?_ ?_ | refine condX ?_ ?_ | refine condW_intro ?_ ?_) <;> intro h <;> first | (exfalso; omega) | simp (disch := omega) only [go_sem, ↓reduceIte, Nat.reduceEqDiff, reduceCtorEq, Int.reduceEq, *] | skip)
  show AV.agg (u6 a) = _
  rw [u6_of ha hz]
 ·have upd : ∀ k d, k < 6 → 0 ≤ d → d < 4294967296 → isDig (fun j => if j = k then d else a j) := by
   intro k d hk hd0 hd1 j hj
   by_cases e : j = k
   ·simp only [e, if_true]; exact ⟨hd0, hd1⟩
   ·simp only [e, if_false]; exact ha j hj
  match i, (show i < 6 by omega) with
  | 0, _ =>
   repeat' first | simp (disch := omega) only [go_sem, ↓reduceIte, Nat.reduceEqDiff, reduceCtorEq, Int.reduceEq, Int.toNat_natCast, Nat.mul_one, wrap_u64, wrap_i64] | ((with_reducible first | refine condD ?_ ?_ | refine condX ?_ ?_ | refine condW_intro ?_ ?_) <;> intro h <;> first | (exfalso; omega) | simp (disch := omega) only [go_sem, ↓reduceIte, Nat.reduceEqDiff, reduceCtorEq, Int.reduceEq, *, Int.toNat_natCast, Nat.mul_one, wrap_u64, wrap_i64] | skip)
   ·refine ⟨(0 + 1, fun j => if j = 0 then a 0 + 4294967296 - (q 0 + c) else a j, 1), [], ⟨by show 0 + 1 ≤ 6; omega, upd 0 _ (by omega) (by omega) (by omega), by show (0 : Int) ≤ 1; decide, by show (1 : Int) ≤ 1; decide, ?_⟩, by show 6 - (0 + 1) < 6 - 0; omega, by simp [Wk, wkF, wkM, wkL, look_cons, renV, renA, renC, renB, rn, clV, clA, clAs, clB, notIn, findB, findB_setB, clA.go]⟩
    simp only [w6sum, Bp, S6, Nat.reduceEqDiff, if_true, if_false, reduceIte, Nat.zero_ne_one, Nat.reduceLeDiff] at hsum ⊢
    omega
   ·refine ⟨(0 + 1, fun j => if j = 0 then a 0 - (q 0 + c) else a j, 0), [], ⟨by show 0 + 1 ≤ 6; omega, upd 0 _ (by omega) (by omega) (by omega), by show (0 : Int) ≤ 0; decide, by show (0 : Int) ≤ 1; decide, ?_⟩, by show 6 - (0 + 1) < 6 - 0; omega, by simp [Wk, wkF, wkM, wkL, look_cons, renV, renA, renC, renB, rn, clV, clA, clAs, clB, notIn, findB, findB_setB, clA.go]⟩
    simp only [w6sum, Bp, S6, Nat.reduceEqDiff, if_true, if_false, reduceIte, Nat.zero_ne_one, Nat.reduceLeDiff] at hsum ⊢
    omega
  | 1, _ =>
   repeat' first | simp (disch := omega) only [go_sem, ↓reduceIte, Nat.reduceEqDiff, reduceCtorEq, Int.reduceEq, Int.toNat_natCast, Nat.mul_one, wrap_u64, wrap_i64] | ((with_reducible first | refine condD ?_ ?_ | refine condX ?_ ?_ | refine condW_intro ?_ ?_) <;> intro h <;> first | (exfalso; omega) | simp (disch := omega) only [go_sem, ↓reduceIte, Nat.reduceEqDiff, reduceCtorEq, Int.reduceEq, *, Int.toNat_natCast, Nat.mul_one, wrap_u64, wrap_i64] | skip)
   ·refine ⟨(1 + 1, fun j => if j = 1 then a 1 + 4294967296 - (q 1 + c) else a j, 1), [], ⟨by show 1 + 1 ≤ 6; omega, upd 1 _ (by omega) (by omega) (by omega), by show (0 : Int) ≤ 1; decide, by show (1 : Int) ≤ 1; decide, ?_⟩, by show 6 - (1 + 1) < 6 - 1; omega, by simp [Wk, wkF, wkM, wkL, look_cons, renV, renA, renC, renB, rn, clV, clA, clAs, clB, notIn, findB, findB_setB, clA.go]⟩
    simp only [w6sum, Bp, S6, Nat.reduceEqDiff, if_true, if_false, reduceIte, Nat.zero_ne_one, Nat.reduceLeDiff] at hsum ⊢
    omega
   ·refine ⟨(1 + 1, fun j => if j = 1 then a 1 - (q 1 + c) else a j, 0), [], ⟨by show 1 + 1 ≤ 6; omega, upd 1 _ (by omega) (by omega) (by omega), by show (0 : Int) ≤ 0; decide, by show (0 : Int) ≤ 1; decide, ?_⟩, by show 6 - (1 + 1) < 6 - 1; omega, by simp [Wk, wkF, wkM, wkL, look_cons, renV, renA, renC, renB, rn, clV, clA, clAs, clB, notIn, findB, findB_setB, clA.go]⟩
    simp only [w6sum, Bp, S6, Nat.reduceEqDiff, if_true, if_false, reduceIte, Nat.zero_ne_one, Nat.reduceLeDiff] at hsum ⊢
    omega
  | 2, _ =>
   repeat' first | simp (disch := omega) only [go_sem, ↓reduceIte, Nat.reduceEqDiff, reduceCtorEq, Int.reduceEq, Int.toNat_natCast, Nat.mul_one, wrap_u64, wrap_i64] | ((with_reducible first | refine condD ?_ ?_ | refine condX ?_ ?_ | refine condW_intro ?_ ?_) <;> intro h <;> first | (exfalso; omega) | simp (disch := omega) only [go_sem, ↓reduceIte, Nat.reduceEqDiff, reduceCtorEq, Int.reduceEq, *, Int.toNat_natCast, Nat.mul_one, wrap_u64, wrap_i64] | skip)
   ·refine ⟨(2 + 1, fun j => if j = 2 then a 2 + 4294967296 - (q 2 + c) else a j, 1), [], ⟨by show 2 + 1 ≤ 6; omega, upd 2 _ (by omega) (by omega) (by omega), by show (0 : Int) ≤ 1; decide, by show (1 : Int) ≤ 1; decide, ?_⟩, by show 6 - (2 + 1) < 6 - 2; omega, by simp [Wk, wkF, wkM, wkL, look_cons, renV, renA, renC, renB, rn, clV, clA, clAs, clB, notIn, findB, findB_setB, clA.go]⟩
    simp only [w6sum, Bp, S6, Nat.reduceEqDiff, if_true, if_false, reduceIte, Nat.zero_ne_one, Nat.reduceLeDiff] at hsum ⊢
    omega
   ·refine ⟨(2 + 1, fun j => if j = 2 then a 2 - (q 2 + c) else a j, 0), [], ⟨by show 2 + 1 ≤ 6; omega, upd 2 _ (by omega) (by omega) (by omega), by show (0 : Int) ≤ 0; decide, by show (0 : Int) ≤ 1; decide, ?_⟩, by show 6 - (2 + 1) < 6 - 2; omega, by simp [Wk, wkF, wkM, wkL, look_cons, renV, renA, renC, renB, rn, clV, clA, clAs, clB, notIn, findB, findB_setB, clA.go]⟩
    simp only [w6sum, Bp, S6, Nat.reduceEqDiff, if_true, if_false, reduceIte, Nat.zero_ne_one, Nat.reduceLeDiff] at hsum ⊢
    omega
  | 3, _ =>
   repeat' first | simp (disch := omega) only [go_sem, ↓reduceIte, Nat.reduceEqDiff, reduceCtorEq, Int.reduceEq, Int.toNat_natCast, Nat.mul_one, wrap_u64, wrap_i64] | ((with_reducible first | refine condD ?_ ?_ | refine condX ?_ ?_ | refine condW_intro ?_ ?_) <;> intro h <;> first | (exfalso; omega) | simp (disch := omega) only [go_sem, ↓reduceIte, Nat.reduceEqDiff, reduceCtorEq, Int.reduceEq, *, Int.toNat_natCast, Nat.mul_one, wrap_u64, wrap_i64] | skip)
   ·refine ⟨(3 + 1, fun j => if j = 3 then a 3 + 4294967296 - (q 3 + c) else a j, 1), [], ⟨by show 3 + 1 ≤ 6; omega, upd 3 _ (by omega) (by omega) (by omega), by show (0 : Int) ≤ 1; decide, by show (1 : Int) ≤ 1; decide, ?_⟩, by show 6 - (3 + 1) < 6 - 3; omega, by simp [Wk, wkF, wkM, wkL, look_cons, renV, renA, renC, renB, rn, clV, clA, clAs, clB, notIn, findB, findB_setB, clA.go]⟩
    simp only [w6sum, Bp, S6, Nat.reduceEqDiff, if_true, if_false, reduceIte, Nat.zero_ne_one, Nat.reduceLeDiff] at hsum ⊢
    omega
   ·refine ⟨(3 + 1, fun j => if j = 3 then a 3 - (q 3 + c) else a j, 0), [], ⟨by show 3 + 1 ≤ 6; omega, upd 3 _ (by omega) (by omega) (by omega), by show (0 : Int) ≤ 0; decide, by show (0 : Int) ≤ 1; decide, ?_⟩, by show 6 - (3 + 1) < 6 - 3; omega, by simp [Wk, wkF, wkM, wkL, look_cons, renV, renA, renC, renB, rn, clV, clA, clAs, clB, notIn, findB, findB_setB, clA.go]⟩
    simp only [w6sum, Bp, S6, Nat.reduceEqDiff, if_true, if_false, reduceIte, Nat.zero_ne_one, Nat.reduceLeDiff] at hsum ⊢
    omega
  | 4, _ =>
   repeat' first | simp (disch := omega) only [go_sem, ↓reduceIte, Nat.reduceEqDiff, reduceCtorEq, Int.reduceEq, Int.toNat_natCast, Nat.mul_one, wrap_u64, wrap_i64] | ((with_reducible first | refine condD ?_ ?_ | refine condX ?_ ?_ | refine condW_intro ?_ ?_) <;> intro h <;> first | (exfalso; omega) | simp (disch := omega) only [go_sem, ↓reduceIte, Nat.reduceEqDiff, reduceCtorEq, Int.reduceEq, *, Int.toNat_natCast, Nat.mul_one, wrap_u64, wrap_i64] | skip)
   ·refine ⟨(4 + 1, fun j => if j = 4 then a 4 + 4294967296 - (q 4 + c) else a j, 1), [], ⟨by show 4 + 1 ≤ 6; omega, upd 4 _ (by omega) (by omega) (by omega), by show (0 : Int) ≤ 1; decide, by show (1 : Int) ≤ 1; decide, ?_⟩, by show 6 - (4 + 1) < 6 - 4; omega, by simp [Wk, wkF, wkM, wkL, look_cons, renV, renA, renC, renB, rn, clV, clA, clAs, clB, notIn, findB, findB_setB, clA.go]⟩
    simp only [w6sum, Bp, S6, Nat.reduceEqDiff, if_true, if_false, reduceIte, Nat.zero_ne_one, Nat.reduceLeDiff] at hsum ⊢
    omega
   ·refine ⟨(4 + 1, fun j => if j = 4 then a 4 - (q 4 + c) else a j, 0), [], ⟨by show 4 + 1 ≤ 6; omega, upd 4 _ (by omega) (by omega) (by omega), by show (0 : Int) ≤ 0; decide, by show (0 : Int) ≤ 1; decide, ?_⟩, by show 6 - (4 + 1) < 6 - 4; omega, by simp [Wk, wkF, wkM, wkL, look_cons, renV, renA, renC, renB, rn, clV, clA, clAs, clB, notIn, findB, findB_setB, clA.go]⟩
    simp only [w6sum, Bp, S6, Nat.reduceEqDiff, if_true, if_false, reduceIte, Nat.zero_ne_one, Nat.reduceLeDiff] at hsum ⊢
    omega
  | 5, _ =>
   repeat' first | simp (disch := omega) only [go_sem, ↓reduceIte, Nat.reduceEqDiff, reduceCtorEq, Int.reduceEq, Int.toNat_natCast, Nat.mul_one, wrap_u64, wrap_i64] | ((with_reducible first | refine condD ?_ ?_ | refine condX ?_ ?_ | refine condW_intro ?_ ?_) <;> intro h <;> first | (exfalso; omega) | simp (disch := omega) only [go_sem, ↓reduceIte, Nat.reduceEqDiff, reduceCtorEq, Int.reduceEq, *, Int.toNat_natCast, Nat.mul_one, wrap_u64, wrap_i64] | skip)
   ·refine ⟨(5 + 1, fun j => if j = 5 then a 5 + 4294967296 - (q 5 + c) else a j, 1), [], ⟨by show 5 + 1 ≤ 6; omega, upd 5 _ (by omega) (by omega) (by omega), by show (0 : Int) ≤ 1; decide, by show (1 : Int) ≤ 1; decide, ?_⟩, by show 6 - (5 + 1) < 6 - 5; omega, by simp [Wk, wkF, wkM, wkL, look_cons, renV, renA, renC, renB, rn, clV, clA, clAs, clB, notIn, findB, findB_setB, clA.go]⟩
    simp only [w6sum, Bp, S6, Nat.reduceEqDiff, if_true, if_false, reduceIte, Nat.zero_ne_one, Nat.reduceLeDiff] at hsum ⊢
    omega
   ·refine ⟨(5 + 1, fun j => if j = 5 then a 5 - (q 5 + c) else a j, 0), [], ⟨by show 5 + 1 ≤ 6; omega, upd 5 _ (by omega) (by omega) (by omega), by show (0 : Int) ≤ 0; decide, by show (0 : Int) ≤ 1; decide, ?_⟩, by show 6 - (5 + 1) < 6 - 5; omega, by simp [Wk, wkF, wkM, wkL, look_cons, renV, renA, renC, renB, rn, clV, clA, clAs, clB, notIn, findB, findB_setB, clA.go]⟩
    simp only [w6sum, Bp, S6, Nat.reduceEqDiff, if_true, if_false, reduceIte, Nat.zero_ne_one, Nat.reduceLeDiff] at hsum ⊢
    omega

theorem ref05_size_abs {a : Int} (ha : in64 a) : PCalls Try.prog n_ref05_size [I a] (U5 a.natAbs) := by
 refine PCalls.of is_ref05_size (by simp) fun _ => runW_sound ?_
 obtain ⟨h1, h2⟩ := ha
 simp only [c_ref05_size]
 repeat' first | simp (disch := omega) only [go_sem, ↓reduceIte, Nat.reduceEqDiff, reduceCtorEq, Int.reduceEq, wrap_u64, wrap_i64] | ((with_reducible first | refine condD ?_ ?_ | refine condX ?_ ?_ | refine condW_intro ?_ ?_) <;> intro h <;> first | (exfalso; omega) | simp (disch := omega) only [go_sem, ↓reduceIte, Nat.reduceEqDiff, reduceCtorEq, Int.reduceEq, *, wrap_u64, wrap_i64] | skip)
 all_goals (congr 4; omega)

/-- What a name is bound to. -/
def bnd : List Mono → ByteArray → Option Int
 | [], _ => none
 | m :: r, s => if m.1 = s then some m.2 else bnd r s
theorem ref05_find_abs (env : List Mono) (s : ByteArray) : PCalls Try.prog n_ref05_find [aSl mP env, S s] (.tup [I ((bnd env s).getD 0), Go.Abs.B (bnd env s).isSome]) := by
 refine PCalls.of is_ref05_find (by simp) fun hb => runW_sound ?_
 have hx : env.length ≤ 9223372036854775807 := by simpa [bndVs, bndV, bndA] using hb.1
 obtain ⟨r, hr⟩ : ∃ r, r = bnd env s := ⟨_, rfl⟩
 rw [← hr]
 simp only [c_ref05_find]
 repeat' first | simp (disch := omega) only [go_sem, ↓reduceIte, Nat.reduceEqDiff, reduceCtorEq, Int.reduceEq] | ((with_reducible first | refine condD ?_ ?_ | refine condX ?_ ?_ | refine condW_intro ?_ ?_) <;> intro h <;> first | (exfalso; omega) | simp (disch := omega) only [go_sem, ↓reduceIte, Nat.reduceEqDiff, reduceCtorEq, Int.reduceEq, *] | skip)
 refine AW_loop (fun k : Nat => ⟨[(6, I k), (0, aSl mP env), (1, S s)], [], 0, 0⟩) (fun k => k ≤ env.length ∧ Hid (r = bnd (env.drop k) s)) (fun k => env.length - k) ⟨0, [], ⟨by omega, hr⟩, by simp [Wk, wkF, wkM, wkL, look_cons, renV, renA, renC, renB, rn, clV, clA, clAs, clB, notIn, findB, findB_setB, clA.go]⟩ ?_
 rintro k ⟨hk, hall⟩
 refine runW_sound ?_
 clear hr
 by_cases hlt : k < env.length
 ·have Hall : Hid (r = if env[k].1 = s then some env[k].2 else bnd (env.drop (k + 1)) s) := by
   have := hall.out
   rwa [List.drop_eq_getElem_cons hlt, bnd] at this
  clear hall
  repeat' first | simp (disch := omega) only [go_sem, ↓reduceIte, Nat.reduceEqDiff, reduceCtorEq, Int.reduceEq, map_get hlt, mP, wrap_i64] | ((with_reducible first | refine condD ?_ ?_ | refine condX ?_ ?_ | refine condW_intro ?_ ?_) <;> intro h <;> first | (exfalso; omega) | simp (disch := omega) only [go_sem, ↓reduceIte, Nat.reduceEqDiff, reduceCtorEq, Int.reduceEq, *, map_get hlt, mP, wrap_i64] | skip)
  ·rw [Hall.out, if_pos h]
   rfl
  ·refine ⟨k + 1, [], ⟨by omega, ?_⟩, by omega, by simp [Wk, wkF, wkM, wkL, look_cons, renV, renA, renC, renB, rn, clV, clA, clAs, clB, notIn, findB, findB_setB, clA.go]⟩
   rw [Hid, Hall.out, if_neg h]
 ·have hn := hall.out
  rw [List.drop_eq_nil_of_le (by omega), bnd] at hn
  clear hall
  subst hn
  repeat' first | simp (disch := omega) only [go_sem, ↓reduceIte, Nat.reduceEqDiff, reduceCtorEq, Int.reduceEq] | ((with_reducible first | refine condD ?_ ?_ | refine condX ?_ ?_ | refine condW_intro ?_ ?_) <;> intro h <;> first | (exfalso; omega) | simp (disch := omega) only [go_sem, ↓reduceIte, Nat.reduceEqDiff, reduceCtorEq, Int.reduceEq, *] | skip)
  rfl
end Go.Proofs.Ytnddmjhpplopbaa
