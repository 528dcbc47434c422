/- Walks by the abstract machine: cancelling a name between two constraints. -/
import Derived.Test.YtnddmjhpplopbaaV07f
set_option linter.unusedVariables false
set_option linter.unusedSimpArgs false
set_option maxRecDepth 20000
namespace Go.Proofs.Ytnddmjhpplopbaa
open Go.Abs Go.RowKit

theorem tmod_nat (x y : Nat) : Int.tmod (x : Int) (y : Int) = ((x % y : Nat) : Int) := (Int.ofNat_tmod x y).symm
theorem tdiv_nat (x y : Nat) : Int.tdiv (x : Int) (y : Int) = ((x / y : Nat) : Int) := (Int.ofNat_tdiv x y).symm
theorem lin_Var_abs (n : ByteArray) : PCalls Try.prog n_lin_Var [S n] (aLin 0 (if idOk n then [(n, 1)] else [])) := by
 refine PCalls.of is_lin_Var (by simp) fun _ => runW_sound ?_
 simp only [c_lin_Var]
 have p := lin_identifier_abs n
 by_cases h : idOk n
 ·rw [decide_eq_true h] at p
  rw [if_pos h]
  repeat' first | simp (disch := omega) only [go_sem, ↓reduceIte, Nat.reduceEqDiff, reduceCtorEq, Int.reduceEq] | ((with_reducible first | refine condD ?_ ?_ | refine condX ?_ ?_ | refine condW_intro ?_ ?_) <;> intro h <;> first | (exfalso; omega) | simp (disch := omega) only [go_sem, ↓reduceIte, Nat.reduceEqDiff, reduceCtorEq, Int.reduceEq, *] | skip) | (refine callW_of p rfl (.inl rfl) ?_)
  rfl
 ·rw [decide_eq_false h] at p
  rw [if_neg h]
  repeat' first | simp (disch := omega) only [go_sem, ↓reduceIte, Nat.reduceEqDiff, reduceCtorEq, Int.reduceEq] | ((with_reducible first | refine condD ?_ ?_ | refine condX ?_ ?_ | refine condW_intro ?_ ?_) <;> intro h <;> first | (exfalso; omega) | simp (disch := omega) only [go_sem, ↓reduceIte, Nat.reduceEqDiff, reduceCtorEq, Int.reduceEq, *] | skip) | (refine callW_of p rfl (.inl rfl) ?_)
  rfl
theorem elim_identifier_abs (n : ByteArray) : PCalls Try.prog n_elim_identifier [S n] (Go.Abs.B (decide (idOk n))) := by
 refine PCalls.of is_elim_identifier (by simp) fun _ => runW_sound ?_
 simp only [c_elim_identifier]
 have p := lin_Var_abs n
 by_cases h : idOk n
 ·rw [if_pos h] at p
  rw [decide_eq_true h]
  repeat' first | simp (disch := omega) only [go_sem, ↓reduceIte, Nat.reduceEqDiff, reduceCtorEq, Int.reduceEq] | ((with_reducible first | refine condD ?_ ?_ | refine condX ?_ ?_ | refine condW_intro ?_ ?_) <;> intro h <;> first | (exfalso; omega) | simp (disch := omega) only [go_sem, ↓reduceIte, Nat.reduceEqDiff, reduceCtorEq, Int.reduceEq, *] | skip) | (refine callW_of p rfl (.inr rfl) ?_)
  try rfl
 ·rw [if_neg h] at p
  rw [decide_eq_false h]
  repeat' first | simp (disch := omega) only [go_sem, ↓reduceIte, Nat.reduceEqDiff, reduceCtorEq, Int.reduceEq] | ((with_reducible first | refine condD ?_ ?_ | refine condX ?_ ?_ | refine condW_intro ?_ ?_) <;> intro h <;> first | (exfalso; omega) | simp (disch := omega) only [go_sem, ↓reduceIte, Nat.reduceEqDiff, reduceCtorEq, Int.reduceEq, *] | skip) | (refine callW_of p rfl (.inr rfl) ?_)
  try rfl
theorem elim_coefficient_abs (c : Con) (n : ByteArray) : PCalls Try.prog n_elim_coefficient [aCon c, S n] (I (cf c.1.2 n)) := by
 refine PCalls.of is_elim_coefficient (by simp) fun _ => runW_sound ?_
 obtain ⟨⟨k, l⟩, q⟩ := c
 simp only [c_elim_coefficient]
 have p := lin_Coeff_abs k l n
 repeat' first | simp (disch := omega) only [go_sem, ↓reduceIte, Nat.reduceEqDiff, reduceCtorEq, Int.reduceEq] | ((with_reducible first | refine condD ?_ ?_ | refine condX ?_ ?_ | refine condW_intro ?_ ?_) <;> intro h <;> first | (exfalso; omega) | simp (disch := omega) only [go_sem, ↓reduceIte, Nat.reduceEqDiff, reduceCtorEq, Int.reduceEq, *] | skip) | (refine callW_of p rfl (.inl rfl) ?_)
theorem elim_magnitude_abs {n : Int} (hn : in64 n) : PCalls Try.prog n_elim_magnitude [I n] (U n.natAbs) := by
 refine PCalls.of is_elim_magnitude (by simp) fun _ => runW_sound ?_
 obtain ⟨h1, h2⟩ := hn
 simp only [c_elim_magnitude]
 by_cases h0 : n < 0
 ·have e1 : IntKind.wrap .u64 n = n + 18446744073709551616 := by rw [IntKind.wrap_u64]; omega
  have e2 : IntKind.wrap .u64 (0 - (n + 18446744073709551616)) = n.natAbs := by rw [IntKind.wrap_u64]; omega
  repeat' first | simp (disch := omega) only [go_sem, ↓reduceIte, Nat.reduceEqDiff, reduceCtorEq, Int.reduceEq, e1, e2] | ((with_reducible first | refine condD ?_ ?_ | refine condX ?_ ?_ | refine condW_intro ?_ ?_) <;> intro h <;> first | (exfalso; omega) | simp (disch := omega) only [go_sem, ↓reduceIte, Nat.reduceEqDiff, reduceCtorEq, Int.reduceEq, *, e1, e2] | skip)
 ·have e2 : IntKind.wrap .u64 n = n.natAbs := by rw [IntKind.wrap_u64]; omega
  repeat' first | simp (disch := omega) only [go_sem, ↓reduceIte, Nat.reduceEqDiff, reduceCtorEq, Int.reduceEq, e2] | ((with_reducible first | refine condD ?_ ?_ | refine condX ?_ ?_ | refine condW_intro ?_ ?_) <;> intro h <;> first | (exfalso; omega) | simp (disch := omega) only [go_sem, ↓reduceIte, Nat.reduceEqDiff, reduceCtorEq, Int.reduceEq, *, e2] | skip)
theorem ref07_size_abs {n : Int} (hn : in64 n) : PCalls Try.prog n_ref07_size [I n] (U n.natAbs) := by
 refine PCalls.of is_ref07_size (by simp) fun _ => runW_sound ?_
 obtain ⟨h1, h2⟩ := hn
 simp only [c_ref07_size]
 by_cases h0 : n < 0
 ·have e0 : IntKind.wrap .i64 (n + 1) = n + 1 := wrap_i64 (by omega)
  have e1 : IntKind.wrap .i64 (0 - (n + 1)) = -(n + 1) := by rw [wrap_i64 (by omega)]; omega
  have e2 : IntKind.wrap .u64 (-(n + 1)) = -(n + 1) := wrap_u64 (by omega)
  have e3 : IntKind.wrap .u64 (-(n + 1) + 1) = n.natAbs := by rw [wrap_u64 (by omega)]; omega
  repeat' first | simp (disch := omega) only [go_sem, ↓reduceIte, Nat.reduceEqDiff, reduceCtorEq, Int.reduceEq, e0, e1, e2, e3] | ((with_reducible first | refine condD ?_ ?_ | refine condX ?_ ?_ | refine condW_intro ?_ ?_) <;> intro h <;> first | (exfalso; omega) | simp (disch := omega) only [go_sem, ↓reduceIte, Nat.reduceEqDiff, reduceCtorEq, Int.reduceEq, *, e0, e1, e2, e3] | skip)
 ·have e2 : IntKind.wrap .u64 n = n.natAbs := by rw [IntKind.wrap_u64]; omega
  repeat' first | simp (disch := omega) only [go_sem, ↓reduceIte, Nat.reduceEqDiff, reduceCtorEq, Int.reduceEq, e2] | ((with_reducible first | refine condD ?_ ?_ | refine condX ?_ ?_ | refine condW_intro ?_ ?_) <;> intro h <;> first | (exfalso; omega) | simp (disch := omega) only [go_sem, ↓reduceIte, Nat.reduceEqDiff, reduceCtorEq, Int.reduceEq, *, e2] | skip)
theorem elim_gcd_abs (a b : Nat) : PCalls Try.prog n_elim_gcd [U a, U b] (U (Nat.gcd a b)) := by
 refine PCalls.of is_elim_gcd (by simp) fun _ => runW_sound ?_
 obtain ⟨R, hR⟩ : ∃ R, R = Nat.gcd a b := ⟨_, rfl⟩
 rw [← hR]
 simp only [c_elim_gcd]
 repeat' first | simp (disch := omega) only [go_sem, ↓reduceIte, Nat.reduceEqDiff, reduceCtorEq, Int.reduceEq] | ((with_reducible first | refine condD ?_ ?_ | refine condX ?_ ?_ | refine condW_intro ?_ ?_) <;> intro h <;> first | (exfalso; omega) | simp (disch := omega) only [go_sem, ↓reduceIte, Nat.reduceEqDiff, reduceCtorEq, Int.reduceEq, *] | skip)
 refine AW_loop (fun s : Nat × Nat => ⟨[(0, U s.1), (1, U s.2)], [], 0, 0⟩) (fun s => Hid (R = Nat.gcd s.1 s.2)) (fun s => s.2) ⟨(a, b), [], Lib.hid hR, by simp [Wk, wkF, wkM, wkL, look_cons, renV, renA, renC, renB, rn, clV, clA, clAs, clB, notIn, findB, findB_setB, clA.go]⟩ ?_
 clear hR
 rintro ⟨x, y⟩ HR
 refine runW_sound ?_
 by_cases h0 : y = 0
 ·have h1 := HR.out
  simp only [h0, Nat.gcd_zero_right] at h1
  subst h0
  subst h1
  repeat' first | simp (disch := omega) only [go_sem, ↓reduceIte, Nat.reduceEqDiff, reduceCtorEq, Int.reduceEq, Int.natCast_zero] | ((with_reducible first | refine condD ?_ ?_ | refine condX ?_ ?_ | refine condW_intro ?_ ?_) <;> intro h <;> first | (exfalso; omega) | simp (disch := omega) only [go_sem, ↓reduceIte, Nat.reduceEqDiff, reduceCtorEq, Int.reduceEq, *, Int.natCast_zero] | skip)
 ·have h1 : (y : Int) ≠ 0 := by omega
  repeat' first | simp (disch := omega) only [go_sem, ↓reduceIte, Nat.reduceEqDiff, reduceCtorEq, Int.reduceEq, h1, ne_eq, tmod_nat] | ((with_reducible first | refine condD ?_ ?_ | refine condX ?_ ?_ | refine condW_intro ?_ ?_) <;> intro h <;> first | (exfalso; omega) | simp (disch := omega) only [go_sem, ↓reduceIte, Nat.reduceEqDiff, reduceCtorEq, Int.reduceEq, *, h1, ne_eq, tmod_nat] | skip)
  exact ⟨(y, x % y), [], Lib.hid (by rw [HR.out]; simp only; rw [Nat.gcd_comm, Nat.gcd_rec, Nat.gcd_comm]), Nat.mod_lt _ (by omega), by simp [Wk, wkF, wkM, wkL, look_cons, renV, renA, renC, renB, rn, clV, clA, clAs, clB, notIn, findB, findB_setB, clA.go]⟩
theorem ref07_gcd_abs (a b : Nat) : PCalls Try.prog n_ref07_gcd [U a, U b] (U (Nat.gcd a b)) := by
 refine PCalls.of is_ref07_gcd (by simp) fun _ => runW_sound ?_
 obtain ⟨R, hR⟩ : ∃ R, R = Nat.gcd a b := ⟨_, rfl⟩
 rw [← hR]
 simp only [c_ref07_gcd]
 repeat' first | simp (disch := omega) only [go_sem, ↓reduceIte, Nat.reduceEqDiff, reduceCtorEq, Int.reduceEq] | ((with_reducible first | refine condD ?_ ?_ | refine condX ?_ ?_ | refine condW_intro ?_ ?_) <;> intro h <;> first | (exfalso; omega) | simp (disch := omega) only [go_sem, ↓reduceIte, Nat.reduceEqDiff, reduceCtorEq, Int.reduceEq, *] | skip)
 refine AW_loop (fun s : Nat × Nat => ⟨[(0, U s.1), (1, U s.2)], [], 0, 0⟩) (fun s => Hid (R = Nat.gcd s.1 s.2)) (fun s => s.2) ⟨(a, b), [], Lib.hid hR, by simp [Wk, wkF, wkM, wkL, look_cons, renV, renA, renC, renB, rn, clV, clA, clAs, clB, notIn, findB, findB_setB, clA.go]⟩ ?_
 clear hR
 rintro ⟨x, y⟩ HR
 refine runW_sound ?_
 by_cases h0 : y = 0
 ·have h1 := HR.out
  simp only [h0, Nat.gcd_zero_right] at h1
  subst h0
  subst h1
  repeat' first | simp (disch := omega) only [go_sem, ↓reduceIte, Nat.reduceEqDiff, reduceCtorEq, Int.reduceEq, Int.natCast_zero] | ((with_reducible first | refine condD ?_ ?_ | refine condX ?_ ?_ | refine condW_intro ?_ ?_) <;> intro h <;> first | (exfalso; omega) | simp (disch := omega) only [go_sem, ↓reduceIte, Nat.reduceEqDiff, reduceCtorEq, Int.reduceEq, *, Int.natCast_zero] | skip)
 ·have h1 : (y : Int) ≠ 0 := by omega
  repeat' first | simp (disch := omega) only [go_sem, ↓reduceIte, Nat.reduceEqDiff, reduceCtorEq, Int.reduceEq, h1, ne_eq, tmod_nat] | ((with_reducible first | refine condD ?_ ?_ | refine condX ?_ ?_ | refine condW_intro ?_ ?_) <;> intro h <;> first | (exfalso; omega) | simp (disch := omega) only [go_sem, ↓reduceIte, Nat.reduceEqDiff, reduceCtorEq, Int.reduceEq, *, h1, ne_eq, tmod_nat] | skip)
  exact ⟨(y, x % y), [], Lib.hid (by rw [HR.out]; simp only; rw [Nat.gcd_comm, Nat.gcd_rec, Nat.gcd_comm]), Nat.mod_lt _ (by omega), by simp [Wk, wkF, wkM, wkL, look_cons, renV, renA, renC, renB, rn, clV, clA, clAs, clB, notIn, findB, findB_setB, clA.go]⟩
/-- The signed number, and whether there is one. -/
def sgnE (n : Nat) (s : Bool) : Int × Bool := if n > 9223372036854775807 then (0, false) else (if s then -(n : Int) else n, true)
theorem elim_signed_abs {n : Nat} (s : Bool) : PCalls Try.prog n_elim_signed [U n, Go.Abs.B s] (aOk (sgnE n s)) := by
 refine PCalls.of is_elim_signed (by simp) fun _ => runW_sound ?_
 simp only [c_elim_signed, sgnE]
 by_cases h : n > 9223372036854775807
 ·rw [if_pos h]
  repeat' first | simp (disch := omega) only [go_sem, ↓reduceIte, Nat.reduceEqDiff, reduceCtorEq, Int.reduceEq] | ((with_reducible first | refine condD ?_ ?_ | refine condX ?_ ?_ | refine condW_intro ?_ ?_) <;> intro h <;> first | (exfalso; omega) | simp (disch := omega) only [go_sem, ↓reduceIte, Nat.reduceEqDiff, reduceCtorEq, Int.reduceEq, *] | skip)
 ·rw [if_neg h]
  have e1 : IntKind.wrap .i64 (n : Int) = n := wrap_i64 (by omega)
  have e2 : IntKind.wrap .i64 (0 - (n : Int)) = -(n : Int) := by rw [wrap_i64 (by omega)]; omega
  cases s
  ·repeat' first | simp (disch := omega) only [go_sem, ↓reduceIte, Nat.reduceEqDiff, reduceCtorEq, Int.reduceEq, e1, e2] | ((with_reducible first | refine condD ?_ ?_ | refine condX ?_ ?_ | refine condW_intro ?_ ?_) <;> intro h <;> first | (exfalso; omega) | simp (disch := omega) only [go_sem, ↓reduceIte, Nat.reduceEqDiff, reduceCtorEq, Int.reduceEq, *, e1, e2] | skip)
  ·repeat' first | simp (disch := omega) only [go_sem, ↓reduceIte, Nat.reduceEqDiff, reduceCtorEq, Int.reduceEq, e1, e2] | ((with_reducible first | refine condD ?_ ?_ | refine condX ?_ ?_ | refine condW_intro ?_ ?_) <;> intro h <;> first | (exfalso; omega) | simp (disch := omega) only [go_sem, ↓reduceIte, Nat.reduceEqDiff, reduceCtorEq, Int.reduceEq, *, e1, e2] | skip)
/-- The reference's, which has the least number too. -/
def sgnR (n : Nat) (s : Bool) : Int × Bool := if n = 9223372036854775808 ∧ s = true then (-9223372036854775808, true) else sgnE n s
theorem ref07_signed_abs {n : Nat} (s : Bool) : PCalls Try.prog n_ref07_signed [U n, Go.Abs.B s] (aOk (sgnR n s)) := by
 refine PCalls.of is_ref07_signed (by simp) fun _ => runW_sound ?_
 simp only [c_ref07_signed, sgnR, sgnE]
 have e1 : ¬ n > 9223372036854775807 → IntKind.wrap .i64 (n : Int) = n := fun h => wrap_i64 (by omega)
 have e2 : ¬ n > 9223372036854775807 → IntKind.wrap .i64 (0 - (n : Int)) = -(n : Int) := fun h => by rw [wrap_i64 (by omega)]; omega
 by_cases h0 : n = 9223372036854775808
 ·subst h0
  clear e1 e2
  cases s
  ·repeat' first | simp (disch := omega) only [go_sem, ↓reduceIte, Nat.reduceEqDiff, reduceCtorEq, Int.reduceEq] | ((with_reducible first | refine condD ?_ ?_ | refine condX ?_ ?_ | refine condW_intro ?_ ?_) <;> intro h <;> first | (exfalso; omega) | simp (disch := omega) only [go_sem, ↓reduceIte, Nat.reduceEqDiff, reduceCtorEq, Int.reduceEq, *] | skip)
   rfl
  ·repeat' first | simp (disch := omega) only [go_sem, ↓reduceIte, Nat.reduceEqDiff, reduceCtorEq, Int.reduceEq] | ((with_reducible first | refine condD ?_ ?_ | refine condX ?_ ?_ | refine condW_intro ?_ ?_) <;> intro h <;> first | (exfalso; omega) | simp (disch := omega) only [go_sem, ↓reduceIte, Nat.reduceEqDiff, reduceCtorEq, Int.reduceEq, *] | skip)
 ·by_cases h : n > 9223372036854775807
  ·rw [if_neg (fun g => h0 g.1), if_pos h]
   have h0' : ¬ (n : Int) = 9223372036854775808 := by omega
   clear e1 e2
   cases s
   ·repeat' first | simp (disch := omega) only [go_sem, ↓reduceIte, Nat.reduceEqDiff, reduceCtorEq, Int.reduceEq, h0'] | ((with_reducible first | refine condD ?_ ?_ | refine condX ?_ ?_ | refine condW_intro ?_ ?_) <;> intro h <;> first | (exfalso; omega) | simp (disch := omega) only [go_sem, ↓reduceIte, Nat.reduceEqDiff, reduceCtorEq, Int.reduceEq, *, h0'] | skip)
   ·repeat' first | simp (disch := omega) only [go_sem, ↓reduceIte, Nat.reduceEqDiff, reduceCtorEq, Int.reduceEq, h0'] | ((with_reducible first | refine condD ?_ ?_ | refine condX ?_ ?_ | refine condW_intro ?_ ?_) <;> intro h <;> first | (exfalso; omega) | simp (disch := omega) only [go_sem, ↓reduceIte, Nat.reduceEqDiff, reduceCtorEq, Int.reduceEq, *, h0'] | skip)
  ·rw [if_neg (fun g => h0 g.1), if_neg h]
   have h0' : ¬ (n : Int) = 9223372036854775808 := by omega
   have e1 := e1 h
   have e2 := e2 h
   cases s
   ·repeat' first | simp (disch := omega) only [go_sem, ↓reduceIte, Nat.reduceEqDiff, reduceCtorEq, Int.reduceEq, h0', e1, e2] | ((with_reducible first | refine condD ?_ ?_ | refine condX ?_ ?_ | refine condW_intro ?_ ?_) <;> intro h <;> first | (exfalso; omega) | simp (disch := omega) only [go_sem, ↓reduceIte, Nat.reduceEqDiff, reduceCtorEq, Int.reduceEq, *, h0', e1, e2] | skip)
   ·repeat' first | simp (disch := omega) only [go_sem, ↓reduceIte, Nat.reduceEqDiff, reduceCtorEq, Int.reduceEq, h0', e1, e2] | ((with_reducible first | refine condD ?_ ?_ | refine condX ?_ ?_ | refine condW_intro ?_ ?_) <;> intro h <;> first | (exfalso; omega) | simp (disch := omega) only [go_sem, ↓reduceIte, Nat.reduceEqDiff, reduceCtorEq, Int.reduceEq, *, h0', e1, e2] | skip)
theorem u64_nat {x : Nat} (h : x ≤ 18446744073709551615) : IntKind.wrap .u64 (x : Int) = x := wrap_u64 (by omega)
theorem elim_factors_abs {p q : Int} (hp : in64 p) (hq : in64 q) (h0 : p ≠ 0) : PCalls Try.prog n_elim_factors [I p, I q] (.tup [I (sgnE (q.natAbs / Nat.gcd p.natAbs q.natAbs) false).1, I (sgnE (p.natAbs / Nat.gcd p.natAbs q.natAbs) false).1, Go.Abs.B ((sgnE (q.natAbs / Nat.gcd p.natAbs q.natAbs) false).2 && (sgnE (p.natAbs / Nat.gcd p.natAbs q.natAbs) false).2)]) := by
 refine PCalls.of is_elim_factors (by simp) fun _ => runW_sound ?_
 simp only [c_elim_factors]
 have p1 := elim_magnitude_abs hp
 have p2 := elim_magnitude_abs hq
 have p3 := elim_gcd_abs p.natAbs q.natAbs
 have hd : Nat.gcd p.natAbs q.natAbs ≠ 0 := fun h => h0 (Int.natAbs_eq_zero.1 (Nat.eq_zero_of_gcd_eq_zero_left h))
 have hP : p.natAbs ≤ 9223372036854775808 := by unfold in64 at hp; omega
 have hQ : q.natAbs ≤ 9223372036854775808 := by unfold in64 at hq; omega
 generalize Nat.gcd p.natAbs q.natAbs = d at *
 generalize p.natAbs = P at *
 generalize q.natAbs = Q at *
 have l1 : Q / d ≤ Q := Nat.div_le_self _ _
 have l2 : P / d ≤ P := Nat.div_le_self _ _
 have p4 := elim_signed_abs (n := Q / d) false
 have p5 := elim_signed_abs (n := P / d) false
 have w1 : IntKind.wrap .u64 ((Q / d : Nat) : Int) = (Q / d : Nat) := u64_nat (by omega)
 have w2 : IntKind.wrap .u64 ((P / d : Nat) : Int) = (P / d : Nat) := u64_nat (by omega)
 have hd' : ¬ (d : Int) = 0 := by omega
 generalize sgnE (Q / d) false = s1 at *
 generalize sgnE (P / d) false = s2 at *
 obtain ⟨s1, o1⟩ := s1
 obtain ⟨s2, o2⟩ := s2
 cases o1
 all_goals
  repeat' first | simp (disch := omega) only [go_sem, ↓reduceIte, Nat.reduceEqDiff, reduceCtorEq, Int.reduceEq, hd', ne_eq, tdiv_nat, w1, w2] | ((with_reducible first | refine condD ?_ ?_ | refine condX ?_ ?_ | refine condW_intro ?_ ?_) <;> intro h <;> first | (exfalso; omega) | simp (disch := omega) only [go_sem, ↓reduceIte, Nat.reduceEqDiff, reduceCtorEq, Int.reduceEq, *, hd', ne_eq, tdiv_nat, w1, w2] | skip) | (refine callW_of p1 rfl (.inl rfl) ?_) | (refine callW_of p2 rfl (.inl rfl) ?_) | (refine callW_of p3 rfl (.inl rfl) ?_) | (refine callW_of p4 rfl (.inl rfl) ?_) | (refine callW_of p5 rfl (.inl rfl) ?_)
  rfl
theorem ref07_factors_abs {p q : Int} (hp : in64 p) (hq : in64 q) (h0 : p ≠ 0) : PCalls Try.prog n_ref07_factors [I p, I q] (.tup [U (q.natAbs / Nat.gcd p.natAbs q.natAbs : Nat), U (p.natAbs / Nat.gcd p.natAbs q.natAbs : Nat)]) := by
 refine PCalls.of is_ref07_factors (by simp) fun _ => runW_sound ?_
 simp only [c_ref07_factors]
 have p1 := ref07_size_abs hp
 have p2 := ref07_size_abs hq
 have p3 := ref07_gcd_abs p.natAbs q.natAbs
 have hd : Nat.gcd p.natAbs q.natAbs ≠ 0 := fun h => h0 (Int.natAbs_eq_zero.1 (Nat.eq_zero_of_gcd_eq_zero_left h))
 have hP : p.natAbs ≤ 9223372036854775808 := by unfold in64 at hp; omega
 have hQ : q.natAbs ≤ 9223372036854775808 := by unfold in64 at hq; omega
 generalize Nat.gcd p.natAbs q.natAbs = d at *
 generalize p.natAbs = P at *
 generalize q.natAbs = Q at *
 have l1 : Q / d ≤ Q := Nat.div_le_self _ _
 have l2 : P / d ≤ P := Nat.div_le_self _ _
 have w1 : IntKind.wrap .u64 ((Q / d : Nat) : Int) = (Q / d : Nat) := u64_nat (by omega)
 have w2 : IntKind.wrap .u64 ((P / d : Nat) : Int) = (P / d : Nat) := u64_nat (by omega)
 have hd' : ¬ (d : Int) = 0 := by omega
 repeat' first | simp (disch := omega) only [go_sem, ↓reduceIte, Nat.reduceEqDiff, reduceCtorEq, Int.reduceEq, hd', ne_eq, tdiv_nat, w1, w2] | ((with_reducible first | refine condD ?_ ?_ | refine condX ?_ ?_ | refine condW_intro ?_ ?_) <;> intro h <;> first | (exfalso; omega) | simp (disch := omega) only [go_sem, ↓reduceIte, Nat.reduceEqDiff, reduceCtorEq, Int.reduceEq, *, hd', ne_eq, tdiv_nat, w1, w2] | skip) | (refine callW_of p1 rfl (.inl rfl) ?_) | (refine callW_of p2 rfl (.inl rfl) ?_) | (refine callW_of p3 rfl (.inl rfl) ?_)
/-- One constraint from two, without the name. -/
noncomputable def cancelS (p q : Con) (n : ByteArray) : Con × Int :=
 if ¬ linOk p.1.2 ∨ ¬ linOk q.1.2 ∨ ¬ idOk n ∨ p.2 = true ∨ q.2 = true then (conZ, 1) else
 if cf p.1.2 n ≤ 0 ∨ 0 ≤ cf q.1.2 n then (conZ, 1) else
 if (cf q.1.2 n).natAbs / Nat.gcd (cf p.1.2 n).natAbs (cf q.1.2 n).natAbs > 9223372036854775807 then (conZ, 3) else
 conCombine [p, q] [(((cf q.1.2 n).natAbs / Nat.gcd (cf p.1.2 n).natAbs (cf q.1.2 n).natAbs : Nat) : Int), (((cf p.1.2 n).natAbs / Nat.gcd (cf p.1.2 n).natAbs (cf q.1.2 n).natAbs : Nat) : Int)]
theorem cf_64 {l : List Mono} (h : ∀ m ∈ l, in64 m.2) (n : ByteArray) : in64 (cf l n) := by
 by_cases h0 : cf l n = 0
 ·rw [h0]; exact in64_zero
 ·obtain ⟨m, h1, _, h2⟩ := cf_in h0
  rw [← h2]; exact h m h1
set_option maxHeartbeats 2000000 in
theorem elim_Combine_abs {p q : Con} {n : ByteArray} (hp : con64 p) (hq : con64 q) (hs : p.1.2.length + q.1.2.length ≤ 1000000000) : PCalls Try.prog n_elim_Combine [aCon p, aCon q, S n] (aConE (cancelS p q n)) := by
 refine PCalls.of is_elim_Combine (by simp) fun _ => runW_sound ?_
 have p1 := constraint_Validate_abs p
 have p2 := constraint_Validate_abs q
 have p3 := elim_identifier_abs n
 have p4 := elim_coefficient_abs p n
 have p5 := elim_coefficient_abs q n
 have h1 := cf_64 hp.2 n
 have h2 := cf_64 hq.2 n
 have hcc : ∀ {x y : Int}, in64 x → in64 y → PCalls Try.prog n_constraint_Combine [aCons [p, q], aInts [x, y]] (aConE (conCombine [p, q] [x, y])) := fun hx hy =>
  constraint_Combine_abs (fun c hc => by simp at hc; rcases hc with rfl | rfl; exact hp; exact hq) (fun z hz => by simp at hz; rcases hz with rfl | rfl; exact hx; exact hy) (by simp [tot]; omega)
 simp only [c_elim_Combine]
 unfold cancelS
 by_cases hl1 : linOk p.1.2
 ·by_cases hl2 : linOk q.1.2
  ·by_cases hn : idOk n
   ·rw [if_pos hl1] at p1
    rw [if_pos hl2] at p2
    rw [decide_eq_true hn] at p3
    by_cases he1 : p.2 = true
    ·rw [if_pos (.inr (.inr (.inr (.inl he1))))]
     obtain ⟨⟨pk, pl⟩, pe⟩ := p
     obtain ⟨⟨qk, ql⟩, qe⟩ := q
     simp only at he1
     subst he1
     clear hcc p4 p5
     repeat' first | simp (disch := omega) only [go_sem, ↓reduceIte, Nat.reduceEqDiff, reduceCtorEq, Int.reduceEq] | ((with_reducible first | refine condD ?_ ?_ | refine condX ?_ ?_ | refine condW_intro ?_ ?_) <;> intro h <;> first | (exfalso; omega) | simp (disch := omega) only [go_sem, ↓reduceIte, Nat.reduceEqDiff, reduceCtorEq, Int.reduceEq, *] | skip) | (refine callW_of p1 rfl (.inl rfl) ?_) | (refine callW_of p2 rfl (.inl rfl) ?_) | (refine callW_of p3 rfl (.inl rfl) ?_)
     all_goals rfl
    ·by_cases he2 : q.2 = true
     ·rw [if_pos (.inr (.inr (.inr (.inr he2))))]
      obtain ⟨⟨pk, pl⟩, pe⟩ := p
      obtain ⟨⟨qk, ql⟩, qe⟩ := q
      simp only at he1 he2
      subst he2
      cases pe
      ·clear hcc p4 p5
       repeat' first | simp (disch := omega) only [go_sem, ↓reduceIte, Nat.reduceEqDiff, reduceCtorEq, Int.reduceEq] | ((with_reducible first | refine condD ?_ ?_ | refine condX ?_ ?_ | refine condW_intro ?_ ?_) <;> intro h <;> first | (exfalso; omega) | simp (disch := omega) only [go_sem, ↓reduceIte, Nat.reduceEqDiff, reduceCtorEq, Int.reduceEq, *] | skip) | (refine callW_of p1 rfl (.inl rfl) ?_) | (refine callW_of p2 rfl (.inl rfl) ?_) | (refine callW_of p3 rfl (.inl rfl) ?_)
       all_goals rfl
      ·exact absurd rfl he1
     ·rw [if_neg (by simp [hl1, hl2, hn, he1, he2])]
      obtain ⟨⟨pk, pl⟩, pe⟩ := p
      obtain ⟨⟨qk, ql⟩, qe⟩ := q
      simp only at he1 he2 h1 h2 p4 p5 hl1 hl2 ⊢
      have he1 := Bool.eq_false_iff.2 he1
      have he2 := Bool.eq_false_iff.2 he2
      subst he1
      subst he2
      generalize cf pl n = a at *
      generalize cf ql n = b at *
      by_cases ha : a ≤ 0
      ·rw [if_pos (.inl ha)]
       clear hcc
       repeat' first | simp (disch := omega) only [go_sem, ↓reduceIte, Nat.reduceEqDiff, reduceCtorEq, Int.reduceEq] | ((with_reducible first | refine condD ?_ ?_ | refine condX ?_ ?_ | refine condW_intro ?_ ?_) <;> intro h <;> first | (exfalso; omega) | simp (disch := omega) only [go_sem, ↓reduceIte, Nat.reduceEqDiff, reduceCtorEq, Int.reduceEq, *] | skip) | (refine callW_of p1 rfl (.inl rfl) ?_) | (refine callW_of p2 rfl (.inl rfl) ?_) | (refine callW_of p3 rfl (.inl rfl) ?_) | (refine callW_of p4 rfl (.inl rfl) ?_) | (refine callW_of p5 rfl (.inl rfl) ?_)
       all_goals rfl
      ·by_cases hb : 0 ≤ b
       ·rw [if_pos (.inr hb)]
        clear hcc
        repeat' first | simp (disch := omega) only [go_sem, ↓reduceIte, Nat.reduceEqDiff, reduceCtorEq, Int.reduceEq] | ((with_reducible first | refine condD ?_ ?_ | refine condX ?_ ?_ | refine condW_intro ?_ ?_) <;> intro h <;> first | (exfalso; omega) | simp (disch := omega) only [go_sem, ↓reduceIte, Nat.reduceEqDiff, reduceCtorEq, Int.reduceEq, *] | skip) | (refine callW_of p1 rfl (.inl rfl) ?_) | (refine callW_of p2 rfl (.inl rfl) ?_) | (refine callW_of p3 rfl (.inl rfl) ?_) | (refine callW_of p4 rfl (.inl rfl) ?_) | (refine callW_of p5 rfl (.inl rfl) ?_)
        all_goals rfl
       ·rw [if_neg (by omega)]
        have p6 := elim_factors_abs h1 h2 (by omega)
        have hQ : a.natAbs / Nat.gcd a.natAbs b.natAbs ≤ 9223372036854775807 := Nat.le_trans (Nat.div_le_self _ _) (by unfold in64 at h1; omega)
        generalize a.natAbs / Nat.gcd a.natAbs b.natAbs = f2 at *
        generalize b.natAbs / Nat.gcd a.natAbs b.natAbs = f1 at *
        have e2 : sgnE f2 false = ((f2 : Int), true) := by rw [sgnE, if_neg (by omega)]; rfl
        rw [e2] at p6
        by_cases hbig : f1 > 9223372036854775807
        ·rw [if_pos hbig]
         have e1 : sgnE f1 false = (0, false) := by rw [sgnE, if_pos hbig]
         rw [e1] at p6
         replace p6 : PCalls Try.prog n_elim_factors [I a, I b] (.tup [I 0, I f2, Go.Abs.B false]) := p6
         clear hcc
         repeat' first | simp (disch := omega) only [go_sem, ↓reduceIte, Nat.reduceEqDiff, reduceCtorEq, Int.reduceEq] | ((with_reducible first | refine condD ?_ ?_ | refine condX ?_ ?_ | refine condW_intro ?_ ?_) <;> intro h <;> first | (exfalso; omega) | simp (disch := omega) only [go_sem, ↓reduceIte, Nat.reduceEqDiff, reduceCtorEq, Int.reduceEq, *] | skip) | (refine callW_of p1 rfl (.inl rfl) ?_) | (refine callW_of p2 rfl (.inl rfl) ?_) | (refine callW_of p3 rfl (.inl rfl) ?_) | (refine callW_of p4 rfl (.inl rfl) ?_) | (refine callW_of p5 rfl (.inl rfl) ?_) | (refine callW_of p6 rfl (.inl rfl) ?_)
         all_goals rfl
        ·rw [if_neg hbig]
         have e1 : sgnE f1 false = ((f1 : Int), true) := by rw [sgnE, if_neg hbig]; rfl
         rw [e1] at p6
         replace p6 : PCalls Try.prog n_elim_factors [I a, I b] (.tup [I f1, I f2, Go.Abs.B true]) := p6
         have p7 := hcc (x := f1) (y := f2) (by unfold in64; omega) (by unfold in64; omega)
         clear hcc
         generalize conCombine [((pk, pl), false), ((qk, ql), false)] [(f1 : Int), (f2 : Int)] = R at *
         obtain ⟨⟨⟨rk, rl⟩, re⟩, rc⟩ := R
         repeat' first | simp (disch := omega) only [go_sem, ↓reduceIte, Nat.reduceEqDiff, reduceCtorEq, Int.reduceEq] | ((with_reducible first | refine condD ?_ ?_ | refine condX ?_ ?_ | refine condW_intro ?_ ?_) <;> intro h <;> first | (exfalso; omega) | simp (disch := omega) only [go_sem, ↓reduceIte, Nat.reduceEqDiff, reduceCtorEq, Int.reduceEq, *] | skip) | (refine callW_of p1 rfl (.inl rfl) ?_) | (refine callW_of p2 rfl (.inl rfl) ?_) | (refine callW_of p3 rfl (.inl rfl) ?_) | (refine callW_of p4 rfl (.inl rfl) ?_) | (refine callW_of p5 rfl (.inl rfl) ?_) | (refine callW_of p6 rfl (.inl rfl) ?_) | (refine callW_of p7 rfl (.inr rfl) ?_)
         all_goals rfl
   ·rw [if_pos (.inr (.inr (.inl hn)))]
    rw [if_pos hl1] at p1
    rw [if_pos hl2] at p2
    rw [decide_eq_false hn] at p3
    obtain ⟨⟨pk, pl⟩, pe⟩ := p
    obtain ⟨⟨qk, ql⟩, qe⟩ := q
    clear hcc p4 p5
    repeat' first | simp (disch := omega) only [go_sem, ↓reduceIte, Nat.reduceEqDiff, reduceCtorEq, Int.reduceEq] | ((with_reducible first | refine condD ?_ ?_ | refine condX ?_ ?_ | refine condW_intro ?_ ?_) <;> intro h <;> first | (exfalso; omega) | simp (disch := omega) only [go_sem, ↓reduceIte, Nat.reduceEqDiff, reduceCtorEq, Int.reduceEq, *] | skip) | (refine callW_of p1 rfl (.inl rfl) ?_) | (refine callW_of p2 rfl (.inl rfl) ?_) | (refine callW_of p3 rfl (.inl rfl) ?_)
    all_goals rfl
  ·rw [if_pos (.inr (.inl hl2))]
   rw [if_pos hl1] at p1
   rw [if_neg hl2] at p2
   obtain ⟨⟨pk, pl⟩, pe⟩ := p
   obtain ⟨⟨qk, ql⟩, qe⟩ := q
   clear hcc p4 p5 p3
   repeat' first | simp (disch := omega) only [go_sem, ↓reduceIte, Nat.reduceEqDiff, reduceCtorEq, Int.reduceEq] | ((with_reducible first | refine condD ?_ ?_ | refine condX ?_ ?_ | refine condW_intro ?_ ?_) <;> intro h <;> first | (exfalso; omega) | simp (disch := omega) only [go_sem, ↓reduceIte, Nat.reduceEqDiff, reduceCtorEq, Int.reduceEq, *] | skip) | (refine callW_of p1 rfl (.inl rfl) ?_) | (refine callW_of p2 rfl (.inl rfl) ?_)
   all_goals rfl
 ·rw [if_pos (.inl hl1)]
  rw [if_neg hl1] at p1
  obtain ⟨⟨pk, pl⟩, pe⟩ := p
  obtain ⟨⟨qk, ql⟩, qe⟩ := q
  clear hcc p4 p5 p3
  repeat' first | simp (disch := omega) only [go_sem, ↓reduceIte, Nat.reduceEqDiff, reduceCtorEq, Int.reduceEq] | ((with_reducible first | refine condD ?_ ?_ | refine condX ?_ ?_ | refine condW_intro ?_ ?_) <;> intro h <;> first | (exfalso; omega) | simp (disch := omega) only [go_sem, ↓reduceIte, Nat.reduceEqDiff, reduceCtorEq, Int.reduceEq, *] | skip) | (refine callW_of p1 rfl (.inl rfl) ?_)
  all_goals rfl
end Go.Proofs.Ytnddmjhpplopbaa
