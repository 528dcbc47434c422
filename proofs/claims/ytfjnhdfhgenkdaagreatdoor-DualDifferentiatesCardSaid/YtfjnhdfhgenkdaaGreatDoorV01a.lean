/- Walks by the abstract machine: fractions. -/
import Derived.Test.YtfjnhdfhgenkdaaGreatDoorPlainFr
import Derived.Lib.Hide
set_option linter.unusedVariables false
set_option linter.unusedSimpArgs false
set_option maxRecDepth 20000
namespace Go.Proofs.YtfjnhdfhgenkdaaGreatDoor
open Go.Abs Go.RowKit

abbrev aFr (a : Fr) : AV := .agg [.pure (pI a.1), .pure (pI a.2)]
abbrev aFrE (x : Fr × Int) : AV := .tup [aFr x.1, I x.2]

theorem tmod_nat (x y : Nat) : Int.tmod (x : Int) (y : Int) = ((x % y : Nat) : Int) := (Int.ofNat_tmod x y).symm
theorem tdiv_nat (x y : Nat) : Int.tdiv (x : Int) (y : Int) = ((x / y : Nat) : Int) := (Int.ofNat_tdiv x y).symm

theorem frac_gcd_abs (a b : Nat) : PCalls Tryz.prog n_frac_gcd [U a, U b] (U (Nat.gcd a b)) := by
 refine PCalls.of is_frac_gcd (by simp) fun _ => runW_sound ?_
 obtain ⟨R, hR⟩ : ∃ R, R = Nat.gcd a b := ⟨_, rfl⟩
 rw [← hR]
 simp only [c_frac_gcd]
 repeat' first | simp (disch := omega) only [go_sem] | ((with_reducible first | refine condD ?_ ?_ | refine condX ?_ ?_ | refine condW_intro ?_ ?_) <;> intro h <;> first | (exfalso; omega) | simp (disch := omega) only [go_sem, *] | skip)
 refine AW_loop (fun s : Nat × Nat => ⟨[(0, U s.1), (1, U s.2)], [], 0, 0⟩) (fun s => Hid (R = Nat.gcd s.1 s.2)) (fun s => s.2) ⟨(a, b), [], Lib.hid hR, by simp [Wk, wkF, wkM, wkL, look_cons, renV, renA, renC, renB, rn, clV, clA, clAs, clB, notIn, findB, findB_setB, clA.go]⟩ ?_
 clear hR
 rintro ⟨x, y⟩ HR
 refine runW_sound ?_
 by_cases h0 : y = 0
 ·have h1 := HR.out
  simp only [h0, Nat.gcd_zero_right] at h1
  subst h0
  subst h1
  repeat' first | simp (disch := omega) only [go_sem, Int.natCast_zero] | ((with_reducible first | refine condD ?_ ?_ | refine condX ?_ ?_ | refine condW_intro ?_ ?_) <;> intro h <;> first | (exfalso; omega) | simp (disch := omega) only [go_sem, *, Int.natCast_zero] | skip)
 ·have h1 : (y : Int) ≠ 0 := by omega
  repeat' first | simp (disch := omega) only [go_sem, h1, ne_eq, tmod_nat] | ((with_reducible first | refine condD ?_ ?_ | refine condX ?_ ?_ | refine condW_intro ?_ ?_) <;> intro h <;> first | (exfalso; omega) | simp (disch := omega) only [go_sem, *, h1, ne_eq, tmod_nat] | skip)
  exact ⟨(y, x % y), [], Lib.hid (by rw [HR.out]; simp only; rw [Nat.gcd_comm, Nat.gcd_rec, Nat.gcd_comm]), Nat.mod_lt _ (by omega), by simp [Wk, wkF, wkM, wkL, look_cons, renV, renA, renC, renB, rn, clV, clA, clAs, clB, notIn, findB, findB_setB, clA.go]⟩
theorem frac_magnitude_abs {n : Int} (hn : in64 n) : PCalls Tryz.prog n_frac_magnitude [I n] (U n.natAbs) := by
 refine PCalls.of is_frac_magnitude (by simp) fun _ => runW_sound ?_
 obtain ⟨h1, h2⟩ := hn
 simp only [c_frac_magnitude]
 by_cases h0 : n < 0
 ·have e1 : IntKind.wrap .u64 n = n + 18446744073709551616 := by rw [IntKind.wrap_u64]; omega
  have e2 : IntKind.wrap .u64 (0 - (n + 18446744073709551616)) = n.natAbs := by rw [IntKind.wrap_u64]; omega
  repeat' first | simp (disch := omega) only [go_sem, e1, e2] | ((with_reducible first | refine condD ?_ ?_ | refine condX ?_ ?_ | refine condW_intro ?_ ?_) <;> intro h <;> first | (exfalso; omega) | simp (disch := omega) only [go_sem, *, e1, e2] | skip)
 ·have e2 : IntKind.wrap .u64 n = n.natAbs := by rw [IntKind.wrap_u64]; omega
  repeat' first | simp (disch := omega) only [go_sem, e2] | ((with_reducible first | refine condD ?_ ?_ | refine condX ?_ ?_ | refine condW_intro ?_ ?_) <;> intro h <;> first | (exfalso; omega) | simp (disch := omega) only [go_sem, *, e2] | skip)

theorem frac_inRange_abs (n : Int) : PCalls Tryz.prog n_frac_inRange [I n] (Go.Abs.B (decide (-2147483647 ≤ n ∧ n ≤ 2147483647))) := by
 refine PCalls.of is_frac_inRange (by simp) fun _ => runW_sound ?_
 simp only [c_frac_inRange]
 repeat' first | simp (disch := omega) only [go_sem] | ((with_reducible first | refine condD ?_ ?_ | refine condX ?_ ?_ | refine condW_intro ?_ ?_) <;> intro h <;> first | (exfalso; omega) | simp (disch := omega) only [go_sem, *] | skip)
 all_goals (simp <;> omega)

theorem frac_Valid_abs {a : Fr} (ha : frIn a) : PCalls Tryz.prog n_frac_Valid [aFr a] (Go.Abs.B (decide (frOk a))) := by
 refine PCalls.of is_frac_Valid (by simp) fun _ => runW_sound ?_
 obtain ⟨n, d⟩ := a
 have p1 := frac_magnitude_abs ha.1
 have p2 := frac_gcd_abs n.natAbs d.natAbs
 simp only at p1
 simp only [c_frac_Valid]
 by_cases h1 : 1 ≤ d
 ·by_cases h2 : d ≤ 2147483647
  ·have e : IntKind.wrap .u64 d = d.natAbs := by rw [IntKind.wrap_u64]; omega
   by_cases h3 : -2147483647 ≤ n ∧ n ≤ 2147483647
   ·repeat' first | simp (disch := omega) only [go_sem, e, h3] | ((with_reducible first | refine condD ?_ ?_ | refine condX ?_ ?_ | refine condW_intro ?_ ?_) <;> intro h <;> first | (exfalso; omega) | simp (disch := omega) only [go_sem, *, e, h3] | skip) | (refine callW_of (frac_inRange_abs _) rfl (.inl rfl) ?_) | (refine callW_of p1 rfl (.inl rfl) ?_) | (refine callW_of p2 rfl (.inl rfl) ?_)
    rw [show decide (((n.natAbs.gcd d.natAbs : Nat) : Int) = 1) = decide (frOk (n, d)) by rw [decide_eq_decide]; simp only [frOk]; omega]
   ·repeat' first | simp (disch := omega) only [go_sem, e, h3] | ((with_reducible first | refine condD ?_ ?_ | refine condX ?_ ?_ | refine condW_intro ?_ ?_) <;> intro h <;> first | (exfalso; omega) | simp (disch := omega) only [go_sem, *, e, h3] | skip) | (refine callW_of (frac_inRange_abs _) rfl (.inl rfl) ?_) | (refine callW_of p1 rfl (.inl rfl) ?_) | (refine callW_of p2 rfl (.inl rfl) ?_)
    rw [decide_eq_false]
    simp only [frOk]
    omega
  ·repeat' first | simp (disch := omega) only [go_sem] | ((with_reducible first | refine condD ?_ ?_ | refine condX ?_ ?_ | refine condW_intro ?_ ?_) <;> intro h <;> first | (exfalso; omega) | simp (disch := omega) only [go_sem, *] | skip)
   rw [decide_eq_false]
   simp only [frOk]
   omega
 ·repeat' first | simp (disch := omega) only [go_sem] | ((with_reducible first | refine condD ?_ ?_ | refine condX ?_ ?_ | refine condW_intro ?_ ?_) <;> intro h <;> first | (exfalso; omega) | simp (disch := omega) only [go_sem, *] | skip)
  rw [decide_eq_false]
  simp only [frOk]
  omega

theorem frac_New_abs {n d : Int} (hn : in64 n) (hd : in64 d) : PCalls Tryz.prog n_frac_New [I n, I d] (aFrE (frNew n d)) := by
 refine PCalls.of is_frac_New (by simp) fun _ => runW_sound ?_
 have p1 := frac_magnitude_abs hn
 have p2 := frac_magnitude_abs hd
 have p3 := frac_gcd_abs n.natAbs d.natAbs
 simp only [c_frac_New]
 by_cases h0 : d = 0
 ·rw [frNew, if_pos h0]
  repeat' first | simp (disch := omega) only [go_sem] | ((with_reducible first | refine condD ?_ ?_ | refine condX ?_ ?_ | refine condW_intro ?_ ?_) <;> intro h <;> first | (exfalso; omega) | simp (disch := omega) only [go_sem, *] | skip)
 have e := frNew_eq (n := n) h0
 rw [e]
 have g0 : ((Nat.gcd n.natAbs d.natAbs : Nat) : Int) ≠ 0 := by
  have : 0 < Nat.gcd n.natAbs d.natAbs := Nat.gcd_pos_of_pos_right _ (by omega)
  omega
 have b1 : n.natAbs / Nat.gcd n.natAbs d.natAbs ≤ n.natAbs := Nat.div_le_self _ _
 have b2 : d.natAbs / Nat.gcd n.natAbs d.natAbs ≤ d.natAbs := Nat.div_le_self _ _
 have d1 := tdiv_nat n.natAbs (Nat.gcd n.natAbs d.natAbs)
 have d2 := tdiv_nat d.natAbs (Nat.gcd n.natAbs d.natAbs)
 clear e
 generalize Nat.gcd n.natAbs d.natAbs = g at *
 generalize n.natAbs / g = q1 at *
 generalize d.natAbs / g = q2 at *
 obtain ⟨hn1, hn2⟩ := hn
 obtain ⟨hd1, hd2⟩ := hd
 repeat' first | simp (disch := omega) only [go_sem, g0, ne_eq, d1, d2, wrap_u64, wrap_i64] | ((with_reducible first | refine condD ?_ ?_ | refine condX ?_ ?_ | refine condW_intro ?_ ?_) <;> intro h <;> first | (exfalso; omega) | simp (disch := omega) only [go_sem, *, g0, ne_eq, d1, d2, wrap_u64, wrap_i64] | skip) | (refine callW_of p1 rfl (.inl rfl) ?_) | (refine callW_of p2 rfl (.inl rfl) ?_) | (refine callW_of p3 rfl (.inl rfl) ?_)
 all_goals first
  | (rw [if_pos (by omega)]; done)
  | (rw [if_neg (by omega)]; by_cases hn0 : n < 0 <;> by_cases hd0 : d < 0 <;> simp_all <;> omega)

theorem frac_Add_abs {a b : Fr} (ha : frIn a) (hb : frIn b) : PCalls Tryz.prog n_frac_Add [aFr a, aFr b] (aFrE (frAdd a b)) := by
 refine PCalls.of is_frac_Add (by simp) fun _ => runW_sound ?_
 obtain ⟨n, d⟩ := a
 obtain ⟨m, k⟩ := b
 have p1 := frac_Valid_abs ha
 have p2 := frac_Valid_abs hb
 simp only [c_frac_Add]
 by_cases oa : frOk (n, d)
 ·by_cases ob : frOk (m, k)
  ·rw [frAdd_eq oa ob]
   obtain ⟨o1, o2, o3, o4, _⟩ := id oa
   obtain ⟨r1, r2, r3, r4, _⟩ := id ob
   simp only at o1 o2 o3 o4 r1 r2 r3 r4
   have q1 := mulM (x := n) (y := k) (by omega) (by omega)
   have q2 := mulM (x := m) (y := d) (by omega) (by omega)
   have q3 := mulM (x := d) (y := k) (by omega) (by omega)
   have q4 := mulM (x := n) (y := m) (by omega) (by omega)
   have q5 := mulM (x := d) (y := m) (by omega) (by omega)
   have p3 := frac_New_abs (n := n * k + m * d) (d := d * k) (by unfold in64; omega) (by unfold in64; omega)
   simp only [oa, decide_true] at p1
   simp only [ob, decide_true] at p2
   simp only
   generalize hx1 : n * k = x1 at *
   generalize hx2 : m * d = x2 at *
   generalize hx3 : d * k = x3 at *
   generalize hx4 : n * m = x4 at *
   generalize hx5 : d * m = x5 at *
   repeat' first | simp (disch := omega) only [go_sem, hx1, hx2, hx3, hx4, hx5, wrap_i64] | ((with_reducible first | refine condD ?_ ?_ | refine condX ?_ ?_ | refine condW_intro ?_ ?_) <;> intro h <;> first | (exfalso; omega) | simp (disch := omega) only [go_sem, *, hx1, hx2, hx3, hx4, hx5, wrap_i64] | skip) | (refine callW_of p1 rfl (.inl rfl) ?_) | (refine callW_of p2 rfl (.inl rfl) ?_) | (refine callW_of p3 rfl (.inl rfl) ?_)
  ·rw [frAdd, fr_bad (.inr ob)]
   simp only [oa, decide_true] at p1
   simp only [ob, decide_false] at p2
   repeat' first | simp (disch := omega) only [go_sem] | ((with_reducible first | refine condD ?_ ?_ | refine condX ?_ ?_ | refine condW_intro ?_ ?_) <;> intro h <;> first | (exfalso; omega) | simp (disch := omega) only [go_sem, *] | skip) | (refine callW_of p1 rfl (.inl rfl) ?_) | (refine callW_of p2 rfl (.inl rfl) ?_)
 ·rw [frAdd, fr_bad (.inl oa)]
  simp only [oa, decide_false] at p1
  repeat' first | simp (disch := omega) only [go_sem] | ((with_reducible first | refine condD ?_ ?_ | refine condX ?_ ?_ | refine condW_intro ?_ ?_) <;> intro h <;> first | (exfalso; omega) | simp (disch := omega) only [go_sem, *] | skip) | (refine callW_of p1 rfl (.inl rfl) ?_) | (refine callW_of p2 rfl (.inl rfl) ?_)

theorem frac_Sub_abs {a b : Fr} (ha : frIn a) (hb : frIn b) : PCalls Tryz.prog n_frac_Sub [aFr a, aFr b] (aFrE (frSub a b)) := by
 refine PCalls.of is_frac_Sub (by simp) fun _ => runW_sound ?_
 obtain ⟨n, d⟩ := a
 obtain ⟨m, k⟩ := b
 have p1 := frac_Valid_abs ha
 have p2 := frac_Valid_abs hb
 simp only [c_frac_Sub]
 by_cases oa : frOk (n, d)
 ·by_cases ob : frOk (m, k)
  ·rw [frSub_eq oa ob]
   obtain ⟨o1, o2, o3, o4, _⟩ := id oa
   obtain ⟨r1, r2, r3, r4, _⟩ := id ob
   simp only at o1 o2 o3 o4 r1 r2 r3 r4
   have q1 := mulM (x := n) (y := k) (by omega) (by omega)
   have q2 := mulM (x := m) (y := d) (by omega) (by omega)
   have q3 := mulM (x := d) (y := k) (by omega) (by omega)
   have q4 := mulM (x := n) (y := m) (by omega) (by omega)
   have q5 := mulM (x := d) (y := m) (by omega) (by omega)
   have p3 := frac_New_abs (n := n * k - m * d) (d := d * k) (by unfold in64; omega) (by unfold in64; omega)
   simp only [oa, decide_true] at p1
   simp only [ob, decide_true] at p2
   simp only
   generalize hx1 : n * k = x1 at *
   generalize hx2 : m * d = x2 at *
   generalize hx3 : d * k = x3 at *
   generalize hx4 : n * m = x4 at *
   generalize hx5 : d * m = x5 at *
   repeat' first | simp (disch := omega) only [go_sem, hx1, hx2, hx3, hx4, hx5, wrap_i64] | ((with_reducible first | refine condD ?_ ?_ | refine condX ?_ ?_ | refine condW_intro ?_ ?_) <;> intro h <;> first | (exfalso; omega) | simp (disch := omega) only [go_sem, *, hx1, hx2, hx3, hx4, hx5, wrap_i64] | skip) | (refine callW_of p1 rfl (.inl rfl) ?_) | (refine callW_of p2 rfl (.inl rfl) ?_) | (refine callW_of p3 rfl (.inl rfl) ?_)
  ·rw [frSub, fr_bad (.inr ob)]
   simp only [oa, decide_true] at p1
   simp only [ob, decide_false] at p2
   repeat' first | simp (disch := omega) only [go_sem] | ((with_reducible first | refine condD ?_ ?_ | refine condX ?_ ?_ | refine condW_intro ?_ ?_) <;> intro h <;> first | (exfalso; omega) | simp (disch := omega) only [go_sem, *] | skip) | (refine callW_of p1 rfl (.inl rfl) ?_) | (refine callW_of p2 rfl (.inl rfl) ?_)
 ·rw [frSub, fr_bad (.inl oa)]
  simp only [oa, decide_false] at p1
  repeat' first | simp (disch := omega) only [go_sem] | ((with_reducible first | refine condD ?_ ?_ | refine condX ?_ ?_ | refine condW_intro ?_ ?_) <;> intro h <;> first | (exfalso; omega) | simp (disch := omega) only [go_sem, *] | skip) | (refine callW_of p1 rfl (.inl rfl) ?_) | (refine callW_of p2 rfl (.inl rfl) ?_)

theorem frac_Mul_abs {a b : Fr} (ha : frIn a) (hb : frIn b) : PCalls Tryz.prog n_frac_Mul [aFr a, aFr b] (aFrE (frMul a b)) := by
 refine PCalls.of is_frac_Mul (by simp) fun _ => runW_sound ?_
 obtain ⟨n, d⟩ := a
 obtain ⟨m, k⟩ := b
 have p1 := frac_Valid_abs ha
 have p2 := frac_Valid_abs hb
 simp only [c_frac_Mul]
 by_cases oa : frOk (n, d)
 ·by_cases ob : frOk (m, k)
  ·rw [frMul_eq oa ob]
   obtain ⟨o1, o2, o3, o4, _⟩ := id oa
   obtain ⟨r1, r2, r3, r4, _⟩ := id ob
   simp only at o1 o2 o3 o4 r1 r2 r3 r4
   have q1 := mulM (x := n) (y := k) (by omega) (by omega)
   have q2 := mulM (x := m) (y := d) (by omega) (by omega)
   have q3 := mulM (x := d) (y := k) (by omega) (by omega)
   have q4 := mulM (x := n) (y := m) (by omega) (by omega)
   have q5 := mulM (x := d) (y := m) (by omega) (by omega)
   have p3 := frac_New_abs (n := n * m) (d := d * k) (by unfold in64; omega) (by unfold in64; omega)
   simp only [oa, decide_true] at p1
   simp only [ob, decide_true] at p2
   simp only
   generalize hx1 : n * k = x1 at *
   generalize hx2 : m * d = x2 at *
   generalize hx3 : d * k = x3 at *
   generalize hx4 : n * m = x4 at *
   generalize hx5 : d * m = x5 at *
   repeat' first | simp (disch := omega) only [go_sem, hx1, hx2, hx3, hx4, hx5, wrap_i64] | ((with_reducible first | refine condD ?_ ?_ | refine condX ?_ ?_ | refine condW_intro ?_ ?_) <;> intro h <;> first | (exfalso; omega) | simp (disch := omega) only [go_sem, *, hx1, hx2, hx3, hx4, hx5, wrap_i64] | skip) | (refine callW_of p1 rfl (.inl rfl) ?_) | (refine callW_of p2 rfl (.inl rfl) ?_) | (refine callW_of p3 rfl (.inl rfl) ?_)
  ·rw [frMul, fr_bad (.inr ob)]
   simp only [oa, decide_true] at p1
   simp only [ob, decide_false] at p2
   repeat' first | simp (disch := omega) only [go_sem] | ((with_reducible first | refine condD ?_ ?_ | refine condX ?_ ?_ | refine condW_intro ?_ ?_) <;> intro h <;> first | (exfalso; omega) | simp (disch := omega) only [go_sem, *] | skip) | (refine callW_of p1 rfl (.inl rfl) ?_) | (refine callW_of p2 rfl (.inl rfl) ?_)
 ·rw [frMul, fr_bad (.inl oa)]
  simp only [oa, decide_false] at p1
  repeat' first | simp (disch := omega) only [go_sem] | ((with_reducible first | refine condD ?_ ?_ | refine condX ?_ ?_ | refine condW_intro ?_ ?_) <;> intro h <;> first | (exfalso; omega) | simp (disch := omega) only [go_sem, *] | skip) | (refine callW_of p1 rfl (.inl rfl) ?_) | (refine callW_of p2 rfl (.inl rfl) ?_)

theorem frac_Div_abs {a b : Fr} (ha : frIn a) (hb : frIn b) : PCalls Tryz.prog n_frac_Div [aFr a, aFr b] (aFrE (frDiv a b)) := by
 refine PCalls.of is_frac_Div (by simp) fun _ => runW_sound ?_
 obtain ⟨n, d⟩ := a
 obtain ⟨m, k⟩ := b
 have p1 := frac_Valid_abs ha
 have p2 := frac_Valid_abs hb
 simp only [c_frac_Div]
 by_cases oa : frOk (n, d)
 ·by_cases ob : frOk (m, k)
  ·rw [frDiv_eq oa ob]
   obtain ⟨o1, o2, o3, o4, _⟩ := id oa
   obtain ⟨r1, r2, r3, r4, _⟩ := id ob
   simp only at o1 o2 o3 o4 r1 r2 r3 r4
   have q1 := mulM (x := n) (y := k) (by omega) (by omega)
   have q2 := mulM (x := m) (y := d) (by omega) (by omega)
   have q3 := mulM (x := d) (y := k) (by omega) (by omega)
   have q4 := mulM (x := n) (y := m) (by omega) (by omega)
   have q5 := mulM (x := d) (y := m) (by omega) (by omega)
   have p3 := frac_New_abs (n := n * k) (d := d * m) (by unfold in64; omega) (by unfold in64; omega)
   simp only [oa, decide_true] at p1
   simp only [ob, decide_true] at p2
   simp only
   generalize hx1 : n * k = x1 at *
   generalize hx2 : m * d = x2 at *
   generalize hx3 : d * k = x3 at *
   generalize hx4 : n * m = x4 at *
   generalize hx5 : d * m = x5 at *
   repeat' first | simp (disch := omega) only [go_sem, hx1, hx2, hx3, hx4, hx5, wrap_i64] | ((with_reducible first | refine condD ?_ ?_ | refine condX ?_ ?_ | refine condW_intro ?_ ?_) <;> intro h <;> first | (exfalso; omega) | simp (disch := omega) only [go_sem, *, hx1, hx2, hx3, hx4, hx5, wrap_i64] | skip) | (refine callW_of p1 rfl (.inl rfl) ?_) | (refine callW_of p2 rfl (.inl rfl) ?_) | (refine callW_of p3 rfl (.inl rfl) ?_)
  ·rw [frDiv_bad (.inr ob)]
   simp only [oa, decide_true] at p1
   simp only [ob, decide_false] at p2
   repeat' first | simp (disch := omega) only [go_sem] | ((with_reducible first | refine condD ?_ ?_ | refine condX ?_ ?_ | refine condW_intro ?_ ?_) <;> intro h <;> first | (exfalso; omega) | simp (disch := omega) only [go_sem, *] | skip) | (refine callW_of p1 rfl (.inl rfl) ?_) | (refine callW_of p2 rfl (.inl rfl) ?_)
 ·rw [frDiv_bad (.inl oa)]
  simp only [oa, decide_false] at p1
  repeat' first | simp (disch := omega) only [go_sem] | ((with_reducible first | refine condD ?_ ?_ | refine condX ?_ ?_ | refine condW_intro ?_ ?_) <;> intro h <;> first | (exfalso; omega) | simp (disch := omega) only [go_sem, *] | skip) | (refine callW_of p1 rfl (.inl rfl) ?_) | (refine callW_of p2 rfl (.inl rfl) ?_)

end Go.Proofs.YtfjnhdfhgenkdaaGreatDoor
