/- Walks by the abstract machine: fractions: the reference. -/
import Derived.Test.YtfjnhdfhgenkdaaGreatDoorV01a
set_option linter.unusedVariables false
set_option linter.unusedSimpArgs false
set_option maxRecDepth 20000
namespace Go.Proofs.YtfjnhdfhgenkdaaGreatDoor
open Go.Abs Go.RowKit

theorem frac_order_abs (a b : Int) : PCalls Tryz.prog n_frac_order [I a, I b] (I (cmpI a b)) := by
 refine PCalls.of is_frac_order (by simp) fun _ => runW_sound ?_
 simp only [c_frac_order]
 repeat' first | simp (disch := omega) only [go_sem] | ((with_reducible first | refine condD ?_ ?_ | refine condX ?_ ?_ | refine condW_intro ?_ ?_) <;> intro h <;> first | (exfalso; omega) | simp (disch := omega) only [go_sem, *] | skip)
 all_goals simp [cmpI, *]
theorem frac_Neg_abs {a : Fr} (ha : frIn a) : PCalls Tryz.prog n_frac_Neg [aFr a] (aFr (frNeg a)) := by
 refine PCalls.of is_frac_Neg (by simp) fun _ => runW_sound ?_
 obtain ⟨n, d⟩ := a
 have p1 := frac_Valid_abs ha
 simp only [c_frac_Neg]
 by_cases oa : frOk (n, d)
 ·rw [frNeg, if_pos oa]
  obtain ⟨o1, o2, o3, o4, _⟩ := id oa
  simp only at o1 o2 o3 o4
  simp only [oa, decide_true] at p1
  repeat' first | simp (disch := omega) only [go_sem, wrap_i64, Int.zero_sub] | ((with_reducible first | refine condD ?_ ?_ | refine condX ?_ ?_ | refine condW_intro ?_ ?_) <;> intro h <;> first | (exfalso; omega) | simp (disch := omega) only [go_sem, *, wrap_i64, Int.zero_sub] | skip) | (refine callW_of p1 rfl (.inl rfl) ?_)
 ·rw [frNeg, if_neg oa]
  simp only [oa, decide_false] at p1
  repeat' first | simp (disch := omega) only [go_sem] | ((with_reducible first | refine condD ?_ ?_ | refine condX ?_ ?_ | refine condW_intro ?_ ?_) <;> intro h <;> first | (exfalso; omega) | simp (disch := omega) only [go_sem, *] | skip) | (refine callW_of p1 rfl (.inl rfl) ?_)
/-- The type of fractions. -/
abbrev aFrac : AV := .agg [.pure (pI 1), .pure (pI 0), .pure (pI 0), .pure (pI 0), .pure (pI 0)]
theorem base_gcd_abs (a b : Nat) : PCalls Tryz.prog n_base_gcd [I a, I b] (I (Nat.gcd a b)) := by
 refine PCalls.of is_base_gcd (by simp) fun _ => runW_sound ?_
 obtain ⟨R, hR⟩ : ∃ R, R = Nat.gcd a b := ⟨_, rfl⟩
 rw [← hR]
 simp only [c_base_gcd]
 repeat' first | simp (disch := omega) only [go_sem] | ((with_reducible first | refine condD ?_ ?_ | refine condX ?_ ?_ | refine condW_intro ?_ ?_) <;> intro h <;> first | (exfalso; omega) | simp (disch := omega) only [go_sem, *] | skip)
 refine AW_loop (fun s : Nat × Nat => ⟨[(0, I s.1), (1, I s.2)], [], 0, 0⟩) (fun s => Hid (R = Nat.gcd s.1 s.2)) (fun s => s.2) ⟨(a, b), [], Lib.hid hR, by simp [Wk, wkF, wkM, wkL, look_cons, renV, renA, renC, renB, rn, clV, clA, clAs, clB, notIn, findB, findB_setB, clA.go]⟩ ?_
 clear hR
 rintro ⟨x, y⟩ HR
 refine runW_sound ?_
 by_cases h0 : y = 0
 ·have h1 := HR.out
  simp only [h0, Nat.gcd_zero_right] at h1
  subst h0
  subst h1
  repeat' first | simp (disch := omega) only [go_sem, Int.natCast_zero] | ((with_reducible first | refine condD ?_ ?_ | refine condX ?_ ?_ | refine condW_intro ?_ ?_) <;> intro h <;> first | (exfalso; omega) | simp (disch := omega) only [go_sem, *, Int.natCast_zero] | skip)
 ·have h1 : (y : Int) ≠ 0 := by omega
  repeat' first | simp (disch := omega) only [go_sem, h1, ne_eq, tmod_nat] | ((with_reducible first | refine condD ?_ ?_ | refine condX ?_ ?_ | refine condW_intro ?_ ?_) <;> intro h <;> first | (exfalso; omega) | simp (disch := omega) only [go_sem, *, h1, ne_eq, tmod_nat] | skip)
  exact ⟨(y, x % y), [], Lib.hid (by rw [HR.out]; simp only; rw [Nat.gcd_comm, Nat.gcd_rec, Nat.gcd_comm]), Nat.mod_lt _ (by omega), by simp [Wk, wkF, wkM, wkL, look_cons, renV, renA, renC, renB, rn, clV, clA, clAs, clB, notIn, findB, findB_setB, clA.go]⟩
theorem base_Val_abs {a : Fr} (ha : frIn a) : PCalls Tryz.prog n_base_Val [aFrac, aFr a] (Go.Abs.B (decide (frOk a))) := by
 refine PCalls.of is_base_Val (by simp) fun _ => runW_sound ?_
 obtain ⟨n, d⟩ := a
 obtain ⟨⟨ha1, ha2⟩, ha3, ha4⟩ := ha
 simp only at ha1 ha2 ha3 ha4
 simp only [c_base_Val]
 by_cases h1 : 1 ≤ d
 ·by_cases h2 : d ≤ 2147483647
  ·by_cases h3 : -2147483647 ≤ n ∧ n ≤ 2147483647
   ·have e : max n (0 - n) = (n.natAbs : Int) := by omega
    have e2 : d = (d.natAbs : Int) := by omega
    have p2 := base_gcd_abs n.natAbs d.natAbs
    rw [← e2] at p2
    clear e2
    repeat' first | simp (disch := omega) only [go_sem, e, wrap_i64, ↓reduceIte] | ((with_reducible first | refine condD ?_ ?_ | refine condX ?_ ?_ | refine condW_intro ?_ ?_) <;> intro h <;> first | (exfalso; omega) | simp (disch := omega) only [go_sem, *, e, wrap_i64, ↓reduceIte] | skip) | (refine callW_of p2 rfl (.inl rfl) ?_)
    rw [show decide (((n.natAbs.gcd d.natAbs : Nat) : Int) = 1) = decide (frOk (n, d)) by rw [decide_eq_decide]; simp only [frOk]; omega]
   ·repeat' first | simp (disch := omega) only [go_sem] | ((with_reducible first | refine condD ?_ ?_ | refine condX ?_ ?_ | refine condW_intro ?_ ?_) <;> intro h <;> first | (exfalso; omega) | simp (disch := omega) only [go_sem, *] | skip)
    all_goals (rw [decide_eq_false]; simp only [frOk]; omega)
  ·repeat' first | simp (disch := omega) only [go_sem] | ((with_reducible first | refine condD ?_ ?_ | refine condX ?_ ?_ | refine condW_intro ?_ ?_) <;> intro h <;> first | (exfalso; omega) | simp (disch := omega) only [go_sem, *] | skip)
   all_goals (rw [decide_eq_false]; simp only [frOk]; omega)
 ·repeat' first | simp (disch := omega) only [go_sem] | ((with_reducible first | refine condD ?_ ?_ | refine condX ?_ ?_ | refine condW_intro ?_ ?_) <;> intro h <;> first | (exfalso; omega) | simp (disch := omega) only [go_sem, *] | skip)
  all_goals (rw [decide_eq_false]; simp only [frOk]; omega)
theorem base_Type_abs : PCalls Tryz.prog n_base_Type [aFrac] (Go.Abs.B true) := by
 refine PCalls.of is_base_Type (by simp) fun _ => runW_sound ?_
 simp only [c_base_Type]
 repeat' first | simp (disch := omega) only [go_sem] | ((with_reducible first | refine condD ?_ ?_ | refine condX ?_ ?_ | refine condW_intro ?_ ?_) <;> intro h <;> first | (exfalso; omega) | simp (disch := omega) only [go_sem, *] | skip)
/-- The order of valid fractions. -/
theorem frac_Compare_abs {a b : Fr} (ha : frOk a) (hb : frOk b) : PCalls Tryz.prog n_frac_Compare [aFr a, aFr b] (I (frCmp a b)) := by
 refine PCalls.of is_frac_Compare (by simp) fun _ => runW_sound ?_
 obtain ⟨n, d⟩ := a
 obtain ⟨m, k⟩ := b
 rw [frCmp, if_pos ⟨ha, hb⟩]
 have p1 := frac_Valid_abs (frOk_in ha)
 have p2 := frac_Valid_abs (frOk_in hb)
 obtain ⟨o1, o2, o3, o4, _⟩ := id ha
 obtain ⟨r1, r2, r3, r4, _⟩ := id hb
 simp only at o1 o2 o3 o4 r1 r2 r3 r4
 have q1 := mulM (x := n) (y := k) (by omega) (by omega)
 have q2 := mulM (x := m) (y := d) (by omega) (by omega)
 have p3 := frac_order_abs (n * k) (m * d)
 simp only [ha, decide_true] at p1
 simp only [hb, decide_true] at p2
 simp only [c_frac_Compare]
 generalize hx1 : n * k = x1 at *
 generalize hx2 : m * d = x2 at *
 repeat' first | simp (disch := omega) only [go_sem, hx1, hx2, wrap_i64] | ((with_reducible first | refine condD ?_ ?_ | refine condX ?_ ?_ | refine condW_intro ?_ ?_) <;> intro h <;> first | (exfalso; omega) | simp (disch := omega) only [go_sem, *, hx1, hx2, wrap_i64] | skip) | (refine callW_of p1 rfl (.inl rfl) ?_) | (refine callW_of p2 rfl (.inl rfl) ?_) | (refine callW_of p3 rfl (.inl rfl) ?_)

end Go.Proofs.YtfjnhdfhgenkdaaGreatDoor
