/- Plain laws: fractions as rational numbers. -/
import Derived.Test.YtbblkakcadonjaaGreatDoorIn0
import Derived.Lib.Hide
set_option linter.unusedVariables false
set_option linter.unusedSimpArgs false
namespace Go.Proofs.YtbblkakcadonjaaGreatDoor

abbrev Fr := Int × Int
def frOk (a : Fr) : Prop := 1 ≤ a.2 ∧ a.2 ≤ 2147483647 ∧ -2147483647 ≤ a.1 ∧ a.1 ≤ 2147483647 ∧ Nat.gcd a.1.natAbs a.2.natAbs = 1
def frFits (r : Rat) : Prop := r.num.natAbs ≤ 2147483647 ∧ r.den ≤ 2147483647
noncomputable instance (a : Fr) : Decidable (frOk a) := Classical.propDecidable _
noncomputable instance (r : Rat) : Decidable (frFits r) := Classical.propDecidable _
def frIn (a : Fr) : Prop := in64 a.1 ∧ in64 a.2
end Go.Proofs.YtbblkakcadonjaaGreatDoor
set_option linter.unusedVariables false
set_option linter.unusedSimpArgs false
set_option maxRecDepth 20000
set_option maxHeartbeats 4000000
set_option maxRecDepth 1000000
namespace Go.Proofs.YtbblkakcadonjaaGreatDoor
open Go.Abs Go.RowKit

abbrev aFr (a : Fr) : AV := .agg [.pure (pI a.1), .pure (pI a.2)]
theorem tmod_nat (x y : Nat) : Int.tmod (x : Int) (y : Int) = ((x % y : Nat) : Int) := (Int.ofNat_tmod x y).symm
theorem frac_gcd_abs (a b : Nat) : PCalls Tryz.prog n_frac_gcd [U a, U b] (U (Nat.gcd a b)) := by
 refine PCalls.of is_frac_gcd (by simp) fun _ => runW_sound ?_
 obtain ⟨R, hR⟩ : ∃ R, R = Nat.gcd a b := ⟨_, rfl⟩
 rw [← hR]
 conv in c_frac_gcd => cbv
 repeat' first | simp (disch := omega) only [go_sem] | ((with_reducible refine condT ?_ ?_) <;> intro h <;> try first | omega | simp (disch := omega) only [go_sem, *])
 refine AW_loop (fun s : Nat × Nat => ⟨[(0, U s.1), (1, U s.2)], [], 0, 0⟩) (fun s => Hid (R = Nat.gcd s.1 s.2)) (fun s => s.2) ⟨(a, b), [], Lib.hid hR, by simp⟩ ?_
 clear hR
 rintro ⟨x, y⟩ HR
 refine runW_sound ?_
 by_cases h0 : y = 0
 ·have h1 := HR.out
  simp only [h0, Nat.gcd_zero_right] at h1
  subst h0
  subst h1
  repeat' first | simp (disch := omega) only [go_sem, Int.natCast_zero] | ((with_reducible refine condT ?_ ?_) <;> intro h <;> try first | omega | simp (disch := omega) only [go_sem, *, Int.natCast_zero])
 ·have h1 : (y : Int) ≠ 0 := by omega
  repeat' first | simp (disch := omega) only [go_sem, h1, ne_eq, tmod_nat] | ((with_reducible refine condT ?_ ?_) <;> intro h <;> try first | omega | simp (disch := omega) only [go_sem, *, h1, ne_eq, tmod_nat])
  exact ⟨(y, x % y), [], Lib.hid (by rw [HR.out]; simp only; rw [Nat.gcd_comm, Nat.gcd_rec, Nat.gcd_comm]), Nat.mod_lt _ (by omega), by simp⟩
theorem frac_magnitude_abs {n : Int} (hn : in64 n) : PCalls Tryz.prog n_frac_magnitude [I n] (U n.natAbs) := by
 refine PCalls.of is_frac_magnitude (by simp) fun _ => runW_sound ?_
 obtain ⟨h1, h2⟩ := hn
 conv in c_frac_magnitude => cbv
 by_cases h0 : n < 0
 ·have e1 : IntKind.wrap .u64 n = n + 18446744073709551616 := by rw [IntKind.wrap_u64]; omega
  have e2 : IntKind.wrap .u64 (0 - (n + 18446744073709551616)) = n.natAbs := by rw [IntKind.wrap_u64]; omega
  repeat' first | simp (disch := omega) only [go_sem, e1, e2] | ((with_reducible refine condT ?_ ?_) <;> intro h <;> try first | omega | simp (disch := omega) only [go_sem, *, e1, e2])
 ·have e2 : IntKind.wrap .u64 n = n.natAbs := by rw [IntKind.wrap_u64]; omega
  repeat' first | simp (disch := omega) only [go_sem, e2] | ((with_reducible refine condT ?_ ?_) <;> intro h <;> try first | omega | simp (disch := omega) only [go_sem, *, e2])

theorem frac_inRange_abs (n : Int) : PCalls Tryz.prog n_frac_inRange [I n] (Go.Abs.B (decide (-2147483647 ≤ n ∧ n ≤ 2147483647))) := by
 refine PCalls.of is_frac_inRange (by simp) fun _ => runW_sound ?_
 conv in c_frac_inRange => cbv
 repeat' first | simp (disch := omega) only [go_sem] | ((with_reducible refine condT ?_ ?_) <;> intro h <;> try first | omega | simp (disch := omega) only [go_sem, *])
 all_goals (simp <;> omega)

theorem frac_Valid_abs {a : Fr} (ha : frIn a) : PCalls Tryz.prog n_frac_Valid [aFr a] (Go.Abs.B (decide (frOk a))) := by
 refine PCalls.of is_frac_Valid (by simp) fun _ => runW_sound ?_
 obtain ⟨n, d⟩ := a
 have p1 := frac_magnitude_abs ha.1
 have p2 := frac_gcd_abs n.natAbs d.natAbs
 simp only at p1
 conv in c_frac_Valid => cbv
 by_cases h1 : 1 ≤ d
 ·by_cases h2 : d ≤ 2147483647
  ·have e : IntKind.wrap .u64 d = d.natAbs := by rw [IntKind.wrap_u64]; omega
   by_cases h3 : -2147483647 ≤ n ∧ n ≤ 2147483647
   ·repeat' first | simp (disch := omega) only [go_sem, e, h3] | ((with_reducible refine condT ?_ ?_) <;> intro h <;> try first | omega | simp (disch := omega) only [go_sem, *, e, h3]) | (refine callW_of (frac_inRange_abs _) rfl (.inl rfl) ?_) | (refine callW_of p1 rfl (.inl rfl) ?_) | (refine callW_of p2 rfl (.inl rfl) ?_)
    rw [show decide (((n.natAbs.gcd d.natAbs : Nat) : Int) = 1) = decide (frOk (n, d)) by rw [decide_eq_decide]; simp only [frOk]; omega]
   ·repeat' first | simp (disch := omega) only [go_sem, e, h3] | ((with_reducible refine condT ?_ ?_) <;> intro h <;> try first | omega | simp (disch := omega) only [go_sem, *, e, h3]) | (refine callW_of (frac_inRange_abs _) rfl (.inl rfl) ?_) | (refine callW_of p1 rfl (.inl rfl) ?_) | (refine callW_of p2 rfl (.inl rfl) ?_)
    rw [decide_eq_false]
    simp only [frOk]
    omega
  ·repeat' first | simp (disch := omega) only [go_sem] | ((with_reducible refine condT ?_ ?_) <;> intro h <;> try first | omega | simp (disch := omega) only [go_sem, *])
   rw [decide_eq_false]
   simp only [frOk]
   omega
 ·repeat' first | simp (disch := omega) only [go_sem] | ((with_reducible refine condT ?_ ?_) <;> intro h <;> try first | omega | simp (disch := omega) only [go_sem, *])
  rw [decide_eq_false]
  simp only [frOk]
  omega

end Go.Proofs.YtbblkakcadonjaaGreatDoor
set_option linter.unusedVariables false
set_option linter.unusedSimpArgs false
set_option maxRecDepth 20000
set_option maxHeartbeats 4000000
set_option maxRecDepth 1000000
namespace Go.Proofs.YtbblkakcadonjaaGreatDoor
open Go.Abs Go.RowKit

theorem base_gcd_abs (a b : Nat) : PCalls Tryz.prog n_base_gcd [I a, I b] (I (Nat.gcd a b)) := by
 refine PCalls.of is_base_gcd (by simp) fun _ => runW_sound ?_
 obtain ⟨R, hR⟩ : ∃ R, R = Nat.gcd a b := ⟨_, rfl⟩
 rw [← hR]
 conv in c_base_gcd => cbv
 repeat' first | simp (disch := omega) only [go_sem] | ((with_reducible refine condT ?_ ?_) <;> intro h <;> try first | omega | simp (disch := omega) only [go_sem, *])
 refine AW_loop (fun s : Nat × Nat => ⟨[(0, I s.1), (1, I s.2)], [], 0, 0⟩) (fun s => Hid (R = Nat.gcd s.1 s.2)) (fun s => s.2) ⟨(a, b), [], Lib.hid hR, by simp⟩ ?_
 clear hR
 rintro ⟨x, y⟩ HR
 refine runW_sound ?_
 by_cases h0 : y = 0
 ·have h1 := HR.out
  simp only [h0, Nat.gcd_zero_right] at h1
  subst h0
  subst h1
  repeat' first | simp (disch := omega) only [go_sem, Int.natCast_zero] | ((with_reducible refine condT ?_ ?_) <;> intro h <;> try first | omega | simp (disch := omega) only [go_sem, *, Int.natCast_zero])
 ·have h1 : (y : Int) ≠ 0 := by omega
  repeat' first | simp (disch := omega) only [go_sem, h1, ne_eq, tmod_nat] | ((with_reducible refine condT ?_ ?_) <;> intro h <;> try first | omega | simp (disch := omega) only [go_sem, *, h1, ne_eq, tmod_nat])
  exact ⟨(y, x % y), [], Lib.hid (by rw [HR.out]; simp only; rw [Nat.gcd_comm, Nat.gcd_rec, Nat.gcd_comm]), Nat.mod_lt _ (by omega), by simp⟩
end Go.Proofs.YtbblkakcadonjaaGreatDoor
