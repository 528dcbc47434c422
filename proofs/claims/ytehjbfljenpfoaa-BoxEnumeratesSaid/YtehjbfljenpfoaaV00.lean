/- Numbers of 64 bits; what holds up to a number. -/
import Derived.Test.YtehjbfljenpfoaaCodes
set_option linter.unusedVariables false
set_option linter.unusedSimpArgs false
set_option maxRecDepth 20000
namespace Go.Proofs.Ytehjbfljenpfoaa
open Go.Abs Go.RowKit

attribute [simp] Wk wkF wkM wkL look_cons renV renA renC renB rn clV clA clAs clB notIn findB findB_setB clA.go
attribute [go_sem_proc ↓] reduceIte
attribute [go_sem_proc] Nat.reduceEqDiff reduceCtorEq Int.reduceEq

def in64 (x : Int) : Prop := -9223372036854775808 ≤ x ∧ x ≤ 9223372036854775807
instance (x : Int) : Decidable (in64 x) := by unfold in64; infer_instance
def ok64 (x : Int) : Int × Bool := if in64 x then (x, true) else (0, false)
abbrev U (n : Int) : AV := .c (.pure (.val (.int .u64 n)))
abbrev aOk (x : Int × Bool) : AV := .tup [I x.1, Go.Abs.B x.2]
theorem ok64_in {x : Int} (h : in64 x) : ok64 x = (x, true) := if_pos h
theorem ok64_out {x : Int} (h : ¬ in64 x) : ok64 x = (0, false) := if_neg h

theorem wrap_mul {a b : Int} (ha : in64 a) (hb : in64 b) (h0 : b ≠ 0) (hm : ¬ (b = -1 ∧ a = -9223372036854775808)) : (IntKind.wrap .i64 (a * b)).tdiv b = a ↔ in64 (a * b) := by
 obtain ⟨ha1, ha2⟩ := ha
 obtain ⟨hb1, hb2⟩ := hb
 constructor
 ·intro h
  rw [IntKind.wrap_i64] at h
  generalize hw : (a * b + 9223372036854775808) % 18446744073709551616 - 9223372036854775808 = w at h
  have hb1' : in64 w := by unfold in64; omega
  have key := Int.tmod_def w b
  have hr1 : (w.tmod b).natAbs < b.natAbs := by rw [Int.natAbs_tmod]; exact Nat.mod_lt _ (by omega)
  rw [h] at key
  -- w = b * a + r, r small: w and a * b differ by less than 2 ^ 63, and are equal modulo 2 ^ 64
  generalize hr : w.tmod b = r at key hr1
  have hr2 : r.natAbs < 9223372036854775808 := by omega
  have e : a * b = b * a := Int.mul_comm a b
  generalize hp : b * a = p at key e
  rw [e] at hw ⊢
  have : r = 0 := by omega
  unfold in64 at hb1' ⊢
  omega
 ·intro h
  rw [wrap_i64 h, Int.mul_tdiv_cancel a h0]

theorem wrap_mul2 {a b : Int} (ha : in64 a) (hb : in64 b) (h0 : b ≠ 0) (hm : ¬ (b = -1 ∧ a = -9223372036854775808)) : IntKind.wrap .i64 ((IntKind.wrap .i64 (a * b)).tdiv b) = a ↔ in64 (a * b) := by
 rw [wrap_i64, wrap_mul ha hb h0 hm]
 have hw : in64 (IntKind.wrap .i64 (a * b)) := by rw [IntKind.wrap_i64]; unfold in64; omega
 have hne : ¬ (b = -1 ∧ IntKind.wrap .i64 (a * b) = -9223372036854775808) := by
  rintro ⟨rfl, h⟩
  rw [IntKind.wrap_i64] at h
  unfold in64 at ha
  omega
 generalize IntKind.wrap .i64 (a * b) = x at hw hne
 unfold in64 at hw
 have h2 : (x.tdiv b).natAbs ≤ x.natAbs := by rw [Int.natAbs_tdiv]; exact Nat.div_le_self _ _
 by_cases e : x = -9223372036854775808
 ·by_cases e1 : b = 1
  ·subst e1; simp; omega
  ·have h3 : 2 ≤ b.natAbs := by omega
   have h4 : (x.tdiv b).natAbs ≤ x.natAbs / 2 := by rw [Int.natAbs_tdiv]; exact Nat.div_le_div_left h3 (by omega)
   omega
 ·omega

abbrev aStrs (xs : List ByteArray) : AV := aSl (fun s => [pS s]) xs
def upTo (p : Nat → Prop) (k : Nat) : Prop := ∀ j, j < k → p j
theorem upTo.zero {p : Nat → Prop} : upTo p 0 := fun j h => by omega
theorem upTo.succ {p : Nat → Prop} {k : Nat} (h : upTo p k) (hk : p k) : upTo p (k + 1) := fun j hj => by
 by_cases e : j = k
 ·rw [e]; exact hk
 ·exact h j (by omega)

end Go.Proofs.Ytehjbfljenpfoaa
