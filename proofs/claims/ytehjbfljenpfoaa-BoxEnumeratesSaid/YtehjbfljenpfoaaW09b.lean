/- The walks of box.Count and its reference. -/
import Derived.Test.YtehjbfljenpfoaaW09a
set_option linter.unusedVariables false
set_option linter.unusedSimpArgs false
namespace Go.Proofs.Ytehjbfljenpfoaa
open Go.RowKit

set_option maxHeartbeats 2000000 in
theorem box_Count {v : Value} {xs : List Int} {w : World} (hv : IsInts w v xs) :
  Calls Try.prog 13 #[v] w fun e w' => e = .returned (.int .i64 (bcount xs)) ∧ w = w' := by
 obtain ⟨a, n, c, HN, hnc, rfl, h⟩ := hv.open
 have hix := idx_ints h n c HN
 have hl := h.len
 have HC : Hid (∀ k, k < n → w.cell? (adr a k) = some (.int .i64 (xs[k]?.getD 0))) := by have := h.cell; rw [← HN.out] at this; exact this
 rw [← HN.out] at hl
 by_cases h0 : bval xs = 0
 ·have H0 := Lib.hid h0
  have HS : Hid (bcount xs = prod xs) := bcount_ok h0
  have hb := boxOk_of h0
  go_enter Try.func13, Try.ntmps13
  go_wp2_with (go_at_call 18; refine (box_Validate hv).mono ?_; rintro e w' ⟨rfl, rfl⟩)
  go_loop [13] (fun i => ∃ (k : Nat), k ≤ n ∧ i = .int .i64 k ∧ Hid (∀ j, j < k → ¬ xs[j]?.getD 0 = 0)) (fun i => n - (intOf i).toNat)
  case atStart => exact ⟨0, Nat.zero_le _, rfl, fun j hj => by omega⟩
  case round =>
   obtain ⟨k, hk, rfl, hnz⟩ := hrel
   by_cases hkn : k < n
   ·have Hk : Hid (k < xs.length) := by show _ < _; rw [← HN.out]; exact hkn
    have hcell := HC.out k hkn
    by_cases hx0 : xs[k]?.getD 0 = 0
    ·have hx1 : (xs[k]?.getD 0 == 0) = true := by rw [hx0]; rfl
     have HZ : Hid (bcount xs = 0) := by rw [Hid, HS.out, prod_zero (hasZ_get Hk.out hx0)]
     go_wp2
     go_ret
     exact ⟨ret_int HZ.out.symm, rfl⟩
    ·have HX := Lib.hid hx0
     have hx1 : (xs[k]?.getD 0 == 0) = false := beq_eq_false_iff_ne.2 hx0
     go_wp2
     go_round
     case rel => exact ⟨k + 1, by omega, by go_num, fun j hj => by
      by_cases e : j = k
      ·subst e; exact HX.out
      ·exact hnz.out j (by omega)⟩
     case measure => simp [intOf]; omega
   ·have hp := hb.bound (noZ_of_get HN.out fun j hj => hnz.out j (by omega))
    go_wp2
    clear hnz
    go_loop [22, 3] (fun i s => ∃ (k : Nat) (z : Int), k ≤ n ∧ i = .int .i64 k ∧ s = .int .i64 z ∧ Hid (z = prod (xs.take k))) (fun i _ => n - (intOf i).toNat)
    case atStart => exact ⟨0, 1, Nat.zero_le _, rfl, rfl, rfl⟩
    case round =>
     obtain ⟨k, z, hk, rfl, rfl, hz⟩ := hrel
     by_cases hkn : k < n
     ·have hcell := HC.out k hkn
      have hz' : z * xs[k]?.getD 0 = prod (xs.take (k + 1)) := by rw [prod_take_succ (by rw [← HN.out]; exact hkn), hz.out]
      have hb := hp.take_le (k + 1)
      rw [← hz'] at hb
      have Hz := Lib.hid hz'
      clear hz'
      obtain ⟨hb1, hb2⟩ := hb
      go_wp2
      go_round
      case rel => exact ⟨k + 1, _, by omega, by go_num, rfl, Hz⟩
      case measure => simp [intOf]; omega
     ·go_wp2
      go_ret
      exact ⟨ret_int (by rw [HS.out, hz.out, List.take_of_length_le (by rw [← HN.out]; omega)]), rfl⟩
 ·have HS : Hid (_ = _) := bcount_bad h0
  go_enter Try.func13, Try.ntmps13
  go_wp2_with (go_at_call 18; refine (box_Validate hv).mono ?_; rintro e w' ⟨rfl, rfl⟩)
  go_ret
  exact ⟨ret_int HS.out.symm, rfl⟩

set_option maxHeartbeats 2000000 in
theorem ref09_Count {v : Value} {xs : List Int} {w : World} (hv : IsInts w v xs) :
  Calls Try.prog 4 #[v] w fun e w' => e = .returned (.int .i64 (bcount xs)) ∧ Ext w w' := by
 obtain ⟨a, n, c, HN, hnc, rfl, h⟩ := hv.open
 have hix := idx_ints h n c HN
 have hl := h.len
 rw [← HN.out] at hl
 by_cases h0 : bval xs = 0
 ·have H0 := Lib.hid h0
  have HS : Hid (bcount xs = prod xs) := bcount_ok h0
  have hb := boxOk_of h0
  go_enter Try.func4, Try.ntmps4
  go_wp2_with fail
  refine (ref09_Validate hv).mono ?_
  rintro e w1 ⟨rfl, hx1⟩
  have HC : Hid (∀ k, k < n → w1.cell? (adr a k) = some (.int .i64 (xs[k]?.getD 0))) := fun k hk => (h.ext hx1).cell k (by rw [← HN.out]; exact hk)
  go_wp2
  by_cases hz : hasZ xs = true
  ·have HZ : Hid (bcount xs = 0) := by rw [Hid, HS.out, prod_zero hz]
   have HH := Lib.hid hz
   clear hz
   go_loop [4, 3] (fun i s => ∃ (k : Nat) (z : Int), k ≤ n ∧ i = .int .i64 k ∧ s = .int .i64 z ∧ Hid (∀ j, j < k → ¬ xs[j]?.getD 0 = 0)) (fun i _ => n - (intOf i).toNat)
   case atStart => exact ⟨0, 1, Nat.zero_le _, rfl, rfl, fun j hj => by omega⟩
   case round =>
    obtain ⟨k, z, hk, rfl, rfl, hnz⟩ := hrel
    by_cases hkn : k < n
    ·have hcell := HC.out k hkn
     by_cases hx0 : xs[k]?.getD 0 = 0
     ·have hx1 : (xs[k]?.getD 0 == 0) = true := by rw [hx0]; rfl
      go_wp2
      go_ret
      exact ⟨ret_int HZ.out.symm, ‹Ext w w1›⟩
     ·have HX := Lib.hid hx0
      have hx1 : (xs[k]?.getD 0 == 0) = false := beq_eq_false_iff_ne.2 hx0
      go_wp2
      go_round
      case rel => exact ⟨k + 1, _, by omega, by go_num, rfl, fun j hj => by
       by_cases e : j = k
       ·subst e; exact HX.out
       ·exact hnz.out j (by omega)⟩
      case measure => simp [intOf]; omega
    ·have := noZ_of_get HN.out fun j hj => hnz.out j (by omega)
     rw [HH.out] at this
     exact absurd this (by decide)
  ·have hp := hb.bound (by simpa using hz)
   have HP := hp.pos
   clear hz
   go_loop [4, 3] (fun i s => ∃ (k : Nat) (z : Int), k ≤ n ∧ i = .int .i64 k ∧ s = .int .i64 z ∧ Hid (z = prod (xs.take k))) (fun i _ => n - (intOf i).toNat)
   case atStart => exact ⟨0, 1, Nat.zero_le _, rfl, rfl, rfl⟩
   case round =>
    obtain ⟨k, z, hk, rfl, rfl, hz⟩ := hrel
    by_cases hkn : k < n
    ·have hcell := HC.out k hkn
     have hp1 := (hp.get (show k < xs.length by rw [← HN.out]; exact hkn)).1
     have hx1 : (xs[k]?.getD 0 == 0) = false := beq_eq_false_iff_ne.2 (by omega)
     have hz' : z * xs[k]?.getD 0 = prod (xs.take (k + 1)) := by rw [prod_take_succ (by rw [← HN.out]; exact hkn), hz.out]
     have hb := hp.take_le (k + 1)
     rw [← hz'] at hb
     have Hz := Lib.hid hz'
     clear hz'
     obtain ⟨hb1, hb2⟩ := hb
     go_wp2
     go_round
     case rel => exact ⟨k + 1, _, by omega, by go_num, rfl, Hz⟩
     case measure => simp [intOf]; omega
    ·go_wp2
     go_ret
     exact ⟨ret_int (by rw [HS.out, hz.out, List.take_of_length_le (by rw [← HN.out]; omega)]), ‹Ext w w1›⟩
 ·have HS : Hid (_ = _) := bcount_bad h0
  go_enter Try.func4, Try.ntmps4
  go_wp2_with (go_at_call 9; refine (ref09_Validate hv).mono ?_; rintro e w' ⟨rfl, hx1⟩)
  go_ret
  exact ⟨ret_int HS.out.symm, hx1⟩
end Go.Proofs.Ytehjbfljenpfoaa
