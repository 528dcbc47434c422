/- The walks of shape.Validate, Size, Strides and of their references. -/
import Derived.Test.YtcnbccmmhcoanaaCommon
import Derived.Test.YtcnbccmmhcoanaaPlain11
set_option linter.unusedVariables false
set_option linter.unusedSimpArgs false
namespace Go.Proofs.Ytcnbccmmhcoanaa
open Go.RowKit

set_option maxHeartbeats 1000000 in
theorem shape_Validate {v : Value} {xs : List Int} {w : World} (hv : IsInts w v xs) :
  Calls Try.prog 49 #[v] w fun e w' => e = .returned (.int .i64 (vld xs)) ∧ w = w' := by
 obtain ⟨a, n, c, HN, hnc, rfl, h⟩ := hv.open
 have hix := idx_ints h n c HN
 have hl := h.len
 have HC : Hid (∀ k, k < n → w.cell? (adr a k) = some (.int .i64 (xs[k]?.getD 0))) := by have := h.cell; rw [← HN.out] at this; exact this
 rw [← HN.out] at hl
 clear h
 by_cases h6 : 6 < n
 ·go_enter Try.func49, Try.ntmps49
  go_wp2
  go_ret
  exact ⟨ret_int (vld_big (by rw [← HN.out]; exact h6)).symm, rfl⟩
 ·go_enter Try.func49, Try.ntmps49
  go_wp2
  go_loop [13] (fun i => ∃ k : Nat, k ≤ n ∧ i = .int .i64 k ∧ Hid (∀ j, j < k → 1 ≤ xs[j]?.getD 0)) (fun i => n - (intOf i).toNat)
  case atStart => exact ⟨0, Nat.zero_le _, rfl, fun j hj => by omega⟩
  case round =>
   obtain ⟨k, hk, rfl, hpos⟩ := hrel
   have hcell : k < n → w.cell? (adr a k) = some (.int .i64 (xs[k]?.getD 0)) := HC.out k
   by_cases hkn : k < n
   ·by_cases h1 : xs[k]?.getD 0 < 1
    ·go_wp2
     go_ret
     exact ⟨ret_int (vld_low (by rw [← HN.out]; exact h6) (by rw [← HN.out]; exact hkn) h1).symm, rfl⟩
    ·go_wp2
     go_round
     case rel => exact ⟨k + 1, by omega, by go_num, fun j hj => by
      by_cases e : j = k
      ·subst e; omega
      ·exact hpos.out j (by omega)⟩
     case measure => simp [intOf]; omega
   ·go_wp2
    have hall : Hid (∀ x ∈ xs, 1 ≤ x) := all_of_get HN.out fun j hj => hpos.out j (by omega)
    have hv : Hid (vld xs = prodErr (xs.drop 0) 1) := vld_high (by rw [← HN.out]; exact h6) hall.out
    clear hpos hcell h6
    go_loop [22, 5] (fun i s => ∃ (k : Nat) (z : Int), k ≤ n ∧ i = .int .i64 k ∧ s = .int .i64 z ∧ 1 ≤ z ∧ z ≤ 4096 ∧ Hid (vld xs = prodErr (xs.drop k) z)) (fun i _ => n - (intOf i).toNat)
    case atStart => exact ⟨0, 1, Nat.zero_le _, rfl, rfl, by omega, by omega, hv⟩
    case round =>
     obtain ⟨k, z, hk, rfl, rfl, hz1, hz2, hz⟩ := hrel
     have hcell : k < n → w.cell? (adr a k) = some (.int .i64 (xs[k]?.getD 0)) := HC.out k
     by_cases hkn : k < n
     ·have hx : 1 ≤ xs[k]?.getD 0 := get_of_all hall.out (by rw [← HN.out]; exact hkn)
      have hat : Hid (_ = _) := prodErr_at z (by rw [← HN.out]; exact hkn)
      by_cases h1 : 4096 / z < xs[k]?.getD 0
      ·go_wp2
       go_ret
       exact ⟨ret_int (by rw [hz.out, hat.out, if_pos h1]), rfl⟩
      ·have hq := quo_le hz1 h1
       have hq1 := one_le_mul hz1 hx
       go_wp2
       go_round
       case rel => exact ⟨k + 1, _, by omega, by go_num, rfl, hq1, hq, by rw [Hid, hz.out, hat.out, if_neg h1]⟩
       case measure => simp [intOf]; omega
     ·go_wp2
      go_ret
      exact ⟨ret_int (by rw [hz.out, prodErr_end]; rw [← HN.out]; omega), rfl⟩

set_option maxHeartbeats 1000000 in
theorem ref11_Validate {v : Value} {xs : List Int} {w : World} (hv : IsInts w v xs) :
  Calls Try.prog 42 #[v] w fun e w' => e = .returned (.int .i64 (vld xs)) ∧ w = w' := by
 obtain ⟨a, n, c, HN, hnc, rfl, h⟩ := hv.open
 have hix := idx_ints h n c HN
 have hl := h.len
 have HC : Hid (∀ k, k < n → w.cell? (adr a k) = some (.int .i64 (xs[k]?.getD 0))) := by have := h.cell; rw [← HN.out] at this; exact this
 rw [← HN.out] at hl
 clear h
 by_cases h6 : 6 < n
 ·go_enter Try.func42, Try.ntmps42
  go_wp2
  go_ret
  exact ⟨ret_int (vld_big (by rw [← HN.out]; exact h6)).symm, rfl⟩
 ·go_enter Try.func42, Try.ntmps42
  go_wp2
  go_loop [3] (fun i => ∃ k : Nat, k ≤ n ∧ i = .int .i64 k ∧ Hid (∀ j, j < k → 1 ≤ xs[j]?.getD 0)) (fun i => n - (intOf i).toNat)
  case atStart => exact ⟨0, Nat.zero_le _, rfl, fun j hj => by omega⟩
  case round =>
   obtain ⟨k, hk, rfl, hpos⟩ := hrel
   have hcell : k < n → w.cell? (adr a k) = some (.int .i64 (xs[k]?.getD 0)) := HC.out k
   by_cases hkn : k < n
   ·by_cases h1 : xs[k]?.getD 0 < 1
    ·go_wp2
     go_ret
     exact ⟨ret_int (vld_low (by rw [← HN.out]; exact h6) (by rw [← HN.out]; exact hkn) h1).symm, rfl⟩
    ·go_wp2
     go_round
     case rel => exact ⟨k + 1, by omega, by go_num, fun j hj => by
      by_cases e : j = k
      ·subst e; omega
      ·exact hpos.out j (by omega)⟩
     case measure => simp [intOf]; omega
   ·go_wp2
    have hall : Hid (∀ x ∈ xs, 1 ≤ x) := all_of_get HN.out fun j hj => hpos.out j (by omega)
    have hv : Hid (vld xs = prodErr (xs.drop 0) 1) := vld_high (by rw [← HN.out]; exact h6) hall.out
    clear hpos hcell h6
    go_loop [5, 4] (fun i s => ∃ (k : Nat) (z : Int), k ≤ n ∧ i = .int .i64 k ∧ s = .int .i64 z ∧ 1 ≤ z ∧ z ≤ 4096 ∧ Hid (vld xs = prodErr (xs.drop k) z)) (fun i _ => n - (intOf i).toNat)
    case atStart => exact ⟨0, 1, Nat.zero_le _, rfl, rfl, by omega, by omega, hv⟩
    case round =>
     obtain ⟨k, z, hk, rfl, rfl, hz1, hz2, hz⟩ := hrel
     have hcell : k < n → w.cell? (adr a k) = some (.int .i64 (xs[k]?.getD 0)) := HC.out k
     by_cases hkn : k < n
     ·have hx : 1 ≤ xs[k]?.getD 0 := get_of_all hall.out (by rw [← HN.out]; exact hkn)
      have hat : Hid (_ = _) := prodErr_at z (by rw [← HN.out]; exact hkn)
      by_cases h1 : 4096 / z < xs[k]?.getD 0
      ·have hq := quo_lt hz1 h1
       by_cases h2 : 4096 < xs[k]?.getD 0
       ·go_wp2
        go_ret
        exact ⟨ret_int (by rw [hz.out, hat.out, if_pos h1]), rfl⟩
       ·have hq2 := mul_small hz1 hz2 hx (show xs[k]?.getD 0 ≤ 4096 by omega)
        go_wp2
        go_ret
        exact ⟨ret_int (by rw [hz.out, hat.out, if_pos h1]), rfl⟩
      ·have hq := quo_le hz1 h1
       have hq1 := one_le_mul hz1 hx
       have hq2 := le_of_quo hz1 h1
       go_wp2
       go_round
       case rel => exact ⟨k + 1, _, by omega, by go_num, rfl, hq1, hq, by rw [Hid, hz.out, hat.out, if_neg h1]⟩
       case measure => simp [intOf]; omega
     ·go_wp2
      go_ret
      exact ⟨ret_int (by rw [hz.out, prodErr_end]; rw [← HN.out]; omega), rfl⟩
end Go.Proofs.Ytcnbccmmhcoanaa
