/- The walks of box.Validate and its reference. -/
import Derived.Test.YtehjbfljenpfoaaBase2
import Derived.Test.YtehjbfljenpfoaaPlain09
set_option linter.unusedVariables false
set_option linter.unusedSimpArgs false
namespace Go.Proofs.Ytehjbfljenpfoaa
open Go.RowKit

set_option maxHeartbeats 2000000 in
theorem box_Validate {v : Value} {xs : List Int} {w : World} (hv : IsInts w v xs) :
  Calls Try.prog 18 #[v] w fun e w' => e = .returned (.int .i64 (bval xs)) ∧ w = w' := by
 obtain ⟨a, n, c, HN, hnc, rfl, h⟩ := hv.open
 have hix := idx_ints h n c HN
 have hl := h.len
 have HC : Hid (∀ k, k < n → w.cell? (adr a k) = some (.int .i64 (xs[k]?.getD 0))) := by have := h.cell; rw [← HN.out] at this; exact this
 rw [← HN.out] at hl
 by_cases h16 : 16 < n
 ·go_enter Try.func18, Try.ntmps18
  go_wp2
  go_ret
  exact ⟨ret_int (bval_big (by rw [← HN.out]; exact h16)).symm, rfl⟩
 ·have H16 : Hid (¬ 16 < xs.length) := by show ¬ _; rw [← HN.out]; exact h16
  go_enter Try.func18, Try.ntmps18
  go_wp2
  go_loop [14, 4] (fun i e => ∃ (k : Nat) (b : Bool), k ≤ n ∧ i = .int .i64 k ∧ e = .bool b ∧ Hid (b = hasZ (xs.take k)) ∧ Hid (∀ j, j < k → 0 ≤ xs[j]?.getD 0)) (fun i _ => n - (intOf i).toNat)
  case atStart => exact ⟨0, false, Nat.zero_le _, rfl, rfl, rfl, fun j hj => by omega⟩
  case round =>
   obtain ⟨k, b, hk, rfl, rfl, hb, hpos⟩ := hrel
   have hcell : k < n → w.cell? (adr a k) = some (.int .i64 (xs[k]?.getD 0)) := HC.out k
   by_cases hkn : k < n
   ·have Hk : Hid (k < xs.length) := by show _ < _; rw [← HN.out]; exact hkn
    by_cases h1 : xs[k]?.getD 0 < 0
    ·go_wp2
     go_ret
     exact ⟨ret_int (bval_neg H16.out Hk.out h1).symm, rfl⟩
    ·have HB : Hid (hasZ (xs.take (k + 1)) = (b || (xs[k]?.getD 0 == 0))) := by
      show _ = _
      rw [hasZ, any_take_succ _ Hk.out, hb.out, List.getElem?_eq_getElem Hk.out]
      rfl
     have HP : Hid (∀ j, j < k + 1 → 0 ≤ xs[j]?.getD 0) := fun j hj => by
      by_cases e : j = k
      ·subst e; omega
      ·exact hpos.out j (by omega)
     cases b with
     | true =>
      go_wp2
      go_round
      case rel => exact ⟨k + 1, true, by omega, by go_num, rfl, by rw [Hid, HB.out]; rfl, HP⟩
      case measure => simp [intOf]; omega
     | false =>
      by_cases hx0 : xs[k]?.getD 0 = 0
      ·have hx1 : (xs[k]?.getD 0 == 0) = true := by rw [hx0]; rfl
       have HX := Lib.hid hx1
       go_wp2
       go_round
       case rel => exact ⟨k + 1, true, by omega, by go_num, rfl, by rw [Hid, HB.out, HX.out]; rfl, HP⟩
       case measure => simp [intOf]; omega
      ·have hx1 : (xs[k]?.getD 0 == 0) = false := beq_eq_false_iff_ne.2 hx0
       have HX := Lib.hid hx1
       go_wp2
       go_round
       case rel => exact ⟨k + 1, false, by omega, by go_num, rfl, by rw [Hid, HB.out, HX.out]; rfl, HP⟩
       case measure => simp [intOf]; omega
   ·have H0 : Hid (∀ x ∈ xs, 0 ≤ x) := all0_of_get HN.out fun j hj => hpos.out j (by omega)
    have HB : Hid (hasZ xs = b) := by rw [Hid, hb.out, List.take_of_length_le (by rw [← HN.out]; omega)]
    clear hpos hcell h16 hb
    cases b with
    | true =>
     have hz0 : Hid (bval xs = 0) := bval_zero H16.out H0.out HB.out
     go_wp2
     go_loop [28] (fun i => ∃ (k : Nat), k ≤ n ∧ i = .int .i64 k) (fun i => n - (intOf i).toNat)
     case atStart => exact ⟨0, Nat.zero_le _, rfl⟩
     case round =>
      obtain ⟨k, hk, rfl⟩ := hrel
      by_cases hkn : k < n
      ·have hcell := HC.out k hkn
       go_wp2
       go_round
       case rel => exact ⟨k + 1, by omega, by go_num⟩
       case measure => simp [intOf]; omega
      ·go_wp2
       go_ret
       exact ⟨ret_int hz0.out.symm, rfl⟩
    | false =>
     have hv0 : Hid (bval xs = prodErrM 65536 (xs.drop 0) 1) := bval_pos H16.out H0.out HB.out
     have H1 : Hid (∀ x ∈ xs, 1 ≤ x) := pos_of_noZ H0.out HB.out
     go_wp2
     go_loop [28, 3] (fun i s => ∃ (k : Nat) (z : Int), k ≤ n ∧ i = .int .i64 k ∧ s = .int .i64 z ∧ 1 ≤ z ∧ z ≤ 65536 ∧ Hid (bval xs = prodErrM 65536 (xs.drop k) z)) (fun i _ => n - (intOf i).toNat)
     case atStart => exact ⟨0, 1, Nat.zero_le _, rfl, rfl, by omega, by omega, hv0⟩
     case round =>
      obtain ⟨k, z, hk, rfl, rfl, hz1, hz2, hz⟩ := hrel
      by_cases hkn : k < n
      ·have Hk : Hid (k < xs.length) := by show _ < _; rw [← HN.out]; exact hkn
       have hcell := HC.out k hkn
       have hx1 : 1 ≤ xs[k]?.getD 0 := get_of_all H1.out Hk.out
       have hat : Hid (_ = _) := prodErrM_at (M := 65536) z Hk.out
       by_cases h1 : 65536 / z < xs[k]?.getD 0
       ·skip
        go_wp2
        go_ret
        exact ⟨ret_int (by rw [hz.out, hat.out, if_pos h1]), rfl⟩
       ·have HN1 := Lib.hid h1
        have hq := quoM_le hz1 h1
        have hq1 := one_le_mul hz1 hx1
        skip
        go_wp2
        go_round
        case rel => exact ⟨k + 1, _, by omega, by go_num, rfl, hq1, hq, by rw [Hid, hz.out, hat.out]; first | rw [if_neg HN1.out] | rw [if_neg (Int.not_lt.2 HN1.out)]⟩
        case measure => simp [intOf]; omega
      ·go_wp2
       go_ret
       exact ⟨ret_int (by rw [hz.out, prodErrM_end]; rw [← HN.out]; omega), rfl⟩

set_option maxHeartbeats 2000000 in
theorem ref09_Validate {v : Value} {xs : List Int} {w : World} (hv : IsInts w v xs) :
  Calls Try.prog 9 #[v] w fun e w' => e = .returned (.int .i64 (bval xs)) ∧ Ext w w' := by
 obtain ⟨a, n, c, HN, hnc, rfl, h⟩ := hv.open
 have hix := idx_ints h n c HN
 have hl := h.len
 have HC : Hid (∀ k, k < n → w.cell? (adr a k) = some (.int .i64 (xs[k]?.getD 0))) := by have := h.cell; rw [← HN.out] at this; exact this
 rw [← HN.out] at hl
 by_cases h16 : 16 < n
 ·go_enter Try.func9, Try.ntmps9
  go_wp2
  go_ret
  exact ⟨ret_int (bval_big (by rw [← HN.out]; exact h16)).symm, Ext.refl w⟩
 ·have H16 : Hid (¬ 16 < xs.length) := by show ¬ _; rw [← HN.out]; exact h16
  go_enter Try.func9, Try.ntmps9
  go_wp2
  go_loop [4, 3] (fun i e => ∃ (k : Nat) (b : Bool), k ≤ n ∧ i = .int .i64 k ∧ e = .bool b ∧ Hid (b = hasZ (xs.take k)) ∧ Hid (∀ j, j < k → 0 ≤ xs[j]?.getD 0)) (fun i _ => n - (intOf i).toNat)
  case atStart => exact ⟨0, false, Nat.zero_le _, rfl, rfl, rfl, fun j hj => by omega⟩
  case round =>
   obtain ⟨k, b, hk, rfl, rfl, hb, hpos⟩ := hrel
   have hcell : k < n → w.cell? (adr a k) = some (.int .i64 (xs[k]?.getD 0)) := HC.out k
   by_cases hkn : k < n
   ·have Hk : Hid (k < xs.length) := by show _ < _; rw [← HN.out]; exact hkn
    by_cases h1 : xs[k]?.getD 0 < 0
    ·go_wp2
     go_ret
     exact ⟨ret_int (bval_neg H16.out Hk.out h1).symm, Ext.refl w⟩
    ·have HB : Hid (hasZ (xs.take (k + 1)) = (b || (xs[k]?.getD 0 == 0))) := by
      show _ = _
      rw [hasZ, any_take_succ _ Hk.out, hb.out, List.getElem?_eq_getElem Hk.out]
      rfl
     have HP : Hid (∀ j, j < k + 1 → 0 ≤ xs[j]?.getD 0) := fun j hj => by
      by_cases e : j = k
      ·subst e; omega
      ·exact hpos.out j (by omega)
     cases b with
     | true =>
      go_wp2
      go_round
      case rel => exact ⟨k + 1, true, by omega, by go_num, rfl, by rw [Hid, HB.out]; rfl, HP⟩
      case measure => simp [intOf]; omega
     | false =>
      by_cases hx0 : xs[k]?.getD 0 = 0
      ·have hx1 : (xs[k]?.getD 0 == 0) = true := by rw [hx0]; rfl
       have HX := Lib.hid hx1
       go_wp2
       go_round
       case rel => exact ⟨k + 1, true, by omega, by go_num, rfl, by rw [Hid, HB.out, HX.out]; rfl, HP⟩
       case measure => simp [intOf]; omega
      ·have hx1 : (xs[k]?.getD 0 == 0) = false := beq_eq_false_iff_ne.2 hx0
       have HX := Lib.hid hx1
       go_wp2
       go_round
       case rel => exact ⟨k + 1, false, by omega, by go_num, rfl, by rw [Hid, HB.out, HX.out]; rfl, HP⟩
       case measure => simp [intOf]; omega
   ·have H0 : Hid (∀ x ∈ xs, 0 ≤ x) := all0_of_get HN.out fun j hj => hpos.out j (by omega)
    have HB : Hid (hasZ xs = b) := by rw [Hid, hb.out, List.take_of_length_le (by rw [← HN.out]; omega)]
    clear hpos hcell h16 hb
    cases b with
    | true =>
     have hz0 : Hid (bval xs = 0) := bval_zero H16.out H0.out HB.out
     go_wp2
     go_loop [6] (fun i => ∃ (k : Nat), k ≤ n ∧ i = .int .i64 k) (fun i => n - (intOf i).toNat)
     case atStart => exact ⟨0, Nat.zero_le _, rfl⟩
     case round =>
      obtain ⟨k, hk, rfl⟩ := hrel
      by_cases hkn : k < n
      ·go_wp2
       go_ret
       exact ⟨ret_int hz0.out.symm, Ext.refl w⟩
      ·go_wp2
       go_ret
       exact ⟨ret_int hz0.out.symm, Ext.refl w⟩
    | false =>
     have hv0 : Hid (bval xs = prodErrM 65536 (xs.drop 0) 1) := bval_pos H16.out H0.out HB.out
     have H1 : Hid (∀ x ∈ xs, 1 ≤ x) := pos_of_noZ H0.out HB.out
     go_wp2
     go_loopw [6, 5] (fun i s wr => ∃ (k : Nat) (z : Int), k ≤ n ∧ i = .int .i64 k ∧ s = .int .i64 z ∧ 1 ≤ z ∧ z ≤ 65536 ∧ Hid (bval xs = prodErrM 65536 (xs.drop k) z) ∧ Ext w wr) (fun i _ _ => n - (intOf i).toNat)
     case atStart => exact ⟨0, 1, Nat.zero_le _, rfl, rfl, by omega, by omega, hv0, Ext.refl w⟩
     case round =>
      obtain ⟨k, z, hk, rfl, rfl, hz1, hz2, hz, hx⟩ := hrel
      by_cases hkn : k < n
      ·have Hk : Hid (k < xs.length) := by show _ < _; rw [← HN.out]; exact hkn
       have hcell := (h.ext hx).cell k Hk.out
       have hx1 : 1 ≤ xs[k]?.getD 0 := get_of_all H1.out Hk.out
       have hat : Hid (_ = _) := prodErrM_at (M := 65536) z Hk.out
       by_cases h1 : 65536 / z < xs[k]?.getD 0
       ·have hq1 : IntKind.i64.wrap ((65536 : Int).tdiv z) = 65536 / z := IntWalk.i64_quo 65536 z ⟨by omega, by omega, by omega⟩
        go_wp2
        go_quiet (fail)
        go_wp2
        go_ret
        exact ⟨ret_int (by rw [hz.out, hat.out, if_pos h1]), hx.drewN _⟩
       ·have HN1 := Lib.hid h1
        have hq := quoM_le hz1 h1
        have hq1 := one_le_mul hz1 hx1
        have hq2 : IntKind.i64.wrap ((65536 : Int).tdiv z) = 65536 / z := IntWalk.i64_quo 65536 z ⟨by omega, by omega, by omega⟩
        go_wp2
        go_quiet (fail)
        go_wp2
        go_roundw
        case rel => exact ⟨k + 1, _, by omega, by go_num, rfl, hq1, hq, by rw [Hid, hz.out, hat.out]; first | rw [if_neg HN1.out] | rw [if_neg (Int.not_lt.2 HN1.out)], hx.drewN _⟩
        case measure => simp [intOf]; omega
      ·go_wp2
       go_ret
       exact ⟨ret_int (by rw [hz.out, prodErrM_end]; rw [← HN.out]; omega), hx⟩
end Go.Proofs.Ytehjbfljenpfoaa
