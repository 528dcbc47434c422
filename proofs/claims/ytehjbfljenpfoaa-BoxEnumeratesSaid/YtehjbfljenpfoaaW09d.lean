/- The walks of box.inside, box.Rank and their references. -/
import Derived.Test.YtehjbfljenpfoaaW09c
set_option linter.unusedVariables false
set_option linter.unusedSimpArgs false
namespace Go.Proofs.Ytehjbfljenpfoaa
open Go.RowKit

set_option maxHeartbeats 2000000 in
theorem box_inside {u v : Value} {xs ps : List Int} {w : World} (hu : IsInts w u xs) (hv : IsInts w v ps) :
  Calls Try.prog 16 #[u, v] w fun e w' => e = .returned (.bool (decide (Within xs ps))) ∧ w = w' := by
 obtain ⟨a, n, c, HN, hnc, rfl, h⟩ := hu.open
 obtain ⟨b, m, d, HM, hmd, rfl, k⟩ := hv.open
 have hix := idx_ints h n c HN
 have hiy := idx_ints k m d HM
 have hl := h.len
 have hm := k.len
 rw [← HN.out] at hl
 rw [← HM.out] at hm
 have HC : Hid (∀ k, k < n → w.cell? (adr a k) = some (.int .i64 (xs[k]?.getD 0))) := by have := h.cell; rw [← HN.out] at this; exact this
 have HD : Hid (∀ j, j < m → w.cell? (adr b j) = some (.int .i64 (ps[j]?.getD 0))) := by have := k.cell; rw [← HM.out] at this; exact this
 by_cases h0 : bval xs = 0
 ·have H0 := Lib.hid h0
  by_cases hnm : m = n
  ·subst hnm
   have HE : Hid (ps.length = xs.length) := by show _ = _; rw [← HM.out, HN.out]
   go_enter Try.func16, Try.ntmps16
   go_wp2_with (go_at_call 18; refine (box_Validate hu).mono ?_; rintro e w' ⟨rfl, rfl⟩)
   go_loop [19] (fun i => ∃ (j : Nat), j ≤ m ∧ i = .int .i64 j ∧ Hid (InTo xs ps j)) (fun i => m - (intOf i).toNat)
   case atStart => exact ⟨0, Nat.zero_le _, rfl, InTo.zero _ _⟩
   case round =>
    obtain ⟨j, hj, rfl, hin⟩ := hrel
    by_cases hjm : j < m
    ·have Hj : Hid (j < xs.length) := by show _ < _; rw [← HN.out]; exact hjm
     have hc1 := HC.out j hjm
     have hc2 := HD.out j hjm
     by_cases h1 : ps[j]?.getD 0 < 0
     ·have HO : Hid (decide (Within xs ps) = false) := decide_eq_false (fun hh => not_in_low Hj.out h1 hh.2)
      go_wp2
      go_ret
      exact ⟨ret_bool HO.out.symm, rfl⟩
     ·by_cases h2 : xs[j]?.getD 0 ≤ ps[j]?.getD 0
      ·have HO : Hid (decide (Within xs ps) = false) := decide_eq_false (fun hh => not_in_high Hj.out h2 hh.2)
       go_wp2
       go_ret
       exact ⟨ret_bool HO.out.symm, rfl⟩
      ·have Hin : Hid (InTo xs ps (j + 1)) := hin.out.succ (by omega) (by omega)
       go_wp2
       go_round
       case rel => exact ⟨j + 1, by omega, by go_num, Hin⟩
       case measure => simp [intOf]; omega
    ·obtain rfl : j = m := by omega
     have HO : Hid (decide (Within xs ps) = true) := decide_eq_true ⟨H0.out, HE.out, by rw [← HN.out]; exact hin.out⟩
     go_wp2
     go_ret
     exact ⟨ret_bool HO.out.symm, rfl⟩
  ·have HO : Hid (decide (Within xs ps) = false) := decide_eq_false (fun hh => hnm (by rw [HM.out, HN.out, hh.2.1]))
   go_enter Try.func16, Try.ntmps16
   go_wp2_with (go_at_call 18; refine (box_Validate hu).mono ?_; rintro e w' ⟨rfl, rfl⟩)
   go_ret
   exact ⟨ret_bool HO.out.symm, rfl⟩
 ·have HO : Hid (decide (Within xs ps) = false) := decide_eq_false (fun hh => h0 hh.1)
  go_enter Try.func16, Try.ntmps16
  go_wp2_with (go_at_call 18; refine (box_Validate hu).mono ?_; rintro e w' ⟨rfl, rfl⟩)
  go_ret
  exact ⟨ret_bool HO.out.symm, rfl⟩

end Go.Proofs.Ytehjbfljenpfoaa
