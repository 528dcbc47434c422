/- The walks of box.inside, box.Rank and their references. -/
import Derived.Test.YtcbnnjadgkgheaaW09c
set_option linter.unusedVariables false
set_option linter.unusedSimpArgs false
namespace Go.Proofs.Ytcbnnjadgkgheaa
open Go.RowKit

set_option maxHeartbeats 2000000 in
theorem box_inside {u v : Value} {xs ps : List Int} {w : World} (hu : IsInts w u xs) (hv : IsInts w v ps) :
    Calls Try.prog 77 #[u, v] w fun e w' => e = .returned (.bool (decide (Within xs ps))) ∧ w = w' := by
  obtain ⟨a, n, c, HN, hnc, rfl, h⟩ := hu.open
  obtain ⟨b, m, d, HM, hmd, rfl, k⟩ := hv.open
  have hix := idx_ints h n c HN
  have hiy := idx_ints k m d HM
  have hl := h.len
  have hm := k.len
  rw [← HN.out] at hl
  rw [← HM.out] at hm
  have HC : Hid (∀ k, k < n → w.cell? (adr a k) = some (.int .i64 (xs[k]?.getD 0))) := by have := h.cell; rw [← HN.out] at this; exact this
  have HD : Hid (∀ j, j < m → w.cell? (adr b j) = some (.int .i64 (ps[j]?.getD 0))) := by have := k.cell; rw [← HM.out] at this; exact this
  by_cases h0 : bval xs = 0
  · have H0 := Lib.hid h0
    by_cases hnm : m = n
    · subst hnm
      have HE : Hid (ps.length = xs.length) := by show _ = _; rw [← HM.out, HN.out]
      go_enter Try.func77, Try.ntmps77
      go_wp2_with (go_at_call 39; refine (box_Validate hu).mono ?_; rintro e w' ⟨rfl, rfl⟩)
      go_loop [19] (fun i => ∃ (j : Nat), j ≤ m ∧ i = .int .i64 j ∧ Hid (InTo xs ps j)) (fun i => m - (intOf i).toNat)
      case atStart => exact ⟨0, Nat.zero_le _, rfl, InTo.zero _ _⟩
      case round =>
        obtain ⟨j, hj, rfl, hin⟩ := hrel
        by_cases hjm : j < m
        · have Hj : Hid (j < xs.length) := by show _ < _; rw [← HN.out]; exact hjm
          have hc1 := HC.out j hjm
          have hc2 := HD.out j hjm
          by_cases h1 : ps[j]?.getD 0 < 0
          · have HO : Hid (decide (Within xs ps) = false) := decide_eq_false (fun hh => not_in_low Hj.out h1 hh.2)
            go_wp2
            go_ret
            exact ⟨ret_bool HO.out.symm, rfl⟩
          · by_cases h2 : xs[j]?.getD 0 ≤ ps[j]?.getD 0
            · have HO : Hid (decide (Within xs ps) = false) := decide_eq_false (fun hh => not_in_high Hj.out h2 hh.2)
              go_wp2
              go_ret
              exact ⟨ret_bool HO.out.symm, rfl⟩
            · have Hin : Hid (InTo xs ps (j + 1)) := hin.out.succ (by omega) (by omega)
              go_wp2
              go_round
              case rel => exact ⟨j + 1, by omega, by go_num, Hin⟩
              case measure => simp [intOf]; omega
        · obtain rfl : j = m := by omega
          have HO : Hid (decide (Within xs ps) = true) := decide_eq_true ⟨H0.out, HE.out, by rw [← HN.out]; exact hin.out⟩
          go_wp2
          go_ret
          exact ⟨ret_bool HO.out.symm, rfl⟩
    · have HO : Hid (decide (Within xs ps) = false) := decide_eq_false (fun hh => hnm (by rw [HM.out, HN.out, hh.2.1]))
      go_enter Try.func77, Try.ntmps77
      go_wp2_with (go_at_call 39; refine (box_Validate hu).mono ?_; rintro e w' ⟨rfl, rfl⟩)
      go_ret
      exact ⟨ret_bool HO.out.symm, rfl⟩
  · have HO : Hid (decide (Within xs ps) = false) := decide_eq_false (fun hh => h0 hh.1)
    go_enter Try.func77, Try.ntmps77
    go_wp2_with (go_at_call 39; refine (box_Validate hu).mono ?_; rintro e w' ⟨rfl, rfl⟩)
    go_ret
    exact ⟨ret_bool HO.out.symm, rfl⟩

set_option maxHeartbeats 2000000 in
theorem ref09_Inside {u v : Value} {xs ps : List Int} {w : World} (hu : IsInts w u xs) (hv : IsInts w v ps) :
    Calls Try.prog 57 #[u, v] w fun e w' => e = .returned (.bool (decide (Within xs ps))) ∧ Ext w w' := by
  obtain ⟨a, n, c, HN, hnc, rfl, h⟩ := hu.open
  obtain ⟨b, m, d, HM, hmd, rfl, k⟩ := hv.open
  have hix := idx_ints h n c HN
  have hiy := idx_ints k m d HM
  have hl := h.len
  have hm := k.len
  rw [← HN.out] at hl
  rw [← HM.out] at hm
  by_cases h0 : bval xs = 0
  · have H0 := Lib.hid h0
    by_cases hnm : m = n
    · subst hnm
      have HE : Hid (ps.length = xs.length) := by show _ = _; rw [← HM.out, HN.out]
      go_enter Try.func57, Try.ntmps57
      go_wp2_with (go_at_call 40; refine (ref09_Validate hu).mono ?_; rintro e w1 ⟨rfl, hx1⟩)
      go_loopw [5] (fun i wr => ∃ (j : Nat), j ≤ m ∧ i = .int .i64 j ∧ Hid (InTo xs ps j) ∧ Ext w wr) (fun i _ => m - (intOf i).toNat)
      case atStart => exact ⟨0, Nat.zero_le _, rfl, InTo.zero _ _, hx1⟩
      case round =>
        obtain ⟨j, hj, rfl, hin, hx⟩ := hrel
        by_cases hjm : j < m
        · have Hj : Hid (j < xs.length) := by show _ < _; rw [← HN.out]; exact hjm
          have hc1 := (h.ext hx).cell j Hj.out
          have hc2 := (k.ext hx).cell j (by rw [← HM.out]; exact hjm)
          by_cases h1 : ps[j]?.getD 0 < 0
          · have HO : Hid (decide (Within xs ps) = false) := decide_eq_false (fun hh => not_in_low Hj.out h1 hh.2)
            go_wp2
            go_quiet (fail)
            go_wp2
            go_ret
            exact ⟨ret_bool HO.out.symm, hx.drewN _⟩
          · have h1b : decide (ps[j]?.getD 0 < 0) = false := decide_eq_false h1
            by_cases h2 : xs[j]?.getD 0 ≤ ps[j]?.getD 0
            · have HO : Hid (decide (Within xs ps) = false) := decide_eq_false (fun hh => not_in_high Hj.out h2 hh.2)
              go_wp2
              go_quiet (fail)
              go_wp2
              go_ret
              exact ⟨ret_bool HO.out.symm, hx.drewN _⟩
            · have Hin : Hid (InTo xs ps (j + 1)) := hin.out.succ (by omega) (by omega)
              go_wp2
              go_quiet (fail)
              go_wp2
              go_roundw
              case rel => exact ⟨j + 1, by omega, by go_num, Hin, hx.drewN _⟩
              case measure => simp [intOf]; omega
        · obtain rfl : j = m := by omega
          have HO : Hid (decide (Within xs ps) = true) := decide_eq_true ⟨H0.out, HE.out, by rw [← HN.out]; exact hin.out⟩
          go_wp2
          go_ret
          exact ⟨ret_bool HO.out.symm, hx⟩
    · have HO : Hid (decide (Within xs ps) = false) := decide_eq_false (fun hh => hnm (by rw [HM.out, HN.out, hh.2.1]))
      go_enter Try.func57, Try.ntmps57
      go_wp2_with (go_at_call 40; refine (ref09_Validate hu).mono ?_; rintro e w1 ⟨rfl, hx1⟩)
      go_ret
      exact ⟨ret_bool HO.out.symm, hx1⟩
  · have HO : Hid (decide (Within xs ps) = false) := decide_eq_false (fun hh => h0 hh.1)
    go_enter Try.func57, Try.ntmps57
    go_wp2_with (go_at_call 40; refine (ref09_Validate hu).mono ?_; rintro e w1 ⟨rfl, hx1⟩)
    go_ret
    exact ⟨ret_bool HO.out.symm, hx1⟩

set_option maxHeartbeats 2000000 in
theorem box_Rank {u v : Value} {xs ps : List Int} {w : World} (hu : IsInts w u xs) (hv : IsInts w v ps) :
    Calls Try.prog 51 #[u, v] w fun e w' => e = .returned (.tuple #[.int .i64 (brank xs ps).1, .bool (brank xs ps).2]) ∧ Ext w w' := by
  obtain ⟨a, n, c, HN, hnc, rfl, h⟩ := hu.open
  obtain ⟨b, m, d, HM, hmd, rfl, k⟩ := hv.open
  have hix := idx_ints h n c HN
  have hiy := idx_ints k m d HM
  obtain ⟨r, hr⟩ : ∃ r, r = brank xs ps := ⟨_, rfl⟩
  rw [← hr]
  have HR := Lib.hid hr
  clear hr
  by_cases h0 : Within xs ps
  · have HD : Hid (decide (Within xs ps) = true) := decide_eq_true h0
    have HO : Hid (r = (rank xs ps, true)) := by rw [Hid, HR.out]; exact brank_in h0
    have hp := h0.pos
    have HB := Lib.hid h0.2.2
    have hmn : m = n := by rw [HM.out, HN.out, h0.2.1]
    subst hmn
    have h16 : m ≤ 16 := by rw [HN.out]; exact hp.1
    have hg := hp.2
    clear h0 hp
    go_enter Try.func51, Try.ntmps51
    go_wp2_with (go_at_call 77; refine (box_inside hu hv).mono ?_; rintro e w' ⟨rfl, rfl⟩; rw [HD.out])
    go_loopw [15, 6] (fun i s wr => ∃ (j : Nat) (z : Int), j ≤ m ∧ i = .int .i64 j ∧ s = .int .i64 z ∧ Hid (z = rankTo xs ps j) ∧ Ext w wr) (fun i _ _ => m - (intOf i).toNat)
    case atStart => exact ⟨0, 0, Nat.zero_le _, rfl, rfl, rfl, Ext.refl w⟩
    case round =>
      obtain ⟨j, z, hj, rfl, rfl, hz, hx⟩ := hrel
      by_cases hjm : j < m
      · have Hj : Hid (j < xs.length) := by show _ < _; rw [← HN.out]; exact hjm
        have hc1 := (h.ext hx).cell j Hj.out
        have hc2 := (k.ext hx).cell j (by rw [← HM.out]; exact hjm)
        have hbj := HB.out j Hj.out
        have hb := rankTo_bd (ps := ps) hg.pos (j + 1) (by have := Hj.out; omega) (fun i hi => HB.out i (by have := Hj.out; omega))
        have hb2 := rankTo_bd (ps := ps) hg.pos j (by have := Hj.out; omega) (fun i hi => HB.out i (by have := Hj.out; omega))
        have hp := hg.take_le (j + 1)
        have hz' : z * xs[j]?.getD 0 + ps[j]?.getD 0 = rankTo xs ps (j + 1) := by rw [rankTo, hz.out]
        rw [← hz'] at hb
        rw [← hz.out] at hb2
        have hx1 := hg.get Hj.out
        have hzx : 0 ≤ z * xs[j]?.getD 0 := Int.mul_nonneg (by omega) (by omega)
        have hb3 : z * xs[j]?.getD 0 + ps[j]?.getD 0 < 65536 := by omega
        have Hz := Lib.hid hz'
        clear hz' hb hb2 hp
        go_wp2
        go_roundw
        case rel => exact ⟨j + 1, _, by omega, by go_num, rfl, Hz, hx⟩
        case measure => simp [intOf]; omega
      · obtain rfl : j = m := by omega
        have HF : Hid (r = (z, true)) := by rw [Hid, HO.out, hz.out, rank, ← HN.out]
        go_wp2
        go_ret2
        exact ⟨by rw [HF.out]; rfl, hx⟩
  · have HD : Hid (decide (Within xs ps) = false) := decide_eq_false h0
    have HO : Hid (r = (0, false)) := by rw [Hid, HR.out]; exact brank_out h0
    clear h0
    go_enter Try.func51, Try.ntmps51
    go_wp2_with (go_at_call 77; refine (box_inside hu hv).mono ?_; rintro e w' ⟨rfl, rfl⟩; rw [HD.out])
    go_ret2
    exact ⟨by rw [HO.out]; rfl, Ext.refl w⟩

set_option maxHeartbeats 2000000 in
theorem ref09_Rank {u v : Value} {xs ps : List Int} {w : World} (hu : IsInts w u xs) (hv : IsInts w v ps) :
    Calls Try.prog 52 #[u, v] w fun e w' => e = .returned (.tuple #[.int .i64 (brank xs ps).1, .bool (brank xs ps).2]) ∧ Ext w w' := by
  obtain ⟨a, n, c, HN, hnc, rfl, h⟩ := hu.open
  obtain ⟨b, m, d, HM, hmd, rfl, k⟩ := hv.open
  have hix := idx_ints h n c HN
  have hiy := idx_ints k m d HM
  obtain ⟨r, hr⟩ : ∃ r, r = brank xs ps := ⟨_, rfl⟩
  rw [← hr]
  have HR := Lib.hid hr
  clear hr
  by_cases h0 : Within xs ps
  · have HD : Hid (decide (Within xs ps) = true) := decide_eq_true h0
    have HO : Hid (r = (rank xs ps, true)) := by rw [Hid, HR.out]; exact brank_in h0
    have hp := h0.pos
    have HB := Lib.hid h0.2.2
    have hmn : m = n := by rw [HM.out, HN.out, h0.2.1]
    subst hmn
    have h16 : m ≤ 16 := by rw [HN.out]; exact hp.1
    have hg := hp.2
    clear h0 hp
    go_enter Try.func52, Try.ntmps52
    go_wp2_with (go_at_call 57; refine (ref09_Inside hu hv).mono ?_; rintro e w1 ⟨rfl, hx1⟩; rw [HD.out])
    go_loopw [7, 6] (fun i s wr => ∃ (j : Nat) (z : Int), j ≤ m ∧ i = .int .i64 j ∧ s = .int .i64 z ∧ Hid (z = rankTo xs ps j) ∧ Ext w wr) (fun i _ _ => m - (intOf i).toNat)
    case atStart => exact ⟨0, 0, Nat.zero_le _, rfl, rfl, rfl, hx1⟩
    case round =>
      obtain ⟨j, z, hj, rfl, rfl, hz, hx⟩ := hrel
      by_cases hjm : j < m
      · have Hj : Hid (j < xs.length) := by show _ < _; rw [← HN.out]; exact hjm
        have hc1 := (h.ext hx).cell j Hj.out
        have hc2 := (k.ext hx).cell j (by rw [← HM.out]; exact hjm)
        have hbj := HB.out j Hj.out
        have hb := rankTo_bd (ps := ps) hg.pos (j + 1) (by have := Hj.out; omega) (fun i hi => HB.out i (by have := Hj.out; omega))
        have hb2 := rankTo_bd (ps := ps) hg.pos j (by have := Hj.out; omega) (fun i hi => HB.out i (by have := Hj.out; omega))
        have hp := hg.take_le (j + 1)
        have hz' : z * xs[j]?.getD 0 + ps[j]?.getD 0 = rankTo xs ps (j + 1) := by rw [rankTo, hz.out]
        rw [← hz'] at hb
        rw [← hz.out] at hb2
        have hgx := hg.get Hj.out
        have hzx : 0 ≤ z * xs[j]?.getD 0 := Int.mul_nonneg (by omega) (by omega)
        have hb3 : z * xs[j]?.getD 0 + ps[j]?.getD 0 < 65536 := by omega
        have Hz := Lib.hid hz'
        clear hz' hb hb2 hp
        go_wp2
        go_quiet (fail)
        go_wp2
        go_roundw
        case rel => exact ⟨j + 1, _, by omega, by go_num, rfl, Hz, hx.drewN _⟩
        case measure => simp [intOf]; omega
      · obtain rfl : j = m := by omega
        have HF : Hid (r = (z, true)) := by rw [Hid, HO.out, hz.out, rank, ← HN.out]
        go_wp2
        go_ret2
        exact ⟨by rw [HF.out]; rfl, hx⟩
  · have HD : Hid (decide (Within xs ps) = false) := decide_eq_false h0
    have HO : Hid (r = (0, false)) := by rw [Hid, HR.out]; exact brank_out h0
    clear h0
    go_enter Try.func52, Try.ntmps52
    go_wp2_with (go_at_call 57; refine (ref09_Inside hu hv).mono ?_; rintro e w1 ⟨rfl, hx1⟩; rw [HD.out])
    go_ret2
    exact ⟨by rw [HO.out]; rfl, hx1⟩
end Go.Proofs.Ytcbnnjadgkgheaa
