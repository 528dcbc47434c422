/- The walks of shape.Offset and its reference. -/
import Derived.Test.YtcdjgfamgnhffaaW11f
import Derived.Test.YtcdjgfamgnhffaaPlain11c
set_option linter.unusedVariables false
set_option linter.unusedSimpArgs false
namespace Go.Proofs.Ytcdjgfamgnhffaa
open Go.RowKit

/-- The first k coordinates lie within. -/
def InTo (xs ps : List Int) (k : Nat) : Prop := ∀ j, j < k → 0 ≤ ps[j]?.getD 0 ∧ ps[j]?.getD 0 < xs[j]?.getD 0
theorem InTo.zero (xs ps : List Int) : InTo xs ps 0 := fun j hj => by omega
theorem InTo.succ {xs ps : List Int} {k : Nat} (h : InTo xs ps k) (h1 : 0 ≤ ps[k]?.getD 0) (h2 : ps[k]?.getD 0 < xs[k]?.getD 0) : InTo xs ps (k + 1) := fun j hj => by
  by_cases e : j = k
  · subst e; exact ⟨h1, h2⟩
  · exact h j (by omega)

set_option maxHeartbeats 2000000 in
theorem shape_Offset {u v : Value} {xs ps : List Int} {w : World} (hu : IsInts w u xs) (hv : IsInts w v ps) :
    Calls Try.prog 19 #[u, v] w fun e w' => e = .returned (.tuple #[.int .i64 (offset xs ps).1, .bool (offset xs ps).2]) ∧ w = w' := by
  obtain ⟨a, n, c, HN, hnc, rfl, h⟩ := hu.open
  obtain ⟨b, m, d, HM, hmd, rfl, k⟩ := hv.open
  have hix := idx_ints h n c HN
  have hiy := idx_ints k m d HM
  have hl := h.len
  have hm := k.len
  rw [← HN.out] at hl
  rw [← HM.out] at hm
  have HC : Hid (∀ k, k < n → w.cell? (adr a k) = some (.int .i64 (xs[k]?.getD 0))) := by have := h.cell; rw [← HN.out] at this; exact this
  have HD : Hid (∀ j, j < m → w.cell? (adr b j) = some (.int .i64 (ps[j]?.getD 0))) := by have := k.cell; rw [← HM.out] at this; exact this
  obtain ⟨r, hr⟩ : ∃ r, r = offset xs ps := ⟨_, rfl⟩
  rw [← hr]
  have HR := Lib.hid hr
  clear hr
  by_cases h0 : vld xs = 0
  · have hg := good_of_vld h0
    by_cases hnm : m = n
    · subst hnm
      go_enter Try.func19, Try.ntmps19
      go_wp2_with (go_at_call 10; refine (shape_Validate hu).mono ?_; rintro e w' ⟨rfl, rfl⟩)
      go_loop [21, 6] (fun i s => ∃ (j : Nat) (z : Int), j ≤ m ∧ i = .int .i64 j ∧ s = .int .i64 z ∧ Hid (z = rankTo xs ps j) ∧ Hid (InTo xs ps j)) (fun i _ => m - (intOf i).toNat)
      case atStart => exact ⟨0, 0, Nat.zero_le _, rfl, rfl, rfl, InTo.zero _ _⟩
      case round =>
        obtain ⟨j, z, hj, rfl, rfl, hz, hin⟩ := hrel
        by_cases hjm : j < m
        · have Hj : Hid (j < xs.length) := by show _ < _; rw [← HN.out]; exact hjm
          have hc1 := HC.out j hjm
          have hc2 := HD.out j hjm
          by_cases h1 : ps[j]?.getD 0 < 0
          · have HO : Hid (r = (0, false)) := by rw [Hid, HR.out]; exact offset_out (not_in_low Hj.out h1)
            go_wp2
            go_ret2
            exact ⟨by rw [HO.out]; rfl, rfl⟩
          · by_cases h2 : xs[j]?.getD 0 ≤ ps[j]?.getD 0
            · have HO : Hid (r = (0, false)) := by rw [Hid, HR.out]; exact offset_out (not_in_high Hj.out h2)
              go_wp2
              go_ret2
              exact ⟨by rw [HO.out]; rfl, rfl⟩
            · have hin2 : InTo xs ps (j + 1) := hin.out.succ (by omega) (by omega)
              have hb := rankTo_bd hg.pos (j + 1) (by have := Hj.out; omega) hin2
              have hb2 := rankTo_bd hg.pos j (by have := Hj.out; omega) hin.out
              have hp := hg.take_le (j + 1)
              have hz' : z * xs[j]?.getD 0 + ps[j]?.getD 0 = rankTo xs ps (j + 1) := by rw [rankTo, hz.out]
              rw [← hz'] at hb
              rw [← hz.out] at hb2
              have hx1 := hg.get Hj.out
              have hzx : 0 ≤ z * xs[j]?.getD 0 := Int.mul_nonneg (by omega) (by omega)
              have hb3 : z * xs[j]?.getD 0 + ps[j]?.getD 0 < 4096 := by omega
              have Hz := Lib.hid hz'
              have Hin := Lib.hid hin2
              clear hz' hin2 hb hb2 hp
              go_wp2
              go_round
              case rel => exact ⟨j + 1, _, by omega, by go_num, rfl, Hz, Hin⟩
              case measure => simp [intOf]; omega
        · obtain rfl : j = m := by omega
          have HO : Hid (r = (z, true)) := by
            rw [Hid, HR.out, offset_in h0 ⟨by rw [← HM.out, HN.out], by rw [← HN.out]; exact hin.out⟩, hz.out, rank, ← HN.out]
          go_wp2
          go_ret2
          exact ⟨by rw [HO.out]; rfl, rfl⟩
    · have HO : Hid (r = (0, false)) := by rw [Hid, HR.out]; exact offset_out (fun h2 => hnm (by rw [HM.out, HN.out, h2.1]))
      go_enter Try.func19, Try.ntmps19
      go_wp2_with (go_at_call 10; refine (shape_Validate hu).mono ?_; rintro e w' ⟨rfl, rfl⟩)
      go_ret2
      exact ⟨by rw [HO.out]; rfl, rfl⟩
  · have HO : Hid (r = (0, false)) := by rw [Hid, HR.out]; exact offset_bad h0
    go_enter Try.func19, Try.ntmps19
    go_wp2_with (go_at_call 10; refine (shape_Validate hu).mono ?_; rintro e w' ⟨rfl, rfl⟩)
    go_ret2
    exact ⟨by rw [HO.out]; rfl, rfl⟩

set_option maxHeartbeats 2000000 in
theorem ref11_Offset {u v : Value} {xs ps : List Int} {w : World} (hu : IsInts w u xs) (hv : IsInts w v ps) :
    Calls Try.prog 20 #[u, v] w fun e w' => e = .returned (.tuple #[.int .i64 (offset xs ps).1, .bool (offset xs ps).2]) ∧ Ext w w' := by
  obtain ⟨a, n, c, HN, hnc, rfl, h⟩ := hu.open
  obtain ⟨b, m, d, HM, hmd, rfl, k⟩ := hv.open
  have hix := idx_ints h n c HN
  have hiy := idx_ints k m d HM
  have hl := h.len
  have hm := k.len
  rw [← HN.out] at hl
  rw [← HM.out] at hm
  obtain ⟨r, hr⟩ : ∃ r, r = offset xs ps := ⟨_, rfl⟩
  rw [← hr]
  have HR := Lib.hid hr
  clear hr
  by_cases h0 : vld xs = 0
  · have hg := good_of_vld h0
    by_cases hnm : m = n
    · subst hnm
      go_enter Try.func20, Try.ntmps20
      go_wp2_with (go_at_call 11; refine (ref11_Validate hu).mono ?_; rintro e w' ⟨rfl, rfl⟩)
      go_loopw [7, 6] (fun i s wr => ∃ (j : Nat) (z : Int), j ≤ m ∧ i = .int .i64 j ∧ s = .int .i64 z ∧ Hid (z = rankTo xs ps j) ∧ Hid (InTo xs ps j) ∧ Ext w wr) (fun i _ _ => m - (intOf i).toNat)
      case atStart => exact ⟨0, 0, Nat.zero_le _, rfl, rfl, rfl, InTo.zero _ _, Ext.refl w⟩
      case round =>
        obtain ⟨j, z, hj, rfl, rfl, hz, hin, hx⟩ := hrel
        by_cases hjm : j < m
        · have Hj : Hid (j < xs.length) := by show _ < _; rw [← HN.out]; exact hjm
          have hc1 := (h.ext hx).cell j Hj.out
          have hc2 := (k.ext hx).cell j (by rw [← HM.out]; exact hjm)
          by_cases h1 : ps[j]?.getD 0 < 0
          · have HO : Hid (r = (0, false)) := by rw [Hid, HR.out]; exact offset_out (not_in_low Hj.out h1)
            go_wp2
            go_quiet (fail)
            go_wp2
            go_ret2
            exact ⟨by rw [HO.out]; rfl, hx.drewN _⟩
          · have h1b : decide (ps[j]?.getD 0 < 0) = false := decide_eq_false h1
            by_cases h2 : xs[j]?.getD 0 ≤ ps[j]?.getD 0
            · have HO : Hid (r = (0, false)) := by rw [Hid, HR.out]; exact offset_out (not_in_high Hj.out h2)
              go_wp2
              go_quiet (fail)
              go_wp2
              go_ret2
              exact ⟨by rw [HO.out]; rfl, hx.drewN _⟩
            · have hin2 : InTo xs ps (j + 1) := hin.out.succ (by omega) (by omega)
              have hb := rankTo_bd hg.pos (j + 1) (by have := Hj.out; omega) hin2
              have hb2 := rankTo_bd hg.pos j (by have := Hj.out; omega) hin.out
              have hp := hg.take_le (j + 1)
              have hz' : z * xs[j]?.getD 0 + ps[j]?.getD 0 = rankTo xs ps (j + 1) := by rw [rankTo, hz.out]
              rw [← hz'] at hb
              rw [← hz.out] at hb2
              have hx1 := hg.get Hj.out
              have hzx : 0 ≤ z * xs[j]?.getD 0 := Int.mul_nonneg (by omega) (by omega)
              have hb3 : z * xs[j]?.getD 0 + ps[j]?.getD 0 < 4096 := by omega
              have Hz := Lib.hid hz'
              have Hin := Lib.hid hin2
              clear hz' hin2 hb hb2 hp
              go_wp2
              go_quiet (fail)
              go_wp2
              go_quiet (fail)
              go_wp2
              go_roundw
              case rel => exact ⟨j + 1, _, by omega, by go_num, rfl, Hz, Hin, hx.drewN _⟩
              case measure => simp [intOf]; omega
        · obtain rfl : j = m := by omega
          have HO : Hid (r = (z, true)) := by
            rw [Hid, HR.out, offset_in h0 ⟨by rw [← HM.out, HN.out], by rw [← HN.out]; exact hin.out⟩, hz.out, rank, ← HN.out]
          go_wp2
          go_ret2
          exact ⟨by rw [HO.out]; rfl, hx⟩
    · have HO : Hid (r = (0, false)) := by rw [Hid, HR.out]; exact offset_out (fun h2 => hnm (by rw [HM.out, HN.out, h2.1]))
      go_enter Try.func20, Try.ntmps20
      go_wp2_with (go_at_call 11; refine (ref11_Validate hu).mono ?_; rintro e w' ⟨rfl, rfl⟩)
      go_ret2
      exact ⟨by rw [HO.out]; rfl, Ext.refl w⟩
  · have HO : Hid (r = (0, false)) := by rw [Hid, HR.out]; exact offset_bad h0
    go_enter Try.func20, Try.ntmps20
    go_wp2_with (go_at_call 11; refine (ref11_Validate hu).mono ?_; rintro e w' ⟨rfl, rfl⟩)
    go_ret2
    exact ⟨by rw [HO.out]; rfl, Ext.refl w⟩
end Go.Proofs.Ytcdjgfamgnhffaa
