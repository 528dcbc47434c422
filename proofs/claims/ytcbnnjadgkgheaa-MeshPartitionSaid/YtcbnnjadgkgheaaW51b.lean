/- The walks of mesh.Devices, Coordinates, Device and their references. -/
import Derived.Test.YtcbnnjadgkgheaaW51a
set_option linter.unusedVariables false
set_option linter.unusedSimpArgs false
namespace Go.Proofs.Ytcbnnjadgkgheaa
open Go.RowKit

set_option maxHeartbeats 2000000 in
theorem mesh_Devices {u : Value} {xs : List Int} {w : World} (hv : IsInts w u xs) :
    Calls Try.prog 31 #[.agg #[u]] w fun e w' => e = .returned (.int .i64 (devices xs)) ∧ Ext w w' := by
  obtain ⟨a, n, c, HN, hnc, rfl, h⟩ := hv.open
  have Hxb : Hid (Ext w (w.alloc (.cells #[.slice a n c] 24))) := (Ext.refl w).alloc _
  have Har : Hid (Arr (w.alloc (.cells #[.slice a n c] 24)) w.heap.size 24 [.slice a n c]) := Arr.new w #[.slice a n c] _
  by_cases hm : MeshOk xs
  · have hv0 := vmesh_yes hm
    have HD : Hid (bcount xs = devices xs) := by rw [Hid, hm.count, devices_yes hm]
    clear hm
    go_enter Try.func31, Try.ntmps31
    go_wp2_with fail
    refine (mesh_Validate (hv.ext Hxb.out)).mono ?_
    rintro e w1 ⟨rfl, hx1⟩
    have hc := (Har.out.ext hx1).cell 0
    simp only [List.getElem?_cons_zero] at hc
    have hvc := (hv.ext Hxb.out).ext hx1
    go_wp2_with (go_at_call 41; refine (box_Count hvc).mono ?_; rintro e w' ⟨rfl, rfl⟩)
    go_ret
    exact ⟨ret_int HD.out, Hxb.out.trans hx1⟩
  · have hv0 := vmesh_no hm
    have HD : Hid (devices xs = 0) := devices_no hm
    clear hm
    go_enter Try.func31, Try.ntmps31
    go_wp2_with fail
    refine (mesh_Validate (hv.ext Hxb.out)).mono ?_
    rintro e w1 ⟨rfl, hx1⟩
    go_wp2
    go_ret
    exact ⟨ret_int HD.out.symm, Hxb.out.trans hx1⟩

set_option maxHeartbeats 2000000 in
theorem ref51_Devices {u : Value} {xs : List Int} {w : World} (hv : IsInts w u xs) :
    Calls Try.prog 32 #[.agg #[u]] w fun e w' => e = .returned (.int .i64 (devices xs)) ∧ Ext w w' := by
  obtain ⟨a, n, c, HN, hnc, rfl, h⟩ := hv.open
  have hix := idx_ints h n c HN
  have hl := h.len
  rw [← HN.out] at hl
  have Hxb : Hid (Ext w (w.alloc (.cells #[.slice a n c] 24))) := (Ext.refl w).alloc _
  have Har : Hid (Arr (w.alloc (.cells #[.slice a n c] 24)) w.heap.size 24 [.slice a n c]) := Arr.new w #[.slice a n c] _
  by_cases hm : MeshOk xs
  · have hv0 := vmesh_yes hm
    have HD : Hid (devices xs = prod xs) := devices_yes hm
    have hg := hm.posB
    clear hm
    go_enter Try.func32, Try.ntmps32
    go_wp2_with fail
    refine (ref51_Validate (hv.ext Hxb.out)).mono ?_
    rintro e w1 ⟨rfl, hx1⟩
    have hc := (Har.out.ext hx1).cell 0
    simp only [List.getElem?_cons_zero] at hc
    have HC : Hid (∀ k, k < n → w1.cell? (adr a k) = some (.int .i64 (xs[k]?.getD 0))) := fun k hk => (h.ext (Hxb.out.trans hx1)).cell k (by rw [← HN.out]; exact hk)
    go_wp2
    go_loop [4, 3] (fun i s => ∃ (k : Nat) (z : Int), k ≤ n ∧ i = .int .i64 k ∧ s = .int .i64 z ∧ Hid (z = prod (xs.take k))) (fun i _ => n - (intOf i).toNat)
    case atStart => exact ⟨0, 1, Nat.zero_le _, rfl, rfl, rfl⟩
    case round =>
      obtain ⟨k, z, hk, rfl, rfl, hz⟩ := hrel
      by_cases hkn : k < n
      · have hcell := HC.out k hkn
        have hz' : z * xs[k]?.getD 0 = prod (xs.take (k + 1)) := by rw [prod_take_succ (by rw [← HN.out]; exact hkn), hz.out]
        have hb := hg.take_le (k + 1)
        rw [← hz'] at hb
        have Hz := Lib.hid hz'
        clear hz'
        obtain ⟨hb1, hb2⟩ := hb
        go_wp2
        go_round
        case rel => exact ⟨k + 1, _, by omega, by go_num, rfl, Hz⟩
        case measure => simp [intOf]; omega
      · go_wp2
        go_ret
        exact ⟨ret_int (by rw [HD.out, hz.out, List.take_of_length_le (by rw [← HN.out]; omega)]), Hxb.out.trans ‹Ext _ w1›⟩
  · have hv0 := vmesh_no hm
    have HD : Hid (devices xs = 0) := devices_no hm
    clear hm
    go_enter Try.func32, Try.ntmps32
    go_wp2_with fail
    refine (ref51_Validate (hv.ext Hxb.out)).mono ?_
    rintro e w1 ⟨rfl, hx1⟩
    go_wp2
    go_ret
    exact ⟨ret_int HD.out.symm, Hxb.out.trans hx1⟩

set_option maxHeartbeats 2000000 in
theorem mesh_Coordinates {u : Value} {xs : List Int} {d : Int} {w : World} (hv : IsInts w u xs) (hd : d ≤ 9223372036854775807) :
    Calls Try.prog 25 #[.agg #[u], .int .i64 d] w (RetOk w (coords xs d)) := by
  obtain ⟨a, n, c, HN, hnc, rfl, h⟩ := hv.open
  have Hxb : Hid (Ext w (w.alloc (.cells #[.slice a n c] 24))) := (Ext.refl w).alloc _
  have Har : Hid (Arr (w.alloc (.cells #[.slice a n c] 24)) w.heap.size 24 [.slice a n c]) := Arr.new w #[.slice a n c] _
  by_cases hm : MeshOk xs
  · have hv0 := vmesh_yes hm
    have HD : Hid (bpoint xs d = coords xs d) := by rw [Hid, bpoint, coords, hm.count, devices_yes hm]
    clear hm
    go_enter Try.func25, Try.ntmps25
    go_wp2_with fail
    refine (mesh_Validate (hv.ext Hxb.out)).mono ?_
    rintro e w1 ⟨rfl, hx1⟩
    have hc := (Har.out.ext hx1).cell 0
    simp only [List.getElem?_cons_zero] at hc
    have hvc := (hv.ext Hxb.out).ext hx1
    go_wp2_with (go_at_call 49; refine (box_Point hvc hd).mono ?_; rintro e w2 ⟨v2, rfl, hv2, hx2⟩; rw [HD.out] at hv2 ⊢)
    go_ret2
    exact ⟨_, rfl, hv2, (Hxb.out.trans hx1).trans hx2⟩
  · have hv0 := vmesh_no hm
    have HD : Hid (coords xs d = ([], false)) := coords_out (by rw [devices_no hm]; omega)
    clear hm
    go_enter Try.func25, Try.ntmps25
    go_wp2_with fail
    refine (mesh_Validate (hv.ext Hxb.out)).mono ?_
    rintro e w1 ⟨rfl, hx1⟩
    go_wp2
    go_ret2
    exact ⟨_, by rw [HD.out]; rfl, by rw [HD.out]; exact IsInts.nil _, Hxb.out.trans hx1⟩

set_option maxHeartbeats 2000000 in
theorem mesh_Device {u v : Value} {xs ps : List Int} {w : World} (hu : IsInts w u xs) (hv : IsInts w v ps) :
    Calls Try.prog 27 #[.agg #[u], v] w fun e w' => e = .returned (.tuple #[.int .i64 (devAt xs ps).1, .bool (devAt xs ps).2]) ∧ Ext w w' := by
  obtain ⟨a, n, c, HN, hnc, rfl, h⟩ := hu.open
  have Hxb : Hid (Ext w (w.alloc (.cells #[.slice a n c] 24))) := (Ext.refl w).alloc _
  have Har : Hid (Arr (w.alloc (.cells #[.slice a n c] 24)) w.heap.size 24 [.slice a n c]) := Arr.new w #[.slice a n c] _
  by_cases hm : MeshOk xs
  · have hv0 := vmesh_yes hm
    have HD : Hid (brank xs ps = devAt xs ps) := by
      show _ = _
      by_cases hi : InB xs ps
      · rw [brank_in ⟨hm.bval, hi⟩, devAt_in ⟨hm, hi⟩]
      · rw [brank_out (fun hh => hi hh.2), devAt_out (fun hh => hi hh.2)]
    clear hm
    go_enter Try.func27, Try.ntmps27
    go_wp2_with fail
    refine (mesh_Validate (hu.ext Hxb.out)).mono ?_
    rintro e w1 ⟨rfl, hx1⟩
    have hc := (Har.out.ext hx1).cell 0
    simp only [List.getElem?_cons_zero] at hc
    have huc := (hu.ext Hxb.out).ext hx1
    have hvc := (hv.ext Hxb.out).ext hx1
    go_wp2_with (go_at_call 51; refine (box_Rank huc hvc).mono ?_; rintro e w2 ⟨rfl, hx2⟩; rw [HD.out])
    go_ret2
    exact ⟨rfl, (Hxb.out.trans hx1).trans hx2⟩
  · have hv0 := vmesh_no hm
    have HD : Hid (devAt xs ps = (0, false)) := devAt_out (fun hh => hm hh.1)
    clear hm
    go_enter Try.func27, Try.ntmps27
    go_wp2_with fail
    refine (mesh_Validate (hu.ext Hxb.out)).mono ?_
    rintro e w1 ⟨rfl, hx1⟩
    go_wp2
    go_ret2
    exact ⟨by rw [HD.out]; rfl, Hxb.out.trans hx1⟩

set_option maxHeartbeats 2000000 in
theorem ref51_Coordinates {v : Value} {xs : List Int} {at' : Int} {w : World} (hv : IsInts w v xs) (hat : at' ≤ 9223372036854775807) :
    Calls Try.prog 26 #[.agg #[v], .int .i64 at'] w (RetOk w (coords xs at')) := by
  obtain ⟨a, n, c, HN, hnc, rfl, h⟩ := hv.open
  have hix := idx_ints h n c HN
  have hl := h.len
  rw [← HN.out] at hl
  have Hxb : Hid (Ext w (w.alloc (.cells #[.slice a n c] 24))) := (Ext.refl w).alloc _
  have Har : Hid (Arr (w.alloc (.cells #[.slice a n c] 24)) w.heap.size 24 [.slice a n c]) := Arr.new w #[.slice a n c] _
  have hvb := hv.ext Hxb.out
  obtain ⟨r, hr⟩ : ∃ r, r = coords xs at' := ⟨_, rfl⟩
  rw [← hr]
  have HR := Lib.hid hr
  clear hr
  by_cases hlow : at' < 0
  · have HO : Hid (r = ([], false)) := by rw [Hid, HR.out]; exact coords_out (by omega)
    go_enter Try.func26, Try.ntmps26
    go_wp2_with (go_at_call 32; refine (ref51_Devices hvb).mono ?_; rintro e w' ⟨rfl, rfl⟩)
    go_ret2
    exact ⟨_, by rw [HO.out]; rfl, by rw [HO.out]; exact IsInts.nil _, Hxb.out⟩
  · by_cases hhigh : devices xs ≤ at'
    · have HO : Hid (r = ([], false)) := by rw [Hid, HR.out]; exact coords_out (by omega)
      go_enter Try.func26, Try.ntmps26
      go_wp2_with (go_at_call 32; refine (ref51_Devices hvb).mono ?_; rintro e w' ⟨rfl, hx0⟩)
      go_ret2
      exact ⟨_, by rw [HO.out]; rfl, by rw [HO.out]; exact IsInts.nil _, Hxb.out.trans hx0⟩
    · have hsc := devices_pos (xs := xs) (d := at') (by omega)
      have hg := hsc.1.posB
      have h6 : n ≤ 3 := by rw [HN.out]; exact hsc.1.2.1
      have HO : Hid (r = (pointOf xs at', true)) := by rw [Hid, HR.out]; exact coords_in (by omega)
      clear hsc
      go_enter Try.func26, Try.ntmps26
      go_wp2_with (first
        | (go_at_call 32; refine (ref51_Devices hvb).mono ?_; rintro e w0 ⟨rfl, hx0⟩; have hcb := (Har.out.ext hx0).cell 0; simp only [List.getElem?_cons_zero] at hcb)
        | (at_make; refine make_ints' rfl _ _ rfl n n n rfl rfl rfl rfl (by omega) ?_; intro w1 g harr hge0 hx10; have hcb1 := (Har.out.ext (hx0.trans hx10)).cell 0; simp only [List.getElem?_cons_zero] at hcb1))
      have hx1 := hx0.trans hx10
      have hge := Nat.le_trans hx0.size hge0
      clear hx10 hge0 hx0
      go_loopw [7, 1] (fun i s wr => ∃ (i' : Int) (z : Int), -1 ≤ i' ∧ i' < n ∧ i = .int .i64 i' ∧ s = .int .i64 z ∧ 0 ≤ z ∧ z ≤ 9223372036854775807 ∧ Hid (z = at' / prod (xs.drop (i' + 1).toNat)) ∧ Ext (w.alloc (.cells #[.slice a n c] 24)) wr ∧
          Arr wr g 3 ((List.replicate (i' + 1).toNat 0 ++ (pointOf xs at').drop (i' + 1).toNat).map (.int .i64))) (fun i _ _ => (intOf i + 1).toNat)
      case atStart =>
        have e : ((n : Int) - 1 + 1).toNat = n := by omega
        refine ⟨_, _, by omega, by omega, rfl, rfl, by omega, hat, ?_, hx1, ?_⟩
        · show _ = _
          rw [e, List.drop_eq_nil_of_le (by rw [← HN.out]; omega), prod, Int.ediv_one]
        · rw [e, List.drop_eq_nil_of_le (by rw [length_pointOf, ← HN.out]; omega), List.append_nil]
          exact harr
      case round =>
        obtain ⟨i', z, hi1, hi2, rfl, rfl, hz0, hz1, hz, hx, ho⟩ := hrel
        have hcbr := (Har.out.ext hx).cell 0
        simp only [List.getElem?_cons_zero] at hcbr
        by_cases hi : 0 ≤ i'
        · obtain ⟨k, rfl⟩ := Int.eq_ofNat_of_zero_le hi
          have hk : k < n := by omega
          have Hk : Hid (k < xs.length) := by show _ < _; rw [← HN.out]; exact hk
          rw [show ((k : Int) + 1).toNat = k + 1 from by omega] at ho hz
          have hcell := (h.ext (Hxb.out.trans hx)).cell k Hk.out
          have hlen : Hid (k < (List.replicate (k + 1) (0 : Int) ++ (pointOf xs at').drop (k + 1)).length) := by
            show _ < _
            rw [List.length_append, List.length_replicate]; omega
          have hc1 := ho.int hlen.out
          have hc2 := ho.free k
          have hx1 := (hg.get Hk.out).1
          have hq0 : 0 ≤ z / xs[k]?.getD 0 := Int.ediv_nonneg hz0 (by omega)
          have hq1 : z / xs[k]?.getD 0 ≤ z := Int.ediv_le_self _ hz0
          have hx2 := hx.setCell (p := ⟨g, k, none⟩) hge (.int .i64 (z % xs[k]?.getD 0))
          have hcell2 := (h.ext (Hxb.out.trans hx2)).cell k Hk.out
          have hcb2 := (Har.out.ext hx2).cell 0
          simp only [List.getElem?_cons_zero] at hcb2
          have ho2 := ho.store k (.int .i64 (z % xs[k]?.getD 0))
          have Hx2 := Lib.hid hx2
          have Ho2 := Lib.hid ho2
          clear hx2 ho2 ho
          go_wp2
          go_roundw
          case rel =>
            have e : ((k : Int) - 1 + 1).toNat = k := by omega
            refine ⟨_, _, by omega, by omega, rfl, rfl, hq0, by omega, ?_, Hx2.out, ?_⟩
            · show _ = _
              rw [e, hz.out, div_drop hg.pos at' Hk.out]
            · have h2 := Ho2.out
              rw [← List.map_set, set_fill, coord_div hz.out, ← pointOf_drop Hk.out] at h2
              rw [e, coord_div hz.out]
              exact h2
          case measure => simp [intOf]
        · obtain rfl : i' = -1 := by omega
          have HL : Hid (n = (pointOf xs at').length) := by show _ = _; rw [length_pointOf]; exact HN.out
          have ho2 : Arr wr g 3 ((pointOf xs at').map (.int .i64)) := ho
          clear ho
          go_wp2
          go_ret2
          exact ⟨_, by rw [HO.out]; rfl, by rw [HO.out]; exact ho2.isInts HL.out (Nat.le_refl _) (by omega), Hxb.out.trans hx⟩

set_option maxHeartbeats 2000000 in
theorem ref51_Device {u v : Value} {xs ps : List Int} {w : World} (hu : IsInts w u xs) (hv : IsInts w v ps) :
    Calls Try.prog 28 #[.agg #[u], v] w fun e w' => e = .returned (.tuple #[.int .i64 (devAt xs ps).1, .bool (devAt xs ps).2]) ∧ Ext w w' := by
  obtain ⟨a, n, c, HN, hnc, rfl, h⟩ := hu.open
  obtain ⟨b, m, d, HM, hmd, rfl, k⟩ := hv.open
  have hix := idx_ints h n c HN
  have hiy := idx_ints k m d HM
  have hl := h.len
  have hm := k.len
  rw [← HN.out] at hl
  rw [← HM.out] at hm
  have Hxb : Hid (Ext w (w.alloc (.cells #[.slice a n c] 24))) := (Ext.refl w).alloc _
  have Har : Hid (Arr (w.alloc (.cells #[.slice a n c] 24)) w.heap.size 24 [.slice a n c]) := Arr.new w #[.slice a n c] _
  have hub := hu.ext Hxb.out
  obtain ⟨r, hr⟩ : ∃ r, r = devAt xs ps := ⟨_, rfl⟩
  rw [← hr]
  have HR := Lib.hid hr
  clear hr
  by_cases hm0 : MeshOk xs
  · have h0 := vmesh_yes hm0
    have hg := hm0.posB
    have HM0 := Lib.hid hm0
    by_cases hnm : m = n
    · subst hnm
      go_enter Try.func28, Try.ntmps28
      go_wp2_with (go_at_call 30; refine (ref51_Validate hub).mono ?_; rintro e w1 ⟨rfl, hx1⟩; have hcb := (Har.out.ext hx1).cell 0; simp only [List.getElem?_cons_zero] at hcb)
      go_loopw [7, 6] (fun i s wr => ∃ (j : Nat) (z : Int), j ≤ m ∧ i = .int .i64 j ∧ s = .int .i64 z ∧ Hid (z = rankTo xs ps j) ∧ Hid (InTo xs ps j) ∧ Ext (w.alloc (.cells #[.slice a m c] 24)) wr) (fun i _ _ => m - (intOf i).toNat)
      case atStart => exact ⟨0, 0, Nat.zero_le _, rfl, rfl, rfl, InTo.zero _ _, hx1⟩
      case round =>
        obtain ⟨j, z, hj, rfl, rfl, hz, hin, hx⟩ := hrel
        have hcbr := (Har.out.ext hx).cell 0
        simp only [List.getElem?_cons_zero] at hcbr
        by_cases hjm : j < m
        · have Hj : Hid (j < xs.length) := by show _ < _; rw [← HN.out]; exact hjm
          have hc1 := (h.ext (Hxb.out.trans hx)).cell j Hj.out
          have hc2 := (k.ext (Hxb.out.trans hx)).cell j (by rw [← HM.out]; exact hjm)
          by_cases h1 : ps[j]?.getD 0 < 0
          · have HO : Hid (r = (0, false)) := by rw [Hid, HR.out]; exact devAt_out (fun hh => not_in_low Hj.out h1 hh.2)
            go_wp2
            go_quiet (fail)
            go_wp2
            go_ret2
            exact ⟨by rw [HO.out]; rfl, Hxb.out.trans (hx.drewN _)⟩
          · have h1b : decide (ps[j]?.getD 0 < 0) = false := decide_eq_false h1
            by_cases h2 : xs[j]?.getD 0 ≤ ps[j]?.getD 0
            · have HO : Hid (r = (0, false)) := by rw [Hid, HR.out]; exact devAt_out (fun hh => not_in_high Hj.out h2 hh.2)
              go_wp2
              go_quiet (fail)
              go_wp2
              go_ret2
              exact ⟨by rw [HO.out]; rfl, Hxb.out.trans (hx.drewN _)⟩
            · have hin2 : InTo xs ps (j + 1) := hin.out.succ (by omega) (by omega)
              have hb := rankTo_bd hg.pos (j + 1) (by have := Hj.out; omega) hin2
              have hb2 := rankTo_bd hg.pos j (by have := Hj.out; omega) hin.out
              have hp := hg.take_le (j + 1)
              have hz' : z * xs[j]?.getD 0 + ps[j]?.getD 0 = rankTo xs ps (j + 1) := by rw [rankTo, hz.out]
              rw [← hz'] at hb
              rw [← hz.out] at hb2
              have hgx := hg.get Hj.out
              have hzx : 0 ≤ z * xs[j]?.getD 0 := Int.mul_nonneg (by omega) (by omega)
              have hb3 : z * xs[j]?.getD 0 + ps[j]?.getD 0 < 16 := by omega
              have Hz := Lib.hid hz'
              have Hin := Lib.hid hin2
              clear hz' hin2 hb hb2 hp
              go_wp2
              go_quiet (fail)
              go_wp2
              go_quiet (fail)
              go_wp2
              go_roundw
              case rel => exact ⟨j + 1, _, by omega, by go_num, rfl, Hz, Hin, hx.drewN _⟩
              case measure => simp [intOf]; omega
        · obtain rfl : j = m := by omega
          have HO : Hid (r = (z, true)) := by
            rw [Hid, HR.out, devAt_in ⟨HM0.out, by rw [← HM.out, HN.out], by rw [← HN.out]; exact hin.out⟩, hz.out, rank, ← HN.out]
          go_wp2
          go_ret2
          exact ⟨by rw [HO.out]; rfl, Hxb.out.trans hx⟩
    · have HO : Hid (r = (0, false)) := by rw [Hid, HR.out]; exact devAt_out (fun h2 => hnm (by rw [HM.out, HN.out, h2.2.1]))
      go_enter Try.func28, Try.ntmps28
      go_wp2_with (go_at_call 30; refine (ref51_Validate hub).mono ?_; rintro e w1 ⟨rfl, hx1⟩; have hcb := (Har.out.ext hx1).cell 0; simp only [List.getElem?_cons_zero] at hcb)
      go_ret2
      exact ⟨by rw [HO.out]; rfl, Hxb.out.trans hx1⟩
  · have HO : Hid (r = (0, false)) := by rw [Hid, HR.out]; exact devAt_out (fun hh => hm0 hh.1)
    have h0 := vmesh_no hm0
    go_enter Try.func28, Try.ntmps28
    go_wp2_with (go_at_call 30; refine (ref51_Validate hub).mono ?_; rintro e w1 ⟨rfl, hx1⟩; have hcb := (Har.out.ext hx1).cell 0; simp only [List.getElem?_cons_zero] at hcb)
    go_ret2
    exact ⟨by rw [HO.out]; rfl, Hxb.out.trans hx1⟩
end Go.Proofs.Ytcbnnjadgkgheaa
