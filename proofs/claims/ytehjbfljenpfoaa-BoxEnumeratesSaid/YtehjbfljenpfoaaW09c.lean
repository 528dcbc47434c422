/- The walks of box.Point and its reference. -/
import Derived.Test.YtehjbfljenpfoaaW09b
import Derived.Test.YtehjbfljenpfoaaCommon
set_option linter.unusedVariables false
set_option linter.unusedSimpArgs false
namespace Go.Proofs.Ytehjbfljenpfoaa
open Go.RowKit

set_option maxHeartbeats 2000000 in
theorem box_Point {v : Value} {xs : List Int} {at' : Int} {w : World} (hv : IsInts w v xs) (hat : at' ≤ 9223372036854775807) :
  Calls Try.prog 10 #[v, .int .i64 at'] w (RetOk w (bpoint xs at')) := by
 obtain ⟨a, n, c, HN, hnc, rfl, h⟩ := hv.open
 have hix := idx_ints h n c HN
 have hl := h.len
 rw [← HN.out] at hl
 obtain ⟨r, hr⟩ : ∃ r, r = bpoint xs at' := ⟨_, rfl⟩
 rw [← hr]
 have HR := Lib.hid hr
 clear hr
 by_cases hlow : at' < 0
 ·have HO : Hid (r = ([], false)) := by rw [Hid, HR.out]; exact bpoint_out (by omega)
  go_enter Try.func10, Try.ntmps10
  go_wp2_with (go_at_call 13; refine (box_Count hv).mono ?_; rintro e w' ⟨rfl, rfl⟩)
  go_ret2
  exact ⟨_, by rw [HO.out]; rfl, by rw [HO.out]; exact IsInts.nil w, Ext.refl w⟩
 ·by_cases hhigh : bcount xs ≤ at'
  ·have HO : Hid (r = ([], false)) := by rw [Hid, HR.out]; exact bpoint_out (by omega)
   go_enter Try.func10, Try.ntmps10
   go_wp2_with (go_at_call 13; refine (box_Count hv).mono ?_; rintro e w' ⟨rfl, rfl⟩)
   go_ret2
   exact ⟨_, by rw [HO.out]; rfl, by rw [HO.out]; exact IsInts.nil w, Ext.refl w⟩
  ·have hsc := pos_of_count (xs := xs) (by omega)
   have hg := hsc.2.2.2
   have h6 : n ≤ 16 := by rw [HN.out]; exact hsc.2.2.1
   have HO : Hid (r = (pointOf xs at', true)) := by rw [Hid, HR.out]; exact bpoint_in (by omega)
   clear hsc
   go_enter Try.func10, Try.ntmps10
   go_wp2_with (first
    | (go_at_call 13; refine (box_Count hv).mono ?_; rintro e w' ⟨rfl, rfl⟩)
    | (at_make; refine make_ints' rfl _ _ rfl n n n rfl rfl rfl rfl (by omega) ?_; intro w1 g harr hge hx1))
   go_loopw [7, 1] (fun i s wr => ∃ (i' : Int) (z : Int), -1 ≤ i' ∧ i' < n ∧ i = .int .i64 i' ∧ s = .int .i64 z ∧ 0 ≤ z ∧ z ≤ 9223372036854775807 ∧ Hid (z = at' / prod (xs.drop (i' + 1).toNat)) ∧ Ext w wr ∧
     Arr wr g 3 ((List.replicate (i' + 1).toNat 0 ++ (pointOf xs at').drop (i' + 1).toNat).map (.int .i64))) (fun i _ _ => (intOf i + 1).toNat)
   case atStart =>
    have e : ((n : Int) - 1 + 1).toNat = n := by omega
    refine ⟨_, _, by omega, by omega, rfl, rfl, by omega, hat, ?_, hx1, ?_⟩
    ·show _ = _
     rw [e, List.drop_eq_nil_of_le (by rw [← HN.out]; omega), prod, Int.ediv_one]
    ·rw [e, List.drop_eq_nil_of_le (by rw [length_pointOf, ← HN.out]; omega), List.append_nil]
     exact harr
   case round =>
    obtain ⟨i', z, hi1, hi2, rfl, rfl, hz0, hz1, hz, hx, ho⟩ := hrel
    by_cases hi : 0 ≤ i'
    ·obtain ⟨k, rfl⟩ := Int.eq_ofNat_of_zero_le hi
     have hk : k < n := by omega
     have Hk : Hid (k < xs.length) := by show _ < _; rw [← HN.out]; exact hk
     rw [show ((k : Int) + 1).toNat = k + 1 from by omega] at ho hz
     have hcell := (h.ext hx).cell k Hk.out
     have hlen : Hid (k < (List.replicate (k + 1) (0 : Int) ++ (pointOf xs at').drop (k + 1)).length) := by
      show _ < _
      rw [List.length_append, List.length_replicate]; omega
     have hc1 := ho.int hlen.out
     have hc2 := ho.free k
     have hx1 := (hg.get Hk.out).1
     have hq0 : 0 ≤ z / xs[k]?.getD 0 := Int.ediv_nonneg hz0 (by omega)
     have hq1 : z / xs[k]?.getD 0 ≤ z := Int.ediv_le_self _ hz0
     have hge' : w.heap.size ≤ g := hge
     have hx2 := hx.setCell (p := ⟨g, k, none⟩) hge' (.int .i64 (z % xs[k]?.getD 0))
     have hcell2 := (h.ext hx2).cell k Hk.out
     have ho2 := ho.store k (.int .i64 (z % xs[k]?.getD 0))
     have Hx2 := Lib.hid hx2
     have Ho2 := Lib.hid ho2
     clear hx2 ho2 ho
     go_wp2
     go_roundw
     case rel =>
      have e : ((k : Int) - 1 + 1).toNat = k := by omega
      refine ⟨_, _, by omega, by omega, rfl, rfl, hq0, by omega, ?_, Hx2.out, ?_⟩
      ·show _ = _
       rw [e, hz.out, div_drop hg.pos at' Hk.out]
      ·have h2 := Ho2.out
       rw [← List.map_set, set_fill, coord_div hz.out, ← pointOf_drop Hk.out] at h2
       rw [e, coord_div hz.out]
       exact h2
     case measure => simp [intOf]
    ·obtain rfl : i' = -1 := by omega
     have HL : Hid (n = (pointOf xs at').length) := by show _ = _; rw [length_pointOf]; exact HN.out
     have ho2 : Arr wr g 3 ((pointOf xs at').map (.int .i64)) := ho
     clear ho
     go_wp2
     go_ret2
     exact ⟨_, by rw [HO.out]; rfl, by rw [HO.out]; exact ho2.isInts HL.out (Nat.le_refl _) (by omega), hx⟩

set_option maxHeartbeats 2000000 in
theorem ref09_Point {v : Value} {xs : List Int} {at' : Int} {w : World} (hv : IsInts w v xs) (hat : at' ≤ 9223372036854775807) :
  Calls Try.prog 15 #[v, .int .i64 at'] w (RetOk w (bpoint xs at')) := by
 obtain ⟨a, n, c, HN, hnc, rfl, h⟩ := hv.open
 have hix := idx_ints h n c HN
 have hl := h.len
 rw [← HN.out] at hl
 obtain ⟨r, hr⟩ : ∃ r, r = bpoint xs at' := ⟨_, rfl⟩
 rw [← hr]
 have HR := Lib.hid hr
 clear hr
 by_cases hlow : at' < 0
 ·have HO : Hid (r = ([], false)) := by rw [Hid, HR.out]; exact bpoint_out (by omega)
  go_enter Try.func15, Try.ntmps15
  go_wp2_with (go_at_call 4; refine (ref09_Count hv).mono ?_; rintro e w' ⟨rfl, rfl⟩)
  go_ret2
  exact ⟨_, by rw [HO.out]; rfl, by rw [HO.out]; exact IsInts.nil w, Ext.refl w⟩
 ·by_cases hhigh : bcount xs ≤ at'
  ·have HO : Hid (r = ([], false)) := by rw [Hid, HR.out]; exact bpoint_out (by omega)
   go_enter Try.func15, Try.ntmps15
   go_wp2_with (go_at_call 4; refine (ref09_Count hv).mono ?_; rintro e w' ⟨rfl, hx0⟩)
   go_ret2
   exact ⟨_, by rw [HO.out]; rfl, by rw [HO.out]; exact IsInts.nil _, hx0⟩
  ·have hsc := pos_of_count (xs := xs) (by omega)
   have hg := hsc.2.2.2
   have h6 : n ≤ 16 := by rw [HN.out]; exact hsc.2.2.1
   have HO : Hid (r = (pointOf xs at', true)) := by rw [Hid, HR.out]; exact bpoint_in (by omega)
   clear hsc
   go_enter Try.func15, Try.ntmps15
   go_wp2_with (first
    | (go_at_call 4; refine (ref09_Count hv).mono ?_; rintro e w0 ⟨rfl, hx0⟩)
    | (at_make; refine make_ints' rfl _ _ rfl n n n rfl rfl rfl rfl (by omega) ?_; intro w1 g harr hge0 hx10))
   have hx1 := hx0.trans hx10
   have hge := Nat.le_trans hx0.size hge0
   clear hx10 hge0 hx0
   go_loopw [7, 1] (fun i s wr => ∃ (i' : Int) (z : Int), -1 ≤ i' ∧ i' < n ∧ i = .int .i64 i' ∧ s = .int .i64 z ∧ 0 ≤ z ∧ z ≤ 9223372036854775807 ∧ Hid (z = at' / prod (xs.drop (i' + 1).toNat)) ∧ Ext w wr ∧
     Arr wr g 3 ((List.replicate (i' + 1).toNat 0 ++ (pointOf xs at').drop (i' + 1).toNat).map (.int .i64))) (fun i _ _ => (intOf i + 1).toNat)
   case atStart =>
    have e : ((n : Int) - 1 + 1).toNat = n := by omega
    refine ⟨_, _, by omega, by omega, rfl, rfl, by omega, hat, ?_, hx1, ?_⟩
    ·show _ = _
     rw [e, List.drop_eq_nil_of_le (by rw [← HN.out]; omega), prod, Int.ediv_one]
    ·rw [e, List.drop_eq_nil_of_le (by rw [length_pointOf, ← HN.out]; omega), List.append_nil]
     exact harr
   case round =>
    obtain ⟨i', z, hi1, hi2, rfl, rfl, hz0, hz1, hz, hx, ho⟩ := hrel
    by_cases hi : 0 ≤ i'
    ·obtain ⟨k, rfl⟩ := Int.eq_ofNat_of_zero_le hi
     have hk : k < n := by omega
     have Hk : Hid (k < xs.length) := by show _ < _; rw [← HN.out]; exact hk
     rw [show ((k : Int) + 1).toNat = k + 1 from by omega] at ho hz
     have hcell := (h.ext hx).cell k Hk.out
     have hlen : Hid (k < (List.replicate (k + 1) (0 : Int) ++ (pointOf xs at').drop (k + 1)).length) := by
      show _ < _
      rw [List.length_append, List.length_replicate]; omega
     have hc1 := ho.int hlen.out
     have hc2 := ho.free k
     have hx1 := (hg.get Hk.out).1
     have hq0 : 0 ≤ z / xs[k]?.getD 0 := Int.ediv_nonneg hz0 (by omega)
     have hq1 : z / xs[k]?.getD 0 ≤ z := Int.ediv_le_self _ hz0
     have hge' : w.heap.size ≤ g := hge
     have hx2 := hx.setCell (p := ⟨g, k, none⟩) hge' (.int .i64 (z % xs[k]?.getD 0))
     have hcell2 := (h.ext hx2).cell k Hk.out
     have ho2 := ho.store k (.int .i64 (z % xs[k]?.getD 0))
     have Hx2 := Lib.hid hx2
     have Ho2 := Lib.hid ho2
     clear hx2 ho2 ho
     go_wp2
     go_roundw
     case rel =>
      have e : ((k : Int) - 1 + 1).toNat = k := by omega
      refine ⟨_, _, by omega, by omega, rfl, rfl, hq0, by omega, ?_, Hx2.out, ?_⟩
      ·show _ = _
       rw [e, hz.out, div_drop hg.pos at' Hk.out]
      ·have h2 := Ho2.out
       rw [← List.map_set, set_fill, coord_div hz.out, ← pointOf_drop Hk.out] at h2
       rw [e, coord_div hz.out]
       exact h2
     case measure => simp [intOf]
    ·obtain rfl : i' = -1 := by omega
     have HL : Hid (n = (pointOf xs at').length) := by show _ = _; rw [length_pointOf]; exact HN.out
     have ho2 : Arr wr g 3 ((pointOf xs at').map (.int .i64)) := ho
     clear ho
     go_wp2
     go_ret2
     exact ⟨_, by rw [HO.out]; rfl, by rw [HO.out]; exact ho2.isInts HL.out (Nat.le_refl _) (by omega), hx⟩
end Go.Proofs.Ytehjbfljenpfoaa
