/- The walks of shape.Point and its reference. -/
import Derived.Test.YtcdjgfamgnhffaaW11g
set_option linter.unusedVariables false
set_option linter.unusedSimpArgs false
namespace Go.Proofs.Ytcdjgfamgnhffaa
open Go.RowKit

/-- It returns a slice that reads as r.1, and the bool r.2. -/
def RetOk (w : World) (r : List Int × Bool) (e : Ending) (w' : World) : Prop := ∃ v, e = .returned (.tuple #[v, .bool r.2]) ∧ IsInts w' v r.1 ∧ Ext w w'
theorem neg_fill {n : Nat} {k : Nat} {ys : List Int} : (List.replicate (k + 1) (0 : Int) ++ ys).length = k + 1 + ys.length := by simp

theorem arrayLen6 : Try.prog.arrayLen 42 = 6 := by kernel_rfl
theorem run_slice_arr6 (u : World) (g n : Nat) (h : n ≤ 6) :
    (Instr.sliceAt 42 (.pointer (some ⟨g, 0, none⟩)) none (some (.int .i64 (n : Int))) none).run Try.prog u = .ok (.slice (some ⟨g, 0, none⟩) n 6) u := by
  rw [run_sliceAt_array_h u 42 ⟨g, 0, none⟩ (by rw [arrayLen6]; kernel_rfl) .i64 n (by omega) (by rw [arrayLen6]; omega), arrayLen6]
  go_simp

/-- One step down: the quotient and the remainder. -/
theorem coord_div {xs : List Int} {at' z : Int} {k : Nat} (hz : z = at' / prod (xs.drop (k + 1))) : z % xs[k]?.getD 0 = coord xs at' k := by rw [hz]; rfl

set_option maxHeartbeats 2000000 in
theorem ref11_Point {v : Value} {xs : List Int} {at' : Int} {w : World} (hv : IsInts w v xs) (hat : at' ≤ 9223372036854775807) :
    Calls Try.prog 22 #[v, .int .i64 at'] w (RetOk w (point xs at')) := by
  obtain ⟨a, n, c, HN, hnc, rfl, h⟩ := hv.open
  have hix := idx_ints h n c HN
  have hl := h.len
  rw [← HN.out] at hl
  obtain ⟨r, hr⟩ : ∃ r, r = point xs at' := ⟨_, rfl⟩
  rw [← hr]
  have HR := Lib.hid hr
  clear hr
  by_cases hlow : at' < 0
  · have HO : Hid (r = ([], false)) := by rw [Hid, HR.out]; exact point_out (by omega)
    go_enter Try.func22, Try.ntmps22
    go_wp2_with (go_at_call 13; refine (ref11_Size hv).mono ?_; rintro e w' ⟨rfl, rfl⟩)
    go_ret2
    exact ⟨_, by rw [HO.out]; rfl, by rw [HO.out]; exact IsInts.nil w, Ext.refl w⟩
  · by_cases hhigh : size xs ≤ at'
    · have HO : Hid (r = ([], false)) := by rw [Hid, HR.out]; exact point_out (by omega)
      go_enter Try.func22, Try.ntmps22
      go_wp2_with (go_at_call 13; refine (ref11_Size hv).mono ?_; rintro e w' ⟨rfl, rfl⟩)
      go_ret2
      exact ⟨_, by rw [HO.out]; rfl, by rw [HO.out]; exact IsInts.nil w, Ext.refl w⟩
    · have hsc := size_cases (xs := xs) (at' := at') (by omega)
      have hg := good_of_vld hsc.1
      have h6 : n ≤ 6 := by rw [HN.out]; exact hg.len
      have HO : Hid (r = (pointOf xs at', true)) := by rw [Hid, HR.out]; exact point_in (by omega)
      clear hsc
      go_enter Try.func22, Try.ntmps22
      go_wp2_with (first
        | (go_at_call 13; refine (ref11_Size hv).mono ?_; rintro e w' ⟨rfl, rfl⟩)
        | (at_make; refine make_ints' rfl _ _ rfl n n n rfl rfl rfl rfl (by omega) ?_; intro w1 g harr hge hx1))
      go_loopw [7, 1] (fun i s wr => ∃ (i' : Int) (z : Int), -1 ≤ i' ∧ i' < n ∧ i = .int .i64 i' ∧ s = .int .i64 z ∧ 0 ≤ z ∧ z ≤ 9223372036854775807 ∧ Hid (z = at' / prod (xs.drop (i' + 1).toNat)) ∧ Ext w wr ∧
          Arr wr g 3 ((List.replicate (i' + 1).toNat 0 ++ (pointOf xs at').drop (i' + 1).toNat).map (.int .i64))) (fun i _ _ => (intOf i + 1).toNat)
      case atStart =>
        have e : ((n : Int) - 1 + 1).toNat = n := by omega
        refine ⟨_, _, by omega, by omega, rfl, rfl, by omega, hat, ?_, hx1, ?_⟩
        · show _ = _
          rw [e, List.drop_eq_nil_of_le (by rw [← HN.out]; omega), prod, Int.ediv_one]
        · rw [e, List.drop_eq_nil_of_le (by rw [length_pointOf, ← HN.out]; omega), List.append_nil]
          exact harr
      case round =>
        obtain ⟨i', z, hi1, hi2, rfl, rfl, hz0, hz1, hz, hx, ho⟩ := hrel
        by_cases hi : 0 ≤ i'
        · obtain ⟨k, rfl⟩ := Int.eq_ofNat_of_zero_le hi
          have hk : k < n := by omega
          have Hk : Hid (k < xs.length) := by show _ < _; rw [← HN.out]; exact hk
          rw [show ((k : Int) + 1).toNat = k + 1 from by omega] at ho hz
          have hcell := (h.ext hx).cell k Hk.out
          have hlen : Hid (k < (List.replicate (k + 1) (0 : Int) ++ (pointOf xs at').drop (k + 1)).length) := by
            show _ < _
            rw [List.length_append, List.length_replicate]; omega
          have hc1 := ho.int hlen.out
          have hc2 := ho.free k
          have hx1 := (hg.get Hk.out).1
          have hq0 : 0 ≤ z / xs[k]?.getD 0 := Int.ediv_nonneg hz0 (by omega)
          have hq1 : z / xs[k]?.getD 0 ≤ z := Int.ediv_le_self _ hz0
          have hge' : w.heap.size ≤ g := hge
          have hx2 := hx.setCell (p := ⟨g, k, none⟩) hge' (.int .i64 (z % xs[k]?.getD 0))
          have hcell2 := (h.ext hx2).cell k Hk.out
          have ho2 := ho.store k (.int .i64 (z % xs[k]?.getD 0))
          have Hx2 := Lib.hid hx2
          have Ho2 := Lib.hid ho2
          clear hx2 ho2 ho
          go_wp2
          go_roundw
          case rel =>
            have e : ((k : Int) - 1 + 1).toNat = k := by omega
            refine ⟨_, _, by omega, by omega, rfl, rfl, hq0, by omega, ?_, Hx2.out, ?_⟩
            · show _ = _
              rw [e, hz.out, div_drop hg.pos at' Hk.out]
            · have h2 := Ho2.out
              rw [← List.map_set, set_fill, coord_div hz.out, ← pointOf_drop Hk.out] at h2
              rw [e, coord_div hz.out]
              exact h2
          case measure => simp [intOf]
        · obtain rfl : i' = -1 := by omega
          have HL : Hid (n = (pointOf xs at').length) := by show _ = _; rw [length_pointOf]; exact HN.out
          have ho2 : Arr wr g 3 ((pointOf xs at').map (.int .i64)) := ho
          clear ho
          go_wp2
          go_ret2
          exact ⟨_, by rw [HO.out]; rfl, by rw [HO.out]; exact ho2.isInts HL.out (Nat.le_refl _) (by omega), hx⟩
set_option maxHeartbeats 2000000 in
theorem shape_Point {v : Value} {xs : List Int} {at' : Int} {w : World} (hv : IsInts w v xs) (hat : at' ≤ 9223372036854775807) :
    Calls Try.prog 21 #[v, .int .i64 at'] w (RetOk w (point xs at')) := by
  obtain ⟨a, n, c, HN, hnc, rfl, h⟩ := hv.open
  have hix := idx_ints h n c HN
  have hl := h.len
  rw [← HN.out] at hl
  obtain ⟨r, hr⟩ : ∃ r, r = point xs at' := ⟨_, rfl⟩
  rw [← hr]
  have HR := Lib.hid hr
  clear hr
  by_cases hlow : at' < 0
  · have HO : Hid (r = ([], false)) := by rw [Hid, HR.out]; exact point_out (by omega)
    go_enter Try.func21, Try.ntmps21
    go_wp2_with (go_at_call 12; refine (shape_Size hv).mono ?_; rintro e w' ⟨rfl, rfl⟩)
    go_ret2
    exact ⟨_, by rw [HO.out]; rfl, by rw [HO.out]; exact IsInts.nil w, Ext.refl w⟩
  · by_cases hhigh : size xs ≤ at'
    · have HO : Hid (r = ([], false)) := by rw [Hid, HR.out]; exact point_out (by omega)
      go_enter Try.func21, Try.ntmps21
      go_wp2_with (go_at_call 12; refine (shape_Size hv).mono ?_; rintro e w' ⟨rfl, rfl⟩)
      go_ret2
      exact ⟨_, by rw [HO.out]; rfl, by rw [HO.out]; exact IsInts.nil w, Ext.refl w⟩
    · have hsc := size_cases (xs := xs) (at' := at') (by omega)
      have hg := good_of_vld hsc.1
      have h6 : n ≤ 6 := by rw [HN.out]; exact hg.len
      have HO : Hid (r = (pointOf xs at', true)) := by rw [Hid, HR.out]; exact point_in (by omega)
      clear hsc
      go_enter Try.func21, Try.ntmps21
      go_wp2_with (first
        | (go_at_call 12; refine (shape_Size hv).mono ?_; rintro e w' ⟨rfl, rfl⟩)
        | fail)
      have hx1 := (Ext.refl w).alloc (.cells #[Value.int .i64 0, Value.int .i64 0, Value.int .i64 0, Value.int .i64 0, Value.int .i64 0, Value.int .i64 0] 42)
      have harr : Arr (w.alloc (.cells #[Value.int .i64 0, Value.int .i64 0, Value.int .i64 0, Value.int .i64 0, Value.int .i64 0, Value.int .i64 0] 42)) w.heap.size 42 ((List.replicate 6 (0 : Int)).map (.int .i64)) := Arr.new w _ _
      obtain ⟨g, hg'⟩ : ∃ g, w.heap.size = g := ⟨_, rfl⟩
      have hge : w.heap.size ≤ g := by omega
      rw [hg'] at harr ⊢
      clear hg'
      go_loopw [7, 1] (fun i s wr => ∃ (i' : Int) (z : Int), -1 ≤ i' ∧ i' < n ∧ i = .int .i64 i' ∧ s = .int .i64 z ∧ 0 ≤ z ∧ z ≤ 9223372036854775807 ∧ Hid (z = at' / prod (xs.drop (i' + 1).toNat)) ∧ Ext w wr ∧
          Arr wr g 42 ((List.replicate (i' + 1).toNat 0 ++ (pointOf xs at').drop (i' + 1).toNat ++ List.replicate (6 - n) 0).map (.int .i64))) (fun i _ _ => (intOf i + 1).toNat)
      case atStart =>
        have e : ((n : Int) - 1 + 1).toNat = n := by omega
        refine ⟨_, _, by omega, by omega, rfl, rfl, by omega, hat, ?_, hx1, ?_⟩
        · show _ = _
          rw [e, List.drop_eq_nil_of_le (by rw [← HN.out]; omega), prod, Int.ediv_one]
        · rw [e, List.drop_eq_nil_of_le (by rw [length_pointOf, ← HN.out]; omega), List.append_nil, List.replicate_append_replicate, show n + (6 - n) = 6 from by omega]
          exact harr
      case round =>
        obtain ⟨i', z, hi1, hi2, rfl, rfl, hz0, hz1, hz, hx, ho⟩ := hrel
        by_cases hi : 0 ≤ i'
        · obtain ⟨k, rfl⟩ := Int.eq_ofNat_of_zero_le hi
          have hk : k < n := by omega
          have Hk : Hid (k < xs.length) := by show _ < _; rw [← HN.out]; exact hk
          rw [show ((k : Int) + 1).toNat = k + 1 from by omega] at ho hz
          have hcell := (h.ext hx).cell k Hk.out
          have hlen : Hid (k < (List.replicate (k + 1) (0 : Int) ++ (pointOf xs at').drop (k + 1) ++ List.replicate (6 - n) 0).length) := by
            show _ < _
            rw [List.append_assoc, List.length_append, List.length_replicate]; omega
          have hc1 := ho.int hlen.out
          have hc2 := ho.free k
          have hx1 := (hg.get Hk.out).1
          have hq0 : 0 ≤ z / xs[k]?.getD 0 := Int.ediv_nonneg hz0 (by omega)
          have hq1 : z / xs[k]?.getD 0 ≤ z := Int.ediv_le_self _ hz0
          have hge' : w.heap.size ≤ g := hge
          have hx2 := hx.setCell (p := ⟨g, k, none⟩) hge' (.int .i64 (z % xs[k]?.getD 0))
          have hcell2 := (h.ext hx2).cell k Hk.out
          have ho2 := ho.store k (.int .i64 (z % xs[k]?.getD 0))
          have Hx2 := Lib.hid hx2
          have Ho2 := Lib.hid ho2
          clear hx2 ho2 ho
          go_wp2
          go_roundw
          case rel =>
            have e : ((k : Int) - 1 + 1).toNat = k := by omega
            refine ⟨_, _, by omega, by omega, rfl, rfl, hq0, by omega, ?_, Hx2.out, ?_⟩
            · show _ = _
              rw [e, hz.out, div_drop hg.pos at' Hk.out]
            · have h2 := Ho2.out
              rw [← List.map_set, List.append_assoc, set_fill, coord_div hz.out, ← List.cons_append, ← pointOf_drop Hk.out, ← List.append_assoc] at h2
              rw [e, coord_div hz.out]
              exact h2
          case measure => simp [intOf]
        · obtain rfl : i' = -1 := by omega
          have HL : Hid (n = (pointOf xs at').length) := by show _ = _; rw [length_pointOf]; exact HN.out
          have ho2 : Arr wr g 42 ((pointOf xs at' ++ List.replicate (6 - n) 0).map (.int .i64)) := ho
          have hvi := ho2.isInts' (c := 6) HL.out h6 (by omega)
          have hlen : Hid ((pointOf xs at').length ≤ 17592186044416) := by show _ ≤ _; rw [← HL.out]; omega
          clear ho ho2
          have hsl : ∀ u : World, (Instr.sliceAt 42 (.pointer (some ⟨g, 0, none⟩)) none (some (.int .i64 (n : Int))) none).run Try.prog u = .ok (.slice (some ⟨g, 0, none⟩) n 6) u := fun u => run_slice_arr6 u g n h6
          go_wp2_with (go_at_call 28; refine (slices_Clone hvi hlen.out).mono ?_; rintro e w2 ⟨v2, rfl, hown2, hx2⟩)
          go_ret2
          exact ⟨_, by rw [HO.out]; rfl, by rw [HO.out]; exact hown2.isInts (by rw [← HL.out]; omega), hx.trans hx2⟩
end Go.Proofs.Ytcdjgfamgnhffaa
