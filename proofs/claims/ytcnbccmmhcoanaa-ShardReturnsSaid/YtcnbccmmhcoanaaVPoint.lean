/- shape.Point: the result is an array of the caller's own. -/
import Derived.Test.YtcnbccmmhcoanaaW11a
import Derived.Test.YtcnbccmmhcoanaaV12c
import Derived.Test.YtcnbccmmhcoanaaVClone
set_option linter.unusedVariables false
set_option linter.unusedSimpArgs false
namespace Go.Proofs.Ytcnbccmmhcoanaa
open Go.RowKit Go.Abs

theorem size_bad {xs : List Int} (h : ¬ vld xs = 0) : size xs = 0 := by rw [size, if_neg h]
theorem size_good {xs : List Int} (h : vld xs = 0) : size xs = prod xs := by rw [size, if_pos h]

set_option maxHeartbeats 1000000 in
theorem shape_Size {v : Value} {xs : List Int} {w : World} (hv : IsInts w v xs) :
  Calls Try.prog 23 #[v] w fun e w' => e = .returned (.int .i64 (size xs)) ∧ w = w' := by
 obtain ⟨a, n, c, HN, hnc, rfl, h⟩ := hv.open
 have hix := idx_ints h n c HN
 have hl := h.len
 have HC : Hid (∀ k, k < n → w.cell? (adr a k) = some (.int .i64 (xs[k]?.getD 0))) := by have := h.cell; rw [← HN.out] at this; exact this
 rw [← HN.out] at hl
 clear h
 by_cases h0 : vld xs = 0
 ·have hg := good_of_vld h0
  have HS : Hid (_ = _) := size_good h0
  go_enter Try.func23, Try.ntmps23
  go_wp2_with (go_at_call 49; refine (shape_Validate hv).mono ?_; rintro e w' ⟨rfl, rfl⟩)
  go_loop [11, 3] (fun i s => ∃ (k : Nat) (z : Int), k ≤ n ∧ i = .int .i64 k ∧ s = .int .i64 z ∧ Hid (z = prod (xs.take k))) (fun i _ => n - (intOf i).toNat)
  case atStart => exact ⟨0, 1, Nat.zero_le _, rfl, rfl, rfl⟩
  case round =>
   obtain ⟨k, z, hk, rfl, rfl, hz⟩ := hrel
   have hcell : k < n → w.cell? (adr a k) = some (.int .i64 (xs[k]?.getD 0)) := HC.out k
   by_cases hkn : k < n
   ·have hz' : z * xs[k]?.getD 0 = prod (xs.take (k + 1)) := by rw [prod_take_succ (by rw [← HN.out]; exact hkn), hz.out]
    have hb := hg.take_le (k + 1)
    rw [← hz'] at hb
    have Hz := Lib.hid hz'
    clear hz'
    obtain ⟨hb1, hb2⟩ := hb
    go_wp2
    go_round
    case rel => exact ⟨k + 1, _, by omega, by go_num, rfl, Hz⟩
    case measure => simp [intOf]; omega
   ·go_wp2
    go_ret
    exact ⟨ret_int (by rw [HS.out, hz.out, List.take_of_length_le (by rw [← HN.out]; omega)]), rfl⟩
 ·have HS : Hid (_ = _) := size_bad h0
  go_enter Try.func23, Try.ntmps23
  go_wp2_with (go_at_call 49; refine (shape_Validate hv).mono ?_; rintro e w' ⟨rfl, rfl⟩)
  go_ret
  exact ⟨ret_int HS.out.symm, rfl⟩

theorem arrayLen6 : Try.prog.arrayLen 81 = 6 := by kernel_rfl
theorem run_slice_arr6 (u : World) (g n : Nat) (h : n ≤ 6) :
  (Instr.sliceAt 81 (.pointer (some ⟨g, 0, none⟩)) none (some (.int .i64 (n : Int))) none).run Try.prog u = .ok (.slice (some ⟨g, 0, none⟩) n 6) u := by
 rw [run_sliceAt_array_h u 81 ⟨g, 0, none⟩ (by rw [arrayLen6]; kernel_rfl) .i64 n (by omega) (by rw [arrayLen6]; omega), arrayLen6]
 go_simp

theorem Own.base {w : World} {B B' : Nat} {v : Value} {xs : List Int} (h : Own w B v xs) (hb : B' ≤ B) : Own w B' v xs := by
 refine ⟨h.1, ?_⟩
 rcases h.2 with h | ⟨g, cap, cur, e, hg, h⟩
 ·exact .inl h
 ·exact .inr ⟨g, cap, cur, e, Nat.le_trans hb hg, h⟩
set_option maxHeartbeats 2000000 in
theorem shape_Point_raw {v : Value} {xs : List Int} {at' : Int} {w : World} (hv : IsInts w v xs) (hat : at' ≤ 9223372036854775807) (h0 : 0 ≤ at') (h1 : at' < size xs) :
  Calls Try.prog 53 #[v, .int .i64 at'] w fun e w' => ∃ v, e = .returned (.tuple #[v, .bool true]) ∧ Own w' w.heap.size v (pointOf xs at') ∧ Ext w w' := by
 obtain ⟨a, n, c, HN, hnc, rfl, h⟩ := hv.open
 have hix := idx_ints h n c HN
 have hl := h.len
 rw [← HN.out] at hl
 have hsc := size_cases (xs := xs) (at' := at') ⟨h0, h1⟩
 have hg := good_of_vld hsc.1
 have h6 : n ≤ 6 := by rw [HN.out]; exact hg.len
 clear hsc
 go_enter Try.func53, Try.ntmps53
 go_wp2_with (first
  | (go_at_call 23; refine (shape_Size hv).mono ?_; rintro e w' ⟨rfl, rfl⟩)
  | fail)
 have hx1 := (Ext.refl w).alloc (.cells #[Value.int .i64 0, Value.int .i64 0, Value.int .i64 0, Value.int .i64 0, Value.int .i64 0, Value.int .i64 0] 81)
 have harr : Arr (w.alloc (.cells #[Value.int .i64 0, Value.int .i64 0, Value.int .i64 0, Value.int .i64 0, Value.int .i64 0, Value.int .i64 0] 81)) w.heap.size 81 ((List.replicate 6 (0 : Int)).map (.int .i64)) := Arr.new w _ _
 obtain ⟨g, hg'⟩ : ∃ g, w.heap.size = g := ⟨_, rfl⟩
 have hge : w.heap.size ≤ g := by omega
 rw [hg'] at harr ⊢
 clear hg'
 go_loopw [7, 1] (fun i s wr => ∃ (i' : Int) (z : Int), -1 ≤ i' ∧ i' < n ∧ i = .int .i64 i' ∧ s = .int .i64 z ∧ 0 ≤ z ∧ z ≤ 9223372036854775807 ∧ Hid (z = at' / prod (xs.drop (i' + 1).toNat)) ∧ Ext w wr ∧
   Arr wr g 81 ((List.replicate (i' + 1).toNat 0 ++ (pointOf xs at').drop (i' + 1).toNat ++ List.replicate (6 - n) 0).map (.int .i64))) (fun i _ _ => (intOf i + 1).toNat)
 case atStart =>
  have e : ((n : Int) - 1 + 1).toNat = n := by omega
  refine ⟨_, _, by omega, by omega, rfl, rfl, by omega, hat, ?_, hx1, ?_⟩
  ·show _ = _
   rw [e, List.drop_eq_nil_of_le (by rw [← HN.out]; omega), prod, Int.ediv_one]
  ·rw [e, List.drop_eq_nil_of_le (by rw [length_pointOf, ← HN.out]; omega), List.append_nil, List.replicate_append_replicate, show n + (6 - n) = 6 from by omega]
   exact harr
 case round =>
  obtain ⟨i', z, hi1, hi2, rfl, rfl, hz0, hz1, hz, hx, ho⟩ := hrel
  by_cases hi : 0 ≤ i'
  ·obtain ⟨k, rfl⟩ := Int.eq_ofNat_of_zero_le hi
   have hk : k < n := by omega
   have Hk : Hid (k < xs.length) := by show _ < _; rw [← HN.out]; exact hk
   rw [show ((k : Int) + 1).toNat = k + 1 from by omega] at ho hz
   have hcell := (h.ext hx).cell k Hk.out
   have hlen : Hid (k < (List.replicate (k + 1) (0 : Int) ++ (pointOf xs at').drop (k + 1) ++ List.replicate (6 - n) 0).length) := by
    show _ < _
    rw [List.append_assoc, List.length_append, List.length_replicate]; omega
   have hc1 := ho.int hlen.out
   have hc2 := ho.free k
   have hx1 := (hg.get Hk.out).1
   have hq0 : 0 ≤ z / xs[k]?.getD 0 := Int.ediv_nonneg hz0 (by omega)
   have hq1 : z / xs[k]?.getD 0 ≤ z := Int.ediv_le_self _ hz0
   have hge' : w.heap.size ≤ g := hge
   have hx2 := hx.setCell (p := ⟨g, k, none⟩) hge' (.int .i64 (z % xs[k]?.getD 0))
   have hcell2 := (h.ext hx2).cell k Hk.out
   have ho2 := ho.store k (.int .i64 (z % xs[k]?.getD 0))
   have Hx2 := Lib.hid hx2
   have Ho2 := Lib.hid ho2
   clear hx2 ho2 ho
   go_wp2
   go_roundw
   case rel =>
    have e : ((k : Int) - 1 + 1).toNat = k := by omega
    refine ⟨_, _, by omega, by omega, rfl, rfl, hq0, by omega, ?_, Hx2.out, ?_⟩
    ·show _ = _
     rw [e, hz.out, div_drop hg.pos at' Hk.out]
    ·have h2 := Ho2.out
     rw [← List.map_set, List.append_assoc, set_fill, coord_div hz.out, ← List.cons_append, ← pointOf_drop Hk.out, ← List.append_assoc] at h2
     rw [e, coord_div hz.out]
     exact h2
   case measure => simp [intOf]
  ·obtain rfl : i' = -1 := by omega
   have HL : Hid (n = (pointOf xs at').length) := by show _ = _; rw [length_pointOf]; exact HN.out
   have ho2 : Arr wr g 81 ((pointOf xs at' ++ List.replicate (6 - n) 0).map (.int .i64)) := ho
   have hvi := ho2.isInts' (c := 6) HL.out h6 (by omega)
   have hlen : Hid ((pointOf xs at').length ≤ 17592186044416) := by show _ ≤ _; rw [← HL.out]; omega
   clear ho ho2
   have hsl : ∀ u : World, (Instr.sliceAt 81 (.pointer (some ⟨g, 0, none⟩)) none (some (.int .i64 (n : Int))) none).run Try.prog u = .ok (.slice (some ⟨g, 0, none⟩) n 6) u := fun u => run_slice_arr6 u g n h6
   go_wp2_with (go_at_call 22; refine (slices_Clone hvi hlen.out).mono ?_; rintro e w2 ⟨v2, rfl, hown2, hx2⟩)
   go_ret2
   exact ⟨v2, rfl, hown2.base hx.size, hx.trans hx2⟩
end Go.Proofs.Ytcnbccmmhcoanaa
