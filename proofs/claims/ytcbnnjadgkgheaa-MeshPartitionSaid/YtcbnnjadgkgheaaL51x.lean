/- The walk of brocadelaw51's own examples. -/
import Derived.Test.YtcbnnjadgkgheaaW51e
set_option linter.unusedVariables false
set_option linter.unusedSimpArgs false
namespace Go.Proofs.Ytcbnnjadgkgheaa
open Go.RowKit

theorem ex_coords : coords [2, 3] 4 = ([1, 1], true) := by decide
theorem ex_group0 : group [2, 3] 0 4 = [1, 4] := by decide
theorem ex_group1 : group [2, 3] 1 4 = [3, 4, 5] := by decide
theorem ex_groups : (groups [2, 3] 0).length = 3 := by decide
theorem ex_vmesh : vmesh [4, 5] = 23 := by decide

set_option maxHeartbeats 4000000 in
theorem law51_examples {w : World} :
    Calls Try.prog 24 #[] w fun e w' => e = .returned (.bool true) ∧ Ext w w' := by
  go_enter Try.func24, Try.ntmps24
  go_wp2_with fail
  have hv0 := ((ints_lit (w := w) (xs := [2, 3]) (by decide)).ext ((Ext.refl _).alloc (.cells #[.slice (some ⟨w.heap.size, 0, none⟩) 2 2] 24)))
  have har := Arr.new (w.alloc (.cells #[Value.int .i64 2, Value.int .i64 3] 3)) #[.slice (some ⟨w.heap.size, 0, none⟩) 2 2] 24
  rw [show (w.alloc (.cells #[Value.int .i64 2, Value.int .i64 3] 3)).heap.size = w.heap.size + 1 from by simp] at har
  have hx0 := ((Ext.refl w).alloc (.cells #[Value.int .i64 2, Value.int .i64 3] 3)).alloc (.cells #[.slice (some ⟨w.heap.size, 0, none⟩) 2 2] 24)
  refine (mesh_Coordinates hv0 (by decide)).mono ?_
  rintro e w1 ⟨v1, rfl, hv1, hx1⟩
  rw [ex_coords] at hv1 ⊢
  go_wp2_with fail
  have hxa := (Ext.refl w1).alloc (.cells #[Value.int .i64 1, Value.int .i64 1] 3)
  refine (base_Ints (hv1.ext hxa) (ints_lit (xs := [1, 1]) (by decide))).mono ?_
  rintro e w2 ⟨rfl, hx2⟩
  rw [decide_eq_true rfl]
  have hx02 := (hx1.trans hxa).trans hx2
  have hc2 := (har.ext hx02).cell 0
  simp only [List.getElem?_cons_zero] at hc2
  go_wp2_with fail
  refine (mesh_Group (hv0.ext hx02) (by decide)).mono ?_
  rintro e w3 ⟨v3, rfl, hown3, hx3⟩
  rw [ex_group0] at hown3
  have hv3 := hown3.isInts (by decide)
  go_wp2_with fail
  have hxb := (Ext.refl w3).alloc (.cells #[Value.int .i64 1, Value.int .i64 4] 3)
  refine (base_Ints (hv3.ext hxb) (ints_lit (xs := [1, 4]) (by decide))).mono ?_
  rintro e w4 ⟨rfl, hx4⟩
  rw [decide_eq_true rfl]
  have hx04 := ((hx02.trans hx3).trans hxb).trans hx4
  have hc4 := (har.ext hx04).cell 0
  simp only [List.getElem?_cons_zero] at hc4
  go_wp2_with fail
  refine (mesh_Group (hv0.ext hx04) (by decide)).mono ?_
  rintro e w5 ⟨v5, rfl, hown5, hx5⟩
  rw [ex_group1] at hown5
  have hv5 := hown5.isInts (by decide)
  go_wp2_with fail
  have hxc := (Ext.refl w5).alloc (.cells #[Value.int .i64 3, Value.int .i64 4, Value.int .i64 5] 3)
  refine (base_Ints (hv5.ext hxc) (ints_lit (xs := [3, 4, 5]) (by decide))).mono ?_
  rintro e w6 ⟨rfl, hx6⟩
  rw [decide_eq_true rfl]
  have hx06 := ((hx04.trans hx5).trans hxc).trans hx6
  have hc6 := (har.ext hx06).cell 0
  simp only [List.getElem?_cons_zero] at hc6
  go_wp2_with fail
  refine (mesh_Groups (hv0.ext hx06)).mono ?_
  rintro e w7 ⟨v7, rfl, hown7, hx7⟩
  obtain ⟨vs7, a7, n7, c7, HN7, _, _, rfl, _, _⟩ := (hown7.isRows (by rw [ex_groups]; decide) (fun r hr => Nat.le_trans (groupsTo_rows _ _ _ r hr) (by decide))).open
  obtain rfl : n7 = 3 := HN7.out.trans ex_groups
  go_wp2_with fail
  refine (mesh_Validate (ints_lit (xs := [4, 5]) (by decide))).mono ?_
  rintro e w8 ⟨rfl, hx8⟩
  rw [ex_vmesh]
  go_wp2
  go_ret
  exact ⟨rfl, (((hx0.trans hx06).trans hx7).trans ((Ext.refl _).alloc _)).trans hx8⟩
end Go.Proofs.Ytcbnnjadgkgheaa
