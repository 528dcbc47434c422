/- The walks of slices.Equal, shape.Same, slices.Clone and of brocadelaw11's own alive. -/
import Derived.Test.YtcdjgfamgnhffaaW11c
set_option linter.unusedVariables false
set_option linter.unusedSimpArgs false
namespace Go.Proofs.Ytcdjgfamgnhffaa
open Go.RowKit

set_option maxHeartbeats 1000000 in
theorem slices_Equal {u v : Value} {xs ys : List Int} {w : World} (hu : IsInts w u xs) (hv : IsInts w v ys) :
    Calls Try.prog 29 #[u, v] w fun e w' => e = .returned (.bool (decide (xs = ys))) ∧ Ext w w' := by
  obtain ⟨a, n, c, HN, hnc, rfl, h⟩ := hu.open
  obtain ⟨b, m, d, HM, hmd, rfl, k⟩ := hv.open
  have hix := idx_ints h n c HN
  have hiy := idx_ints k m d HM
  have hl := h.len
  have hm := k.len
  have HC : Hid (∀ k, k < n → w.cell? (adr a k) = some (.int .i64 (xs[k]?.getD 0))) := by have := h.cell; rw [← HN.out] at this; exact this
  have HD : Hid (∀ j, j < m → w.cell? (adr b j) = some (.int .i64 (ys[j]?.getD 0))) := by have := k.cell; rw [← HM.out] at this; exact this
  rw [← HN.out] at hl
  rw [← HM.out] at hm
  by_cases hnm : n = m
  · subst hnm
    go_enter Try.func29, Try.ntmps29
    go_wp2
    go_loopw [13] (fun i wr => ∃ (k : Nat), k ≤ n ∧ i = .int .i64 k ∧ Ext w wr ∧ Hid (∀ j, j < k → xs[j]?.getD 0 = ys[j]?.getD 0)) (fun i _ => n - (intOf i).toNat)
    case atStart => exact ⟨0, Nat.zero_le _, rfl, Ext.refl w, fun j hj => by omega⟩
    case round =>
      obtain ⟨k, hk, rfl, hx, hq⟩ := hrel
      by_cases hkn : k < n
      · have hcell : wr.cell? (adr a k) = some (.int .i64 (xs[k]?.getD 0)) := (Below.cell hx (h.cells.block k (by rw [List.length_map, ← HN.out]; exact hkn))).trans (HC.out k hkn)
        have hcell2 : wr.cell? (adr b k) = some (.int .i64 (ys[k]?.getD 0)) := (Below.cell hx (Cells.block (Ints.cells ‹Ints w b ys›) k (by rw [List.length_map, ← HM.out]; exact hkn))).trans (HD.out k hkn)
        by_cases he : xs[k]?.getD 0 = ys[k]?.getD 0
        · go_wp2
          go_quiet (fail)
          go_wp2
          go_roundw
          case rel => exact ⟨k + 1, by omega, by go_num, hx.drewN _, fun j hj => by
            by_cases e : j = k
            · subst e; exact he
            · exact hq.out j (by omega)⟩
          case measure => simp [intOf]; omega
        · go_wp2
          go_quiet (fail)
          go_wp2
          go_ret
          refine ⟨ret_bool (decide_eq_false (fun e => he (by rw [e]))).symm, hx.drewN _⟩
      · go_wp2
        go_ret
        refine ⟨ret_bool (decide_eq_true (eq_of_get HN.out HM.out fun j hj => hq.out j (by omega))).symm, hx⟩
  · go_enter Try.func29, Try.ntmps29
    go_wp2
    go_ret
    exact ⟨ret_bool (decide_eq_false (fun e => hnm (by rw [HN.out, HM.out, e]))).symm, Ext.refl w⟩

theorem shape_Same {u v : Value} {xs ys : List Int} {w : World} (hu : IsInts w u xs) (hv : IsInts w v ys) :
    Calls Try.prog 27 #[u, v] w fun e w' => e = .returned (.bool (decide (xs = ys))) ∧ Ext w w' := by
  go_enter Try.func27, Try.ntmps27
  go_wp2_with (go_at_call 29; refine (slices_Equal hu hv).mono ?_; rintro e w1 ⟨rfl, hx⟩)
  go_ret
  exact ⟨rfl, hx⟩

/-- It returns a slice of its own that reads as ys. -/
def RetOwn (w : World) (ys : List Int) (e : Ending) (w' : World) : Prop := ∃ v, e = .returned v ∧ Own w' w.heap.size v ys ∧ Ext w w'

set_option maxHeartbeats 1000000 in
theorem slices_Clone {v : Value} {xs : List Int} {w : World} (hv : IsInts w v xs) (hm : xs.length ≤ 17592186044416) :
    Calls Try.prog 28 #[v] w (RetOwn w xs) := by
  obtain ⟨a, n, c, HN, hnc, rfl, h⟩ := hv.open
  obtain ⟨i0, hi, hz0, hz1, hz2⟩ := info_parts infoInt
  have hnil := Lib.run_eql_slice_nil (P := Try.prog)
  cases a with
  | none =>
    have hx : xs = [] := by
      cases xs with
      | nil => rfl
      | cons x r => obtain ⟨b, off, e⟩ := h.cells.some 0 (by simp); cases e
    have H := Lib.hid hx
    clear hx
    go_enter Try.func28, Try.ntmps28
    go_wp2
    go_ret
    exact ⟨_, rfl, by rw [H.out]; exact Own.nil _ _, Ext.refl w⟩
  | some p =>
    go_enter Try.func28, Try.ntmps28
    go_wp2_with (at_builtin; refine append_copy rfl _ _ rfl rfl rfl HN.out h (by rw [HN.out]; exact hm) (Ext.refl w) ?_; intro w2 v2 hown2 hext2)
    go_ret
    exact ⟨_, rfl, hown2, hext2⟩
theorem strides_23 : strides [2, 3] = [3, 1] := by decide
theorem size_23 : size [2, 3] = 6 := by decide

/-- A literal of ints. -/
theorem ints_lit {w : World} {xs : List Int} (h : xs.length ≤ 9223372036854775807) : IsInts (w.alloc (.cells (xs.map (Value.int .i64)).toArray 3)) (.slice (some ⟨w.heap.size, 0, none⟩) xs.length xs.length) xs := by
  have := World.ownsRow_lit (e := 3) (size := 1) (base := w.heap.size) w (xs.map (Value.int .i64)).toArray xs.length (Nat.le_refl _) (by unfold maxLen; omega) (by simp)
  simp only [List.toList_toArray] at this
  exact Own.isInts this h

set_option maxHeartbeats 1000000 in
theorem law11_alive {w : World} :
    Calls Try.prog 9 #[] w fun e w' => e = .returned (.bool true) ∧ Ext w w' := by
  go_enter Try.func9, Try.ntmps9
  go_wp2_with (fail)
  refine (shape_Strides (ints_lit (xs := [2, 3]) (by decide))).mono ?_
  rintro e w1 ⟨v, rfl, hv, hx⟩
  rw [strides_23] at hv
  obtain ⟨a, n, c, HN, hnc, rfl, h⟩ := hv.open
  obtain rfl : n = 2 := HN.out
  have hx1 : Ext w w1 := ((Ext.refl w).alloc _).trans hx
  have hy := (Ext.refl w1).alloc (.cells #[Value.int .i64 2, Value.int .i64 3] 3)
  have c0 := (h.ext hy).cell 0 (by simp)
  have c1 := (h.ext hy).cell 1 (by simp)
  have hix := idx_ints h 2 c rfl
  simp only [List.getElem?_cons_zero, List.getElem?_cons_succ, Option.getD_some] at c0 c1
  go_wp2_with (go_at_call 12; refine (shape_Size (ints_lit (xs := [2, 3]) (by decide))).mono ?_; rintro e w2 ⟨rfl, rfl⟩; rw [size_23])
  go_ret
  exact ⟨rfl, hx1.trans hy⟩
end Go.Proofs.Ytcdjgfamgnhffaa
