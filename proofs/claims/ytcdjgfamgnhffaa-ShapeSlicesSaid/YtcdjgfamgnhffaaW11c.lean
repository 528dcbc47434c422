/- The walks of brocaderef11.Strides, of brocadebase.Ints, slices.Equal, shape.Same, slices.Clone. -/
import Derived.Test.YtcdjgfamgnhffaaW11b
set_option linter.unusedVariables false
set_option linter.unusedSimpArgs false
namespace Go.Proofs.Ytcdjgfamgnhffaa
open Go.RowKit

theorem strides_take {xs : List Int} (h : vld xs = 0) {k : Nat} (hk : k < xs.length) : (strides xs).take (k + 1) = (strides xs).take k ++ [prod (xs.drop (k + 1))] := by
  rw [List.take_add_one, strides_get h hk]
  rfl

set_option maxHeartbeats 1000000 in
theorem ref11_Strides {v : Value} {xs : List Int} {w : World} (hv : IsInts w v xs) :
    Calls Try.prog 16 #[v] w (RetInts w (strides xs)) := by
  obtain ⟨a, n, c, HN, hnc, rfl, h⟩ := hv.open
  have hl := h.len
  rw [← HN.out] at hl
  by_cases h0 : vld xs = 0
  · have hg := good_of_vld h0
    have h6 : n ≤ 6 := by rw [HN.out]; exact hg.len
    have HL : Hid (_ = _) := strides_len h0
    go_enter Try.func16, Try.ntmps16
    go_wp2_with (go_at_call 11; refine (ref11_Validate hv).mono ?_; rintro e w' ⟨rfl, rfl⟩)
    go_loopw [4, 3] (fun i s wr => ∃ (k : Nat), k ≤ n ∧ i = .int .i64 k ∧ Ext w wr ∧ Own wr w.heap.size s ((strides xs).take k)) (fun i _ _ => n - (intOf i).toNat)
    case atStart => exact ⟨0, Nat.zero_le _, rfl, Ext.refl w, Own.nil _ _⟩
    case round =>
      obtain ⟨k, hk, rfl, hx, ho⟩ := hrel
      by_cases hkn : k < n
      · have hd := (IsInts.from HN.out hnc (show k + 1 ≤ n by omega) h).ext hx
        have hlt : ((strides xs).take k).length + 1 ≤ 17592186044416 := by rw [List.length_take]; omega
        have HT : Hid (_ = _) := strides_take h0 (show k < xs.length by rw [← HN.out]; exact hkn)
        have HZ : Hid (size (xs.drop (k + 1)) = prod (xs.drop (k + 1))) := size_good (vld_of_good (hg.drop (k + 1)))
        go_wp2_with (first
          | (go_at_call 13; refine (ref11_Size hd).mono ?_; rintro e w' ⟨rfl, rfl⟩)
          | (at_builtin; refine append_int rfl _ _ rfl rfl rfl ho hlt hx (Nat.le_refl _) hx.size ?_; intro w2 v2 hown2 hext2))
        go_roundw
        case rel => exact ⟨k + 1, by omega, by go_num, hext2, by rw [HT.out, ← HZ.out]; exact hown2⟩
        case measure => simp [intOf]; omega
      · go_wp2
        go_ret
        rw [List.take_of_length_le (by rw [HL.out, ← HN.out]; omega)] at ho
        exact ⟨_, rfl, ho.isInts (by rw [HL.out, ← HN.out]; omega), hx⟩
  · have HS : Hid (_ = _) := strides_bad h0
    go_enter Try.func16, Try.ntmps16
    go_wp2_with (go_at_call 11; refine (ref11_Validate hv).mono ?_; rintro e w' ⟨rfl, rfl⟩)
    go_ret
    exact ⟨_, rfl, by rw [HS.out]; exact IsInts.nil w, Ext.refl w⟩

theorem eq_of_get {xs ys : List Int} {n : Nat} (h1 : n = xs.length) (h2 : n = ys.length) (h : ∀ j, j < n → xs[j]?.getD 0 = ys[j]?.getD 0) : xs = ys := by
  apply List.ext_getElem (by omega)
  intro j hj hj'
  have := h j (by omega)
  simpa [List.getElem?_eq_getElem hj, List.getElem?_eq_getElem hj'] using this

set_option maxHeartbeats 1000000 in
theorem base_Ints {u v : Value} {xs ys : List Int} {w : World} (hu : IsInts w u xs) (hv : IsInts w v ys) :
    Calls Try.prog 14 #[u, v] w fun e w' => e = .returned (.bool (decide (xs = ys))) ∧ Ext w w' := by
  obtain ⟨a, n, c, HN, hnc, rfl, h⟩ := hu.open
  obtain ⟨b, m, d, HM, hmd, rfl, k⟩ := hv.open
  have hix := idx_ints h n c HN
  have hiy := idx_ints k m d HM
  have hl := h.len
  have hm := k.len
  have HC : Hid (∀ k, k < n → w.cell? (adr a k) = some (.int .i64 (xs[k]?.getD 0))) := by have := h.cell; rw [← HN.out] at this; exact this
  have HD : Hid (∀ j, j < m → w.cell? (adr b j) = some (.int .i64 (ys[j]?.getD 0))) := by have := k.cell; rw [← HM.out] at this; exact this
  rw [← HN.out] at hl
  rw [← HM.out] at hm
  by_cases hnm : n = m
  · subst hnm
    go_enter Try.func14, Try.ntmps14
    go_wp2
    go_loopw [5] (fun i wr => ∃ (k : Nat), k ≤ n ∧ i = .int .i64 k ∧ Ext w wr ∧ Hid (∀ j, j < k → xs[j]?.getD 0 = ys[j]?.getD 0)) (fun i _ => n - (intOf i).toNat)
    case atStart => exact ⟨0, Nat.zero_le _, rfl, Ext.refl w, fun j hj => by omega⟩
    case round =>
      obtain ⟨k, hk, rfl, hx, hq⟩ := hrel
      by_cases hkn : k < n
      · have hcell : wr.cell? (adr a k) = some (.int .i64 (xs[k]?.getD 0)) := (Below.cell hx (h.cells.block k (by rw [List.length_map, ← HN.out]; exact hkn))).trans (HC.out k hkn)
        have hcell2 : wr.cell? (adr b k) = some (.int .i64 (ys[k]?.getD 0)) := (Below.cell hx (Cells.block (Ints.cells ‹Ints w b ys›) k (by rw [List.length_map, ← HM.out]; exact hkn))).trans (HD.out k hkn)
        by_cases he : xs[k]?.getD 0 = ys[k]?.getD 0
        · go_wp2
          go_quiet (fail)
          go_wp2
          go_roundw
          case rel => exact ⟨k + 1, by omega, by go_num, hx.drewN _, fun j hj => by
            by_cases e : j = k
            · subst e; exact he
            · exact hq.out j (by omega)⟩
          case measure => simp [intOf]; omega
        · go_wp2
          go_quiet (fail)
          go_wp2
          go_ret
          refine ⟨ret_bool (decide_eq_false (fun e => he (by rw [e]))).symm, hx.drewN _⟩
      · go_wp2
        go_ret
        refine ⟨ret_bool (decide_eq_true (eq_of_get HN.out HM.out fun j hj => hq.out j (by omega))).symm, hx⟩
  · go_enter Try.func14, Try.ntmps14
    go_wp2
    go_ret
    exact ⟨ret_bool (decide_eq_false (fun e => hnm (by rw [HN.out, HM.out, e]))).symm, Ext.refl w⟩
end Go.Proofs.Ytcdjgfamgnhffaa
