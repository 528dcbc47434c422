/- The walks of shape.Size, shape.Strides and of their references, of brocadebase.Ints, slices.Equal, shape.Same. -/
import Derived.Test.YtcdjgfamgnhffaaW11a
set_option linter.unusedVariables false
set_option linter.unusedSimpArgs false
namespace Go.Proofs.Ytcdjgfamgnhffaa
open Go.RowKit

theorem size_bad {xs : List Int} (h : ¬ vld xs = 0) : size xs = 0 := by rw [size, if_neg h]
theorem size_good {xs : List Int} (h : vld xs = 0) : size xs = prod xs := by rw [size, if_pos h]

set_option maxHeartbeats 1000000 in
theorem shape_Size {v : Value} {xs : List Int} {w : World} (hv : IsInts w v xs) :
    Calls Try.prog 12 #[v] w fun e w' => e = .returned (.int .i64 (size xs)) ∧ w = w' := by
  obtain ⟨a, n, c, HN, hnc, rfl, h⟩ := hv.open
  have hix := idx_ints h n c HN
  have hl := h.len
  have HC : Hid (∀ k, k < n → w.cell? (adr a k) = some (.int .i64 (xs[k]?.getD 0))) := by have := h.cell; rw [← HN.out] at this; exact this
  rw [← HN.out] at hl
  clear h
  by_cases h0 : vld xs = 0
  · have hg := good_of_vld h0
    have HS : Hid (_ = _) := size_good h0
    go_enter Try.func12, Try.ntmps12
    go_wp2_with (go_at_call 10; refine (shape_Validate hv).mono ?_; rintro e w' ⟨rfl, rfl⟩)
    go_loop [11, 3] (fun i s => ∃ (k : Nat) (z : Int), k ≤ n ∧ i = .int .i64 k ∧ s = .int .i64 z ∧ Hid (z = prod (xs.take k))) (fun i _ => n - (intOf i).toNat)
    case atStart => exact ⟨0, 1, Nat.zero_le _, rfl, rfl, rfl⟩
    case round =>
      obtain ⟨k, z, hk, rfl, rfl, hz⟩ := hrel
      have hcell : k < n → w.cell? (adr a k) = some (.int .i64 (xs[k]?.getD 0)) := HC.out k
      by_cases hkn : k < n
      · have hz' : z * xs[k]?.getD 0 = prod (xs.take (k + 1)) := by rw [prod_take_succ (by rw [← HN.out]; exact hkn), hz.out]
        have hb := hg.take_le (k + 1)
        rw [← hz'] at hb
        have Hz := Lib.hid hz'
        clear hz'
        obtain ⟨hb1, hb2⟩ := hb
        go_wp2
        go_round
        case rel => exact ⟨k + 1, _, by omega, by go_num, rfl, Hz⟩
        case measure => simp [intOf]; omega
      · go_wp2
        go_ret
        exact ⟨ret_int (by rw [HS.out, hz.out, List.take_of_length_le (by rw [← HN.out]; omega)]), rfl⟩
  · have HS : Hid (_ = _) := size_bad h0
    go_enter Try.func12, Try.ntmps12
    go_wp2_with (go_at_call 10; refine (shape_Validate hv).mono ?_; rintro e w' ⟨rfl, rfl⟩)
    go_ret
    exact ⟨ret_int HS.out.symm, rfl⟩

set_option maxHeartbeats 1000000 in
theorem ref11_Size {v : Value} {xs : List Int} {w : World} (hv : IsInts w v xs) :
    Calls Try.prog 13 #[v] w fun e w' => e = .returned (.int .i64 (size xs)) ∧ w = w' := by
  obtain ⟨a, n, c, HN, hnc, rfl, h⟩ := hv.open
  have hix := idx_ints h n c HN
  have hl := h.len
  have HC : Hid (∀ k, k < n → w.cell? (adr a k) = some (.int .i64 (xs[k]?.getD 0))) := by have := h.cell; rw [← HN.out] at this; exact this
  rw [← HN.out] at hl
  clear h
  by_cases h0 : vld xs = 0
  · have hg := good_of_vld h0
    have HS : Hid (_ = _) := size_good h0
    go_enter Try.func13, Try.ntmps13
    go_wp2_with (go_at_call 11; refine (ref11_Validate hv).mono ?_; rintro e w' ⟨rfl, rfl⟩)
    go_loop [4, 3] (fun i s => ∃ (k : Nat) (z : Int), k ≤ n ∧ i = .int .i64 k ∧ s = .int .i64 z ∧ Hid (z = prod (xs.take k))) (fun i _ => n - (intOf i).toNat)
    case atStart => exact ⟨0, 1, Nat.zero_le _, rfl, rfl, rfl⟩
    case round =>
      obtain ⟨k, z, hk, rfl, rfl, hz⟩ := hrel
      have hcell : k < n → w.cell? (adr a k) = some (.int .i64 (xs[k]?.getD 0)) := HC.out k
      by_cases hkn : k < n
      · have hz' : z * xs[k]?.getD 0 = prod (xs.take (k + 1)) := by rw [prod_take_succ (by rw [← HN.out]; exact hkn), hz.out]
        have hb := hg.take_le (k + 1)
        rw [← hz'] at hb
        have Hz := Lib.hid hz'
        clear hz'
        obtain ⟨hb1, hb2⟩ := hb
        go_wp2
        go_round
        case rel => exact ⟨k + 1, _, by omega, by go_num, rfl, Hz⟩
        case measure => simp [intOf]; omega
      · go_wp2
        go_ret
        exact ⟨ret_int (by rw [HS.out, hz.out, List.take_of_length_le (by rw [← HN.out]; omega)]), rfl⟩
  · have HS : Hid (_ = _) := size_bad h0
    go_enter Try.func13, Try.ntmps13
    go_wp2_with (go_at_call 11; refine (ref11_Validate hv).mono ?_; rintro e w' ⟨rfl, rfl⟩)
    go_ret
    exact ⟨ret_int HS.out.symm, rfl⟩

theorem strides_bad {xs : List Int} (h : ¬ vld xs = 0) : strides xs = [] := by rw [strides, if_neg h]
theorem strides_len {xs : List Int} (h : vld xs = 0) : (strides xs).length = xs.length := by simp [strides, h]
theorem strides_get {xs : List Int} (h : vld xs = 0) {k : Nat} (hk : k < xs.length) : (strides xs)[k]? = some (prod (xs.drop (k + 1))) := by
  simp [strides, h, hk]
theorem strides_drop {xs : List Int} (h : vld xs = 0) {k : Nat} (hk : k < xs.length) : (strides xs).drop k = prod (xs.drop (k + 1)) :: (strides xs).drop (k + 1) := by
  rw [List.drop_eq_getElem_cons (by rw [strides_len h]; exact hk)]
  congr 1
  have := strides_get h hk
  rw [List.getElem?_eq_getElem (by rw [strides_len h]; exact hk)] at this
  exact Option.some.inj this
theorem set_fill {α : Type} (k : Nat) (x y : α) (l : List α) : (List.replicate (k + 1) x ++ l).set k y = List.replicate k x ++ y :: l := by
  rw [List.replicate_succ', List.append_assoc, List.set_append_right _ _ (by simp)]
  simp

set_option maxHeartbeats 1000000 in
theorem shape_Strides {v : Value} {xs : List Int} {w : World} (hv : IsInts w v xs) :
    Calls Try.prog 15 #[v] w (RetInts w (strides xs)) := by
  obtain ⟨a, n, c, HN, hnc, rfl, h⟩ := hv.open
  have hix := idx_ints h n c HN
  have hl := h.len
  have HC : Hid (∀ k, k < n → w.cell? (adr a k) = some (.int .i64 (xs[k]?.getD 0))) := by have := h.cell; rw [← HN.out] at this; exact this
  have HX := h.cells.block
  rw [← HN.out] at hl
  by_cases h0 : vld xs = 0
  · have hg := good_of_vld h0
    have h6 : n ≤ 6 := by rw [HN.out]; exact hg.len
    have HL : Hid (_ = _) := strides_len h0
    go_enter Try.func15, Try.ntmps15
    go_wp2_with (first
      | (go_at_call 10; refine (shape_Validate hv).mono ?_; rintro e w' ⟨rfl, rfl⟩)
      | (at_make; refine make_ints rfl _ _ rfl n n n rfl rfl rfl rfl (by omega) (Ext.refl w) ?_; intro w1 g hown hext))
    go_loopw [5, 4] (fun i s wr => ∃ (i' : Int) (z : Int), -1 ≤ i' ∧ i' < n ∧ i = .int .i64 i' ∧ s = .int .i64 z ∧ Hid (z = prod (xs.drop (i' + 1).toNat)) ∧ Ext w wr ∧
        Own wr w.heap.size (.slice (some ⟨g, 0, none⟩) n n) (List.replicate (i' + 1).toNat 0 ++ (strides xs).drop (i' + 1).toNat)) (fun i _ _ => (intOf i + 1).toNat)
    case atStart =>
      refine ⟨_, _, by omega, by omega, rfl, rfl, ?_, hext, ?_⟩
      · show _ = _
        rw [show ((n : Int) - 1 + 1).toNat = n from by omega, List.drop_eq_nil_of_le (by rw [← HN.out]; omega)]
        rfl
      · rw [show ((n : Int) - 1 + 1).toNat = n from by omega, List.drop_eq_nil_of_le (by rw [HL.out, ← HN.out]; omega), List.append_nil]
        exact hown
    case round =>
      obtain ⟨i', z, hi1, hi2, rfl, rfl, hz, hx, ho⟩ := hrel
      by_cases hi : 0 ≤ i'
      · obtain ⟨k, rfl⟩ := Int.eq_ofNat_of_zero_le hi
        have hk : k < n := by omega
        have hkx : k < xs.length := by rw [← HN.out]; exact hk
        have hcell : wr.cell? (adr a k) = some (.int .i64 (xs[k]?.getD 0)) := (Below.cell hx (h.cells.block k (by simpa using hkx))).trans (HC.out k hk)
        have hne : (adr a k).block ≠ g := by have := h.cells.block k (by simpa using hkx); have := ho.ge; omega
        have ho' := ho
        rw [show ((k : Int) + 1).toNat = k + 1 from by omega] at ho' hz
        have hlen : Hid (n = (List.replicate (k + 1) (0 : Int) ++ (strides xs).drop (k + 1)).length) := by
          show _ = _
          rw [List.length_append, List.length_replicate, List.length_drop, HL.out, ← HN.out]; omega
        have hc1 := ho'.cell hlen.out k hk
        have hc2 := ho'.free hlen.out k
        have hcell2 : (wr.setCell ⟨g, k, none⟩ (.int .i64 z)).cell? (adr a k) = some (.int .i64 (xs[k]?.getD 0)) := by
          rw [setCell_far hne]; exact hcell
        have hz' : z * xs[k]?.getD 0 = prod (xs.drop k) := by rw [prod_drop hkx, hz.out, Int.mul_comm]
        have Hkx := Lib.hid hkx
        clear hkx
        have hb := hg.drop_le k
        rw [← hz'] at hb
        have Hz := Lib.hid hz'
        clear hz'
        obtain ⟨hb1, hb2⟩ := hb
        go_wp2
        go_roundw
        case rel =>
          have e : ((k : Int) - 1 + 1).toNat = k := by omega
          refine ⟨_, _, by omega, by omega, rfl, rfl, by rw [e]; exact Hz, hx.setCell ho.ge _, ?_⟩
          have h2 := ho'.store hlen.out k z
          rw [set_fill, hz.out, ← strides_drop h0 Hkx.out] at h2
          rw [e, hz.out]
          exact h2
        case measure => simp [intOf]
      · obtain rfl : i' = -1 := by omega
        go_wp2
        go_ret
        have h2 : Own wr w.heap.size (.slice (some ⟨g, 0, none⟩) n n) (strides xs) := ho
        exact ⟨_, rfl, h2.isInts (by rw [HL.out, ← HN.out]; omega), hx⟩
  · have HS : Hid (_ = _) := strides_bad h0
    go_enter Try.func15, Try.ntmps15
    go_wp2_with (go_at_call 10; refine (shape_Validate hv).mono ?_; rintro e w' ⟨rfl, rfl⟩)
    go_ret
    exact ⟨_, rfl, by rw [HS.out]; exact IsInts.nil w, Ext.refl w⟩
end Go.Proofs.Ytcdjgfamgnhffaa
