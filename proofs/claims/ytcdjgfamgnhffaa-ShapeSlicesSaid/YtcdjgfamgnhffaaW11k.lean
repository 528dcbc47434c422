/- The walks of shape.Slice and its reference. -/
import Derived.Test.YtcdjgfamgnhffaaW11j
set_option linter.unusedVariables false
set_option linter.unusedSimpArgs false
namespace Go.Proofs.Ytcdjgfamgnhffaa
open Go.RowKit

set_option maxHeartbeats 4000000 in
theorem shape_Slice {v : Value} {xs : List Int} {ax f t : Int} {w : World} (hv : IsInts w v xs) :
    Calls Try.prog 25 #[v, .int .i64 ax, .int .i64 f, .int .i64 t] w (RetErr w (slicing xs ax f t)) := by
  obtain ⟨a, n, c, HN, hnc, rfl, h⟩ := hv.open
  have hix := idx_ints h n c HN
  by_cases h0 : vld xs = 0
  · have hg := good_of_vld h0
    have h6 : n ≤ 6 := by rw [HN.out]; exact hg.len
    have H0 := Lib.hid h0
    by_cases h1 : ax < 0
    · have HF : Hid (slicing xs ax f t = ([], 11)) := sl_rank h0 (.inl h1)
      go_enter Try.func25, Try.ntmps25
      go_wp2_with (go_at_call 10; refine (shape_Validate hv).mono ?_; rintro e w' ⟨rfl, rfl⟩)
      go_ret2
      exact ⟨_, by rw [HF.out]; rfl, by rw [HF.out]; exact IsInts.nil w, Ext.refl w⟩
    · by_cases h2 : (n : Int) ≤ ax
      · have HF : Hid (slicing xs ax f t = ([], 11)) := sl_rank h0 (.inr (by rw [← HN.out]; exact h2))
        go_enter Try.func25, Try.ntmps25
        go_wp2_with (go_at_call 10; refine (shape_Validate hv).mono ?_; rintro e w' ⟨rfl, rfl⟩)
        go_ret2
        exact ⟨_, by rw [HF.out]; rfl, by rw [HF.out]; exact IsInts.nil w, Ext.refl w⟩
      · obtain ⟨q, rfl⟩ := Int.eq_ofNat_of_zero_le (show 0 ≤ ax by omega)
        have HR : Hid (¬ ((q : Int) < 0 ∨ (xs.length : Int) ≤ q)) := by show ¬ _; rw [← HN.out]; omega
        have hq : q < n := by omega
        have Hq : Hid (q < xs.length) := by show _ < _; rw [← HN.out]; exact hq
        have hc1 := h.cell q Hq.out
        have hb := hg.get Hq.out
        have HD : Hid (xs[(q : Int).toNat]?.getD 0 = xs[q]?.getD 0) := rfl
        by_cases h3 : f < 0
        · have HF : Hid (slicing xs q f t = ([], 12)) := sl_bounds h0 HR.out (.inl h3)
          go_enter Try.func25, Try.ntmps25
          go_wp2_with (go_at_call 10; refine (shape_Validate hv).mono ?_; rintro e w' ⟨rfl, rfl⟩)
          go_ret2
          exact ⟨_, by rw [HF.out]; rfl, by rw [HF.out]; exact IsInts.nil w, Ext.refl w⟩
        · by_cases h4 : t ≤ f
          · have HF : Hid (slicing xs q f t = ([], 12)) := sl_bounds h0 HR.out (.inr (.inl h4))
            go_enter Try.func25, Try.ntmps25
            go_wp2_with (go_at_call 10; refine (shape_Validate hv).mono ?_; rintro e w' ⟨rfl, rfl⟩)
            go_ret2
            exact ⟨_, by rw [HF.out]; rfl, by rw [HF.out]; exact IsInts.nil w, Ext.refl w⟩
          · by_cases h5 : xs[q]?.getD 0 < t
            · have HF : Hid (slicing xs q f t = ([], 12)) := sl_bounds h0 HR.out (.inr (.inr (by rw [HD.out]; exact h5)))
              go_enter Try.func25, Try.ntmps25
              go_wp2_with (go_at_call 10; refine (shape_Validate hv).mono ?_; rintro e w' ⟨rfl, rfl⟩)
              go_ret2
              exact ⟨_, by rw [HF.out]; rfl, by rw [HF.out]; exact IsInts.nil w, Ext.refl w⟩
            · have HF : Hid (slicing xs q f t = (xs.set q (t - f), 0)) := sl_yes h0 HR.out (by rw [HD.out]; omega)
              clear h0
              go_enter Try.func25, Try.ntmps25
              go_wp2_with (first
                | (go_at_call 10; refine (shape_Validate hv).mono ?_; rintro e w' ⟨rfl, rfl⟩; rw [H0.out])
                | fail)
              refine (slices_Clone hv (by rw [← HN.out]; omega)).mono ?_
              rintro e w1 ⟨vo, rfl, hown, hx1⟩
              obtain ⟨ao, no, co, HO, hoc, rfl⟩ := hown.open
              have hio := idx_ints ((hown.isInts (by rw [← HN.out]; omega)).ints HO.out) no co HO
              have hno : q < no := by rw [HO.out]; exact Hq.out
              obtain ⟨o1, o2, o3, o4⟩ := hown.at HO.out hno
              have O4 := Lib.hid o4
              clear o4
              go_wp2
              go_ret2
              exact ⟨_, by rw [HF.out]; rfl, by rw [HF.out]; exact (O4.out (t - f)).isInts (by rw [List.length_set, ← HN.out]; omega) |> fun hh => by rw [HO.out]; exact IsInts.mk (by rw [List.length_set]) (by rw [← HO.out]; exact hoc) (hh.ints (by rw [List.length_set]; exact HO.out)), hx1.setCell o3 _⟩
  · have HF : Hid (_ = _) := sl_bad (axis := ax) (f := f) (t := t) h0
    go_enter Try.func25, Try.ntmps25
    go_wp2_with (go_at_call 10; refine (shape_Validate hv).mono ?_; rintro e w' ⟨rfl, rfl⟩)
    go_ret2
    exact ⟨_, by rw [HF.out]; rfl, by rw [HF.out]; exact IsInts.nil w, Ext.refl w⟩

set_option maxHeartbeats 4000000 in
theorem ref11_Slice {v : Value} {xs : List Int} {ax f t : Int} {w : World} (hv : IsInts w v xs) :
    Calls Try.prog 26 #[v, .int .i64 ax, .int .i64 f, .int .i64 t] w (RetErr w (slicing xs ax f t)) := by
  obtain ⟨a, n, c, HN, hnc, rfl, h⟩ := hv.open
  have hix := idx_ints h n c HN
  by_cases h0 : vld xs = 0
  · have hg := good_of_vld h0
    have h6 : n ≤ 6 := by rw [HN.out]; exact hg.len
    have H0 := Lib.hid h0
    by_cases h1 : ax < 0
    · have HF : Hid (slicing xs ax f t = ([], 11)) := sl_rank h0 (.inl h1)
      go_enter Try.func26, Try.ntmps26
      go_wp2_with (go_at_call 11; refine (ref11_Validate hv).mono ?_; rintro e w' ⟨rfl, rfl⟩)
      go_ret2
      exact ⟨_, by rw [HF.out]; rfl, by rw [HF.out]; exact IsInts.nil w, Ext.refl w⟩
    · by_cases h2 : (n : Int) ≤ ax
      · have HF : Hid (slicing xs ax f t = ([], 11)) := sl_rank h0 (.inr (by rw [← HN.out]; exact h2))
        go_enter Try.func26, Try.ntmps26
        go_wp2_with (go_at_call 11; refine (ref11_Validate hv).mono ?_; rintro e w' ⟨rfl, rfl⟩)
        go_ret2
        exact ⟨_, by rw [HF.out]; rfl, by rw [HF.out]; exact IsInts.nil w, Ext.refl w⟩
      · obtain ⟨q, rfl⟩ := Int.eq_ofNat_of_zero_le (show 0 ≤ ax by omega)
        have HR : Hid (¬ ((q : Int) < 0 ∨ (xs.length : Int) ≤ q)) := by show ¬ _; rw [← HN.out]; omega
        have hq : q < n := by omega
        have Hq : Hid (q < xs.length) := by show _ < _; rw [← HN.out]; exact hq
        have hc1 := h.cell q Hq.out
        have hb := hg.get Hq.out
        have HD : Hid (xs[(q : Int).toNat]?.getD 0 = xs[q]?.getD 0) := rfl
        by_cases h3 : f < 0
        · have HF : Hid (slicing xs q f t = ([], 12)) := sl_bounds h0 HR.out (.inl h3)
          go_enter Try.func26, Try.ntmps26
          go_wp2_with (go_at_call 11; refine (ref11_Validate hv).mono ?_; rintro e w' ⟨rfl, rfl⟩)
          go_ret2
          exact ⟨_, by rw [HF.out]; rfl, by rw [HF.out]; exact IsInts.nil w, Ext.refl w⟩
        · by_cases h4 : t ≤ f
          · have HF : Hid (slicing xs q f t = ([], 12)) := sl_bounds h0 HR.out (.inr (.inl h4))
            go_enter Try.func26, Try.ntmps26
            go_wp2_with (go_at_call 11; refine (ref11_Validate hv).mono ?_; rintro e w' ⟨rfl, rfl⟩)
            go_ret2
            exact ⟨_, by rw [HF.out]; rfl, by rw [HF.out]; exact IsInts.nil w, Ext.refl w⟩
          · by_cases h5 : xs[q]?.getD 0 < t
            · have HF : Hid (slicing xs q f t = ([], 12)) := sl_bounds h0 HR.out (.inr (.inr (by rw [HD.out]; exact h5)))
              go_enter Try.func26, Try.ntmps26
              go_wp2_with (go_at_call 11; refine (ref11_Validate hv).mono ?_; rintro e w' ⟨rfl, rfl⟩)
              go_ret2
              exact ⟨_, by rw [HF.out]; rfl, by rw [HF.out]; exact IsInts.nil w, Ext.refl w⟩
            · have HF : Hid (slicing xs q f t = (xs.set q (t - f), 0)) := sl_yes h0 HR.out (by rw [HD.out]; omega)
              clear h0
              go_enter Try.func26, Try.ntmps26
              go_wp2_with (first
                | (go_at_call 11; refine (ref11_Validate hv).mono ?_; rintro e w' ⟨rfl, rfl⟩; rw [H0.out])
                | fail)
              go_loopw [12, 11] (fun i s wr => ∃ (k : Nat), k ≤ n ∧ i = .int .i64 k ∧ Ext w wr ∧ Own wr w.heap.size s ((xs.set q (t - f)).take k)) (fun i _ _ => n - (intOf i).toNat)
              case atStart => exact ⟨0, Nat.zero_le _, rfl, Ext.refl w, Own.nil _ _⟩
              case round =>
                obtain ⟨k, hk, rfl, hx, ho⟩ := hrel
                by_cases hkn : k < n
                · have Hk : Hid (k < xs.length) := by show _ < _; rw [← HN.out]; exact hkn
                  have hck := (h.ext hx).cell k Hk.out
                  have hlt : ((xs.set q (t - f)).take k).length + 1 ≤ 17592186044416 := by rw [List.length_take]; omega
                  have HT : Hid (_ = _) := set_take_succ (i := q) (t - f) Hk.out
                  by_cases hqk : k = q
                  · subst hqk
                    rw [if_pos rfl] at HT
                    go_wp2_with (at_builtin; refine append_int' rfl _ _ rfl _ rfl rfl rfl ho hlt hx (Nat.le_refl _) hx.size ?_; intro w2 v2 hown2 hext2 _)
                    go_roundw
                    case rel => exact ⟨k + 1, by omega, by go_num, hext2, by rw [HT.out]; exact hown2⟩
                    case measure => simp [intOf]; omega
                  · rw [if_neg (fun e => hqk e.symm)] at HT
                    have hb1 : ((k : Int) == (q : Int)) = false := beq_eq_false_iff_ne.2 (fun e => hqk (by omega))
                    go_wp2_with (at_builtin; refine append_int' rfl _ _ rfl _ rfl rfl rfl ho hlt hx (Nat.le_refl _) hx.size ?_; intro w2 v2 hown2 hext2 _)
                    go_roundw
                    case rel => exact ⟨k + 1, by omega, by go_num, hext2, by rw [HT.out]; exact hown2⟩
                    case measure => simp [intOf]; omega
                · rw [List.take_of_length_le (by rw [List.length_set, ← HN.out]; omega)] at ho
                  go_wp2
                  go_ret2
                  exact ⟨_, by rw [HF.out]; rfl, by rw [HF.out]; exact ho.isInts (by rw [List.length_set, ← HN.out]; omega), hx⟩
  · have HF : Hid (_ = _) := sl_bad (axis := ax) (f := f) (t := t) h0
    go_enter Try.func26, Try.ntmps26
    go_wp2_with (go_at_call 11; refine (ref11_Validate hv).mono ?_; rintro e w' ⟨rfl, rfl⟩)
    go_ret2
    exact ⟨_, by rw [HF.out]; rfl, by rw [HF.out]; exact IsInts.nil w, Ext.refl w⟩
end Go.Proofs.Ytcdjgfamgnhffaa
