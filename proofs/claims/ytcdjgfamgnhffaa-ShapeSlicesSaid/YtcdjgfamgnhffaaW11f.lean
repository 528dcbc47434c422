/- The walk of brocaderef11.Permute. -/
import Derived.Test.YtcdjgfamgnhffaaW11e
set_option linter.unusedVariables false
set_option linter.unusedSimpArgs false
namespace Go.Proofs.Ytcdjgfamgnhffaa
open Go.RowKit

set_option maxHeartbeats 2000000 in
theorem ref11_Permute {u v : Value} {xs os : List Int} {w : World} (hu : IsInts w u xs) (hv : IsInts w v os) :
    Calls Try.prog 18 #[u, v] w (RetErr w (permute xs os)) := by
  obtain ⟨a, n, c, HN, hnc, rfl, h⟩ := hu.open
  obtain ⟨b, m, d, HM, hmd, rfl, k⟩ := hv.open
  have hix := idx_ints h n c HN
  have hiy := idx_ints k m d HM
  have hl := h.len
  have hm := k.len
  rw [← HN.out] at hl
  rw [← HM.out] at hm
  by_cases h0 : vld xs = 0
  · have h6 : n ≤ 6 := by rw [HN.out]; exact (good_of_vld h0).len
    by_cases hnm : m = n
    · subst hnm
      have HE : Hid (os.length = xs.length) := by show _ = _; rw [← HM.out, HN.out]
      go_enter Try.func18, Try.ntmps18
      go_wp2_with (first
        | (go_at_call 11; refine (ref11_Validate hu).mono ?_; rintro e w' ⟨rfl, rfl⟩)
        | (at_make; refine make_bools rfl _ _ rfl m m m rfl rfl rfl rfl (by omega) ?_; intro w1 g hs0 hge hx1))
      have hs : Arr w1 g 4 (seenL m (os.take 0)) := by rw [List.take_zero, seenL_nil]; exact hs0
      have hgw : w.heap.size ≤ g := hge
      have hgl := hs.lt
      clear hs0 hge
      go_loopw [9, 8] (fun i v wr => ∃ j : Nat, j ≤ m ∧ i = .int .i64 j ∧ Ext w wr ∧ g < wr.heap.size ∧ Arr wr g 4 (seenL m (os.take j)) ∧
          Own wr (g + 1) v (pick xs (os.take j)) ∧ Pre m os j) (fun i _ _ => m - (intOf i).toNat)
      case atStart => exact ⟨0, Nat.zero_le _, rfl, hx1, hgl, hs, Own.nil _ _, Pre.zero _ _⟩
      case round =>
        obtain ⟨j, hj, rfl, hx, hgr, hsn, hown, hpre⟩ := hrel
        by_cases hjm : j < m
        · have Hj : Hid (j < os.length) := by show _ < _; rw [← HM.out]; exact hjm
          have hcell : wr.cell? (adr b j) = some (.int .i64 (os[j]?.getD 0)) := (k.ext hx).cell j Hj.out
          obtain ⟨o, ho⟩ : ∃ o, o = os[j]?.getD 0 := ⟨_, rfl⟩
          rw [← ho] at hcell
          have HO := Lib.hid ho
          clear ho
          by_cases h1 : o < 0
          · have HP : Hid (_ = _) := permute_no h0 (no_range (n := xs.length) Hj.out (.inl (by rw [← HO.out]; exact h1)))
            go_wp2
            go_ret2
            exact ⟨_, by rw [HP.out]; rfl, by rw [HP.out]; exact IsInts.nil wr, hx⟩
          · by_cases h2 : (m : Int) ≤ o
            · have HP : Hid (_ = _) := permute_no h0 (no_range (n := xs.length) Hj.out (.inr (by rw [← HO.out, ← HN.out]; exact h2)))
              go_wp2
              go_ret2
              exact ⟨_, by rw [HP.out]; rfl, by rw [HP.out]; exact IsInts.nil wr, hx⟩
            · obtain ⟨i, rfl⟩ := Int.eq_ofNat_of_zero_le (show 0 ≤ o by omega)
              have him : i < m := by omega
              have hsc : wr.cell? ⟨g, i, none⟩ = some (.bool (decide ((i : Int) ∈ os.take j))) := by rw [hsn.cell, seenL_get him]
              by_cases h3 : (i : Int) ∈ os.take j
              · have HP : Hid (_ = _) := permute_no h0 (no_dup (n := xs.length) Hj.out (by rw [← HO.out]; exact h3))
                rw [decide_eq_true h3] at hsc
                clear h3
                go_wp2
                go_ret2
                exact ⟨_, by rw [HP.out]; rfl, by rw [HP.out]; exact IsInts.nil wr, hx⟩
              · rw [decide_eq_false h3] at hsc
                have H3 := Lib.hid h3
                clear h3
                have hsf := hsn.free i
                have hx2 := hx.setCell (p := ⟨g, i, none⟩) hgw (.bool true)
                have hoc := (k.ext hx2).cell j Hj.out
                rw [← HO.out] at hoc
                have hac := (h.ext hx2).cell i (by rw [← HN.out]; exact him)
                have hsn2 := hsn.store i (.bool true)
                have hown2 := hown.under (k := i) (Nat.lt_succ_self g) (.bool true)
                have hlen : (pick xs (os.take j)).length + 1 ≤ 17592186044416 := by rw [length_pick, List.length_take]; omega
                have hsz : (wr.setCell ⟨g, i, none⟩ (.bool true)).heap.size = wr.heap.size := by simp [World.setCell]
                have Hx2 := Lib.hid hx2
                have Hsn2 := Lib.hid hsn2
                have Hown2 := Lib.hid hown2
                have Hsz := Lib.hid hsz
                clear hx2 hsn2 hown2 hsz hsn hown
                go_wp2_with (at_builtin; refine append_int' rfl _ _ rfl _ Hsz.out rfl rfl Hown2.out hlen Hx2.out (by omega) (by rw [Hsz.out]; omega) ?_; intro w3 v3 hown3 hext3 hbel3)
                have hsn3 := Hsn2.out.below hbel3 (Nat.lt_succ_self g)
                go_roundw
                case rel =>
                  refine ⟨j + 1, by omega, by go_num, hext3, hsn3.lt, ?_, ?_, hpre.succ Hj.out (by rw [← HO.out]; omega) (by rw [← HO.out]; omega) (by rw [← HO.out]; exact H3.out)⟩
                  · rw [seenL_set] at hsn3
                    rw [take_snoc Hj.out, ← HO.out]
                    exact hsn3
                  · rw [pick_take_succ Hj.out, ← HO.out]
                    exact hown3
                case measure => simp [intOf]; omega
        · obtain rfl : j = m := by omega
          have HL : Hid (j = os.length) := HM
          have HP : Hid (_ = _) := permute_yes h0 HE.out (by rw [HE.out.symm]; rw [HL.out] at hpre; exact hpre.all)
          have HT : Hid (os.take j = os) := by show _ = _; rw [HL.out, List.take_length]
          rw [HT.out] at hown
          go_wp2
          go_ret2
          exact ⟨_, by rw [HP.out]; rfl, by rw [HP.out]; exact hown.isInts (by rw [length_pick, ← HL.out]; omega), hx⟩
    · go_enter Try.func18, Try.ntmps18
      have HP : Hid (_ = _) := permute_len h0 (show ¬ os.length = xs.length by rw [← HN.out, ← HM.out]; exact hnm)
      go_wp2_with (go_at_call 11; refine (ref11_Validate hu).mono ?_; rintro e w' ⟨rfl, rfl⟩)
      go_ret2
      exact ⟨_, by rw [HP.out]; rfl, by rw [HP.out]; exact IsInts.nil w, Ext.refl w⟩
  · have HP : Hid (_ = _) := permute_bad (order := os) h0
    go_enter Try.func18, Try.ntmps18
    go_wp2_with (go_at_call 11; refine (ref11_Validate hu).mono ?_; rintro e w' ⟨rfl, rfl⟩)
    go_ret2
    exact ⟨_, by rw [HP.out]; rfl, by rw [HP.out]; exact IsInts.nil w, Ext.refl w⟩
end Go.Proofs.Ytcdjgfamgnhffaa
