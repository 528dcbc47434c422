/- The walk of shape.Broadcast. -/
import Derived.Test.YtcdjgfamgnhffaaW11h
import Derived.Test.YtcdjgfamgnhffaaPlain11d
set_option linter.unusedVariables false
set_option linter.unusedSimpArgs false
namespace Go.Proofs.Ytcdjgfamgnhffaa
open Go.RowKit

set_option maxHeartbeats 4000000 in
theorem shape_Broadcast {u v : Value} {xs ys : List Int} {w : World} (hu : IsInts w u xs) (hv : IsInts w v ys) :
    Calls Try.prog 23 #[u, v] w (RetErr w (broadcast xs ys)) := by
  obtain ⟨a, n, c, HN, hnc, rfl, h⟩ := hu.open
  obtain ⟨b, m, d, HM, hmd, rfl, k⟩ := hv.open
  have hix := idx_ints h n c HN
  have hiy := idx_ints k m d HM
  by_cases h0 : vld xs = 0
  · by_cases h1 : vld ys = 0
    · have ga := good_of_vld h0
      have gb := good_of_vld h1
      have n6 : n ≤ 6 := by rw [HN.out]; exact ga.len
      have m6 : m ≤ 6 := by rw [HM.out]; exact gb.len
      have A0 := Lib.hid h0
      have B0 := Lib.hid h1
      by_cases hnm : n < m
      · obtain ⟨s, hs⟩ : ∃ s, m = n + s := ⟨m - n, by omega⟩
        subst hs
        have HMAX : Hid (n + s = max xs.length ys.length) := by show _ = _; rw [← HN.out, ← HM.out]; omega
        go_enter Try.func23, Try.ntmps23
        go_wp2_with (first
          | (go_at_call 10; (with_reducible refine (shape_Validate hu).mono ?_); rintro e w' ⟨rfl, rfl⟩)
          | (go_at_call 10; (with_reducible refine (shape_Validate hv).mono ?_); rintro e w' ⟨rfl, rfl⟩)
          | fail)
        refine (slices_Clone hv (by rw [← HM.out]; omega)).mono ?_
        rintro e w1 ⟨vo, rfl, hown, hx1⟩
        obtain ⟨ao, no, co, HO, hoc, rfl⟩ := hown.open
        have hio := idx_ints ((hown.isInts (by rw [← HM.out]; omega)).ints HO.out) no co HO
        clear h0 h1
        go_wp2
        rw [show ((n : Int) + (s : Int) - (n : Int)) = (s : Int) from by omega]
        go_loopw [10] (fun i wr => ∃ (i' : Int), -1 ≤ i' ∧ i' < n ∧ i = .int .i64 i' ∧ Ext w wr ∧ Own wr w.heap.size (.slice ao no co) (ys.take (s + (i' + 1).toNat) ++ (bcOut ys xs (n + s)).drop (s + (i' + 1).toNat)) ∧
            Hid (∀ j, i' < j → j < (n : Int) → ¬ Clash ys xs (n + s) (s + j.toNat))) (fun i _ => (intOf i + 1).toNat)
        case atStart =>
          have e : ((n : Int) - 1 + 1).toNat = n := by omega
          refine ⟨_, by omega, by omega, rfl, hx1, ?_, fun j hj1 hj2 => by omega⟩
          rw [e, List.take_of_length_le (by rw [← HM.out]; omega), List.drop_eq_nil_of_le (by rw [length_bcOut]; omega), List.append_nil]
          exact hown
        case round =>
          obtain ⟨i', hi1, hi2, rfl, hx, ho, hcl⟩ := hrel
          by_cases hi : 0 ≤ i'
          · obtain ⟨q, rfl⟩ := Int.eq_ofNat_of_zero_le hi
            have hq : q < n := by omega
            have Hq : Hid (s + q < ys.length) := by show _ < _; rw [← HM.out]; omega
            rw [show s + ((q : Int) + 1).toNat = s + q + 1 from by omega] at ho
            have hca := (k.ext hx).cell (s + q) Hq.out
            have hcb := (h.ext hx).cell q (by rw [← HN.out]; exact hq)
            have Hsq : Hid (s + q < no) := by show _ < _; rw [HO.out]; exact Hq.out
            have HLo : Hid (no = (ys.take (s + q + 1) ++ (bcOut ys xs (n + s)).drop (s + q + 1)).length) := by
              show _ = _
              rw [List.length_append, List.length_take, List.length_drop, length_bcOut, HO.out, ← HM.out]
              omega
            obtain ⟨o1, o2, o3, o4⟩ := ho.at HLo.out Hsq.out
            have O4 := Lib.hid o4
            clear o4
            have E1 : Hid (extd ys (n + s) (s + q) = ys[s + q]?.getD 0) := extd_long HM.out (by omega)
            have E2 : Hid (extd xs (n + s) (s + q) = xs[q]?.getD 0) := extd_short HN.out (by omega) hq
            have p1 := (gb.get Hq.out).1
            have p2 := (ga.get (show q < xs.length by rw [← HN.out]; exact hq)).1
            obtain ⟨x, hxe⟩ : ∃ x, x = ys[s + q]?.getD 0 := ⟨_, rfl⟩
            obtain ⟨y, hye⟩ : ∃ y, y = xs[q]?.getD 0 := ⟨_, rfl⟩
            rw [← hxe] at hca p1 E1
            rw [← hye] at hcb p2 E2
            have Hx := Lib.hid hxe
            have Hy := Lib.hid hye
            clear hxe hye
            have EB := bcOut_drop (a := ys) (b := xs) (n := (n + s)) (j := s + q) (by omega)
            rw [E1.out, E2.out] at EB
            have HB := Lib.hid EB
            clear EB
            have e : s + ((q : Int) - 1 + 1).toNat = s + q := by omega
            have He := Lib.hid e
            clear e
            have i1 : IntKind.i64.wrap ((s : Int) + (q : Int)) = (s : Int) + (q : Int) := IntWalk.i64_in _ ⟨by omega, by omega⟩
            have i2 : (0 : Int) ≤ (s : Int) + (q : Int) := by omega
            have i3 : ((s : Int) + (q : Int)).toNat = s + q := by omega
            have i4 : (s : Int) + (q : Int) < (n : Int) + (s : Int) := by omega
            have i5 : (s : Int) + (q : Int) < (no : Int) := by have := Hsq.out; omega
            by_cases hx1 : x = 1
            · subst hx1
              have hxd := hx
              go_wp2
              go_quiet (fail)
              go_wp2
              go_roundw
              case rel =>
                refine ⟨_, by omega, by omega, rfl, (hx.drewN _).setCell o3 _, ?_, fun j hj1 hj2 => ?_⟩
                · refine (fun N => ?_ : ∀ N, Own ((wr.drewN N).setCell _ _) _ _ _) _
                  have h2 := (Own.ext ho ((Ext.refl wr).drewN N)).at HLo.out Hsq.out
                  have h3 := h2.2.2.2 y
                  rw [set_take _ Hq.out, show y = max 1 y from by omega, ← HB.out] at h3
                  rw [He.out]
                  rw [show max 1 y = y from by omega] at h3
                  exact h3
                · by_cases ej : j = q
                  · subst ej
                    intro hc
                    exact hc.2.1 E1.out
                  · exact hcl.out j (by omega) hj2
              case measure => simp [intOf]
            · by_cases hy1 : y = 1
              · subst hy1
                go_wp2
                go_quiet (fail)
                go_wp2
                go_roundw
                case rel =>
                  refine ⟨_, by omega, by omega, rfl, hx.drewN _, ?_, fun j hj1 hj2 => ?_⟩
                  · refine (fun N => ?_ : ∀ N, Own (wr.drewN N) _ _ _) _
                    have h2 := Own.ext ho ((Ext.refl wr).drewN N)
                    rw [keep_take Hq.out, ← Hx.out, show x = max x 1 from by omega, ← HB.out] at h2
                    rw [He.out]
                    exact h2
                  · by_cases ej : j = q
                    · subst ej
                      intro hc
                      exact hc.2.2 E2.out
                    · exact hcl.out j (by omega) hj2
                case measure => simp [intOf]
              · by_cases hxy : x = y
                · subst hxy
                  go_wp2
                  go_quiet (fail)
                  go_wp2
                  go_roundw
                  case rel =>
                    refine ⟨_, by omega, by omega, rfl, hx.drewN _, ?_, fun j hj1 hj2 => ?_⟩
                    · refine (fun N => ?_ : ∀ N, Own (wr.drewN N) _ _ _) _
                      have h2 := Own.ext ho ((Ext.refl wr).drewN N)
                      rw [keep_take Hq.out, ← Hx.out, show x = max x x from by omega, ← HB.out] at h2
                      rw [He.out]
                      exact h2
                    · by_cases ej : j = q
                      · subst ej
                        intro hc
                        exact hc.1 (by rw [show s + ((q : Int)).toNat = s + q from by omega, E1.out, E2.out])
                      · exact hcl.out j (by omega) hj2
                  case measure => simp [intOf]
                · have HF : Hid (broadcast xs ys = ([], 15)) := by
                    refine bc_clash A0.out B0.out HMAX.out (j := s + q) (by omega) (clash_comm.1 ⟨by rw [E1.out, E2.out]; exact hxy, by rw [E1.out]; exact hx1, by rw [E2.out]; exact hy1⟩)
                  have hb1 : (y == 1) = false := beq_eq_false_iff_ne.2 hy1
                  have hb2 : (x == y) = false := beq_eq_false_iff_ne.2 hxy
                  have hb3 : (y != 1) = true := by rw [bne_iff_ne]; exact hy1
                  have hb4 : (x != y) = true := by rw [bne_iff_ne]; exact hxy
                  go_wp2
                  go_quiet (fail)
                  go_wp2
                  go_ret2
                  exact ⟨_, by rw [HF.out]; rfl, by rw [HF.out]; exact IsInts.nil _, hx.drewN _⟩
          · obtain rfl : i' = -1 := by omega
            have ho2 : Own wr w.heap.size (.slice ao no co) (bcOut ys xs (n + s)) := by
              have h2 : Own wr w.heap.size (.slice ao no co) (ys.take s ++ (bcOut ys xs (n + s)).drop s) := ho
              rw [bcOut_front gb.pos HM.out HN.out (by omega)] at h2
              exact h2
            have hvo := ho2.isInts (by rw [length_bcOut]; omega)
            have HNC : Hid (∀ j, j < n + s → ¬ Clash ys xs (n + s) j) := fun j hj => by
              by_cases hjs : j < s
              · intro hc
                exact hc.2.2 (extd_front HN.out (by omega) hjs)
              · have := hcl.out ((j - s : Nat) : Int) (by omega) (by omega)
                rw [show s + ((j - s : Nat) : Int).toNat = j from by omega] at this
                exact this
            clear ho ho2
            by_cases hv0 : vld (bcOut ys xs (n + s)) = 0
            · have HF : Hid (broadcast xs ys = (bcOut ys xs (n + s), 0)) := by rw [Hid, bcOut_comm]; rw [bcOut_comm] at hv0; exact bc_yes A0.out B0.out HMAX.out (fun j hj hc => HNC.out j hj (clash_comm.1 hc)) hv0
              go_wp2_with (go_at_call 10; refine (shape_Validate hvo).mono ?_; rintro e w' ⟨rfl, rfl⟩)
              go_ret2
              exact ⟨_, by rw [HF.out]; rfl, by rw [HF.out]; exact hvo, hx⟩
            · have HF : Hid (broadcast xs ys = ([], vld (bcOut ys xs (n + s)))) := by rw [Hid, bcOut_comm]; rw [bcOut_comm] at hv0; exact bc_no A0.out B0.out HMAX.out (fun j hj hc => HNC.out j hj (clash_comm.1 hc)) hv0
              go_wp2_with (go_at_call 10; refine (shape_Validate hvo).mono ?_; rintro e w' ⟨rfl, rfl⟩)
              go_ret2
              exact ⟨_, by rw [HF.out]; rfl, by rw [HF.out]; exact IsInts.nil wr, hx⟩
      · obtain ⟨s, hs⟩ : ∃ s, n = m + s := ⟨n - m, by omega⟩
        subst hs
        have HMAX : Hid (m + s = max xs.length ys.length) := by show _ = _; rw [← HN.out, ← HM.out]; omega
        go_enter Try.func23, Try.ntmps23
        go_wp2_with (first
          | (go_at_call 10; (with_reducible refine (shape_Validate hu).mono ?_); rintro e w' ⟨rfl, rfl⟩)
          | (go_at_call 10; (with_reducible refine (shape_Validate hv).mono ?_); rintro e w' ⟨rfl, rfl⟩)
          | fail)
        refine (slices_Clone hu (by rw [← HN.out]; omega)).mono ?_
        rintro e w1 ⟨vo, rfl, hown, hx1⟩
        obtain ⟨ao, no, co, HO, hoc, rfl⟩ := hown.open
        have hio := idx_ints ((hown.isInts (by rw [← HN.out]; omega)).ints HO.out) no co HO
        clear h0 h1
        go_wp2
        rw [show ((m : Int) + (s : Int) - (m : Int)) = (s : Int) from by omega]
        go_loopw [10] (fun i wr => ∃ (i' : Int), -1 ≤ i' ∧ i' < m ∧ i = .int .i64 i' ∧ Ext w wr ∧ Own wr w.heap.size (.slice ao no co) (xs.take (s + (i' + 1).toNat) ++ (bcOut xs ys (m + s)).drop (s + (i' + 1).toNat)) ∧
            Hid (∀ j, i' < j → j < (m : Int) → ¬ Clash xs ys (m + s) (s + j.toNat))) (fun i _ => (intOf i + 1).toNat)
        case atStart =>
          have e : ((m : Int) - 1 + 1).toNat = m := by omega
          refine ⟨_, by omega, by omega, rfl, hx1, ?_, fun j hj1 hj2 => by omega⟩
          rw [e, List.take_of_length_le (by rw [← HN.out]; omega), List.drop_eq_nil_of_le (by rw [length_bcOut]; omega), List.append_nil]
          exact hown
        case round =>
          obtain ⟨i', hi1, hi2, rfl, hx, ho, hcl⟩ := hrel
          by_cases hi : 0 ≤ i'
          · obtain ⟨q, rfl⟩ := Int.eq_ofNat_of_zero_le hi
            have hq : q < m := by omega
            have Hq : Hid (s + q < xs.length) := by show _ < _; rw [← HN.out]; omega
            rw [show s + ((q : Int) + 1).toNat = s + q + 1 from by omega] at ho
            have hca := (h.ext hx).cell (s + q) Hq.out
            have hcb := (k.ext hx).cell q (by rw [← HM.out]; exact hq)
            have Hsq : Hid (s + q < no) := by show _ < _; rw [HO.out]; exact Hq.out
            have HLo : Hid (no = (xs.take (s + q + 1) ++ (bcOut xs ys (m + s)).drop (s + q + 1)).length) := by
              show _ = _
              rw [List.length_append, List.length_take, List.length_drop, length_bcOut, HO.out, ← HN.out]
              omega
            obtain ⟨o1, o2, o3, o4⟩ := ho.at HLo.out Hsq.out
            have O4 := Lib.hid o4
            clear o4
            have E1 : Hid (extd xs (m + s) (s + q) = xs[s + q]?.getD 0) := extd_long HN.out (by omega)
            have E2 : Hid (extd ys (m + s) (s + q) = ys[q]?.getD 0) := extd_short HM.out (by omega) hq
            have p1 := (ga.get Hq.out).1
            have p2 := (gb.get (show q < ys.length by rw [← HM.out]; exact hq)).1
            obtain ⟨x, hxe⟩ : ∃ x, x = xs[s + q]?.getD 0 := ⟨_, rfl⟩
            obtain ⟨y, hye⟩ : ∃ y, y = ys[q]?.getD 0 := ⟨_, rfl⟩
            rw [← hxe] at hca p1 E1
            rw [← hye] at hcb p2 E2
            have Hx := Lib.hid hxe
            have Hy := Lib.hid hye
            clear hxe hye
            have EB := bcOut_drop (a := xs) (b := ys) (n := (m + s)) (j := s + q) (by omega)
            rw [E1.out, E2.out] at EB
            have HB := Lib.hid EB
            clear EB
            have e : s + ((q : Int) - 1 + 1).toNat = s + q := by omega
            have He := Lib.hid e
            clear e
            have i1 : IntKind.i64.wrap ((s : Int) + (q : Int)) = (s : Int) + (q : Int) := IntWalk.i64_in _ ⟨by omega, by omega⟩
            have i2 : (0 : Int) ≤ (s : Int) + (q : Int) := by omega
            have i3 : ((s : Int) + (q : Int)).toNat = s + q := by omega
            have i4 : (s : Int) + (q : Int) < (m : Int) + (s : Int) := by omega
            have i5 : (s : Int) + (q : Int) < (no : Int) := by have := Hsq.out; omega
            by_cases hx1 : x = 1
            · subst hx1
              have hxd := hx
              go_wp2
              go_quiet (fail)
              go_wp2
              go_roundw
              case rel =>
                refine ⟨_, by omega, by omega, rfl, (hx.drewN _).setCell o3 _, ?_, fun j hj1 hj2 => ?_⟩
                · refine (fun N => ?_ : ∀ N, Own ((wr.drewN N).setCell _ _) _ _ _) _
                  have h2 := (Own.ext ho ((Ext.refl wr).drewN N)).at HLo.out Hsq.out
                  have h3 := h2.2.2.2 y
                  rw [set_take _ Hq.out, show y = max 1 y from by omega, ← HB.out] at h3
                  rw [He.out]
                  rw [show max 1 y = y from by omega] at h3
                  exact h3
                · by_cases ej : j = q
                  · subst ej
                    intro hc
                    exact hc.2.1 E1.out
                  · exact hcl.out j (by omega) hj2
              case measure => simp [intOf]
            · by_cases hy1 : y = 1
              · subst hy1
                go_wp2
                go_quiet (fail)
                go_wp2
                go_roundw
                case rel =>
                  refine ⟨_, by omega, by omega, rfl, hx.drewN _, ?_, fun j hj1 hj2 => ?_⟩
                  · refine (fun N => ?_ : ∀ N, Own (wr.drewN N) _ _ _) _
                    have h2 := Own.ext ho ((Ext.refl wr).drewN N)
                    rw [keep_take Hq.out, ← Hx.out, show x = max x 1 from by omega, ← HB.out] at h2
                    rw [He.out]
                    exact h2
                  · by_cases ej : j = q
                    · subst ej
                      intro hc
                      exact hc.2.2 E2.out
                    · exact hcl.out j (by omega) hj2
                case measure => simp [intOf]
              · by_cases hxy : x = y
                · subst hxy
                  go_wp2
                  go_quiet (fail)
                  go_wp2
                  go_roundw
                  case rel =>
                    refine ⟨_, by omega, by omega, rfl, hx.drewN _, ?_, fun j hj1 hj2 => ?_⟩
                    · refine (fun N => ?_ : ∀ N, Own (wr.drewN N) _ _ _) _
                      have h2 := Own.ext ho ((Ext.refl wr).drewN N)
                      rw [keep_take Hq.out, ← Hx.out, show x = max x x from by omega, ← HB.out] at h2
                      rw [He.out]
                      exact h2
                    · by_cases ej : j = q
                      · subst ej
                        intro hc
                        exact hc.1 (by rw [show s + ((q : Int)).toNat = s + q from by omega, E1.out, E2.out])
                      · exact hcl.out j (by omega) hj2
                  case measure => simp [intOf]
                · have HF : Hid (broadcast xs ys = ([], 15)) := by
                    refine bc_clash A0.out B0.out HMAX.out (j := s + q) (by omega) ⟨by rw [E1.out, E2.out]; exact hxy, by rw [E1.out]; exact hx1, by rw [E2.out]; exact hy1⟩
                  have hb1 : (y == 1) = false := beq_eq_false_iff_ne.2 hy1
                  have hb2 : (x == y) = false := beq_eq_false_iff_ne.2 hxy
                  have hb3 : (y != 1) = true := by rw [bne_iff_ne]; exact hy1
                  have hb4 : (x != y) = true := by rw [bne_iff_ne]; exact hxy
                  go_wp2
                  go_quiet (fail)
                  go_wp2
                  go_ret2
                  exact ⟨_, by rw [HF.out]; rfl, by rw [HF.out]; exact IsInts.nil _, hx.drewN _⟩
          · obtain rfl : i' = -1 := by omega
            have ho2 : Own wr w.heap.size (.slice ao no co) (bcOut xs ys (m + s)) := by
              have h2 : Own wr w.heap.size (.slice ao no co) (xs.take s ++ (bcOut xs ys (m + s)).drop s) := ho
              rw [bcOut_front ga.pos HN.out HM.out (by omega)] at h2
              exact h2
            have hvo := ho2.isInts (by rw [length_bcOut]; omega)
            have HNC : Hid (∀ j, j < m + s → ¬ Clash xs ys (m + s) j) := fun j hj => by
              by_cases hjs : j < s
              · intro hc
                exact hc.2.2 (extd_front HM.out (by omega) hjs)
              · have := hcl.out ((j - s : Nat) : Int) (by omega) (by omega)
                rw [show s + ((j - s : Nat) : Int).toNat = j from by omega] at this
                exact this
            clear ho ho2
            by_cases hv0 : vld (bcOut xs ys (m + s)) = 0
            · have HF : Hid (broadcast xs ys = (bcOut xs ys (m + s), 0)) := bc_yes A0.out B0.out HMAX.out HNC.out hv0
              go_wp2_with (go_at_call 10; refine (shape_Validate hvo).mono ?_; rintro e w' ⟨rfl, rfl⟩)
              go_ret2
              exact ⟨_, by rw [HF.out]; rfl, by rw [HF.out]; exact hvo, hx⟩
            · have HF : Hid (broadcast xs ys = ([], vld (bcOut xs ys (m + s)))) := bc_no A0.out B0.out HMAX.out HNC.out hv0
              go_wp2_with (go_at_call 10; refine (shape_Validate hvo).mono ?_; rintro e w' ⟨rfl, rfl⟩)
              go_ret2
              exact ⟨_, by rw [HF.out]; rfl, by rw [HF.out]; exact IsInts.nil wr, hx⟩
    · have HF : Hid (_ = _) := bc_badb h0 h1
      go_enter Try.func23, Try.ntmps23
      go_wp2_with (first
          | (go_at_call 10; (with_reducible refine (shape_Validate hu).mono ?_); rintro e w' ⟨rfl, rfl⟩)
          | (go_at_call 10; (with_reducible refine (shape_Validate hv).mono ?_); rintro e w' ⟨rfl, rfl⟩))
      go_ret2
      exact ⟨_, by rw [HF.out]; rfl, by rw [HF.out]; exact IsInts.nil w, Ext.refl w⟩
  · have HF : Hid (_ = _) := bc_bada (b := ys) h0
    go_enter Try.func23, Try.ntmps23
    go_wp2_with (go_at_call 10; (with_reducible refine (shape_Validate hu).mono ?_); rintro e w' ⟨rfl, rfl⟩)
    go_ret2
    exact ⟨_, by rw [HF.out]; rfl, by rw [HF.out]; exact IsInts.nil w, Ext.refl w⟩
end Go.Proofs.Ytcdjgfamgnhffaa
