/- The walk of brocaderef11.Broadcast. -/
import Derived.Test.YtcdjgfamgnhffaaW11i
set_option linter.unusedVariables false
set_option linter.unusedSimpArgs false
namespace Go.Proofs.Ytcdjgfamgnhffaa
open Go.RowKit

theorem extd_end {a : List Int} {n N i : Nat} (hn : n = a.length) (hN : n ≤ N) (hi : i < n) : extd a N (N - 1 - i) = a[n - 1 - i]?.getD 0 := by
  subst hn
  rw [extd, if_pos (by omega), show N - 1 - i + a.length - N = a.length - 1 - i from by omega, List.getElem?_eq_getElem (by omega)]
  rfl
theorem extd_out {a : List Int} {n N i : Nat} (hn : n = a.length) (hi : n ≤ i) (hiN : i < N) : extd a N (N - 1 - i) = 1 := by
  subst hn
  rw [extd, if_neg (by omega)]

set_option maxHeartbeats 4000000 in
theorem ref11_Broadcast {u v : Value} {xs ys : List Int} {w : World} (hu : IsInts w u xs) (hv : IsInts w v ys) :
    Calls Try.prog 24 #[u, v] w (RetErr w (broadcast xs ys)) := by
  obtain ⟨a, n, c, HN, hnc, rfl, h⟩ := hu.open
  obtain ⟨b, m, d, HM, hmd, rfl, k⟩ := hv.open
  have hix := idx_ints h n c HN
  have hiy := idx_ints k m d HM
  by_cases h0 : vld xs = 0
  · by_cases h1 : vld ys = 0
    · have ga := good_of_vld h0
      have gb := good_of_vld h1
      have n6 : n ≤ 6 := by rw [HN.out]; exact ga.len
      have m6 : m ≤ 6 := by rw [HM.out]; exact gb.len
      have A0 := Lib.hid h0
      have B0 := Lib.hid h1
      by_cases hnm : n < m
      · have HMAX : Hid (m = max xs.length ys.length) := by show _ = _; rw [← HN.out, ← HM.out]; omega
        have hN6 : m ≤ 6 := by omega
        go_enter Try.func24, Try.ntmps24
        clear h0 h1
        go_wp2_with (first
          | (go_at_call 11; (with_reducible refine (ref11_Validate hu).mono ?_); rintro e w' ⟨rfl, rfl⟩; rw [A0.out])
          | (go_at_call 11; (with_reducible refine (ref11_Validate hv).mono ?_); rintro e w' ⟨rfl, rfl⟩; rw [B0.out])
          | (at_make; refine make_ints' rfl _ _ rfl m m m rfl rfl rfl rfl (by omega) ?_; intro w1 g harr hge hx1))
        go_loopw [10] (fun i wr => ∃ (i' : Nat), i' ≤ m ∧ i = .int .i64 i' ∧ Ext w wr ∧ Arr wr g 3 ((List.replicate (m - i') 0 ++ (bcOut xs ys m).drop (m - i')).map (.int .i64)) ∧ Hid (∀ j, m - i' ≤ j → j < m → ¬ Clash xs ys m j)) (fun i _ => m - (intOf i).toNat)
        case atStart =>
          refine ⟨0, Nat.zero_le _, rfl, hx1, ?_, fun j hj1 hj2 => by omega⟩
          rw [Nat.sub_zero, List.drop_eq_nil_of_le (by rw [length_bcOut]; omega), List.append_nil]
          exact harr
        case round =>
          obtain ⟨i, hi, rfl, hx, ho, hcl⟩ := hrel
          by_cases hiN : i < m
          · have Hp : Hid (List.replicate (m - i) (0 : Int) = List.replicate (m - 1 - i + 1) 0) := by show _ = _; rw [show m - i = m - 1 - i + 1 from by omega]
            have hoc := ho.int (k := m - 1 - i) (by rw [List.length_append, List.length_replicate]; omega)
            have hof := ho.free (m - 1 - i)
            have Hx2 : Hid (∀ y, Ext w (wr.setCell ⟨g, m - 1 - i, none⟩ y)) := fun y => hx.setCell (p := ⟨g, m - 1 - i, none⟩) hge y
            have Ho2 : Hid (∀ y : Int, Arr (wr.setCell ⟨g, m - 1 - i, none⟩ (.int .i64 y)) g 3 (((List.replicate (m - i) 0 ++ (bcOut xs ys m).drop (m - i)).map (Value.int .i64)).set (m - 1 - i) (.int .i64 y))) := fun y => ho.store (m - 1 - i) (.int .i64 y)
            by_cases hin : i < n
            · have Ha : Hid (n - 1 - i < xs.length) := by show _ < _; rw [← HN.out]; omega
              have hca := (h.ext hx).cell (n - 1 - i) Ha.out
              have hixa : ∀ u : World, (Instr.indexAt 22 (.slice a n c) (.int .i64 ((n : Int) - 1 - (i : Int)))).run Try.prog u = .ok (.pointer (some (adr a (n - 1 - i)))) u := fun u => by
                have := hix u ((n : Int) - 1 - i) (by omega) (by omega)
                rwa [show ((n : Int) - 1 - i).toNat = n - 1 - i from by omega] at this
              have E1 : Hid (extd xs m (m - 1 - i) = xs[n - 1 - i]?.getD 0) := extd_end HN.out (by omega) (by omega)
              have p1 := (ga.get Ha.out).1
              obtain ⟨x, hxe⟩ : ∃ x, x = xs[n - 1 - i]?.getD 0 := ⟨_, rfl⟩
              rw [← hxe] at hca p1 E1
              clear hxe
              have Hb : Hid (m - 1 - i < ys.length) := by show _ < _; rw [← HM.out]; omega
              have hcb := (k.ext hx).cell (m - 1 - i) Hb.out
              have hixb : ∀ u : World, (Instr.indexAt 22 (.slice b m d) (.int .i64 ((m : Int) - 1 - (i : Int)))).run Try.prog u = .ok (.pointer (some (adr b (m - 1 - i)))) u := fun u => by
                have := hiy u ((m : Int) - 1 - i) (by omega) (by omega)
                rwa [show ((m : Int) - 1 - i).toNat = m - 1 - i from by omega] at this
              have E2 : Hid (extd ys m (m - 1 - i) = ys[m - 1 - i]?.getD 0) := extd_end HM.out (by omega) (by omega)
              have p2 := (gb.get Hb.out).1
              obtain ⟨y, hye⟩ : ∃ y, y = ys[m - 1 - i]?.getD 0 := ⟨_, rfl⟩
              rw [← hye] at hcb p2 E2
              clear hye
              have EB := bcOut_drop (a := xs) (b := ys) (n := m) (j := m - 1 - i) (by omega)
              rw [E1.out, E2.out, show m - 1 - i + 1 = m - i from by omega] at EB
              have HB := Lib.hid EB
              clear EB
              by_cases hxy : x = y
              · subst hxy
                go_wp2
                go_roundw
                case rel =>
                  refine ⟨i + 1, by omega, by go_num, (Hx2.out _), ?_, fun j hj1 hj2 => ?_⟩
                  · have h2 := Ho2.out (x)
                    rw [← List.map_set, Hp.out, set_fill, show (x : Int) = max x x from by omega, ← HB.out] at h2
                    rw [show m - (i + 1) = m - 1 - i from by omega, show (x : Int) = max x x from by omega]
                    exact h2
                  · by_cases ej : j = m - 1 - i
                    · subst ej
                      intro hc
                      exact hc.1 (by rw [E1.out, E2.out])
                    · exact hcl.out j (by omega) hj2
                case measure => simp [intOf]; omega
              · by_cases hx1 : x = 1
                · subst hx1
                  have hb2 : ((1 : Int) == y) = false := beq_eq_false_iff_ne.2 hxy
                  have hb4 : ((1 : Int) != y) = true := by rw [bne_iff_ne]; exact hxy
                  have hlt : 1 < y := by omega
                  go_wp2
                  go_roundw
                  case rel =>
                    refine ⟨i + 1, by omega, by go_num, (Hx2.out _), ?_, fun j hj1 hj2 => ?_⟩
                    · have h2 := Ho2.out (y)
                      rw [← List.map_set, Hp.out, set_fill, show (y : Int) = max 1 y from by omega, ← HB.out] at h2
                      rw [show m - (i + 1) = m - 1 - i from by omega, show (y : Int) = max 1 y from by omega]
                      exact h2
                    · by_cases ej : j = m - 1 - i
                      · subst ej
                        intro hc
                        exact hc.2.1 E1.out
                      · exact hcl.out j (by omega) hj2
                  case measure => simp [intOf]; omega
                · by_cases hy1 : y = 1
                  · subst hy1
                    have hb2 : (x == 1) = false := beq_eq_false_iff_ne.2 hxy
                    have hb4 : (x != 1) = true := by rw [bne_iff_ne]; exact hxy
                    have hlt : ¬ x < 1 := by omega
                    go_wp2
                    go_roundw
                    case rel =>
                      refine ⟨i + 1, by omega, by go_num, (Hx2.out _), ?_, fun j hj1 hj2 => ?_⟩
                      · have h2 := Ho2.out (x)
                        rw [← List.map_set, Hp.out, set_fill, show (x : Int) = max x 1 from by omega, ← HB.out] at h2
                        rw [show m - (i + 1) = m - 1 - i from by omega, show (x : Int) = max x 1 from by omega]
                        exact h2
                      · by_cases ej : j = m - 1 - i
                        · subst ej
                          intro hc
                          exact hc.2.2 E2.out
                        · exact hcl.out j (by omega) hj2
                    case measure => simp [intOf]; omega
                  · have HF : Hid (broadcast xs ys = ([], 15)) := bc_clash A0.out B0.out HMAX.out (j := m - 1 - i) (by omega) ⟨by rw [E1.out, E2.out]; exact hxy, by rw [E1.out]; exact hx1, by rw [E2.out]; exact hy1⟩
                    have hb1 : (y == 1) = false := beq_eq_false_iff_ne.2 hy1
                    have hb2 : (x == y) = false := beq_eq_false_iff_ne.2 hxy
                    have hb3 : (y != 1) = true := by rw [bne_iff_ne]; exact hy1
                    have hb4 : (x != y) = true := by rw [bne_iff_ne]; exact hxy
                    have hb5 : (x == 1) = false := beq_eq_false_iff_ne.2 hx1
                    have hb6 : (x != 1) = true := by rw [bne_iff_ne]; exact hx1
                    go_wp2
                    go_ret2
                    exact ⟨_, by rw [HF.out]; rfl, by rw [HF.out]; exact IsInts.nil _, hx⟩
            · have E1 : Hid (extd xs m (m - 1 - i) = 1) := extd_out HN.out (by omega) (by omega)
              have Hb : Hid (m - 1 - i < ys.length) := by show _ < _; rw [← HM.out]; omega
              have hcb := (k.ext hx).cell (m - 1 - i) Hb.out
              have hixb : ∀ u : World, (Instr.indexAt 22 (.slice b m d) (.int .i64 ((m : Int) - 1 - (i : Int)))).run Try.prog u = .ok (.pointer (some (adr b (m - 1 - i)))) u := fun u => by
                have := hiy u ((m : Int) - 1 - i) (by omega) (by omega)
                rwa [show ((m : Int) - 1 - i).toNat = m - 1 - i from by omega] at this
              have E2 : Hid (extd ys m (m - 1 - i) = ys[m - 1 - i]?.getD 0) := extd_end HM.out (by omega) (by omega)
              have p2 := (gb.get Hb.out).1
              obtain ⟨y, hye⟩ : ∃ y, y = ys[m - 1 - i]?.getD 0 := ⟨_, rfl⟩
              rw [← hye] at hcb p2 E2
              clear hye
              have EB := bcOut_drop (a := xs) (b := ys) (n := m) (j := m - 1 - i) (by omega)
              rw [E1.out, E2.out, show m - 1 - i + 1 = m - i from by omega] at EB
              have HB := Lib.hid EB
              clear EB
              by_cases hy1 : y = 1
              · subst hy1
                go_wp2
                go_roundw
                case rel =>
                  refine ⟨i + 1, by omega, by go_num, (Hx2.out _), ?_, fun j hj1 hj2 => ?_⟩
                  · have h2 := Ho2.out (1)
                    rw [← List.map_set, Hp.out, set_fill, show (1 : Int) = max 1 1 from by omega, ← HB.out] at h2
                    rw [show m - (i + 1) = m - 1 - i from by omega, show (1 : Int) = max 1 1 from by omega]
                    exact h2
                  · by_cases ej : j = m - 1 - i
                    · subst ej
                      intro hc
                      exact hc.2.1 E1.out
                    · exact hcl.out j (by omega) hj2
                case measure => simp [intOf]; omega
              · have hb2 : ((1 : Int) == y) = false := beq_eq_false_iff_ne.2 (fun e => hy1 e.symm)
                have hb4 : ((1 : Int) != y) = true := by rw [bne_iff_ne]; exact (fun e => hy1 e.symm)
                have hlt : 1 < y := by omega
                go_wp2
                go_roundw
                case rel =>
                  refine ⟨i + 1, by omega, by go_num, (Hx2.out _), ?_, fun j hj1 hj2 => ?_⟩
                  · have h2 := Ho2.out (y)
                    rw [← List.map_set, Hp.out, set_fill, show (y : Int) = max 1 y from by omega, ← HB.out] at h2
                    rw [show m - (i + 1) = m - 1 - i from by omega, show (y : Int) = max 1 y from by omega]
                    exact h2
                  · by_cases ej : j = m - 1 - i
                    · subst ej
                      intro hc
                      exact hc.2.1 E1.out
                    · exact hcl.out j (by omega) hj2
                case measure => simp [intOf]; omega
          · obtain rfl : i = m := by omega
            have ho2 : Arr wr g 3 ((bcOut xs ys i).map (.int .i64)) := by
              rw [Nat.sub_self, List.replicate_zero, List.nil_append, List.drop_zero] at ho
              exact ho
            have hvo := ho2.isInts (n := i) (c := i) (by rw [length_bcOut]) (Nat.le_refl _) (by omega)
            have HNC : Hid (∀ j, j < i → ¬ Clash xs ys i j) := fun j hj => hcl.out j (by omega) hj
            clear ho ho2
            by_cases hv0 : vld (bcOut xs ys i) = 0
            · have HF : Hid (broadcast xs ys = (bcOut xs ys i, 0)) := bc_yes A0.out B0.out HMAX.out HNC.out hv0
              go_wp2_with (go_at_call 11; refine (ref11_Validate hvo).mono ?_; rintro e w' ⟨rfl, rfl⟩)
              go_ret2
              exact ⟨_, by rw [HF.out]; rfl, by rw [HF.out]; exact hvo, hx⟩
            · have HF : Hid (broadcast xs ys = ([], vld (bcOut xs ys i))) := bc_no A0.out B0.out HMAX.out HNC.out hv0
              go_wp2_with (go_at_call 11; refine (ref11_Validate hvo).mono ?_; rintro e w' ⟨rfl, rfl⟩)
              go_ret2
              exact ⟨_, by rw [HF.out]; rfl, by rw [HF.out]; exact IsInts.nil wr, hx⟩
      · have HMAX : Hid (n = max xs.length ys.length) := by show _ = _; rw [← HN.out, ← HM.out]; omega
        have hN6 : n ≤ 6 := by omega
        go_enter Try.func24, Try.ntmps24
        clear h0 h1
        go_wp2_with (first
          | (go_at_call 11; (with_reducible refine (ref11_Validate hu).mono ?_); rintro e w' ⟨rfl, rfl⟩; rw [A0.out])
          | (go_at_call 11; (with_reducible refine (ref11_Validate hv).mono ?_); rintro e w' ⟨rfl, rfl⟩; rw [B0.out])
          | (at_make; refine make_ints' rfl _ _ rfl n n n rfl rfl rfl rfl (by omega) ?_; intro w1 g harr hge hx1))
        go_loopw [10] (fun i wr => ∃ (i' : Nat), i' ≤ n ∧ i = .int .i64 i' ∧ Ext w wr ∧ Arr wr g 3 ((List.replicate (n - i') 0 ++ (bcOut xs ys n).drop (n - i')).map (.int .i64)) ∧ Hid (∀ j, n - i' ≤ j → j < n → ¬ Clash xs ys n j)) (fun i _ => n - (intOf i).toNat)
        case atStart =>
          refine ⟨0, Nat.zero_le _, rfl, hx1, ?_, fun j hj1 hj2 => by omega⟩
          rw [Nat.sub_zero, List.drop_eq_nil_of_le (by rw [length_bcOut]; omega), List.append_nil]
          exact harr
        case round =>
          obtain ⟨i, hi, rfl, hx, ho, hcl⟩ := hrel
          by_cases hiN : i < n
          · have Hp : Hid (List.replicate (n - i) (0 : Int) = List.replicate (n - 1 - i + 1) 0) := by show _ = _; rw [show n - i = n - 1 - i + 1 from by omega]
            have hoc := ho.int (k := n - 1 - i) (by rw [List.length_append, List.length_replicate]; omega)
            have hof := ho.free (n - 1 - i)
            have Hx2 : Hid (∀ y, Ext w (wr.setCell ⟨g, n - 1 - i, none⟩ y)) := fun y => hx.setCell (p := ⟨g, n - 1 - i, none⟩) hge y
            have Ho2 : Hid (∀ y : Int, Arr (wr.setCell ⟨g, n - 1 - i, none⟩ (.int .i64 y)) g 3 (((List.replicate (n - i) 0 ++ (bcOut xs ys n).drop (n - i)).map (Value.int .i64)).set (n - 1 - i) (.int .i64 y))) := fun y => ho.store (n - 1 - i) (.int .i64 y)
            by_cases him : i < m
            · have Ha : Hid (n - 1 - i < xs.length) := by show _ < _; rw [← HN.out]; omega
              have hca := (h.ext hx).cell (n - 1 - i) Ha.out
              have hixa : ∀ u : World, (Instr.indexAt 22 (.slice a n c) (.int .i64 ((n : Int) - 1 - (i : Int)))).run Try.prog u = .ok (.pointer (some (adr a (n - 1 - i)))) u := fun u => by
                have := hix u ((n : Int) - 1 - i) (by omega) (by omega)
                rwa [show ((n : Int) - 1 - i).toNat = n - 1 - i from by omega] at this
              have E1 : Hid (extd xs n (n - 1 - i) = xs[n - 1 - i]?.getD 0) := extd_end HN.out (by omega) (by omega)
              have p1 := (ga.get Ha.out).1
              obtain ⟨x, hxe⟩ : ∃ x, x = xs[n - 1 - i]?.getD 0 := ⟨_, rfl⟩
              rw [← hxe] at hca p1 E1
              clear hxe
              have Hb : Hid (m - 1 - i < ys.length) := by show _ < _; rw [← HM.out]; omega
              have hcb := (k.ext hx).cell (m - 1 - i) Hb.out
              have hixb : ∀ u : World, (Instr.indexAt 22 (.slice b m d) (.int .i64 ((m : Int) - 1 - (i : Int)))).run Try.prog u = .ok (.pointer (some (adr b (m - 1 - i)))) u := fun u => by
                have := hiy u ((m : Int) - 1 - i) (by omega) (by omega)
                rwa [show ((m : Int) - 1 - i).toNat = m - 1 - i from by omega] at this
              have E2 : Hid (extd ys n (n - 1 - i) = ys[m - 1 - i]?.getD 0) := extd_end HM.out (by omega) (by omega)
              have p2 := (gb.get Hb.out).1
              obtain ⟨y, hye⟩ : ∃ y, y = ys[m - 1 - i]?.getD 0 := ⟨_, rfl⟩
              rw [← hye] at hcb p2 E2
              clear hye
              have EB := bcOut_drop (a := xs) (b := ys) (n := n) (j := n - 1 - i) (by omega)
              rw [E1.out, E2.out, show n - 1 - i + 1 = n - i from by omega] at EB
              have HB := Lib.hid EB
              clear EB
              by_cases hxy : x = y
              · subst hxy
                go_wp2
                go_roundw
                case rel =>
                  refine ⟨i + 1, by omega, by go_num, (Hx2.out _), ?_, fun j hj1 hj2 => ?_⟩
                  · have h2 := Ho2.out (x)
                    rw [← List.map_set, Hp.out, set_fill, show (x : Int) = max x x from by omega, ← HB.out] at h2
                    rw [show n - (i + 1) = n - 1 - i from by omega, show (x : Int) = max x x from by omega]
                    exact h2
                  · by_cases ej : j = n - 1 - i
                    · subst ej
                      intro hc
                      exact hc.1 (by rw [E1.out, E2.out])
                    · exact hcl.out j (by omega) hj2
                case measure => simp [intOf]; omega
              · by_cases hx1 : x = 1
                · subst hx1
                  have hb2 : ((1 : Int) == y) = false := beq_eq_false_iff_ne.2 hxy
                  have hb4 : ((1 : Int) != y) = true := by rw [bne_iff_ne]; exact hxy
                  have hlt : 1 < y := by omega
                  go_wp2
                  go_roundw
                  case rel =>
                    refine ⟨i + 1, by omega, by go_num, (Hx2.out _), ?_, fun j hj1 hj2 => ?_⟩
                    · have h2 := Ho2.out (y)
                      rw [← List.map_set, Hp.out, set_fill, show (y : Int) = max 1 y from by omega, ← HB.out] at h2
                      rw [show n - (i + 1) = n - 1 - i from by omega, show (y : Int) = max 1 y from by omega]
                      exact h2
                    · by_cases ej : j = n - 1 - i
                      · subst ej
                        intro hc
                        exact hc.2.1 E1.out
                      · exact hcl.out j (by omega) hj2
                  case measure => simp [intOf]; omega
                · by_cases hy1 : y = 1
                  · subst hy1
                    have hb2 : (x == 1) = false := beq_eq_false_iff_ne.2 hxy
                    have hb4 : (x != 1) = true := by rw [bne_iff_ne]; exact hxy
                    have hlt : ¬ x < 1 := by omega
                    go_wp2
                    go_roundw
                    case rel =>
                      refine ⟨i + 1, by omega, by go_num, (Hx2.out _), ?_, fun j hj1 hj2 => ?_⟩
                      · have h2 := Ho2.out (x)
                        rw [← List.map_set, Hp.out, set_fill, show (x : Int) = max x 1 from by omega, ← HB.out] at h2
                        rw [show n - (i + 1) = n - 1 - i from by omega, show (x : Int) = max x 1 from by omega]
                        exact h2
                      · by_cases ej : j = n - 1 - i
                        · subst ej
                          intro hc
                          exact hc.2.2 E2.out
                        · exact hcl.out j (by omega) hj2
                    case measure => simp [intOf]; omega
                  · have HF : Hid (broadcast xs ys = ([], 15)) := bc_clash A0.out B0.out HMAX.out (j := n - 1 - i) (by omega) ⟨by rw [E1.out, E2.out]; exact hxy, by rw [E1.out]; exact hx1, by rw [E2.out]; exact hy1⟩
                    have hb1 : (y == 1) = false := beq_eq_false_iff_ne.2 hy1
                    have hb2 : (x == y) = false := beq_eq_false_iff_ne.2 hxy
                    have hb3 : (y != 1) = true := by rw [bne_iff_ne]; exact hy1
                    have hb4 : (x != y) = true := by rw [bne_iff_ne]; exact hxy
                    have hb5 : (x == 1) = false := beq_eq_false_iff_ne.2 hx1
                    have hb6 : (x != 1) = true := by rw [bne_iff_ne]; exact hx1
                    go_wp2
                    go_ret2
                    exact ⟨_, by rw [HF.out]; rfl, by rw [HF.out]; exact IsInts.nil _, hx⟩
            · have Ha : Hid (n - 1 - i < xs.length) := by show _ < _; rw [← HN.out]; omega
              have hca := (h.ext hx).cell (n - 1 - i) Ha.out
              have hixa : ∀ u : World, (Instr.indexAt 22 (.slice a n c) (.int .i64 ((n : Int) - 1 - (i : Int)))).run Try.prog u = .ok (.pointer (some (adr a (n - 1 - i)))) u := fun u => by
                have := hix u ((n : Int) - 1 - i) (by omega) (by omega)
                rwa [show ((n : Int) - 1 - i).toNat = n - 1 - i from by omega] at this
              have E1 : Hid (extd xs n (n - 1 - i) = xs[n - 1 - i]?.getD 0) := extd_end HN.out (by omega) (by omega)
              have p1 := (ga.get Ha.out).1
              obtain ⟨x, hxe⟩ : ∃ x, x = xs[n - 1 - i]?.getD 0 := ⟨_, rfl⟩
              rw [← hxe] at hca p1 E1
              clear hxe
              have E2 : Hid (extd ys n (n - 1 - i) = 1) := extd_out HM.out (by omega) (by omega)
              have EB := bcOut_drop (a := xs) (b := ys) (n := n) (j := n - 1 - i) (by omega)
              rw [E1.out, E2.out, show n - 1 - i + 1 = n - i from by omega] at EB
              have HB := Lib.hid EB
              clear EB
              by_cases hx1 : x = 1
              · subst hx1
                go_wp2
                go_roundw
                case rel =>
                  refine ⟨i + 1, by omega, by go_num, (Hx2.out _), ?_, fun j hj1 hj2 => ?_⟩
                  · have h2 := Ho2.out (1)
                    rw [← List.map_set, Hp.out, set_fill, show (1 : Int) = max 1 1 from by omega, ← HB.out] at h2
                    rw [show n - (i + 1) = n - 1 - i from by omega, show (1 : Int) = max 1 1 from by omega]
                    exact h2
                  · by_cases ej : j = n - 1 - i
                    · subst ej
                      intro hc
                      exact hc.2.2 E2.out
                    · exact hcl.out j (by omega) hj2
                case measure => simp [intOf]; omega
              · have hb2 : (x == 1) = false := beq_eq_false_iff_ne.2 hx1
                have hb4 : (x != 1) = true := by rw [bne_iff_ne]; exact hx1
                have hlt : ¬ x < 1 := by omega
                go_wp2
                go_roundw
                case rel =>
                  refine ⟨i + 1, by omega, by go_num, (Hx2.out _), ?_, fun j hj1 hj2 => ?_⟩
                  · have h2 := Ho2.out (x)
                    rw [← List.map_set, Hp.out, set_fill, show (x : Int) = max x 1 from by omega, ← HB.out] at h2
                    rw [show n - (i + 1) = n - 1 - i from by omega, show (x : Int) = max x 1 from by omega]
                    exact h2
                  · by_cases ej : j = n - 1 - i
                    · subst ej
                      intro hc
                      exact hc.2.2 E2.out
                    · exact hcl.out j (by omega) hj2
                case measure => simp [intOf]; omega
          · obtain rfl : i = n := by omega
            have ho2 : Arr wr g 3 ((bcOut xs ys i).map (.int .i64)) := by
              rw [Nat.sub_self, List.replicate_zero, List.nil_append, List.drop_zero] at ho
              exact ho
            have hvo := ho2.isInts (n := i) (c := i) (by rw [length_bcOut]) (Nat.le_refl _) (by omega)
            have HNC : Hid (∀ j, j < i → ¬ Clash xs ys i j) := fun j hj => hcl.out j (by omega) hj
            clear ho ho2
            by_cases hv0 : vld (bcOut xs ys i) = 0
            · have HF : Hid (broadcast xs ys = (bcOut xs ys i, 0)) := bc_yes A0.out B0.out HMAX.out HNC.out hv0
              go_wp2_with (go_at_call 11; refine (ref11_Validate hvo).mono ?_; rintro e w' ⟨rfl, rfl⟩)
              go_ret2
              exact ⟨_, by rw [HF.out]; rfl, by rw [HF.out]; exact hvo, hx⟩
            · have HF : Hid (broadcast xs ys = ([], vld (bcOut xs ys i))) := bc_no A0.out B0.out HMAX.out HNC.out hv0
              go_wp2_with (go_at_call 11; refine (ref11_Validate hvo).mono ?_; rintro e w' ⟨rfl, rfl⟩)
              go_ret2
              exact ⟨_, by rw [HF.out]; rfl, by rw [HF.out]; exact IsInts.nil wr, hx⟩
    · have HF : Hid (_ = _) := bc_badb h0 h1
      go_enter Try.func24, Try.ntmps24
      go_wp2_with (first
          | (go_at_call 11; (with_reducible refine (ref11_Validate hu).mono ?_); rintro e w' ⟨rfl, rfl⟩)
          | (go_at_call 11; (with_reducible refine (ref11_Validate hv).mono ?_); rintro e w' ⟨rfl, rfl⟩))
      go_ret2
      exact ⟨_, by rw [HF.out]; rfl, by rw [HF.out]; exact IsInts.nil w, Ext.refl w⟩
  · have HF : Hid (_ = _) := bc_bada (b := ys) h0
    go_enter Try.func24, Try.ntmps24
    go_wp2_with (go_at_call 11; refine (ref11_Validate hu).mono ?_; rintro e w' ⟨rfl, rfl⟩)
    go_ret2
    exact ⟨_, by rw [HF.out]; rfl, by rw [HF.out]; exact IsInts.nil w, Ext.refl w⟩
end Go.Proofs.Ytcdjgfamgnhffaa
