/- The walks of the laws ShapeIndexes and ShapeCounts. -/
import Derived.Test.YtcdjgfamgnhffaaW11h
import Derived.Test.YtcdjgfamgnhffaaRow
set_option linter.unusedVariables false
set_option linter.unusedSimpArgs false
namespace Go.Proofs.Ytcdjgfamgnhffaa
open Go.RowKit

set_option maxHeartbeats 2000000 in
theorem ShapeIndexes_walk {u v : Value} {xs ps : List Int} {at' : Int} {w : World} (hu : IsInts w u xs) (_ : Rng xs) (hv : IsInts w v ps) (_ : Rng ps) (hat : -9223372036854775808 ≤ at' ∧ at' ≤ 9223372036854775807) :
    Calls Try.prog 5 #[u, v, .int .i64 at'] w (LawPost w) := by
  obtain ⟨a, n, c, HN, hnc, rfl, h⟩ := hu.open
  obtain ⟨b, m, d, HM, hmd, rfl, k⟩ := hv.open
  have Hat := Lib.hid hat.2
  clear hat
  by_cases h50 : 50 < n
  · go_enter Try.func5, Try.ntmps5
    go_wp2_with (go_at_call 9; refine law11_alive.mono ?_; rintro e w1 ⟨rfl, hx1⟩)
    go_ret
    exact ⟨rfl, hx1⟩
  · by_cases h51 : 50 < m
    · go_enter Try.func5, Try.ntmps5
      go_wp2_with (go_at_call 9; refine law11_alive.mono ?_; rintro e w1 ⟨rfl, hx1⟩)
      go_ret
      exact ⟨rfl, hx1⟩
    · go_enter Try.func5, Try.ntmps5
      go_wp2_with (first
        | (go_at_call 19; refine (shape_Offset hu hv).mono ?_; rintro e w0 ⟨rfl, rfl⟩)
        | (go_at_call 20; refine (ref11_Offset hu hv).mono ?_; rintro e w1 ⟨rfl, hx1⟩; have hu1 := hu.ext hx1)
        | (go_at_call 21; refine (shape_Point hu1 Hat.out).mono ?_; rintro e w2 ⟨v2, rfl, hv2, hx2⟩; have hu2 := hu1.ext hx2)
        | (go_at_call 22; refine (ref11_Point hu2 Hat.out).mono ?_; rintro e w3 ⟨v3, rfl, hv3, hx3⟩; have hv2' := hv2.ext hx3)
        | (go_at_call 14; refine (base_Ints hv2' hv3).mono ?_; rintro e w4 ⟨rfl, hx4⟩; rw [decide_eq_true rfl])
        | (go_at_call 9; refine law11_alive.mono ?_; rintro e w5 ⟨rfl, hx5⟩))
      go_ret
      exact ⟨rfl, (((hx1.trans hx2).trans hx3).trans hx4).trans hx5⟩

theorem strides_getD {xs : List Int} (h : vld xs = 0) : ∀ k, k < xs.length → (strides xs)[k]?.getD 0 = prod (xs.drop (k + 1)) := fun k hk => by rw [strides_get h hk]; rfl

set_option maxHeartbeats 4000000 in
theorem ShapeCounts_walk {v : Value} {xs : List Int} {w : World} (hv : IsInts w v xs) (_ : Rng xs) :
    Calls Try.prog 6 #[v] w (LawPost w) := by
  obtain ⟨a, n, c, HN, hnc, rfl, h⟩ := hv.open
  by_cases h0 : vld xs = 0
  · have H0 := Lib.hid h0
    have hg := good_of_vld h0
    have HS : Hid (size xs = prod xs) := size_good h0
    have h6 : n ≤ 6 := by rw [HN.out]; exact hg.len
    by_cases h3 : 300 < size xs
    · go_enter Try.func6, Try.ntmps6
      go_wp2_with (first
        | (go_at_call 11; refine (ref11_Validate hv).mono ?_; rintro e w' ⟨rfl, rfl⟩)
        | (go_at_call 13; refine (ref11_Size hv).mono ?_; rintro e w' ⟨rfl, rfl⟩)
        | (go_at_call 9; refine law11_alive.mono ?_; rintro e w1 ⟨rfl, hx1⟩))
      go_ret
      exact ⟨rfl, hx1⟩
    · go_enter Try.func6, Try.ntmps6
      go_wp2_with (first
        | (go_at_call 11; refine (ref11_Validate hv).mono ?_; rintro e w' ⟨rfl, rfl⟩)
        | (go_at_call 13; refine (ref11_Size hv).mono ?_; rintro e w' ⟨rfl, rfl⟩)
        | fail)
      refine (shape_Strides hv).mono ?_
      rintro e w1 ⟨v1, rfl, hv1, hx1⟩
      obtain ⟨b, m, d, HM, hmd, rfl, k⟩ := hv1.open
      obtain rfl : m = n := by rw [HM.out, HN.out, strides_len H0.out]
      have hiy := idx_ints k m d HM
      clear h0
      go_wp2
      go_loopw [4] (fun i wr => ∃ (j : Nat), (j : Int) ≤ size xs ∧ i = .int .i64 j ∧ Ext w1 wr) (fun i _ => (size xs - intOf i).toNat)
      case atStart => exact ⟨0, by rw [HS.out]; have := prod_pos xs hg.pos; omega, rfl, Ext.refl _⟩
      case round =>
        obtain ⟨j, hj, rfl, hxr⟩ := hrel
        have hxw := hx1.trans hxr
        have hvr := hv.ext hxw
        by_cases hjs : (j : Int) < size xs
        · have hp : Hid (point xs j = (pointOf xs j, true)) := point_in ⟨by omega, hjs⟩
          have hjp : (j : Int) < prod xs := by rw [← HS.out]; exact hjs
          have hof : Hid (offset xs (pointOf xs j) = ((j : Int), true)) := by
            show _ = _
            rw [offset_in H0.out (pointOf_in hg.pos _), rank_point hg.pos (by omega) hjp]
          have Hjp := Lib.hid hjp
          clear hjp
          go_wp2_with (first
            | (go_at_call 13; refine (ref11_Size hvr).mono ?_; rintro e w' ⟨rfl, rfl⟩)
            | fail)
          refine (shape_Point hvr (by omega)).mono ?_
          rintro e w2 ⟨v2, rfl, hv2, hx2⟩
          rw [hp.out] at hv2 ⊢
          obtain ⟨b2, m2, d2, HM2, hmd2, rfl, k2⟩ := hv2.open
          obtain rfl : m2 = m := by rw [HM2.out, length_pointOf, ← HN.out]
          have hiz := idx_ints k2 m2 d2 HM2
          have hv2' := hvr.ext hx2
          go_wp2_with (go_at_call 19; refine (shape_Offset hv2' hv2).mono ?_; rintro e w' ⟨rfl, rfl⟩; rw [hof.out])
          go_loopw [10, 9] (fun i s wr2 => ∃ (t : Nat) (z : Int), t ≤ m2 ∧ i = .int .i64 t ∧ s = .int .i64 z ∧ Hid (z = dotTo (pointOf xs j) (strides xs) t) ∧ Ext w2 wr2) (fun i _ _ => m2 - (intOf i).toNat)
          case atStart => exact ⟨0, 0, Nat.zero_le _, rfl, rfl, rfl, Ext.refl _⟩
          case round =>
            obtain ⟨t, z, ht, rfl, rfl, hz, hx3⟩ := hrel
            by_cases htm : t < m2
            · have Ht : Hid (t < xs.length) := by show _ < _; rw [← HN.out]; exact htm
              have hc1 := (k2.ext hx3).cell t (by rw [length_pointOf]; exact Ht.out)
              have hc2 := (k.ext ((hxr.trans hx2).trans hx3)).cell t (by rw [← HM.out]; exact htm)
              have d1 := dot_point hg.pos (strides_getD H0.out) (by omega) Hjp.out t (by have := Ht.out; omega)
              have d2 := dot_point hg.pos (strides_getD H0.out) (by omega) Hjp.out (t + 1) (by have := Ht.out; omega)
              have hz' : z + (pointOf xs j)[t]?.getD 0 * (strides xs)[t]?.getD 0 = dotTo (pointOf xs j) (strides xs) (t + 1) := by rw [dotTo, hz.out]
              have p1 := (hg.drop_le t).1
              have p2 := (hg.drop_le (t + 1)).1
              have q1 := Int.ediv_nonneg (a := (j : Int)) (b := prod (xs.drop t)) (by omega) (by omega)
              have b1 : 0 ≤ z := by rw [hz.out, d1]; exact Int.mul_nonneg q1 (by omega)
              have b2 : z + (pointOf xs j)[t]?.getD 0 * (strides xs)[t]?.getD 0 ≤ j := by rw [hz', d2, Int.mul_comm]; exact Int.mul_ediv_self_le (by omega)
              have b3 : 0 ≤ (pointOf xs j)[t]?.getD 0 * (strides xs)[t]?.getD 0 := by
                rw [pointOf_get Ht.out, strides_getD H0.out t Ht.out]
                exact Int.mul_nonneg (coord_bd hg.pos _ Ht.out).1 (by omega)
              have Hz := Lib.hid hz'
              clear hz' d1 d2 p1 p2 q1
              go_wp2
              go_quiet (fail)
              go_wp2
              go_roundw
              case rel => exact ⟨t + 1, _, by omega, by go_num, rfl, Hz, hx3.drewN _⟩
              case measure => simp [intOf]; omega
            · obtain rfl : t = m2 := by omega
              have d1 := dot_point hg.pos (strides_getD H0.out) (by omega) Hjp.out t (by rw [← HN.out]; omega)
              have hze : z = (j : Int) := by rw [hz.out, d1, List.drop_eq_nil_of_le (by rw [← HN.out]; omega), prod]; simp
              subst hze
              clear d1
              go_wp2
              go_roundw
              case rel => exact ⟨j + 1, by omega, by go_num, (hxr.trans hx2).trans hx3⟩
              case measure => simp [intOf]; omega
        · go_wp2_with (first
            | (go_at_call 13; refine (ref11_Size hvr).mono ?_; rintro e w' ⟨rfl, rfl⟩)
            | (go_at_call 9; refine law11_alive.mono ?_; rintro e w1 ⟨rfl, hx4⟩))
          go_ret
          exact ⟨rfl, hxw.trans hx4⟩
  · go_enter Try.func6, Try.ntmps6
    go_wp2_with (first
      | (go_at_call 11; refine (ref11_Validate hv).mono ?_; rintro e w' ⟨rfl, rfl⟩)
      | (go_at_call 9; refine law11_alive.mono ?_; rintro e w1 ⟨rfl, hx1⟩))
    go_ret
    exact ⟨rfl, hx1⟩
end Go.Proofs.Ytcdjgfamgnhffaa
