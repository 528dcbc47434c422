/- The walk of the law ShapePermutes. -/
import Derived.Test.YtcdjgfamgnhffaaW11f
import Derived.Test.YtcdjgfamgnhffaaRow
set_option linter.unusedVariables false
set_option linter.unusedSimpArgs false
namespace Go.Proofs.Ytcdjgfamgnhffaa
open Go.RowKit

theorem permute_ok {xs os ys : List Int} (h : permute xs os = (ys, 0)) : vld xs = 0 ∧ os.length = xs.length ∧ OkPerm xs.length os ∧ ys = pick xs os := by
  by_cases h0 : vld xs = 0
  · by_cases h1 : os.length = xs.length ∧ OkPerm xs.length os
    · rw [permute_yes h0 h1.1 h1.2] at h
      exact ⟨h0, h1.1, h1.2, (Prod.mk.inj h).1.symm⟩
    · rw [permute, if_pos h0, if_neg h1] at h
      exact absurd (Prod.mk.inj h).2 (by decide)
  · rw [permute_bad h0] at h
    exact absurd (Prod.mk.inj h).2 h0

set_option maxHeartbeats 2000000 in
theorem ShapePermutes_walk {u v : Value} {xs os : List Int} {w : World} (hu : IsInts w u xs) (_ : Rng xs) (hv : IsInts w v os) (_ : Rng os) :
    Calls Try.prog 4 #[u, v] w (LawPost w) := by
  obtain ⟨a, n, c, HN, hnc, rfl, h⟩ := hu.open
  obtain ⟨b, m, d, HM, hmd, rfl, k⟩ := hv.open
  have hiy := idx_ints k m d HM
  by_cases h50 : 50 < n
  · go_enter Try.func4, Try.ntmps4
    go_wp2_with (go_at_call 9; refine law11_alive.mono ?_; rintro e w1 ⟨rfl, hx1⟩)
    go_ret
    exact ⟨rfl, hx1⟩
  · by_cases h51 : 50 < m
    · go_enter Try.func4, Try.ntmps4
      go_wp2_with (go_at_call 9; refine law11_alive.mono ?_; rintro e w1 ⟨rfl, hx1⟩)
      go_ret
      exact ⟨rfl, hx1⟩
    · obtain ⟨ys, er, hr⟩ : ∃ ys er, permute xs os = (ys, er) := ⟨_, _, rfl⟩
      have HR := Lib.hid hr
      clear hr
      by_cases he : er = 0
      · subst he
        obtain ⟨p0, p1, p2, p3⟩ := permute_ok HR.out
        have P0 := Lib.hid p0
        have P1 := Lib.hid p1
        have P2 := Lib.hid p2
        have P3 := Lib.hid p3
        clear p0 p1 p2 p3
        have hmn : m = n := by rw [HM.out, HN.out, P1.out]
        subst hmn
        go_enter Try.func4, Try.ntmps4
        go_wp2_with (first
          | (go_at_call 17; refine (shape_Permute hu hv).mono ?_; rintro e w1 ⟨v1, rfl, hv1, hx1⟩; rw [HR.out] at hv1 ⊢; have hu' := hu.ext hx1; have hv' := hv.ext hx1)
          | (go_at_call 18; refine (ref11_Permute hu' hv').mono ?_; rintro e w2 ⟨v2, rfl, hv2, hx2⟩; rw [HR.out] at hv2 ⊢; have hv1' := hv1.ext hx2)
          | (go_at_call 14; refine (base_Ints hv1' hv2).mono ?_; rintro e w3 ⟨rfl, hx3⟩; rw [decide_eq_true rfl])
          | (at_make; refine make_ints' rfl _ _ rfl m m m rfl rfl rfl rfl (by omega) ?_; intro w4 g harr hge hx4))
        have hx := (hx1.trans hx2).trans hx3
        have P2' : Hid (OkPerm os.length os) := by show OkPerm _ _; rw [P1.out]; exact P2.out
        have hv4 : IsInts w3 v1 ys := hv1'.ext hx3
        clear hu' hv' hv1' hv1 hv2
        go_loopw [10] (fun i wr => ∃ (j : Nat) (bs : List Int), j ≤ m ∧ i = .int .i64 j ∧ Ext w3 wr ∧ Arr wr g 3 (bs.map (.int .i64)) ∧ Hid (Undoes os bs j)) (fun i _ => m - (intOf i).toNat)
        case atStart => exact ⟨0, _, Nat.zero_le _, rfl, hx4, harr, ⟨by rw [List.length_replicate]; exact HM.out, fun j hj => by omega⟩⟩
        case round =>
          obtain ⟨j, bs, hj, rfl, hx3r, har, hun⟩ := hrel
          have hxr := hx.trans hx3r
          by_cases hjm : j < m
          · have Hj : Hid (j < os.length) := by show _ < _; rw [← HM.out]; exact hjm
            have hcell : wr.cell? (adr b j) = some (.int .i64 (os[j]?.getD 0)) := (k.ext hxr).cell j Hj.out
            have ho := P2'.out.2 _ (get_mem Hj.out)
            obtain ⟨o, hoe⟩ : ∃ o, o = os[j]?.getD 0 := ⟨_, rfl⟩
            rw [← hoe] at hcell ho
            have HO := Lib.hid hoe
            clear hoe
            obtain ⟨i, rfl⟩ := Int.eq_ofNat_of_zero_le ho.1
            have him : i < m := by have := ho.2; rw [← HM.out] at this; omega
            have hbl : bs.length = m := by rw [hun.out.1, ← HM.out]
            have hbc := har.int (k := i) (by rw [hbl]; exact him)
            have hbf := har.free i
            have har2 := har.store i (.int .i64 j)
            have hxr2 := hx3r.setCell (p := ⟨g, i, none⟩) hge (.int .i64 j)
            have H1 := Lib.hid har2
            have H2 := Lib.hid hxr2
            clear har2 hxr2 hbl ho har
            go_wp2
            go_roundw
            case rel =>
              refine ⟨j + 1, bs.set i j, by omega, by go_num, H2.out, by rw [List.map_set]; exact H1.out, ?_⟩
              have := undoes_step P2'.out Hj.out hun.out
              rw [← HO.out] at this
              exact this
            case measure => simp [intOf]; omega
          · obtain rfl : j = m := by omega
            have hbl : Hid (j = bs.length) := by show _ = _; rw [hun.out.1, ← HM.out]
            have HB : Hid (permute ys bs = (xs, 0)) := by
              show _ = _
              rw [P3.out]
              exact permute_back P0.out P1.out P2.out (by rw [← HM.out]; exact hun.out)
            have hvb := har.isInts hbl.out (Nat.le_refl _) (by omega)
            have hur := hu.ext hxr
            have hvr := hv4.ext hx3r
            go_wp2_with (first
              | (go_at_call 17; refine (shape_Permute hvr hvb).mono ?_; rintro e w5 ⟨v5, rfl, hv5, hx5⟩; rw [HB.out] at hv5 ⊢; have hu5 := hur.ext hx5)
              | (go_at_call 14; refine (base_Ints hv5 hu5).mono ?_; rintro e w6 ⟨rfl, hx6⟩; rw [decide_eq_true rfl])
              | (go_at_call 9; refine law11_alive.mono ?_; rintro e w7 ⟨rfl, hx7⟩))
            go_ret
            exact ⟨rfl, ((hxr.trans hx5).trans hx6).trans hx7⟩
      · go_enter Try.func4, Try.ntmps4
        go_wp2_with (first
          | (go_at_call 17; refine (shape_Permute hu hv).mono ?_; rintro e w1 ⟨v1, rfl, hv1, hx1⟩; rw [HR.out] at hv1 ⊢; have hu' := hu.ext hx1; have hv' := hv.ext hx1)
          | (go_at_call 18; refine (ref11_Permute hu' hv').mono ?_; rintro e w2 ⟨v2, rfl, hv2, hx2⟩; rw [HR.out] at hv2 ⊢; have hv1' := hv1.ext hx2)
          | (go_at_call 14; refine (base_Ints hv1' hv2).mono ?_; rintro e w3 ⟨rfl, hx3⟩; rw [decide_eq_true rfl])
          | (go_at_call 9; refine law11_alive.mono ?_; rintro e w4 ⟨rfl, hx4⟩))
        go_ret
        exact ⟨rfl, ((hx1.trans hx2).trans hx3).trans hx4⟩
end Go.Proofs.Ytcdjgfamgnhffaa
