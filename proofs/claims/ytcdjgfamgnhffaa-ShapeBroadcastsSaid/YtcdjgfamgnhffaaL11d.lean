/- The walks of the laws ShapeBroadcasts and ShapeSlices. -/
import Derived.Test.YtcdjgfamgnhffaaW11k
import Derived.Test.YtcdjgfamgnhffaaRow
set_option linter.unusedVariables false
set_option linter.unusedSimpArgs false
namespace Go.Proofs.Ytcdjgfamgnhffaa
open Go.RowKit

theorem bc_fail {xs ys zs zs' : List Int} {er er' : Int} (h : broadcast xs ys = (zs, er)) (h' : broadcast ys xs = (zs', er')) (he : ¬ er = 0) : ¬ er' = 0 := by
  intro e
  subst e
  have := bc_swap h'
  rw [this] at h
  exact he (Prod.mk.inj h).2.symm

set_option maxHeartbeats 4000000 in
theorem ShapeBroadcasts_walk {u v : Value} {xs ys : List Int} {w : World} (hu : IsInts w u xs) (_ : Rng xs) (hv : IsInts w v ys) (_ : Rng ys) :
    Calls Try.prog 7 #[u, v] w (LawPost w) := by
  obtain ⟨a, n, c, HN, hnc, rfl, h⟩ := hu.open
  obtain ⟨b, m, d, HM, hmd, rfl, k⟩ := hv.open
  by_cases h50 : 50 < n
  · go_enter Try.func7, Try.ntmps7
    go_wp2_with (go_at_call 9; refine law11_alive.mono ?_; rintro e w1 ⟨rfl, hx1⟩)
    go_ret
    exact ⟨rfl, hx1⟩
  · by_cases h51 : 50 < m
    · go_enter Try.func7, Try.ntmps7
      go_wp2_with (go_at_call 9; refine law11_alive.mono ?_; rintro e w1 ⟨rfl, hx1⟩)
      go_ret
      exact ⟨rfl, hx1⟩
    · obtain ⟨zs, er, hr⟩ : ∃ zs er, broadcast xs ys = (zs, er) := ⟨_, _, rfl⟩
      obtain ⟨zs', er', hr'⟩ : ∃ zs er, broadcast ys xs = (zs, er) := ⟨_, _, rfl⟩
      have HR := Lib.hid hr
      have HR' := Lib.hid hr'
      clear hr hr'
      by_cases he : er = 0
      · subst he
        have hz : (zs', er') = (zs, 0) := by rw [← HR'.out]; exact bc_swap HR.out
        obtain ⟨rfl, rfl⟩ := Prod.mk.inj hz
        clear hz
        go_enter Try.func7, Try.ntmps7
        go_wp2_with fail
        refine (shape_Broadcast hu hv).mono ?_
        rintro e w1 ⟨v1, rfl, hv1, hx1⟩
        rw [HR.out] at hv1 ⊢
        go_wp2_with fail
        refine (ref11_Broadcast (hu.ext hx1) (hv.ext hx1)).mono ?_
        rintro e w2 ⟨v2, rfl, hv2, hx2⟩
        rw [HR.out] at hv2 ⊢
        go_wp2_with fail
        refine (base_Ints (hv1.ext hx2) hv2).mono ?_
        rintro e w3 ⟨rfl, hx3⟩
        rw [decide_eq_true rfl]
        have hx13 := (hx1.trans hx2).trans hx3
        go_wp2_with fail
        refine (shape_Broadcast (hv.ext hx13) (hu.ext hx13)).mono ?_
        rintro e w4 ⟨v4, rfl, hv4, hx4⟩
        rw [HR'.out] at hv4 ⊢
        go_wp2_with fail
        refine (base_Ints (((hv1.ext hx2).ext hx3).ext hx4) hv4).mono ?_
        rintro e w5 ⟨rfl, hx5⟩
        rw [decide_eq_true rfl]
        have hx15 := (hx13.trans hx4).trans hx5
        go_wp2_with fail
        refine (ref11_Validate (hu.ext hx15)).mono ?_
        rintro e w6 ⟨rfl, rfl⟩
        by_cases h0 : vld xs = 0
        · have HS := Lib.hid (bc_self h0)
          go_wp2_with fail
          refine (shape_Broadcast (hu.ext hx15) (hu.ext hx15)).mono ?_
          rintro e w7 ⟨v7, rfl, hv7, hx7⟩
          rw [HS.out] at hv7 ⊢
          go_wp2_with fail
          refine (base_Ints hv7 ((hu.ext hx15).ext hx7)).mono ?_
          rintro e w8 ⟨rfl, hx8⟩
          rw [decide_eq_true rfl]
          go_wp2_with (go_at_call 9; refine law11_alive.mono ?_; rintro e w9 ⟨rfl, hx9⟩)
          go_ret
          exact ⟨rfl, ((hx15.trans hx7).trans hx8).trans hx9⟩
        · go_wp2_with (go_at_call 9; refine law11_alive.mono ?_; rintro e w9 ⟨rfl, hx9⟩)
          go_ret
          exact ⟨rfl, hx15.trans hx9⟩
      · have he' := bc_fail HR.out HR'.out he
        have hb1 : (er == 0) = false := beq_eq_false_iff_ne.2 he
        have hb2 : (er' == 0) = false := beq_eq_false_iff_ne.2 he'
        go_enter Try.func7, Try.ntmps7
        go_wp2_with fail
        refine (shape_Broadcast hu hv).mono ?_
        rintro e w1 ⟨v1, rfl, hv1, hx1⟩
        rw [HR.out] at hv1 ⊢
        go_wp2_with fail
        refine (ref11_Broadcast (hu.ext hx1) (hv.ext hx1)).mono ?_
        rintro e w2 ⟨v2, rfl, hv2, hx2⟩
        rw [HR.out] at hv2 ⊢
        go_wp2_with fail
        refine (base_Ints (hv1.ext hx2) hv2).mono ?_
        rintro e w3 ⟨rfl, hx3⟩
        rw [decide_eq_true rfl]
        have hx13 := (hx1.trans hx2).trans hx3
        go_wp2_with fail
        refine (shape_Broadcast (hv.ext hx13) (hu.ext hx13)).mono ?_
        rintro e w4 ⟨v4, rfl, hv4, hx4⟩
        rw [HR'.out] at hv4 ⊢
        have hx14 := hx13.trans hx4
        go_wp2_with fail
        refine (ref11_Validate (hu.ext hx14)).mono ?_
        rintro e w6 ⟨rfl, rfl⟩
        by_cases h0 : vld xs = 0
        · have HS := Lib.hid (bc_self h0)
          go_wp2_with fail
          refine (shape_Broadcast (hu.ext hx14) (hu.ext hx14)).mono ?_
          rintro e w7 ⟨v7, rfl, hv7, hx7⟩
          rw [HS.out] at hv7 ⊢
          go_wp2_with fail
          refine (base_Ints hv7 ((hu.ext hx14).ext hx7)).mono ?_
          rintro e w8 ⟨rfl, hx8⟩
          rw [decide_eq_true rfl]
          go_wp2_with (go_at_call 9; refine law11_alive.mono ?_; rintro e w9 ⟨rfl, hx9⟩)
          go_ret
          exact ⟨rfl, ((hx14.trans hx7).trans hx8).trans hx9⟩
        · go_wp2_with (go_at_call 9; refine law11_alive.mono ?_; rintro e w9 ⟨rfl, hx9⟩)
          go_ret
          exact ⟨rfl, hx14.trans hx9⟩
end Go.Proofs.Ytcdjgfamgnhffaa
