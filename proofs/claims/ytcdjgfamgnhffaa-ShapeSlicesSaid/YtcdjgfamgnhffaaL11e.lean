/- The walk of the law ShapeSlices. -/
import Derived.Test.YtcdjgfamgnhffaaW11k
import Derived.Test.YtcdjgfamgnhffaaRow
set_option linter.unusedVariables false
set_option linter.unusedSimpArgs false
namespace Go.Proofs.Ytcdjgfamgnhffaa
open Go.RowKit Go.WideShapes

theorem cellsArr3 : Try.prog.cellsOf 37 = 3 := by kernel_rfl
theorem cellsInt1 : Try.prog.cellsOf 3 = 1 := by kernel_rfl
/-- An array of three ints among the arguments. -/
theorem open_arr3 {H : Type} {enc : TypeId × Value → H} {W : World} {b0 base : Nat} {spare : Nat → Bool} {held : Bool} {v : Value} {d : DataW H} {p : List MemPlace} {r : Reach}
    (hval : Value.okWide Try.prog W r b0 37 v) (h : DataW.Trod enc Try.prog W base spare held 37 v d p) :
    ∃ x y z : Int, v = .agg #[.int .i64 x, .int .i64 y, .int .i64 z] := by
  obtain ⟨cs, rfl, hsz⟩ : ∃ cs, v = .agg cs ∧ cs.size = 3 := by
    have h1 := hval
    unfold Value.okWide at h1
    rw [Try.underlying37] at h1
    obtain ⟨cs, e, h2, _⟩ := h1
    exact ⟨cs, e, h2.trans cellsArr3⟩
  obtain ⟨fuel, hf⟩ := h
  obtain ⟨xs, m, _, _, _, hl, hi⟩ := DataW.trod_array Try.underlying37 hf
  rw [cellsInt1] at hi
  obtain ⟨c0, c1, c2, rfl⟩ : ∃ c0 c1 c2, cs = #[c0, c1, c2] := ⟨cs[0], cs[1], cs[2], by
    apply Array.ext
    · simpa using hsz
    · intro i h1 h2
      match i, h2 with
      | 0, _ => rfl
      | 1, _ => rfl
      | 2, _ => rfl⟩
  have g0 := hi 0 (by omega)
  have g1 := hi 1 (by omega)
  have g2 := hi 2 (by omega)
  rw [List.getElem?_eq_getElem (by omega)] at g0 g1 g2
  obtain ⟨x, e0, _, _⟩ := DataW.trod_int Try.underlying3 g0
  obtain ⟨y, e1, _, _⟩ := DataW.trod_int Try.underlying3 g1
  obtain ⟨z, e2, _, _⟩ := DataW.trod_int Try.underlying3 g2
  simp [Value.cells] at e0 e1 e2
  subst e0
  subst e1
  subst e2
  exact ⟨x, y, z, rfl⟩

set_option maxHeartbeats 4000000 in
theorem ShapeSlices_walk {v : Value} {xs : List Int} {x y z : Int} {w : World} (hv : IsInts w v xs) (_ : Rng xs) :
    Calls Try.prog 8 #[v, .agg #[.int .i64 x, .int .i64 y, .int .i64 z]] w (LawPost w) := by
  obtain ⟨a, n, c, HN, hnc, rfl, h⟩ := hv.open
  by_cases h50 : 50 < n
  · go_enter Try.func8, Try.ntmps8
    go_wp2_with (go_at_call 9; refine law11_alive.mono ?_; rintro e w1 ⟨rfl, hx1⟩)
    go_ret
    exact ⟨rfl, ((Ext.refl w).alloc _).trans hx1⟩
  · have hxb := (Ext.refl w).alloc (.cells #[.int .i64 x, .int .i64 y, .int .i64 z] 37)
    have hab := Arr.new w #[.int .i64 x, .int .i64 y, .int .i64 z] 37
    go_enter Try.func8, Try.ntmps8
    go_wp2_with fail
    refine (shape_Slice (hv.ext hxb)).mono ?_
    rintro e w1 ⟨v1, rfl, hv1, hx1⟩
    have ha1 := hab.ext hx1
    have c0 := ha1.cell 0
    have c1 := ha1.cell 1
    have c2 := ha1.cell 2
    simp only [List.getElem?_cons_zero, List.getElem?_cons_succ] at c0 c1 c2
    go_wp2_with fail
    refine (ref11_Slice ((hv.ext hxb).ext hx1)).mono ?_
    rintro e w2 ⟨v2, rfl, hv2, hx2⟩
    clear c0 c1 c2
    go_wp2_with fail
    refine (base_Ints (hv1.ext hx2) hv2).mono ?_
    rintro e w3 ⟨rfl, hx3⟩
    rw [decide_eq_true rfl]
    have hx13 := ((hxb.trans hx1).trans hx2).trans hx3
    go_wp2_with fail
    refine (shape_Same (hv.ext hx13) (hv.ext hx13)).mono ?_
    rintro e w4 ⟨rfl, hx4⟩
    rw [decide_eq_true rfl]
    have hx14 := hx13.trans hx4
    by_cases hn : n = 0
    · have hb1 : ((n : Int) == 0) = true := by rw [hn]; rfl
      have Hn := Lib.hid hn
      clear hn
      go_wp2_with (go_at_call 9; refine law11_alive.mono ?_; rintro e w5 ⟨rfl, hx5⟩)
      go_ret
      exact ⟨rfl, hx14.trans hx5⟩
    · have hb1 : ((n : Int) == 0) = false := beq_eq_false_iff_ne.2 (by omega)
      have hd := (IsInts.from HN.out hnc (show 1 ≤ n by omega) h).ext hx14
      have hne : Hid (decide (xs = xs.drop 1) = false) := by
        show _ = _
        rw [decide_eq_false_iff_not]
        intro e
        have := congrArg List.length e
        rw [List.length_drop, ← HN.out] at this
        omega
      by_cases hc1 : c = 1
      · subst hc1
        obtain rfl : n = 1 := by omega
        rw [if_pos rfl, Nat.sub_self] at hd
        go_wp2_with fail
        refine (shape_Same (hv.ext hx14) hd).mono ?_
        rintro e w5 ⟨rfl, hx5⟩
        rw [hne.out]
        go_wp2_with (go_at_call 9; refine law11_alive.mono ?_; rintro e w6 ⟨rfl, hx6⟩)
        go_ret
        exact ⟨rfl, (hx14.trans hx5).trans hx6⟩
      · rw [if_neg hc1] at hd
        go_wp2_with fail
        refine (shape_Same (hv.ext hx14) hd).mono ?_
        rintro e w5 ⟨rfl, hx5⟩
        rw [hne.out]
        go_wp2_with (go_at_call 9; refine law11_alive.mono ?_; rintro e w6 ⟨rfl, hx6⟩)
        go_ret
        exact ⟨rfl, (hx14.trans hx5).trans hx6⟩
end Go.Proofs.Ytcdjgfamgnhffaa
