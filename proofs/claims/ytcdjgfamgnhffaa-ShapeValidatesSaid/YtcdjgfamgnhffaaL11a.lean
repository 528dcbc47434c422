/- The walk of the law ShapeValidates: it answers true for every slice. -/
import Derived.Test.YtcdjgfamgnhffaaW11d
import Derived.Test.YtcdjgfamgnhffaaRow
set_option linter.unusedVariables false
set_option linter.unusedSimpArgs false
namespace Go.Proofs.Ytcdjgfamgnhffaa
open Go.RowKit

set_option maxHeartbeats 1000000 in
theorem ShapeValidates_walk {v : Value} {xs : List Int} {w : World} (hv : IsInts w v xs) (_ : Rng xs) :
    Calls Try.prog 3 #[v] w (LawPost w) := by
  obtain ⟨a, n, c, HN, hnc, rfl, h⟩ := hv.open
  by_cases h50 : 50 < n
  · go_enter Try.func3, Try.ntmps3
    go_wp2_with (go_at_call 9; refine law11_alive.mono ?_; rintro e w1 ⟨rfl, hx1⟩)
    go_ret
    exact ⟨rfl, hx1⟩
  · go_enter Try.func3, Try.ntmps3
    go_wp2_with (first
      | (go_at_call 10; refine (shape_Validate hv).mono ?_; rintro e w' ⟨rfl, rfl⟩)
      | (go_at_call 11; refine (ref11_Validate hv).mono ?_; rintro e w' ⟨rfl, rfl⟩)
      | (go_at_call 12; refine (shape_Size hv).mono ?_; rintro e w' ⟨rfl, rfl⟩)
      | (go_at_call 13; refine (ref11_Size hv).mono ?_; rintro e w' ⟨rfl, rfl⟩)
      | (go_at_call 15; refine (shape_Strides hv).mono ?_; rintro e w1 ⟨v1, rfl, hv1, hx1⟩; have hv' := hv.ext hx1)
      | (go_at_call 16; refine (ref11_Strides hv').mono ?_; rintro e w2 ⟨v2, rfl, hv2, hx2⟩; have hv1' := hv1.ext hx2)
      | (go_at_call 14; refine (base_Ints hv1' hv2).mono ?_; rintro e w3 ⟨rfl, hx3⟩)
      | (go_at_call 9; refine law11_alive.mono ?_; rintro e w4 ⟨rfl, hx4⟩))
    go_ret
    exact ⟨rfl, ((hx1.trans hx2).trans hx3).trans hx4⟩
end Go.Proofs.Ytcdjgfamgnhffaa
