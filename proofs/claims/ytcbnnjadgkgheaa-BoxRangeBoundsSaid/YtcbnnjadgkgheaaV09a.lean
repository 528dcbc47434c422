/- Walks by the abstract machine: base, layer 9. -/
import Derived.Test.YtcbnnjadgkgheaaCodes
set_option linter.unusedVariables false
set_option linter.unusedSimpArgs false
set_option maxRecDepth 20000
namespace Go.Proofs.Ytcbnnjadgkgheaa
open Go.Abs Go.RowKit
theorem box_sign_abs (b : Bool) : PCalls Try.prog n_box_sign [B b] (I (if b then 1 else -1)) := by
  refine PCalls.of is_box_sign (by simp) fun hb => runW_sound ?_
  cases b <;> simp [c_box_sign, go_sem]
theorem base_Ints_abs (xs ys : List Int) : PCalls Try.prog n_base_Ints [aInts xs, aInts ys] (B (decide (xs = ys))) := by
  refine PCalls.of is_base_Ints (by simp) fun hb => runW_sound ?_
  have hx : xs.length ≤ 9223372036854775807 := by simpa [bndVs, bndV, bndA] using hb.1
  have hy : ys.length ≤ 9223372036854775807 := by simpa [bndVs, bndV, bndA] using hb.2
  simp only [c_base_Ints, go_sem, true_and, and_true, List.nil_append, ↓reduceIte, Nat.reduceEqDiff, List.length_map]
  refine condW_intro (fun h => ?_) (fun h => ?_)
  · have : xs ≠ ys := by rintro rfl; simp at h
    simp only [go_sem, true_and, and_true, List.nil_append, ↓reduceIte, Nat.reduceEqDiff, this, decide_false, List.nil_append]
  · have hl : xs.length = ys.length := by have : (xs.length : Int) = ys.length := by simpa using h
                                          omega
    simp only [go_sem, true_and, and_true, List.nil_append, ↓reduceIte, Nat.reduceEqDiff]
    refine AW_loop (fun k : Nat => ⟨[(5, I k), (0, aInts xs), (1, aInts ys)], [], 0, 0⟩) (fun k => k ≤ xs.length ∧ xs.take k = ys.take k) (fun k => xs.length - k) ⟨0, [], ⟨by omega, rfl⟩, ?_⟩ ?_
    · simp [Wk, wkF, wkM, wkL, look_cons, renV, renA, clV, clA]
    · rintro k ⟨hk, hall⟩
      refine runW_sound ?_
      simp only [go_sem, true_and, and_true, List.nil_append, ↓reduceIte, Nat.reduceEqDiff, List.length_map]
      refine condW_intro (fun h => ?_) (fun h => ?_)
      · have hlt : k < xs.length := by simpa using h
        have hlt' : k < ys.length := by omega
        simp (disch := omega) only [go_sem, true_and, and_true, List.nil_append, ↓reduceIte, Nat.reduceEqDiff, andW_of, Int.toNat_natCast, List.getElem?_map, List.getElem?_eq_getElem hlt, List.getElem?_eq_getElem hlt', Option.map_some, List.length_map, List.length_cons, List.length_nil, List.map_cons, List.map_nil]
        refine condW_intro (fun h => ?_) (fun h => ?_)
        · have : xs ≠ ys := by rintro rfl; simp at h
          simp only [go_sem, true_and, and_true, List.nil_append, ↓reduceIte, Nat.reduceEqDiff, this, decide_false, List.nil_append]
        · have e : xs[k] = ys[k] := by simpa using h
          simp (disch := omega) only [go_sem, true_and, and_true, List.nil_append, ↓reduceIte, Nat.reduceEqDiff, andW_of, wrap_i64]
          refine ⟨k + 1, [], ⟨by omega, ?_⟩, ?_, ?_⟩
          · rw [List.take_add_one, List.take_add_one, hall, List.getElem?_eq_getElem hlt, List.getElem?_eq_getElem hlt', e]
          · omega
          · simp [Wk, wkF, wkM, wkL, look_cons, renV, renA, clV, clA]
      · have : k = xs.length := by have : ¬ k < xs.length := by simpa using h
                                   omega
        have e : xs = ys := by
          rw [this, List.take_length, hl, List.take_length] at hall
          exact hall
        simp only [go_sem, true_and, and_true, List.nil_append, ↓reduceIte, Nat.reduceEqDiff, e, decide_true, List.nil_append]
end Go.Proofs.Ytcbnnjadgkgheaa
