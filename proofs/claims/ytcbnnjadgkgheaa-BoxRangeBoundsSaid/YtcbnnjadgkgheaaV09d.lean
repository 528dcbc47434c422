/- Walks by the abstract machine: the reference's order of layer 9. -/
import Derived.Test.YtcbnnjadgkgheaaV09c
set_option linter.unusedVariables false
set_option linter.unusedSimpArgs false
set_option maxRecDepth 20000
namespace Go.Proofs.Ytcbnnjadgkgheaa
open Go.Abs Go.RowKit

theorem ref09_Compare_abs (xs ys : List Int) : PCalls Try.prog n_ref09_Compare [aInts xs, aInts ys] (I (lex xs ys)) := by
  refine PCalls.of is_ref09_Compare (by simp) fun hb => runW_sound ?_
  have hx : xs.length ≤ 9223372036854775807 := by simpa [bndVs, bndV, bndA] using hb.1
  have hy : ys.length ≤ 9223372036854775807 := by simpa [bndVs, bndV, bndA] using hb.2
  simp only [c_ref09_Compare, go_sem, true_and, and_true, List.nil_append, ↓reduceIte, Nat.reduceEqDiff, List.length_map]
  refine AW_loop (fun k : Nat => ⟨[(5, I k), (0, aInts xs), (1, aInts ys)], [], 0, 0⟩) (fun k => k ≤ min xs.length ys.length ∧ lex xs ys = lex (xs.drop k) (ys.drop k)) (fun k => min xs.length ys.length - k) ⟨0, [], ⟨by omega, rfl⟩, ?_⟩ ?_
  · simp [Wk, wkF, wkM, wkL, look_cons, renV, renA, clV, clA]
  · rintro k ⟨hk, hall⟩
    refine runW_sound ?_
    -- the end of the loop
    have fin : k = min xs.length ys.length → lex xs ys = if xs.length < ys.length then -1 else if xs.length > ys.length then 1 else 0 := by
      intro e
      rw [hall, lex_end e]
      split
      · rw [if_neg (by omega), if_neg (by omega)]
      · split
        · rw [if_neg (by omega)]
        · rw [if_pos (by omega)]
    by_cases h1 : (k : Int) < xs.length
    · by_cases h2 : (k : Int) < ys.length
      · have hlt : k < xs.length := by omega
        have hlt' : k < ys.length := by omega
        simp (disch := omega) only [go_sem, true_and, and_true, List.nil_append, ↓reduceIte, Nat.reduceEqDiff, List.length_map, h1, h2, decide_true, beq_self_eq_true, andW_of, Int.toNat_natCast, List.getElem?_map, List.getElem?_eq_getElem hlt, List.getElem?_eq_getElem hlt', Option.map_some, List.length_cons, List.length_nil, ↓List.map_cons, ↓List.map_nil]
        refine condW_intro (fun h => ?_) (fun h => ?_)
        · have e : xs[k] < ys[k] := by simpa using h
          have hv := hall.trans (lex_ne hlt hlt' (by omega))
          rw [if_neg (by omega)] at hv
          simp only [go_sem, true_and, and_true, List.nil_append, ↓reduceIte, Nat.reduceEqDiff, hv]
        · have e : ¬ xs[k] < ys[k] := by simpa using h
          simp (disch := omega) only [go_sem, true_and, and_true, List.nil_append, ↓reduceIte, Nat.reduceEqDiff, List.length_map, andW_of, Int.toNat_natCast, List.getElem?_map, List.getElem?_eq_getElem hlt, List.getElem?_eq_getElem hlt', Option.map_some, List.length_cons, List.length_nil, ↓List.map_cons, ↓List.map_nil]
          refine condW_intro (fun h => ?_) (fun h => ?_)
          · have e : xs[k] > ys[k] := by simpa using h
            have hv := hall.trans (lex_ne hlt hlt' (by omega))
            rw [if_pos e] at hv
            simp only [go_sem, true_and, and_true, List.nil_append, ↓reduceIte, Nat.reduceEqDiff, hv]
          · have e2 : ¬ xs[k] > ys[k] := by simpa using h
            simp (disch := omega) only [go_sem, true_and, and_true, List.nil_append, ↓reduceIte, Nat.reduceEqDiff, andW_of, wrap_i64]
            refine ⟨k + 1, [], ⟨by omega, ?_⟩, ?_, ?_⟩
            · rw [hall, lex_eq hlt hlt' (by omega)]
            · omega
            · simp [Wk, wkF, wkM, wkL, look_cons, renV, renA, clV, clA]
      · have hv := fin (by omega)
        simp only [go_sem, true_and, and_true, List.nil_append, ↓reduceIte, Nat.reduceEqDiff, List.length_map, h1, h2, decide_true, decide_false, beq_self_eq_true]
        refine condW_intro (fun h => ?_) (fun h => ?_)
        · have e : (xs.length : Int) < ys.length := by simpa using h
          rw [if_pos (by omega)] at hv
          simp only [go_sem, true_and, and_true, List.nil_append, ↓reduceIte, Nat.reduceEqDiff, hv]
        · have e : ¬ (xs.length : Int) < ys.length := by simpa using h
          rw [if_neg (by omega)] at hv
          simp only [go_sem, true_and, and_true, List.nil_append, ↓reduceIte, Nat.reduceEqDiff, List.length_map]
          refine condW_intro (fun h => ?_) (fun h => ?_)
          · have e2 : (xs.length : Int) > ys.length := by simpa using h
            rw [if_pos (by omega)] at hv
            simp only [go_sem, true_and, and_true, List.nil_append, ↓reduceIte, Nat.reduceEqDiff, hv]
          · have e2 : ¬ (xs.length : Int) > ys.length := by simpa using h
            rw [if_neg (by omega)] at hv
            simp only [go_sem, true_and, and_true, List.nil_append, ↓reduceIte, Nat.reduceEqDiff, hv]
    · have hv := fin (by omega)
      simp only [go_sem, true_and, and_true, List.nil_append, ↓reduceIte, Nat.reduceEqDiff, List.length_map, h1, decide_false, show (false == true) = false from rfl]
      refine condW_intro (fun h => ?_) (fun h => ?_)
      · have e : (xs.length : Int) < ys.length := by simpa using h
        rw [if_pos (by omega)] at hv
        simp only [go_sem, true_and, and_true, List.nil_append, ↓reduceIte, Nat.reduceEqDiff, hv]
      · have e : ¬ (xs.length : Int) < ys.length := by simpa using h
        rw [if_neg (by omega)] at hv
        simp only [go_sem, true_and, and_true, List.nil_append, ↓reduceIte, Nat.reduceEqDiff, List.length_map]
        refine condW_intro (fun h => ?_) (fun h => ?_)
        · have e2 : (xs.length : Int) > ys.length := by simpa using h
          rw [if_pos (by omega)] at hv
          simp only [go_sem, true_and, and_true, List.nil_append, ↓reduceIte, Nat.reduceEqDiff, hv]
        · have e2 : ¬ (xs.length : Int) > ys.length := by simpa using h
          rw [if_neg (by omega)] at hv
          simp only [go_sem, true_and, and_true, List.nil_append, ↓reduceIte, Nat.reduceEqDiff, hv]
end Go.Proofs.Ytcbnnjadgkgheaa
