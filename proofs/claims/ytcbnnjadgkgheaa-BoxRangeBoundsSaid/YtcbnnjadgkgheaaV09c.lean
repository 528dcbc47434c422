/- Walks by the abstract machine: the two orders of layer 9. -/
import Derived.Test.YtcbnnjadgkgheaaV09b
set_option linter.unusedVariables false
set_option linter.unusedSimpArgs false
set_option maxRecDepth 20000
namespace Go.Proofs.Ytcbnnjadgkgheaa
open Go.Abs Go.RowKit

/-- The lexicographic order. -/
def lex : List Int → List Int → Int
  | [], [] => 0
  | [], _ :: _ => -1
  | _ :: _, [] => 1
  | x :: xs, y :: ys => if x < y then -1 else if y < x then 1 else lex xs ys
theorem lex_ne {xs ys : List Int} {k : Nat} (h : k < xs.length) (h' : k < ys.length) (e : xs[k] ≠ ys[k]) : lex (xs.drop k) (ys.drop k) = if xs[k] > ys[k] then 1 else -1 := by
  rw [List.drop_eq_getElem_cons h, List.drop_eq_getElem_cons h', lex]
  split
  · rw [if_neg (by omega)]
  · rw [if_pos (by omega), if_pos (by omega)]
theorem lex_eq {xs ys : List Int} {k : Nat} (h : k < xs.length) (h' : k < ys.length) (e : xs[k] = ys[k]) : lex (xs.drop k) (ys.drop k) = lex (xs.drop (k + 1)) (ys.drop (k + 1)) := by
  rw [List.drop_eq_getElem_cons h, List.drop_eq_getElem_cons h', lex, if_neg (by omega), if_neg (by omega)]
theorem lex_end {xs ys : List Int} {k : Nat} (h : k = min xs.length ys.length) : lex (xs.drop k) (ys.drop k) = if xs.length = ys.length then 0 else if xs.length > ys.length then 1 else -1 := by
  by_cases e : xs.length = ys.length
  · rw [List.drop_eq_nil_of_le (by omega), List.drop_eq_nil_of_le (by omega), if_pos e, lex]
  · rw [if_neg e]
    by_cases h1 : xs.length > ys.length
    · rw [List.drop_eq_getElem_cons (show k < xs.length by omega), List.drop_eq_nil_of_le (show ys.length ≤ k by omega), if_pos h1, lex]
    · rw [List.drop_eq_getElem_cons (show k < ys.length by omega), List.drop_eq_nil_of_le (show xs.length ≤ k by omega), if_neg h1, lex]

theorem box_Compare_abs (xs ys : List Int) : PCalls Try.prog n_box_Compare [aInts xs, aInts ys] (I (lex xs ys)) := by
  refine PCalls.of is_box_Compare (by simp) fun hb => runW_sound ?_
  have hx : xs.length ≤ 9223372036854775807 := by simpa [bndVs, bndV, bndA] using hb.1
  have hy : ys.length ≤ 9223372036854775807 := by simpa [bndVs, bndV, bndA] using hb.2
  have hm : min (xs.length : Int) (ys.length : Int) = ((min xs.length ys.length : Nat) : Int) := by omega
  simp only [c_box_Compare, go_sem, true_and, and_true, List.nil_append, ↓reduceIte, Nat.reduceEqDiff, List.length_map, Bool.false_eq_true, hm]
  refine AW_loop (fun k : Nat => ⟨[(11, I k), (10, I (min xs.length ys.length : Nat)), (0, aInts xs), (1, aInts ys)], [], 0, 0⟩) (fun k => k ≤ min xs.length ys.length ∧ lex xs ys = lex (xs.drop k) (ys.drop k)) (fun k => min xs.length ys.length - k) ⟨0, [], ⟨by omega, rfl⟩, ?_⟩ ?_
  · simp [Wk, wkF, wkM, wkL, look_cons, renV, renA, clV, clA]
  · rintro k ⟨hk, hall⟩
    refine runW_sound ?_
    simp only [go_sem, true_and, and_true, List.nil_append, ↓reduceIte, Nat.reduceEqDiff, List.length_map]
    refine condW_intro (fun h => ?_) (fun h => ?_)
    · have hlt0 : (k : Int) < (min xs.length ys.length : Nat) := by simpa using h
      have hlt : k < xs.length := by omega
      have hlt' : k < ys.length := by omega
      simp (disch := omega) only [go_sem, true_and, and_true, List.nil_append, ↓reduceIte, Nat.reduceEqDiff, andW_of, Int.toNat_natCast, List.getElem?_map, List.getElem?_eq_getElem hlt, List.getElem?_eq_getElem hlt', Option.map_some, List.length_map, List.length_cons, List.length_nil, ↓List.map_cons, ↓List.map_nil]
      refine condW_intro (fun h => ?_) (fun h => ?_)
      · have e : xs[k] ≠ ys[k] := by simpa using h
        have hv := hall.trans (lex_ne hlt hlt' e)
        simp (disch := omega) only [go_sem, true_and, and_true, List.nil_append, ↓reduceIte, Nat.reduceEqDiff, andW_of, Int.toNat_natCast, List.getElem?_map, List.getElem?_eq_getElem hlt, List.getElem?_eq_getElem hlt', Option.map_some, List.length_map, List.length_cons, List.length_nil, ↓List.map_cons, ↓List.map_nil]
        refine callW_of (box_sign_abs _) rfl (.inl rfl) ?_
        simp only [go_sem, true_and, and_true, List.nil_append, ↓reduceIte, Nat.reduceEqDiff, hv, decide_eq_true_eq]
      · have e : xs[k] = ys[k] := by simpa using h
        simp (disch := omega) only [go_sem, true_and, and_true, List.nil_append, ↓reduceIte, Nat.reduceEqDiff, andW_of, wrap_i64]
        refine ⟨k + 1, [], ⟨by omega, ?_⟩, ?_, ?_⟩
        · rw [hall, lex_eq hlt hlt' e]
        · omega
        · simp [Wk, wkF, wkM, wkL, look_cons, renV, renA, clV, clA]
    · have hlt0 : ¬ (k : Int) < (min xs.length ys.length : Nat) := by simpa using h
      have hend := lex_end (xs := xs) (ys := ys) (k := k) (by omega)
      simp only [go_sem, true_and, and_true, List.nil_append, ↓reduceIte, Nat.reduceEqDiff, List.length_map]
      refine condW_intro (fun h => ?_) (fun h => ?_)
      · have e : xs.length = ys.length := by
          have : (xs.length : Int) = ys.length := by simpa using h
          omega
        have hv := hall.trans hend
        rw [if_pos e] at hv
        simp only [go_sem, true_and, and_true, List.nil_append, ↓reduceIte, Nat.reduceEqDiff, hv]
      · have e : ¬ xs.length = ys.length := by
          have : ¬ (xs.length : Int) = ys.length := by simpa using h
          omega
        simp only [go_sem, true_and, and_true, List.nil_append, ↓reduceIte, Nat.reduceEqDiff, List.length_map]
        refine callW_of (box_sign_abs _) rfl (.inl rfl) ?_
        have hv := hall.trans hend
        rw [if_neg e] at hv
        have e2 : decide ((xs.length : Int) > ys.length) = decide (xs.length > ys.length) := by simp
        simp only [go_sem, true_and, and_true, List.nil_append, ↓reduceIte, Nat.reduceEqDiff, hv, e2, decide_eq_true_eq]
end Go.Proofs.Ytcbnnjadgkgheaa
