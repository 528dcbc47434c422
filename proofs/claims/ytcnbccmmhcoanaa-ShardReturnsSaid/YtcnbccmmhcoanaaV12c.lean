/- Walks by the abstract machine: offsets, all points of a box, sums of indices. -/
import Derived.Test.YtcnbccmmhcoanaaV12b
set_option linter.unusedVariables false
set_option linter.unusedSimpArgs false
set_option maxRecDepth 20000
namespace Go.Proofs.Ytcnbccmmhcoanaa
open Go.Abs Go.RowKit

theorem inTo_bd {xs ps : List Int} (hg : Good xs) {k : Nat} (hk : k ≤ xs.length) (h : InTo xs ps k) : 0 ≤ rankTo xs ps k ∧ rankTo xs ps k ≤ 4096 := by
 have h1 := rankTo_bd hg.pos k hk h
 have h2 := hg.take_le k
 omega
theorem shape_Offset_abs (xs ps : List Int) : PCalls Try.prog n_shape_Offset [aInts xs, aInts ps] (.tup [I (offset xs ps).1, Go.Abs.B (offset xs ps).2]) := by
 refine PCalls.of is_shape_Offset (by simp) fun hb => runW_sound ?_
 have hx : xs.length ≤ 9223372036854775807 := by simpa [bndVs, bndV, bndA] using hb.1
 have p1 := shape_Validate_abs xs
 simp only [c_shape_Offset]
 by_cases h : vld xs = 0
 ·rw [h] at p1
  by_cases hl : ps.length = xs.length
  ·have hl' : (ps.length : Int) = xs.length := by omega
   have hg := good_of_vld h
   have H := Lib.hid h
   have HL := Lib.hid hl
   clear h hl
   repeat' first | simp (disch := omega) only [go_sem, ↓reduceIte, Nat.reduceEqDiff, reduceCtorEq, Int.reduceEq, hl'] | ((with_reducible first | refine condD ?_ ?_ | refine condX ?_ ?_ | refine condW_intro ?_ ?_) <;> intro h <;> first | (exfalso; omega) | simp (disch := omega) only [go_sem, ↓reduceIte, Nat.reduceEqDiff, reduceCtorEq, Int.reduceEq, *, hl'] | skip) | (refine callW_of p1 rfl (.inl rfl) ?_)
   refine AW_loop (fun k : Nat => ⟨[(1, aInts ps), (6, I (rankTo xs ps k)), (19, aInts xs), (20, I xs.length), (21, I k)], [], 0, 0⟩) (fun k => k ≤ xs.length ∧ Hid (InTo xs ps k)) (fun k => xs.length - k) ⟨0, [], ⟨Nat.zero_le _, InTo.zero xs ps⟩, by simp [Wk, wkF, wkM, wkL, look_cons, renV, renA, renC, renB, rn, clV, clA, clAs, clB, notIn, findB, findB_setB, clA.go, rankTo]⟩ ?_
   rintro k ⟨hk, hin⟩
   refine runW_sound ?_
   clear hl'
   by_cases hlt : k < xs.length
   ·have hltp : k < ps.length := by have := HL.out; omega
    have ex : xs[k]?.getD 0 = xs[k] := by simp [hlt]
    have ep : ps[k]?.getD 0 = ps[k] := by simp [hltp]
    have EX := Lib.hid ex
    have EP := Lib.hid ep
    clear ex ep
    by_cases h1 : ps[k] < 0
    ·rw [offset_out (not_in_low hlt (by rw [EP.out]; exact h1))]
     repeat' first | simp (disch := omega) only [go_sem, ↓reduceIte, Nat.reduceEqDiff, reduceCtorEq, Int.reduceEq, map_get hlt, map_get hltp] | ((with_reducible first | refine condD ?_ ?_ | refine condX ?_ ?_ | refine condW_intro ?_ ?_) <;> intro h <;> first | (exfalso; omega) | simp (disch := omega) only [go_sem, ↓reduceIte, Nat.reduceEqDiff, reduceCtorEq, Int.reduceEq, *, map_get hlt, map_get hltp] | skip)
    ·by_cases h2 : xs[k] ≤ ps[k]
     ·rw [offset_out (not_in_high hlt (by rw [EP.out, EX.out]; exact h2))]
      repeat' first | simp (disch := omega) only [go_sem, ↓reduceIte, Nat.reduceEqDiff, reduceCtorEq, Int.reduceEq, map_get hlt, map_get hltp] | ((with_reducible first | refine condD ?_ ?_ | refine condX ?_ ?_ | refine condW_intro ?_ ?_) <;> intro h <;> first | (exfalso; omega) | simp (disch := omega) only [go_sem, ↓reduceIte, Nat.reduceEqDiff, reduceCtorEq, Int.reduceEq, *, map_get hlt, map_get hltp] | skip)
     ·have hin' : Hid (InTo xs ps (k + 1)) := hin.out.succ (by rw [EP.out]; omega) (by rw [EP.out, EX.out]; omega)
      have hb1 := inTo_bd hg hk hin.out
      have hb2 := inTo_bd hg hlt hin'.out
      have hx2 := (hg.get hlt).1
      rw [EX.out] at hx2
      have er : rankTo xs ps (k + 1) = rankTo xs ps k * xs[k] + ps[k] := by rw [rankTo, EX.out, EP.out]
      rw [er] at hb2
      have hm : 0 ≤ rankTo xs ps k * xs[k] := Int.mul_nonneg hb1.1 (by omega)
      have w1 : IntKind.wrap .i64 (rankTo xs ps k * xs[k]) = rankTo xs ps k * xs[k] := wrap_i64 (by omega)
      have w2 : IntKind.wrap .i64 (rankTo xs ps k * xs[k] + ps[k]) = rankTo xs ps k * xs[k] + ps[k] := wrap_i64 (by omega)
      have ER := Lib.hid er
      clear er hm hb1 hb2
      repeat' first | simp (disch := omega) only [go_sem, ↓reduceIte, Nat.reduceEqDiff, reduceCtorEq, Int.reduceEq, map_get hlt, map_get hltp, wrap_i64, w1, w2] | ((with_reducible first | refine condD ?_ ?_ | refine condX ?_ ?_ | refine condW_intro ?_ ?_) <;> intro h <;> first | (exfalso; omega) | simp (disch := omega) only [go_sem, ↓reduceIte, Nat.reduceEqDiff, reduceCtorEq, Int.reduceEq, *, map_get hlt, map_get hltp, wrap_i64, w1, w2] | skip)
      exact ⟨k + 1, [], ⟨hlt, hin'⟩, by omega, by simp [Wk, wkF, wkM, wkL, look_cons, renV, renA, renC, renB, rn, clV, clA, clAs, clB, notIn, findB, findB_setB, clA.go, ER.out]⟩
   ·have e : k = xs.length := by omega
    subst e
    rw [offset_in H.out ⟨HL.out, hin.out⟩, rank]
    repeat' first | simp (disch := omega) only [go_sem, ↓reduceIte, Nat.reduceEqDiff, reduceCtorEq, Int.reduceEq] | ((with_reducible first | refine condD ?_ ?_ | refine condX ?_ ?_ | refine condW_intro ?_ ?_) <;> intro h <;> first | (exfalso; omega) | simp (disch := omega) only [go_sem, ↓reduceIte, Nat.reduceEqDiff, reduceCtorEq, Int.reduceEq, *] | skip)
  ·rw [offset_out fun hc => hl hc.1]
   have hl' : ¬ (ps.length : Int) = xs.length := by omega
   repeat' first | simp (disch := omega) only [go_sem, ↓reduceIte, Nat.reduceEqDiff, reduceCtorEq, Int.reduceEq, hl'] | ((with_reducible first | refine condD ?_ ?_ | refine condX ?_ ?_ | refine condW_intro ?_ ?_) <;> intro h <;> first | (exfalso; omega) | simp (disch := omega) only [go_sem, ↓reduceIte, Nat.reduceEqDiff, reduceCtorEq, Int.reduceEq, *, hl'] | skip) | (refine callW_of p1 rfl (.inl rfl) ?_)
 ·rw [offset_bad h]
  repeat' first | simp (disch := omega) only [go_sem, ↓reduceIte, Nat.reduceEqDiff, reduceCtorEq, Int.reduceEq, h] | ((with_reducible first | refine condD ?_ ?_ | refine condX ?_ ?_ | refine condW_intro ?_ ?_) <;> intro h <;> first | (exfalso; omega) | simp (disch := omega) only [go_sem, ↓reduceIte, Nat.reduceEqDiff, reduceCtorEq, Int.reduceEq, *, h] | skip) | (refine callW_of p1 rfl (.inl rfl) ?_)
theorem ref11_Offset_abs (xs ps : List Int) : PCalls Try.prog n_ref11_Offset [aInts xs, aInts ps] (.tup [I (offset xs ps).1, Go.Abs.B (offset xs ps).2]) := by
 refine PCalls.of is_ref11_Offset (by simp) fun hb => runW_sound ?_
 have hx : xs.length ≤ 9223372036854775807 := by simpa [bndVs, bndV, bndA] using hb.1
 have p1 := ref11_Validate_abs xs
 simp only [c_ref11_Offset]
 by_cases h : vld xs = 0
 ·rw [h] at p1
  by_cases hl : ps.length = xs.length
  ·have hl' : (ps.length : Int) = xs.length := by omega
   have hg := good_of_vld h
   have H := Lib.hid h
   have HL := Lib.hid hl
   clear h hl
   repeat' first | simp (disch := omega) only [go_sem, ↓reduceIte, Nat.reduceEqDiff, reduceCtorEq, Int.reduceEq, hl'] | ((with_reducible first | refine condD ?_ ?_ | refine condX ?_ ?_ | refine condW_intro ?_ ?_) <;> intro h <;> first | (exfalso; omega) | simp (disch := omega) only [go_sem, ↓reduceIte, Nat.reduceEqDiff, reduceCtorEq, Int.reduceEq, *, hl'] | skip) | (refine callW_of p1 rfl (.inl rfl) ?_)
   refine AW_loop (fun k : Nat => ⟨[(0, aInts xs), (1, aInts ps), (6, I (rankTo xs ps k)), (7, I k)], [], 0, 0⟩) (fun k => k ≤ xs.length ∧ Hid (InTo xs ps k)) (fun k => xs.length - k) ⟨0, [], ⟨Nat.zero_le _, InTo.zero xs ps⟩, by simp [Wk, wkF, wkM, wkL, look_cons, renV, renA, renC, renB, rn, clV, clA, clAs, clB, notIn, findB, findB_setB, clA.go, rankTo]⟩ ?_
   rintro k ⟨hk, hin⟩
   refine runW_sound ?_
   clear hl'
   by_cases hlt : k < xs.length
   ·have hltp : k < ps.length := by have := HL.out; omega
    have ex : xs[k]?.getD 0 = xs[k] := by simp [hlt]
    have ep : ps[k]?.getD 0 = ps[k] := by simp [hltp]
    have EX := Lib.hid ex
    have EP := Lib.hid ep
    clear ex ep
    by_cases h1 : ps[k] < 0
    ·rw [offset_out (not_in_low hlt (by rw [EP.out]; exact h1))]
     repeat' first | simp (disch := omega) only [go_sem, ↓reduceIte, Nat.reduceEqDiff, reduceCtorEq, Int.reduceEq, map_get hlt, map_get hltp] | ((with_reducible first | refine condD ?_ ?_ | refine condX ?_ ?_ | refine condW_intro ?_ ?_) <;> intro h <;> first | (exfalso; omega) | simp (disch := omega) only [go_sem, ↓reduceIte, Nat.reduceEqDiff, reduceCtorEq, Int.reduceEq, *, map_get hlt, map_get hltp] | skip)
    ·by_cases h2 : xs[k] ≤ ps[k]
     ·rw [offset_out (not_in_high hlt (by rw [EP.out, EX.out]; exact h2))]
      repeat' first | simp (disch := omega) only [go_sem, ↓reduceIte, Nat.reduceEqDiff, reduceCtorEq, Int.reduceEq, map_get hlt, map_get hltp] | ((with_reducible first | refine condD ?_ ?_ | refine condX ?_ ?_ | refine condW_intro ?_ ?_) <;> intro h <;> first | (exfalso; omega) | simp (disch := omega) only [go_sem, ↓reduceIte, Nat.reduceEqDiff, reduceCtorEq, Int.reduceEq, *, map_get hlt, map_get hltp] | skip)
     ·have hin' : Hid (InTo xs ps (k + 1)) := hin.out.succ (by rw [EP.out]; omega) (by rw [EP.out, EX.out]; omega)
      have hb1 := inTo_bd hg hk hin.out
      have hb2 := inTo_bd hg hlt hin'.out
      have hx2 := (hg.get hlt).1
      rw [EX.out] at hx2
      have er : rankTo xs ps (k + 1) = rankTo xs ps k * xs[k] + ps[k] := by rw [rankTo, EX.out, EP.out]
      rw [er] at hb2
      have hm : 0 ≤ rankTo xs ps k * xs[k] := Int.mul_nonneg hb1.1 (by omega)
      have w1 : IntKind.wrap .i64 (rankTo xs ps k * xs[k]) = rankTo xs ps k * xs[k] := wrap_i64 (by omega)
      have w2 : IntKind.wrap .i64 (rankTo xs ps k * xs[k] + ps[k]) = rankTo xs ps k * xs[k] + ps[k] := wrap_i64 (by omega)
      have ER := Lib.hid er
      clear er hm hb1 hb2
      repeat' first | simp (disch := omega) only [go_sem, ↓reduceIte, Nat.reduceEqDiff, reduceCtorEq, Int.reduceEq, map_get hlt, map_get hltp, wrap_i64, w1, w2] | ((with_reducible first | refine condD ?_ ?_ | refine condX ?_ ?_ | refine condW_intro ?_ ?_) <;> intro h <;> first | (exfalso; omega) | simp (disch := omega) only [go_sem, ↓reduceIte, Nat.reduceEqDiff, reduceCtorEq, Int.reduceEq, *, map_get hlt, map_get hltp, wrap_i64, w1, w2] | skip)
      exact ⟨k + 1, [], ⟨hlt, hin'⟩, by omega, by simp [Wk, wkF, wkM, wkL, look_cons, renV, renA, renC, renB, rn, clV, clA, clAs, clB, notIn, findB, findB_setB, clA.go, ER.out]⟩
   ·have e : k = xs.length := by omega
    subst e
    rw [offset_in H.out ⟨HL.out, hin.out⟩, rank]
    repeat' first | simp (disch := omega) only [go_sem, ↓reduceIte, Nat.reduceEqDiff, reduceCtorEq, Int.reduceEq] | ((with_reducible first | refine condD ?_ ?_ | refine condX ?_ ?_ | refine condW_intro ?_ ?_) <;> intro h <;> first | (exfalso; omega) | simp (disch := omega) only [go_sem, ↓reduceIte, Nat.reduceEqDiff, reduceCtorEq, Int.reduceEq, *] | skip)
  ·rw [offset_out fun hc => hl hc.1]
   have hl' : ¬ (ps.length : Int) = xs.length := by omega
   repeat' first | simp (disch := omega) only [go_sem, ↓reduceIte, Nat.reduceEqDiff, reduceCtorEq, Int.reduceEq, hl'] | ((with_reducible first | refine condD ?_ ?_ | refine condX ?_ ?_ | refine condW_intro ?_ ?_) <;> intro h <;> first | (exfalso; omega) | simp (disch := omega) only [go_sem, ↓reduceIte, Nat.reduceEqDiff, reduceCtorEq, Int.reduceEq, *, hl'] | skip) | (refine callW_of p1 rfl (.inl rfl) ?_)
 ·rw [offset_bad h]
  repeat' first | simp (disch := omega) only [go_sem, ↓reduceIte, Nat.reduceEqDiff, reduceCtorEq, Int.reduceEq, h] | ((with_reducible first | refine condD ?_ ?_ | refine condX ?_ ?_ | refine condW_intro ?_ ?_) <;> intro h <;> first | (exfalso; omega) | simp (disch := omega) only [go_sem, ↓reduceIte, Nat.reduceEqDiff, reduceCtorEq, Int.reduceEq, *, h] | skip) | (refine callW_of p1 rfl (.inl rfl) ?_)

/-- All points of a box. -/
def allP (xs : List Int) : List (List Int) := (List.range (bcount xs).toNat).map fun (i : Nat) => pointOf xs (i : Int)
abbrev aPts (l : List (List Int)) : AV := aSl (fun p => [pInts p]) l
theorem allP_len (xs : List Int) : (allP xs).length = (bcount xs).toNat := by simp [allP]
theorem allP_get {xs : List Int} {i : Nat} (h : i < (allP xs).length) : (allP xs)[i] = pointOf xs i := by simp [allP]
theorem allP_take {xs : List Int} {k : Nat} (hk : k < (allP xs).length) : (allP xs).take (k + 1) = (allP xs).take k ++ [pointOf xs k] := by
 rw [List.take_succ_eq_append_getElem hk, allP_get]
theorem ref09_All_abs (xs : List Int) : PCalls Try.prog n_ref09_All [aInts xs] (aPts (allP xs)) := by
 refine PCalls.of is_ref09_All (by simp) fun hb => runW_sound ?_
 have p1 := ref09_Count_abs xs
 have hc := bcount_bd xs
 have hlen := allP_len xs
 simp only [c_ref09_All]
 repeat' first | simp (disch := omega) only [go_sem, ↓reduceIte, Nat.reduceEqDiff, reduceCtorEq, Int.reduceEq] | ((with_reducible first | refine condD ?_ ?_ | refine condX ?_ ?_ | refine condW_intro ?_ ?_) <;> intro h <;> first | (exfalso; omega) | simp (disch := omega) only [go_sem, ↓reduceIte, Nat.reduceEqDiff, reduceCtorEq, Int.reduceEq, *] | skip) | (refine callW_of p1 rfl (.inl rfl) ?_)
 refine AW_adopt 3 22 1 rfl (by decide) ?_
 refine AW_loop (fun k : Nat => ⟨[(0, aInts xs), (3, .c (.ref 0)), (4, I (bcount xs)), (5, I k)], [(0, .arr 22 1 (((allP xs).take k).map fun p => [pInts p]))], 1, 0⟩) (fun k => k ≤ (allP xs).length) (fun k => (allP xs).length - k) ⟨0, [], Nat.zero_le _, by simp [Wk, wkF, wkM, wkL, look_cons, renV, renA, renC, renB, rn, clV, clA, clAs, clB, notIn, findB, findB_setB, clA.go]⟩ ?_
 rintro k hk
 refine runW_sound ?_
 by_cases hlt : k < (allP xs).length
 ·have hki : (k : Int) < bcount xs := by omega
  have p2 := ref09_Point_abs xs (at' := (k : Int)) ⟨by omega, by omega⟩
  rw [bpoint_in ⟨by omega, hki⟩] at p2
  have hl2 : (((allP xs).take k).map fun p => [pInts p]).length = k := by rw [List.length_map, List.length_take]; omega
  have L := Lib.hid hl2
  clear hl2
  repeat' first | simp (disch := omega) only [go_sem, ↓reduceIte, Nat.reduceEqDiff, reduceCtorEq, Int.reduceEq, wrap_i64] | ((with_reducible first | refine condD ?_ ?_ | refine condX ?_ ?_ | refine condW_intro ?_ ?_) <;> intro h <;> first | (exfalso; omega) | simp (disch := omega) only [go_sem, ↓reduceIte, Nat.reduceEqDiff, reduceCtorEq, Int.reduceEq, *, wrap_i64] | skip) | (refine callW_of p2 rfl (.inr rfl) ?_) | (refine app_own rfl (by intro h; cases h) (rowsOk_one rfl) (by rw [L.out]; simp; omega) (by rw [L.out]; simp; omega) ?_)
  refine ⟨k + 1, [(0, 1)], hlt, by omega, ?_⟩
  rw [allP_take hlt, List.map_append]
  simp [Wk, wkF, wkM, wkL, look_cons, renV, renA, renC, renB, rn, clV, clA, clAs, clB, notIn, findB, findB_setB, clA.go]
 ·have e : (allP xs).take k = allP xs := List.take_of_length_le (by omega)
  rw [e]
  have hki : ¬ (k : Int) < bcount xs := by omega
  repeat' first | simp (disch := omega) only [go_sem, ↓reduceIte, Nat.reduceEqDiff, reduceCtorEq, Int.reduceEq] | ((with_reducible first | refine condD ?_ ?_ | refine condX ?_ ?_ | refine condW_intro ?_ ?_) <;> intro h <;> first | (exfalso; omega) | simp (disch := omega) only [go_sem, ↓reduceIte, Nat.reduceEqDiff, reduceCtorEq, Int.reduceEq, *] | skip)

/-- The sum of two indices. -/
def addL (a b : List Int) : List Int := (List.range a.length).map fun i => a[i]?.getD 0 + b[i]?.getD 0
theorem addL_len (a b : List Int) : (addL a b).length = a.length := by simp [addL]
theorem addL_get {a b : List Int} {i : Nat} (h : i < a.length) : (addL a b)[i]?.getD 0 = a[i]?.getD 0 + b[i]?.getD 0 := by simp [addL, h]
theorem addL_take {a b : List Int} {k : Nat} (hk : k < a.length) : (addL a b).take (k + 1) = (addL a b).take k ++ [a[k]?.getD 0 + b[k]?.getD 0] := by
 rw [List.take_succ_eq_append_getElem (by rw [addL_len]; exact hk)]
 simp [addL]
theorem ref52_plus_abs {a b : List Int} (hl : a.length = b.length) (hs : a.length ≤ 6) (hin : ∀ i (h : i < a.length) (h' : i < b.length), in64 (a[i] + b[i])) : PCalls Try.prog n_ref52_plus [aInts a, aInts b] (aInts (addL a b)) := by
 refine PCalls.of is_ref52_plus (by simp) fun hb => runW_sound ?_
 simp only [c_ref52_plus]
 have HL := Lib.hid hl
 clear hl
 repeat' first | simp (disch := omega) only [go_sem, ↓reduceIte, Nat.reduceEqDiff, reduceCtorEq, Int.reduceEq] | ((with_reducible first | refine condD ?_ ?_ | refine condX ?_ ?_ | refine condW_intro ?_ ?_) <;> intro h <;> first | (exfalso; omega) | simp (disch := omega) only [go_sem, ↓reduceIte, Nat.reduceEqDiff, reduceCtorEq, Int.reduceEq, *] | skip)
 refine AW_adopt 5 3 1 rfl (by decide) ?_
 refine AW_loop (fun k : Nat => ⟨[(0, aInts a), (1, aInts b), (5, .c (.ref 0)), (6, I k)], [(0, .arr 3 1 (((addL a b).take k).map fun n => [pI n]))], 1, 0⟩) (fun k => k ≤ a.length) (fun k => a.length - k) ⟨0, [], Nat.zero_le _, by simp [Wk, wkF, wkM, wkL, look_cons, renV, renA, renC, renB, rn, clV, clA, clAs, clB, notIn, findB, findB_setB, clA.go]⟩ ?_
 rintro k hk
 refine runW_sound ?_
 by_cases hlt : k < a.length
 ·have hltb : k < b.length := by have := HL.out; omega
  have hw : IntKind.wrap .i64 (a[k] + b[k]) = a[k] + b[k] := wrap_i64 (hin k hlt hltb)
  have hl2 : (((addL a b).take k).map fun n => [pI n]).length = k := by rw [List.length_map, List.length_take, addL_len]; omega
  have e : (addL a b).take (k + 1) = (addL a b).take k ++ [a[k] + b[k]] := by rw [addL_take hlt]; simp [hlt, hltb]
  have E := Lib.hid e
  have L := Lib.hid hl2
  clear hl2 e
  repeat' first | simp (disch := omega) only [go_sem, ↓reduceIte, Nat.reduceEqDiff, reduceCtorEq, Int.reduceEq, map_get hlt, map_get hltb, wrap_i64, hw] | ((with_reducible first | refine condD ?_ ?_ | refine condX ?_ ?_ | refine condW_intro ?_ ?_) <;> intro h <;> first | (exfalso; omega) | simp (disch := omega) only [go_sem, ↓reduceIte, Nat.reduceEqDiff, reduceCtorEq, Int.reduceEq, *, map_get hlt, map_get hltb, wrap_i64, hw] | skip) | (refine app_own rfl (by intro h; cases h) (rowsOk_one rfl) (by rw [L.out]; simp; omega) (by rw [L.out]; simp; omega) ?_)
  refine ⟨k + 1, [(0, 1)], hlt, by omega, ?_⟩
  rw [E.out, List.map_append]
  simp [Wk, wkF, wkM, wkL, look_cons, renV, renA, renC, renB, rn, clV, clA, clAs, clB, notIn, findB, findB_setB, clA.go]
 ·have e : (addL a b).take k = addL a b := List.take_of_length_le (by rw [addL_len]; omega)
  rw [e]
  repeat' first | simp (disch := omega) only [go_sem, ↓reduceIte, Nat.reduceEqDiff, reduceCtorEq, Int.reduceEq] | ((with_reducible first | refine condD ?_ ?_ | refine condX ?_ ?_ | refine condW_intro ?_ ?_) <;> intro h <;> first | (exfalso; omega) | simp (disch := omega) only [go_sem, ↓reduceIte, Nat.reduceEqDiff, reduceCtorEq, Int.reduceEq, *] | skip)
end Go.Proofs.Ytcnbccmmhcoanaa
