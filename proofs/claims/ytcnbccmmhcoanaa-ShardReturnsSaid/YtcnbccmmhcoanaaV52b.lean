/- Walks by the abstract machine: meshes, shapes and specs: validation, part 2. -/
import Derived.Test.YtcnbccmmhcoanaaV52a
set_option linter.unusedVariables false
set_option linter.unusedSimpArgs false
set_option maxRecDepth 20000
namespace Go.Proofs.Ytcnbccmmhcoanaa
open Go.Abs Go.RowKit

theorem ref51_Validate_abs (ms : List Int) : PCalls Try.prog n_ref51_Validate [aMesh ms] (I (vmesh ms)) := by
 refine PCalls.of is_ref51_Validate (by simp) fun hb => runW_sound ?_
 have hl := bnd_mesh hb.1
 simp only [c_ref51_Validate]
 repeat' first | simp (disch := omega) only [go_sem, ↓reduceIte, Nat.reduceEqDiff, reduceCtorEq, Int.reduceEq] | ((with_reducible first | refine condD ?_ ?_ | refine condX ?_ ?_ | refine condW_intro ?_ ?_) <;> intro h <;> first | (exfalso; omega) | simp (disch := omega) only [go_sem, ↓reduceIte, Nat.reduceEqDiff, reduceCtorEq, Int.reduceEq, *] | skip)
 ·rw [vmesh_no]; rintro ⟨g1, g2, _⟩; omega
 ·rw [vmesh_no]; rintro ⟨g1, g2, _⟩; omega
 ·refine AW_loop (fun k : Nat => ⟨[(1, .c (.ptr 0 0)), (3, I (prod (ms.take k))), (4, I k)], [(0, .var [.pure (pInts ms)])], 1, 0⟩) (fun k => k ≤ ms.length ∧ upTo (fun i => ∀ h : i < ms.length, 1 ≤ ms[i] ∧ ms[i] ≤ 16) k) (fun k => ms.length - k) ⟨0, [], ⟨by omega, .zero⟩, by simp [Wk, wkF, wkM, wkL, look_cons, renV, renA, renC, renB, rn, clV, clA, clAs, clB, notIn, findB, findB_setB, clA.go, prod]⟩ ?_
  rintro k ⟨hk, hall⟩
  refine runW_sound ?_
  have hps := prod_small hk hall
  have hpw : (16 : Int) ^ k ≤ 4096 := by
   have : k = 0 ∨ k = 1 ∨ k = 2 ∨ k = 3 := by omega
   rcases this with rfl | rfl | rfl | rfl <;> decide
  by_cases hlt : k < ms.length
  ·have hmul : 1 ≤ ms[k] ∧ ms[k] ≤ 16 → in64 (prod (ms.take k) * ms[k]) := fun h => by
    have := Int.mul_le_mul (show prod (ms.take k) ≤ 4096 by omega) h.2 (by omega) (by omega)
    have := Int.mul_nonneg (show 0 ≤ prod (ms.take k) by omega) (show 0 ≤ ms[k] by omega)
    unfold in64; omega
   have HM := Lib.hid hmul
   clear hmul hpw hps
   repeat' first | simp (disch := omega) only [go_sem, ↓reduceIte, Nat.reduceEqDiff, reduceCtorEq, Int.reduceEq, map_get hlt, wrap_i64] | ((with_reducible first | refine condD ?_ ?_ | refine condX ?_ ?_ | refine condW_intro ?_ ?_) <;> intro h <;> first | (exfalso; omega) | simp (disch := omega) only [go_sem, ↓reduceIte, Nat.reduceEqDiff, reduceCtorEq, Int.reduceEq, *, map_get hlt, wrap_i64] | skip)
   all_goals first
    | (rw [vmesh_no]; rintro ⟨_, _, g3, _⟩; have := g3 _ (List.getElem_mem hlt); omega)
    | (have hm := HM.out ⟨by omega, by omega⟩; refine ⟨k + 1, [], ⟨by omega, hall.succ fun _ => ⟨by omega, by omega⟩⟩, by omega, ?_⟩; simp [Wk, wkF, wkM, wkL, look_cons, renV, renA, renC, renB, rn, clV, clA, clAs, clB, notIn, findB, findB_setB, clA.go, prod_succ hlt, wrap_i64 hm])
  ·have e : ms.take k = ms := List.take_of_length_le (by omega)
   have e2 : k = ms.length := by omega
   rw [e] at hps ⊢
   rw [e2] at hall
   repeat' first | simp (disch := omega) only [go_sem, ↓reduceIte, Nat.reduceEqDiff, reduceCtorEq, Int.reduceEq] | ((with_reducible first | refine condD ?_ ?_ | refine condX ?_ ?_ | refine condW_intro ?_ ?_) <;> intro h <;> first | (exfalso; omega) | simp (disch := omega) only [go_sem, ↓reduceIte, Nat.reduceEqDiff, reduceCtorEq, Int.reduceEq, *] | skip)
   ·rw [vmesh_no]; rintro ⟨_, _, _, g4⟩; omega
   ·rw [vmesh_yes (meshOk_of (by omega) (by omega) hall (by omega))]

theorem shape_Validate_abs (xs : List Int) : PCalls Try.prog n_shape_Validate [aInts xs] (I (vld xs)) := by
 refine PCalls.of is_shape_Validate (by simp) fun hb => runW_sound ?_
 have hx : xs.length ≤ 9223372036854775807 := by simpa [bndVs, bndV, bndA] using hb.1
 simp only [c_shape_Validate]
 repeat' first | simp (disch := omega) only [go_sem, ↓reduceIte, Nat.reduceEqDiff, reduceCtorEq, Int.reduceEq] | ((with_reducible first | refine condD ?_ ?_ | refine condX ?_ ?_ | refine condW_intro ?_ ?_) <;> intro h <;> first | (exfalso; omega) | simp (disch := omega) only [go_sem, ↓reduceIte, Nat.reduceEqDiff, reduceCtorEq, Int.reduceEq, *] | skip)
 ·rw [vld_big (by omega)]
 refine AW_loop (fun k : Nat => ⟨[(0, aInts xs), (11, aInts xs), (12, I xs.length), (13, I k)], [], 0, 0⟩) (fun k => k ≤ xs.length ∧ upTo (fun i => ∀ h : i < xs.length, 1 ≤ xs[i]) k) (fun k => xs.length - k) ⟨0, [], ⟨by omega, .zero⟩, by simp [Wk, wkF, wkM, wkL, look_cons, renV, renA, renC, renB, rn, clV, clA, clAs, clB, notIn, findB, findB_setB, clA.go]⟩ ?_
 rintro k ⟨hk, hall⟩
 refine runW_sound ?_
 by_cases hlt : k < xs.length
 ·have hget : xs[k]?.getD 0 = xs[k] := by simp [hlt]
  repeat' first | simp (disch := omega) only [go_sem, ↓reduceIte, Nat.reduceEqDiff, reduceCtorEq, Int.reduceEq, map_get hlt, wrap_i64] | ((with_reducible first | refine condD ?_ ?_ | refine condX ?_ ?_ | refine condW_intro ?_ ?_) <;> intro h <;> first | (exfalso; omega) | simp (disch := omega) only [go_sem, ↓reduceIte, Nat.reduceEqDiff, reduceCtorEq, Int.reduceEq, *, map_get hlt, wrap_i64] | skip)
  ·rw [vld_low (by omega) hlt (by omega)]
  ·exact ⟨k + 1, [], ⟨by omega, hall.succ fun _ => by omega⟩, by omega, by simp [Wk, wkF, wkM, wkL, look_cons, renV, renA, renC, renB, rn, clV, clA, clAs, clB, notIn, findB, findB_setB, clA.go]⟩
 ·have hpos : ∀ x ∈ xs, 1 ≤ x := by
   intro x hm
   obtain ⟨i, hi, rfl⟩ := List.mem_iff_getElem.1 hm
   exact hall i (by omega) hi
  have hv := vld_high (xs := xs) (by omega) hpos
  have HP := Lib.hid hpos
  rw [hv]
  obtain ⟨R, hR⟩ : ∃ R, R = prodErr xs 1 := ⟨_, rfl⟩
  rw [← hR]
  have HR := Lib.hid hR
  clear hv hpos hR hall
  repeat' first | simp (disch := omega) only [go_sem, ↓reduceIte, Nat.reduceEqDiff, reduceCtorEq, Int.reduceEq] | ((with_reducible first | refine condD ?_ ?_ | refine condX ?_ ?_ | refine condW_intro ?_ ?_) <;> intro h <;> first | (exfalso; omega) | simp (disch := omega) only [go_sem, ↓reduceIte, Nat.reduceEqDiff, reduceCtorEq, Int.reduceEq, *] | skip)
  refine AW_loop (fun s : Nat × Int => ⟨[(5, I s.2), (20, aInts xs), (21, I xs.length), (22, I s.1)], [], 0, 0⟩) (fun s => s.1 ≤ xs.length ∧ 1 ≤ s.2 ∧ s.2 ≤ 4096 ∧ Hid (R = prodErr (xs.drop s.1) s.2)) (fun s => xs.length - s.1) ⟨(0, 1), [], ⟨by show 0 ≤ _; omega, by show (1 : Int) ≤ 1; decide, by show (1 : Int) ≤ 4096; decide, HR⟩, by simp [Wk, wkF, wkM, wkL, look_cons, renV, renA, renC, renB, rn, clV, clA, clAs, clB, notIn, findB, findB_setB, clA.go]⟩ ?_
  rintro ⟨j, s⟩ ⟨hj, hs1, hs2, HR⟩
  refine runW_sound ?_
  simp only at hj hs1 hs2
  by_cases hjt : j < xs.length
  ·have h1 := HP.out _ (List.getElem_mem hjt)
   have HR' : Hid (R = if 4096 / s < xs[j] then 2 else prodErr (xs.drop (j + 1)) (s * xs[j])) := by
    have := HR.out
    rwa [List.drop_eq_getElem_cons hjt, prodErr] at this
   clear HR
   have eq : Int.tdiv 4096 s = 4096 / s := Int.tdiv_eq_ediv_of_nonneg (by decide)
   have hq0 : 0 ≤ 4096 / s := Int.ediv_nonneg (by decide) (by omega)
   have hq1 : 4096 / s ≤ 4096 := Int.ediv_le_self _ (by decide)
   have hne : s ≠ 0 := by omega
   by_cases hq : 4096 / s < xs[j]
   ·have e : R = 2 := by rw [HR'.out, if_pos hq]
    subst e
    repeat' first | simp (disch := omega) only [go_sem, ↓reduceIte, Nat.reduceEqDiff, reduceCtorEq, Int.reduceEq, map_get hjt, wrap_i64, eq, hne, ne_eq] | ((with_reducible first | refine condD ?_ ?_ | refine condX ?_ ?_ | refine condW_intro ?_ ?_) <;> intro h <;> first | (exfalso; omega) | simp (disch := omega) only [go_sem, ↓reduceIte, Nat.reduceEqDiff, reduceCtorEq, Int.reduceEq, *, map_get hjt, wrap_i64, eq, hne, ne_eq] | skip)
   ·have hle := quo_le hs1 hq
    have hge := one_le_mul hs1 h1
    have e : Hid (R = prodErr (xs.drop (j + 1)) (s * xs[j])) := by
     have := HR'.out
     rwa [if_neg hq] at this
    have hm : IntKind.wrap .i64 (s * xs[j]) = s * xs[j] := wrap_i64 (by omega)
    clear HR'
    repeat' first | simp (disch := omega) only [go_sem, ↓reduceIte, Nat.reduceEqDiff, reduceCtorEq, Int.reduceEq, map_get hjt, wrap_i64, eq, hne, ne_eq, hm] | ((with_reducible first | refine condD ?_ ?_ | refine condX ?_ ?_ | refine condW_intro ?_ ?_) <;> intro h <;> first | (exfalso; omega) | simp (disch := omega) only [go_sem, ↓reduceIte, Nat.reduceEqDiff, reduceCtorEq, Int.reduceEq, *, map_get hjt, wrap_i64, eq, hne, ne_eq, hm] | skip)
    exact ⟨(j + 1, s * xs[j]), [], ⟨hjt, hge, hle, e⟩, by show _ - _ < _ - _; omega, by simp [Wk, wkF, wkM, wkL, look_cons, renV, renA, renC, renB, rn, clV, clA, clAs, clB, notIn, findB, findB_setB, clA.go]⟩
  ·have hR := HR.out
   simp only at hR
   rw [List.drop_eq_nil_of_le (by omega), prodErr] at hR
   subst hR
   repeat' first | simp (disch := omega) only [go_sem, ↓reduceIte, Nat.reduceEqDiff, reduceCtorEq, Int.reduceEq] | ((with_reducible first | refine condD ?_ ?_ | refine condX ?_ ?_ | refine condW_intro ?_ ?_) <;> intro h <;> first | (exfalso; omega) | simp (disch := omega) only [go_sem, ↓reduceIte, Nat.reduceEqDiff, reduceCtorEq, Int.reduceEq, *] | skip)

theorem ref11_Validate_abs (xs : List Int) : PCalls Try.prog n_ref11_Validate [aInts xs] (I (vld xs)) := by
 refine PCalls.of is_ref11_Validate (by simp) fun hb => runW_sound ?_
 have hx : xs.length ≤ 9223372036854775807 := by simpa [bndVs, bndV, bndA] using hb.1
 simp only [c_ref11_Validate]
 repeat' first | simp (disch := omega) only [go_sem, ↓reduceIte, Nat.reduceEqDiff, reduceCtorEq, Int.reduceEq] | ((with_reducible first | refine condD ?_ ?_ | refine condX ?_ ?_ | refine condW_intro ?_ ?_) <;> intro h <;> first | (exfalso; omega) | simp (disch := omega) only [go_sem, ↓reduceIte, Nat.reduceEqDiff, reduceCtorEq, Int.reduceEq, *] | skip)
 ·rw [vld_big (by omega)]
 refine AW_loop (fun k : Nat => ⟨[(0, aInts xs), (3, I k)], [], 0, 0⟩) (fun k => k ≤ xs.length ∧ upTo (fun i => ∀ h : i < xs.length, 1 ≤ xs[i]) k) (fun k => xs.length - k) ⟨0, [], ⟨by omega, .zero⟩, by simp [Wk, wkF, wkM, wkL, look_cons, renV, renA, renC, renB, rn, clV, clA, clAs, clB, notIn, findB, findB_setB, clA.go]⟩ ?_
 rintro k ⟨hk, hall⟩
 refine runW_sound ?_
 by_cases hlt : k < xs.length
 ·have hget : xs[k]?.getD 0 = xs[k] := by simp [hlt]
  repeat' first | simp (disch := omega) only [go_sem, ↓reduceIte, Nat.reduceEqDiff, reduceCtorEq, Int.reduceEq, map_get hlt, wrap_i64] | ((with_reducible first | refine condD ?_ ?_ | refine condX ?_ ?_ | refine condW_intro ?_ ?_) <;> intro h <;> first | (exfalso; omega) | simp (disch := omega) only [go_sem, ↓reduceIte, Nat.reduceEqDiff, reduceCtorEq, Int.reduceEq, *, map_get hlt, wrap_i64] | skip)
  ·rw [vld_low (by omega) hlt (by omega)]
  ·exact ⟨k + 1, [], ⟨by omega, hall.succ fun _ => by omega⟩, by omega, by simp [Wk, wkF, wkM, wkL, look_cons, renV, renA, renC, renB, rn, clV, clA, clAs, clB, notIn, findB, findB_setB, clA.go]⟩
 ·have hpos : ∀ x ∈ xs, 1 ≤ x := by
   intro x hm
   obtain ⟨i, hi, rfl⟩ := List.mem_iff_getElem.1 hm
   exact hall i (by omega) hi
  have hv := vld_high (xs := xs) (by omega) hpos
  have HP := Lib.hid hpos
  rw [hv]
  obtain ⟨R, hR⟩ : ∃ R, R = prodErr xs 1 := ⟨_, rfl⟩
  rw [← hR]
  have HR := Lib.hid hR
  clear hv hpos hR hall
  repeat' first | simp (disch := omega) only [go_sem, ↓reduceIte, Nat.reduceEqDiff, reduceCtorEq, Int.reduceEq] | ((with_reducible first | refine condD ?_ ?_ | refine condX ?_ ?_ | refine condW_intro ?_ ?_) <;> intro h <;> first | (exfalso; omega) | simp (disch := omega) only [go_sem, ↓reduceIte, Nat.reduceEqDiff, reduceCtorEq, Int.reduceEq, *] | skip)
  refine AW_loop (fun s : Nat × Int => ⟨[(0, aInts xs), (4, I s.2), (5, I s.1)], [], 0, 0⟩) (fun s => s.1 ≤ xs.length ∧ 1 ≤ s.2 ∧ s.2 ≤ 4096 ∧ Hid (R = prodErr (xs.drop s.1) s.2)) (fun s => xs.length - s.1) ⟨(0, 1), [], ⟨by show 0 ≤ _; omega, by show (1 : Int) ≤ 1; decide, by show (1 : Int) ≤ 4096; decide, HR⟩, by simp [Wk, wkF, wkM, wkL, look_cons, renV, renA, renC, renB, rn, clV, clA, clAs, clB, notIn, findB, findB_setB, clA.go]⟩ ?_
  rintro ⟨j, s⟩ ⟨hj, hs1, hs2, HR⟩
  refine runW_sound ?_
  simp only at hj hs1 hs2
  by_cases hjt : j < xs.length
  ·have h1 := HP.out _ (List.getElem_mem hjt)
   have HR' : Hid (R = if 4096 / s < xs[j] then 2 else prodErr (xs.drop (j + 1)) (s * xs[j])) := by
    have := HR.out
    rwa [List.drop_eq_getElem_cons hjt, prodErr] at this
   clear HR
   have hge := one_le_mul hs1 h1
   by_cases hbig : xs[j] > 4096
   ·have hq : 4096 / s < xs[j] := by have := Int.ediv_le_self (a := 4096) s (by decide); omega
    have e : R = 2 := by rw [HR'.out, if_pos hq]
    subst e
    repeat' first | simp (disch := omega) only [go_sem, ↓reduceIte, Nat.reduceEqDiff, reduceCtorEq, Int.reduceEq, map_get hjt, wrap_i64] | ((with_reducible first | refine condD ?_ ?_ | refine condX ?_ ?_ | refine condW_intro ?_ ?_) <;> intro h <;> first | (exfalso; omega) | simp (disch := omega) only [go_sem, ↓reduceIte, Nat.reduceEqDiff, reduceCtorEq, Int.reduceEq, *, map_get hjt, wrap_i64] | skip)
   ·have hms := mul_small hs1 hs2 h1 (by omega)
    have hm : IntKind.wrap .i64 (s * xs[j]) = s * xs[j] := wrap_i64 (by omega)
    by_cases hq : 4096 / s < xs[j]
    ·have e : R = 2 := by rw [HR'.out, if_pos hq]
     have hlt2 := quo_lt hs1 hq
     subst e
     clear HR'
     repeat' first | simp (disch := omega) only [go_sem, ↓reduceIte, Nat.reduceEqDiff, reduceCtorEq, Int.reduceEq, map_get hjt, wrap_i64, hm] | ((with_reducible first | refine condD ?_ ?_ | refine condX ?_ ?_ | refine condW_intro ?_ ?_) <;> intro h <;> first | (exfalso; omega) | simp (disch := omega) only [go_sem, ↓reduceIte, Nat.reduceEqDiff, reduceCtorEq, Int.reduceEq, *, map_get hjt, wrap_i64, hm] | skip)
    ·have hle := quo_le hs1 hq
     have e : Hid (R = prodErr (xs.drop (j + 1)) (s * xs[j])) := by
      have := HR'.out
      rwa [if_neg hq] at this
     clear HR'
     repeat' first | simp (disch := omega) only [go_sem, ↓reduceIte, Nat.reduceEqDiff, reduceCtorEq, Int.reduceEq, map_get hjt, wrap_i64, hm] | ((with_reducible first | refine condD ?_ ?_ | refine condX ?_ ?_ | refine condW_intro ?_ ?_) <;> intro h <;> first | (exfalso; omega) | simp (disch := omega) only [go_sem, ↓reduceIte, Nat.reduceEqDiff, reduceCtorEq, Int.reduceEq, *, map_get hjt, wrap_i64, hm] | skip)
     exact ⟨(j + 1, s * xs[j]), [], ⟨hjt, hge, hle, e⟩, by show _ - _ < _ - _; omega, by simp [Wk, wkF, wkM, wkL, look_cons, renV, renA, renC, renB, rn, clV, clA, clAs, clB, notIn, findB, findB_setB, clA.go]⟩
  ·have hR := HR.out
   simp only at hR
   rw [List.drop_eq_nil_of_le (by omega), prodErr] at hR
   subst hR
   repeat' first | simp (disch := omega) only [go_sem, ↓reduceIte, Nat.reduceEqDiff, reduceCtorEq, Int.reduceEq] | ((with_reducible first | refine condD ?_ ?_ | refine condX ?_ ?_ | refine condW_intro ?_ ?_) <;> intro h <;> first | (exfalso; omega) | simp (disch := omega) only [go_sem, ↓reduceIte, Nat.reduceEqDiff, reduceCtorEq, Int.reduceEq, *] | skip)

/-! Members. -/
def idxF : List Int → Int → Nat → Int
 | [], _, _ => -1
 | y :: r, x, k => if x = y then k else idxF r x (k + 1)
theorem idxF_mem : ∀ (xs : List Int) (x : Int) (k : Nat), (0 ≤ idxF xs x k ↔ x ∈ xs)
 | [], x, k => by simp [idxF]
 |y :: r, x, k => by
  rw [idxF]
  by_cases e : x = y
  ·rw [if_pos e]; simp [e]
  ·rw [if_neg e, idxF_mem r x (k + 1)]; simp [e]
theorem slices_Index_abs (xs : List Int) (x : Int) : PCalls Try.prog n_slices_Index_api_Spec_int [aInts xs, I x] (I (idxF xs x 0)) := by
 refine PCalls.of is_slices_Index_api_Spec_int (by simp) fun hb => runW_sound ?_
 have hx : xs.length ≤ 9223372036854775807 := by simpa [bndVs, bndV, bndA] using hb.1
 obtain ⟨R, hR⟩ : ∃ R, R = idxF xs x 0 := ⟨_, rfl⟩
 rw [← hR]
 have HR := Lib.hid hR
 clear hR
 simp only [c_slices_Index_api_Spec_int]
 repeat' first | simp (disch := omega) only [go_sem, ↓reduceIte, Nat.reduceEqDiff, reduceCtorEq, Int.reduceEq] | ((with_reducible first | refine condD ?_ ?_ | refine condX ?_ ?_ | refine condW_intro ?_ ?_) <;> intro h <;> first | (exfalso; omega) | simp (disch := omega) only [go_sem, ↓reduceIte, Nat.reduceEqDiff, reduceCtorEq, Int.reduceEq, *] | skip)
 refine AW_loop (fun k : Nat => ⟨[(0, aInts xs), (1, I x), (7, I xs.length), (8, I k)], [], 0, 0⟩) (fun k => k ≤ xs.length ∧ Hid (R = idxF (xs.drop k) x k)) (fun k => xs.length - k) ⟨0, [], ⟨by omega, HR⟩, by simp [Wk, wkF, wkM, wkL, look_cons, renV, renA, renC, renB, rn, clV, clA, clAs, clB, notIn, findB, findB_setB, clA.go]⟩ ?_
 rintro k ⟨hk, HR⟩
 refine runW_sound ?_
 by_cases hlt : k < xs.length
 ·have HR' : Hid (R = if x = xs[k] then (k : Int) else idxF (xs.drop (k + 1)) x (k + 1)) := by
   have := HR.out
   rwa [List.drop_eq_getElem_cons hlt, idxF] at this
  clear HR
  by_cases e : x = xs[k]
  ·have h2 := HR'.out
   rw [if_pos e] at h2
   subst h2
   subst e
   repeat' first | simp (disch := omega) only [go_sem, ↓reduceIte, Nat.reduceEqDiff, reduceCtorEq, Int.reduceEq, map_get hlt, wrap_i64] | ((with_reducible first | refine condD ?_ ?_ | refine condX ?_ ?_ | refine condW_intro ?_ ?_) <;> intro h <;> first | (exfalso; omega) | simp (disch := omega) only [go_sem, ↓reduceIte, Nat.reduceEqDiff, reduceCtorEq, Int.reduceEq, *, map_get hlt, wrap_i64] | skip)
  ·have h2 : Hid (R = idxF (xs.drop (k + 1)) x (k + 1)) := by
    have := HR'.out
    rwa [if_neg e] at this
   repeat' first | simp (disch := omega) only [go_sem, ↓reduceIte, Nat.reduceEqDiff, reduceCtorEq, Int.reduceEq, map_get hlt, wrap_i64] | ((with_reducible first | refine condD ?_ ?_ | refine condX ?_ ?_ | refine condW_intro ?_ ?_) <;> intro h <;> first | (exfalso; omega) | simp (disch := omega) only [go_sem, ↓reduceIte, Nat.reduceEqDiff, reduceCtorEq, Int.reduceEq, *, map_get hlt, wrap_i64] | skip)
   exact ⟨k + 1, [], ⟨by omega, h2⟩, by omega, by simp [Wk, wkF, wkM, wkL, look_cons, renV, renA, renC, renB, rn, clV, clA, clAs, clB, notIn, findB, findB_setB, clA.go]⟩
 ·have h2 := HR.out
  rw [List.drop_eq_nil_of_le (by omega), idxF] at h2
  subst h2
  repeat' first | simp (disch := omega) only [go_sem, ↓reduceIte, Nat.reduceEqDiff, reduceCtorEq, Int.reduceEq] | ((with_reducible first | refine condD ?_ ?_ | refine condX ?_ ?_ | refine condW_intro ?_ ?_) <;> intro h <;> first | (exfalso; omega) | simp (disch := omega) only [go_sem, ↓reduceIte, Nat.reduceEqDiff, reduceCtorEq, Int.reduceEq, *] | skip)
theorem slices_Contains_abs (xs : List Int) (x : Int) : PCalls Try.prog n_slices_Contains_api_Spec_int [aInts xs, I x] (Go.Abs.B (decide (x ∈ xs))) := by
 refine PCalls.of is_slices_Contains_api_Spec_int (by simp) fun hb => runW_sound ?_
 have h := idxF_mem xs x 0
 have e : decide (idxF xs x 0 ≥ 0) = decide (x ∈ xs) := by rw [decide_eq_decide]; exact h
 simp only [c_slices_Contains_api_Spec_int]
 repeat' first | simp (disch := omega) only [go_sem, ↓reduceIte, Nat.reduceEqDiff, reduceCtorEq, Int.reduceEq] | ((with_reducible first | refine condD ?_ ?_ | refine condX ?_ ?_ | refine condW_intro ?_ ?_) <;> intro h <;> first | (exfalso; omega) | simp (disch := omega) only [go_sem, ↓reduceIte, Nat.reduceEqDiff, reduceCtorEq, Int.reduceEq, *] | skip) | (refine callW_of (slices_Index_abs _ _) rfl (.inl rfl) ?_)
 rw [e]
end Go.Proofs.Ytcnbccmmhcoanaa
