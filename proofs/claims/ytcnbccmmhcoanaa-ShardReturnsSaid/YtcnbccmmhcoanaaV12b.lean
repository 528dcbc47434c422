/- Walks by the abstract machine: tensors, their sizes and offsets. -/
import Derived.Test.YtcnbccmmhcoanaaV12a
import Derived.Test.YtcnbccmmhcoanaaV52g
set_option linter.unusedVariables false
set_option linter.unusedSimpArgs false
set_option maxRecDepth 20000
namespace Go.Proofs.Ytcnbccmmhcoanaa
open Go.Abs Go.RowKit

theorem shape_Size_abs (xs : List Int) : PCalls Try.prog n_shape_Size [aInts xs] (I (size xs)) := by
 refine PCalls.of is_shape_Size (by simp) fun hb => runW_sound ?_
 have p1 := shape_Validate_abs xs
 simp only [c_shape_Size]
 rw [size]
 by_cases h : vld xs = 0
 ·rw [h] at p1
  rw [if_pos h]
  have hg := good_of_vld h
  have h6 := hg.len
  clear h
  repeat' first | simp (disch := omega) only [go_sem, ↓reduceIte, Nat.reduceEqDiff, reduceCtorEq, Int.reduceEq] | ((with_reducible first | refine condD ?_ ?_ | refine condX ?_ ?_ | refine condW_intro ?_ ?_) <;> intro h <;> first | (exfalso; omega) | simp (disch := omega) only [go_sem, ↓reduceIte, Nat.reduceEqDiff, reduceCtorEq, Int.reduceEq, *] | skip) | (refine callW_of p1 rfl (.inl rfl) ?_)
  refine AW_loop (fun k : Nat => ⟨[(3, I (prod (xs.take k))), (9, aInts xs), (10, I xs.length), (11, I k)], [], 0, 0⟩) (fun k => k ≤ xs.length) (fun k => xs.length - k) ⟨0, [], Nat.zero_le _, by simp [Wk, wkF, wkM, wkL, look_cons, renV, renA, renC, renB, rn, clV, clA, clAs, clB, notIn, findB, findB_setB, clA.go, prod]⟩ ?_
  rintro k hk
  refine runW_sound ?_
  by_cases hlt : k < xs.length
  ·have h1 := hg.take_le (k + 1)
   rw [prod_succ hlt] at h1
   have hw : IntKind.wrap .i64 (prod (xs.take k) * xs[k]) = prod (xs.take k) * xs[k] := wrap_i64 (by omega)
   clear h1
   repeat' first | simp (disch := omega) only [go_sem, ↓reduceIte, Nat.reduceEqDiff, reduceCtorEq, Int.reduceEq, map_get hlt, wrap_i64, hw] | ((with_reducible first | refine condD ?_ ?_ | refine condX ?_ ?_ | refine condW_intro ?_ ?_) <;> intro h <;> first | (exfalso; omega) | simp (disch := omega) only [go_sem, ↓reduceIte, Nat.reduceEqDiff, reduceCtorEq, Int.reduceEq, *, map_get hlt, wrap_i64, hw] | skip)
   exact ⟨k + 1, [], hlt, by omega, by simp [Wk, wkF, wkM, wkL, look_cons, renV, renA, renC, renB, rn, clV, clA, clAs, clB, notIn, findB, findB_setB, clA.go, prod_succ hlt]⟩
  ·have e : xs.take k = xs := List.take_of_length_le (by omega)
   rw [e]
   repeat' first | simp (disch := omega) only [go_sem, ↓reduceIte, Nat.reduceEqDiff, reduceCtorEq, Int.reduceEq] | ((with_reducible first | refine condD ?_ ?_ | refine condX ?_ ?_ | refine condW_intro ?_ ?_) <;> intro h <;> first | (exfalso; omega) | simp (disch := omega) only [go_sem, ↓reduceIte, Nat.reduceEqDiff, reduceCtorEq, Int.reduceEq, *] | skip)
 ·rw [if_neg h]
  repeat' first | simp (disch := omega) only [go_sem, ↓reduceIte, Nat.reduceEqDiff, reduceCtorEq, Int.reduceEq, h] | ((with_reducible first | refine condD ?_ ?_ | refine condX ?_ ?_ | refine condW_intro ?_ ?_) <;> intro h <;> first | (exfalso; omega) | simp (disch := omega) only [go_sem, ↓reduceIte, Nat.reduceEqDiff, reduceCtorEq, Int.reduceEq, *, h] | skip) | (refine callW_of p1 rfl (.inl rfl) ?_)
theorem ref11_Size_abs (xs : List Int) : PCalls Try.prog n_ref11_Size [aInts xs] (I (size xs)) := by
 refine PCalls.of is_ref11_Size (by simp) fun hb => runW_sound ?_
 have p1 := ref11_Validate_abs xs
 simp only [c_ref11_Size]
 rw [size]
 by_cases h : vld xs = 0
 ·rw [h] at p1
  rw [if_pos h]
  have hg := good_of_vld h
  have h6 := hg.len
  clear h
  repeat' first | simp (disch := omega) only [go_sem, ↓reduceIte, Nat.reduceEqDiff, reduceCtorEq, Int.reduceEq] | ((with_reducible first | refine condD ?_ ?_ | refine condX ?_ ?_ | refine condW_intro ?_ ?_) <;> intro h <;> first | (exfalso; omega) | simp (disch := omega) only [go_sem, ↓reduceIte, Nat.reduceEqDiff, reduceCtorEq, Int.reduceEq, *] | skip) | (refine callW_of p1 rfl (.inl rfl) ?_)
  refine AW_loop (fun k : Nat => ⟨[(0, aInts xs), (3, I (prod (xs.take k))), (4, I k)], [], 0, 0⟩) (fun k => k ≤ xs.length) (fun k => xs.length - k) ⟨0, [], Nat.zero_le _, by simp [Wk, wkF, wkM, wkL, look_cons, renV, renA, renC, renB, rn, clV, clA, clAs, clB, notIn, findB, findB_setB, clA.go, prod]⟩ ?_
  rintro k hk
  refine runW_sound ?_
  by_cases hlt : k < xs.length
  ·have h1 := hg.take_le (k + 1)
   rw [prod_succ hlt] at h1
   have hw : IntKind.wrap .i64 (prod (xs.take k) * xs[k]) = prod (xs.take k) * xs[k] := wrap_i64 (by omega)
   clear h1
   repeat' first | simp (disch := omega) only [go_sem, ↓reduceIte, Nat.reduceEqDiff, reduceCtorEq, Int.reduceEq, map_get hlt, wrap_i64, hw] | ((with_reducible first | refine condD ?_ ?_ | refine condX ?_ ?_ | refine condW_intro ?_ ?_) <;> intro h <;> first | (exfalso; omega) | simp (disch := omega) only [go_sem, ↓reduceIte, Nat.reduceEqDiff, reduceCtorEq, Int.reduceEq, *, map_get hlt, wrap_i64, hw] | skip)
   exact ⟨k + 1, [], hlt, by omega, by simp [Wk, wkF, wkM, wkL, look_cons, renV, renA, renC, renB, rn, clV, clA, clAs, clB, notIn, findB, findB_setB, clA.go, prod_succ hlt]⟩
  ·have e : xs.take k = xs := List.take_of_length_le (by omega)
   rw [e]
   repeat' first | simp (disch := omega) only [go_sem, ↓reduceIte, Nat.reduceEqDiff, reduceCtorEq, Int.reduceEq] | ((with_reducible first | refine condD ?_ ?_ | refine condX ?_ ?_ | refine condW_intro ?_ ?_) <;> intro h <;> first | (exfalso; omega) | simp (disch := omega) only [go_sem, ↓reduceIte, Nat.reduceEqDiff, reduceCtorEq, Int.reduceEq, *] | skip)
 ·rw [if_neg h]
  repeat' first | simp (disch := omega) only [go_sem, ↓reduceIte, Nat.reduceEqDiff, reduceCtorEq, Int.reduceEq, h] | ((with_reducible first | refine condD ?_ ?_ | refine condX ?_ ?_ | refine condW_intro ?_ ?_) <;> intro h <;> first | (exfalso; omega) | simp (disch := omega) only [go_sem, ↓reduceIte, Nat.reduceEqDiff, reduceCtorEq, Int.reduceEq, *, h] | skip) | (refine callW_of p1 rfl (.inl rfl) ?_)
theorem ref12_Size_abs {xs : List Int} (h : vld xs = 0) : PCalls Try.prog n_ref12_Size [aInts xs] (I (prod xs)) := by
 refine PCalls.of is_ref12_Size (by simp) fun hb => runW_sound ?_
 simp only [c_ref12_Size]
 have hg := good_of_vld h
 have h6 := hg.len
 clear h
 repeat' first | simp (disch := omega) only [go_sem, ↓reduceIte, Nat.reduceEqDiff, reduceCtorEq, Int.reduceEq] | ((with_reducible first | refine condD ?_ ?_ | refine condX ?_ ?_ | refine condW_intro ?_ ?_) <;> intro h <;> first | (exfalso; omega) | simp (disch := omega) only [go_sem, ↓reduceIte, Nat.reduceEqDiff, reduceCtorEq, Int.reduceEq, *] | skip)
 refine AW_loop (fun k : Nat => ⟨[(0, aInts xs), (3, I (prod (xs.take k))), (4, I k)], [], 0, 0⟩) (fun k => k ≤ xs.length) (fun k => xs.length - k) ⟨0, [], Nat.zero_le _, by simp [Wk, wkF, wkM, wkL, look_cons, renV, renA, renC, renB, rn, clV, clA, clAs, clB, notIn, findB, findB_setB, clA.go, prod]⟩ ?_
 rintro k hk
 refine runW_sound ?_
 by_cases hlt : k < xs.length
 ·have h1 := hg.take_le (k + 1)
  rw [prod_succ hlt] at h1
  have hw : IntKind.wrap .i64 (prod (xs.take k) * xs[k]) = prod (xs.take k) * xs[k] := wrap_i64 (by omega)
  clear h1
  repeat' first | simp (disch := omega) only [go_sem, ↓reduceIte, Nat.reduceEqDiff, reduceCtorEq, Int.reduceEq, map_get hlt, wrap_i64, hw] | ((with_reducible first | refine condD ?_ ?_ | refine condX ?_ ?_ | refine condW_intro ?_ ?_) <;> intro h <;> first | (exfalso; omega) | simp (disch := omega) only [go_sem, ↓reduceIte, Nat.reduceEqDiff, reduceCtorEq, Int.reduceEq, *, map_get hlt, wrap_i64, hw] | skip)
  exact ⟨k + 1, [], hlt, by omega, by simp [Wk, wkF, wkM, wkL, look_cons, renV, renA, renC, renB, rn, clV, clA, clAs, clB, notIn, findB, findB_setB, clA.go, prod_succ hlt]⟩
 ·have e : xs.take k = xs := List.take_of_length_le (by omega)
  rw [e]
  repeat' first | simp (disch := omega) only [go_sem, ↓reduceIte, Nat.reduceEqDiff, reduceCtorEq, Int.reduceEq] | ((with_reducible first | refine condD ?_ ?_ | refine condX ?_ ?_ | refine condW_intro ?_ ?_) <;> intro h <;> first | (exfalso; omega) | simp (disch := omega) only [go_sem, ↓reduceIte, Nat.reduceEqDiff, reduceCtorEq, Int.reduceEq, *] | skip)
theorem ref12_Shape_abs (xs : List Int) : PCalls Try.prog n_ref12_Shape [aInts xs] (I (vld xs)) := by
 refine PCalls.of is_ref12_Shape (by simp) fun hb => runW_sound ?_
 have hx : xs.length ≤ 9223372036854775807 := by simpa [bndVs, bndV, bndA] using hb.1
 simp only [c_ref12_Shape]
 repeat' first | simp (disch := omega) only [go_sem, ↓reduceIte, Nat.reduceEqDiff, reduceCtorEq, Int.reduceEq] | ((with_reducible first | refine condD ?_ ?_ | refine condX ?_ ?_ | refine condW_intro ?_ ?_) <;> intro h <;> first | (exfalso; omega) | simp (disch := omega) only [go_sem, ↓reduceIte, Nat.reduceEqDiff, reduceCtorEq, Int.reduceEq, *] | skip)
 ·rw [vld_big (by omega)]
 refine AW_loop (fun k : Nat => ⟨[(0, aInts xs), (3, I k)], [], 0, 0⟩) (fun k => k ≤ xs.length ∧ upTo (fun i => ∀ h : i < xs.length, 1 ≤ xs[i]) k) (fun k => xs.length - k) ⟨0, [], ⟨by omega, .zero⟩, by simp [Wk, wkF, wkM, wkL, look_cons, renV, renA, renC, renB, rn, clV, clA, clAs, clB, notIn, findB, findB_setB, clA.go]⟩ ?_
 rintro k ⟨hk, hall⟩
 refine runW_sound ?_
 by_cases hlt : k < xs.length
 ·have hget : xs[k]?.getD 0 = xs[k] := by simp [hlt]
  repeat' first | simp (disch := omega) only [go_sem, ↓reduceIte, Nat.reduceEqDiff, reduceCtorEq, Int.reduceEq, map_get hlt, wrap_i64] | ((with_reducible first | refine condD ?_ ?_ | refine condX ?_ ?_ | refine condW_intro ?_ ?_) <;> intro h <;> first | (exfalso; omega) | simp (disch := omega) only [go_sem, ↓reduceIte, Nat.reduceEqDiff, reduceCtorEq, Int.reduceEq, *, map_get hlt, wrap_i64] | skip)
  ·rw [vld_low (by omega) hlt (by omega)]
  ·exact ⟨k + 1, [], ⟨by omega, hall.succ fun _ => by omega⟩, by omega, by simp [Wk, wkF, wkM, wkL, look_cons, renV, renA, renC, renB, rn, clV, clA, clAs, clB, notIn, findB, findB_setB, clA.go]⟩
 ·have hpos : ∀ x ∈ xs, 1 ≤ x := by
   intro x hm
   obtain ⟨i, hi, rfl⟩ := List.mem_iff_getElem.1 hm
   exact hall i (by omega) hi
  have hv := vld_high (xs := xs) (by omega) hpos
  have HP := Lib.hid hpos
  rw [hv]
  obtain ⟨R, hR⟩ : ∃ R, R = prodErr xs 1 := ⟨_, rfl⟩
  rw [← hR]
  have HR := Lib.hid hR
  clear hv hpos hR hall
  repeat' first | simp (disch := omega) only [go_sem, ↓reduceIte, Nat.reduceEqDiff, reduceCtorEq, Int.reduceEq] | ((with_reducible first | refine condD ?_ ?_ | refine condX ?_ ?_ | refine condW_intro ?_ ?_) <;> intro h <;> first | (exfalso; omega) | simp (disch := omega) only [go_sem, ↓reduceIte, Nat.reduceEqDiff, reduceCtorEq, Int.reduceEq, *] | skip)
  refine AW_loop (fun s : Nat × Int => ⟨[(0, aInts xs), (4, I s.2), (5, I s.1)], [], 0, 0⟩) (fun s => s.1 ≤ xs.length ∧ 1 ≤ s.2 ∧ s.2 ≤ 4096 ∧ Hid (R = prodErr (xs.drop s.1) s.2)) (fun s => xs.length - s.1) ⟨(0, 1), [], ⟨by show 0 ≤ _; omega, by show (1 : Int) ≤ 1; decide, by show (1 : Int) ≤ 4096; decide, HR⟩, by simp [Wk, wkF, wkM, wkL, look_cons, renV, renA, renC, renB, rn, clV, clA, clAs, clB, notIn, findB, findB_setB, clA.go]⟩ ?_
  rintro ⟨j, s⟩ ⟨hj, hs1, hs2, HR⟩
  refine runW_sound ?_
  simp only at hj hs1 hs2
  by_cases hjt : j < xs.length
  ·have h1 := HP.out _ (List.getElem_mem hjt)
   have HR' : Hid (R = if 4096 / s < xs[j] then 2 else prodErr (xs.drop (j + 1)) (s * xs[j])) := by
    have := HR.out
    rwa [List.drop_eq_getElem_cons hjt, prodErr] at this
   clear HR
   have eq : Int.tdiv 4096 s = 4096 / s := Int.tdiv_eq_ediv_of_nonneg (by decide)
   have hq0 : 0 ≤ 4096 / s := Int.ediv_nonneg (by decide) (by omega)
   have hq1 : 4096 / s ≤ 4096 := Int.ediv_le_self _ (by decide)
   have hne : s ≠ 0 := by omega
   by_cases hq : 4096 / s < xs[j]
   ·have e : R = 2 := by rw [HR'.out, if_pos hq]
    subst e
    repeat' first | simp (disch := omega) only [go_sem, ↓reduceIte, Nat.reduceEqDiff, reduceCtorEq, Int.reduceEq, map_get hjt, wrap_i64, eq, hne, ne_eq] | ((with_reducible first | refine condD ?_ ?_ | refine condX ?_ ?_ | refine condW_intro ?_ ?_) <;> intro h <;> first | (exfalso; omega) | simp (disch := omega) only [go_sem, ↓reduceIte, Nat.reduceEqDiff, reduceCtorEq, Int.reduceEq, *, map_get hjt, wrap_i64, eq, hne, ne_eq] | skip)
   ·have hle := quo_le hs1 hq
    have hge := one_le_mul hs1 h1
    have e : Hid (R = prodErr (xs.drop (j + 1)) (s * xs[j])) := by
     have := HR'.out
     rwa [if_neg hq] at this
    have hm : IntKind.wrap .i64 (s * xs[j]) = s * xs[j] := wrap_i64 (by omega)
    clear HR'
    repeat' first | simp (disch := omega) only [go_sem, ↓reduceIte, Nat.reduceEqDiff, reduceCtorEq, Int.reduceEq, map_get hjt, wrap_i64, eq, hne, ne_eq, hm] | ((with_reducible first | refine condD ?_ ?_ | refine condX ?_ ?_ | refine condW_intro ?_ ?_) <;> intro h <;> first | (exfalso; omega) | simp (disch := omega) only [go_sem, ↓reduceIte, Nat.reduceEqDiff, reduceCtorEq, Int.reduceEq, *, map_get hjt, wrap_i64, eq, hne, ne_eq, hm] | skip)
    exact ⟨(j + 1, s * xs[j]), [], ⟨hjt, hge, hle, e⟩, by show _ - _ < _ - _; omega, by simp [Wk, wkF, wkM, wkL, look_cons, renV, renA, renC, renB, rn, clV, clA, clAs, clB, notIn, findB, findB_setB, clA.go]⟩
  ·have hR := HR.out
   simp only at hR
   rw [List.drop_eq_nil_of_le (by omega), prodErr] at hR
   subst hR
   repeat' first | simp (disch := omega) only [go_sem, ↓reduceIte, Nat.reduceEqDiff, reduceCtorEq, Int.reduceEq] | ((with_reducible first | refine condD ?_ ?_ | refine condX ?_ ?_ | refine condW_intro ?_ ?_) <;> intro h <;> first | (exfalso; omega) | simp (disch := omega) only [go_sem, ↓reduceIte, Nat.reduceEqDiff, reduceCtorEq, Int.reduceEq, *] | skip)

/-! Tensors. -/
abbrev Tn := Ty × List Int × List Fr
abbrev frP (a : Fr) : List PC := [pI a.1, pI a.2]
abbrev aTn (x : Tn) : AV := .agg [.pure (pI x.1.1), .pure (pI x.1.2.1), .pure (pI x.1.2.2.1), .pure (pI x.1.2.2.2.1), .pure (pI x.1.2.2.2.2), .pure (pInts x.2.1), .pure (pSl frP x.2.2)]
def elOk (t : Ty) (l : List Fr) (i : Nat) : Prop := ∀ h : i < l.length, valOk t l[i]
noncomputable def tnErr (x : Tn) : Int :=
 if ¬ tyOk x.1 then 10 else if vld x.2.1 ≠ 0 then vld x.2.1 else if (x.2.2.length : Int) ≠ prod x.2.1 then 1 else @ite _ (upTo (elOk x.1 x.2.2) x.2.2.length) (Classical.propDecidable _) 0 1
theorem tnErr_ok {x : Tn} (h : tnErr x = 0) : tyOk x.1 ∧ vld x.2.1 = 0 ∧ (x.2.2.length : Int) = prod x.2.1 ∧ ∀ a ∈ x.2.2, valOk x.1 a := by
 unfold tnErr at h
 split at h
 ·cases h
 ·split at h
  ·rename_i h1 h2; exact absurd h h2
  ·split at h
   ·cases h
   ·split at h
    ·rename_i h1 h2 h3 h4
     refine ⟨Decidable.not_not.1 h1, Decidable.not_not.1 h2, Decidable.not_not.1 h3, fun a ha => ?_⟩
     obtain ⟨i, hi, rfl⟩ := List.mem_iff_getElem.1 ha
     exact h4 i hi hi
    ·cases h
theorem tensor_Validate_abs {x : Tn} (hv : ∀ a ∈ x.2.2, frIn a) : PCalls Try.prog n_tensor_Validate [aTn x] (I (tnErr x)) := by
 refine PCalls.of is_tensor_Validate (by simp) fun hb => runW_sound ?_
 obtain ⟨t, ds, l⟩ := x
 have hx : l.length ≤ 9223372036854775807 := by
  have := hb.1
  simp only [bndV, bndAs, bndA, List.length_map] at this
  omega
 clear hb
 have p1 := value_ValidateType_ty t
 have p2 := shape_Validate_abs ds
 have p3 := shape_Size_abs ds
 simp only [c_tensor_Validate, tnErr]
 by_cases h1 : tyOk t
 ·rw [if_pos h1] at p1
  rw [if_neg (not_not_intro h1)]
  by_cases h2 : vld ds = 0
  ·rw [size, if_pos h2] at p3
   rw [if_neg (not_not_intro h2)]
   rw [h2] at p2
   by_cases h3 : (l.length : Int) = prod ds
   ·rw [if_neg (not_not_intro h3)]
    have H1 := Lib.hid h1
    have h3' := h3.symm
    clear h1 h2 h3
    repeat' first | simp (disch := omega) only [go_sem, ↓reduceIte, Nat.reduceEqDiff, reduceCtorEq, Int.reduceEq, h3'] | ((with_reducible first | refine condD ?_ ?_ | refine condX ?_ ?_ | refine condW_intro ?_ ?_) <;> intro h <;> first | (exfalso; omega) | simp (disch := omega) only [go_sem, ↓reduceIte, Nat.reduceEqDiff, reduceCtorEq, Int.reduceEq, *, h3'] | skip) | (refine callW_of p1 rfl (.inl rfl) ?_) | (refine callW_of p2 rfl (.inl rfl) ?_) | (refine callW_of p3 rfl (.inl rfl) ?_)
    clear p1 p2 p3 h3'
    refine AW_loop (fun k : Nat => ⟨[(1, .c (.ptr 0 0)), (27, aSl frP l), (28, I l.length), (29, I k)], [(0, .var [.pure (pI t.1), .pure (pI t.2.1), .pure (pI t.2.2.1), .pure (pI t.2.2.2.1), .pure (pI t.2.2.2.2), .pure (pInts ds), .pure (pSl frP l)])], 1, 0⟩) (fun k => k ≤ l.length ∧ upTo (elOk t l) k) (fun k => l.length - k) ⟨0, [], ⟨Nat.zero_le _, .zero⟩, by simp [Wk, wkF, wkM, wkL, look_cons, renV, renA, renC, renB, rn, clV, clA, clAs, clB, notIn, findB, findB_setB, clA.go]⟩ ?_
    rintro k ⟨hk, hall⟩
    refine runW_sound ?_
    by_cases hlt : k < l.length
    ·have p4 := value_Valid_ty H1.out (hv _ (List.getElem_mem hlt))
     by_cases h : valOk t l[k]
     ·rw [decide_eq_true h] at p4
      have h' := Lib.hid h
      clear h
      repeat' first | simp (disch := omega) only [go_sem, ↓reduceIte, Nat.reduceEqDiff, reduceCtorEq, Int.reduceEq, map_get hlt, wrap_i64] | ((with_reducible first | refine condD ?_ ?_ | refine condX ?_ ?_ | refine condW_intro ?_ ?_) <;> intro h <;> first | (exfalso; omega) | simp (disch := omega) only [go_sem, ↓reduceIte, Nat.reduceEqDiff, reduceCtorEq, Int.reduceEq, *, map_get hlt, wrap_i64] | skip) | (refine callW_of p4 rfl (.inl rfl) ?_)
      exact ⟨k + 1, [], ⟨hlt, hall.succ fun _ => h'.out⟩, by omega, by simp [Wk, wkF, wkM, wkL, look_cons, renV, renA, renC, renB, rn, clV, clA, clAs, clB, notIn, findB, findB_setB, clA.go]⟩
     ·rw [decide_eq_false h] at p4
      rw [if_neg fun hc => h (hc k hlt hlt)]
      repeat' first | simp (disch := omega) only [go_sem, ↓reduceIte, Nat.reduceEqDiff, reduceCtorEq, Int.reduceEq, map_get hlt, wrap_i64] | ((with_reducible first | refine condD ?_ ?_ | refine condX ?_ ?_ | refine condW_intro ?_ ?_) <;> intro h <;> first | (exfalso; omega) | simp (disch := omega) only [go_sem, ↓reduceIte, Nat.reduceEqDiff, reduceCtorEq, Int.reduceEq, *, map_get hlt, wrap_i64] | skip) | (refine callW_of p4 rfl (.inl rfl) ?_)
    ·have e : k = l.length := by omega
     rw [e] at hall
     rw [if_pos hall]
     repeat' first | simp (disch := omega) only [go_sem, ↓reduceIte, Nat.reduceEqDiff, reduceCtorEq, Int.reduceEq] | ((with_reducible first | refine condD ?_ ?_ | refine condX ?_ ?_ | refine condW_intro ?_ ?_) <;> intro h <;> first | (exfalso; omega) | simp (disch := omega) only [go_sem, ↓reduceIte, Nat.reduceEqDiff, reduceCtorEq, Int.reduceEq, *] | skip)
   ·rw [if_pos h3]
    have h3' : ¬ prod ds = (l.length : Int) := fun e => h3 e.symm
    repeat' first | simp (disch := omega) only [go_sem, ↓reduceIte, Nat.reduceEqDiff, reduceCtorEq, Int.reduceEq, h3, h3'] | ((with_reducible first | refine condD ?_ ?_ | refine condX ?_ ?_ | refine condW_intro ?_ ?_) <;> intro h <;> first | (exfalso; omega) | simp (disch := omega) only [go_sem, ↓reduceIte, Nat.reduceEqDiff, reduceCtorEq, Int.reduceEq, *, h3, h3'] | skip) | (refine callW_of p1 rfl (.inl rfl) ?_) | (refine callW_of p2 rfl (.inl rfl) ?_) | (refine callW_of p3 rfl (.inl rfl) ?_)
  ·rw [if_pos h2]
   repeat' first | simp (disch := omega) only [go_sem, ↓reduceIte, Nat.reduceEqDiff, reduceCtorEq, Int.reduceEq, h2] | ((with_reducible first | refine condD ?_ ?_ | refine condX ?_ ?_ | refine condW_intro ?_ ?_) <;> intro h <;> first | (exfalso; omega) | simp (disch := omega) only [go_sem, ↓reduceIte, Nat.reduceEqDiff, reduceCtorEq, Int.reduceEq, *, h2] | skip) | (refine callW_of p1 rfl (.inl rfl) ?_) | (refine callW_of p2 rfl (.inl rfl) ?_)
 ·rw [if_neg h1] at p1
  rw [if_pos h1]
  repeat' first | simp (disch := omega) only [go_sem, ↓reduceIte, Nat.reduceEqDiff, reduceCtorEq, Int.reduceEq] | ((with_reducible first | refine condD ?_ ?_ | refine condX ?_ ?_ | refine condW_intro ?_ ?_) <;> intro h <;> first | (exfalso; omega) | simp (disch := omega) only [go_sem, ↓reduceIte, Nat.reduceEqDiff, reduceCtorEq, Int.reduceEq, *] | skip) | (refine callW_of p1 rfl (.inl rfl) ?_)
theorem ref12_Validate_abs {x : Tn} (hv : ∀ a ∈ x.2.2, frIn a) : PCalls Try.prog n_ref12_Validate [aTn x] (I (tnErr x)) := by
 refine PCalls.of is_ref12_Validate (by simp) fun hb => runW_sound ?_
 obtain ⟨t, ds, l⟩ := x
 have hx : l.length ≤ 9223372036854775807 := by
  have := hb.1
  simp only [bndV, bndAs, bndA, List.length_map] at this
  omega
 clear hb
 have p1 := base_Type_ty t
 have p2 := ref12_Shape_abs ds
 simp only [c_ref12_Validate, tnErr]
 by_cases h1 : tyOk t
 ·rw [decide_eq_true h1] at p1
  rw [if_neg (not_not_intro h1)]
  by_cases h2 : vld ds = 0
  ·have p3 := ref12_Size_abs h2
   rw [if_neg (not_not_intro h2)]
   rw [h2] at p2
   by_cases h3 : (l.length : Int) = prod ds
   ·rw [if_neg (not_not_intro h3)]
    have H1 := Lib.hid h1
    have h3' := h3.symm
    clear h1 h2 h3
    repeat' first | simp (disch := omega) only [go_sem, ↓reduceIte, Nat.reduceEqDiff, reduceCtorEq, Int.reduceEq, h3'] | ((with_reducible first | refine condD ?_ ?_ | refine condX ?_ ?_ | refine condW_intro ?_ ?_) <;> intro h <;> first | (exfalso; omega) | simp (disch := omega) only [go_sem, ↓reduceIte, Nat.reduceEqDiff, reduceCtorEq, Int.reduceEq, *, h3'] | skip) | (refine callW_of p1 rfl (.inl rfl) ?_) | (refine callW_of p2 rfl (.inl rfl) ?_) | (refine callW_of p3 rfl (.inl rfl) ?_)
    clear p1 p2 p3 h3'
    refine AW_loop (fun k : Nat => ⟨[(1, .c (.ptr 0 0)), (4, I k)], [(0, .var [.pure (pI t.1), .pure (pI t.2.1), .pure (pI t.2.2.1), .pure (pI t.2.2.2.1), .pure (pI t.2.2.2.2), .pure (pInts ds), .pure (pSl frP l)])], 1, 0⟩) (fun k => k ≤ l.length ∧ upTo (elOk t l) k) (fun k => l.length - k) ⟨0, [], ⟨Nat.zero_le _, .zero⟩, by simp [Wk, wkF, wkM, wkL, look_cons, renV, renA, renC, renB, rn, clV, clA, clAs, clB, notIn, findB, findB_setB, clA.go]⟩ ?_
    rintro k ⟨hk, hall⟩
    refine runW_sound ?_
    by_cases hlt : k < l.length
    ·have p4 := base_Val_ty H1.out (hv _ (List.getElem_mem hlt))
     by_cases h : valOk t l[k]
     ·rw [decide_eq_true h] at p4
      have h' := Lib.hid h
      clear h
      repeat' first | simp (disch := omega) only [go_sem, ↓reduceIte, Nat.reduceEqDiff, reduceCtorEq, Int.reduceEq, map_get hlt, wrap_i64] | ((with_reducible first | refine condD ?_ ?_ | refine condX ?_ ?_ | refine condW_intro ?_ ?_) <;> intro h <;> first | (exfalso; omega) | simp (disch := omega) only [go_sem, ↓reduceIte, Nat.reduceEqDiff, reduceCtorEq, Int.reduceEq, *, map_get hlt, wrap_i64] | skip) | (refine callW_of p4 rfl (.inl rfl) ?_)
      exact ⟨k + 1, [], ⟨hlt, hall.succ fun _ => h'.out⟩, by omega, by simp [Wk, wkF, wkM, wkL, look_cons, renV, renA, renC, renB, rn, clV, clA, clAs, clB, notIn, findB, findB_setB, clA.go]⟩
     ·rw [decide_eq_false h] at p4
      rw [if_neg fun hc => h (hc k hlt hlt)]
      repeat' first | simp (disch := omega) only [go_sem, ↓reduceIte, Nat.reduceEqDiff, reduceCtorEq, Int.reduceEq, map_get hlt, wrap_i64] | ((with_reducible first | refine condD ?_ ?_ | refine condX ?_ ?_ | refine condW_intro ?_ ?_) <;> intro h <;> first | (exfalso; omega) | simp (disch := omega) only [go_sem, ↓reduceIte, Nat.reduceEqDiff, reduceCtorEq, Int.reduceEq, *, map_get hlt, wrap_i64] | skip) | (refine callW_of p4 rfl (.inl rfl) ?_)
    ·have e : k = l.length := by omega
     rw [e] at hall
     rw [if_pos hall]
     repeat' first | simp (disch := omega) only [go_sem, ↓reduceIte, Nat.reduceEqDiff, reduceCtorEq, Int.reduceEq] | ((with_reducible first | refine condD ?_ ?_ | refine condX ?_ ?_ | refine condW_intro ?_ ?_) <;> intro h <;> first | (exfalso; omega) | simp (disch := omega) only [go_sem, ↓reduceIte, Nat.reduceEqDiff, reduceCtorEq, Int.reduceEq, *] | skip)
   ·rw [if_pos h3]
    have h3' : ¬ prod ds = (l.length : Int) := fun e => h3 e.symm
    repeat' first | simp (disch := omega) only [go_sem, ↓reduceIte, Nat.reduceEqDiff, reduceCtorEq, Int.reduceEq, h3, h3'] | ((with_reducible first | refine condD ?_ ?_ | refine condX ?_ ?_ | refine condW_intro ?_ ?_) <;> intro h <;> first | (exfalso; omega) | simp (disch := omega) only [go_sem, ↓reduceIte, Nat.reduceEqDiff, reduceCtorEq, Int.reduceEq, *, h3, h3'] | skip) | (refine callW_of p1 rfl (.inl rfl) ?_) | (refine callW_of p2 rfl (.inl rfl) ?_) | (refine callW_of p3 rfl (.inl rfl) ?_)
  ·rw [if_pos h2]
   repeat' first | simp (disch := omega) only [go_sem, ↓reduceIte, Nat.reduceEqDiff, reduceCtorEq, Int.reduceEq, h2] | ((with_reducible first | refine condD ?_ ?_ | refine condX ?_ ?_ | refine condW_intro ?_ ?_) <;> intro h <;> first | (exfalso; omega) | simp (disch := omega) only [go_sem, ↓reduceIte, Nat.reduceEqDiff, reduceCtorEq, Int.reduceEq, *, h2] | skip) | (refine callW_of p1 rfl (.inl rfl) ?_) | (refine callW_of p2 rfl (.inl rfl) ?_)
 ·rw [decide_eq_false h1] at p1
  rw [if_pos h1]
  repeat' first | simp (disch := omega) only [go_sem, ↓reduceIte, Nat.reduceEqDiff, reduceCtorEq, Int.reduceEq] | ((with_reducible first | refine condD ?_ ?_ | refine condX ?_ ?_ | refine condW_intro ?_ ?_) <;> intro h <;> first | (exfalso; omega) | simp (disch := omega) only [go_sem, ↓reduceIte, Nat.reduceEqDiff, reduceCtorEq, Int.reduceEq, *] | skip) | (refine callW_of p1 rfl (.inl rfl) ?_)
end Go.Proofs.Ytcnbccmmhcoanaa
