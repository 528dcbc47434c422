/- Walks by the abstract machine: the checks ahead of Gather. -/
import Derived.Test.YtcnbccmmhcoanaaPlain52g
import Derived.Test.YtcnbccmmhcoanaaV52s
set_option linter.unusedVariables false
set_option linter.unusedSimpArgs false
set_option maxRecDepth 20000
namespace Go.Proofs.Ytcnbccmmhcoanaa
open Go.Abs Go.RowKit

theorem slices_Equal_ints (a b : List Int) : PCalls Try.prog n_slices_Equal_int_int [aInts a, aInts b] (Go.Abs.B (decide (a = b))) := by
 refine PCalls.of is_slices_Equal_int_int (by simp) fun hb => runW_sound ?_
 have hx : a.length ≤ 9223372036854775807 := by simpa [bndVs, bndV, bndA] using hb.1
 simp only [c_slices_Equal_int_int]
 by_cases hl : a.length = b.length
 ·have HL := Lib.hid hl
  have hl' : (a.length : Int) = b.length := by omega
  clear hl
  repeat' first | simp (disch := omega) only [go_sem, ↓reduceIte, Nat.reduceEqDiff, reduceCtorEq, Int.reduceEq, hl'] | ((with_reducible first | refine condD ?_ ?_ | refine condX ?_ ?_ | refine condW_intro ?_ ?_) <;> intro h <;> first | (exfalso; omega) | simp (disch := omega) only [go_sem, ↓reduceIte, Nat.reduceEqDiff, reduceCtorEq, Int.reduceEq, *, hl'] | skip)
  refine AW_loop (fun k : Nat => ⟨[(0, aInts a), (1, aInts b), (12, I b.length), (13, I k)], [], 0, 0⟩) (fun k => k ≤ b.length ∧ Hid (a.take k = b.take k)) (fun k => b.length - k) ⟨0, [], ⟨Nat.zero_le _, rfl⟩, by simp [Wk, wkF, wkM, wkL, look_cons, renV, renA, renC, renB, rn, clV, clA, clAs, clB, notIn, findB, findB_setB, clA.go]⟩ ?_
  rintro k ⟨hk, hall⟩
  refine runW_sound ?_
  clear hl'
  by_cases hlt : k < b.length
  ·have hlta : k < a.length := by have := HL.out; omega
   by_cases e : a[k] = b[k]
   ·have E : Hid (a.take (k + 1) = b.take (k + 1)) := by
     show _ = _
     rw [List.take_succ_eq_append_getElem hlta, List.take_succ_eq_append_getElem hlt, hall.out, e]
    repeat' first | simp (disch := omega) only [go_sem, ↓reduceIte, Nat.reduceEqDiff, reduceCtorEq, Int.reduceEq, map_get hlta, map_get hlt, e, wrap_i64] | ((with_reducible first | refine condD ?_ ?_ | refine condX ?_ ?_ | refine condW_intro ?_ ?_) <;> intro h <;> first | (exfalso; omega) | simp (disch := omega) only [go_sem, ↓reduceIte, Nat.reduceEqDiff, reduceCtorEq, Int.reduceEq, *, map_get hlta, map_get hlt, e, wrap_i64] | skip)
    exact ⟨k + 1, [], ⟨hlt, E⟩, by omega, by simp [Wk, wkF, wkM, wkL, look_cons, renV, renA, renC, renB, rn, clV, clA, clAs, clB, notIn, findB, findB_setB, clA.go]⟩
   ·have hne : ¬ a = b := by rintro rfl; exact e rfl
    rw [decide_eq_false hne]
    clear hne
    repeat' first | simp (disch := omega) only [go_sem, ↓reduceIte, Nat.reduceEqDiff, reduceCtorEq, Int.reduceEq, map_get hlta, map_get hlt, e, wrap_i64] | ((with_reducible first | refine condD ?_ ?_ | refine condX ?_ ?_ | refine condW_intro ?_ ?_) <;> intro h <;> first | (exfalso; omega) | simp (disch := omega) only [go_sem, ↓reduceIte, Nat.reduceEqDiff, reduceCtorEq, Int.reduceEq, *, map_get hlta, map_get hlt, e, wrap_i64] | skip)
  ·have e : a = b := by
    have h := hall.out
    rwa [List.take_of_length_le (by have := HL.out; omega), List.take_of_length_le (by omega)] at h
   rw [decide_eq_true e]
   have hkI : ¬ (k : Int) < b.length := by omega
   clear e
   repeat' first | simp (disch := omega) only [go_sem, ↓reduceIte, Nat.reduceEqDiff, reduceCtorEq, Int.reduceEq] | ((with_reducible first | refine condD ?_ ?_ | refine condX ?_ ?_ | refine condW_intro ?_ ?_) <;> intro h <;> first | (exfalso; omega) | simp (disch := omega) only [go_sem, ↓reduceIte, Nat.reduceEqDiff, reduceCtorEq, Int.reduceEq, *] | skip)
 ·have hl' : ¬ (a.length : Int) = b.length := by omega
  have hne : ¬ a = b := by rintro rfl; exact hl rfl
  rw [decide_eq_false hne]
  clear hne
  repeat' first | simp (disch := omega) only [go_sem, ↓reduceIte, Nat.reduceEqDiff, reduceCtorEq, Int.reduceEq, hl'] | ((with_reducible first | refine condD ?_ ?_ | refine condX ?_ ?_ | refine condW_intro ?_ ?_) <;> intro h <;> first | (exfalso; omega) | simp (disch := omega) only [go_sem, ↓reduceIte, Nat.reduceEqDiff, reduceCtorEq, Int.reduceEq, *, hl'] | skip)
theorem shape_Same_abs (a b : List Int) : PCalls Try.prog n_shape_Same [aInts a, aInts b] (Go.Abs.B (decide (a = b))) := by
 refine PCalls.of is_shape_Same (by simp) fun hb => runW_sound ?_
 have p1 := slices_Equal_ints a b
 simp only [c_shape_Same]
 repeat' first | simp (disch := omega) only [go_sem, ↓reduceIte, Nat.reduceEqDiff, reduceCtorEq, Int.reduceEq] | ((with_reducible first | refine condD ?_ ?_ | refine condX ?_ ?_ | refine condW_intro ?_ ?_) <;> intro h <;> first | (exfalso; omega) | simp (disch := omega) only [go_sem, ↓reduceIte, Nat.reduceEqDiff, reduceCtorEq, Int.reduceEq, *] | skip) | (refine callW_of p1 rfl (.inl rfl) ?_)

noncomputable def fErr : List Tn → Int
 | [] => 0
 | x :: r => if tnErr x ≠ 0 then tnErr x else fErr r
noncomputable def fMis (t0 : Ty) (ls : List Int) : List Tn → Int
 | [] => 0
 | x :: r => if x.1 ≠ t0 then 10 else if x.2.1 ≠ ls then 15 else fMis t0 ls r
def headTy : List Tn → Ty
 | [] => (0, 0, 0, 0, 0)
 | x :: _ => x.1
noncomputable def chk (ms ls : List Int) (xs : List Tn) : Int := if (xs.length : Int) ≠ devices ms then 1 else if fErr xs ≠ 0 then fErr xs else fMis (headTy xs) ls xs
theorem headTy_get {xs : List Tn} (h : 0 < xs.length) : headTy xs = xs[0].1 := by
 cases xs with
 | nil => simp at h
 | cons x r => rfl
theorem ty_ext {a b : Ty} : a = b ↔ a.1 = b.1 ∧ a.2.1 = b.2.1 ∧ a.2.2.1 = b.2.2.1 ∧ a.2.2.2.1 = b.2.2.2.1 ∧ a.2.2.2.2 = b.2.2.2.2 := by
 constructor
 ·rintro rfl; simp
 ·obtain ⟨a1, a2, a3, a4, a5⟩ := a
  obtain ⟨b1, b2, b3, b4, b5⟩ := b
  simp only
  rintro ⟨rfl, rfl, rfl, rfl, rfl⟩
  rfl
abbrev tyEq (a b : Ty) : Prop := a.1 = b.1 ∧ a.2.1 = b.2.1 ∧ a.2.2.1 = b.2.2.1 ∧ a.2.2.2.1 = b.2.2.2.1 ∧ a.2.2.2.2 = b.2.2.2.2

set_option maxHeartbeats 4000000 in
theorem shard_check_abs {ms ls : List Int} {xs : List Tn} (hv : ∀ x ∈ xs, ∀ a ∈ x.2.2, frIn a) : PCalls Try.prog n_shard_check [aMesh ms, aInts ls, aTns xs] (I (chk ms ls xs)) := by
 refine PCalls.of is_shard_check (by simp) fun hb => runW_sound ?_
 have hx : xs.length ≤ 9223372036854775807 := by simpa [bndVs, bndV, bndA] using hb.2.2.1
 have p1 := mesh_Devices_abs ms
 simp only [c_shard_check, chk]
 by_cases h1 : (xs.length : Int) = devices ms
 ·rw [if_neg (not_not_intro h1)]
  have HV := Lib.hid hv
  have h1' := h1.symm
  clear h1 hv
  obtain ⟨E, hE⟩ : ∃ E, E = fErr xs := ⟨_, rfl⟩
  rw [← hE]
  obtain ⟨M, hM⟩ : ∃ M, M = fMis (headTy xs) ls xs := ⟨_, rfl⟩
  rw [← hM]
  have HE := Lib.hid hE
  have HM := Lib.hid hM
  clear hE hM
  repeat' first | simp (disch := omega) only [go_sem, ↓reduceIte, Nat.reduceEqDiff, reduceCtorEq, Int.reduceEq, h1'] | ((with_reducible first | refine condD ?_ ?_ | refine condX ?_ ?_ | refine condW_intro ?_ ?_) <;> intro h <;> first | (exfalso; omega) | simp (disch := omega) only [go_sem, ↓reduceIte, Nat.reduceEqDiff, reduceCtorEq, Int.reduceEq, *, h1'] | skip) | (refine callW_of p1 rfl (.inl rfl) ?_)
  refine AW_loop (fun k : Nat => ⟨[(1, aInts ls), (2, aTns xs), (17, aTns xs), (18, I xs.length), (19, I k)], [], 1, 0⟩) (fun k => k ≤ xs.length ∧ Hid (E = fErr (xs.drop k))) (fun k => xs.length - k) ⟨0, [], ⟨Nat.zero_le _, HE⟩, by simp [Wk, wkF, wkM, wkL, look_cons, renV, renA, renC, renB, rn, clV, clA, clAs, clB, notIn, findB, findB_setB, clA.go, h1']⟩ ?_
  rintro k ⟨hk, hE⟩
  clear h1' p1
  refine runW_sound ?_
  by_cases hlt : k < xs.length
  ·have hE' : Hid (E = if tnErr xs[k] ≠ 0 then tnErr xs[k] else fErr (xs.drop (k + 1))) := by
    show _ = _
    have := hE.out
    rwa [List.drop_eq_getElem_cons hlt, fErr] at this
   have p2 := tensor_Validate_abs (HV.out _ (List.getElem_mem hlt))
   have hg := map_get (f := tnP) hlt
   by_cases h : tnErr xs[k] = 0
   ·have hE2 : Hid (E = fErr (xs.drop (k + 1))) := by
     show _ = _
     have := hE'.out
     rwa [if_neg (not_not_intro h)] at this
    rw [h] at p2
    clear hE' hE
    generalize xs[k] = z at *
    repeat' first | simp (disch := omega) only [go_sem, ↓reduceIte, Nat.reduceEqDiff, reduceCtorEq, Int.reduceEq, hg, wrap_i64] | ((with_reducible first | refine condD ?_ ?_ | refine condX ?_ ?_ | refine condW_intro ?_ ?_) <;> intro h <;> first | (exfalso; omega) | simp (disch := omega) only [go_sem, ↓reduceIte, Nat.reduceEqDiff, reduceCtorEq, Int.reduceEq, *, hg, wrap_i64] | skip) | (refine callW_of p2 rfl (.inl rfl) ?_)
    exact ⟨k + 1, [], ⟨hlt, hE2⟩, by omega, by simp [Wk, wkF, wkM, wkL, look_cons, renV, renA, renC, renB, rn, clV, clA, clAs, clB, notIn, findB, findB_setB, clA.go]⟩
   ·have e : E = tnErr xs[k] := by
     have := hE'.out
     rwa [if_pos h] at this
    rw [e, if_pos h]
    clear hE' hE e HE
    generalize xs[k] = z at *
    repeat' first | simp (disch := omega) only [go_sem, ↓reduceIte, Nat.reduceEqDiff, reduceCtorEq, Int.reduceEq, hg, wrap_i64, h] | ((with_reducible first | refine condD ?_ ?_ | refine condX ?_ ?_ | refine condW_intro ?_ ?_) <;> intro h <;> first | (exfalso; omega) | simp (disch := omega) only [go_sem, ↓reduceIte, Nat.reduceEqDiff, reduceCtorEq, Int.reduceEq, *, hg, wrap_i64, h] | skip) | (refine callW_of p2 rfl (.inl rfl) ?_)
  ·have e : E = 0 := by
    have := hE.out
    rwa [List.drop_eq_nil_of_le (by omega), fErr] at this
   rw [if_neg (not_not_intro e)]
   have hkI : ¬ (k : Int) < xs.length := by omega
   clear e HE hE
   repeat' first | simp (disch := omega) only [go_sem, ↓reduceIte, Nat.reduceEqDiff, reduceCtorEq, Int.reduceEq] | ((with_reducible first | refine condD ?_ ?_ | refine condX ?_ ?_ | refine condW_intro ?_ ?_) <;> intro h <;> first | (exfalso; omega) | simp (disch := omega) only [go_sem, ↓reduceIte, Nat.reduceEqDiff, reduceCtorEq, Int.reduceEq, *] | skip)
   clear hkI hk hlt
   refine AW_loop (fun k : Nat => ⟨[(1, aInts ls), (2, aTns xs), (29, aTns xs), (30, I xs.length), (31, I k)], [], 1, 0⟩) (fun k => k ≤ xs.length ∧ Hid (M = fMis (headTy xs) ls (xs.drop k))) (fun k => xs.length - k) ⟨0, [], ⟨Nat.zero_le _, HM⟩, by simp [Wk, wkF, wkM, wkL, look_cons, renV, renA, renC, renB, rn, clV, clA, clAs, clB, notIn, findB, findB_setB, clA.go]⟩ ?_
   rintro k ⟨hk, hM⟩
   refine runW_sound ?_
   by_cases hlt : k < xs.length
   ·have hM' : Hid (M = if xs[k].1 ≠ headTy xs then 10 else if xs[k].2.1 ≠ ls then 15 else fMis (headTy xs) ls (xs.drop (k + 1))) := by
     show _ = _
     have := hM.out
     rwa [List.drop_eq_getElem_cons hlt, fMis] at this
    have h0 : 0 < xs.length := by omega
    rw [headTy_get h0] at hM' hM HM
    have p2 := shape_Same_abs xs[k].2.1 ls
    have hg := map_get (f := tnP) hlt
    have hg0 := map_get (f := tnP) h0
    have hM3 := hM'
    clear hM' hM HM
    by_cases h : tyEq xs[k].1 xs[0].1
    ·by_cases h2 : xs[k].2.1 = ls
     ·have hM2 : Hid (M = fMis (headTy xs) ls (xs.drop (k + 1))) := by
       show _ = _
       have := hM3.out
       rwa [if_neg (not_not_intro (ty_ext.2 h)), if_neg (not_not_intro h2), ← headTy_get h0] at this
      rw [decide_eq_true h2] at p2
      clear hM3
      generalize xs[k] = z at *
      generalize xs[0] = y at *
      obtain ⟨⟨a1, a2, a3, a4, a5⟩, zd, zl⟩ := z
      obtain ⟨⟨b1, b2, b3, b4, b5⟩, yd, yl⟩ := y
      simp only at h h2
      obtain ⟨rfl, rfl, rfl, rfl, rfl⟩ := h
      clear h2
      repeat' first | simp (disch := omega) only [go_sem, ↓reduceIte, Nat.reduceEqDiff, reduceCtorEq, Int.reduceEq, hg, hg0, wrap_i64, Int.toNat_zero] | ((with_reducible first | refine condD ?_ ?_ | refine condX ?_ ?_ | refine condW_intro ?_ ?_) <;> intro h <;> first | (exfalso; omega) | simp (disch := omega) only [go_sem, ↓reduceIte, Nat.reduceEqDiff, reduceCtorEq, Int.reduceEq, *, hg, hg0, wrap_i64, Int.toNat_zero] | skip) | (refine callW_of p2 rfl (.inl rfl) ?_)
      exact ⟨k + 1, [], ⟨hlt, hM2⟩, by omega, by simp [Wk, wkF, wkM, wkL, look_cons, renV, renA, renC, renB, rn, clV, clA, clAs, clB, notIn, findB, findB_setB, clA.go]⟩
     ·have e : M = 15 := by
       have := hM3.out
       rwa [if_neg (not_not_intro (ty_ext.2 h)), if_pos h2] at this
      rw [e]
      rw [decide_eq_false h2] at p2
      clear hM3 e
      generalize xs[k] = z at *
      generalize xs[0] = y at *
      obtain ⟨⟨a1, a2, a3, a4, a5⟩, zd, zl⟩ := z
      obtain ⟨⟨b1, b2, b3, b4, b5⟩, yd, yl⟩ := y
      simp only at h h2
      obtain ⟨rfl, rfl, rfl, rfl, rfl⟩ := h
      clear h2
      repeat' first | simp (disch := omega) only [go_sem, ↓reduceIte, Nat.reduceEqDiff, reduceCtorEq, Int.reduceEq, hg, hg0, wrap_i64, Int.toNat_zero] | ((with_reducible first | refine condD ?_ ?_ | refine condX ?_ ?_ | refine condW_intro ?_ ?_) <;> intro h <;> first | (exfalso; omega) | simp (disch := omega) only [go_sem, ↓reduceIte, Nat.reduceEqDiff, reduceCtorEq, Int.reduceEq, *, hg, hg0, wrap_i64, Int.toNat_zero] | skip) | (refine callW_of p2 rfl (.inl rfl) ?_)
    ·have e : M = 10 := by
      have := hM3.out
      rwa [if_pos fun hc => h (ty_ext.1 hc)] at this
     rw [e]
     clear hM3 e
     generalize xs[k] = z at *
     generalize xs[0] = y at *
     obtain ⟨⟨a1, a2, a3, a4, a5⟩, zd, zl⟩ := z
     obtain ⟨⟨b1, b2, b3, b4, b5⟩, yd, yl⟩ := y
     simp only [tyEq] at h
     have H := Lib.hid h
     clear h
     repeat' first | simp (disch := omega) only [go_sem, ↓reduceIte, Nat.reduceEqDiff, reduceCtorEq, Int.reduceEq, hg, hg0, wrap_i64, Int.toNat_zero] | ((with_reducible first | refine condD ?_ ?_ | refine condX ?_ ?_ | refine condW_intro ?_ ?_) <;> intro h <;> first | (exfalso; omega) | simp (disch := omega) only [go_sem, ↓reduceIte, Nat.reduceEqDiff, reduceCtorEq, Int.reduceEq, *, hg, hg0, wrap_i64, Int.toNat_zero] | skip) | (refine callW_of p2 rfl (.inl rfl) ?_)
     all_goals exact absurd ‹_› H.out
   ·have e : M = 0 := by
     have := hM.out
     rwa [List.drop_eq_nil_of_le (by omega), fMis] at this
    rw [e]
    have hkI : ¬ (k : Int) < xs.length := by omega
    clear e hM HM
    repeat' first | simp (disch := omega) only [go_sem, ↓reduceIte, Nat.reduceEqDiff, reduceCtorEq, Int.reduceEq] | ((with_reducible first | refine condD ?_ ?_ | refine condX ?_ ?_ | refine condW_intro ?_ ?_) <;> intro h <;> first | (exfalso; omega) | simp (disch := omega) only [go_sem, ↓reduceIte, Nat.reduceEqDiff, reduceCtorEq, Int.reduceEq, *] | skip)
 ·rw [if_pos h1]
  have h1' : ¬ devices ms = (xs.length : Int) := fun e => h1 e.symm
  repeat' first | simp (disch := omega) only [go_sem, ↓reduceIte, Nat.reduceEqDiff, reduceCtorEq, Int.reduceEq, h1'] | ((with_reducible first | refine condD ?_ ?_ | refine condX ?_ ?_ | refine condW_intro ?_ ?_) <;> intro h <;> first | (exfalso; omega) | simp (disch := omega) only [go_sem, ↓reduceIte, Nat.reduceEqDiff, reduceCtorEq, Int.reduceEq, *, h1'] | skip) | (refine callW_of p1 rfl (.inl rfl) ?_)
end Go.Proofs.Ytcnbccmmhcoanaa
