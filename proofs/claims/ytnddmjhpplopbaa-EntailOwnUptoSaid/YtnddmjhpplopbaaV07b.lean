/- Walks by the abstract machine: products of forms, coefficients. -/
import Derived.Test.YtnddmjhpplopbaaV07a
set_option linter.unusedVariables false
set_option linter.unusedSimpArgs false
set_option maxRecDepth 20000
namespace Go.Proofs.Ytnddmjhpplopbaa
open Go.Abs Go.RowKit

abbrev aLinE (x : Lin × Int) : AV := .tup [aLin x.1.1 x.1.2, I x.2]
def lin64 (a : Lin) : Prop := in64 a.1 ∧ ∀ m ∈ a.2, in64 m.2
/-- Lists that memory holds with room to spare. -/
def short (l : List Mono) : Prop := l.length ≤ 1000000000

theorem lin_Coeff_abs (k : Int) (l : List Mono) (n : ByteArray) : PCalls Try.prog n_lin_Coeff [aLin k l, S n] (I (cf l n)) := by
 refine PCalls.of is_lin_Coeff (by simp) fun hb => runW_sound ?_
 have hl := bnd_lin hb.1
 obtain ⟨R, hR⟩ : ∃ R, R = cf l n := ⟨_, rfl⟩
 rw [← hR]
 have HR := Lib.hid hR
 clear hR
 simp only [c_lin_Coeff]
 repeat' first | simp (disch := omega) only [go_sem, ↓reduceIte, Nat.reduceEqDiff, reduceCtorEq, Int.reduceEq] | ((with_reducible first | refine condD ?_ ?_ | refine condX ?_ ?_ | refine condW_intro ?_ ?_) <;> intro h <;> first | (exfalso; omega) | simp (disch := omega) only [go_sem, ↓reduceIte, Nat.reduceEqDiff, reduceCtorEq, Int.reduceEq, *] | skip)
 refine AW_loop (fun k : Nat => ⟨[(1, S n), (8, .c (.pure (pMonos l))), (9, I l.length), (10, I k)], [], 0, 0⟩) (fun k => k ≤ l.length ∧ Hid (R = cf (l.drop k) n)) (fun k => l.length - k) ⟨0, [], ⟨Nat.zero_le _, HR⟩, by simp [Wk, wkF, wkM, wkL, look_cons, renV, renA, renC, renB, rn, clV, clA, clAs, clB, notIn, findB, findB_setB, clA.go]⟩ ?_
 rintro j ⟨hj, HR⟩
 refine runW_sound ?_
 by_cases hlt : j < l.length
 ·have h2 : Hid (R = if l[j].1 = n then l[j].2 else cf (l.drop (j + 1)) n) := by
   have := HR.out
   rwa [List.drop_eq_getElem_cons hlt, cf] at this
  clear HR
  by_cases e : l[j].1 = n
  ·have h3 := h2.out
   rw [if_pos e] at h3
   subst h3
   repeat' first | simp (disch := omega) only [go_sem, ↓reduceIte, Nat.reduceEqDiff, reduceCtorEq, Int.reduceEq, map_get hlt, mP, wrap_i64, e] | ((with_reducible first | refine condD ?_ ?_ | refine condX ?_ ?_ | refine condW_intro ?_ ?_) <;> intro h <;> first | (exfalso; omega) | simp (disch := omega) only [go_sem, ↓reduceIte, Nat.reduceEqDiff, reduceCtorEq, Int.reduceEq, *, map_get hlt, mP, wrap_i64, e] | skip)
  ·have h3 : Hid (R = cf (l.drop (j + 1)) n) := by
    have := h2.out
    rwa [if_neg e] at this
   repeat' first | simp (disch := omega) only [go_sem, ↓reduceIte, Nat.reduceEqDiff, reduceCtorEq, Int.reduceEq, map_get hlt, mP, wrap_i64, e] | ((with_reducible first | refine condD ?_ ?_ | refine condX ?_ ?_ | refine condW_intro ?_ ?_) <;> intro h <;> first | (exfalso; omega) | simp (disch := omega) only [go_sem, ↓reduceIte, Nat.reduceEqDiff, reduceCtorEq, Int.reduceEq, *, map_get hlt, mP, wrap_i64, e] | skip)
   exact ⟨j + 1, [], ⟨hlt, h3⟩, by omega, by simp [Wk, wkF, wkM, wkL, look_cons, renV, renA, renC, renB, rn, clV, clA, clAs, clB, notIn, findB, findB_setB, clA.go]⟩
 ·have h2 := HR.out
  rw [List.drop_eq_nil_of_le (by omega), cf] at h2
  subst h2
  repeat' first | simp (disch := omega) only [go_sem, ↓reduceIte, Nat.reduceEqDiff, reduceCtorEq, Int.reduceEq] | ((with_reducible first | refine condD ?_ ?_ | refine condX ?_ ?_ | refine condW_intro ?_ ?_) <;> intro h <;> first | (exfalso; omega) | simp (disch := omega) only [go_sem, ↓reduceIte, Nat.reduceEqDiff, reduceCtorEq, Int.reduceEq, *] | skip)
theorem ref07_coeff_abs (k : Int) (l : List Mono) (n : ByteArray) : PCalls Try.prog n_ref07_coeff [aLin k l, S n] (I (cf l n)) := by
 refine PCalls.of is_ref07_coeff (by simp) fun hb => runW_sound ?_
 have hl := bnd_lin hb.1
 obtain ⟨R, hR⟩ : ∃ R, R = cf l n := ⟨_, rfl⟩
 rw [← hR]
 have HR := Lib.hid hR
 clear hR
 simp only [c_ref07_coeff]
 repeat' first | simp (disch := omega) only [go_sem, ↓reduceIte, Nat.reduceEqDiff, reduceCtorEq, Int.reduceEq] | ((with_reducible first | refine condD ?_ ?_ | refine condX ?_ ?_ | refine condW_intro ?_ ?_) <;> intro h <;> first | (exfalso; omega) | simp (disch := omega) only [go_sem, ↓reduceIte, Nat.reduceEqDiff, reduceCtorEq, Int.reduceEq, *] | skip)
 refine AW_loop (fun j : Nat => ⟨[(1, S n), (2, .c (.ptr 0 0)), (5, I j)], [(0, .var [.pure (pI k), .pure (pMonos l)])], 1, 0⟩) (fun k => k ≤ l.length ∧ Hid (R = cf (l.drop k) n)) (fun k => l.length - k) ⟨0, [], ⟨Nat.zero_le _, HR⟩, by simp [Wk, wkF, wkM, wkL, look_cons, renV, renA, renC, renB, rn, clV, clA, clAs, clB, notIn, findB, findB_setB, clA.go]⟩ ?_
 rintro j ⟨hj, HR⟩
 refine runW_sound ?_
 by_cases hlt : j < l.length
 ·have h2 : Hid (R = if l[j].1 = n then l[j].2 else cf (l.drop (j + 1)) n) := by
   have := HR.out
   rwa [List.drop_eq_getElem_cons hlt, cf] at this
  clear HR
  by_cases e : l[j].1 = n
  ·have h3 := h2.out
   rw [if_pos e] at h3
   subst h3
   repeat' first | simp (disch := omega) only [go_sem, ↓reduceIte, Nat.reduceEqDiff, reduceCtorEq, Int.reduceEq, map_get hlt, mP, wrap_i64, e] | ((with_reducible first | refine condD ?_ ?_ | refine condX ?_ ?_ | refine condW_intro ?_ ?_) <;> intro h <;> first | (exfalso; omega) | simp (disch := omega) only [go_sem, ↓reduceIte, Nat.reduceEqDiff, reduceCtorEq, Int.reduceEq, *, map_get hlt, mP, wrap_i64, e] | skip)
  ·have h3 : Hid (R = cf (l.drop (j + 1)) n) := by
    have := h2.out
    rwa [if_neg e] at this
   repeat' first | simp (disch := omega) only [go_sem, ↓reduceIte, Nat.reduceEqDiff, reduceCtorEq, Int.reduceEq, map_get hlt, mP, wrap_i64, e] | ((with_reducible first | refine condD ?_ ?_ | refine condX ?_ ?_ | refine condW_intro ?_ ?_) <;> intro h <;> first | (exfalso; omega) | simp (disch := omega) only [go_sem, ↓reduceIte, Nat.reduceEqDiff, reduceCtorEq, Int.reduceEq, *, map_get hlt, mP, wrap_i64, e] | skip)
   exact ⟨j + 1, [], ⟨hlt, h3⟩, by omega, by simp [Wk, wkF, wkM, wkL, look_cons, renV, renA, renC, renB, rn, clV, clA, clAs, clB, notIn, findB, findB_setB, clA.go]⟩
 ·have h2 := HR.out
  rw [List.drop_eq_nil_of_le (by omega), cf] at h2
  subst h2
  repeat' first | simp (disch := omega) only [go_sem, ↓reduceIte, Nat.reduceEqDiff, reduceCtorEq, Int.reduceEq] | ((with_reducible first | refine condD ?_ ?_ | refine condX ?_ ?_ | refine condW_intro ?_ ?_) <;> intro h <;> first | (exfalso; omega) | simp (disch := omega) only [go_sem, ↓reduceIte, Nat.reduceEqDiff, reduceCtorEq, Int.reduceEq, *] | skip)

noncomputable def scaleE (a : Lin) (b : Int) : Lin × Int := if ¬ linOk a.2 then ((0, []), 1) else scaleS a b
def allB (b : Int) (l : List Mono) : Bool := l.all fun m => (ok64 (m.2 * b)).2
theorem allB_iff {b : Int} {l : List Mono} : allB b l = true ↔ ∀ m ∈ l, in64 (m.2 * b) := by
 simp [allB, ok64_snd]
def sclL (b : Int) (l : List Mono) : List Mono := l.map fun m => (m.1, (ok64 (m.2 * b)).1)
theorem sclL_take {b : Int} {l : List Mono} {k : Nat} (h : k < l.length) : (sclL b (l.take (k + 1))).map mP = (sclL b (l.take k)).map mP ++ [[pS l[k].1, pI (ok64 (l[k].2 * b)).1]] := by
 rw [List.take_succ_eq_append_getElem h]
 show ((l.take k ++ [l[k]]).map _).map mP = _
 rw [List.map_append, List.map_append]
 rfl
theorem allB_take {b : Int} {l : List Mono} {k : Nat} (h : k < l.length) : allB b (l.take (k + 1)) = (allB b (l.take k) && (ok64 (l[k].2 * b)).2) := by
 rw [List.take_succ_eq_append_getElem h]
 show (l.take k ++ [l[k]]).all _ = _
 rw [List.all_append, List.all_cons, List.all_nil, Bool.and_true]
 rfl
theorem lin_Scale_abs {a : Lin} {b : Int} (ha : lin64 a) (hb : in64 b) (hs : short a.2) : PCalls Try.prog n_lin_Scale [aLin a.1 a.2, I b] (aLinE (scaleE a b)) := by
 refine PCalls.of is_lin_Scale (by simp) fun _ => runW_sound ?_
 obtain ⟨c, l⟩ := a
 obtain ⟨hc, hl64⟩ := ha
 simp only at hc hl64 hs
 have pv := lin_Validate_abs c l
 simp only [c_lin_Scale]
 by_cases hok : linOk l
 ·rw [scaleE, if_neg (not_not_intro hok), scaleS]
  rw [if_pos hok] at pv
  by_cases hb0 : b = 0
  ·subst hb0
   rw [if_pos (.inl rfl), scaleV, if_pos rfl]
   repeat' first | simp (disch := omega) only [go_sem, ↓reduceIte, Nat.reduceEqDiff, reduceCtorEq, Int.reduceEq] | ((with_reducible first | refine condD ?_ ?_ | refine condX ?_ ?_ | refine condW_intro ?_ ?_) <;> intro h <;> first | (exfalso; omega) | simp (disch := omega) only [go_sem, ↓reduceIte, Nat.reduceEqDiff, reduceCtorEq, Int.reduceEq, *] | skip) | (refine callW_of pv rfl (.inl rfl) ?_)
   rfl
  ·have pk := lin_times_abs hc hb
   have hcond : (b = 0 ∨ scaleOk (c, l) b) ↔ (ok64 (c * b)).2 = true ∧ allB b l = true := by
    rw [ok64_snd, allB_iff]
    constructor
    ·rintro (h | h)
     ·exact absurd h hb0
     ·exact h
    ·exact .inr
   have hval : (ok64 (c * b)).2 = true ∧ allB b l = true → scaleV (c, l) b = ((ok64 (c * b)).1, sclL b l) := by
    rintro ⟨h1, h2⟩
    rw [scaleV, if_neg hb0, ok64_in (ok64_snd.1 h1), sclL]
    refine Prod.ext rfl (List.map_congr_left fun m hm => ?_)
    rw [ok64_in (allB_iff.1 h2 m hm)]
   have hend : (if b = 0 ∨ scaleOk (c, l) b then (scaleV (c, l) b, 0) else ((0, []), 3) : Lin × Int) = if ((ok64 (c * b)).2 && allB b l) = true then (((ok64 (c * b)).1, sclL b l), 0) else ((0, []), 3) := by
    by_cases h : (ok64 (c * b)).2 = true ∧ allB b l = true
    ·rw [if_pos (hcond.2 h), hval h, if_pos (by simp [h])]
    ·rw [if_neg (fun g => h (hcond.1 g)), if_neg (by simpa using h)]
   rw [hend]
   clear hend hcond hval
   generalize ok64 (c * b) = K at *
   unfold short at hs
   repeat' first | simp (disch := omega) only [go_sem, ↓reduceIte, Nat.reduceEqDiff, reduceCtorEq, Int.reduceEq, hb0] | ((with_reducible first | refine condD ?_ ?_ | refine condX ?_ ?_ | refine condW_intro ?_ ?_) <;> intro h <;> first | (exfalso; omega) | simp (disch := omega) only [go_sem, ↓reduceIte, Nat.reduceEqDiff, reduceCtorEq, Int.reduceEq, *, hb0] | skip) | (refine callW_of pv rfl (.inl rfl) ?_) | (refine callW_of pk rfl (.inl rfl) ?_)
   refine AW_adoptM 2 1 79 2 _ rfl rfl (by decide) ?_
   refine AW_loop (fun k : Nat => ⟨[(1, I b), (2, .c (.ptr 0 0)), (4, .c (.ptr 1 0)), (7, Go.Abs.B (K.2 && allB b (l.take k))), (8, .c (.ptr 2 0)), (30, .c (.pure (pMonos l))), (31, I l.length), (32, I k)],
    [(0, .var [.pure (pI c), .pure (pMonos l)]), (1, .var [.pure (pI 0), .nils]), (2, .var [.pure (pI K.1), .ref 3]), (3, .arr 79 2 ((sclL b (l.take k)).map mP))], 4, 0⟩) (fun k => k ≤ l.length) (fun k => l.length - k) ⟨0, [], Nat.zero_le _, by simp [Wk, wkF, wkM, wkL, look_cons, renV, renA, renC, renB, rn, clV, clA, clAs, clB, notIn, findB, findB_setB, clA.go, allB, sclL]⟩ ?_
   intro j hj
   refine runW_sound ?_
   by_cases hlt : j < l.length
   ·have pt := lin_times_abs (hl64 _ (List.getElem_mem hlt)) hb
    have e1 := sclL_take (b := b) hlt
    have e2 := allB_take (b := b) hlt
    have hlen : (sclL b (l.take j)).length ≤ 1000000000 := by simp [sclL]; omega
    generalize ok64 (l[j].2 * b) = Y at *
    obtain ⟨g, hg⟩ : ∃ g, g = (K.2 && allB b (l.take j)) := ⟨_, rfl⟩
    have e3 : (K.2 && allB b (l.take (j + 1))) = (g && Y.2) := by rw [e2, hg, Bool.and_assoc]
    rw [← hg]
    have E1 := Lib.hid e1
    have E3 := Lib.hid e3
    clear hg e2 e1 e3 pv pk
    cases g
    ·repeat' first | simp (disch := omega) only [go_sem, ↓reduceIte, Nat.reduceEqDiff, reduceCtorEq, Int.reduceEq, map_get hlt, mP, wrap_i64] | ((with_reducible first | refine condD ?_ ?_ | refine condX ?_ ?_ | refine condW_intro ?_ ?_) <;> intro h <;> first | (exfalso; omega) | simp (disch := omega) only [go_sem, ↓reduceIte, Nat.reduceEqDiff, reduceCtorEq, Int.reduceEq, *, map_get hlt, mP, wrap_i64] | skip) | (refine callW_of pt rfl (.inl rfl) ?_) | (refine app_own rfl (by intro h; cases h) (rowsOk_one rfl) (by simp; omega) (by simp; omega) ?_)
     refine ⟨j + 1, [(3, 5)], hlt, by omega, ?_⟩
     simp [Wk, wkF, wkM, wkL, look_cons, renV, renA, renC, renB, rn, clV, clA, clAs, clB, notIn, findB, findB_setB, clA.go, E1.out, E3.out]
    ·repeat' first | simp (disch := omega) only [go_sem, ↓reduceIte, Nat.reduceEqDiff, reduceCtorEq, Int.reduceEq, map_get hlt, mP, wrap_i64] | ((with_reducible first | refine condD ?_ ?_ | refine condX ?_ ?_ | refine condW_intro ?_ ?_) <;> intro h <;> first | (exfalso; omega) | simp (disch := omega) only [go_sem, ↓reduceIte, Nat.reduceEqDiff, reduceCtorEq, Int.reduceEq, *, map_get hlt, mP, wrap_i64] | skip) | (refine callW_of pt rfl (.inl rfl) ?_) | (refine app_own rfl (by intro h; cases h) (rowsOk_one rfl) (by simp; omega) (by simp; omega) ?_)
     refine ⟨j + 1, [(3, 5)], hlt, by omega, ?_⟩
     simp [Wk, wkF, wkM, wkL, look_cons, renV, renA, renC, renB, rn, clV, clA, clAs, clB, notIn, findB, findB_setB, clA.go, E1.out, E3.out]
   ·have e : l.take j = l := List.take_of_length_le (by omega)
    rw [e]
    generalize (K.2 && allB b l) = g at *
    cases g
    ·repeat' first | simp (disch := omega) only [go_sem, ↓reduceIte, Nat.reduceEqDiff, reduceCtorEq, Int.reduceEq] | ((with_reducible first | refine condD ?_ ?_ | refine condX ?_ ?_ | refine condW_intro ?_ ?_) <;> intro h <;> first | (exfalso; omega) | simp (disch := omega) only [go_sem, ↓reduceIte, Nat.reduceEqDiff, reduceCtorEq, Int.reduceEq, *] | skip)
     all_goals simp
    ·repeat' first | simp (disch := omega) only [go_sem, ↓reduceIte, Nat.reduceEqDiff, reduceCtorEq, Int.reduceEq] | ((with_reducible first | refine condD ?_ ?_ | refine condX ?_ ?_ | refine condW_intro ?_ ?_) <;> intro h <;> first | (exfalso; omega) | simp (disch := omega) only [go_sem, ↓reduceIte, Nat.reduceEqDiff, reduceCtorEq, Int.reduceEq, *] | skip)
     all_goals simp
 ·rw [scaleE, if_pos hok]
  rw [if_neg hok] at pv
  repeat' first | simp (disch := omega) only [go_sem, ↓reduceIte, Nat.reduceEqDiff, reduceCtorEq, Int.reduceEq] | ((with_reducible first | refine condD ?_ ?_ | refine condX ?_ ?_ | refine condW_intro ?_ ?_) <;> intro h <;> first | (exfalso; omega) | simp (disch := omega) only [go_sem, ↓reduceIte, Nat.reduceEqDiff, reduceCtorEq, Int.reduceEq, *] | skip) | (refine callW_of pv rfl (.inl rfl) ?_)
  rfl
end Go.Proofs.Ytnddmjhpplopbaa
