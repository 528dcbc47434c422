/- Walks by the abstract machine: names in order, the names of the system. -/
import Derived.Test.YtnddmjhpplopbaaV07q
import Derived.Test.YtnddmjhpplopbaaVSort
import Derived.Test.YtnddmjhpplopbaaPlain07f
set_option linter.unusedVariables false
set_option linter.unusedSimpArgs false
set_option maxRecDepth 20000
namespace Go.Proofs.Ytnddmjhpplopbaa
open Go.Abs Go.RowKit

def allNames (forms : List Lin) : List ByteArray := forms.flatMap fun f => f.2.map (·.1)
def lP (f : Lin) : List PC := [pI f.1, pMonos f.2]
theorem bytes_strs (l : List (List UInt8)) : bytesOf (strsOf l) = l := by
 rw [strsOf, bytesOf, List.map_map]
 exact (List.map_congr_left (fun s _ => by simp)).trans (List.map_id l)
theorem allNames_drop {forms : List Lin} {k : Nat} (h : k < forms.length) : allNames (forms.drop k) = forms[k].2.map (·.1) ++ allNames (forms.drop (k + 1)) := by
 rw [List.drop_eq_getElem_cons h]
 rfl
theorem lin_Names_abs {forms : List Lin} (hl : (allNames forms).length ≤ 1000000000) : PCalls Try.prog n_lin_Names [aSl lP forms] (aStrs (compB (sortB (allNames forms)))) := by
 refine PCalls.of is_lin_Names (by simp) fun hb => runW_sound ?_
 have hfl : forms.length ≤ 9223372036854775807 := by simpa [bndVs, bndV, bndA] using hb
 clear hb
 simp only [c_lin_Names]
 obtain ⟨R, hR⟩ : ∃ R, R = [] ++ allNames (forms.drop 0) := ⟨_, rfl⟩
 have hR0 : allNames forms = R := hR.symm
 rw [hR0] at hl ⊢
 have HR := Lib.hid hR
 clear hR hR0
 repeat' first | simp (disch := omega) only [go_sem, ↓reduceIte, Nat.reduceEqDiff, reduceCtorEq, Int.reduceEq] | ((with_reducible first | refine condD ?_ ?_ | refine condX ?_ ?_ | refine condW_intro ?_ ?_) <;> intro h <;> first | (exfalso; omega) | simp (disch := omega) only [go_sem, ↓reduceIte, Nat.reduceEqDiff, reduceCtorEq, Int.reduceEq, *] | skip)
 refine AW_adopt 3 9 1 rfl (by decide) ?_
 refine AW_loop (fun s : Nat × List ByteArray => ⟨[(3, .c (.ref 0)), (8, aSl lP forms), (9, I forms.length), (10, I s.1)], [(0, .arr 9 1 (strRows s.2))], 1, 0⟩) (fun s => s.1 ≤ forms.length ∧ Hid (R = s.2 ++ allNames (forms.drop s.1))) (fun s => forms.length - s.1) ⟨(0, []), [], ⟨Nat.zero_le _, HR⟩, by simp [Wk, wkF, wkM, wkL, look_cons, renV, renA, renC, renB, rn, clV, clA, clAs, clB, notIn, findB, findB_setB, clA.go]⟩ ?_
 clear HR
 rintro ⟨j, acc⟩ ⟨hj, HR⟩
 simp only at hj HR
 refine runW_sound ?_
 by_cases hlt : j < forms.length
 ·have g1 := map_get (f := lP) hlt
  have h2 := HR.out
  rw [allNames_drop hlt] at h2
  clear HR
  generalize forms[j] = f at *
  obtain ⟨K, l⟩ := f
  simp only [lP] at g1
  simp only at h2
  have HR := Lib.hid h2
  clear h2
  repeat' first | simp (disch := omega) only [go_sem, ↓reduceIte, Nat.reduceEqDiff, reduceCtorEq, Int.reduceEq, g1] | ((with_reducible first | refine condD ?_ ?_ | refine condX ?_ ?_ | refine condW_intro ?_ ?_) <;> intro h <;> first | (exfalso; omega) | simp (disch := omega) only [go_sem, ↓reduceIte, Nat.reduceEqDiff, reduceCtorEq, Int.reduceEq, *, g1] | skip)
  refine AW_bnd 15 fun hbl => ?_
  have hll : l.length ≤ 9223372036854775807 := by simpa [look_cons, bndV, bndA] using hbl
  clear hbl
  refine AW_loop (fun s : Nat × List ByteArray => ⟨[(3, .c (.ref 0)), (8, aSl lP forms), (9, I forms.length), (10, I j), (15, .c (.pure (pMonos l))), (16, I l.length), (17, I s.1)], [(0, .arr 9 1 (strRows s.2))], 1, 0⟩)
   (fun s => s.1 ≤ l.length ∧ Hid (R = s.2 ++ ((l.drop s.1).map (·.1) ++ allNames (forms.drop (j + 1))))) (fun s => l.length - s.1) ⟨(0, acc), [], ⟨Nat.zero_le _, HR⟩, by simp [Wk, wkF, wkM, wkL, look_cons, renV, renA, renC, renB, rn, clV, clA, clAs, clB, notIn, findB, findB_setB, clA.go]⟩ ?_
  clear HR
  rintro ⟨k, acc⟩ ⟨hk, HR⟩
  simp only at hk HR
  refine runW_sound ?_
  by_cases hlk : k < l.length
  ·have g2 := map_get (f := mP) hlk
   have h2 := HR.out
   rw [List.drop_eq_getElem_cons hlk] at h2
   clear HR
   generalize l[k] = m at *
   obtain ⟨n, x⟩ := m
   simp only [mP] at g2
   have hacc : acc.length ≤ 1000000000 := by rw [h2] at hl; simp at hl; omega
   have HR : Hid (R = (acc ++ [n]) ++ ((l.drop (k + 1)).map (·.1) ++ allNames (forms.drop (j + 1)))) := Lib.hid (by rw [h2]; simp)
   clear h2
   repeat' first | simp (disch := omega) only [go_sem, ↓reduceIte, Nat.reduceEqDiff, reduceCtorEq, Int.reduceEq, g2, wrap_i64] | ((with_reducible first | refine condD ?_ ?_ | refine condX ?_ ?_ | refine condW_intro ?_ ?_) <;> intro h <;> first | (exfalso; omega) | simp (disch := omega) only [go_sem, ↓reduceIte, Nat.reduceEqDiff, reduceCtorEq, Int.reduceEq, *, g2, wrap_i64] | skip) | (refine app_own rfl (by intro h; cases h) (rowsOk_one rfl) (by simp; omega) (by simp; omega) ?_)
   exact ⟨(k + 1, acc ++ [n]), [(0, 2)], ⟨hlk, HR⟩, by show _ - _ < _ - _; omega, by simp [Wk, wkF, wkM, wkL, look_cons, renV, renA, renC, renB, rn, clV, clA, clAs, clB, notIn, findB, findB_setB, clA.go]⟩
  ·have h2 := HR.out
   rw [List.drop_eq_nil_of_le (by omega)] at h2
   have HR := Lib.hid h2
   clear h2
   repeat' first | simp (disch := omega) only [go_sem, ↓reduceIte, Nat.reduceEqDiff, reduceCtorEq, Int.reduceEq, wrap_i64] | ((with_reducible first | refine condD ?_ ?_ | refine condX ?_ ?_ | refine condW_intro ?_ ?_) <;> intro h <;> first | (exfalso; omega) | simp (disch := omega) only [go_sem, ↓reduceIte, Nat.reduceEqDiff, reduceCtorEq, Int.reduceEq, *, wrap_i64] | skip)
   exact ⟨(j + 1, acc), [], ⟨hlt, HR⟩, by show _ - _ < _ - _; omega, by simp [Wk, wkF, wkM, wkL, look_cons, renV, renA, renC, renB, rn, clV, clA, clAs, clB, notIn, findB, findB_setB, clA.go]⟩
 ·have h2 := HR.out
  rw [List.drop_eq_nil_of_le (by omega)] at h2
  have h3 : R = acc := by rw [h2]; simp [allNames]
  clear h2 HR
  subst h3
  repeat' first | simp (disch := omega) only [go_sem, ↓reduceIte, Nat.reduceEqDiff, reduceCtorEq, Int.reduceEq] | ((with_reducible first | refine condD ?_ ?_ | refine condX ?_ ?_ | refine condW_intro ?_ ?_) <;> intro h <;> first | (exfalso; omega) | simp (disch := omega) only [go_sem, ↓reduceIte, Nat.reduceEqDiff, reduceCtorEq, Int.reduceEq, *] | skip) | (refine callW_i (sort_i rfl (by omega)) ?_) | (refine callW_i (compact_i rfl) ?_)
end Go.Proofs.Ytnddmjhpplopbaa
