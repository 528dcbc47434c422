/- Walks by the abstract machine: the reference's certificates, comparisons, the functions of the laws. -/
import Derived.Test.YtnddmjhpplopbaaGreatV07x
import Derived.Test.YtnddmjhpplopbaaGreatV07n
import Derived.Test.YtnddmjhpplopbaaGreatPlain07h
import Derived.Test.YtnddmjhpplopbaaGreatIn0
set_option linter.unusedVariables false
set_option linter.unusedSimpArgs false
set_option maxRecDepth 20000
namespace Go.Proofs.YtnddmjhpplopbaaGreat
open Go.Abs Go.RowKit

theorem ref07_tights_abs {l : List Con} (h64 : ∀ c ∈ l, con64 c) (hs : ∀ c ∈ l, c.1.2.length ≤ 1000000000) : PCalls Tryz.prog n_ref07_tights [aCons l] (aConsE (tightL l)) := by
 refine PCalls.of is_ref07_tights (by simp) fun _ => runW_sound ?_
 simp only [c_ref07_tights]
 unfold tightL
 by_cases hl : 256 < l.length
 ·rw [if_pos hl]
  repeat' first | simp (disch := omega) only [go_sem, ↓reduceIte, Nat.reduceEqDiff, reduceCtorEq, Int.reduceEq] | ((with_reducible first | refine condD ?_ ?_ | refine condX ?_ ?_ | refine condW_intro ?_ ?_) <;> intro h <;> first | (exfalso; omega) | simp (disch := omega) only [go_sem, ↓reduceIte, Nat.reduceEqDiff, reduceCtorEq, Int.reduceEq, *] | skip)
  all_goals rfl
 ·rw [if_neg hl]
  obtain ⟨R, hR⟩ : ∃ R, R = tightG [] (l.drop 0) := ⟨_, rfl⟩
  have hR0 : tightG [] l = R := hR.symm
  rw [hR0]
  have HR := Lib.hid hR
  clear hR hR0
  repeat' first | simp (disch := omega) only [go_sem, ↓reduceIte, Nat.reduceEqDiff, reduceCtorEq, Int.reduceEq] | ((with_reducible first | refine condD ?_ ?_ | refine condX ?_ ?_ | refine condW_intro ?_ ?_) <;> intro h <;> first | (exfalso; omega) | simp (disch := omega) only [go_sem, ↓reduceIte, Nat.reduceEqDiff, reduceCtorEq, Int.reduceEq, *] | skip)
  refine AW_adopt 4 27 3 rfl (by decide) ?_
  refine AW_loop (fun s : Nat × List Con => ⟨[(0, aCons l), (4, .c (.ref 0)), (5, I s.1)], [(0, .arr 27 3 (s.2.map cP))], 1, 0⟩) (fun s => s.1 ≤ l.length ∧ s.2.length ≤ s.1 ∧ Hid (R = tightG s.2 (l.drop s.1))) (fun s => l.length - s.1) ⟨(0, []), [], ⟨Nat.zero_le _, Nat.le_refl _, HR⟩, by simp [Wk, wkF, wkM, wkL, look_cons, renV, renA, renC, renB, rn, clV, clA, clAs, clB, notIn, findB, findB_setB, clA.go]⟩ ?_
  clear HR
  rintro ⟨j, acc⟩ ⟨hj, hacc, HR⟩
  refine runW_sound ?_
  simp only at hj hacc HR
  by_cases hlt : j < l.length
  ·have g1 := map_get (f := cP) hlt
   have pT := ref07_Tight_abs (h64 _ (List.getElem_mem hlt)) (hs _ (List.getElem_mem hlt))
   have h2 := HR.out
   rw [List.drop_eq_getElem_cons hlt, tightG] at h2
   clear HR
   generalize tightS l[j] = T at *
   generalize l[j] = c at *
   obtain ⟨⟨ck, cl⟩, q⟩ := c
   obtain ⟨⟨⟨tk, tl⟩, tq⟩, tt, te⟩ := T
   simp only [cP] at g1
   simp only at h2 pT
   by_cases he : te = 0
   ·subst he
    rw [if_neg (by simp)] at h2
    have HR := Lib.hid h2
    clear h2
    repeat' first | simp (disch := omega) only [go_sem, ↓reduceIte, Nat.reduceEqDiff, reduceCtorEq, Int.reduceEq, g1, wrap_i64] | ((with_reducible first | refine condD ?_ ?_ | refine condX ?_ ?_ | refine condW_intro ?_ ?_) <;> intro h <;> first | (exfalso; omega) | simp (disch := omega) only [go_sem, ↓reduceIte, Nat.reduceEqDiff, reduceCtorEq, Int.reduceEq, *, g1, wrap_i64] | skip) | (refine callW_of pT rfl (.inr rfl) ?_) | (refine app_own rfl (by intro h; cases h) (rowsOk_one rfl) (by simp; omega) (by simp; omega) ?_)
    exact ⟨(j + 1, acc ++ [((tk, tl), tq)]), [(0, 2)], ⟨hlt, by simp; omega, HR⟩, by show _ - _ < _ - _; omega, by simp [Wk, wkF, wkM, wkL, look_cons, renV, renA, renC, renB, rn, clV, clA, clAs, clB, notIn, findB, findB_setB, clA.go, cP]⟩
   ·rw [if_pos he] at h2
    subst h2
    repeat' first | simp (disch := omega) only [go_sem, ↓reduceIte, Nat.reduceEqDiff, reduceCtorEq, Int.reduceEq, g1, he, wrap_i64] | ((with_reducible first | refine condD ?_ ?_ | refine condX ?_ ?_ | refine condW_intro ?_ ?_) <;> intro h <;> first | (exfalso; omega) | simp (disch := omega) only [go_sem, ↓reduceIte, Nat.reduceEqDiff, reduceCtorEq, Int.reduceEq, *, g1, he, wrap_i64] | skip) | (refine callW_of pT rfl (.inr rfl) ?_)
    all_goals rfl
  ·have h2 := HR.out
   rw [List.drop_eq_nil_of_le (by omega), tightG] at h2
   clear HR
   subst h2
   repeat' first | simp (disch := omega) only [go_sem, ↓reduceIte, Nat.reduceEqDiff, reduceCtorEq, Int.reduceEq] | ((with_reducible first | refine condD ?_ ?_ | refine condX ?_ ?_ | refine condW_intro ?_ ?_) <;> intro h <;> first | (exfalso; omega) | simp (disch := omega) only [go_sem, ↓reduceIte, Nat.reduceEqDiff, reduceCtorEq, Int.reduceEq, *] | skip)
   all_goals rfl
end Go.Proofs.YtnddmjhpplopbaaGreat
