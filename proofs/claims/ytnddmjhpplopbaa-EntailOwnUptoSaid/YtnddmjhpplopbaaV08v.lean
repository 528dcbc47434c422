/- Walks by the abstract machine: the reference's validity. -/
import Derived.Test.YtnddmjhpplopbaaV08b
set_option linter.unusedVariables false
set_option linter.unusedSimpArgs false
set_option maxRecDepth 20000
namespace Go.Proofs.Ytnddmjhpplopbaa
open Go.Abs Go.RowKit

theorem ref06_Validate_abs (c : Con) : PCalls Try.prog n_ref06_Validate [aCon c] (I (if linOk c.1.2 then 0 else 1)) := by
 refine PCalls.of is_ref06_Validate (by simp) fun _ => runW_sound ?_
 simp only [c_ref06_Validate]
 have pv := base_LinRight_abs c.1.1 c.1.2
 obtain ⟨⟨k, l⟩, q⟩ := c
 try simp only at pv ⊢
 by_cases h : linOk l
 ·rw [decide_eq_true h] at pv
  rw [if_pos h]
  clear h
  repeat' first | simp (disch := omega) only [go_sem, ↓reduceIte, Nat.reduceEqDiff, reduceCtorEq, Int.reduceEq] | ((with_reducible first | refine condD ?_ ?_ | refine condX ?_ ?_ | refine condW_intro ?_ ?_) <;> intro h <;> first | (exfalso; omega) | simp (disch := omega) only [go_sem, ↓reduceIte, Nat.reduceEqDiff, reduceCtorEq, Int.reduceEq, *] | skip) | (refine callW_of pv rfl (.inl rfl) ?_)
  all_goals rfl
 ·rw [decide_eq_false h] at pv
  rw [if_neg h]
  clear h
  repeat' first | simp (disch := omega) only [go_sem, ↓reduceIte, Nat.reduceEqDiff, reduceCtorEq, Int.reduceEq] | ((with_reducible first | refine condD ?_ ?_ | refine condX ?_ ?_ | refine condW_intro ?_ ?_) <;> intro h <;> first | (exfalso; omega) | simp (disch := omega) only [go_sem, ↓reduceIte, Nat.reduceEqDiff, reduceCtorEq, Int.reduceEq, *] | skip) | (refine callW_of pv rfl (.inl rfl) ?_)
  all_goals rfl
theorem ref08_Valid_abs (l : List Con) : PCalls Try.prog n_ref08_Valid [aCons l] (Go.Abs.B (decide (okL l))) := by
 refine PCalls.of is_ref08_Valid (by simp) fun hb => runW_sound ?_
 have hbl : l.length ≤ 9223372036854775807 := by have := hb.1; simpa [bndV, bndA] using this
 clear hb
 simp only [c_ref08_Valid]
 obtain ⟨R, hR⟩ : ∃ R, R = decide (okL l) := ⟨_, rfl⟩
 rw [← hR]
 have HR := Lib.hid hR
 clear hR
 repeat' first | simp (disch := omega) only [go_sem, ↓reduceIte, Nat.reduceEqDiff, reduceCtorEq, Int.reduceEq] | ((with_reducible first | refine condD ?_ ?_ | refine condX ?_ ?_ | refine condW_intro ?_ ?_) <;> intro h <;> first | (exfalso; omega) | simp (disch := omega) only [go_sem, ↓reduceIte, Nat.reduceEqDiff, reduceCtorEq, Int.reduceEq, *] | skip)
 refine AW_loop (fun k : Nat => ⟨[(0, aCons l), (3, I k)], [], 0, 0⟩) (fun k => k ≤ l.length ∧ Hid (∀ c ∈ l.take k, linOk c.1.2)) (fun k => l.length - k) ⟨0, [], ⟨Nat.zero_le _, Lib.hid (by simp)⟩, by simp [Wk, wkF, wkM, wkL, look_cons, renV, renA, renC, renB, rn, clV, clA, clAs, clB, notIn, findB, findB_setB, clA.go]⟩ ?_
 rintro k ⟨hk, HT⟩
 refine runW_sound ?_
 by_cases hlt : k < l.length
 ·have g1 := map_get (f := cP) hlt
  have pv := ref06_Validate_abs l[k]
  by_cases hc : linOk l[k].1.2
  ·have HT' : Hid (∀ c ∈ l.take (k + 1), linOk c.1.2) := Lib.hid (by
    rw [List.take_succ_eq_append_getElem hlt]
    intro c hcm
    rcases List.mem_append.1 hcm with h | h
    ·exact HT.out c h
    ·rw [List.mem_singleton.1 h]; exact hc)
   rw [if_pos hc] at pv
   clear HT hc
   generalize l[k] = c at *
   obtain ⟨⟨ck, cl⟩, q⟩ := c
   simp only [cP] at g1
   try simp only at pv
   repeat' first | simp (disch := omega) only [go_sem, ↓reduceIte, Nat.reduceEqDiff, reduceCtorEq, Int.reduceEq, g1, wrap_i64] | ((with_reducible first | refine condD ?_ ?_ | refine condX ?_ ?_ | refine condW_intro ?_ ?_) <;> intro h <;> first | (exfalso; omega) | simp (disch := omega) only [go_sem, ↓reduceIte, Nat.reduceEqDiff, reduceCtorEq, Int.reduceEq, *, g1, wrap_i64] | skip) | (refine callW_of pv rfl (.inl rfl) ?_)
   exact ⟨k + 1, [], ⟨hlt, HT'⟩, by omega, by simp [Wk, wkF, wkM, wkL, look_cons, renV, renA, renC, renB, rn, clV, clA, clAs, clB, notIn, findB, findB_setB, clA.go]⟩
  ·have hR : R = false := by
    rw [HR.out]
    exact decide_eq_false fun h => hc (h _ (List.getElem_mem hlt))
   subst hR
   rw [if_neg hc] at pv
   clear HT HR hc
   generalize l[k] = c at *
   obtain ⟨⟨ck, cl⟩, q⟩ := c
   simp only [cP] at g1
   try simp only at pv
   repeat' first | simp (disch := omega) only [go_sem, ↓reduceIte, Nat.reduceEqDiff, reduceCtorEq, Int.reduceEq, g1, wrap_i64] | ((with_reducible first | refine condD ?_ ?_ | refine condX ?_ ?_ | refine condW_intro ?_ ?_) <;> intro h <;> first | (exfalso; omega) | simp (disch := omega) only [go_sem, ↓reduceIte, Nat.reduceEqDiff, reduceCtorEq, Int.reduceEq, *, g1, wrap_i64] | skip) | (refine callW_of pv rfl (.inl rfl) ?_)
   all_goals rfl
 ·have hR : R = true := by
   rw [HR.out]
   have h := HT.out
   rw [List.take_of_length_le (by omega)] at h
   exact decide_eq_true h
  subst hR
  clear HT HR
  repeat' first | simp (disch := omega) only [go_sem, ↓reduceIte, Nat.reduceEqDiff, reduceCtorEq, Int.reduceEq] | ((with_reducible first | refine condD ?_ ?_ | refine condX ?_ ?_ | refine condW_intro ?_ ?_) <;> intro h <;> first | (exfalso; omega) | simp (disch := omega) only [go_sem, ↓reduceIte, Nat.reduceEqDiff, reduceCtorEq, Int.reduceEq, *] | skip)
  all_goals rfl
end Go.Proofs.Ytnddmjhpplopbaa
