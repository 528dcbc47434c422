/- Walks by the abstract machine: the functions of the laws of layer 7. -/
import Derived.Test.YtnddmjhpplopbaaV07y
import Derived.Test.YtnddmjhpplopbaaCodesL
set_option linter.unusedVariables false
set_option linter.unusedSimpArgs false
set_option maxRecDepth 20000
namespace Go.Proofs.Ytnddmjhpplopbaa
open Go.Abs Go.RowKit

/-- Few constraints of few monomials. -/
def fewP (l : List Con) (n : Int) : Prop := (l.length : Int) ≤ n ∧ ∀ c ∈ l, c.1.2.length ≤ 20
noncomputable instance (l : List Con) (n : Int) : Decidable (fewP l n) := Classical.propDecidable _
theorem law07_few_abs (l : List Con) (n : Int) : PCalls Try.prog n_law07_few [aCons l, I n] (Go.Abs.B (decide (fewP l n))) := by
 refine PCalls.of is_law07_few (by simp) fun hb => runW_sound ?_
 have hbl : l.length ≤ 9223372036854775807 := by have := hb.1; simpa [bndV, bndA] using this
 clear hb
 simp only [c_law07_few]
 by_cases h0 : (l.length : Int) > n
 ·rw [decide_eq_false (fun h => by have := h.1; omega)]
  repeat' first | simp (disch := omega) only [go_sem, ↓reduceIte, Nat.reduceEqDiff, reduceCtorEq, Int.reduceEq, h0] | ((with_reducible first | refine condD ?_ ?_ | refine condX ?_ ?_ | refine condW_intro ?_ ?_) <;> intro h <;> first | (exfalso; omega) | simp (disch := omega) only [go_sem, ↓reduceIte, Nat.reduceEqDiff, reduceCtorEq, Int.reduceEq, *, h0] | skip)
  all_goals rfl
 ·obtain ⟨R, hR⟩ : ∃ R, R = decide (fewP l n) := ⟨_, rfl⟩
  rw [← hR]
  have HR := Lib.hid hR
  clear hR
  repeat' first | simp (disch := omega) only [go_sem, ↓reduceIte, Nat.reduceEqDiff, reduceCtorEq, Int.reduceEq, h0] | ((with_reducible first | refine condD ?_ ?_ | refine condX ?_ ?_ | refine condW_intro ?_ ?_) <;> intro h <;> first | (exfalso; omega) | simp (disch := omega) only [go_sem, ↓reduceIte, Nat.reduceEqDiff, reduceCtorEq, Int.reduceEq, *, h0] | skip)
  refine AW_loop (fun k : Nat => ⟨[(0, aCons l), (5, I k)], [], 0, 0⟩) (fun k => k ≤ l.length ∧ Hid (∀ c ∈ l.take k, c.1.2.length ≤ 20)) (fun k => l.length - k) ⟨0, [], ⟨Nat.zero_le _, Lib.hid (by simp)⟩, by simp [Wk, wkF, wkM, wkL, look_cons, renV, renA, renC, renB, rn, clV, clA, clAs, clB, notIn, findB, findB_setB, clA.go]⟩ ?_
  rintro k ⟨hk, HT⟩
  refine runW_sound ?_
  by_cases hlt : k < l.length
  ·have g1 := map_get (f := cP) hlt
   by_cases hc : l[k].1.2.length ≤ 20
   ·have HT' : Hid (∀ c ∈ l.take (k + 1), c.1.2.length ≤ 20) := Lib.hid (by
     rw [List.take_succ_eq_append_getElem hlt]
     intro c hcm
     rcases List.mem_append.1 hcm with h | h
     ·exact HT.out c h
     ·rw [List.mem_singleton.1 h]; exact hc)
    clear HT
    generalize l[k] = c at *
    obtain ⟨⟨ck, cl⟩, q⟩ := c
    simp only [cP] at g1
    simp only at hc
    repeat' first | simp (disch := omega) only [go_sem, ↓reduceIte, Nat.reduceEqDiff, reduceCtorEq, Int.reduceEq, g1, wrap_i64] | ((with_reducible first | refine condD ?_ ?_ | refine condX ?_ ?_ | refine condW_intro ?_ ?_) <;> intro h <;> first | (exfalso; omega) | simp (disch := omega) only [go_sem, ↓reduceIte, Nat.reduceEqDiff, reduceCtorEq, Int.reduceEq, *, g1, wrap_i64] | skip)
    exact ⟨k + 1, [], ⟨hlt, HT'⟩, by omega, by simp [Wk, wkF, wkM, wkL, look_cons, renV, renA, renC, renB, rn, clV, clA, clAs, clB, notIn, findB, findB_setB, clA.go]⟩
   ·have hR : R = false := by
     rw [HR.out]
     exact decide_eq_false fun h => hc (h.2 _ (List.getElem_mem hlt))
    subst hR
    clear HT HR
    generalize l[k] = c at *
    obtain ⟨⟨ck, cl⟩, q⟩ := c
    simp only [cP] at g1
    simp only at hc
    have hc' : (cl.length : Int) > 20 := by omega
    repeat' first | simp (disch := omega) only [go_sem, ↓reduceIte, Nat.reduceEqDiff, reduceCtorEq, Int.reduceEq, g1, hc', wrap_i64] | ((with_reducible first | refine condD ?_ ?_ | refine condX ?_ ?_ | refine condW_intro ?_ ?_) <;> intro h <;> first | (exfalso; omega) | simp (disch := omega) only [go_sem, ↓reduceIte, Nat.reduceEqDiff, reduceCtorEq, Int.reduceEq, *, g1, hc', wrap_i64] | skip)
    all_goals rfl
  ·have hR : R = true := by
    rw [HR.out]
    have h := HT.out
    rw [List.take_of_length_le (by omega)] at h
    exact decide_eq_true ⟨by omega, h⟩
   subst hR
   clear HT HR
   repeat' first | simp (disch := omega) only [go_sem, ↓reduceIte, Nat.reduceEqDiff, reduceCtorEq, Int.reduceEq] | ((with_reducible first | refine condD ?_ ?_ | refine condX ?_ ?_ | refine condW_intro ?_ ?_) <;> intro h <;> first | (exfalso; omega) | simp (disch := omega) only [go_sem, ↓reduceIte, Nat.reduceEqDiff, reduceCtorEq, Int.reduceEq, *] | skip)
   all_goals rfl
theorem few_tot : ∀ {l : List Con}, (∀ c ∈ l, c.1.2.length ≤ 20) → tot l ≤ 20 * l.length
 | [], _ => by simp [tot]
 |c :: l, h => by
  have h1 := h c List.mem_cons_self
  have h2 := few_tot fun d hd => h d (List.mem_cons_of_mem _ hd)
  simp only [tot, List.length_cons]
  omega
theorem law07_atLeast_abs (k : Int) (l : List Mono) : PCalls Try.prog n_law07_atLeast [I k, .c (.pure (pMonos l))] (aCon ((k, l), false)) := by
 refine PCalls.of is_law07_atLeast (by simp) fun hb => runW_sound ?_
 simp only [c_law07_atLeast]
 repeat' first | simp (disch := omega) only [go_sem, ↓reduceIte, Nat.reduceEqDiff, reduceCtorEq, Int.reduceEq] | ((with_reducible first | refine condD ?_ ?_ | refine condX ?_ ?_ | refine condW_intro ?_ ?_) <;> intro h <;> first | (exfalso; omega) | simp (disch := omega) only [go_sem, ↓reduceIte, Nat.reduceEqDiff, reduceCtorEq, Int.reduceEq, *] | skip)
 all_goals rfl
theorem exL_64 : ∀ c ∈ exL, con64 c := by
 intro c hc
 simp only [List.mem_cons, List.not_mem_nil, or_false] at hc
 rcases hc with rfl | rfl <;> exact ⟨by simp [in64], by simp [in64]⟩
theorem exLow_64 : con64 exLow := ⟨by simp [in64], by simp [in64]⟩
theorem exUp_64 : con64 exUp := ⟨by simp [in64], by simp [in64]⟩
theorem law07_examples_abs : PCalls Try.prog n_law07_examples [] (Go.Abs.B true) := by
 refine PCalls.of is_law07_examples (by simp) fun hb => runW_sound ?_
 have p1 := law07_atLeast_abs (-3) [(nI, 2)]
 have p2 := law07_atLeast_abs 0 [(nI, -3), (nJ, 1)]
 have p3 := law07_atLeast_abs (-1) [(nI, 2)]
 have p4 := law07_atLeast_abs 1 [(nI, -2)]
 have p5 := law07_atLeast_abs (-9) [(nJ, 2)]
 have p6 := elim_Combine_abs (n := nI) exLow_64 exUp_64 (by decide)
 rw [ex_cancel] at p6
 have p7 := elim_Infeasible_abs (l := exL) (fuel := 1048576) exL_64 (by decide) (by simp [in64])
 rw [ex_infeasible] at p7
 have p8 := elim_CheckCertificate_abs (l := exL) (b := [1, 1]) exL_64 (by decide) (by simp [in64])
 rw [ex_check] at p8
 have p9 := elim_CheckCertificate_abs (l := exL) (b := [1, 0]) exL_64 (by decide) (by simp [in64])
 rw [ex_unproved] at p9
 have p10 := base_Con_abs ((-9, [(nJ, 2)]), false) ((-9, [(nJ, 2)]), false)
 rw [decide_eq_true rfl] at p10
 simp only [c_law07_examples]
 repeat' first | simp (disch := omega) only [go_sem, ↓reduceIte, Nat.reduceEqDiff, reduceCtorEq, Int.reduceEq] | ((with_reducible first | refine condD ?_ ?_ | refine condX ?_ ?_ | refine condW_intro ?_ ?_) <;> intro h <;> first | (exfalso; omega) | simp (disch := omega) only [go_sem, ↓reduceIte, Nat.reduceEqDiff, reduceCtorEq, Int.reduceEq, *] | skip) | (refine callW_of p1 rfl (.inr rfl) ?_) | (refine callW_of p2 rfl (.inr rfl) ?_) | (refine callW_of p3 rfl (.inr rfl) ?_) | (refine callW_of p4 rfl (.inr rfl) ?_) | (refine callW_of p5 rfl (.inr rfl) ?_) | (refine callW_of p6 rfl (.inr rfl) ?_) | (refine callW_of p7 rfl (.inr rfl) ?_) | (refine callW_of p8 rfl (.inl rfl) ?_) | (refine callW_of p9 rfl (.inl rfl) ?_) | (refine callW_of p10 rfl (.inl rfl) ?_)
 all_goals rfl
end Go.Proofs.Ytnddmjhpplopbaa
