/- Walks by the abstract machine: what implies answers, certificates. -/
import Derived.Test.YtnddmjhpplopbaaV08a
set_option linter.unusedVariables false
set_option linter.unusedSimpArgs false
set_option maxRecDepth 20000
namespace Go.Proofs.Ytnddmjhpplopbaa
open Go.Abs Go.RowKit

theorem entail_with_abs {l : List Con} (c : Con) (hl : l.length ≤ 1000000000) : PCalls Try.prog n_entail_with [aCons l, aCon c] (aCons (l ++ [c])) := by
 refine PCalls.of is_entail_with (by simp) fun _ => runW_sound ?_
 simp only [c_entail_with]
 obtain ⟨⟨K, m⟩, q⟩ := c
 cases l with
 | nil =>
  repeat' first | simp (disch := omega) only [go_sem, ↓reduceIte, Nat.reduceEqDiff, reduceCtorEq, Int.reduceEq] | ((with_reducible first | refine condD ?_ ?_ | refine condX ?_ ?_ | refine condW_intro ?_ ?_) <;> intro h <;> first | (exfalso; omega) | simp (disch := omega) only [go_sem, ↓reduceIte, Nat.reduceEqDiff, reduceCtorEq, Int.reduceEq, *] | skip) | (with_reducible refine bothW_intro ?_ ?_) | (with_reducible refine nilW_intro (fun h => ?_) ?_) | (refine callW_i (Clone_nil _) ?_) | (refine app_tsl (by intro r hr; cases hr) (rowsOk_one rfl) (by simp) (by simp) (by simp) ?_)
  all_goals rfl
 | cons x l =>
  simp only [List.length_cons] at hl
  repeat' first | simp (disch := omega) only [go_sem, ↓reduceIte, Nat.reduceEqDiff, reduceCtorEq, Int.reduceEq] | ((with_reducible first | refine condD ?_ ?_ | refine condX ?_ ?_ | refine condW_intro ?_ ?_) <;> intro h <;> first | (exfalso; omega) | simp (disch := omega) only [go_sem, ↓reduceIte, Nat.reduceEqDiff, reduceCtorEq, Int.reduceEq, *] | skip) | (with_reducible refine bothW_intro ?_ ?_) | (with_reducible refine nilW_intro (fun h => ?_) ?_) | (refine callW_i (Clone_cons _ x l (by omega)) ?_) | (refine app_own rfl (by intro h; cases h) (rowsOk_one rfl) (by simp; omega) (by simp; omega) ?_)
  all_goals simp [cP]
theorem implG_drop {l P : List Con} {fuel : Int} {acc : List Int} {i : Nat} (h : i < P.length) : implG l fuel (P.drop i) acc = if (infS (l ++ [P[i]]) fuel).2.2 ≠ 0 then ([], false, (infS (l ++ [P[i]]) fuel).2.2) else if (infS (l ++ [P[i]]) fuel).2.1 = false then ([], false, 0) else implG l fuel (P.drop (i + 1)) (acc ++ (infS (l ++ [P[i]]) fuel).1) := by
 rw [List.drop_eq_getElem_cons h, implG]
theorem tot_one {l : List Con} {p : Con} : tot (l ++ [p]) = tot l + p.1.2.length := by rw [tot_append]; simp [tot]
set_option maxHeartbeats 2000000 in
theorem entail_Implies_abs {l : List Con} {c : Con} {fuel : Int} (h64 : ∀ d ∈ l, con64 d) (hc : con64 c) (hl : l.length ≤ 1000) (ht : tot l + c.1.2.length ≤ 1000000) (hf : in64 fuel) :
  PCalls Try.prog n_entail_Implies [aCons l, aCon c, I fuel] (aInf (implS l c fuel)) := by
 refine PCalls.of is_entail_Implies (by simp) fun _ => runW_sound ?_
 simp only [c_entail_Implies]
 have pn := entail_negation_abs (l := l) hc (by unfold short; omega)
 have hn64 := negaS_64 (l := l) hc
 have hntot := fun d (hd : d ∈ (negaS l c).1) => negaS_tot hd
 have hn2 := negaS_two l c
 unfold implS
 generalize negaS l c = X at *
 obtain ⟨P, e⟩ := X
 obtain ⟨⟨K, m⟩, q⟩ := c
 simp only at pn hn64 hntot hn2 ht ⊢
 by_cases h0 : e = 0
 ·subst h0
  rw [if_neg (by simp)]
  obtain ⟨R, hR⟩ : ∃ R, R = implG l fuel (P.drop 0) [] := ⟨_, rfl⟩
  have hR0 : implG l fuel P [] = R := hR.symm
  rw [hR0]
  have HR := Lib.hid hR
  clear hR hR0
  repeat' first | simp (disch := omega) only [go_sem, ↓reduceIte, Nat.reduceEqDiff, reduceCtorEq, Int.reduceEq] | ((with_reducible first | refine condD ?_ ?_ | refine condX ?_ ?_ | refine condW_intro ?_ ?_) <;> intro h <;> first | (exfalso; omega) | simp (disch := omega) only [go_sem, ↓reduceIte, Nat.reduceEqDiff, reduceCtorEq, Int.reduceEq, *] | skip) | (refine callW_of pn rfl (.inr rfl) ?_)
  refine AW_adopt 11 2 1 rfl (by decide) ?_
  refine AW_loop (fun s : Nat × List Int => ⟨[(0, aCons l), (2, I fuel), (11, .c (.ref 1)), (26, aCons P), (27, I P.length), (28, I s.1)], [(1, .arr 2 1 (s.2.map fun n => [pI n]))], 2, 0⟩)
   (fun s => s.1 ≤ P.length ∧ s.2.length ≤ s.1 * 1001 ∧ Hid (R = implG l fuel (P.drop s.1) s.2)) (fun s => P.length - s.1) ⟨(0, []), [], ⟨Nat.zero_le _, by simp, HR⟩, by simp [Wk, wkF, wkM, wkL, look_cons, renV, renA, renC, renB, rn, clV, clA, clAs, clB, notIn, findB, findB_setB, clA.go]⟩ ?_
  clear HR pn
  rintro ⟨i, acc⟩ ⟨hi, ha, HR⟩
  simp only at hi ha HR
  refine runW_sound ?_
  by_cases hlt : i < P.length
  ·have g1 := map_get (f := cP) hlt
   have h2 := HR.out
   rw [implG_drop hlt] at h2
   have hp := hn64 _ (List.getElem_mem hlt)
   have hpt := hntot _ (List.getElem_mem hlt)
   have pw := entail_with_abs (l := l) P[i] (by omega)
   have pi := elim_Infeasible_abs (l := l ++ [P[i]]) (fuel := fuel) (app_64 h64 hp) (by rw [tot_one]; omega) hf
   have hlen := infS_len (l := l ++ [P[i]]) (fuel := fuel) (app_64 h64 hp)
   rw [List.length_append, List.length_singleton] at hlen
   clear HR hp hpt hn64 hntot
   generalize infS (l ++ [P[i]]) fuel = Y at *
   obtain ⟨by', ok, e⟩ := Y
   generalize P[i] = p at *
   obtain ⟨⟨pk, pl⟩, pq⟩ := p
   simp only [cP] at g1
   simp only at h2 pw pi hlen
   have hok := rowsOk_map (f := fun n : Int => [pI n]) (sz := 1) (xs := by') fun _ => rfl
   by_cases he : e = 0
   ·subst he
    rw [if_neg (by simp)] at h2
    cases ok
    ·rw [if_pos rfl] at h2
     subst h2
     clear hok
     repeat' first | simp (disch := omega) only [go_sem, ↓reduceIte, Nat.reduceEqDiff, reduceCtorEq, Int.reduceEq, g1, wrap_i64] | ((with_reducible first | refine condD ?_ ?_ | refine condX ?_ ?_ | refine condW_intro ?_ ?_) <;> intro h <;> first | (exfalso; omega) | simp (disch := omega) only [go_sem, ↓reduceIte, Nat.reduceEqDiff, reduceCtorEq, Int.reduceEq, *, g1, wrap_i64] | skip) | (refine callW_of pw rfl (.inr rfl) ?_) | (refine callW_of pi rfl (.inr rfl) ?_)
     all_goals rfl
    ·rw [if_neg (by simp)] at h2
     have HR := Lib.hid h2
     clear h2
     repeat' first | simp (disch := omega) only [go_sem, ↓reduceIte, Nat.reduceEqDiff, reduceCtorEq, Int.reduceEq, g1, wrap_i64] | ((with_reducible first | refine condD ?_ ?_ | refine condX ?_ ?_ | refine condW_intro ?_ ?_) <;> intro h <;> first | (exfalso; omega) | simp (disch := omega) only [go_sem, ↓reduceIte, Nat.reduceEqDiff, reduceCtorEq, Int.reduceEq, *, g1, wrap_i64] | skip) | (refine callW_of pw rfl (.inr rfl) ?_) | (refine callW_of pi rfl (.inr rfl) ?_) | (refine app_own rfl (by intro h; cases h) hok (by simp; omega) (by simp; omega) ?_)
     exact ⟨(i + 1, acc ++ by'), [(1, 3)], ⟨hlt, by simp; omega, HR⟩, by show _ - _ < _ - _; omega, by simp [Wk, wkF, wkM, wkL, look_cons, renV, renA, renC, renB, rn, clV, clA, clAs, clB, notIn, findB, findB_setB, clA.go]⟩
   ·rw [if_pos he] at h2
    subst h2
    clear hok
    repeat' first | simp (disch := omega) only [go_sem, ↓reduceIte, Nat.reduceEqDiff, reduceCtorEq, Int.reduceEq, g1, he, wrap_i64] | ((with_reducible first | refine condD ?_ ?_ | refine condX ?_ ?_ | refine condW_intro ?_ ?_) <;> intro h <;> first | (exfalso; omega) | simp (disch := omega) only [go_sem, ↓reduceIte, Nat.reduceEqDiff, reduceCtorEq, Int.reduceEq, *, g1, he, wrap_i64] | skip) | (refine callW_of pw rfl (.inr rfl) ?_) | (refine callW_of pi rfl (.inr rfl) ?_)
    all_goals rfl
  ·have h2 := HR.out
   rw [List.drop_eq_nil_of_le (by omega), implG] at h2
   subst h2
   clear HR hn64 hntot
   repeat' first | simp (disch := omega) only [go_sem, ↓reduceIte, Nat.reduceEqDiff, reduceCtorEq, Int.reduceEq] | ((with_reducible first | refine condD ?_ ?_ | refine condX ?_ ?_ | refine condW_intro ?_ ?_) <;> intro h <;> first | (exfalso; omega) | simp (disch := omega) only [go_sem, ↓reduceIte, Nat.reduceEqDiff, reduceCtorEq, Int.reduceEq, *] | skip)
   all_goals rfl
 ·rw [if_pos h0]
  repeat' first | simp (disch := omega) only [go_sem, ↓reduceIte, Nat.reduceEqDiff, reduceCtorEq, Int.reduceEq, h0] | ((with_reducible first | refine condD ?_ ?_ | refine condX ?_ ?_ | refine condW_intro ?_ ?_) <;> intro h <;> first | (exfalso; omega) | simp (disch := omega) only [go_sem, ↓reduceIte, Nat.reduceEqDiff, reduceCtorEq, Int.reduceEq, *, h0] | skip) | (refine callW_of pn rfl (.inr rfl) ?_)
  all_goals rfl
theorem chkG_drop {l P : List Con} {b : List Int} {i : Nat} (h : i < P.length) : chkG l b i (P.drop i) = if checkS (l ++ [P[i]]) ((b.take ((i + 1) * (l.length + 1))).drop (i * (l.length + 1))) ≠ 0 then checkS (l ++ [P[i]]) ((b.take ((i + 1) * (l.length + 1))).drop (i * (l.length + 1))) else chkG l b (i + 1) (P.drop (i + 1)) := by
 rw [List.drop_eq_getElem_cons h, chkG]
end Go.Proofs.Ytnddmjhpplopbaa
