/- Walks by the abstract machine: tight constraints. -/
import Derived.Test.YtkdgmbakhkdegaaV07i
set_option linter.unusedVariables false
set_option linter.unusedSimpArgs false
set_option maxRecDepth 20000
namespace Go.Proofs.Ytkdgmbakhkdegaa
open Go.Abs Go.RowKit

theorem divL_take {l : List Mono} {g k : Nat} (h : k < l.length) : (divL g (l.take (k + 1))).map mP = (divL g (l.take k)).map mP ++ [[pS l[k].1, pI (l[k].2 / (g : Int))]] := by
 rw [List.take_succ_eq_append_getElem h]
 show ((l.take k ++ [l[k]]).map _).map mP = _
 rw [List.map_append, List.map_append]
 rfl
theorem constraint_divided_abs {k : Int} {l : List Mono} {g : Nat} (hk : in64 k) (h64 : ∀ m ∈ l, in64 m.2) (h0 : ∀ m ∈ l, m.2 ≠ 0 ∧ (g : Int) ∣ m.2) (hg : 0 < g) (hg2 : g ≤ 9223372036854775808) (hl : l.length ≤ 1000000000) :
  PCalls Try.prog n_constraint_divided [aLin k l, U g] (aLin (k / (g : Int)) (divL g l)) := by
 refine PCalls.of is_constraint_divided (by simp) fun _ => runW_sound ?_
 simp only [c_constraint_divided]
 by_cases hb : g = 9223372036854775808
 ·have hbi : (g : Int) = 9223372036854775808 := by omega
  have hkd : k / (g : Int) = if k < 0 then -1 else 0 := by rw [hbi]; exact big_div hk
  have hmd : ∀ i (h : i < l.length), l[i].2 / (g : Int) = -1 := fun i h => by
   have h1 := h64 _ (List.getElem_mem h)
   obtain ⟨h2, h3⟩ := h0 _ (List.getElem_mem h)
   rw [hbi] at h3 ⊢
   obtain ⟨q, hq⟩ := h3
   unfold in64 at h1
   omega
  rw [hkd]
  by_cases hneg : k < 0
  all_goals
   first
    | rw [if_pos hneg]
    | rw [if_neg hneg]
   clear hkd
   repeat' first | simp (disch := omega) only [go_sem, ↓reduceIte, Nat.reduceEqDiff, reduceCtorEq, Int.reduceEq, hbi] | ((with_reducible first | refine condD ?_ ?_ | refine condX ?_ ?_ | refine condW_intro ?_ ?_) <;> intro h <;> first | (exfalso; omega) | simp (disch := omega) only [go_sem, ↓reduceIte, Nat.reduceEqDiff, reduceCtorEq, Int.reduceEq, *, hbi] | skip)
   refine AW_adoptM 2 1 67 2 _ rfl rfl (by decide) ?_
  ·refine AW_loop (fun j : Nat => ⟨[(2, .c (.ptr 0 0)), (4, .c (.ptr 1 0)), (5, .c (.ptr 2 0)), (19, .c (.pure (pMonos l))), (20, I l.length), (21, I j)],
    [(0, .var [.pure (pI k), .pure (pMonos l)]), (1, .var [.pure (pI 0), .nils]), (2, .var [.pure (pI (-1)), .ref 3]), (3, .arr 67 2 ((divL g (l.take j)).map mP))], 4, 0⟩) (fun j => j ≤ l.length) (fun j => l.length - j) ⟨0, [], Nat.zero_le _, by simp [Wk, wkF, wkM, wkL, look_cons, renV, renA, renC, renB, rn, clV, clA, clAs, clB, notIn, findB, findB_setB, clA.go, divL]⟩ ?_
   intro j hj
   refine runW_sound ?_
   by_cases hlt : j < l.length
   ·have e1 := divL_take (g := g) hlt
    have g1 := map_get (f := mP) hlt
    have hlen : (divL g (l.take j)).length ≤ 1000000000 := by simp [divL]; omega
    have hm := hmd j hlt
    rw [hm] at e1
    clear hm
    generalize l[j] = m at *
    obtain ⟨n, x⟩ := m
    simp only [mP] at g1 e1
    clear hmd
    generalize divL g (l.take j) = D0 at *
    repeat' first | simp (disch := omega) only [go_sem, ↓reduceIte, Nat.reduceEqDiff, reduceCtorEq, Int.reduceEq, g1, wrap_i64] | ((with_reducible first | refine condD ?_ ?_ | refine condX ?_ ?_ | refine condW_intro ?_ ?_) <;> intro h <;> first | (exfalso; omega) | simp (disch := omega) only [go_sem, ↓reduceIte, Nat.reduceEqDiff, reduceCtorEq, Int.reduceEq, *, g1, wrap_i64] | skip) | (refine app_own rfl (by intro h; cases h) (rowsOk_one rfl) (by simp; omega) (by simp; omega) ?_)
    exact ⟨j + 1, [(3, 5)], hlt, by omega, by simp [Wk, wkF, wkM, wkL, look_cons, renV, renA, renC, renB, rn, clV, clA, clAs, clB, notIn, findB, findB_setB, clA.go, e1]⟩
   ·obtain rfl : j = l.length := by omega
    rw [List.take_of_length_le (Nat.le_refl _)]
    repeat' first | simp (disch := omega) only [go_sem, ↓reduceIte, Nat.reduceEqDiff, reduceCtorEq, Int.reduceEq] | ((with_reducible first | refine condD ?_ ?_ | refine condX ?_ ?_ | refine condW_intro ?_ ?_) <;> intro h <;> first | (exfalso; omega) | simp (disch := omega) only [go_sem, ↓reduceIte, Nat.reduceEqDiff, reduceCtorEq, Int.reduceEq, *] | skip)
  ·refine AW_loop (fun j : Nat => ⟨[(2, .c (.ptr 0 0)), (4, .c (.ptr 1 0)), (5, .c (.ptr 2 0)), (19, .c (.pure (pMonos l))), (20, I l.length), (21, I j)],
    [(0, .var [.pure (pI k), .pure (pMonos l)]), (1, .var [.pure (pI 0), .nils]), (2, .var [.pure (pI (0)), .ref 3]), (3, .arr 67 2 ((divL g (l.take j)).map mP))], 4, 0⟩) (fun j => j ≤ l.length) (fun j => l.length - j) ⟨0, [], Nat.zero_le _, by simp [Wk, wkF, wkM, wkL, look_cons, renV, renA, renC, renB, rn, clV, clA, clAs, clB, notIn, findB, findB_setB, clA.go, divL]⟩ ?_
   intro j hj
   refine runW_sound ?_
   by_cases hlt : j < l.length
   ·have e1 := divL_take (g := g) hlt
    have g1 := map_get (f := mP) hlt
    have hlen : (divL g (l.take j)).length ≤ 1000000000 := by simp [divL]; omega
    have hm := hmd j hlt
    rw [hm] at e1
    clear hm
    generalize l[j] = m at *
    obtain ⟨n, x⟩ := m
    simp only [mP] at g1 e1
    clear hmd
    generalize divL g (l.take j) = D0 at *
    repeat' first | simp (disch := omega) only [go_sem, ↓reduceIte, Nat.reduceEqDiff, reduceCtorEq, Int.reduceEq, g1, wrap_i64] | ((with_reducible first | refine condD ?_ ?_ | refine condX ?_ ?_ | refine condW_intro ?_ ?_) <;> intro h <;> first | (exfalso; omega) | simp (disch := omega) only [go_sem, ↓reduceIte, Nat.reduceEqDiff, reduceCtorEq, Int.reduceEq, *, g1, wrap_i64] | skip) | (refine app_own rfl (by intro h; cases h) (rowsOk_one rfl) (by simp; omega) (by simp; omega) ?_)
    exact ⟨j + 1, [(3, 5)], hlt, by omega, by simp [Wk, wkF, wkM, wkL, look_cons, renV, renA, renC, renB, rn, clV, clA, clAs, clB, notIn, findB, findB_setB, clA.go, e1]⟩
   ·obtain rfl : j = l.length := by omega
    rw [List.take_of_length_le (Nat.le_refl _)]
    repeat' first | simp (disch := omega) only [go_sem, ↓reduceIte, Nat.reduceEqDiff, reduceCtorEq, Int.reduceEq] | ((with_reducible first | refine condD ?_ ?_ | refine condX ?_ ?_ | refine condW_intro ?_ ?_) <;> intro h <;> first | (exfalso; omega) | simp (disch := omega) only [go_sem, ↓reduceIte, Nat.reduceEqDiff, reduceCtorEq, Int.reduceEq, *] | skip)
 ·have hb' : ¬ (g : Int) = 9223372036854775808 := by omega
  have w1 : IntKind.wrap .i64 (g : Int) = g := wrap_i64 (by omega)
  have hg' : ¬ (g : Int) = 0 := by omega
  have p1 := constraint_floorDiv_abs hk hg hg2
  obtain ⟨Q, hQ⟩ : ∃ Q, Q = k / (g : Int) := ⟨_, rfl⟩
  rw [← hQ] at p1 ⊢
  clear hQ
  repeat' first | simp (disch := omega) only [go_sem, ↓reduceIte, Nat.reduceEqDiff, reduceCtorEq, Int.reduceEq, hb', w1] | ((with_reducible first | refine condD ?_ ?_ | refine condX ?_ ?_ | refine condW_intro ?_ ?_) <;> intro h <;> first | (exfalso; omega) | simp (disch := omega) only [go_sem, ↓reduceIte, Nat.reduceEqDiff, reduceCtorEq, Int.reduceEq, *, hb', w1] | skip) | (refine callW_of p1 rfl (.inl rfl) ?_)
  refine AW_adoptM 2 1 67 2 _ rfl rfl (by decide) ?_
  refine AW_loop (fun j : Nat => ⟨[(1, U g), (2, .c (.ptr 0 0)), (4, .c (.ptr 1 0)), (5, .c (.ptr 2 0)), (42, .c (.pure (pMonos l))), (43, I l.length), (44, I j)],
   [(0, .var [.pure (pI k), .pure (pMonos l)]), (1, .var [.pure (pI 0), .nils]), (2, .var [.pure (pI (Q)), .ref 3]), (3, .arr 67 2 ((divL g (l.take j)).map mP))], 4, 0⟩) (fun j => j ≤ l.length) (fun j => l.length - j) ⟨0, [], Nat.zero_le _, by simp [Wk, wkF, wkM, wkL, look_cons, renV, renA, renC, renB, rn, clV, clA, clAs, clB, notIn, findB, findB_setB, clA.go, divL]⟩ ?_
  intro j hj
  refine runW_sound ?_
  by_cases hlt : j < l.length
  ·have e1 := divL_take (g := g) hlt
   have g1 := map_get (f := mP) hlt
   have hlen : (divL g (l.take j)).length ≤ 1000000000 := by simp [divL]; omega
   have hm1 : in64 (l[j].2.tdiv (g : Int)) := (floor_facts (h64 _ (List.getElem_mem hlt)) hg hg2).1
   have hm2 : l[j].2 / (g : Int) = l[j].2.tdiv (g : Int) := by
    rw [ediv_tdiv hg, if_neg]
    rw [Int.tmod_eq_zero_of_dvd (h0 _ (List.getElem_mem hlt)).2]; omega
   rw [hm2] at e1
   have wm := wrap_i64 (by unfold in64 at hm1; exact hm1)
   clear hm1 hm2
   generalize l[j] = m at *
   obtain ⟨n, x⟩ := m
   simp only [mP] at g1 e1
   skip
   generalize divL g (l.take j) = D0 at *
   repeat' first | simp (disch := omega) only [go_sem, ↓reduceIte, Nat.reduceEqDiff, reduceCtorEq, Int.reduceEq, g1, wrap_i64, w1, hg', ne_eq, wm] | ((with_reducible first | refine condD ?_ ?_ | refine condX ?_ ?_ | refine condW_intro ?_ ?_) <;> intro h <;> first | (exfalso; omega) | simp (disch := omega) only [go_sem, ↓reduceIte, Nat.reduceEqDiff, reduceCtorEq, Int.reduceEq, *, g1, wrap_i64, w1, hg', ne_eq, wm] | skip) | (refine app_own rfl (by intro h; cases h) (rowsOk_one rfl) (by simp; omega) (by simp; omega) ?_)
   exact ⟨j + 1, [(3, 5)], hlt, by omega, by simp [Wk, wkF, wkM, wkL, look_cons, renV, renA, renC, renB, rn, clV, clA, clAs, clB, notIn, findB, findB_setB, clA.go, e1]⟩
  ·obtain rfl : j = l.length := by omega
   rw [List.take_of_length_le (Nat.le_refl _)]
   repeat' first | simp (disch := omega) only [go_sem, ↓reduceIte, Nat.reduceEqDiff, reduceCtorEq, Int.reduceEq] | ((with_reducible first | refine condD ?_ ?_ | refine condX ?_ ?_ | refine condW_intro ?_ ?_) <;> intro h <;> first | (exfalso; omega) | simp (disch := omega) only [go_sem, ↓reduceIte, Nat.reduceEqDiff, reduceCtorEq, Int.reduceEq, *] | skip)
end Go.Proofs.Ytkdgmbakhkdegaa
