/- Walks by the abstract machine: common divisors and floors. -/
import Derived.Test.YtkdgmbakhkdegaaV07g
import Derived.Test.YtkdgmbakhkdegaaPlain07c
set_option linter.unusedVariables false
set_option linter.unusedSimpArgs false
set_option maxRecDepth 20000
namespace Go.Proofs.Ytkdgmbakhkdegaa
open Go.Abs Go.RowKit

abbrev aT (x : Con × Int × Int) : AV := .tup [aCon x.1, I x.2.1, I x.2.2]
theorem constraint_truth_abs (b : Bool) : PCalls Try.prog n_constraint_truth [Go.Abs.B b] (aT (if b = true then (conZ, 1, 0) else (conF, 2, 0))) := by
 refine PCalls.of is_constraint_truth (by simp) fun _ => runW_sound ?_
 simp only [c_constraint_truth]
 cases b
 ·repeat' first | simp (disch := omega) only [go_sem, ↓reduceIte, Nat.reduceEqDiff, reduceCtorEq, Int.reduceEq] | ((with_reducible first | refine condD ?_ ?_ | refine condX ?_ ?_ | refine condW_intro ?_ ?_) <;> intro h <;> first | (exfalso; omega) | simp (disch := omega) only [go_sem, ↓reduceIte, Nat.reduceEqDiff, reduceCtorEq, Int.reduceEq, *] | skip)
  rfl
 ·repeat' first | simp (disch := omega) only [go_sem, ↓reduceIte, Nat.reduceEqDiff, reduceCtorEq, Int.reduceEq] | ((with_reducible first | refine condD ?_ ?_ | refine condX ?_ ?_ | refine condW_intro ?_ ?_) <;> intro h <;> first | (exfalso; omega) | simp (disch := omega) only [go_sem, ↓reduceIte, Nat.reduceEqDiff, reduceCtorEq, Int.reduceEq, *] | skip)
  rfl
theorem constraint_multiple_abs {n : Int} {g : Nat} (hn : in64 n) (hg : 0 < g) : PCalls Try.prog n_constraint_multiple [I n, U g] (Go.Abs.B (decide (n.natAbs % g = 0))) := by
 refine PCalls.of is_constraint_multiple (by simp) fun _ => runW_sound ?_
 obtain ⟨h1, h2⟩ := hn
 simp only [c_constraint_multiple]
 have hg' : ¬ (g : Int) = 0 := by omega
 have hd : (decide (((n.natAbs % g : Nat) : Int) = 0)) = decide (n.natAbs % g = 0) := by
  by_cases h : n.natAbs % g = 0
  ·rw [h]; rfl
  ·rw [decide_eq_false h, decide_eq_false (by omega)]
 rw [← hd]
 by_cases h0 : n < 0
 ·have e1 : IntKind.wrap .u64 n = n + 18446744073709551616 := by rw [IntKind.wrap_u64]; omega
  have e2 : IntKind.wrap .u64 (0 - (n + 18446744073709551616)) = n.natAbs := by rw [IntKind.wrap_u64]; omega
  clear hd
  generalize n.natAbs = N at *
  repeat' first | simp (disch := omega) only [go_sem, ↓reduceIte, Nat.reduceEqDiff, reduceCtorEq, Int.reduceEq, e1, e2, hg', ne_eq, tmod_nat] | ((with_reducible first | refine condD ?_ ?_ | refine condX ?_ ?_ | refine condW_intro ?_ ?_) <;> intro h <;> first | (exfalso; omega) | simp (disch := omega) only [go_sem, ↓reduceIte, Nat.reduceEqDiff, reduceCtorEq, Int.reduceEq, *, e1, e2, hg', ne_eq, tmod_nat] | skip)
 ·have e2 : IntKind.wrap .u64 n = n.natAbs := by rw [IntKind.wrap_u64]; omega
  clear hd
  generalize n.natAbs = N at *
  repeat' first | simp (disch := omega) only [go_sem, ↓reduceIte, Nat.reduceEqDiff, reduceCtorEq, Int.reduceEq, e2, hg', ne_eq, tmod_nat] | ((with_reducible first | refine condD ?_ ?_ | refine condX ?_ ?_ | refine condW_intro ?_ ?_) <;> intro h <;> first | (exfalso; omega) | simp (disch := omega) only [go_sem, ↓reduceIte, Nat.reduceEqDiff, reduceCtorEq, Int.reduceEq, *, e2, hg', ne_eq, tmod_nat] | skip)
theorem constraint_gcd_abs {l : List Mono} (h64 : ∀ m ∈ l, in64 m.2) : PCalls Try.prog n_constraint_gcd [.c (.pure (pMonos l))] (U (gcdL l)) := by
 refine PCalls.of is_constraint_gcd (by simp) fun hbd => runW_sound ?_
 have hlen : l.length ≤ 9223372036854775807 := by simpa [bndVs, bndV, bndA] using hbd
 clear hbd
 simp only [c_constraint_gcd]
 obtain ⟨R, hR⟩ : ∃ R, R = gcdF 0 (l.drop 0) := ⟨_, rfl⟩
 have hR0 : gcdL l = R := hR.symm
 rw [hR0]
 have HR := Lib.hid hR
 clear hR hR0
 repeat' first | simp (disch := omega) only [go_sem, ↓reduceIte, Nat.reduceEqDiff, reduceCtorEq, Int.reduceEq] | ((with_reducible first | refine condD ?_ ?_ | refine condX ?_ ?_ | refine condW_intro ?_ ?_) <;> intro h <;> first | (exfalso; omega) | simp (disch := omega) only [go_sem, ↓reduceIte, Nat.reduceEqDiff, reduceCtorEq, Int.reduceEq, *] | skip)
 refine AW_loop (fun s : Nat × Nat => ⟨[(3, U s.2), (7, .c (.pure (pMonos l))), (8, I l.length), (9, I s.1)], [], 0, 0⟩) (fun s => s.1 ≤ l.length ∧ Hid (R = gcdF s.2 (l.drop s.1))) (fun s => l.length - s.1) ⟨(0, 0), [], ⟨Nat.zero_le _, HR⟩, by simp [Wk, wkF, wkM, wkL, look_cons, renV, renA, renC, renB, rn, clV, clA, clAs, clB, notIn, findB, findB_setB, clA.go]⟩ ?_
 clear HR
 rintro ⟨k, g⟩ ⟨hk, HR⟩
 refine runW_sound ?_
 simp only at hk HR
 by_cases hlt : k < l.length
 ·have g1 := map_get (f := mP) hlt
  have hm := h64 _ (List.getElem_mem hlt)
  have h2 := HR.out
  rw [List.drop_eq_getElem_cons hlt] at h2
  have h3 : R = gcdF (Nat.gcd g l[k].2.natAbs) (l.drop (k + 1)) := h2
  have HR2 := Lib.hid h3
  clear HR h2 h3
  generalize l[k] = m at *
  obtain ⟨n, x⟩ := m
  simp only [mP] at g1
  simp only at hm HR2
  obtain ⟨h1, h2⟩ := hm
  obtain ⟨G, hG⟩ : ∃ G, G = Nat.gcd g x.natAbs := ⟨_, rfl⟩
  rw [← hG] at HR2
  have HG := Lib.hid hG
  clear hG
  have wr : IntKind.wrap .i64 ((k : Int) + 1) = (k : Int) + 1 := wrap_i64 (by omega)
  by_cases hneg : x < 0
  all_goals
   first
    |have e1 : IntKind.wrap .u64 x = x + 18446744073709551616 := by rw [IntKind.wrap_u64]; omega
     have e2 : IntKind.wrap .u64 (0 - (x + 18446744073709551616)) = x.natAbs := by rw [IntKind.wrap_u64]; omega
    | have e1 : IntKind.wrap .u64 x = x.natAbs := by rw [IntKind.wrap_u64]; omega
   generalize x.natAbs = X at *
   repeat' first | simp (disch := omega) only [go_sem, ↓reduceIte, Nat.reduceEqDiff, reduceCtorEq, Int.reduceEq, g1, e1] | ((with_reducible first | refine condD ?_ ?_ | refine condX ?_ ?_ | refine condW_intro ?_ ?_) <;> intro h <;> first | (exfalso; omega) | simp (disch := omega) only [go_sem, ↓reduceIte, Nat.reduceEqDiff, reduceCtorEq, Int.reduceEq, *, g1, e1] | skip)
   refine AW_loop (fun s : Nat × Nat => ⟨[(3, U s.1), (6, U s.2), (7, .c (.pure (pMonos l))), (8, I l.length), (9, I k)], [], 0, 0⟩) (fun s => Hid (G = Nat.gcd s.1 s.2)) (fun s => s.2) ⟨(g, X), [], HG, by simp [Wk, wkF, wkM, wkL, look_cons, renV, renA, renC, renB, rn, clV, clA, clAs, clB, notIn, findB, findB_setB, clA.go]⟩ ?_
   clear HG
   rintro ⟨a, b⟩ HG
   refine runW_sound ?_
   by_cases h0 : b = 0
   ·have h1 := HG.out
    simp only [h0, Nat.gcd_zero_right] at h1
    subst h0
    subst h1
    repeat' first | simp (disch := omega) only [go_sem, ↓reduceIte, Nat.reduceEqDiff, reduceCtorEq, Int.reduceEq, Int.natCast_zero] | ((with_reducible first | refine condD ?_ ?_ | refine condX ?_ ?_ | refine condW_intro ?_ ?_) <;> intro h <;> first | (exfalso; omega) | simp (disch := omega) only [go_sem, ↓reduceIte, Nat.reduceEqDiff, reduceCtorEq, Int.reduceEq, *, Int.natCast_zero] | skip)
    exact ⟨(k + 1, _), [], ⟨hlt, HR2⟩, by show _ - _ < _ - _; omega, by simp [Wk, wkF, wkM, wkL, look_cons, renV, renA, renC, renB, rn, clV, clA, clAs, clB, notIn, findB, findB_setB, clA.go, wr]⟩
   ·have h1 : (b : Int) ≠ 0 := by omega
    repeat' first | simp (disch := omega) only [go_sem, ↓reduceIte, Nat.reduceEqDiff, reduceCtorEq, Int.reduceEq, h1, ne_eq, tmod_nat] | ((with_reducible first | refine condD ?_ ?_ | refine condX ?_ ?_ | refine condW_intro ?_ ?_) <;> intro h <;> first | (exfalso; omega) | simp (disch := omega) only [go_sem, ↓reduceIte, Nat.reduceEqDiff, reduceCtorEq, Int.reduceEq, *, h1, ne_eq, tmod_nat] | skip)
    exact ⟨(b, a % b), [], Lib.hid (by rw [HG.out]; simp only; rw [Nat.gcd_comm, Nat.gcd_rec, Nat.gcd_comm]), Nat.mod_lt _ (by omega), by simp [Wk, wkF, wkM, wkL, look_cons, renV, renA, renC, renB, rn, clV, clA, clAs, clB, notIn, findB, findB_setB, clA.go]⟩
 ·have h2 := HR.out
  rw [List.drop_eq_nil_of_le (by omega)] at h2
  have h3 : R = g := h2
  clear h2 HR
  subst h3
  repeat' first | simp (disch := omega) only [go_sem, ↓reduceIte, Nat.reduceEqDiff, reduceCtorEq, Int.reduceEq] | ((with_reducible first | refine condD ?_ ?_ | refine condX ?_ ?_ | refine condW_intro ?_ ?_) <;> intro h <;> first | (exfalso; omega) | simp (disch := omega) only [go_sem, ↓reduceIte, Nat.reduceEqDiff, reduceCtorEq, Int.reduceEq, *] | skip)
end Go.Proofs.Ytkdgmbakhkdegaa
