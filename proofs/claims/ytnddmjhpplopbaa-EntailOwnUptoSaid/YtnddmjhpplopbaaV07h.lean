/- Walks by the abstract machine: common divisors and floors. Walks by the abstract machine: floors of forms. Walks by the abstract machine: tight constraints. -/
import Derived.Test.YtnddmjhpplopbaaV07g
import Derived.Test.YtnddmjhpplopbaaPlain07c
set_option linter.unusedVariables false
set_option linter.unusedSimpArgs false
set_option maxRecDepth 20000
namespace Go.Proofs.Ytnddmjhpplopbaa
open Go.Abs Go.RowKit

abbrev aT (x : Con × Int × Int) : AV := .tup [aCon x.1, I x.2.1, I x.2.2]
theorem constraint_truth_abs (b : Bool) : PCalls Try.prog n_constraint_truth [Go.Abs.B b] (aT (if b = true then (conZ, 1, 0) else (conF, 2, 0))) := by
 refine PCalls.of is_constraint_truth (by simp) fun _ => runW_sound ?_
 simp only [c_constraint_truth]
 cases b
 ·repeat' first | simp (disch := omega) only [go_sem, ↓reduceIte, Nat.reduceEqDiff, reduceCtorEq, Int.reduceEq] | ((with_reducible first | refine condD ?_ ?_ | refine condX ?_ ?_ | refine condW_intro ?_ ?_) <;> intro h <;> first | (exfalso; omega) | simp (disch := omega) only [go_sem, ↓reduceIte, Nat.reduceEqDiff, reduceCtorEq, Int.reduceEq, *] | skip)
  rfl
 ·repeat' first | simp (disch := omega) only [go_sem, ↓reduceIte, Nat.reduceEqDiff, reduceCtorEq, Int.reduceEq] | ((with_reducible first | refine condD ?_ ?_ | refine condX ?_ ?_ | refine condW_intro ?_ ?_) <;> intro h <;> first | (exfalso; omega) | simp (disch := omega) only [go_sem, ↓reduceIte, Nat.reduceEqDiff, reduceCtorEq, Int.reduceEq, *] | skip)
  rfl
theorem constraint_multiple_abs {n : Int} {g : Nat} (hn : in64 n) (hg : 0 < g) : PCalls Try.prog n_constraint_multiple [I n, U g] (Go.Abs.B (decide (n.natAbs % g = 0))) := by
 refine PCalls.of is_constraint_multiple (by simp) fun _ => runW_sound ?_
 obtain ⟨h1, h2⟩ := hn
 simp only [c_constraint_multiple]
 have hg' : ¬ (g : Int) = 0 := by omega
 have hd : (decide (((n.natAbs % g : Nat) : Int) = 0)) = decide (n.natAbs % g = 0) := by
  by_cases h : n.natAbs % g = 0
  ·rw [h]; rfl
  ·rw [decide_eq_false h, decide_eq_false (by omega)]
 rw [← hd]
 by_cases h0 : n < 0
 ·have e1 : IntKind.wrap .u64 n = n + 18446744073709551616 := by rw [IntKind.wrap_u64]; omega
  have e2 : IntKind.wrap .u64 (0 - (n + 18446744073709551616)) = n.natAbs := by rw [IntKind.wrap_u64]; omega
  clear hd
  generalize n.natAbs = N at *
  repeat' first | simp (disch := omega) only [go_sem, ↓reduceIte, Nat.reduceEqDiff, reduceCtorEq, Int.reduceEq, e1, e2, hg', ne_eq, tmod_nat] | ((with_reducible first | refine condD ?_ ?_ | refine condX ?_ ?_ | refine condW_intro ?_ ?_) <;> intro h <;> first | (exfalso; omega) | simp (disch := omega) only [go_sem, ↓reduceIte, Nat.reduceEqDiff, reduceCtorEq, Int.reduceEq, *, e1, e2, hg', ne_eq, tmod_nat] | skip)
 ·have e2 : IntKind.wrap .u64 n = n.natAbs := by rw [IntKind.wrap_u64]; omega
  clear hd
  generalize n.natAbs = N at *
  repeat' first | simp (disch := omega) only [go_sem, ↓reduceIte, Nat.reduceEqDiff, reduceCtorEq, Int.reduceEq, e2, hg', ne_eq, tmod_nat] | ((with_reducible first | refine condD ?_ ?_ | refine condX ?_ ?_ | refine condW_intro ?_ ?_) <;> intro h <;> first | (exfalso; omega) | simp (disch := omega) only [go_sem, ↓reduceIte, Nat.reduceEqDiff, reduceCtorEq, Int.reduceEq, *, e2, hg', ne_eq, tmod_nat] | skip)
theorem constraint_gcd_abs {l : List Mono} (h64 : ∀ m ∈ l, in64 m.2) : PCalls Try.prog n_constraint_gcd [.c (.pure (pMonos l))] (U (gcdL l)) := by
 refine PCalls.of is_constraint_gcd (by simp) fun hbd => runW_sound ?_
 have hlen : l.length ≤ 9223372036854775807 := by simpa [bndVs, bndV, bndA] using hbd
 clear hbd
 simp only [c_constraint_gcd]
 obtain ⟨R, hR⟩ : ∃ R, R = gcdF 0 (l.drop 0) := ⟨_, rfl⟩
 have hR0 : gcdL l = R := hR.symm
 rw [hR0]
 have HR := Lib.hid hR
 clear hR hR0
 repeat' first | simp (disch := omega) only [go_sem, ↓reduceIte, Nat.reduceEqDiff, reduceCtorEq, Int.reduceEq] | ((with_reducible first | refine condD ?_ ?_ | refine condX ?_ ?_ | refine condW_intro ?_ ?_) <;> intro h <;> first | (exfalso; omega) | simp (disch := omega) only [go_sem, ↓reduceIte, Nat.reduceEqDiff, reduceCtorEq, Int.reduceEq, *] | skip)
 refine AW_loop (fun s : Nat × Nat => ⟨[(3, U s.2), (7, .c (.pure (pMonos l))), (8, I l.length), (9, I s.1)], [], 0, 0⟩) (fun s => s.1 ≤ l.length ∧ Hid (R = gcdF s.2 (l.drop s.1))) (fun s => l.length - s.1) ⟨(0, 0), [], ⟨Nat.zero_le _, HR⟩, by simp [Wk, wkF, wkM, wkL, look_cons, renV, renA, renC, renB, rn, clV, clA, clAs, clB, notIn, findB, findB_setB, clA.go]⟩ ?_
 clear HR
 rintro ⟨k, g⟩ ⟨hk, HR⟩
 refine runW_sound ?_
 simp only at hk HR
 by_cases hlt : k < l.length
 ·have g1 := map_get (f := mP) hlt
  have hm := h64 _ (List.getElem_mem hlt)
  have h2 := HR.out
  rw [List.drop_eq_getElem_cons hlt] at h2
  have h3 : R = gcdF (Nat.gcd g l[k].2.natAbs) (l.drop (k + 1)) := h2
  have HR2 := Lib.hid h3
  clear HR h2 h3
  generalize l[k] = m at *
  obtain ⟨n, x⟩ := m
  simp only [mP] at g1
  simp only at hm HR2
  obtain ⟨h1, h2⟩ := hm
  obtain ⟨G, hG⟩ : ∃ G, G = Nat.gcd g x.natAbs := ⟨_, rfl⟩
  rw [← hG] at HR2
  have HG := Lib.hid hG
  clear hG
  have wr : IntKind.wrap .i64 ((k : Int) + 1) = (k : Int) + 1 := wrap_i64 (by omega)
  by_cases hneg : x < 0
  all_goals
   first
    |have e1 : IntKind.wrap .u64 x = x + 18446744073709551616 := by rw [IntKind.wrap_u64]; omega
     have e2 : IntKind.wrap .u64 (0 - (x + 18446744073709551616)) = x.natAbs := by rw [IntKind.wrap_u64]; omega
    | have e1 : IntKind.wrap .u64 x = x.natAbs := by rw [IntKind.wrap_u64]; omega
   generalize x.natAbs = X at *
   repeat' first | simp (disch := omega) only [go_sem, ↓reduceIte, Nat.reduceEqDiff, reduceCtorEq, Int.reduceEq, g1, e1] | ((with_reducible first | refine condD ?_ ?_ | refine condX ?_ ?_ | refine condW_intro ?_ ?_) <;> intro h <;> first | (exfalso; omega) | simp (disch := omega) only [go_sem, ↓reduceIte, Nat.reduceEqDiff, reduceCtorEq, Int.reduceEq, *, g1, e1] | skip)
   refine AW_loop (fun s : Nat × Nat => ⟨[(3, U s.1), (6, U s.2), (7, .c (.pure (pMonos l))), (8, I l.length), (9, I k)], [], 0, 0⟩) (fun s => Hid (G = Nat.gcd s.1 s.2)) (fun s => s.2) ⟨(g, X), [], HG, by simp [Wk, wkF, wkM, wkL, look_cons, renV, renA, renC, renB, rn, clV, clA, clAs, clB, notIn, findB, findB_setB, clA.go]⟩ ?_
   clear HG
   rintro ⟨a, b⟩ HG
   refine runW_sound ?_
   by_cases h0 : b = 0
   ·have h1 := HG.out
    simp only [h0, Nat.gcd_zero_right] at h1
    subst h0
    subst h1
    repeat' first | simp (disch := omega) only [go_sem, ↓reduceIte, Nat.reduceEqDiff, reduceCtorEq, Int.reduceEq, Int.natCast_zero] | ((with_reducible first | refine condD ?_ ?_ | refine condX ?_ ?_ | refine condW_intro ?_ ?_) <;> intro h <;> first | (exfalso; omega) | simp (disch := omega) only [go_sem, ↓reduceIte, Nat.reduceEqDiff, reduceCtorEq, Int.reduceEq, *, Int.natCast_zero] | skip)
    exact ⟨(k + 1, _), [], ⟨hlt, HR2⟩, by show _ - _ < _ - _; omega, by simp [Wk, wkF, wkM, wkL, look_cons, renV, renA, renC, renB, rn, clV, clA, clAs, clB, notIn, findB, findB_setB, clA.go, wr]⟩
   ·have h1 : (b : Int) ≠ 0 := by omega
    repeat' first | simp (disch := omega) only [go_sem, ↓reduceIte, Nat.reduceEqDiff, reduceCtorEq, Int.reduceEq, h1, ne_eq, tmod_nat] | ((with_reducible first | refine condD ?_ ?_ | refine condX ?_ ?_ | refine condW_intro ?_ ?_) <;> intro h <;> first | (exfalso; omega) | simp (disch := omega) only [go_sem, ↓reduceIte, Nat.reduceEqDiff, reduceCtorEq, Int.reduceEq, *, h1, ne_eq, tmod_nat] | skip)
    exact ⟨(b, a % b), [], Lib.hid (by rw [HG.out]; simp only; rw [Nat.gcd_comm, Nat.gcd_rec, Nat.gcd_comm]), Nat.mod_lt _ (by omega), by simp [Wk, wkF, wkM, wkL, look_cons, renV, renA, renC, renB, rn, clV, clA, clAs, clB, notIn, findB, findB_setB, clA.go]⟩
 ·have h2 := HR.out
  rw [List.drop_eq_nil_of_le (by omega)] at h2
  have h3 : R = g := h2
  clear h2 HR
  subst h3
  repeat' first | simp (disch := omega) only [go_sem, ↓reduceIte, Nat.reduceEqDiff, reduceCtorEq, Int.reduceEq] | ((with_reducible first | refine condD ?_ ?_ | refine condX ?_ ?_ | refine condW_intro ?_ ?_) <;> intro h <;> first | (exfalso; omega) | simp (disch := omega) only [go_sem, ↓reduceIte, Nat.reduceEqDiff, reduceCtorEq, Int.reduceEq, *] | skip)

theorem tdiv_64 {x : Int} {g : Nat} (hx : in64 x) : in64 (x.tdiv g) ∨ x.tdiv g = 9223372036854775808 := by
 have h : (x.tdiv g).natAbs ≤ x.natAbs := by rw [Int.natAbs_tdiv]; exact Nat.div_le_self _ _
 unfold in64 at *
 omega
theorem floor_facts {x : Int} {g : Nat} (hx : in64 x) (hg : 0 < g) (hg2 : g ≤ 9223372036854775808) : in64 (x.tdiv g) ∧ (x.tmod g < 0 → in64 (x.tdiv g - 1)) ∧ in64 (x.tdiv g * g) ∧ (x.tmod g < 0 ↔ x < x.tdiv g * g) := by
 have h1 := Int.tmod_def x g
 have e := ediv_tdiv (x := x) hg
 have h3 := div_64 hx hg
 have h2 : (x.tmod g).natAbs < g := by rw [Int.natAbs_tmod]; exact Nat.mod_lt _ (by simpa using hg)
 have h5 : (x.tdiv g * g).natAbs ≤ x.natAbs := by
  rw [Int.natAbs_mul, Int.natAbs_tdiv]
  exact Nat.div_mul_le_self _ _
 have h6 := Int.mul_comm (g : Int) (x.tdiv g)
 have h4 := tdiv_64 (g := g) hx
 rw [h6] at h1
 have hneg : x.tdiv g = 9223372036854775808 → False := fun h => by
  rw [e, h] at h3
  unfold in64 at h3 hx
  rw [h] at h1 h5
  have : 9223372036854775808 * 1 ≤ 9223372036854775808 * (g : Int) := Int.mul_le_mul_of_nonneg_left (by omega) (by omega)
  split at h3 <;> omega
 refine ⟨h4.resolve_right hneg, fun h => ?_, ?_, by omega⟩
 ·rw [e, if_pos h] at h3; exact h3
 ·unfold in64 at *
  by_cases hm : x = -9223372036854775808
  ·omega
  ·omega
theorem constraint_floorDiv_abs {x : Int} {g : Nat} (hx : in64 x) (hg : 0 < g) (hg2 : g ≤ 9223372036854775808) : PCalls Try.prog n_constraint_floorDiv [I x, I g] (I (x / (g : Int))) := by
 refine PCalls.of is_constraint_floorDiv (by simp) fun _ => runW_sound ?_
 simp only [c_constraint_floorDiv]
 obtain ⟨f1, f2, f3, f4⟩ := floor_facts hx hg hg2
 rw [ediv_tdiv hg]
 have hg' : ¬ (g : Int) = 0 := by omega
 unfold in64 at f1 f2
 have w1 : IntKind.wrap .i64 (x.tdiv g) = x.tdiv g := wrap_i64 f1
 clear f3 f4
 by_cases h : x.tmod g < 0
 ·have w2 : IntKind.wrap .i64 (x.tdiv g - 1) = x.tdiv g - 1 := wrap_i64 (f2 h)
  clear f2 f1
  repeat' first | simp (disch := omega) only [go_sem, ↓reduceIte, Nat.reduceEqDiff, reduceCtorEq, Int.reduceEq, hg', ne_eq, w1, w2] | ((with_reducible first | refine condD ?_ ?_ | refine condX ?_ ?_ | refine condW_intro ?_ ?_) <;> intro h <;> first | (exfalso; omega) | simp (disch := omega) only [go_sem, ↓reduceIte, Nat.reduceEqDiff, reduceCtorEq, Int.reduceEq, *, hg', ne_eq, w1, w2] | skip)
 ·clear f2 f1
  repeat' first | simp (disch := omega) only [go_sem, ↓reduceIte, Nat.reduceEqDiff, reduceCtorEq, Int.reduceEq, hg', ne_eq, w1] | ((with_reducible first | refine condD ?_ ?_ | refine condX ?_ ?_ | refine condW_intro ?_ ?_) <;> intro h <;> first | (exfalso; omega) | simp (disch := omega) only [go_sem, ↓reduceIte, Nat.reduceEqDiff, reduceCtorEq, Int.reduceEq, *, hg', ne_eq, w1] | skip)
theorem ref07_floor_abs {x : Int} {g : Nat} (hx : in64 x) (hg : 0 < g) (hg2 : g ≤ 9223372036854775808) : PCalls Try.prog n_ref07_floor [I x, I g] (I (x / (g : Int))) := by
 refine PCalls.of is_ref07_floor (by simp) fun _ => runW_sound ?_
 simp only [c_ref07_floor]
 obtain ⟨f1, f2, f3, f4⟩ := floor_facts hx hg hg2
 rw [ediv_tdiv hg]
 have hg' : ¬ (g : Int) = 0 := by omega
 unfold in64 at f1 f2 f3
 have w1 : IntKind.wrap .i64 (x.tdiv g) = x.tdiv g := wrap_i64 f1
 have w3 : IntKind.wrap .i64 (x.tdiv g * g) = x.tdiv g * g := wrap_i64 f3
 clear f3
 by_cases h : x.tmod g < 0
 ·have w2 : IntKind.wrap .i64 (x.tdiv g - 1) = x.tdiv g - 1 := wrap_i64 (f2 h)
  rw [if_pos h]
  have h' := f4.1 h
  clear f2 f1 f4 h
  repeat' first | simp (disch := omega) only [go_sem, ↓reduceIte, Nat.reduceEqDiff, reduceCtorEq, Int.reduceEq, hg', ne_eq, w1, w2, w3] | ((with_reducible first | refine condD ?_ ?_ | refine condX ?_ ?_ | refine condW_intro ?_ ?_) <;> intro h <;> first | (exfalso; omega) | simp (disch := omega) only [go_sem, ↓reduceIte, Nat.reduceEqDiff, reduceCtorEq, Int.reduceEq, *, hg', ne_eq, w1, w2, w3] | skip)
 ·rw [if_neg h]
  have h' := fun g => h (f4.2 g)
  clear f2 f1 f4 h
  repeat' first | simp (disch := omega) only [go_sem, ↓reduceIte, Nat.reduceEqDiff, reduceCtorEq, Int.reduceEq, hg', ne_eq, w1, w3] | ((with_reducible first | refine condD ?_ ?_ | refine condX ?_ ?_ | refine condW_intro ?_ ?_) <;> intro h <;> first | (exfalso; omega) | simp (disch := omega) only [go_sem, ↓reduceIte, Nat.reduceEqDiff, reduceCtorEq, Int.reduceEq, *, hg', ne_eq, w1, w3] | skip)
  all_goals exact (h' (by assumption)).elim
/-- The reference: the floor, or its negative. -/
def divR (x : Int) (g : Nat) (s : Bool) : Int × Bool := if s then ok64 (-(x / (g : Int))) else (x / (g : Int), true)
theorem big_div {x : Int} (hx : in64 x) : x / 9223372036854775808 = if x < 0 then -1 else 0 := by
 unfold in64 at hx
 split <;> omega
theorem ref07_divided_abs {x : Int} {g : Nat} (s : Bool) (hx : in64 x) (hg : 0 < g) (hg2 : g ≤ 9223372036854775808) : PCalls Try.prog n_ref07_divided [I x, U g, Go.Abs.B s] (aOk (divR x g s)) := by
 refine PCalls.of is_ref07_divided (by simp) fun _ => runW_sound ?_
 simp only [c_ref07_divided, divR]
 by_cases hb : g = 9223372036854775808
 ·subst hb
  rw [show ((9223372036854775808 : Nat) : Int) = 9223372036854775808 from rfl, big_div hx]
  have p1 := ref07_signed_abs (n := 1) false
  have p2 := ref07_signed_abs (n := 1) true
  by_cases h : x < 0
  ·rw [if_pos h]
   cases s
   ·repeat' first | simp (disch := omega) only [go_sem, ↓reduceIte, Nat.reduceEqDiff, reduceCtorEq, Int.reduceEq] | ((with_reducible first | refine condD ?_ ?_ | refine condX ?_ ?_ | refine condW_intro ?_ ?_) <;> intro h <;> first | (exfalso; omega) | simp (disch := omega) only [go_sem, ↓reduceIte, Nat.reduceEqDiff, reduceCtorEq, Int.reduceEq, *] | skip) | (refine callW_of p2 rfl (.inl rfl) ?_)
    all_goals rfl
   ·repeat' first | simp (disch := omega) only [go_sem, ↓reduceIte, Nat.reduceEqDiff, reduceCtorEq, Int.reduceEq] | ((with_reducible first | refine condD ?_ ?_ | refine condX ?_ ?_ | refine condW_intro ?_ ?_) <;> intro h <;> first | (exfalso; omega) | simp (disch := omega) only [go_sem, ↓reduceIte, Nat.reduceEqDiff, reduceCtorEq, Int.reduceEq, *] | skip) | (refine callW_of p1 rfl (.inl rfl) ?_)
    all_goals rfl
  ·rw [if_neg h]
   cases s
   ·repeat' first | simp (disch := omega) only [go_sem, ↓reduceIte, Nat.reduceEqDiff, reduceCtorEq, Int.reduceEq] | ((with_reducible first | refine condD ?_ ?_ | refine condX ?_ ?_ | refine condW_intro ?_ ?_) <;> intro h <;> first | (exfalso; omega) | simp (disch := omega) only [go_sem, ↓reduceIte, Nat.reduceEqDiff, reduceCtorEq, Int.reduceEq, *] | skip)
    all_goals rfl
   ·repeat' first | simp (disch := omega) only [go_sem, ↓reduceIte, Nat.reduceEqDiff, reduceCtorEq, Int.reduceEq] | ((with_reducible first | refine condD ?_ ?_ | refine condX ?_ ?_ | refine condW_intro ?_ ?_) <;> intro h <;> first | (exfalso; omega) | simp (disch := omega) only [go_sem, ↓reduceIte, Nat.reduceEqDiff, reduceCtorEq, Int.reduceEq, *] | skip)
    all_goals rfl
 ·have hb' : ¬ (g : Int) = 9223372036854775808 := by omega
  have w1 : IntKind.wrap .i64 (g : Int) = g := wrap_i64 (by omega)
  have p1 := ref07_floor_abs hx hg hg2
  have hq := div_64 hx hg
  generalize x / (g : Int) = q at *
  cases s
  ·repeat' first | simp (disch := omega) only [go_sem, ↓reduceIte, Nat.reduceEqDiff, reduceCtorEq, Int.reduceEq, hb', w1] | ((with_reducible first | refine condD ?_ ?_ | refine condX ?_ ?_ | refine condW_intro ?_ ?_) <;> intro h <;> first | (exfalso; omega) | simp (disch := omega) only [go_sem, ↓reduceIte, Nat.reduceEqDiff, reduceCtorEq, Int.reduceEq, *, hb', w1] | skip) | (refine callW_of p1 rfl (.inl rfl) ?_)
   all_goals rfl
  ·have p2 := ref07_size_abs hq
   have p3 := ref07_signed_abs (n := q.natAbs) (decide (q > 0))
   have e : sgnR q.natAbs (decide (q > 0)) = ok64 (-q) := by
    unfold in64 at hq
    by_cases h : q > 0
    ·rw [decide_eq_true h, sgnR, if_neg (by omega), sgnE, if_neg (by omega), if_pos rfl, ok64_in (by unfold in64; omega)]
     exact Prod.ext (by simp only; omega) rfl
    ·rw [decide_eq_false h, sgnR, if_neg (fun h => by cases h.2), sgnE]
     by_cases h2 : q = -9223372036854775808
     ·subst h2; rfl
     ·rw [if_neg (by omega), ok64_in (by unfold in64; omega)]
      exact Prod.ext (by simp; omega) rfl
   rw [e] at p3
   rw [if_pos rfl]
   generalize ok64 (-q) = R at *
   generalize q.natAbs = N at *
   repeat' first | simp (disch := omega) only [go_sem, ↓reduceIte, Nat.reduceEqDiff, reduceCtorEq, Int.reduceEq, hb', w1] | ((with_reducible first | refine condD ?_ ?_ | refine condX ?_ ?_ | refine condW_intro ?_ ?_) <;> intro h <;> first | (exfalso; omega) | simp (disch := omega) only [go_sem, ↓reduceIte, Nat.reduceEqDiff, reduceCtorEq, Int.reduceEq, *, hb', w1] | skip) | (refine callW_of p1 rfl (.inl rfl) ?_) | (refine callW_of p2 rfl (.inl rfl) ?_) | (refine callW_of p3 rfl (.inl rfl) ?_)
   all_goals rfl

theorem divL_take {l : List Mono} {g k : Nat} (h : k < l.length) : (divL g (l.take (k + 1))).map mP = (divL g (l.take k)).map mP ++ [[pS l[k].1, pI (l[k].2 / (g : Int))]] := by
 rw [List.take_succ_eq_append_getElem h]
 show ((l.take k ++ [l[k]]).map _).map mP = _
 rw [List.map_append, List.map_append]
 rfl
theorem constraint_divided_abs {k : Int} {l : List Mono} {g : Nat} (hk : in64 k) (h64 : ∀ m ∈ l, in64 m.2) (h0 : ∀ m ∈ l, m.2 ≠ 0 ∧ (g : Int) ∣ m.2) (hg : 0 < g) (hg2 : g ≤ 9223372036854775808) (hl : l.length ≤ 1000000000) :
  PCalls Try.prog n_constraint_divided [aLin k l, U g] (aLin (k / (g : Int)) (divL g l)) := by
 refine PCalls.of is_constraint_divided (by simp) fun _ => runW_sound ?_
 simp only [c_constraint_divided]
 by_cases hb : g = 9223372036854775808
 ·have hbi : (g : Int) = 9223372036854775808 := by omega
  have hkd : k / (g : Int) = if k < 0 then -1 else 0 := by rw [hbi]; exact big_div hk
  have hmd : ∀ i (h : i < l.length), l[i].2 / (g : Int) = -1 := fun i h => by
   have h1 := h64 _ (List.getElem_mem h)
   obtain ⟨h2, h3⟩ := h0 _ (List.getElem_mem h)
   rw [hbi] at h3 ⊢
   obtain ⟨q, hq⟩ := h3
   unfold in64 at h1
   omega
  rw [hkd]
  by_cases hneg : k < 0
  all_goals
   first
    | rw [if_pos hneg]
    | rw [if_neg hneg]
   clear hkd
   repeat' first | simp (disch := omega) only [go_sem, ↓reduceIte, Nat.reduceEqDiff, reduceCtorEq, Int.reduceEq, hbi] | ((with_reducible first | refine condD ?_ ?_ | refine condX ?_ ?_ | refine condW_intro ?_ ?_) <;> intro h <;> first | (exfalso; omega) | simp (disch := omega) only [go_sem, ↓reduceIte, Nat.reduceEqDiff, reduceCtorEq, Int.reduceEq, *, hbi] | skip)
   refine AW_adoptM 2 1 79 2 _ rfl rfl (by decide) ?_
  ·refine AW_loop (fun j : Nat => ⟨[(2, .c (.ptr 0 0)), (4, .c (.ptr 1 0)), (5, .c (.ptr 2 0)), (19, .c (.pure (pMonos l))), (20, I l.length), (21, I j)],
    [(0, .var [.pure (pI k), .pure (pMonos l)]), (1, .var [.pure (pI 0), .nils]), (2, .var [.pure (pI (-1)), .ref 3]), (3, .arr 79 2 ((divL g (l.take j)).map mP))], 4, 0⟩) (fun j => j ≤ l.length) (fun j => l.length - j) ⟨0, [], Nat.zero_le _, by simp [Wk, wkF, wkM, wkL, look_cons, renV, renA, renC, renB, rn, clV, clA, clAs, clB, notIn, findB, findB_setB, clA.go, divL]⟩ ?_
   intro j hj
   refine runW_sound ?_
   by_cases hlt : j < l.length
   ·have e1 := divL_take (g := g) hlt
    have g1 := map_get (f := mP) hlt
    have hlen : (divL g (l.take j)).length ≤ 1000000000 := by simp [divL]; omega
    have hm := hmd j hlt
    rw [hm] at e1
    clear hm
    generalize l[j] = m at *
    obtain ⟨n, x⟩ := m
    simp only [mP] at g1 e1
    clear hmd
    generalize divL g (l.take j) = D0 at *
    repeat' first | simp (disch := omega) only [go_sem, ↓reduceIte, Nat.reduceEqDiff, reduceCtorEq, Int.reduceEq, g1, wrap_i64] | ((with_reducible first | refine condD ?_ ?_ | refine condX ?_ ?_ | refine condW_intro ?_ ?_) <;> intro h <;> first | (exfalso; omega) | simp (disch := omega) only [go_sem, ↓reduceIte, Nat.reduceEqDiff, reduceCtorEq, Int.reduceEq, *, g1, wrap_i64] | skip) | (refine app_own rfl (by intro h; cases h) (rowsOk_one rfl) (by simp; omega) (by simp; omega) ?_)
    exact ⟨j + 1, [(3, 5)], hlt, by omega, by simp [Wk, wkF, wkM, wkL, look_cons, renV, renA, renC, renB, rn, clV, clA, clAs, clB, notIn, findB, findB_setB, clA.go, e1]⟩
   ·obtain rfl : j = l.length := by omega
    rw [List.take_of_length_le (Nat.le_refl _)]
    repeat' first | simp (disch := omega) only [go_sem, ↓reduceIte, Nat.reduceEqDiff, reduceCtorEq, Int.reduceEq] | ((with_reducible first | refine condD ?_ ?_ | refine condX ?_ ?_ | refine condW_intro ?_ ?_) <;> intro h <;> first | (exfalso; omega) | simp (disch := omega) only [go_sem, ↓reduceIte, Nat.reduceEqDiff, reduceCtorEq, Int.reduceEq, *] | skip)
  ·refine AW_loop (fun j : Nat => ⟨[(2, .c (.ptr 0 0)), (4, .c (.ptr 1 0)), (5, .c (.ptr 2 0)), (19, .c (.pure (pMonos l))), (20, I l.length), (21, I j)],
    [(0, .var [.pure (pI k), .pure (pMonos l)]), (1, .var [.pure (pI 0), .nils]), (2, .var [.pure (pI (0)), .ref 3]), (3, .arr 79 2 ((divL g (l.take j)).map mP))], 4, 0⟩) (fun j => j ≤ l.length) (fun j => l.length - j) ⟨0, [], Nat.zero_le _, by simp [Wk, wkF, wkM, wkL, look_cons, renV, renA, renC, renB, rn, clV, clA, clAs, clB, notIn, findB, findB_setB, clA.go, divL]⟩ ?_
   intro j hj
   refine runW_sound ?_
   by_cases hlt : j < l.length
   ·have e1 := divL_take (g := g) hlt
    have g1 := map_get (f := mP) hlt
    have hlen : (divL g (l.take j)).length ≤ 1000000000 := by simp [divL]; omega
    have hm := hmd j hlt
    rw [hm] at e1
    clear hm
    generalize l[j] = m at *
    obtain ⟨n, x⟩ := m
    simp only [mP] at g1 e1
    clear hmd
    generalize divL g (l.take j) = D0 at *
    repeat' first | simp (disch := omega) only [go_sem, ↓reduceIte, Nat.reduceEqDiff, reduceCtorEq, Int.reduceEq, g1, wrap_i64] | ((with_reducible first | refine condD ?_ ?_ | refine condX ?_ ?_ | refine condW_intro ?_ ?_) <;> intro h <;> first | (exfalso; omega) | simp (disch := omega) only [go_sem, ↓reduceIte, Nat.reduceEqDiff, reduceCtorEq, Int.reduceEq, *, g1, wrap_i64] | skip) | (refine app_own rfl (by intro h; cases h) (rowsOk_one rfl) (by simp; omega) (by simp; omega) ?_)
    exact ⟨j + 1, [(3, 5)], hlt, by omega, by simp [Wk, wkF, wkM, wkL, look_cons, renV, renA, renC, renB, rn, clV, clA, clAs, clB, notIn, findB, findB_setB, clA.go, e1]⟩
   ·obtain rfl : j = l.length := by omega
    rw [List.take_of_length_le (Nat.le_refl _)]
    repeat' first | simp (disch := omega) only [go_sem, ↓reduceIte, Nat.reduceEqDiff, reduceCtorEq, Int.reduceEq] | ((with_reducible first | refine condD ?_ ?_ | refine condX ?_ ?_ | refine condW_intro ?_ ?_) <;> intro h <;> first | (exfalso; omega) | simp (disch := omega) only [go_sem, ↓reduceIte, Nat.reduceEqDiff, reduceCtorEq, Int.reduceEq, *] | skip)
 ·have hb' : ¬ (g : Int) = 9223372036854775808 := by omega
  have w1 : IntKind.wrap .i64 (g : Int) = g := wrap_i64 (by omega)
  have hg' : ¬ (g : Int) = 0 := by omega
  have p1 := constraint_floorDiv_abs hk hg hg2
  obtain ⟨Q, hQ⟩ : ∃ Q, Q = k / (g : Int) := ⟨_, rfl⟩
  rw [← hQ] at p1 ⊢
  clear hQ
  repeat' first | simp (disch := omega) only [go_sem, ↓reduceIte, Nat.reduceEqDiff, reduceCtorEq, Int.reduceEq, hb', w1] | ((with_reducible first | refine condD ?_ ?_ | refine condX ?_ ?_ | refine condW_intro ?_ ?_) <;> intro h <;> first | (exfalso; omega) | simp (disch := omega) only [go_sem, ↓reduceIte, Nat.reduceEqDiff, reduceCtorEq, Int.reduceEq, *, hb', w1] | skip) | (refine callW_of p1 rfl (.inl rfl) ?_)
  refine AW_adoptM 2 1 79 2 _ rfl rfl (by decide) ?_
  refine AW_loop (fun j : Nat => ⟨[(1, U g), (2, .c (.ptr 0 0)), (4, .c (.ptr 1 0)), (5, .c (.ptr 2 0)), (42, .c (.pure (pMonos l))), (43, I l.length), (44, I j)],
   [(0, .var [.pure (pI k), .pure (pMonos l)]), (1, .var [.pure (pI 0), .nils]), (2, .var [.pure (pI (Q)), .ref 3]), (3, .arr 79 2 ((divL g (l.take j)).map mP))], 4, 0⟩) (fun j => j ≤ l.length) (fun j => l.length - j) ⟨0, [], Nat.zero_le _, by simp [Wk, wkF, wkM, wkL, look_cons, renV, renA, renC, renB, rn, clV, clA, clAs, clB, notIn, findB, findB_setB, clA.go, divL]⟩ ?_
  intro j hj
  refine runW_sound ?_
  by_cases hlt : j < l.length
  ·have e1 := divL_take (g := g) hlt
   have g1 := map_get (f := mP) hlt
   have hlen : (divL g (l.take j)).length ≤ 1000000000 := by simp [divL]; omega
   have hm1 : in64 (l[j].2.tdiv (g : Int)) := (floor_facts (h64 _ (List.getElem_mem hlt)) hg hg2).1
   have hm2 : l[j].2 / (g : Int) = l[j].2.tdiv (g : Int) := by
    rw [ediv_tdiv hg, if_neg]
    rw [Int.tmod_eq_zero_of_dvd (h0 _ (List.getElem_mem hlt)).2]; omega
   rw [hm2] at e1
   have wm := wrap_i64 (by unfold in64 at hm1; exact hm1)
   clear hm1 hm2
   generalize l[j] = m at *
   obtain ⟨n, x⟩ := m
   simp only [mP] at g1 e1
   skip
   generalize divL g (l.take j) = D0 at *
   repeat' first | simp (disch := omega) only [go_sem, ↓reduceIte, Nat.reduceEqDiff, reduceCtorEq, Int.reduceEq, g1, wrap_i64, w1, hg', ne_eq, wm] | ((with_reducible first | refine condD ?_ ?_ | refine condX ?_ ?_ | refine condW_intro ?_ ?_) <;> intro h <;> first | (exfalso; omega) | simp (disch := omega) only [go_sem, ↓reduceIte, Nat.reduceEqDiff, reduceCtorEq, Int.reduceEq, *, g1, wrap_i64, w1, hg', ne_eq, wm] | skip) | (refine app_own rfl (by intro h; cases h) (rowsOk_one rfl) (by simp; omega) (by simp; omega) ?_)
   exact ⟨j + 1, [(3, 5)], hlt, by omega, by simp [Wk, wkF, wkM, wkL, look_cons, renV, renA, renC, renB, rn, clV, clA, clAs, clB, notIn, findB, findB_setB, clA.go, e1]⟩
  ·obtain rfl : j = l.length := by omega
   rw [List.take_of_length_le (Nat.le_refl _)]
   repeat' first | simp (disch := omega) only [go_sem, ↓reduceIte, Nat.reduceEqDiff, reduceCtorEq, Int.reduceEq] | ((with_reducible first | refine condD ?_ ?_ | refine condX ?_ ?_ | refine condW_intro ?_ ?_) <;> intro h <;> first | (exfalso; omega) | simp (disch := omega) only [go_sem, ↓reduceIte, Nat.reduceEqDiff, reduceCtorEq, Int.reduceEq, *] | skip)
end Go.Proofs.Ytnddmjhpplopbaa
