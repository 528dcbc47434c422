/- The law ElimLimit as a contract of the abstract machine. -/
import Derived.Test.YtkdgmbakhkdegaaE07a
import Derived.Test.YtkdgmbakhkdegaaPlain07k
set_option linter.unusedVariables false
set_option linter.unusedSimpArgs false
set_option maxRecDepth 20000
namespace Go.Proofs.Ytkdgmbakhkdegaa
open Go.Abs Go.RowKit

set_option maxHeartbeats 2000000 in
theorem ElimLimit_abs (ps0 ps1 : List PC) (h0 : OkPs [.int .u16] ps0) (h1 : OkPs [.int .u8] ps1) :
  PCalls Try.prog 11 [argV false ps0, argV false ps1] (Go.Abs.B true) := by
 obtain ⟨_, rfl, k0⟩ := okOne h0
 obtain ⟨n, rfl, hn⟩ := okUint k0
 obtain ⟨_, rfl, k1⟩ := okOne h1
 obtain ⟨w, rfl, hw⟩ := okUint k1
 clear h0 h1 k0 k1
 have hn : 0 ≤ n ∧ n ≤ 65535 := by
  simp only [Lit.wf, Bool.and_eq_true, decide_eq_true_eq] at hn
  exact hn
 have hw : 0 ≤ w ∧ w ≤ 255 := by
  simp only [Lit.wf, Bool.and_eq_true, decide_eq_true_eq] at hw
  exact hw
 obtain ⟨N, rfl⟩ : ∃ N : Nat, n = N := ⟨n.toNat, by omega⟩
 obtain ⟨L, rfl⟩ : ∃ L : Nat, w = L := ⟨w.toNat, by omega⟩
 show PCalls _ n_law07_ElimLimit [.c (.pure (.val (.int .u16 N))), .c (.pure (.val (.int .u8 L)))] _
 refine PCalls.of is_law07_ElimLimit (by simp) fun _ => runW_sound ?_
 have w1 : IntKind.wrap .i64 (N : Int) = N := wrap_i64 (by omega)
 have w2 : IntKind.wrap .i64 (L : Int) = L := wrap_i64 (by omega)
 have m1 : Int.tmod (N : Int) 300 = ((N % 300 : Nat) : Int) := tmod_nat N 300
 have m2 : Int.tmod (L : Int) 40 = ((L % 40 : Nat) : Int) := tmod_nat L 40
 have b1 : N % 300 < 300 := Nat.mod_lt _ (by decide)
 have b2 : L % 40 < 40 := Nat.mod_lt _ (by decide)
 have z1 : ¬ (300 : Int) = 0 := by decide
 have z2 : ¬ (40 : Int) = 0 := by decide
 generalize N % 300 = many at *
 generalize L % 40 = lower at *
 simp only [c_law07_ElimLimit]
 repeat' first | simp (disch := omega) only [go_sem, ↓reduceIte, Nat.reduceEqDiff, reduceCtorEq, Int.reduceEq, w1, w2, m1, m2, z1, z2, ne_eq] | ((with_reducible first | refine condD ?_ ?_ | refine condX ?_ ?_ | refine condW_intro ?_ ?_) <;> intro h <;> first | (exfalso; omega) | simp (disch := omega) only [go_sem, ↓reduceIte, Nat.reduceEqDiff, reduceCtorEq, Int.reduceEq, *, w1, w2, m1, m2, z1, z2, ne_eq] | skip)
 clear w1 w2 m1 m2 z1 z2 hn hw
 refine AW_adopt 7 26 3 rfl (by decide) ?_
 refine AW_loop (fun k : Nat => ⟨[(5, I many), (6, I lower), (7, .c (.ref 0)), (8, I k)], [(0, .arr 26 3 ((limL lower k).map cP))], 1, 0⟩) (fun k => k ≤ many) (fun k => many - k) ⟨0, [], Nat.zero_le _, by simp [Wk, wkF, wkM, wkL, look_cons, renV, renA, renC, renB, rn, clV, clA, clAs, clB, notIn, findB, findB_setB, clA.go, limL]⟩ ?_
 intro k hk
 refine runW_sound ?_
 by_cases hlt : k < many
 ·have es := limL_succ lower k
  have hlen : (limL lower k).length ≤ 1000 := by rw [limL_len]; omega
  generalize limL lower k = D at *
  by_cases hl : k < lower
  ·have pl := law07_atLeast_abs 0 [(nI, 1)]
   rw [if_pos hl] at es
   have hli : (k : Int) < lower := by omega
   repeat' first | simp (disch := omega) only [go_sem, ↓reduceIte, Nat.reduceEqDiff, reduceCtorEq, Int.reduceEq, hli, wrap_i64] | ((with_reducible first | refine condD ?_ ?_ | refine condX ?_ ?_ | refine condW_intro ?_ ?_) <;> intro h <;> first | (exfalso; omega) | simp (disch := omega) only [go_sem, ↓reduceIte, Nat.reduceEqDiff, reduceCtorEq, Int.reduceEq, *, hli, wrap_i64] | skip) | (refine callW_of pl rfl (.inr rfl) ?_) | (refine app_own rfl (by intro h; cases h) (rowsOk_one rfl) (by simp; omega) (by simp; omega) ?_)
   exact ⟨k + 1, [(0, 1)], hlt, by omega, by simp [Wk, wkF, wkM, wkL, look_cons, renV, renA, renC, renB, rn, clV, clA, clAs, clB, notIn, findB, findB_setB, clA.go, es, cP]⟩
  ·have pl := law07_atLeast_abs 0 [(nI, -1)]
   rw [if_neg hl] at es
   have hli : ¬ (k : Int) < lower := by omega
   repeat' first | simp (disch := omega) only [go_sem, ↓reduceIte, Nat.reduceEqDiff, reduceCtorEq, Int.reduceEq, hli, wrap_i64] | ((with_reducible first | refine condD ?_ ?_ | refine condX ?_ ?_ | refine condW_intro ?_ ?_) <;> intro h <;> first | (exfalso; omega) | simp (disch := omega) only [go_sem, ↓reduceIte, Nat.reduceEqDiff, reduceCtorEq, Int.reduceEq, *, hli, wrap_i64] | skip) | (refine callW_of pl rfl (.inr rfl) ?_) | (refine app_own rfl (by intro h; cases h) (rowsOk_one rfl) (by simp; omega) (by simp; omega) ?_)
   exact ⟨k + 1, [(0, 1)], hlt, by omega, by simp [Wk, wkF, wkM, wkL, look_cons, renV, renA, renC, renB, rn, clV, clA, clAs, clB, notIn, findB, findB_setB, clA.go, es, cP]⟩
 ·obtain rfl : k = many := by omega
  have h64 : ∀ c ∈ limL lower k, con64 c := fun c hc => (limL_ok c hc).2
  have htot := limL_tot (lower := lower) (k := k)
  have q1 := elim_Eliminate_abs (n := nI) h64 (by omega)
  have q2 := elim_Infeasible_abs (fuel := -1) h64 (by omega) (by simp [in64])
  have q3 := elim_CheckCertificate_abs (b := List.replicate k 0) h64 (by omega) (fun x hx => by rw [List.eq_of_mem_replicate hx]; exact in64_zero)
  rw [limL_check] at q3
  have q3' : PCalls Try.prog n_elim_CheckCertificate [aCons (limL lower k), .c (.pure (.slice (List.replicate k [pI 0])))] (I (if 256 < k then 2 else 17)) := by
   rw [show List.replicate k [pI 0] = (List.replicate k (0 : Int)).map (fun n => [pI n]) by rw [List.map_replicate]]
   exact q3
  have hi := limL_inf (lower := lower) (k := k)
  obtain ⟨e1, e2⟩ := limL_elim (lower := lower) (k := k) (by omega)
  have hmin : min (k : Int) (lower : Int) = ((min k lower : Nat) : Int) := by omega
  have hsub : IntKind.wrap .i64 ((k : Int) - (lower : Int)) = (k : Int) - lower := wrap_i64 (by omega)
  have hmax : max 0 ((k : Int) - (lower : Int)) = ((k - lower : Nat) : Int) := by omega
  have hPb : min k lower * (k - lower) ≤ 300 * 300 := Nat.mul_le_mul (by omega) (by omega)
  have hprod : IntKind.wrap .i64 (((min k lower : Nat) : Int) * ((k - lower : Nat) : Int)) = ((min k lower * (k - lower) : Nat) : Int) := by
   rw [← Int.natCast_mul]
   exact wrap_i64 (by omega)
  clear q3 h64 htot
  generalize infS (limL lower k) (-1) = If at *
  generalize elimS (limL lower k) nI = El at *
  generalize limL lower k = D at *
  obtain ⟨ib, io, ie⟩ := If
  obtain ⟨El, ee⟩ := El
  simp only at hi e1 e2
  generalize hP : min k lower * (k - lower) = P at *
  generalize min k lower = mn at *
  generalize k - lower = df at *
  clear hP
  by_cases h : 256 < k
  ·have hk : (k : Int) > 256 := by omega
   cases e1 (.inl h)
   rw [if_pos h] at hi q3'
   subst hi
   clear e1 e2
   repeat' first | simp (disch := omega) only [go_sem, ↓reduceIte, Nat.reduceEqDiff, reduceCtorEq, Int.reduceEq, hmin, hsub, hmax, hprod, hk] | ((with_reducible first | refine condD ?_ ?_ | refine condX ?_ ?_ | refine condW_intro ?_ ?_) <;> intro h <;> first | (exfalso; omega) | simp (disch := omega) only [go_sem, ↓reduceIte, Nat.reduceEqDiff, reduceCtorEq, Int.reduceEq, *, hmin, hsub, hmax, hprod, hk] | skip) | (refine callW_z1 0 26 3 (D.map cP) q1 (by simp (disch := omega) only [findB, findB_setB, ifN, eq_self, ↓reduceIte, Option.map_some] <;> rfl) (by simp [frzV, frz1, purVs, purV, purAs, purA, purC]) (.inr (by simp [frzV, frz1, norefV, norefA, norefC])) ?_) | (refine callW_of q2 rfl (.inr rfl) ?_) | (refine callW_of q3' rfl (.inl rfl) ?_) | (refine callW_of law07_examples_abs rfl (.inl rfl) ?_)
   all_goals rfl
  ·have hk : ¬ (k : Int) > 256 := by omega
   rw [if_neg h] at hi q3'
   subst hi
   by_cases h2 : 256 < P
   ·have hp : (P : Int) > 256 := by omega
    cases e1 (.inr h2)
    clear e1 e2
    repeat' first | simp (disch := omega) only [go_sem, ↓reduceIte, Nat.reduceEqDiff, reduceCtorEq, Int.reduceEq, hmin, hsub, hmax, hprod, hk, hp] | ((with_reducible first | refine condD ?_ ?_ | refine condX ?_ ?_ | refine condW_intro ?_ ?_) <;> intro h <;> first | (exfalso; omega) | simp (disch := omega) only [go_sem, ↓reduceIte, Nat.reduceEqDiff, reduceCtorEq, Int.reduceEq, *, hmin, hsub, hmax, hprod, hk, hp] | skip) | (refine callW_z1 0 26 3 (D.map cP) q1 (by simp (disch := omega) only [findB, findB_setB, ifN, eq_self, ↓reduceIte, Option.map_some] <;> rfl) (by simp [frzV, frz1, purVs, purV, purAs, purA, purC]) (.inr (by simp [frzV, frz1, norefV, norefA, norefC])) ?_) | (refine callW_of q2 rfl (.inr rfl) ?_) | (refine callW_of q3' rfl (.inl rfl) ?_) | (refine callW_of law07_examples_abs rfl (.inl rfl) ?_)
    all_goals rfl
   ·have hp : ¬ (P : Int) > 256 := by omega
    obtain ⟨rfl, hlen⟩ := e2 h h2
    have hli : (El.length : Int) = (P : Int) := by omega
    clear e1 e2
    repeat' first | simp (disch := omega) only [go_sem, ↓reduceIte, Nat.reduceEqDiff, reduceCtorEq, Int.reduceEq, hmin, hsub, hmax, hprod, hk, hp, hli] | ((with_reducible first | refine condD ?_ ?_ | refine condX ?_ ?_ | refine condW_intro ?_ ?_) <;> intro h <;> first | (exfalso; omega) | simp (disch := omega) only [go_sem, ↓reduceIte, Nat.reduceEqDiff, reduceCtorEq, Int.reduceEq, *, hmin, hsub, hmax, hprod, hk, hp, hli] | skip) | (refine callW_z1 0 26 3 (D.map cP) q1 (by simp (disch := omega) only [findB, findB_setB, ifN, eq_self, ↓reduceIte, Option.map_some] <;> rfl) (by simp [frzV, frz1, purVs, purV, purAs, purA, purC]) (.inr (by simp [frzV, frz1, norefV, norefA, norefC])) ?_) | (refine callW_of q2 rfl (.inr rfl) ?_) | (refine callW_of q3' rfl (.inl rfl) ?_) | (refine callW_of law07_examples_abs rfl (.inl rfl) ?_)
    all_goals rfl
end Go.Proofs.Ytkdgmbakhkdegaa
