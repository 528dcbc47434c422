/- The law ShardGathers by the abstract machine. -/
import Derived.Test.YtcnbccmmhcoanaaVGath5
set_option linter.unusedVariables false
set_option linter.unusedSimpArgs false
set_option maxRecDepth 20000
namespace Go.Proofs.Ytcnbccmmhcoanaa
open Go.Abs Go.RowKit

theorem okTns {p : PC} (h : OkP (.slice shTn) p) : ∃ l : List Tn, p = pSl tnP l ∧ (∀ x ∈ l, ∀ a ∈ x.2.2, frIn a) ∧ l.length ≤ maxLen :=
 okRows tnP (fun x => ∀ a ∈ x.2.2, frIn a) (fun r hr => okTn hr) h
theorem ShardGathers_abs (ps0 ps1 ps2 : List PC) (h0 : OkPs [.slice [.int .i64], .slice [.int .i64]] ps0) (h1 : OkPs [.slice [.int .i64]] ps1) (h2 : OkPs [.slice [.int .i64, .int .i64, .int .i64, .int .i64, .int .i64, .slice [.int .i64], .slice [.int .i64, .int .i64]]] ps2) :
  PCalls Try.prog 4 [argV true ps0, argV false ps1, argV false ps2] (Go.Abs.B true) := by
 obtain ⟨_, _, rfl, k0, k1⟩ := okCons h0
 obtain ⟨_, rfl, k2⟩ := okOne k1
 obtain ⟨_, rfl, k3⟩ := okOne h1
 obtain ⟨_, rfl, k4⟩ := okOne h2
 obtain ⟨ms, rfl, _, _⟩ := okInts k0
 obtain ⟨ss, rfl, _, _⟩ := okInts k2
 obtain ⟨ds, rfl, _, _⟩ := okInts k3
 obtain ⟨xs, rfl, hv, hxl⟩ := okTns k4
 clear h0 h1 h2 k0 k1 k2 k3 k4
 show PCalls _ n_law52_ShardGathers [.agg [.pure (pInts ms), .pure (pInts ss)], aInts ds, aTns xs] _
 refine PCalls.of is_law52_ShardGathers (by simp) fun hb => runW_sound ?_
 have hx : xs.length ≤ 9223372036854775807 := by simpa [bndVs, bndV, bndA] using hb.2.2.1
 clear hb hxl
 have q0 := ref52_Small_abs ms ds ss
 have q1 := shard_Gather_abs (ms := ms) (ds := ds) (ss := ss) hv
 have q2 := ref52_Gather_abs (ms := ms) (ds := ds) (ss := ss) hv
 generalize gath ms ds ss xs = r at *
 have q3 := base_Tensor_same r.1
 simp only [c_law52_ShardGathers]
 repeat' first | simp (disch := omega) only [go_sem, ↓reduceIte, Nat.reduceEqDiff, reduceCtorEq, Int.reduceEq] | ((with_reducible first | refine condD ?_ ?_ | refine condX ?_ ?_ | refine condW_intro ?_ ?_) <;> intro h <;> first | (exfalso; omega) | simp (disch := omega) only [go_sem, ↓reduceIte, Nat.reduceEqDiff, reduceCtorEq, Int.reduceEq, *] | skip) | (refine callW_of q0 rfl (.inl rfl) ?_) | (refine callW_of law52_alive_abs rfl (.inl rfl) ?_)
 refine AW_loop (fun k : Nat => ⟨[(1, aInts ds), (2, aTns xs), (3, .c (.ptr 0 0)), (7, I k)], [(0, .var [.pure (pInts ms), .pure (pInts ss)])], 1, 0⟩) (fun k => k ≤ xs.length) (fun k => xs.length - k) ⟨0, [], Nat.zero_le _, by simp [Wk, wkF, wkM, wkL, look_cons, renV, renA, renC, renB, rn, clV, clA, clAs, clB, notIn, findB, findB_setB, clA.go]⟩ ?_
 rintro k hk
 refine runW_sound ?_
 by_cases hlt : k < xs.length
 ·have hg := map_get (f := tnP) hlt
  generalize xs[k] = z at *
  obtain ⟨zt, zd, zl⟩ := z
  repeat' first | simp (disch := omega) only [go_sem, ↓reduceIte, Nat.reduceEqDiff, reduceCtorEq, Int.reduceEq, hg, wrap_i64] | ((with_reducible first | refine condD ?_ ?_ | refine condX ?_ ?_ | refine condW_intro ?_ ?_) <;> intro h <;> first | (exfalso; omega) | simp (disch := omega) only [go_sem, ↓reduceIte, Nat.reduceEqDiff, reduceCtorEq, Int.reduceEq, *, hg, wrap_i64] | skip) | (refine callW_of law52_alive_abs rfl (.inl rfl) ?_)
  all_goals exact ⟨k + 1, [], hlt, by omega, by simp [Wk, wkF, wkM, wkL, look_cons, renV, renA, renC, renB, rn, clV, clA, clAs, clB, notIn, findB, findB_setB, clA.go]⟩
 ·have hkI : ¬ (k : Int) < xs.length := by omega
  repeat' first | simp (disch := omega) only [go_sem, ↓reduceIte, Nat.reduceEqDiff, reduceCtorEq, Int.reduceEq] | ((with_reducible first | refine condD ?_ ?_ | refine condX ?_ ?_ | refine condW_intro ?_ ?_) <;> intro h <;> first | (exfalso; omega) | simp (disch := omega) only [go_sem, ↓reduceIte, Nat.reduceEqDiff, reduceCtorEq, Int.reduceEq, *] | skip) | (refine callW_of q1 rfl (.inr rfl) ?_) | (refine callW_of q2 rfl (.inr rfl) ?_) | (refine callW_of q3 rfl (.inl rfl) ?_) | (refine callW_of law52_alive_abs rfl (.inl rfl) ?_)
end Go.Proofs.Ytcnbccmmhcoanaa
