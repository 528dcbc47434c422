/- The law ShardScatters by the abstract machine. -/
import Derived.Test.YtcnbccmmhcoanaaVScat3
import Derived.Test.YtcnbccmmhcoanaaIn0
set_option linter.unusedVariables false
set_option linter.unusedSimpArgs false
set_option maxRecDepth 20000
namespace Go.Proofs.Ytcnbccmmhcoanaa
open Go.Abs Go.RowKit

abbrev aVals (l : List Fr) : AV := aSl frP l
abbrev aTns (l : List Tn) : AV := aSl tnP l
theorem base_Vals_same (l : List Fr) : PCalls Try.prog n_base_Vals [aVals l, aVals l] (Go.Abs.B true) := by
 refine PCalls.of is_base_Vals (by simp) fun hb => runW_sound ?_
 have hx : l.length ≤ 9223372036854775807 := by simpa [bndVs, bndV, bndA] using hb.1
 simp only [c_base_Vals]
 repeat' first | simp (disch := omega) only [go_sem, ↓reduceIte, Nat.reduceEqDiff, reduceCtorEq, Int.reduceEq] | ((with_reducible first | refine condD ?_ ?_ | refine condX ?_ ?_ | refine condW_intro ?_ ?_) <;> intro h <;> first | (exfalso; omega) | simp (disch := omega) only [go_sem, ↓reduceIte, Nat.reduceEqDiff, reduceCtorEq, Int.reduceEq, *] | skip)
 refine AW_loop (fun k : Nat => ⟨[(0, aVals l), (1, aVals l), (5, I k)], [], 0, 0⟩) (fun k => k ≤ l.length) (fun k => l.length - k) ⟨0, [], Nat.zero_le _, by simp [Wk, wkF, wkM, wkL, look_cons, renV, renA, renC, renB, rn, clV, clA, clAs, clB, notIn, findB, findB_setB, clA.go]⟩ ?_
 rintro k hk
 refine runW_sound ?_
 by_cases hlt : k < l.length
 ·have hg := map_get (f := frP) hlt
  repeat' first | simp (disch := omega) only [go_sem, ↓reduceIte, Nat.reduceEqDiff, reduceCtorEq, Int.reduceEq, hg, wrap_i64] | ((with_reducible first | refine condD ?_ ?_ | refine condX ?_ ?_ | refine condW_intro ?_ ?_) <;> intro h <;> first | (exfalso; omega) | simp (disch := omega) only [go_sem, ↓reduceIte, Nat.reduceEqDiff, reduceCtorEq, Int.reduceEq, *, hg, wrap_i64] | skip)
  exact ⟨k + 1, [], hlt, by omega, by simp [Wk, wkF, wkM, wkL, look_cons, renV, renA, renC, renB, rn, clV, clA, clAs, clB, notIn, findB, findB_setB, clA.go]⟩
 ·have hkI : ¬ (k : Int) < l.length := by omega
  repeat' first | simp (disch := omega) only [go_sem, ↓reduceIte, Nat.reduceEqDiff, reduceCtorEq, Int.reduceEq] | ((with_reducible first | refine condD ?_ ?_ | refine condX ?_ ?_ | refine condW_intro ?_ ?_) <;> intro h <;> first | (exfalso; omega) | simp (disch := omega) only [go_sem, ↓reduceIte, Nat.reduceEqDiff, reduceCtorEq, Int.reduceEq, *] | skip)
theorem base_Ints_same' (xs : List Int) : PCalls Try.prog n_base_Ints [aInts xs, aInts xs] (Go.Abs.B true) := by
 have := base_Ints_abs xs xs
 rwa [decide_eq_true rfl] at this
theorem base_Tensor_same (x : Tn) : PCalls Try.prog n_base_Tensor [aTn x, aTn x] (Go.Abs.B true) := by
 refine PCalls.of is_base_Tensor (by simp) fun hb => runW_sound ?_
 simp only [c_base_Tensor]
 repeat' first | simp (disch := omega) only [go_sem, ↓reduceIte, Nat.reduceEqDiff, reduceCtorEq, Int.reduceEq] | ((with_reducible first | refine condD ?_ ?_ | refine condX ?_ ?_ | refine condW_intro ?_ ?_) <;> intro h <;> first | (exfalso; omega) | simp (disch := omega) only [go_sem, ↓reduceIte, Nat.reduceEqDiff, reduceCtorEq, Int.reduceEq, *] | skip) | (refine callW_of (base_Ints_same' x.2.1) rfl (.inl rfl) ?_) | (refine callW_of (base_Vals_same x.2.2) rfl (.inl rfl) ?_)
theorem base_Tensors_same (l : List Tn) : PCalls Try.prog n_base_Tensors [aTns l, aTns l] (Go.Abs.B true) := by
 refine PCalls.of is_base_Tensors (by simp) fun hb => runW_sound ?_
 have hx : l.length ≤ 9223372036854775807 := by simpa [bndVs, bndV, bndA] using hb.1
 simp only [c_base_Tensors]
 repeat' first | simp (disch := omega) only [go_sem, ↓reduceIte, Nat.reduceEqDiff, reduceCtorEq, Int.reduceEq] | ((with_reducible first | refine condD ?_ ?_ | refine condX ?_ ?_ | refine condW_intro ?_ ?_) <;> intro h <;> first | (exfalso; omega) | simp (disch := omega) only [go_sem, ↓reduceIte, Nat.reduceEqDiff, reduceCtorEq, Int.reduceEq, *] | skip)
 refine AW_loop (fun k : Nat => ⟨[(0, aTns l), (1, aTns l), (5, I k)], [], 0, 0⟩) (fun k => k ≤ l.length) (fun k => l.length - k) ⟨0, [], Nat.zero_le _, by simp [Wk, wkF, wkM, wkL, look_cons, renV, renA, renC, renB, rn, clV, clA, clAs, clB, notIn, findB, findB_setB, clA.go]⟩ ?_
 rintro k hk
 refine runW_sound ?_
 by_cases hlt : k < l.length
 ·have hg := map_get (f := tnP) hlt
  have p1 := base_Tensor_same l[k]
  repeat' first | simp (disch := omega) only [go_sem, ↓reduceIte, Nat.reduceEqDiff, reduceCtorEq, Int.reduceEq, hg, wrap_i64] | ((with_reducible first | refine condD ?_ ?_ | refine condX ?_ ?_ | refine condW_intro ?_ ?_) <;> intro h <;> first | (exfalso; omega) | simp (disch := omega) only [go_sem, ↓reduceIte, Nat.reduceEqDiff, reduceCtorEq, Int.reduceEq, *, hg, wrap_i64] | skip) | (refine callW_of p1 rfl (.inl rfl) ?_)
  exact ⟨k + 1, [], hlt, by omega, by simp [Wk, wkF, wkM, wkL, look_cons, renV, renA, renC, renB, rn, clV, clA, clAs, clB, notIn, findB, findB_setB, clA.go]⟩
 ·have hkI : ¬ (k : Int) < l.length := by omega
  repeat' first | simp (disch := omega) only [go_sem, ↓reduceIte, Nat.reduceEqDiff, reduceCtorEq, Int.reduceEq] | ((with_reducible first | refine condD ?_ ?_ | refine condX ?_ ?_ | refine condW_intro ?_ ?_) <;> intro h <;> first | (exfalso; omega) | simp (disch := omega) only [go_sem, ↓reduceIte, Nat.reduceEqDiff, reduceCtorEq, Int.reduceEq, *] | skip)
theorem okVals {p : PC} (h : OkP (.slice [.int .i64, .int .i64]) p) : ∃ l : List Fr, p = pSl frP l ∧ (∀ a ∈ l, frIn a) ∧ l.length ≤ maxLen :=
 okRows frP frIn (fun r hr => by
  obtain ⟨p, r, rfl, hp, hr⟩ := okCons hr
  obtain ⟨q, rfl, hq⟩ := okOne hr
  obtain ⟨n, rfl, hn⟩ := okInt hp
  obtain ⟨d, rfl, hd⟩ := okInt hq
  exact ⟨(n, d), rfl, hn, hd⟩) h
/-- The shape of a tensor in a row's input. -/
abbrev shTn : List TS := [.int .i64, .int .i64, .int .i64, .int .i64, .int .i64, .slice [.int .i64], .slice [.int .i64, .int .i64]]
theorem okTn {ps : List PC} (h : OkPs shTn ps) : ∃ x : Tn, ps = tnP x ∧ ∀ a ∈ x.2.2, frIn a := by
 obtain ⟨p1, r, rfl, h1, h⟩ := okCons h
 obtain ⟨p2, r, rfl, h2, h⟩ := okCons h
 obtain ⟨p3, r, rfl, h3, h⟩ := okCons h
 obtain ⟨p4, r, rfl, h4, h⟩ := okCons h
 obtain ⟨p5, r, rfl, h5, h⟩ := okCons h
 obtain ⟨p6, r, rfl, h6, h⟩ := okCons h
 obtain ⟨p7, rfl, h7⟩ := okOne h
 obtain ⟨n1, rfl, _⟩ := okInt h1
 obtain ⟨n2, rfl, _⟩ := okInt h2
 obtain ⟨n3, rfl, _⟩ := okInt h3
 obtain ⟨n4, rfl, _⟩ := okInt h4
 obtain ⟨n5, rfl, _⟩ := okInt h5
 obtain ⟨ds, rfl, _⟩ := okInts h6
 obtain ⟨l, rfl, hl, _⟩ := okVals h7
 exact ⟨((n1, n2, n3, n4, n5), ds, l), rfl, hl⟩

theorem ShardScatters_abs (ps0 ps1 : List PC) (h0 : OkPs [.slice [.int .i64], .slice [.int .i64]] ps0) (h1 : OkPs [.int .i64, .int .i64, .int .i64, .int .i64, .int .i64, .slice [.int .i64], .slice [.int .i64, .int .i64]] ps1) : PCalls Try.prog 3 [argV true ps0, argV true ps1] (Go.Abs.B true) := by
 obtain ⟨_, _, rfl, k0, k1⟩ := okCons h0
 obtain ⟨_, rfl, k2⟩ := okOne k1
 obtain ⟨ms, rfl, _, _⟩ := okInts k0
 obtain ⟨ss, rfl, _, _⟩ := okInts k2
 obtain ⟨x, rfl, hv⟩ := okTn h1
 clear h0 h1 k0 k1 k2
 show PCalls _ n_law52_ShardScatters [.agg [.pure (pInts ms), .pure (pInts ss)], aTn x] _
 refine PCalls.of is_law52_ShardScatters (by simp) fun hb => runW_sound ?_
 clear hb
 have q0 := ref52_Small_abs ms x.2.1 ss
 have q1 := shard_Scatter_abs (ms := ms) (ss := ss) hv
 have q2 := ref52_Scatter_abs (ms := ms) (ss := ss) hv
 generalize scat ms x ss = r at *
 have q3 := base_Tensors_same r.1
 simp only [c_law52_ShardScatters]
 repeat' first | simp (disch := omega) only [go_sem, ↓reduceIte, Nat.reduceEqDiff, reduceCtorEq, Int.reduceEq] | ((with_reducible first | refine condD ?_ ?_ | refine condX ?_ ?_ | refine condW_intro ?_ ?_) <;> intro h <;> first | (exfalso; omega) | simp (disch := omega) only [go_sem, ↓reduceIte, Nat.reduceEqDiff, reduceCtorEq, Int.reduceEq, *] | skip) | (refine callW_of q0 rfl (.inl rfl) ?_) | (refine callW_of law52_alive_abs rfl (.inl rfl) ?_) | (refine callW_of q1 rfl (.inr rfl) ?_) | (refine callW_of q2 rfl (.inr rfl) ?_) | (refine callW_of q3 rfl (.inl rfl) ?_)
end Go.Proofs.Ytcnbccmmhcoanaa
