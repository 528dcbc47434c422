/- Walks by the abstract machine: replicas; the law ShardValidates. -/
import Derived.Test.YtcnbccmmhcoanaaV52d
import Derived.Test.YtcnbccmmhcoanaaIn0
set_option linter.unusedVariables false
set_option linter.unusedSimpArgs false
set_option maxRecDepth 20000
namespace Go.Proofs.Ytcnbccmmhcoanaa
open Go.Abs Go.RowKit

/-- How often a block lies on the mesh: the extents that no entry names. -/
def repL (ms ss : List Int) : Nat → Int
 | 0 => 1
 | k + 1 => repL ms ss k * (if (k : Int) ∈ ss then 1 else ms[k]?.getD 0)
noncomputable def reps (ms ss : List Int) : Int := if MeshOk ms ∧ entOk ms.length ss then repL ms ss ms.length else 0
theorem repL_bd {ms ss : List Int} (h : MeshOk ms) : ∀ {k : Nat}, k ≤ ms.length → 1 ≤ repL ms ss k ∧ repL ms ss k ≤ 16 ^ k
 | 0, _ => by simp [repL]
 |k + 1, hk => by
  have h1 := repL_bd (ss := ss) h (k := k) (by omega)
  have h2 := mesh_get h (i := k) (by omega)
  have e : ms[k]?.getD 0 = ms[k] := by simp [show k < ms.length by omega]
  have hp : (0 : Int) < 16 ^ k := by omega
  rw [repL, e, Int.pow_succ]
  split
  ·omega
  ·constructor
   ·have := Int.mul_le_mul h1.1 h2.1 (by omega) (by omega)
    omega
   ·exact Int.mul_le_mul h1.2 h2.2 (by omega) (by omega)
theorem repL_64 {ms ss : List Int} (h : MeshOk ms) {k : Nat} (hk : k ≤ ms.length) : 1 ≤ repL ms ss k ∧ repL ms ss k ≤ 4096 := by
 have h1 := repL_bd (ss := ss) h hk
 have h3 := h.2.1
 have : (16 : Int) ^ k ≤ 4096 := by
  have : k = 0 ∨ k = 1 ∨ k = 2 ∨ k = 3 := by omega
  rcases this with rfl | rfl | rfl | rfl <;> decide
 omega

theorem shard_Replicas_abs (ms ss : List Int) : PCalls Try.prog n_shard_Replicas [aMesh ms, aInts ss] (I (reps ms ss)) := by
 refine PCalls.of is_shard_Replicas (by simp) fun hb => runW_sound ?_
 have hl := bnd_mesh hb.1
 simp only [c_shard_Replicas]
 by_cases h1 : MeshOk ms
 ·have p1 := mesh_Validate_abs ms
  rw [vmesh_yes h1] at p1
  have p2 := shard_entries_abs ms ss
  by_cases h2 : entOk ms.length ss
  ·rw [decide_eq_true h2] at p2
   rw [reps, if_pos ⟨h1, h2⟩]
   clear h2
   repeat' first | simp (disch := omega) only [go_sem, ↓reduceIte, Nat.reduceEqDiff, reduceCtorEq, Int.reduceEq] | ((with_reducible first | refine condD ?_ ?_ | refine condX ?_ ?_ | refine condW_intro ?_ ?_) <;> intro h <;> first | (exfalso; omega) | simp (disch := omega) only [go_sem, ↓reduceIte, Nat.reduceEqDiff, reduceCtorEq, Int.reduceEq, *] | skip) | (refine callW_of p1 rfl (.inl rfl) ?_) | (refine callW_of p2 rfl (.inl rfl) ?_)
   refine AW_loop (fun k : Nat => ⟨[(1, aInts ss), (5, I (repL ms ss k)), (18, aInts ms), (19, I ms.length), (20, I k)], [], 1, 0⟩) (fun k => k ≤ ms.length) (fun k => ms.length - k) ⟨0, [], Nat.zero_le _, by simp [Wk, wkF, wkM, wkL, look_cons, renV, renA, renC, renB, rn, clV, clA, clAs, clB, notIn, findB, findB_setB, clA.go, repL]⟩ ?_
   rintro k hk
   refine runW_sound ?_
   by_cases hlt : k < ms.length
   ·have hr := repL_64 (ss := ss) h1 (show k + 1 ≤ ms.length from hlt)
    have e : ms[k]?.getD 0 = ms[k] := by simp [hlt]
    have pc := slices_Contains_abs ss (k : Int)
    by_cases hm : (k : Int) ∈ ss
    ·rw [decide_eq_true hm] at pc
     have e2 : Hid (repL ms ss (k + 1) = repL ms ss k) := by show _ = _; rw [repL, if_pos hm, Int.mul_one]
     clear hr
     repeat' first | simp (disch := omega) only [go_sem, ↓reduceIte, Nat.reduceEqDiff, reduceCtorEq, Int.reduceEq, map_get hlt, wrap_i64] | ((with_reducible first | refine condD ?_ ?_ | refine condX ?_ ?_ | refine condW_intro ?_ ?_) <;> intro h <;> first | (exfalso; omega) | simp (disch := omega) only [go_sem, ↓reduceIte, Nat.reduceEqDiff, reduceCtorEq, Int.reduceEq, *, map_get hlt, wrap_i64] | skip) | (refine callW_of pc rfl (.inl rfl) ?_)
     exact ⟨k + 1, [], hlt, by omega, by simp [Wk, wkF, wkM, wkL, look_cons, renV, renA, renC, renB, rn, clV, clA, clAs, clB, notIn, findB, findB_setB, clA.go, e2.out]⟩
    ·rw [decide_eq_false hm] at pc
     have e2 : Hid (repL ms ss (k + 1) = repL ms ss k * ms[k]) := by show _ = _; rw [repL, if_neg hm, e]
     rw [e2.out] at hr
     have hw : IntKind.wrap .i64 (repL ms ss k * ms[k]) = repL ms ss k * ms[k] := wrap_i64 (by omega)
     clear hr
     repeat' first | simp (disch := omega) only [go_sem, ↓reduceIte, Nat.reduceEqDiff, reduceCtorEq, Int.reduceEq, map_get hlt, wrap_i64, hw] | ((with_reducible first | refine condD ?_ ?_ | refine condX ?_ ?_ | refine condW_intro ?_ ?_) <;> intro h <;> first | (exfalso; omega) | simp (disch := omega) only [go_sem, ↓reduceIte, Nat.reduceEqDiff, reduceCtorEq, Int.reduceEq, *, map_get hlt, wrap_i64, hw] | skip) | (refine callW_of pc rfl (.inl rfl) ?_)
     exact ⟨k + 1, [], hlt, by omega, by simp [Wk, wkF, wkM, wkL, look_cons, renV, renA, renC, renB, rn, clV, clA, clAs, clB, notIn, findB, findB_setB, clA.go, e2.out]⟩
   ·obtain rfl : k = ms.length := by omega
    repeat' first | simp (disch := omega) only [go_sem, ↓reduceIte, Nat.reduceEqDiff, reduceCtorEq, Int.reduceEq] | ((with_reducible first | refine condD ?_ ?_ | refine condX ?_ ?_ | refine condW_intro ?_ ?_) <;> intro h <;> first | (exfalso; omega) | simp (disch := omega) only [go_sem, ↓reduceIte, Nat.reduceEqDiff, reduceCtorEq, Int.reduceEq, *] | skip)
  ·rw [decide_eq_false h2] at p2
   rw [reps, if_neg fun h => h2 h.2]
   repeat' first | simp (disch := omega) only [go_sem, ↓reduceIte, Nat.reduceEqDiff, reduceCtorEq, Int.reduceEq] | ((with_reducible first | refine condD ?_ ?_ | refine condX ?_ ?_ | refine condW_intro ?_ ?_) <;> intro h <;> first | (exfalso; omega) | simp (disch := omega) only [go_sem, ↓reduceIte, Nat.reduceEqDiff, reduceCtorEq, Int.reduceEq, *] | skip) | (refine callW_of p1 rfl (.inl rfl) ?_) | (refine callW_of p2 rfl (.inl rfl) ?_)
 ·have p1 := mesh_Validate_abs ms
  rw [vmesh_no h1] at p1
  rw [reps, if_neg fun h => h1 h.1]
  repeat' first | simp (disch := omega) only [go_sem, ↓reduceIte, Nat.reduceEqDiff, reduceCtorEq, Int.reduceEq] | ((with_reducible first | refine condD ?_ ?_ | refine condX ?_ ?_ | refine condW_intro ?_ ?_) <;> intro h <;> first | (exfalso; omega) | simp (disch := omega) only [go_sem, ↓reduceIte, Nat.reduceEqDiff, reduceCtorEq, Int.reduceEq, *] | skip) | (refine callW_of p1 rfl (.inl rfl) ?_)

theorem base_Ints_abs (xs ys : List Int) : PCalls Try.prog n_base_Ints [aInts xs, aInts ys] (Go.Abs.B (decide (xs = ys))) := by
 refine PCalls.of is_base_Ints (by simp) fun hb => runW_sound ?_
 have hx : xs.length ≤ 9223372036854775807 := by simpa [bndVs, bndV, bndA] using hb.1
 have hy : ys.length ≤ 9223372036854775807 := by simpa [bndVs, bndV, bndA] using hb.2.1
 simp only [c_base_Ints]
 by_cases hl : xs.length = ys.length
 ·have hl' : (xs.length : Int) = ys.length := by omega
  have HL := Lib.hid hl
  clear hl
  repeat' first | simp (disch := omega) only [go_sem, ↓reduceIte, Nat.reduceEqDiff, reduceCtorEq, Int.reduceEq, hl'] | ((with_reducible first | refine condD ?_ ?_ | refine condX ?_ ?_ | refine condW_intro ?_ ?_) <;> intro h <;> first | (exfalso; omega) | simp (disch := omega) only [go_sem, ↓reduceIte, Nat.reduceEqDiff, reduceCtorEq, Int.reduceEq, *, hl'] | skip)
  refine AW_loop (fun k : Nat => ⟨[(5, I k), (0, aInts xs), (1, aInts ys)], [], 0, 0⟩) (fun k => k ≤ xs.length ∧ Hid (xs.take k = ys.take k)) (fun k => xs.length - k) ⟨0, [], ⟨Nat.zero_le _, rfl⟩, by simp [Wk, wkF, wkM, wkL, look_cons, renV, renA, renC, renB, rn, clV, clA, clAs, clB, notIn, findB, findB_setB, clA.go]⟩ ?_
  rintro k ⟨hk, hall⟩
  refine runW_sound ?_
  clear hl'
  by_cases hlt : k < xs.length
  ·have hlt' : k < ys.length := by have := HL.out; omega
   by_cases e : xs[k] = ys[k]
   ·have E : Hid (xs.take (k + 1) = ys.take (k + 1)) := by
     show _ = _
     rw [List.take_succ_eq_append_getElem hlt, List.take_succ_eq_append_getElem hlt', hall.out, e]
    repeat' first | simp (disch := omega) only [go_sem, ↓reduceIte, Nat.reduceEqDiff, reduceCtorEq, Int.reduceEq, map_get hlt, map_get hlt', e, wrap_i64] | ((with_reducible first | refine condD ?_ ?_ | refine condX ?_ ?_ | refine condW_intro ?_ ?_) <;> intro h <;> first | (exfalso; omega) | simp (disch := omega) only [go_sem, ↓reduceIte, Nat.reduceEqDiff, reduceCtorEq, Int.reduceEq, *, map_get hlt, map_get hlt', e, wrap_i64] | skip)
    exact ⟨k + 1, [], ⟨hlt, E⟩, by omega, by simp [Wk, wkF, wkM, wkL, look_cons, renV, renA, renC, renB, rn, clV, clA, clAs, clB, notIn, findB, findB_setB, clA.go]⟩
   ·have hne : ¬ xs = ys := by rintro rfl; exact e rfl
    rw [decide_eq_false hne]
    repeat' first | simp (disch := omega) only [go_sem, ↓reduceIte, Nat.reduceEqDiff, reduceCtorEq, Int.reduceEq, map_get hlt, map_get hlt', e, wrap_i64] | ((with_reducible first | refine condD ?_ ?_ | refine condX ?_ ?_ | refine condW_intro ?_ ?_) <;> intro h <;> first | (exfalso; omega) | simp (disch := omega) only [go_sem, ↓reduceIte, Nat.reduceEqDiff, reduceCtorEq, Int.reduceEq, *, map_get hlt, map_get hlt', e, wrap_i64] | skip)
  ·have e : xs = ys := by
    have h := hall.out
    rwa [List.take_of_length_le (by omega), List.take_of_length_le (by have := HL.out; omega)] at h
   rw [decide_eq_true e]
   clear e
   repeat' first | simp (disch := omega) only [go_sem, ↓reduceIte, Nat.reduceEqDiff, reduceCtorEq, Int.reduceEq] | ((with_reducible first | refine condD ?_ ?_ | refine condX ?_ ?_ | refine condW_intro ?_ ?_) <;> intro h <;> first | (exfalso; omega) | simp (disch := omega) only [go_sem, ↓reduceIte, Nat.reduceEqDiff, reduceCtorEq, Int.reduceEq, *] | skip)
 ·have hl' : ¬ (xs.length : Int) = ys.length := by omega
  have hne : ¬ xs = ys := by rintro rfl; exact hl rfl
  rw [decide_eq_false hne]
  repeat' first | simp (disch := omega) only [go_sem, ↓reduceIte, Nat.reduceEqDiff, reduceCtorEq, Int.reduceEq, hl'] | ((with_reducible first | refine condD ?_ ?_ | refine condX ?_ ?_ | refine condW_intro ?_ ?_) <;> intro h <;> first | (exfalso; omega) | simp (disch := omega) only [go_sem, ↓reduceIte, Nat.reduceEqDiff, reduceCtorEq, Int.reduceEq, *, hl'] | skip)
end Go.Proofs.Ytcnbccmmhcoanaa
