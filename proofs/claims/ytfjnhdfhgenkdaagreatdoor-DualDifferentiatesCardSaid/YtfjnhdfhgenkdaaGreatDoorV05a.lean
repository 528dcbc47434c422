/- Walks by the abstract machine: names, sums and products of numbers. -/
import Derived.Test.YtfjnhdfhgenkdaaGreatDoorV00
set_option linter.unusedVariables false
set_option linter.unusedSimpArgs false
set_option maxRecDepth 20000
namespace Go.Proofs.YtfjnhdfhgenkdaaGreatDoor
open Go.Abs Go.RowKit

/-- The reserved words. -/
def words : List ByteArray := [⟨⟨[115, 105, 122, 101]⟩⟩, ⟨⟨[119, 104, 101, 114, 101]⟩⟩, ⟨⟨[105, 110]⟩⟩, ⟨⟨[100, 101, 102]⟩⟩, ⟨⟨[111, 117, 116]⟩⟩, ⟨⟨[115, 117, 109]⟩⟩, ⟨⟨[112, 114, 111, 100]⟩⟩, ⟨⟨[109, 105, 110]⟩⟩, ⟨⟨[109, 97, 120]⟩⟩, ⟨⟨[115, 99, 97, 110]⟩⟩, ⟨⟨[111, 118, 101, 114]⟩⟩, ⟨⟨[105, 102]⟩⟩, ⟨⟨[99, 97, 115, 116]⟩⟩, ⟨⟨[102, 114, 97, 99]⟩⟩, ⟨⟨[105, 110, 116]⟩⟩, ⟨⟨[102, 105, 120]⟩⟩, ⟨⟨[99, 101, 105, 108]⟩⟩, ⟨⟨[102, 108, 111, 111, 114]⟩⟩, ⟨⟨[122, 101, 114, 111]⟩⟩, ⟨⟨[101, 118, 101, 110]⟩⟩, ⟨⟨[115, 97, 116]⟩⟩, ⟨⟨[119, 114, 97, 112]⟩⟩]
theorem base_Words_abs : PCalls Tryz.prog n_base_Words [] (aStrs words) := by
 refine PCalls.of is_base_Words (by simp) fun _ => runW_sound ?_
 simp only [c_base_Words]
 repeat' first | simp (disch := omega) only [go_sem] | ((with_reducible first | refine condD ?_ ?_ | refine condX ?_ ?_ | refine condW_intro ?_ ?_) <;> intro h <;> first | (exfalso; omega) | simp (disch := omega) only [go_sem, *] | skip)
 rfl
theorem base_Has_abs (xs : List ByteArray) (s : ByteArray) : PCalls Tryz.prog n_base_Has [aStrs xs, S s] (Go.Abs.B (decide (s ∈ xs))) := by
 refine PCalls.of is_base_Has (by simp) fun hb => runW_sound ?_
 have hx : xs.length ≤ 9223372036854775807 := by simpa [bndVs, bndV, bndA] using hb.1
 simp only [c_base_Has]
 repeat' first | simp (disch := omega) only [go_sem] | ((with_reducible first | refine condD ?_ ?_ | refine condX ?_ ?_ | refine condW_intro ?_ ?_) <;> intro h <;> first | (exfalso; omega) | simp (disch := omega) only [go_sem, *] | skip)
 refine AW_loop (fun k : Nat => ⟨[(5, I k), (0, aStrs xs), (1, S s)], [], 0, 0⟩) (fun k => k ≤ xs.length ∧ ∀ j (h : j < xs.length), j < k → xs[j] ≠ s) (fun k => xs.length - k) ⟨0, [], ⟨by omega, fun j h h' => by omega⟩, by simp [Wk, wkF, wkM, wkL, look_cons, renV, renA, renC, renB, rn, clV, clA, clAs, clB, notIn, findB, findB_setB, clA.go]⟩ ?_
 rintro k ⟨hk, hall⟩
 refine runW_sound ?_
 by_cases hlt : k < xs.length
 ·repeat' first | simp (disch := omega) only [go_sem, map_get hlt, Option.map_some, wrap_i64] | ((with_reducible first | refine condD ?_ ?_ | refine condX ?_ ?_ | refine condW_intro ?_ ?_) <;> intro h <;> first | (exfalso; omega) | simp (disch := omega) only [go_sem, *, map_get hlt, Option.map_some, wrap_i64] | skip)
  ·have : s ∈ xs := by subst h; exact List.getElem_mem hlt
   simp [this]
  ·refine ⟨k + 1, [], ⟨by omega, fun j hj hj' => ?_⟩, by omega, by simp [Wk, wkF, wkM, wkL, look_cons, renV, renA, renC, renB, rn, clV, clA, clAs, clB, notIn, findB, findB_setB, clA.go]⟩
   by_cases e : j = k
   ·subst e; exact h
   ·exact hall j hj (by omega)
 ·repeat' first | simp (disch := omega) only [go_sem] | ((with_reducible first | refine condD ?_ ?_ | refine condX ?_ ?_ | refine condW_intro ?_ ?_) <;> intro h <;> first | (exfalso; omega) | simp (disch := omega) only [go_sem, *] | skip)
  have : ¬ s ∈ xs := fun hm => by
   obtain ⟨j, hj, e⟩ := List.mem_iff_getElem.1 hm
   exact hall j hj (by omega) e
  simp [this]
theorem lin_reserved_abs (s : ByteArray) : PCalls Tryz.prog n_lin_reserved [S s] (Go.Abs.B (decide (s ∈ words))) := by
 refine PCalls.of is_lin_reserved (by simp) fun _ => runW_sound ?_
 simp only [c_lin_reserved]
 repeat' first | simp (disch := omega) only [go_sem] | ((with_reducible first | refine condD ?_ ?_ | refine condX ?_ ?_ | refine condW_intro ?_ ?_) <;> intro h <;> first | (exfalso; omega) | simp (disch := omega) only [go_sem, *] | skip)
 all_goals simp [words, *]
end Go.Proofs.YtfjnhdfhgenkdaaGreatDoor
