/- Walks by the abstract machine: meshes, shapes and specs: validation. -/
import Derived.Test.YtcnbccmmhcoanaaV00
import Derived.Test.YtcnbccmmhcoanaaPlain09
import Derived.Lib.Hide
set_option linter.unusedVariables false
set_option linter.unusedSimpArgs false
set_option maxRecDepth 20000
namespace Go.Proofs.Ytcnbccmmhcoanaa
open Go.Abs Go.RowKit

abbrev aMesh (ms : List Int) : AV := .agg [.pure (pInts ms)]
theorem bnd_mesh {ms : List Int} (h : bndV (aMesh ms)) : ms.length ≤ 9223372036854775807 := by simpa [bndV, bndAs, bndA] using h
theorem prod_succ {xs : List Int} {k : Nat} (h : k < xs.length) : prod (xs.take (k + 1)) = prod (xs.take k) * xs[k] := by
 rw [prod_take_succ h]
 simp [h]
theorem prod_small {xs : List Int} : ∀ {k : Nat}, k ≤ xs.length → upTo (fun i => ∀ h : i < xs.length, 1 ≤ xs[i] ∧ xs[i] ≤ 16) k → 1 ≤ prod (xs.take k) ∧ prod (xs.take k) ≤ 16 ^ k
 | 0, _, _ => by simp [prod]
 |k + 1, hk, h => by
  have h1 := prod_small (k := k) (by omega) fun i hi => h i (by omega)
  have h2 := h k (by omega) (by omega)
  rw [prod_succ (by omega)]
  constructor
  ·have := Int.mul_le_mul h1.1 h2.1 (by omega) (by omega)
   omega
  ·have := Int.mul_le_mul h1.2 h2.2 (by omega) (by have := h1.1; omega)
   rw [Int.pow_succ]
   exact this

theorem meshOk_of {ms : List Int} (h1 : ¬ (ms.length : Int) < 1) (h2 : ¬ (ms.length : Int) > 3) (h : upTo (fun i => ∀ h : i < ms.length, 1 ≤ ms[i] ∧ ms[i] ≤ 16) ms.length) (hp : ¬ prod ms > 16) : MeshOk ms := by
 refine ⟨by omega, by omega, fun x hx => ?_, by omega⟩
 obtain ⟨i, hi, rfl⟩ := List.mem_iff_getElem.1 hx
 exact h i hi hi
theorem mesh_Validate_abs (ms : List Int) : PCalls Try.prog n_mesh_Validate [aMesh ms] (I (vmesh ms)) := by
 refine PCalls.of is_mesh_Validate (by simp) fun hb => runW_sound ?_
 have hl := bnd_mesh hb.1
 simp only [c_mesh_Validate]
 repeat' first | simp (disch := omega) only [go_sem, ↓reduceIte, Nat.reduceEqDiff, reduceCtorEq, Int.reduceEq] | ((with_reducible first | refine condD ?_ ?_ | refine condX ?_ ?_ | refine condW_intro ?_ ?_) <;> intro h <;> first | (exfalso; omega) | simp (disch := omega) only [go_sem, ↓reduceIte, Nat.reduceEqDiff, reduceCtorEq, Int.reduceEq, *] | skip)
 ·rw [vmesh_no]; rintro ⟨g1, g2, _⟩; omega
 ·rw [vmesh_no]; rintro ⟨g1, g2, _⟩; omega
 ·refine AW_loop (fun k : Nat => ⟨[(3, I (prod (ms.take k))), (17, aInts ms), (18, I ms.length), (19, I k)], [], 1, 0⟩) (fun k => k ≤ ms.length ∧ upTo (fun i => ∀ h : i < ms.length, 1 ≤ ms[i] ∧ ms[i] ≤ 16) k) (fun k => ms.length - k) ⟨0, [], ⟨by omega, .zero⟩, by simp [Wk, wkF, wkM, wkL, look_cons, renV, renA, renC, renB, rn, clV, clA, clAs, clB, notIn, findB, findB_setB, clA.go, prod]⟩ ?_
  rintro k ⟨hk, hall⟩
  refine runW_sound ?_
  have hps := prod_small hk hall
  have hpw : (16 : Int) ^ k ≤ 4096 := by
   have : k = 0 ∨ k = 1 ∨ k = 2 ∨ k = 3 := by omega
   rcases this with rfl | rfl | rfl | rfl <;> decide
  by_cases hlt : k < ms.length
  ·have hmul : 1 ≤ ms[k] ∧ ms[k] ≤ 16 → in64 (prod (ms.take k) * ms[k]) := fun h => by
    have := Int.mul_le_mul (show prod (ms.take k) ≤ 4096 by omega) h.2 (by omega) (by omega)
    have := Int.mul_nonneg (show 0 ≤ prod (ms.take k) by omega) (show 0 ≤ ms[k] by omega)
    unfold in64; omega
   have HM := Lib.hid hmul
   clear hmul hpw hps
   repeat' first | simp (disch := omega) only [go_sem, ↓reduceIte, Nat.reduceEqDiff, reduceCtorEq, Int.reduceEq, map_get hlt, wrap_i64] | ((with_reducible first | refine condD ?_ ?_ | refine condX ?_ ?_ | refine condW_intro ?_ ?_) <;> intro h <;> first | (exfalso; omega) | simp (disch := omega) only [go_sem, ↓reduceIte, Nat.reduceEqDiff, reduceCtorEq, Int.reduceEq, *, map_get hlt, wrap_i64] | skip)
   all_goals first
    | (rw [vmesh_no]; rintro ⟨_, _, g3, _⟩; have := g3 _ (List.getElem_mem hlt); omega)
    | (have hm := HM.out ⟨by omega, by omega⟩; refine ⟨k + 1, [], ⟨by omega, hall.succ fun _ => ⟨by omega, by omega⟩⟩, by omega, ?_⟩; simp [Wk, wkF, wkM, wkL, look_cons, renV, renA, renC, renB, rn, clV, clA, clAs, clB, notIn, findB, findB_setB, clA.go, prod_succ hlt, wrap_i64 hm])
  ·have e : ms.take k = ms := List.take_of_length_le (by omega)
   have e2 : k = ms.length := by omega
   rw [e] at hps ⊢
   rw [e2] at hall
   repeat' first | simp (disch := omega) only [go_sem, ↓reduceIte, Nat.reduceEqDiff, reduceCtorEq, Int.reduceEq] | ((with_reducible first | refine condD ?_ ?_ | refine condX ?_ ?_ | refine condW_intro ?_ ?_) <;> intro h <;> first | (exfalso; omega) | simp (disch := omega) only [go_sem, ↓reduceIte, Nat.reduceEqDiff, reduceCtorEq, Int.reduceEq, *] | skip)
   ·rw [vmesh_no]; rintro ⟨_, _, _, g4⟩; omega
   ·rw [vmesh_yes (meshOk_of (by omega) (by omega) hall (by omega))]
end Go.Proofs.Ytcnbccmmhcoanaa
