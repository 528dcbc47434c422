/- Walks: the iterators of boxes. -/
import Derived.Test.YtehjbfljenpfoaaV00
import Derived.Test.YtehjbfljenpfoaaAbs28
set_option linter.unusedVariables false
set_option linter.unusedSimpArgs false
set_option maxRecDepth 20000
namespace Go.Proofs.Ytehjbfljenpfoaa
open Go.Abs Go.RowKit

theorem ylt {n0 : Nat} {J : YJ} (h : JOk n0 J) : ∀ k S W, J k S W → (∀ b, S b → b < W.heap.size) ∧ Glob W := fun k S W hj => ⟨(h.old k S W hj).1, (h.old k S W hj).2.2⟩
theorem ygr {n0 : Nat} {J : YJ} (h : JOk n0 J) : ∀ k S W W', J k S W → Below W.heap.size W W' → J k (fun b => S b ∨ W.heap.size ≤ b ∧ b < W'.heap.size) W' := fun k S W W' hj hb => h.grow _ _ _ _ hj ((GrowL.of_below hb).le (h.old _ _ _ hj).2.1)
abbrev cXs (xs : List Int) : AV := .c (.cptr [pInts xs])
theorem range_at {n i : Nat} {f : Nat → List AV} (h : i < n) : ((List.range n).map f)[i]? = some (f i) := by
 rw [List.getElem?_map, List.getElem?_range h]
 rfl
theorem box_numbers_1_y {xs : List Int} {n : Nat} (hn : n ≤ 1000000000) (hC : PCalls Try.prog n_box_Count [aInts xs] (I n)) : YCalls Try.prog n_box_numbers_1 [cXs xs] ((List.range n).map fun i : Nat => [I (i : Int)]) := by
 refine YCalls.of ⟨_, Try.func23, rfl, by kernel_rfl⟩ fun l w J hY => ?_
 have hlt := ylt hY.ok
 have hgr := ygr hY.ok
 have hx : ∀ i, i < n → ((List.range n).map fun i : Nat => [I (i : Int)])[i]? = some [I (i : Int)] := fun i h => range_at h
 have hlen : ((List.range n).map fun i : Nat => [I (i : Int)]).length = n := by simp
 generalize ((List.range n).map fun i : Nat => [I (i : Int)]) = ys at *
 refine IYCalls.of hlt is_box_numbers_1 (by simp) fun hb => ?_
 simp only [c_box_numbers_1]
 refine AY_seq (AY_region hlt hgr ?_)
 repeat' first | simp (disch := omega) only [go_sem] | ((with_reducible refine condT ?_ ?_) <;> intro h <;> try first | omega | simp (disch := omega) only [go_sem, *]) | (refine w_L hC rfl rfl ?_)
 refine ⟨[(0, yv l), (5, I n), (6, I 0)], (by simp [wkY, wkF, renV, renA, renC, rn, yv, purV, purVs, purA, purC, purPs, purP, purQ, look_cons, findB, clV, clA, clAs]), ?_⟩
 refine AY_block (AY_loop (fun i : Nat => (some i, [(0, yv l), (5, I n), (6, I i)])) (fun i => i ≤ n) (fun i => n - i) ⟨0, by omega, rfl, (by simp [wkY, wkF, renV, renA, renC, rn, yv, purV, purVs, purA, purC, purPs, purP, purQ, look_cons, findB, clV, clA, clAs])⟩ ?_)
 intro i hi
 refine AY_seq (AY_region hlt hgr ?_)
 simp (disch := omega) only [go_sem]
 refine ⟨[(7, Go.Abs.B (decide ((i : Int) < n))), (0, yv l), (5, I n), (6, I i)], (by simp [wkY, wkF, renV, renA, renC, rn, yv, purV, purVs, purA, purC, purPs, purP, purQ, look_cons, findB, clV, clA, clAs]), ?_⟩
 refine AY_seq (AY_cond rfl (fun h1 => ?_) (fun h1 => ?_) hlt)
 ·have hin : i < n := by simpa using h1
  refine AY_skip (AY_seq (AY_block (AY_seq (AY_region hlt hgr ?_))))
  simp (disch := omega) only [go_sem]
  refine ⟨[(3, I i), (0, yv l), (5, I n), (6, I i)], (by simp [wkY, wkF, renV, renA, renC, rn, yv, purV, purVs, purA, purC, purPs, purP, purQ, look_cons, findB, clV, clA, clAs]), ?_⟩
  refine AY_seq (AY_op 2 rfl hlt hgr ?_)
  simp only [List.take, List.drop]
  simp (disch := omega) only [go_sem]
  refine ⟨[(10, I i), (9, yv l), (0, yv l), (5, I n), (6, I i)], (by simp [wkY, wkF, renV, renA, renC, rn, yv, purV, purVs, purA, purC, purPs, purP, purQ, look_cons, findB, clV, clA, clAs]), _, stepY_yield hY (hx i hin), ?_⟩
  rintro res k' ⟨b, rfl, rfl⟩
  simp (disch := omega) only [go_sem]
  refine ⟨[(12, Go.Abs.B !b), (0, yv l), (5, I n), (6, I i)], (by simp [wkY, wkF, renV, renA, renC, rn, yv, purV, purVs, purA, purC, purPs, purP, purQ, look_cons, findB, clV, clA, clAs]), ?_⟩
  refine AY_cond (t := !b) rfl (fun hb0 => ?_) (fun hb0 => ?_) hlt
  ·obtain rfl : b = false := by simpa using hb0
   exact AY_ret (.inr rfl)
  ·obtain rfl : b = true := by simpa using hb0
   refine AY_skip ?_
   simp only [↓reduceIte]
   refine AY_region hlt hgr ?_
   simp (disch := omega) only [go_sem, wrap_i64]
   refine ⟨[(0, yv l), (5, I n), (6, I ((i + 1 : Nat) : Int))], (by simp [wkY, wkF, renV, renA, renC, rn, yv, purV, purVs, purA, purC, purPs, purP, purQ, look_cons, findB, clV, clA, clAs]), ?_⟩
   exact ⟨i + 1, by omega, by show n - (i + 1) < n - i; omega, rfl, (by simp [wkY, wkF, renV, renA, renC, rn, yv, purV, purVs, purA, purC, purPs, purP, purQ, look_cons, findB, clV, clA, clAs])⟩
 ·have hin : i = n := by
   have : ¬ i < n := by simpa using h1
   omega
  subst hin
  refine AY_exit ?_
  exact .inl (by rw [hlen])
abbrev cYl (l : Nat) : AV := .c (.cptr [.val (.func (.yield l) #[] #[])])
theorem box_All_1_y {xs : List Int} {n : Nat} {pt : Nat → List Int} (hn : n ≤ 1000000000) (hC : PCalls Try.prog n_box_Count [aInts xs] (I n)) (hN : PCalls Try.prog n_box_numbers [aInts xs] (.c (.clo n_box_numbers_1 [.cptr [pInts xs]])))
  (hP : ∀ k : Nat, k < n → PCalls Try.prog n_box_Point [aInts xs, I k] (.tup [aInts (pt k), Go.Abs.B true])) : YCalls Try.prog n_box_All_1 [cXs xs] ((List.range n).map fun i : Nat => [aInts (pt i)]) := by
 refine YCalls.of2 is_box_All_1 (by simp) fun l w J hY => ?_
 have hok := hY.ok
 have hlt := ylt hok
 have hgr := ygr hok
 have hx : ∀ i, i < n → ((List.range n).map fun i : Nat => [aInts (pt i)])[i]? = some [aInts (pt i)] := fun i h => range_at h
 have hlen : ((List.range n).map fun i : Nat => [aInts (pt i)]).length = n := by simp
 have hY1 := box_numbers_1_y hn hC
 have hx1 : ∀ i x, ((List.range n).map fun i : Nat => [I (i : Int)])[i]? = some x → i < n ∧ x = [I (i : Int)] := fun i x h => by
  have hin : i < n := by
   have := (List.getElem?_eq_some_iff.1 h).1
   simpa using this
  rw [range_at hin] at h
  exact ⟨hin, (Option.some.inj h).symm⟩
 have hl1 : ∀ x ∈ ((List.range n).map fun i : Nat => [I (i : Int)]), x.length = 1 := fun x h => by
  obtain ⟨i, _, rfl⟩ := List.mem_map.1 h
  rfl
 have hlen1 : ((List.range n).map fun i : Nat => [I (i : Int)]).length = n := by simp
 generalize ((List.range n).map fun i : Nat => [aInts (pt i)]) = ys at *
 generalize ((List.range n).map fun i : Nat => [I (i : Int)]) = zs at *
 simp only [c_box_All_1]
 refine AR2_seq (AR2_region hlt hgr ?_)
 simp (disch := omega) only [go_sem]
 refine ⟨[(2, cYl l), (1, cXs xs)], (by simp [wkY, wkF, renV, renA, renC, rn, yv, purV, purVs, purA, purC, purPs, purP, purQ, look_cons, findB, clV, clA, clAs]), ?_⟩
 refine AR2_seq (AR2_region hlt hgr ?_)
 repeat' first | simp (disch := omega) only [go_sem] | ((with_reducible refine condT ?_ ?_) <;> intro h <;> try first | omega | simp (disch := omega) only [go_sem, *]) | (refine w_R hN rfl rfl ?_)
 refine ⟨[(7, .c (.clo n_box_numbers_1 [.cptr [pInts xs]])), (2, cYl l), (1, cXs xs)], (by simp [wkY, wkF, renV, renA, renC, rn, yv, purV, purVs, purA, purC, purPs, purP, purQ, look_cons, findB, clV, clA, clAs]), ?_⟩
 refine AR2_block (AR2_rangeF hok (fun i ko => ko = some i) [(2, cYl l), (1, cXs xs)] rfl rfl rfl hY1 hl1 (by simp [wkY, wkF, renV, renA, renC, rn, yv, purV, purVs, purA, purC, purPs, purP, purQ, look_cons, findB, clV, clA, clAs]) rfl (fun l1 k1 x kout hxx hk => ?_) (fun kout hk => ?_))
 ·obtain ⟨hin, rfl⟩ := hx1 k1 x hxx
  subst hk
  refine AR2_region hlt hgr ?_
  simp (disch := omega) only [go_sem, putL]
  refine ⟨[(3, I k1), (2, cYl l), (1, cXs xs)], (by simp [wkY, wkF, renV, renA, renC, rn, yv, purV, purVs, purA, purC, purPs, purP, purQ, look_cons, findB, clV, clA, clAs]), ?_⟩
  refine AR2_block (AR2_seq (AR2_region hlt hgr ?_))
  have hp := hP k1 hin
  repeat' first | simp (disch := omega) only [go_sem] | ((with_reducible refine condT ?_ ?_) <;> intro h <;> try first | omega | simp (disch := omega) only [go_sem, *]) | (refine w_R hp rfl rfl ?_)
  refine ⟨[(4, aInts (pt k1)), (2, cYl l), (1, cXs xs)], (by simp [wkY, wkF, renV, renA, renC, rn, yv, purV, purVs, purA, purC, purPs, purP, purQ, look_cons, findB, clV, clA, clAs]), ?_⟩
  refine AR2_seq (AR2_op 2 rfl hlt hgr ?_)
  simp only [List.take, List.drop]
  simp (disch := omega) only [go_sem]
  refine ⟨[(16, aInts (pt k1)), (15, yv l), (2, cYl l), (1, cXs xs)], (by simp [wkY, wkF, renV, renA, renC, rn, yv, purV, purVs, purA, purC, purPs, purP, purQ, look_cons, findB, clV, clA, clAs]), _, stepR_yield hY (hx k1 hin), ?_⟩
  rintro res k' ⟨b, rfl, rfl⟩
  simp (disch := omega) only [go_sem]
  refine ⟨[(18, Go.Abs.B !b), (2, cYl l), (1, cXs xs)], (by simp [wkY, wkF, renV, renA, renC, rn, yv, purV, purVs, purA, purC, purPs, purP, purQ, look_cons, findB, clV, clA, clAs]), ?_⟩
  refine AR2_cond (t := !b) rfl (fun hb0 => ?_) (fun hb0 => ?_) hlt
  ·obtain rfl : b = false := by simpa using hb0
   exact AR2_ret (.inr rfl)
  ·obtain rfl : b = true := by simpa using hb0
   exact AR2_skip rfl
 ·subst hk
  exact .inl (by rw [hlen1, hlen])
end Go.Proofs.Ytehjbfljenpfoaa
