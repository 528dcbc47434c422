/- Walks: the iterators of boxes: the points are arrays of whoever ranges over them. -/
import Derived.Test.YtehjbfljenpfoaaVIt
import Derived.Test.YtehjbfljenpfoaaV09f
import Derived.Test.YtehjbfljenpfoaaLift
import Derived.Test.YtehjbfljenpfoaaAbs30
set_option linter.unusedVariables false
set_option linter.unusedSimpArgs false
set_option maxRecDepth 20000
namespace Go.Proofs.Ytehjbfljenpfoaa
open Go.Abs Go.RowKit

abbrev ptR (p : List Int) : List (List PC) := p.map fun n => [pI n]
theorem box_Point_i (xs : List Int) {z : Int} (h0 : 0 ≤ z) (h1 : z < bcount xs) : ICalls Try.prog n_box_Point [aInts xs, I z] [] 0 (.tup [.c (.ref 0), Go.Abs.B true]) [(0, .arr 3 1 (ptR (pointOf xs z)))] 1 := by
 refine ICalls.of is_box_Point (by simp) fun hb => runW_sound ?_
 have hx : xs.length ≤ 9223372036854775807 := by simpa [bndVs, bndV, bndA] using hb.1
 have hb0 := bcount_bd xs
 have hsc := pos_of_count (xs := xs) (by omega)
 have hg := hsc.2.2.2
 have h6 : xs.length ≤ 16 := hsc.2.2.1
 clear hsc
 simp only [c_box_Point]
 repeat' first | simp (disch := omega) only [go_sem] | ((with_reducible refine condT ?_ ?_) <;> intro h <;> try first | omega | simp (disch := omega) only [go_sem, *]) | (refine callW_of (box_Count_abs xs) rfl (.inl rfl) ?_)
 refine AW_loop (fun x : Nat × Int => ⟨[(0, aInts xs), (1, I x.2), (6, .c (.ref 0)), (7, I ((x.1 : Int) - 1))], [(0, .arr 3 1 ((List.replicate x.1 0 ++ (pointOf xs z).drop x.1).map fun n => [pI n]))], 1, 0⟩)
  (fun x => x.1 ≤ xs.length ∧ 0 ≤ x.2 ∧ x.2 ≤ 9223372036854775807 ∧ x.2 = z / prod (xs.drop x.1)) (fun x => x.1) ⟨(xs.length, z), [], ⟨Nat.le_refl _, h0, by show z ≤ _; omega, ?_⟩, ?_⟩ ?_
 ·rw [List.drop_eq_nil_of_le (Nat.le_refl _), prod, Int.ediv_one]
 ·have e1 : (pointOf xs z).drop xs.length = [] := List.drop_eq_nil_of_le (by rw [length_pointOf]; exact Nat.le_refl _)
  simp [e1, wrap_i64 (show -9223372036854775808 ≤ (xs.length : Int) - 1 ∧ (xs.length : Int) - 1 ≤ 9223372036854775807 by omega)]
 ·rintro ⟨k, y⟩ ⟨hk, hz0, hz1, hz⟩
  refine runW_sound ?_
  cases k with
  | zero =>
   simp only [List.replicate_zero, List.nil_append, List.drop_zero]
   repeat' first | simp (disch := omega) only [go_sem] | ((with_reducible refine condT ?_ ?_) <;> intro h <;> try first | omega | simp (disch := omega) only [go_sem, *])
   all_goals simp
  | succ k =>
   have hlt : k < xs.length := hk
   have e1 : (((k + 1 : Nat) : Int) - 1) = (k : Int) := by omega
   have hx1 := (hg.get hlt).1
   have hget : xs[k]?.getD 0 = xs[k] := by simp [hlt]
   rw [hget] at hx1
   have hne : xs[k] ≠ 0 := by omega
   have hq0 : 0 ≤ y / xs[k] := Int.ediv_nonneg hz0 (by omega)
   have hq1 : y / xs[k] ≤ y := Int.ediv_le_self _ hz0
   have eq1 : y.tdiv xs[k] = y / xs[k] := Int.tdiv_eq_ediv_of_nonneg hz0
   have eq2 : y.tmod xs[k] = y % xs[k] := Int.tmod_eq_emod_of_nonneg hz0
   have hrow : ((List.replicate (k + 1) (0 : Int) ++ (pointOf xs z).drop (k + 1)).map fun n => [pI n])[k]? = some [pI 0] := by
    rw [List.getElem?_map, List.getElem?_append_left (by simp), List.getElem?_replicate, if_pos (by omega)]
    rfl
   have hlen : k < (List.replicate (k + 1) (0 : Int) ++ (pointOf xs z).drop (k + 1)).length := by simp; omega
   simp only [e1]
   repeat' first | simp (disch := omega) only [go_sem, map_get hlt, hrow, wrap_i64, eq1, eq2, hne, ne_eq] | ((with_reducible refine condT ?_ ?_) <;> intro h <;> try first | omega | simp (disch := omega) only [go_sem, *, map_get hlt, hrow, wrap_i64, eq1, eq2, hne, ne_eq])
   have hz' : y = z / prod (xs.drop (k + 1)) := hz
   have hset : (((List.replicate (k + 1) (0 : Int) ++ (pointOf xs z).drop (k + 1)).map fun n => [pI n]).set k [PC.val (.int .i64 (y % xs[k]))]) = (List.replicate k 0 ++ (pointOf xs z).drop k).map fun n => [pI n] := by
    have h2 := set_fill k (0 : Int) (y % xs[k]?.getD 0) ((pointOf xs z).drop (k + 1))
    rw [hget] at h2
    rw [← List.map_set (f := fun n : Int => [pI n]) (a := y % xs[k])]
    rw [h2, pointOf_drop hlt, ← coord_div hz', hget]
   rw [hset]
   refine ⟨(k, y / xs[k]), [], ⟨by omega, hq0, by show y / xs[k] ≤ _; omega, ?_⟩, Nat.lt_succ_self _, by simp⟩
   show y / xs[k] = z / prod (xs.drop k)
   rw [div_drop hg.pos z hlt, ← hz', hget]
theorem flat_ptR (p : List Int) : flatRows (ptR p) := flatRows_map
theorem box_All_1_o {xs : List Int} {n : Nat} {pt : Nat → List Int} (hn : n ≤ 1000000000) (hC : PCalls Try.prog n_box_Count [aInts xs] (I n)) (hN : PCalls Try.prog n_box_numbers [aInts xs] (.c (.clo n_box_numbers_1 [.cptr [pInts xs]])))
  (hP : ∀ k : Nat, k < n → ICalls Try.prog n_box_Point [aInts xs, I k] [] 0 (.tup [.c (.ref 0), Go.Abs.B true]) [(0, .arr 3 1 (ptR (pt k)))] 1) : OYCalls Try.prog n_box_All_1 [cXs xs] 3 1 ((List.range n).map fun i : Nat => ptR (pt i)) := by
 refine OYCalls.of2 is_box_All_1 (by simp) fun l w J hY => ?_
 have hok := hY.ok
 have hlt : ∀ k S W, J k S W → (∀ b, S b → b < W.heap.size) ∧ Glob W := fun k S W hj => ⟨(hok.old k S W hj).1, (hok.old k S W hj).2.2⟩
 have hgr : ∀ k S W W', J k S W → Below W.heap.size W W' → J k (fun b => S b ∨ W.heap.size ≤ b ∧ b < W'.heap.size) W' := fun k S W W' hj hb => hok.grow _ _ _ _ hj ((GrowL.of_below hb).le (hok.old _ _ _ hj).2.1)
 have hx : ∀ i, i < n → ((List.range n).map fun i : Nat => ptR (pt i))[i]? = some (ptR (pt i)) := fun i h => by
  rw [List.getElem?_map, List.getElem?_range h]
  rfl
 have hlen : ((List.range n).map fun i : Nat => ptR (pt i)).length = n := by simp
 have hY1 := box_numbers_1_y hn hC
 have hx1 : ∀ i x, ((List.range n).map fun i : Nat => [I (i : Int)])[i]? = some x → i < n ∧ x = [I (i : Int)] := fun i x h => by
  have hin : i < n := by
   have := (List.getElem?_eq_some_iff.1 h).1
   simpa using this
  rw [range_at hin] at h
  exact ⟨hin, (Option.some.inj h).symm⟩
 have hl1 : ∀ x ∈ ((List.range n).map fun i : Nat => [I (i : Int)]), x.length = 1 := fun x h => by
  obtain ⟨i, _, rfl⟩ := List.mem_map.1 h
  rfl
 have hlen1 : ((List.range n).map fun i : Nat => [I (i : Int)]).length = n := by simp
 generalize ((List.range n).map fun i : Nat => ptR (pt i)) = ys at *
 generalize ((List.range n).map fun i : Nat => [I (i : Int)]) = zs at *
 simp only [c_box_All_1]
 refine AR2_seq (AR2_region hlt hgr ?_)
 simp (disch := omega) only [go_sem]
 refine ⟨[(2, cYl l), (1, cXs xs)], (by simp [wkY, wkF, renV, renA, renC, rn, yv, purV, purVs, purA, purC, purPs, purP, purQ, look_cons, findB, clV, clA, clAs]), ?_⟩
 refine AR2_seq (AR2_region hlt hgr ?_)
 repeat' first | simp (disch := omega) only [go_sem] | ((with_reducible refine condT ?_ ?_) <;> intro h <;> try first | omega | simp (disch := omega) only [go_sem, *]) | (refine callW_of hN rfl (.inr rfl) ?_)
 refine ⟨[(7, .c (.clo n_box_numbers_1 [.cptr [pInts xs]])), (2, cYl l), (1, cXs xs)], (by simp [wkY, wkF, renV, renA, renC, rn, yv, purV, purVs, purA, purC, purPs, purP, purQ, look_cons, findB, clV, clA, clAs]), ?_⟩
 refine AR2_block (AR2_rangeF hok (fun i ko => ko = some i) [(2, cYl l), (1, cXs xs)] rfl rfl rfl hY1 hl1 (by simp [wkY, wkF, renV, renA, renC, rn, yv, purV, purVs, purA, purC, purPs, purP, purQ, look_cons, findB, clV, clA, clAs]) rfl (fun l1 k1 x kout hxx hk => ?_) (fun kout hk => ?_))
 ·obtain ⟨hin, rfl⟩ := hx1 k1 x hxx
  subst hk
  refine AR2_region hlt hgr ?_
  simp (disch := omega) only [go_sem, putL]
  refine ⟨[(3, I k1), (2, cYl l), (1, cXs xs)], (by simp [wkY, wkF, renV, renA, renC, rn, yv, purV, purVs, purA, purC, purPs, purP, purQ, look_cons, findB, clV, clA, clAs]), ?_⟩
  refine AR2_block (AR2_own 2 hY rfl (hx k1 hin) (flat_ptR _) ?_)
  have hp := hP k1 hin
  repeat' first | simp (disch := omega) only [go_sem] | ((with_reducible refine condT ?_ ?_) <;> intro h <;> try first | omega | simp (disch := omega) only [go_sem, *]) | (refine callW_i (ICalls.lift1 rfl hp rfl rfl) ?_)
  refine ⟨0, [(2, cYl l), (1, cXs xs)], rfl, rfl, rfl, by simp [wkO, look_cons, clV, clA, clAs], fun b => ⟨[(18, Go.Abs.B !b), (2, cYl l), (1, cXs xs)], (by simp [wkY, wkF, renV, renA, renC, rn, yv, purV, purVs, purA, purC, purPs, purP, purQ, look_cons, findB, clV, clA, clAs]), ?_⟩⟩
  refine AR2_cond (t := !b) rfl (fun hb0 => ?_) (fun hb0 => ?_) hlt
  ·obtain rfl : b = false := by simpa using hb0
   exact AR2_ret (.inr rfl)
  ·obtain rfl : b = true := by simpa using hb0
   exact AR2_skip rfl
 ·subst hk
  exact .inl (by rw [hlen1, hlen])
end Go.Proofs.Ytehjbfljenpfoaa
