/- Walks by the abstract machine: points of boxes (seats without the rest of layer 9). -/
import Derived.Test.YtcnbccmmhcoanaaV00
import Derived.Test.YtcnbccmmhcoanaaVClone
import Derived.Test.YtcnbccmmhcoanaaW09b
set_option linter.unusedVariables false
set_option linter.unusedSimpArgs false
set_option maxRecDepth 20000
namespace Go.Proofs.Ytcnbccmmhcoanaa
open Go.Abs Go.RowKit

/-- An older contract with a plain answer. -/
theorem pcalls_of_calls {f : FuncId} {args : List AV} {z : Value} (hz : scalar z = true) (hf : ∃ fn, Try.prog.funcs[f]? = some fn ∧ fn.body.isSome = true ∧ (fn.name == "runtime.NumGoroutine") = false)
  (h : ∀ (w : World) (U : Nat → Prop) (vs : Array Value), All2 (RepV w U (fun _ => undef) 0) args vs.toList → Calls Try.prog f vs w fun e w' => e = .returned z ∧ Ext w w') : PCalls Try.prog f args (.c (.pure (.val z))) :=
 ⟨hf, fun w U vs hr => (h w U vs hr).mono fun e w' ⟨he, hx⟩ => ⟨z, he, .c (.pure (.val hz)), hx.below⟩⟩
theorem box_Count_abs (xs : List Int) : PCalls Try.prog n_box_Count [aInts xs] (I (bcount xs)) := by
 refine pcalls_of_calls rfl ⟨_, Try.func51, rfl, by kernel_rfl⟩ fun w U vs hr => ?_
 obtain ⟨vs⟩ := vs
 cases hr with
 | cons h1 t =>
  cases t
  exact (box_Count (ints_rep h1)).mono fun e w' ⟨he, hx⟩ => ⟨he, hx ▸ Ext.refl _⟩
theorem ref09_Count_abs (xs : List Int) : PCalls Try.prog n_ref09_Count [aInts xs] (I (bcount xs)) := by
 refine pcalls_of_calls rfl ⟨_, Try.func55, rfl, by kernel_rfl⟩ fun w U vs hr => ?_
 obtain ⟨vs⟩ := vs
 cases hr with
 | cons h1 t =>
  cases t
  exact (ref09_Count (ints_rep h1)).mono fun e w' ⟨he, hx⟩ => ⟨he, hx⟩
theorem box_Point_abs (xs : List Int) {at' : Int} (hat : in64 at') : PCalls Try.prog n_box_Point [aInts xs, I at'] (.tup [aInts (bpoint xs at').1, Go.Abs.B (bpoint xs at').2]) := by
 refine PCalls.of is_box_Point (by simp) fun hb => runW_sound ?_
 have hx : xs.length ≤ 9223372036854775807 := by simpa [bndVs, bndV, bndA] using hb.1
 obtain ⟨hat1, hat2⟩ := hat
 by_cases hin : 0 ≤ at' ∧ at' < bcount xs
 ·have hsc := pos_of_count (xs := xs) (by omega)
  have hg := hsc.2.2.2
  have h6 : xs.length ≤ 16 := hsc.2.2.1
  obtain ⟨h0, h1⟩ := hin
  rw [bpoint_in ⟨h0, h1⟩]
  clear hsc
  simp only [c_box_Point]
  repeat' first | simp (disch := omega) only [go_sem, ↓reduceIte, Nat.reduceEqDiff, reduceCtorEq, Int.reduceEq] | ((with_reducible first | refine condD ?_ ?_ | refine condX ?_ ?_ | refine condW_intro ?_ ?_) <;> intro h <;> first | (exfalso; omega) | simp (disch := omega) only [go_sem, ↓reduceIte, Nat.reduceEqDiff, reduceCtorEq, Int.reduceEq, *] | skip) | (refine callW_of (box_Count_abs xs) rfl (.inl rfl) ?_)
  refine AW_loop (fun x : Nat × Int => ⟨[(0, aInts xs), (1, I x.2), (6, .c (.ref 0)), (7, I ((x.1 : Int) - 1))], [(0, .arr 3 1 ((List.replicate x.1 0 ++ (pointOf xs at').drop x.1).map fun n => [pI n]))], 1, 0⟩)
   (fun x => x.1 ≤ xs.length ∧ 0 ≤ x.2 ∧ x.2 ≤ 9223372036854775807 ∧ x.2 = at' / prod (xs.drop x.1)) (fun x => x.1) ⟨(xs.length, at'), [], ⟨Nat.le_refl _, h0, hat2, ?_⟩, ?_⟩ ?_
  ·rw [List.drop_eq_nil_of_le (Nat.le_refl _), prod, Int.ediv_one]
  ·have e1 : (pointOf xs at').drop xs.length = [] := List.drop_eq_nil_of_le (by rw [length_pointOf]; exact Nat.le_refl _)
   simp [Wk, wkF, wkM, wkL, look_cons, renV, renA, renC, renB, rn, clV, clA, clAs, clB, notIn, findB, findB_setB, clA.go, e1, wrap_i64 (show -9223372036854775808 ≤ (xs.length : Int) - 1 ∧ (xs.length : Int) - 1 ≤ 9223372036854775807 by omega)]
  ·rintro ⟨k, z⟩ ⟨hk, hz0, hz1, hz⟩
   refine runW_sound ?_
   cases k with
   | zero =>
    repeat' first | simp (disch := omega) only [go_sem, ↓reduceIte, Nat.reduceEqDiff, reduceCtorEq, Int.reduceEq] | ((with_reducible first | refine condD ?_ ?_ | refine condX ?_ ?_ | refine condW_intro ?_ ?_) <;> intro h <;> first | (exfalso; omega) | simp (disch := omega) only [go_sem, ↓reduceIte, Nat.reduceEqDiff, reduceCtorEq, Int.reduceEq, *] | skip)
    all_goals simp
   | succ k =>
    have hlt : k < xs.length := hk
    have e1 : (((k + 1 : Nat) : Int) - 1) = (k : Int) := by omega
    have hx1 := (hg.get hlt).1
    have hget : xs[k]?.getD 0 = xs[k] := by simp [hlt]
    rw [hget] at hx1
    have hne : xs[k] ≠ 0 := by omega
    have hq0 : 0 ≤ z / xs[k] := Int.ediv_nonneg hz0 (by omega)
    have hq1 : z / xs[k] ≤ z := Int.ediv_le_self _ hz0
    have eq1 : z.tdiv xs[k] = z / xs[k] := Int.tdiv_eq_ediv_of_nonneg hz0
    have eq2 : z.tmod xs[k] = z % xs[k] := Int.tmod_eq_emod_of_nonneg hz0
    have hrow : ((List.replicate (k + 1) (0 : Int) ++ (pointOf xs at').drop (k + 1)).map fun n => [pI n])[k]? = some [pI 0] := by
     rw [List.getElem?_map, List.getElem?_append_left (by simp), List.getElem?_replicate, if_pos (by omega)]
     rfl
    have hlen : k < (List.replicate (k + 1) (0 : Int) ++ (pointOf xs at').drop (k + 1)).length := by simp; omega
    simp only [e1]
    repeat' first | simp (disch := omega) only [go_sem, ↓reduceIte, Nat.reduceEqDiff, reduceCtorEq, Int.reduceEq, map_get hlt, hrow, wrap_i64, eq1, eq2, hne, ne_eq] | ((with_reducible first | refine condD ?_ ?_ | refine condX ?_ ?_ | refine condW_intro ?_ ?_) <;> intro h <;> first | (exfalso; omega) | simp (disch := omega) only [go_sem, ↓reduceIte, Nat.reduceEqDiff, reduceCtorEq, Int.reduceEq, *, map_get hlt, hrow, wrap_i64, eq1, eq2, hne, ne_eq] | skip)
    have hz' : z = at' / prod (xs.drop (k + 1)) := hz
    have hset : (((List.replicate (k + 1) (0 : Int) ++ (pointOf xs at').drop (k + 1)).map fun n => [pI n]).set k [PC.val (.int .i64 (z % xs[k]))]) = (List.replicate k 0 ++ (pointOf xs at').drop k).map fun n => [pI n] := by
     have h2 := set_fill k (0 : Int) (z % xs[k]?.getD 0) ((pointOf xs at').drop (k + 1))
     rw [hget] at h2
     rw [← List.map_set (f := fun n : Int => [pI n]) (a := z % xs[k])]
     rw [h2, pointOf_drop hlt, ← coord_div hz', hget]
    rw [hset]
    refine ⟨(k, z / xs[k]), [], ⟨by omega, hq0, by show z / xs[k] ≤ _; omega, ?_⟩, Nat.lt_succ_self _, by simp [Wk, wkF, wkM, wkL, look_cons, renV, renA, renC, renB, rn, clV, clA, clAs, clB, notIn, findB, findB_setB, clA.go]⟩
    show z / xs[k] = at' / prod (xs.drop k)
    rw [div_drop hg.pos at' hlt, ← hz', hget]
 ·rw [bpoint_out hin]
  simp only [c_box_Point]
  repeat' first | simp (disch := omega) only [go_sem, ↓reduceIte, Nat.reduceEqDiff, reduceCtorEq, Int.reduceEq] | ((with_reducible first | refine condD ?_ ?_ | refine condX ?_ ?_ | refine condW_intro ?_ ?_) <;> intro h <;> first | (exfalso; omega) | simp (disch := omega) only [go_sem, ↓reduceIte, Nat.reduceEqDiff, reduceCtorEq, Int.reduceEq, *] | skip) | (refine callW_of (box_Count_abs xs) rfl (.inl rfl) ?_)
  all_goals rfl
theorem ref09_Point_abs (xs : List Int) {at' : Int} (hat : in64 at') : PCalls Try.prog n_ref09_Point [aInts xs, I at'] (.tup [aInts (bpoint xs at').1, Go.Abs.B (bpoint xs at').2]) := by
 refine PCalls.of is_ref09_Point (by simp) fun hb => runW_sound ?_
 have hx : xs.length ≤ 9223372036854775807 := by simpa [bndVs, bndV, bndA] using hb.1
 obtain ⟨hat1, hat2⟩ := hat
 by_cases hin : 0 ≤ at' ∧ at' < bcount xs
 ·have hsc := pos_of_count (xs := xs) (by omega)
  have hg := hsc.2.2.2
  have h6 : xs.length ≤ 16 := hsc.2.2.1
  obtain ⟨h0, h1⟩ := hin
  rw [bpoint_in ⟨h0, h1⟩]
  clear hsc
  simp only [c_ref09_Point]
  repeat' first | simp (disch := omega) only [go_sem, ↓reduceIte, Nat.reduceEqDiff, reduceCtorEq, Int.reduceEq] | ((with_reducible first | refine condD ?_ ?_ | refine condX ?_ ?_ | refine condW_intro ?_ ?_) <;> intro h <;> first | (exfalso; omega) | simp (disch := omega) only [go_sem, ↓reduceIte, Nat.reduceEqDiff, reduceCtorEq, Int.reduceEq, *] | skip) | (refine callW_of (ref09_Count_abs xs) rfl (.inl rfl) ?_)
  refine AW_loop (fun x : Nat × Int => ⟨[(0, aInts xs), (1, I x.2), (6, .c (.ref 0)), (7, I ((x.1 : Int) - 1))], [(0, .arr 3 1 ((List.replicate x.1 0 ++ (pointOf xs at').drop x.1).map fun n => [pI n]))], 1, 0⟩)
   (fun x => x.1 ≤ xs.length ∧ 0 ≤ x.2 ∧ x.2 ≤ 9223372036854775807 ∧ x.2 = at' / prod (xs.drop x.1)) (fun x => x.1) ⟨(xs.length, at'), [], ⟨Nat.le_refl _, h0, hat2, ?_⟩, ?_⟩ ?_
  ·rw [List.drop_eq_nil_of_le (Nat.le_refl _), prod, Int.ediv_one]
  ·have e1 : (pointOf xs at').drop xs.length = [] := List.drop_eq_nil_of_le (by rw [length_pointOf]; exact Nat.le_refl _)
   simp [Wk, wkF, wkM, wkL, look_cons, renV, renA, renC, renB, rn, clV, clA, clAs, clB, notIn, findB, findB_setB, clA.go, e1, wrap_i64 (show -9223372036854775808 ≤ (xs.length : Int) - 1 ∧ (xs.length : Int) - 1 ≤ 9223372036854775807 by omega)]
  ·rintro ⟨k, z⟩ ⟨hk, hz0, hz1, hz⟩
   refine runW_sound ?_
   cases k with
   | zero =>
    repeat' first | simp (disch := omega) only [go_sem, ↓reduceIte, Nat.reduceEqDiff, reduceCtorEq, Int.reduceEq] | ((with_reducible first | refine condD ?_ ?_ | refine condX ?_ ?_ | refine condW_intro ?_ ?_) <;> intro h <;> first | (exfalso; omega) | simp (disch := omega) only [go_sem, ↓reduceIte, Nat.reduceEqDiff, reduceCtorEq, Int.reduceEq, *] | skip)
    all_goals simp
   | succ k =>
    have hlt : k < xs.length := hk
    have e1 : (((k + 1 : Nat) : Int) - 1) = (k : Int) := by omega
    have hx1 := (hg.get hlt).1
    have hget : xs[k]?.getD 0 = xs[k] := by simp [hlt]
    rw [hget] at hx1
    have hne : xs[k] ≠ 0 := by omega
    have hq0 : 0 ≤ z / xs[k] := Int.ediv_nonneg hz0 (by omega)
    have hq1 : z / xs[k] ≤ z := Int.ediv_le_self _ hz0
    have eq1 : z.tdiv xs[k] = z / xs[k] := Int.tdiv_eq_ediv_of_nonneg hz0
    have eq2 : z.tmod xs[k] = z % xs[k] := Int.tmod_eq_emod_of_nonneg hz0
    have hrow : ((List.replicate (k + 1) (0 : Int) ++ (pointOf xs at').drop (k + 1)).map fun n => [pI n])[k]? = some [pI 0] := by
     rw [List.getElem?_map, List.getElem?_append_left (by simp), List.getElem?_replicate, if_pos (by omega)]
     rfl
    have hlen : k < (List.replicate (k + 1) (0 : Int) ++ (pointOf xs at').drop (k + 1)).length := by simp; omega
    simp only [e1]
    repeat' first | simp (disch := omega) only [go_sem, ↓reduceIte, Nat.reduceEqDiff, reduceCtorEq, Int.reduceEq, map_get hlt, hrow, wrap_i64, eq1, eq2, hne, ne_eq] | ((with_reducible first | refine condD ?_ ?_ | refine condX ?_ ?_ | refine condW_intro ?_ ?_) <;> intro h <;> first | (exfalso; omega) | simp (disch := omega) only [go_sem, ↓reduceIte, Nat.reduceEqDiff, reduceCtorEq, Int.reduceEq, *, map_get hlt, hrow, wrap_i64, eq1, eq2, hne, ne_eq] | skip)
    have hz' : z = at' / prod (xs.drop (k + 1)) := hz
    have hset : (((List.replicate (k + 1) (0 : Int) ++ (pointOf xs at').drop (k + 1)).map fun n => [pI n]).set k [PC.val (.int .i64 (z % xs[k]))]) = (List.replicate k 0 ++ (pointOf xs at').drop k).map fun n => [pI n] := by
     have h2 := set_fill k (0 : Int) (z % xs[k]?.getD 0) ((pointOf xs at').drop (k + 1))
     rw [hget] at h2
     rw [← List.map_set (f := fun n : Int => [pI n]) (a := z % xs[k])]
     rw [h2, pointOf_drop hlt, ← coord_div hz', hget]
    rw [hset]
    refine ⟨(k, z / xs[k]), [], ⟨by omega, hq0, by show z / xs[k] ≤ _; omega, ?_⟩, Nat.lt_succ_self _, by simp [Wk, wkF, wkM, wkL, look_cons, renV, renA, renC, renB, rn, clV, clA, clAs, clB, notIn, findB, findB_setB, clA.go]⟩
    show z / xs[k] = at' / prod (xs.drop k)
    rw [div_drop hg.pos at' hlt, ← hz', hget]
 ·rw [bpoint_out hin]
  simp only [c_ref09_Point]
  repeat' first | simp (disch := omega) only [go_sem, ↓reduceIte, Nat.reduceEqDiff, reduceCtorEq, Int.reduceEq] | ((with_reducible first | refine condD ?_ ?_ | refine condX ?_ ?_ | refine condW_intro ?_ ?_) <;> intro h <;> first | (exfalso; omega) | simp (disch := omega) only [go_sem, ↓reduceIte, Nat.reduceEqDiff, reduceCtorEq, Int.reduceEq, *] | skip) | (refine callW_of (ref09_Count_abs xs) rfl (.inl rfl) ?_)
  all_goals rfl

end Go.Proofs.Ytcnbccmmhcoanaa
