/- The law ShardValidates by the abstract machine. -/
import Derived.Test.YtcnbccmmhcoanaaV52e
set_option linter.unusedVariables false
set_option linter.unusedSimpArgs false
set_option maxRecDepth 20000
namespace Go.Proofs.Ytcnbccmmhcoanaa
open Go.Abs Go.RowKit

theorem ref52_Small_abs (ms ds ss : List Int) : PCalls Try.prog n_ref52_Small [aMesh ms, aInts ds, aInts ss] (Go.Abs.B (decide (ms.length ≤ 20 ∧ ds.length ≤ 20 ∧ ss.length ≤ 20))) := by
 refine PCalls.of is_ref52_Small (by simp) fun hb => runW_sound ?_
 simp only [c_ref52_Small]
 repeat' first | simp (disch := omega) only [go_sem, ↓reduceIte, Nat.reduceEqDiff, reduceCtorEq, Int.reduceEq] | ((with_reducible first | refine condD ?_ ?_ | refine condX ?_ ?_ | refine condW_intro ?_ ?_) <;> intro h <;> first | (exfalso; omega) | simp (disch := omega) only [go_sem, ↓reduceIte, Nat.reduceEqDiff, reduceCtorEq, Int.reduceEq, *] | skip)
 all_goals (refine congrArg (fun b => Go.Abs.B b) ?_; rw [Bool.eq_iff_iff]; simp; omega)

theorem ex_mesh2 : MeshOk [2] := by refine ⟨by decide, by decide, by simp, by decide⟩
theorem ex_mesh23 : MeshOk [2, 3] := by refine ⟨by decide, by decide, by simp, by decide⟩
theorem ex_ent1 : entOk 1 [0] := fun i hi _ => by
 have : i = 0 := by have : i < 1 := hi; omega
 subst this
 exact ⟨by show (-1 : Int) ≤ 0; decide, by show (0 : Int) < 1; decide, fun _ => by simp⟩
theorem ex_ent2 : entOk 2 [0] := fun i hi _ => by
 have : i = 0 := by have : i < 1 := hi; omega
 subst this
 exact ⟨by show (-1 : Int) ≤ 0; decide, by show (0 : Int) < 2; decide, fun _ => by simp⟩
theorem ex_fit : fitOk [2] [4] [0] := fun i hi _ _ => by
 have : i = 0 := by have : i < 1 := hi; omega
 subst this
 show (4 : Int) % 2 = 0
 decide
theorem ex_shape : lshape [2] [4] [0] = ([2], 0) := by
 have e : vspc [2] [4] [0] = 0 := by
  rw [vspc, if_neg (not_not_intro ex_mesh2), if_neg (show ¬ vld [4] ≠ 0 by decide), if_neg (not_not_intro ⟨rfl, ex_ent1⟩), if_pos ex_fit]
 rw [lshape, if_pos e]
 rfl
theorem ex_reps : reps [2, 3] [0] = 3 := by
 rw [reps, if_pos ⟨ex_mesh23, ex_ent2⟩]
 decide
theorem law52_alive_abs : PCalls Try.prog n_law52_alive [] (Go.Abs.B true) := by
 refine PCalls.of is_law52_alive (by simp) fun hb => runW_sound ?_
 have p1 := shard_LocalShape_abs [2] [4] [0]
 rw [ex_shape] at p1
 have p2 := shard_Replicas_abs [2, 3] [0]
 rw [ex_reps] at p2
 simp only [aInts, pInts, aMesh, List.map] at p1 p2
 simp only [c_law52_alive]
 repeat' first | simp (disch := omega) only [go_sem, ↓reduceIte, Nat.reduceEqDiff, reduceCtorEq, Int.reduceEq, rowsOk, Int.toNat_zero, List.getElem?_cons_zero, List.length_cons, List.length_nil] | ((with_reducible first | refine condD ?_ ?_ | refine condX ?_ ?_ | refine condW_intro ?_ ?_) <;> intro h <;> first | (exfalso; omega) | simp (disch := omega) only [go_sem, ↓reduceIte, Nat.reduceEqDiff, reduceCtorEq, Int.reduceEq, *, rowsOk, Int.toNat_zero, List.getElem?_cons_zero, List.length_cons, List.length_nil] | skip) | (refine callW_of p1 rfl (.inr rfl) ?_) | (refine callW_of p2 rfl (.inl rfl) ?_)

end Go.Proofs.Ytcnbccmmhcoanaa
