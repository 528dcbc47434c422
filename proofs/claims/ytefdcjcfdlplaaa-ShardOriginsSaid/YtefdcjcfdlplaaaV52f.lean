/- The law ShardValidates by the abstract machine. -/
import Derived.Test.YtefdcjcfdlplaaaV52e
set_option linter.unusedVariables false
set_option linter.unusedSimpArgs false
set_option maxRecDepth 20000
namespace Go.Proofs.Ytefdcjcfdlplaaa
open Go.Abs Go.RowKit

theorem ref52_Small_abs (ms ds ss : List Int) : PCalls Try.prog n_ref52_Small [aMesh ms, aInts ds, aInts ss] (Go.Abs.B (decide (ms.length ≤ 20 ∧ ds.length ≤ 20 ∧ ss.length ≤ 20))) := by
  refine PCalls.of is_ref52_Small (by simp) fun hb => runW_sound ?_
  simp only [c_ref52_Small]
  repeat' first
    | simp (disch := omega) only [go_sem, true_and, and_true, List.nil_append, ↓reduceIte, Nat.reduceEqDiff, andW_of, Int.toNat_natCast, List.length_map, List.length_cons, List.length_nil, ↓List.map_cons, ↓List.map_nil, reduceCtorEq, Option.some.injEq, not_true_eq_false, not_false_eq_true, condW_not, condW_beqT, condW_beqF, int_beq, int_bne, str_beq, str_bne, eqb_F, eqb_T, Bool.false_eq_true, List.cons_append, decide_true, decide_false, Nat.add_zero, Nat.zero_add, List.drop_succ_cons, List.drop_zero, List.take_succ_cons, List.take_zero, Option.map_some, Option.map_none, List.getElem?_cons_zero, List.getElem?_cons_succ, eq_self, beq_self_eq_true, Bool.bne_false, Bool.bne_true, Bool.true_beq, Bool.false_beq]
    | (with_reducible refine condD (fun h => ?_) (fun h => ?_) <;> first | (exfalso; omega) | simp (disch := omega) only [go_sem, true_and, and_true, List.nil_append, ↓reduceIte, Nat.reduceEqDiff, andW_of, Int.toNat_natCast, List.length_map, List.length_cons, List.length_nil, ↓List.map_cons, ↓List.map_nil, reduceCtorEq, Option.some.injEq, not_true_eq_false, not_false_eq_true, condW_not, condW_beqT, condW_beqF, int_beq, int_bne, str_beq, str_bne, eqb_F, eqb_T, Bool.false_eq_true, List.cons_append, decide_true, decide_false, Nat.add_zero, Nat.zero_add, List.drop_succ_cons, List.drop_zero, List.take_succ_cons, List.take_zero, Option.map_some, Option.map_none, List.getElem?_cons_zero, List.getElem?_cons_succ, eq_self, beq_self_eq_true, Bool.bne_false, Bool.bne_true, Bool.true_beq, Bool.false_beq, *, decide_true, decide_false] | skip)
    | (with_reducible refine condW_intro (fun h => ?_) (fun h => ?_) <;> first | (exfalso; omega) | simp (disch := omega) only [go_sem, true_and, and_true, List.nil_append, ↓reduceIte, Nat.reduceEqDiff, andW_of, Int.toNat_natCast, List.length_map, List.length_cons, List.length_nil, ↓List.map_cons, ↓List.map_nil, reduceCtorEq, Option.some.injEq, not_true_eq_false, not_false_eq_true, condW_not, condW_beqT, condW_beqF, int_beq, int_bne, str_beq, str_bne, eqb_F, eqb_T, Bool.false_eq_true, List.cons_append, decide_true, decide_false, Nat.add_zero, Nat.zero_add, List.drop_succ_cons, List.drop_zero, List.take_succ_cons, List.take_zero, Option.map_some, Option.map_none, List.getElem?_cons_zero, List.getElem?_cons_succ, eq_self, beq_self_eq_true, Bool.bne_false, Bool.bne_true, Bool.true_beq, Bool.false_beq, *, decide_true, decide_false] | skip)
  all_goals (refine congrArg (fun b => Go.Abs.B b) ?_; rw [Bool.eq_iff_iff]; simp; omega)

theorem ex_mesh2 : MeshOk [2] := by refine ⟨by decide, by decide, by simp, by decide⟩
theorem ex_mesh23 : MeshOk [2, 3] := by refine ⟨by decide, by decide, by simp, by decide⟩
theorem ex_ent1 : entOk 1 [0] := fun i hi _ => by
  have : i = 0 := by have : i < 1 := hi; omega
  subst this
  exact ⟨by show (-1 : Int) ≤ 0; decide, by show (0 : Int) < 1; decide, fun _ => by simp⟩
theorem ex_ent2 : entOk 2 [0] := fun i hi _ => by
  have : i = 0 := by have : i < 1 := hi; omega
  subst this
  exact ⟨by show (-1 : Int) ≤ 0; decide, by show (0 : Int) < 2; decide, fun _ => by simp⟩
theorem ex_fit : fitOk [2] [4] [0] := fun i hi _ _ => by
  have : i = 0 := by have : i < 1 := hi; omega
  subst this
  show (4 : Int) % 2 = 0
  decide
theorem ex_shape : lshape [2] [4] [0] = ([2], 0) := by
  have e : vspc [2] [4] [0] = 0 := by
    rw [vspc, if_neg (not_not_intro ex_mesh2), if_neg (show ¬ vld [4] ≠ 0 by decide), if_neg (not_not_intro ⟨rfl, ex_ent1⟩), if_pos ex_fit]
  rw [lshape, if_pos e]
  rfl
theorem ex_reps : reps [2, 3] [0] = 3 := by
  rw [reps, if_pos ⟨ex_mesh23, ex_ent2⟩]
  decide
theorem law52_alive_abs : PCalls Try.prog n_law52_alive [] (Go.Abs.B true) := by
  refine PCalls.of is_law52_alive (by simp) fun hb => runW_sound ?_
  have p1 := shard_LocalShape_abs [2] [4] [0]
  rw [ex_shape] at p1
  have p2 := shard_Replicas_abs [2, 3] [0]
  rw [ex_reps] at p2
  simp only [aInts, pInts, aMesh, List.map] at p1 p2
  simp only [c_law52_alive]
  repeat' first
    | simp (disch := omega) only [go_sem, true_and, and_true, List.nil_append, ↓reduceIte, Nat.reduceEqDiff, andW_of, Int.toNat_natCast, List.length_map, List.length_cons, List.length_nil, ↓List.map_cons, ↓List.map_nil, reduceCtorEq, Option.some.injEq, not_true_eq_false, not_false_eq_true, condW_not, condW_beqT, condW_beqF, int_beq, int_bne, str_beq, str_bne, eqb_F, eqb_T, Bool.false_eq_true, List.cons_append, decide_true, decide_false, Nat.add_zero, Nat.zero_add, List.drop_succ_cons, List.drop_zero, List.take_succ_cons, List.take_zero, Option.map_some, Option.map_none, List.getElem?_cons_zero, List.getElem?_cons_succ, eq_self, beq_self_eq_true, Bool.bne_false, Bool.bne_true, Bool.true_beq, Bool.false_beq, rowsOk, Int.toNat_zero, List.getElem?_cons_zero, List.length_cons, List.length_nil]
    | (with_reducible refine condD (fun h => ?_) (fun h => ?_) <;> first | (exfalso; omega) | simp (disch := omega) only [go_sem, true_and, and_true, List.nil_append, ↓reduceIte, Nat.reduceEqDiff, andW_of, Int.toNat_natCast, List.length_map, List.length_cons, List.length_nil, ↓List.map_cons, ↓List.map_nil, reduceCtorEq, Option.some.injEq, not_true_eq_false, not_false_eq_true, condW_not, condW_beqT, condW_beqF, int_beq, int_bne, str_beq, str_bne, eqb_F, eqb_T, Bool.false_eq_true, List.cons_append, decide_true, decide_false, Nat.add_zero, Nat.zero_add, List.drop_succ_cons, List.drop_zero, List.take_succ_cons, List.take_zero, Option.map_some, Option.map_none, List.getElem?_cons_zero, List.getElem?_cons_succ, eq_self, beq_self_eq_true, Bool.bne_false, Bool.bne_true, Bool.true_beq, Bool.false_beq, *, decide_true, decide_false, rowsOk, Int.toNat_zero, List.getElem?_cons_zero, List.length_cons, List.length_nil] | skip)
    | (with_reducible refine condW_intro (fun h => ?_) (fun h => ?_) <;> first | (exfalso; omega) | simp (disch := omega) only [go_sem, true_and, and_true, List.nil_append, ↓reduceIte, Nat.reduceEqDiff, andW_of, Int.toNat_natCast, List.length_map, List.length_cons, List.length_nil, ↓List.map_cons, ↓List.map_nil, reduceCtorEq, Option.some.injEq, not_true_eq_false, not_false_eq_true, condW_not, condW_beqT, condW_beqF, int_beq, int_bne, str_beq, str_bne, eqb_F, eqb_T, Bool.false_eq_true, List.cons_append, decide_true, decide_false, Nat.add_zero, Nat.zero_add, List.drop_succ_cons, List.drop_zero, List.take_succ_cons, List.take_zero, Option.map_some, Option.map_none, List.getElem?_cons_zero, List.getElem?_cons_succ, eq_self, beq_self_eq_true, Bool.bne_false, Bool.bne_true, Bool.true_beq, Bool.false_beq, *, decide_true, decide_false, rowsOk, Int.toNat_zero, List.getElem?_cons_zero, List.length_cons, List.length_nil] | skip)
    | (refine callW_of p1 rfl (.inr rfl) ?_)
    | (refine callW_of p2 rfl (.inl rfl) ?_)

theorem ShardValidates_abs (ps0 ps1 : List PC) (h0 : OkPs [.slice [.int .i64], .slice [.int .i64]] ps0) (h1 : OkPs [.slice [.int .i64]] ps1) : PCalls Try.prog 3 [argV true ps0, argV false ps1] (Go.Abs.B true) := by
  obtain ⟨_, _, rfl, k0, k1⟩ := okCons h0
  obtain ⟨_, rfl, k2⟩ := okOne k1
  obtain ⟨_, rfl, k3⟩ := okOne h1
  obtain ⟨ms, rfl, _, _⟩ := okInts k0
  obtain ⟨ss, rfl, _, _⟩ := okInts k2
  obtain ⟨ds, rfl, _, _⟩ := okInts k3
  clear h0 h1 k0 k1 k2 k3
  show PCalls _ n_law52_ShardValidates [.agg [.pure (pInts ms), .pure (pInts ss)], aInts ds] _
  refine PCalls.of is_law52_ShardValidates (by simp) fun hb => runW_sound ?_
  clear hb
  have q0 := ref52_Small_abs ms ds ss
  have q1 := shard_LocalShape_abs ms ds ss
  have q2 := ref52_LocalShape_abs ms ds ss
  have q3 := shard_Validate_abs ms ds ss
  have q4 := ref52_Validate_abs ms ds ss
  have q5 := shard_Replicas_abs ms ss
  have q6 := ref52_Replicas_abs ms ss
  simp only [c_law52_ShardValidates]
  repeat' first
    | simp (disch := omega) only [go_sem, true_and, and_true, List.nil_append, ↓reduceIte, Nat.reduceEqDiff, andW_of, Int.toNat_natCast, List.length_map, List.length_cons, List.length_nil, ↓List.map_cons, ↓List.map_nil, reduceCtorEq, Option.some.injEq, not_true_eq_false, not_false_eq_true, condW_not, condW_beqT, condW_beqF, int_beq, int_bne, str_beq, str_bne, eqb_F, eqb_T, Bool.false_eq_true, List.cons_append, decide_true, decide_false, Nat.add_zero, Nat.zero_add, List.drop_succ_cons, List.drop_zero, List.take_succ_cons, List.take_zero, Option.map_some, Option.map_none, List.getElem?_cons_zero, List.getElem?_cons_succ, eq_self, beq_self_eq_true, Bool.bne_false, Bool.bne_true, Bool.true_beq, Bool.false_beq]
    | (with_reducible refine condD (fun h => ?_) (fun h => ?_) <;> first | (exfalso; omega) | simp (disch := omega) only [go_sem, true_and, and_true, List.nil_append, ↓reduceIte, Nat.reduceEqDiff, andW_of, Int.toNat_natCast, List.length_map, List.length_cons, List.length_nil, ↓List.map_cons, ↓List.map_nil, reduceCtorEq, Option.some.injEq, not_true_eq_false, not_false_eq_true, condW_not, condW_beqT, condW_beqF, int_beq, int_bne, str_beq, str_bne, eqb_F, eqb_T, Bool.false_eq_true, List.cons_append, decide_true, decide_false, Nat.add_zero, Nat.zero_add, List.drop_succ_cons, List.drop_zero, List.take_succ_cons, List.take_zero, Option.map_some, Option.map_none, List.getElem?_cons_zero, List.getElem?_cons_succ, eq_self, beq_self_eq_true, Bool.bne_false, Bool.bne_true, Bool.true_beq, Bool.false_beq, *, decide_true, decide_false] | skip)
    | (with_reducible refine condW_intro (fun h => ?_) (fun h => ?_) <;> first | (exfalso; omega) | simp (disch := omega) only [go_sem, true_and, and_true, List.nil_append, ↓reduceIte, Nat.reduceEqDiff, andW_of, Int.toNat_natCast, List.length_map, List.length_cons, List.length_nil, ↓List.map_cons, ↓List.map_nil, reduceCtorEq, Option.some.injEq, not_true_eq_false, not_false_eq_true, condW_not, condW_beqT, condW_beqF, int_beq, int_bne, str_beq, str_bne, eqb_F, eqb_T, Bool.false_eq_true, List.cons_append, decide_true, decide_false, Nat.add_zero, Nat.zero_add, List.drop_succ_cons, List.drop_zero, List.take_succ_cons, List.take_zero, Option.map_some, Option.map_none, List.getElem?_cons_zero, List.getElem?_cons_succ, eq_self, beq_self_eq_true, Bool.bne_false, Bool.bne_true, Bool.true_beq, Bool.false_beq, *, decide_true, decide_false] | skip)
    | (refine callW_of q0 rfl (.inl rfl) ?_)
    | (refine callW_of law52_alive_abs rfl (.inl rfl) ?_)
    | (refine callW_of q1 rfl (.inr rfl) ?_)
    | (refine callW_of q2 rfl (.inr rfl) ?_)
    | (refine callW_of q3 rfl (.inl rfl) ?_)
    | (refine callW_of q4 rfl (.inl rfl) ?_)
    | (refine callW_of q5 rfl (.inl rfl) ?_)
    | (refine callW_of q6 rfl (.inl rfl) ?_)
    | (refine callW_of (base_Ints_abs _ _) rfl (.inl rfl) ?_)
end Go.Proofs.Ytefdcjcfdlplaaa
