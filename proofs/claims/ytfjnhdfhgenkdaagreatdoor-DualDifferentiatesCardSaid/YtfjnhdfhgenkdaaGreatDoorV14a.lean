/- Walks: package expr, single nodes. -/
import Derived.Test.YtfjnhdfhgenkdaaGreatDoorP14
set_option linter.unusedVariables false
set_option linter.unusedSimpArgs false
set_option maxRecDepth 20000
namespace Go.Proofs.YtfjnhdfhgenkdaaGreatDoor
open Go.Abs Go.RowKit

theorem expr_IsCondition_abs (e : Ex) : PCalls Tryz.prog n_expr_IsCondition [aEx e] (Go.Abs.B (decide (isCond e.op))) := by
 refine PCalls.of is_expr_IsCondition (by simp) fun hb => runW_sound ?_
 simp only [c_expr_IsCondition]
 repeat' first | simp (disch := omega) only [go_sem] | ((with_reducible first | refine condD ?_ ?_ | refine condX ?_ ?_ | refine condW_intro ?_ ?_) <;> intro h <;> first | (exfalso; omega) | simp (disch := omega) only [go_sem, *] | skip)
 all_goals simp [isCond, *]
theorem ref14_IsCondition_abs (e : Ex) : PCalls Tryz.prog n_ref14_IsCondition [aEx e] (Go.Abs.B (decide (isCond e.op))) := by
 refine PCalls.of is_ref14_IsCondition (by simp) fun hb => runW_sound ?_
 simp only [c_ref14_IsCondition]
 repeat' first | simp (disch := omega) only [go_sem] | ((with_reducible first | refine condD ?_ ?_ | refine condX ?_ ?_ | refine condW_intro ?_ ?_) <;> intro h <;> first | (exfalso; omega) | simp (disch := omega) only [go_sem, *] | skip)
 all_goals simp [isCond, *]
theorem expr_operands_abs (o : Int) : PCalls Tryz.prog n_expr_operands [I o] (I (arity o)) := by
 refine PCalls.of is_expr_operands (by simp) fun hb => runW_sound ?_
 simp only [c_expr_operands]
 repeat' first | simp (disch := omega) only [go_sem] | ((with_reducible first | refine condD ?_ ?_ | refine condX ?_ ?_ | refine condW_intro ?_ ?_) <;> intro h <;> first | (exfalso; omega) | simp (disch := omega) only [go_sem, *] | skip)
 all_goals simp [arity, *]
theorem ref14_args_abs (o : Int) : PCalls Tryz.prog n_ref14_args [I o] (I (arity o)) := by
 refine PCalls.of is_ref14_args (by simp) fun hb => runW_sound ?_
 simp only [c_ref14_args]
 repeat' first | simp (disch := omega) only [go_sem] | ((with_reducible first | refine condD ?_ ?_ | refine condX ?_ ?_ | refine condW_intro ?_ ?_) <;> intro h <;> first | (exfalso; omega) | simp (disch := omega) only [go_sem, *] | skip)
 all_goals simp [arity, *]
theorem expr_requiresCondition_abs (o : Int) (i : Nat) : PCalls Tryz.prog n_expr_requiresCondition [I o, I i] (Go.Abs.B (decide (wantsC o i))) := by
 refine PCalls.of is_expr_requiresCondition (by simp) fun hb => runW_sound ?_
 simp only [c_expr_requiresCondition]
 repeat' first | simp (disch := omega) only [go_sem] | ((with_reducible first | refine condD ?_ ?_ | refine condX ?_ ?_ | refine condW_intro ?_ ?_) <;> intro h <;> first | (exfalso; omega) | simp (disch := omega) only [go_sem, *] | skip)
 all_goals (simp [wantsC, *] <;> omega)
theorem ref14_wants_abs (o : Int) (i : Nat) : PCalls Tryz.prog n_ref14_wants [I o, I i] (Go.Abs.B (decide (wantsC o i))) := by
 refine PCalls.of is_ref14_wants (by simp) fun hb => runW_sound ?_
 simp only [c_ref14_wants]
 repeat' first | simp (disch := omega) only [go_sem] | ((with_reducible first | refine condD ?_ ?_ | refine condX ?_ ?_ | refine condW_intro ?_ ?_) <;> intro h <;> first | (exfalso; omega) | simp (disch := omega) only [go_sem, *] | skip)
 all_goals (simp [wantsC, *] <;> omega)
theorem expr_isZero_abs (l : Lin) : PCalls Tryz.prog n_expr_isZero [aLin l.1 l.2] (Go.Abs.B (decide (linZ l))) := by
 refine PCalls.of is_expr_isZero (by simp) fun hb => runW_sound ?_
 simp only [c_expr_isZero]
 repeat' first | simp (disch := omega) only [go_sem] | ((with_reducible first | refine condD ?_ ?_ | refine condX ?_ ?_ | refine condW_intro ?_ ?_) <;> intro h <;> first | (exfalso; omega) | simp (disch := omega) only [go_sem, *] | skip)
 all_goals simp_all [linZ]
theorem expr_wellFormed_abs (x : Ix) : PCalls Tryz.prog n_expr_wellFormed [aIx x] (Go.Abs.B (decide (wfIx x))) := by
 refine PCalls.of is_expr_wellFormed (by simp) fun hb => runW_sound ?_
 simp only [c_expr_wellFormed]
 repeat' first | simp (disch := omega) only [go_sem] | ((with_reducible first | refine condD ?_ ?_ | refine condX ?_ ?_ | refine condW_intro ?_ ?_) <;> intro h <;> first | (exfalso; omega) | simp (disch := omega) only [go_sem, *] | skip) | (refine callW_of (expr_isZero_abs x.1) rfl (.inl rfl) ?_)
 all_goals (refine BD ?_; simp [wfIx, *] <;> omega)
theorem bnd_sl {α : Type} {f : α → List PC} {l : List α} {r : List AV} (h : bndVs (aSl f l :: r)) : l.length ≤ 9223372036854775807 := by
 have := h.1
 simpa [bndV, bndA] using this
/-- A predicate on indices, as a function. -/
def FnIx (f : FuncId) (p : Ix → Prop) : Prop := ∀ x : Ix, PCalls Tryz.prog f [aIx x] (Go.Abs.B (dec (p x)))
theorem slices_IndexFunc_Ix_abs {f : FuncId} {p : Ix → Prop} (hf : FnIx f p) (xs : List Ix) : PCalls Tryz.prog n_slices_IndexFunc_api_Index_api_Index [aSl ixP xs, .c (.clo f [])] (I (idxOf p xs)) := by
 refine PCalls.of is_slices_IndexFunc_api_Index_api_Index (by simp) fun hb => runW_sound ?_
 have hl := bnd_sl hb
 simp only [c_slices_IndexFunc_api_Index_api_Index]
 repeat' first | simp (disch := omega) only [go_sem] | ((with_reducible first | refine condD ?_ ?_ | refine condX ?_ ?_ | refine condW_intro ?_ ?_) <;> intro h <;> first | (exfalso; omega) | simp (disch := omega) only [go_sem, *] | skip)
 refine AW_loop (fun k : Nat => ⟨[(0, aSl ixP xs), (1, .c (.clo f [])), (7, I xs.length), (8, I k)], [], 0, 0⟩) (fun k => k ≤ xs.length ∧ upTo (fun j => ∀ h : j < xs.length, ¬ p xs[j]) k) (fun k => xs.length - k) ⟨0, [], ⟨by omega, .zero⟩, by simp [Wk, wkF, wkM, wkL, look_cons, renV, renA, renC, renB, rn, clV, clA, clAs, clB, notIn, findB, findB_setB, clA.go]⟩ ?_
 rintro k ⟨hk, hall⟩
 refine runW_sound ?_
 by_cases hlt : k < xs.length
 ·repeat' first | simp (disch := omega) only [go_sem, map_get hlt, ixP, wrap_i64] | ((with_reducible first | refine condD ?_ ?_ | refine condX ?_ ?_ | refine condW_intro ?_ ?_) <;> intro h <;> first | (exfalso; omega) | simp (disch := omega) only [go_sem, *, map_get hlt, ixP, wrap_i64] | skip) | (refine callW_of (hf _) rfl (.inl rfl) ?_)
  ·rw [idxOf_at hlt h fun j hj => hall j hj (by omega)]
  ·exact ⟨k + 1, [], ⟨by omega, hall.succ fun _ => h⟩, by omega, by simp [Wk, wkF, wkM, wkL, look_cons, renV, renA, renC, renB, rn, clV, clA, clAs, clB, notIn, findB, findB_setB, clA.go]⟩
 ·repeat' first | simp (disch := omega) only [go_sem] | ((with_reducible first | refine condD ?_ ?_ | refine condX ?_ ?_ | refine condW_intro ?_ ?_) <;> intro h <;> first | (exfalso; omega) | simp (disch := omega) only [go_sem, *] | skip)
  rw [idxOf_none fun j hj => hall j (by omega) hj]
theorem slices_ContainsFunc_Ix_abs {f : FuncId} {p : Ix → Prop} (hf : FnIx f p) (xs : List Ix) : PCalls Tryz.prog n_slices_ContainsFunc_api_Index_api_Index [aSl ixP xs, .c (.clo f [])] (Go.Abs.B (dec (∃ x ∈ xs, p x))) := by
 refine PCalls.of is_slices_ContainsFunc_api_Index_api_Index (by simp) fun hb => runW_sound ?_
 simp only [c_slices_ContainsFunc_api_Index_api_Index]
 repeat' first | simp (disch := omega) only [go_sem] | ((with_reducible first | refine condD ?_ ?_ | refine condX ?_ ?_ | refine condW_intro ?_ ?_) <;> intro h <;> first | (exfalso; omega) | simp (disch := omega) only [go_sem, *] | skip) | (refine callW_of (slices_IndexFunc_Ix_abs hf xs) rfl (.inl rfl) ?_)
 exact BC (by rw [decide_eq_true_iff]; exact idxOf_ge)
theorem expr_syntax_1_abs : FnIx n_expr_syntax_1 (fun x => ¬ wfIx x) := by
 intro x
 refine PCalls.of is_expr_syntax_1 (by simp) fun hb => runW_sound ?_
 simp only [c_expr_syntax_1]
 repeat' first | simp (disch := omega) only [go_sem] | ((with_reducible first | refine condD ?_ ?_ | refine condX ?_ ?_ | refine condW_intro ?_ ?_) <;> intro h <;> first | (exfalso; omega) | simp (disch := omega) only [go_sem, *] | skip) | (refine callW_of (expr_wellFormed_abs x) rfl (.inl rfl) ?_)
 all_goals exact BC (by simp [*])
theorem expr_rank_1_abs : FnIx n_expr_rank_1 (fun x => 6 < x.2.2.length) := by
 intro x
 refine PCalls.of is_expr_rank_1 (by simp) fun hb => runW_sound ?_
 simp only [c_expr_rank_1]
 repeat' first | simp (disch := omega) only [go_sem] | ((with_reducible first | refine condD ?_ ?_ | refine condX ?_ ?_ | refine condW_intro ?_ ?_) <;> intro h <;> first | (exfalso; omega) | simp (disch := omega) only [go_sem, *] | skip)
 all_goals exact BC (by simp <;> omega)
theorem expr_syntax_abs (e : Ex) : PCalls Tryz.prog n_expr_syntax [aEx e] (Go.Abs.B (decide (synOk e))) := by
 refine PCalls.of is_expr_syntax (by simp) fun hb => runW_sound ?_
 simp only [c_expr_syntax]
 repeat' first | simp (disch := omega) only [go_sem] | ((with_reducible first | refine condD ?_ ?_ | refine condX ?_ ?_ | refine condW_intro ?_ ?_) <;> intro h <;> first | (exfalso; omega) | simp (disch := omega) only [go_sem, *] | skip) | (refine callW_of (expr_isZero_abs e.lin) rfl (.inl rfl) ?_) | (refine callW_of (slices_ContainsFunc_Ix_abs expr_syntax_1_abs e.idx) rfl (.inl rfl) ?_)
 all_goals (refine BD ?_; clear hb; simp only [Bool.not_eq_true', decI, decN, reduceCtorEq, false_iff, true_iff, not_exists, not_and, Classical.not_not, decide_eq_true_iff, decide_eq_false_iff_not]; first | done | grind [synOk])
theorem expr_rank_abs (e : Ex) : PCalls Tryz.prog n_expr_rank [aEx e] (Go.Abs.B (decide (rnkOk e))) := by
 refine PCalls.of is_expr_rank (by simp) fun hb => runW_sound ?_
 simp only [c_expr_rank]
 repeat' first | simp (disch := omega) only [go_sem] | ((with_reducible first | refine condD ?_ ?_ | refine condX ?_ ?_ | refine condW_intro ?_ ?_) <;> intro h <;> first | (exfalso; omega) | simp (disch := omega) only [go_sem, *] | skip) | (refine callW_of (expr_operands_abs e.op) rfl (.inl rfl) ?_) | (refine callW_of (slices_ContainsFunc_Ix_abs expr_rank_1_abs e.idx) rfl (.inl rfl) ?_)
 all_goals (refine BD ?_; clear hb; simp only [Bool.not_eq_true', decI, decN, reduceCtorEq, false_iff, true_iff, not_exists, not_and, Classical.not_not, decide_eq_true_iff, decide_eq_false_iff_not]; first | done | grind [rnkOk])
theorem bnd_args {e : Ex} {r : List AV} (h : bndVs (aEx e :: r)) : e.args.length ≤ 9223372036854775807 ∧ e.idx.length ≤ 9223372036854775807 := by
 have := h.1
 simp [bndV, bndAs, bndA] at this
 omega
/-- The variable that holds an expression. -/
abbrev bEx (e : Ex) : Box := .var [.pure (pI e.op), .pure (pS e.name), .pure (pI e.val.1), .pure (pI e.val.2), .pure (pI e.ty.1), .pure (pI e.ty.2.1), .pure (pI e.ty.2.2.1), .pure (pI e.ty.2.2.2.1), .pure (pI e.ty.2.2.2.2), .pure (pI e.lin.1), .pure (pMonos e.lin.2), .pure (pSl ixP e.idx), .pure (.slice (e.args.map Ex.row))]
theorem expr_types_abs (e : Ex) : PCalls Tryz.prog n_expr_types [aEx e] (Go.Abs.B (decide (typdOk e))) := by
 refine PCalls.of is_expr_types (by simp) fun hb => runW_sound ?_
 have hl := (bnd_args hb).1
 simp only [c_expr_types]
 repeat' first | simp (disch := omega) only [go_sem] | ((with_reducible first | refine condD ?_ ?_ | refine condX ?_ ?_ | refine condW_intro ?_ ?_) <;> intro h <;> first | (exfalso; omega) | simp (disch := omega) only [go_sem, *] | skip) | (refine callW_of (value_ValidateType_ty e.ty) rfl (.inl rfl) ?_)
 all_goals first
  | (refine BD ?_; clear hb; simp only [Bool.not_eq_true', decI, decN, reduceCtorEq, false_iff, true_iff, not_exists, not_and, Classical.not_not, decide_eq_true_iff, decide_eq_false_iff_not]; first | done | grind [typdOk])
  | skip
 all_goals (
  have hty : (e.op = 1 ∨ e.op = 12) → tyOk e.ty := by grind
  refine AW_loop (fun k : Nat => ⟨[(22, I k), (21, I e.args.length), (20, .c (.pure (.slice (e.args.map Ex.row)))), (1, .c (.ptr 0 0))], [(0, bEx e)], 1, 0⟩) (fun k => k ≤ e.args.length ∧ upTo (fun i => ∀ h : i < e.args.length, isCond e.args[i].op ↔ wantsC e.op i) k) (fun k => e.args.length - k) ⟨0, [], ⟨by omega, .zero⟩, by simp [Wk, wkF, wkM, wkL, look_cons, renV, renA, renC, renB, rn, clV, clA, clAs, clB, notIn, findB, findB_setB, clA.go, *]⟩ ?_
  repeat clear h
  have HT := Lib.hid hty
  clear hty
  rintro k ⟨hk, hall⟩
  refine runW_sound ?_
  by_cases hlt : k < e.args.length
  ·repeat' first | simp (disch := omega) only [go_sem, map_get hlt, Ex.row_eq, wrap_i64, eqb_T] | ((with_reducible first | refine condD ?_ ?_ | refine condX ?_ ?_ | refine condW_intro ?_ ?_) <;> intro h <;> first | (exfalso; omega) | simp (disch := omega) only [go_sem, *, map_get hlt, Ex.row_eq, wrap_i64, eqb_T] | skip) | (refine callW_of (expr_IsCondition_abs e.args[k]) rfl (.inl rfl) ?_) | (refine callW_of (expr_requiresCondition_abs e.op k) rfl (.inl rfl) ?_)
   ·exact ⟨k + 1, [], ⟨by omega, hall.succ fun _ => by simpa using h⟩, by omega, by simp [Wk, wkF, wkM, wkL, look_cons, renV, renA, renC, renB, rn, clV, clA, clAs, clB, notIn, findB, findB_setB, clA.go]⟩
   ·refine BD ⟨fun h => (by cases h), fun h' => ?_⟩
    have := h'.2 k hlt
    simp [this] at h
  ·repeat' first | simp (disch := omega) only [go_sem] | ((with_reducible first | refine condD ?_ ?_ | refine condX ?_ ?_ | refine condW_intro ?_ ?_) <;> intro h <;> first | (exfalso; omega) | simp (disch := omega) only [go_sem, *] | skip)
   exact BD ⟨fun _ => ⟨HT.out, fun i hi => hall i (by omega) hi⟩, fun _ => rfl⟩)
end Go.Proofs.YtfjnhdfhgenkdaaGreatDoor
