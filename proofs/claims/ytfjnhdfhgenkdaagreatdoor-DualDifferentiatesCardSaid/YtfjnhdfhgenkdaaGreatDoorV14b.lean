/- Walks: the reference's expressions, single nodes. -/
import Derived.Test.YtfjnhdfhgenkdaaGreatDoorV14a
set_option linter.unusedVariables false
set_option linter.unusedSimpArgs false
set_option maxRecDepth 20000
namespace Go.Proofs.YtfjnhdfhgenkdaaGreatDoor
open Go.Abs Go.RowKit

set_option maxHeartbeats 2000000 in
theorem ref14_plain_abs (e : Ex) : PCalls Tryz.prog n_ref14_plain [aEx e] (Go.Abs.B (decide (synOk e))) := by
 refine PCalls.of is_ref14_plain (by simp) fun hb => runW_sound ?_
 have hl := (bnd_args hb).2
 simp only [c_ref14_plain]
 have hop : e.op = 1 ∨ e.op = 2 ∨ e.op = 3 ∨ e.op = 12 ∨ (e.op ≠ 1 ∧ e.op ≠ 2 ∧ e.op ≠ 3 ∧ e.op ≠ 12) := by omega
 rcases hop with h | h | h | h | ⟨h1, h2, h3, h⟩
 all_goals (
  repeat' first | simp (disch := omega) only [go_sem] | ((with_reducible first | refine condD ?_ ?_ | refine condX ?_ ?_ | refine condW_intro ?_ ?_) <;> intro h <;> first | (exfalso; omega) | simp (disch := omega) only [go_sem, *] | skip)
  all_goals first
   | (refine BD ?_; clear hb; simp only [Bool.not_eq_true', decI, decN, reduceCtorEq, false_iff, true_iff, not_exists, not_and, Classical.not_not, decide_eq_true_iff, decide_eq_false_iff_not]; first | done | grind [synOk, linZ])
   | skip)
 all_goals (
  have hs : (1 ≤ e.op ∧ e.op ≤ 18) ∧ (e.op ≠ 1 → e.val.1 = 0 ∧ e.val.2 = 0) ∧ (e.op ≠ 1 → e.op ≠ 12 → e.ty.1 = 0 ∧ e.ty.2.1 = 0 ∧ e.ty.2.2.1 = 0 ∧ e.ty.2.2.2.1 = 0 ∧ e.ty.2.2.2.2 = 0) ∧
   (e.op ≠ 2 → linZ e.lin) ∧ (e.op ≠ 3 → e.name = ⟨⟨[]⟩⟩ ∧ e.idx.length = 0) := by grind [linZ]
  refine AW_loop (fun k : Nat => ⟨[(3, I k), (1, .c (.ptr 0 0))], [(0, bEx e)], 1, 0⟩) (fun k => k ≤ e.idx.length ∧ upTo (fun i => ∀ h : i < e.idx.length, wfIx e.idx[i]) k) (fun k => e.idx.length - k) ⟨0, [], ⟨by omega, .zero⟩, by simp [Wk, wkF, wkM, wkL, look_cons, renV, renA, renC, renB, rn, clV, clA, clAs, clB, notIn, findB, findB_setB, clA.go, *]⟩ ?_
  repeat clear h
  have HT := Lib.hid hs
  clear hs
  rintro k ⟨hk, hall⟩
  refine runW_sound ?_
  by_cases hlt : k < e.idx.length
  ·repeat' first | simp (disch := omega) only [go_sem, map_get hlt, ixP, wrap_i64] | ((with_reducible first | refine condD ?_ ?_ | refine condX ?_ ?_ | refine condW_intro ?_ ?_) <;> intro h <;> first | (exfalso; omega) | simp (disch := omega) only [go_sem, *, map_get hlt, ixP, wrap_i64] | skip)
   all_goals first
    | exact ⟨k + 1, [], ⟨by omega, hall.succ fun _ => by grind [wfIx, linZ]⟩, by omega, by simp [Wk, wkF, wkM, wkL, look_cons, renV, renA, renC, renB, rn, clV, clA, clAs, clB, notIn, findB, findB_setB, clA.go]⟩
    | exact BD ⟨fun h => (by cases h), fun h' => (by have := h'.2.2.2.2.2 _ (List.getElem_mem hlt); grind [wfIx, linZ])⟩
  ·repeat' first | simp (disch := omega) only [go_sem] | ((with_reducible first | refine condD ?_ ?_ | refine condX ?_ ?_ | refine condW_intro ?_ ?_) <;> intro h <;> first | (exfalso; omega) | simp (disch := omega) only [go_sem, *] | skip)
   refine BD ⟨fun _ => ⟨HT.out.1, HT.out.2.1, HT.out.2.2.1, HT.out.2.2.2.1, HT.out.2.2.2.2, fun x hx => ?_⟩, fun _ => rfl⟩
   obtain ⟨i, hi, rfl⟩ := List.mem_iff_getElem.1 hx
   exact hall i (by omega) hi)
theorem ref14_ranked_abs (e : Ex) : PCalls Tryz.prog n_ref14_ranked [aEx e] (Go.Abs.B (decide (rnkOk e))) := by
 refine PCalls.of is_ref14_ranked (by simp) fun hb => runW_sound ?_
 have hl := (bnd_args hb).2
 simp only [c_ref14_ranked]
 repeat' first | simp (disch := omega) only [go_sem] | ((with_reducible first | refine condD ?_ ?_ | refine condX ?_ ?_ | refine condW_intro ?_ ?_) <;> intro h <;> first | (exfalso; omega) | simp (disch := omega) only [go_sem, *] | skip) | (refine callW_of (ref14_args_abs e.op) rfl (.inl rfl) ?_)
 all_goals first
  | (refine BD ?_; clear hb; simp only [Bool.not_eq_true', decI, decN, reduceCtorEq, false_iff, true_iff, not_exists, not_and, Classical.not_not, decide_eq_true_iff, decide_eq_false_iff_not]; first | done | grind [rnkOk])
  | skip
 all_goals (
  have hs : (e.args.length : Int) = arity e.op ∧ e.idx.length ≤ 6 := by grind
  refine AW_loop (fun k : Nat => ⟨[(3, I k), (1, .c (.ptr 0 0))], [(0, bEx e)], 1, 0⟩) (fun k => k ≤ e.idx.length ∧ upTo (fun i => ∀ h : i < e.idx.length, e.idx[i].2.2.length ≤ 6) k) (fun k => e.idx.length - k) ⟨0, [], ⟨by omega, .zero⟩, by simp [Wk, wkF, wkM, wkL, look_cons, renV, renA, renC, renB, rn, clV, clA, clAs, clB, notIn, findB, findB_setB, clA.go, *]⟩ ?_
  repeat clear h
  have HT := Lib.hid hs
  clear hs
  rintro k ⟨hk, hall⟩
  refine runW_sound ?_
  by_cases hlt : k < e.idx.length
  ·repeat' first | simp (disch := omega) only [go_sem, map_get hlt, ixP, wrap_i64] | ((with_reducible first | refine condD ?_ ?_ | refine condX ?_ ?_ | refine condW_intro ?_ ?_) <;> intro h <;> first | (exfalso; omega) | simp (disch := omega) only [go_sem, *, map_get hlt, ixP, wrap_i64] | skip)
   all_goals first
    | exact ⟨k + 1, [], ⟨by omega, hall.succ fun _ => by omega⟩, by omega, by simp [Wk, wkF, wkM, wkL, look_cons, renV, renA, renC, renB, rn, clV, clA, clAs, clB, notIn, findB, findB_setB, clA.go]⟩
    | exact BD ⟨fun h => (by cases h), fun h' => (by have := h'.2.2 _ (List.getElem_mem hlt); omega)⟩
  ·repeat' first | simp (disch := omega) only [go_sem] | ((with_reducible first | refine condD ?_ ?_ | refine condX ?_ ?_ | refine condW_intro ?_ ?_) <;> intro h <;> first | (exfalso; omega) | simp (disch := omega) only [go_sem, *] | skip)
   refine BD ⟨fun _ => ⟨HT.out.1, HT.out.2, fun x hx => ?_⟩, fun _ => rfl⟩
   obtain ⟨i, hi, rfl⟩ := List.mem_iff_getElem.1 hx
   exact hall i (by omega) hi)
theorem ref14_named_abs (e : Ex) : PCalls Tryz.prog n_ref14_named [aEx e] (Go.Abs.B (decide (namOk e))) := by
 refine PCalls.of is_ref14_named (by simp) fun hb => runW_sound ?_
 have hl := (bnd_args hb).2
 simp only [c_ref14_named]
 repeat' first | simp (disch := omega) only [go_sem] | ((with_reducible first | refine condD ?_ ?_ | refine condX ?_ ?_ | refine condW_intro ?_ ?_) <;> intro h <;> first | (exfalso; omega) | simp (disch := omega) only [go_sem, *] | skip) | (refine callW_of (base_Name_abs _) rfl (.inl rfl) ?_)
 all_goals first
  | (refine BD ?_; clear hb; simp only [Bool.not_eq_true', decI, decN, reduceCtorEq, false_iff, true_iff, not_exists, not_and, Classical.not_not, decide_eq_true_iff, decide_eq_false_iff_not]; first | done | grind [namOk])
  | skip
 all_goals (
  have hs : e.op = 3 → idOk e.name := by grind
  refine AW_loop (fun k : Nat => ⟨[(3, I k), (1, .c (.ptr 0 0))], [(0, bEx e)], 1, 0⟩) (fun k => k ≤ e.idx.length ∧ upTo (fun i => ∀ h : i < e.idx.length, e.idx[i].2.1 ≠ ⟨⟨[]⟩⟩ → idOk e.idx[i].2.1) k) (fun k => e.idx.length - k) ⟨0, [], ⟨by omega, .zero⟩, by simp [Wk, wkF, wkM, wkL, look_cons, renV, renA, renC, renB, rn, clV, clA, clAs, clB, notIn, findB, findB_setB, clA.go, *]⟩ ?_
  repeat clear h
  have HT := Lib.hid hs
  clear hs
  rintro k ⟨hk, hall⟩
  refine runW_sound ?_
  by_cases hlt : k < e.idx.length
  ·repeat' first | simp (disch := omega) only [go_sem, map_get hlt, ixP, wrap_i64] | ((with_reducible first | refine condD ?_ ?_ | refine condX ?_ ?_ | refine condW_intro ?_ ?_) <;> intro h <;> first | (exfalso; omega) | simp (disch := omega) only [go_sem, *, map_get hlt, ixP, wrap_i64] | skip) | (refine callW_of (base_Name_abs _) rfl (.inl rfl) ?_)
   all_goals first
    | exact ⟨k + 1, [], ⟨by omega, hall.succ fun _ => by grind⟩, by omega, by simp [Wk, wkF, wkM, wkL, look_cons, renV, renA, renC, renB, rn, clV, clA, clAs, clB, notIn, findB, findB_setB, clA.go]⟩
    | exact BD ⟨fun h => (by cases h), fun h' => (by have := h'.2 _ (List.getElem_mem hlt); grind)⟩
  ·repeat' first | simp (disch := omega) only [go_sem] | ((with_reducible first | refine condD ?_ ?_ | refine condX ?_ ?_ | refine condW_intro ?_ ?_) <;> intro h <;> first | (exfalso; omega) | simp (disch := omega) only [go_sem, *] | skip)
   refine BD ⟨fun _ => ⟨HT.out, fun x hx => ?_⟩, fun _ => rfl⟩
   obtain ⟨i, hi, rfl⟩ := List.mem_iff_getElem.1 hx
   exact hall i (by omega) hi)
theorem ref14_typed_abs (e : Ex) : PCalls Tryz.prog n_ref14_typed [aEx e] (Go.Abs.B (decide (typdOk e))) := by
 refine PCalls.of is_ref14_typed (by simp) fun hb => runW_sound ?_
 have hl := (bnd_args hb).1
 simp only [c_ref14_typed]
 repeat' first | simp (disch := omega) only [go_sem] | ((with_reducible first | refine condD ?_ ?_ | refine condX ?_ ?_ | refine condW_intro ?_ ?_) <;> intro h <;> first | (exfalso; omega) | simp (disch := omega) only [go_sem, *] | skip) | (refine callW_of (base_Type_ty e.ty) rfl (.inl rfl) ?_)
 all_goals first
  | (refine BD ?_; clear hb; simp only [Bool.not_eq_true', decI, decN, reduceCtorEq, false_iff, true_iff, not_exists, not_and, Classical.not_not, decide_eq_true_iff, decide_eq_false_iff_not]; first | done | grind [typdOk])
  | skip
 all_goals (
  have hty : (e.op = 1 ∨ e.op = 12) → tyOk e.ty := by grind
  refine AW_loop (fun k : Nat => ⟨[(3, I k), (1, .c (.ptr 0 0))], [(0, bEx e)], 1, 0⟩) (fun k => k ≤ e.args.length ∧ upTo (fun i => ∀ h : i < e.args.length, isCond e.args[i].op ↔ wantsC e.op i) k) (fun k => e.args.length - k) ⟨0, [], ⟨by omega, .zero⟩, by simp [Wk, wkF, wkM, wkL, look_cons, renV, renA, renC, renB, rn, clV, clA, clAs, clB, notIn, findB, findB_setB, clA.go, *]⟩ ?_
  repeat clear h
  have HT := Lib.hid hty
  clear hty
  rintro k ⟨hk, hall⟩
  refine runW_sound ?_
  by_cases hlt : k < e.args.length
  ·repeat' first | simp (disch := omega) only [go_sem, map_get hlt, Ex.row_eq, wrap_i64, eqb_T] | ((with_reducible first | refine condD ?_ ?_ | refine condX ?_ ?_ | refine condW_intro ?_ ?_) <;> intro h <;> first | (exfalso; omega) | simp (disch := omega) only [go_sem, *, map_get hlt, Ex.row_eq, wrap_i64, eqb_T] | skip) | (refine callW_of (ref14_IsCondition_abs e.args[k]) rfl (.inl rfl) ?_) | (refine callW_of (ref14_wants_abs e.op k) rfl (.inl rfl) ?_)
   ·exact ⟨k + 1, [], ⟨by omega, hall.succ fun _ => by simpa using h⟩, by omega, by simp [Wk, wkF, wkM, wkL, look_cons, renV, renA, renC, renB, rn, clV, clA, clAs, clB, notIn, findB, findB_setB, clA.go]⟩
   ·refine BD ⟨fun h => (by cases h), fun h' => ?_⟩
    have := h'.2 k hlt
    simp [this] at h
  ·repeat' first | simp (disch := omega) only [go_sem] | ((with_reducible first | refine condD ?_ ?_ | refine condX ?_ ?_ | refine condW_intro ?_ ?_) <;> intro h <;> first | (exfalso; omega) | simp (disch := omega) only [go_sem, *] | skip)
   exact BD ⟨fun _ => ⟨HT.out, fun i hi => hall i (by omega) hi⟩, fun _ => rfl⟩)
end Go.Proofs.YtfjnhdfhgenkdaaGreatDoor
