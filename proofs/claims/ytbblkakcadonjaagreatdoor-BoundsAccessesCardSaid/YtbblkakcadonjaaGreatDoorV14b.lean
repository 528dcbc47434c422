/- Walks: package expr, single nodes. -/
import Derived.Test.YtbblkakcadonjaaGreatDoorP14
set_option linter.unusedVariables false
set_option linter.unusedSimpArgs false
set_option maxRecDepth 20000
set_option maxHeartbeats 4000000
set_option maxRecDepth 1000000
namespace Go.Proofs.YtbblkakcadonjaaGreatDoor
open Go.Abs Go.RowKit

theorem expr_IsCondition_abs (e : Ex) : PCalls Tryz.prog n_expr_IsCondition [aEx e] (Go.Abs.B (decide (isCond e.op))) := by
 refine PCalls.of is_expr_IsCondition (by simp) fun hb => runW_sound ?_
 conv in c_expr_IsCondition => cbv
 repeat' first | simp (disch := omega) only [go_sem, *] | ((with_reducible refine condT ?_ ?_) <;> intro h <;> try omega)
 all_goals simp [isCond, *]
theorem ref14_IsCondition_abs (e : Ex) : PCalls Tryz.prog n_ref14_IsCondition [aEx e] (Go.Abs.B (decide (isCond e.op))) := by
 refine PCalls.of is_ref14_IsCondition (by simp) fun hb => runW_sound ?_
 conv in c_ref14_IsCondition => cbv
 repeat' first | simp (disch := omega) only [go_sem, *] | ((with_reducible refine condT ?_ ?_) <;> intro h <;> try omega)
 all_goals simp [isCond, *]
theorem expr_operands_abs (o : Int) : PCalls Tryz.prog n_expr_operands [I o] (I (arity o)) := by
 refine PCalls.of is_expr_operands (by simp) fun hb => runW_sound ?_
 conv in c_expr_operands => cbv
 repeat' first | simp (disch := omega) only [go_sem, *] | ((with_reducible refine condT ?_ ?_) <;> intro h <;> try omega)
 all_goals simp [arity, *]
theorem ref14_args_abs (o : Int) : PCalls Tryz.prog n_ref14_args [I o] (I (arity o)) := by
 refine PCalls.of is_ref14_args (by simp) fun hb => runW_sound ?_
 conv in c_ref14_args => cbv
 repeat' first | simp (disch := omega) only [go_sem, *] | ((with_reducible refine condT ?_ ?_) <;> intro h <;> try omega)
 all_goals simp [arity, *]
theorem expr_requiresCondition_abs (o : Int) (i : Nat) : PCalls Tryz.prog n_expr_requiresCondition [I o, I i] (Go.Abs.B (decide (wantsC o i))) := by
 refine PCalls.of is_expr_requiresCondition (by simp) fun hb => runW_sound ?_
 conv in c_expr_requiresCondition => cbv
 repeat' first | simp (disch := omega) only [go_sem, *] | ((with_reducible refine condT ?_ ?_) <;> intro h <;> try omega)
 all_goals (simp [wantsC, *] <;> omega)
theorem ref14_wants_abs (o : Int) (i : Nat) : PCalls Tryz.prog n_ref14_wants [I o, I i] (Go.Abs.B (decide (wantsC o i))) := by
 refine PCalls.of is_ref14_wants (by simp) fun hb => runW_sound ?_
 conv in c_ref14_wants => cbv
 repeat' first | simp (disch := omega) only [go_sem, *] | ((with_reducible refine condT ?_ ?_) <;> intro h <;> try omega)
 all_goals (simp [wantsC, *] <;> omega)
theorem expr_isZero_abs (l : Lin) : PCalls Tryz.prog n_expr_isZero [aLin l.1 l.2] (Go.Abs.B (decide (linZ l))) := by
 refine PCalls.of is_expr_isZero (by simp) fun hb => runW_sound ?_
 conv in c_expr_isZero => cbv
 repeat' first | simp (disch := omega) only [go_sem, *] | ((with_reducible refine condT ?_ ?_) <;> intro h <;> try omega)
 all_goals simp_all [linZ]
theorem expr_wellFormed_abs (x : Ix) : PCalls Tryz.prog n_expr_wellFormed [aIx x] (Go.Abs.B (decide (wfIx x))) := by
 refine PCalls.of is_expr_wellFormed (by simp) fun hb => runW_sound ?_
 conv in c_expr_wellFormed => cbv
 repeat' first | simp (disch := omega) only [go_sem, *] | ((with_reducible refine condT ?_ ?_) <;> intro h <;> try omega) | (refine w_L (expr_isZero_abs x.1) rfl rfl ?_)
 all_goals (refine BD ?_; simp [wfIx, *] <;> omega)
theorem bnd_sl {α : Type} {f : α → List PC} {l : List α} {r : List AV} (h : bndVs (aSl f l :: r)) : l.length ≤ 9223372036854775807 := by
 have := h.1
 simpa [bndV, bndA] using this
def FnIx (f : FuncId) (p : Ix → Prop) : Prop := ∀ x : Ix, PCalls Tryz.prog f [aIx x] (Go.Abs.B (dec (p x)))
theorem slices_IndexFunc_Ix_abs {f : FuncId} {p : Ix → Prop} (hf : FnIx f p) (xs : List Ix) : PCalls Tryz.prog n_slices_IndexFunc_api_Index_api_Index [aSl ixP xs, .c (.clo f [])] (I (idxOf p xs)) := by
 refine PCalls.of is_slices_IndexFunc_api_Index_api_Index (by simp) fun hb => runW_sound ?_
 have hl := bnd_sl hb
 conv in c_slices_IndexFunc_api_Index_api_Index => cbv
 repeat' first | simp (disch := omega) only [go_sem, *] | ((with_reducible refine condT ?_ ?_) <;> intro h <;> try omega)
 refine AW_loop (fun k : Nat => ⟨[(0, aSl ixP xs), (1, .c (.clo f [])), (7, I xs.length), (8, I k)], [], 0, 0⟩) (fun k => k ≤ xs.length ∧ upTo (fun j => ∀ h : j < xs.length, ¬ p xs[j]) k) (fun k => xs.length - k) ⟨0, [], ⟨by omega, .zero⟩, by simp⟩ ?_
 rintro k ⟨hk, hall⟩
 refine runW_sound ?_
 by_cases hlt : k < xs.length
 ·repeat' first | simp (disch := omega) only [go_sem, *, map_get hlt, ixP, wrap_i64] | ((with_reducible refine condT ?_ ?_) <;> intro h <;> try omega) | (refine w_L (hf _) rfl rfl ?_)
  ·rw [idxOf_at hlt h fun j hj => hall j hj (by omega)]
  ·exact ⟨k + 1, [], ⟨by omega, hall.succ fun _ => h⟩, by omega, by simp⟩
 ·repeat' first | simp (disch := omega) only [go_sem, *] | ((with_reducible refine condT ?_ ?_) <;> intro h <;> try omega)
  rw [idxOf_none fun j hj => hall j (by omega) hj]
theorem slices_ContainsFunc_Ix_abs {f : FuncId} {p : Ix → Prop} (hf : FnIx f p) (xs : List Ix) : PCalls Tryz.prog n_slices_ContainsFunc_api_Index_api_Index [aSl ixP xs, .c (.clo f [])] (Go.Abs.B (dec (∃ x ∈ xs, p x))) := by
 refine PCalls.of is_slices_ContainsFunc_api_Index_api_Index (by simp) fun hb => runW_sound ?_
 conv in c_slices_ContainsFunc_api_Index_api_Index => cbv
 repeat' first | simp (disch := omega) only [go_sem, *] | ((with_reducible refine condT ?_ ?_) <;> intro h <;> try omega) | (refine w_L (slices_IndexFunc_Ix_abs hf xs) rfl rfl ?_)
 exact BC (by rw [decide_eq_true_iff]; exact idxOf_ge)
theorem expr_syntax_1_abs : FnIx n_expr_syntax_1 (fun x => ¬ wfIx x) := by
 intro x
 refine PCalls.of is_expr_syntax_1 (by simp) fun hb => runW_sound ?_
 conv in c_expr_syntax_1 => cbv
 repeat' first | simp (disch := omega) only [go_sem, *] | ((with_reducible refine condT ?_ ?_) <;> intro h <;> try omega) | (refine w_L (expr_wellFormed_abs x) rfl rfl ?_)
 all_goals exact BC (by simp [*])
theorem expr_rank_1_abs : FnIx n_expr_rank_1 (fun x => 6 < x.2.2.length) := by
 intro x
 refine PCalls.of is_expr_rank_1 (by simp) fun hb => runW_sound ?_
 conv in c_expr_rank_1 => cbv
 repeat' first | simp (disch := omega) only [go_sem, *] | ((with_reducible refine condT ?_ ?_) <;> intro h <;> try omega)
 all_goals exact BC (by simp <;> omega)
theorem expr_syntax_abs (e : Ex) : PCalls Tryz.prog n_expr_syntax [aEx e] (Go.Abs.B (decide (synOk e))) := by
 refine PCalls.of is_expr_syntax (by simp) fun hb => runW_sound ?_
 conv in c_expr_syntax => cbv
 repeat' first | simp (disch := omega) only [go_sem, *] | ((with_reducible refine condT ?_ ?_) <;> intro h <;> try omega) | (refine w_L (expr_isZero_abs e.lin) rfl rfl ?_) | (refine w_L (slices_ContainsFunc_Ix_abs expr_syntax_1_abs e.idx) rfl rfl ?_)
 all_goals (refine BD ?_; clear hb; simp only [Bool.not_eq_true', decI, decN, reduceCtorEq, false_iff, true_iff, not_exists, not_and, Classical.not_not, decide_eq_true_iff, decide_eq_false_iff_not]; first | done | grind [synOk])
theorem expr_rank_abs (e : Ex) : PCalls Tryz.prog n_expr_rank [aEx e] (Go.Abs.B (decide (rnkOk e))) := by
 refine PCalls.of is_expr_rank (by simp) fun hb => runW_sound ?_
 conv in c_expr_rank => cbv
 repeat' first | simp (disch := omega) only [go_sem, *] | ((with_reducible refine condT ?_ ?_) <;> intro h <;> try omega) | (refine w_L (expr_operands_abs e.op) rfl rfl ?_) | (refine w_L (slices_ContainsFunc_Ix_abs expr_rank_1_abs e.idx) rfl rfl ?_)
 all_goals (refine BD ?_; clear hb; simp only [Bool.not_eq_true', decI, decN, reduceCtorEq, false_iff, true_iff, not_exists, not_and, Classical.not_not, decide_eq_true_iff, decide_eq_false_iff_not]; first | done | grind [rnkOk])
theorem bnd_args {e : Ex} {r : List AV} (h : bndVs (aEx e :: r)) : e.args.length ≤ 9223372036854775807 ∧ e.idx.length ≤ 9223372036854775807 := by
 have := h.1
 simp [bndV, bndAs, bndA] at this
 omega
abbrev bEx (e : Ex) : Box := .var [.pure (pI e.op), .pure (pS e.name), .pure (pI e.val.1), .pure (pI e.val.2), .pure (pI e.ty.1), .pure (pI e.ty.2.1), .pure (pI e.ty.2.2.1), .pure (pI e.ty.2.2.2.1), .pure (pI e.ty.2.2.2.2), .pure (pI e.lin.1), .pure (pMonos e.lin.2), .pure (pSl ixP e.idx), .pure (.slice (e.args.map Ex.row))]
theorem expr_types_abs (e : Ex) : PCalls Tryz.prog n_expr_types [aEx e] (Go.Abs.B (decide (typdOk e))) := by
 refine PCalls.of is_expr_types (by simp) fun hb => runW_sound ?_
 have hl := (bnd_args hb).1
 conv in c_expr_types => cbv
 repeat' first | simp (disch := omega) only [go_sem, *] | ((with_reducible refine condT ?_ ?_) <;> intro h <;> try omega) | (refine w_L (value_ValidateType_ty e.ty) rfl rfl ?_)
 all_goals first
  | (refine BD ?_; clear hb; simp only [Bool.not_eq_true', decI, decN, reduceCtorEq, false_iff, true_iff, not_exists, not_and, Classical.not_not, decide_eq_true_iff, decide_eq_false_iff_not]; first | done | grind [typdOk])
  | skip
 all_goals (
  have hty : (e.op = 1 ∨ e.op = 12) → tyOk e.ty := by grind
  refine AW_loop (fun k : Nat => ⟨[(22, I k), (21, I e.args.length), (20, .c (.pure (.slice (e.args.map Ex.row)))), (1, .c (.ptr 0 0))], [(0, bEx e)], 1, 0⟩) (fun k => k ≤ e.args.length ∧ upTo (fun i => ∀ h : i < e.args.length, isCond e.args[i].op ↔ wantsC e.op i) k) (fun k => e.args.length - k) ⟨0, [], ⟨by omega, .zero⟩, by simp [*]⟩ ?_
  repeat clear h
  have HT := Lib.hid hty
  clear hty
  rintro k ⟨hk, hall⟩
  refine runW_sound ?_
  by_cases hlt : k < e.args.length
  ·repeat' first | simp (disch := omega) only [go_sem, *, map_get hlt, Ex.row_eq, wrap_i64, eqb_T] | ((with_reducible refine condT ?_ ?_) <;> intro h <;> try omega) | (refine w_L (expr_IsCondition_abs e.args[k]) rfl rfl ?_) | (refine w_L (expr_requiresCondition_abs e.op k) rfl rfl ?_)
   ·exact ⟨k + 1, [], ⟨by omega, hall.succ fun _ => by simpa using h⟩, by omega, by simp⟩
   ·refine BD ⟨fun h => (by cases h), fun h' => ?_⟩
    have := h'.2 k hlt
    simp [this] at h
  ·repeat' first | simp (disch := omega) only [go_sem, *] | ((with_reducible refine condT ?_ ?_) <;> intro h <;> try omega)
   exact BD ⟨fun _ => ⟨HT.out, fun i hi => hall i (by omega) hi⟩, fun _ => rfl⟩)
end Go.Proofs.YtbblkakcadonjaaGreatDoor
set_option linter.unusedVariables false
set_option linter.unusedSimpArgs false
set_option maxRecDepth 20000
set_option maxHeartbeats 4000000
set_option maxRecDepth 1000000
namespace Go.Proofs.YtbblkakcadonjaaGreatDoor
open Go.Abs Go.RowKit

set_option maxHeartbeats 2000000 in
theorem ref14_plain_abs (e : Ex) : PCalls Tryz.prog n_ref14_plain [aEx e] (Go.Abs.B (decide (synOk e))) := by
 refine PCalls.of is_ref14_plain (by simp) fun hb => runW_sound ?_
 have hl := (bnd_args hb).2
 conv in c_ref14_plain => cbv
 have hop : e.op = 1 ∨ e.op = 2 ∨ e.op = 3 ∨ e.op = 12 ∨ (e.op ≠ 1 ∧ e.op ≠ 2 ∧ e.op ≠ 3 ∧ e.op ≠ 12) := by omega
 rcases hop with h | h | h | h | ⟨h1, h2, h3, h⟩
 all_goals (
  repeat' first | simp (disch := omega) only [go_sem, *] | ((with_reducible refine condT ?_ ?_) <;> intro h <;> try omega)
  all_goals first
   | (refine BD ?_; clear hb; simp only [Bool.not_eq_true', decI, decN, reduceCtorEq, false_iff, true_iff, not_exists, not_and, Classical.not_not, decide_eq_true_iff, decide_eq_false_iff_not]; first | done | grind [synOk, linZ])
   | skip)
 all_goals (
  have hs : (1 ≤ e.op ∧ e.op ≤ 18) ∧ (e.op ≠ 1 → e.val.1 = 0 ∧ e.val.2 = 0) ∧ (e.op ≠ 1 → e.op ≠ 12 → e.ty.1 = 0 ∧ e.ty.2.1 = 0 ∧ e.ty.2.2.1 = 0 ∧ e.ty.2.2.2.1 = 0 ∧ e.ty.2.2.2.2 = 0) ∧
   (e.op ≠ 2 → linZ e.lin) ∧ (e.op ≠ 3 → e.name = ⟨⟨[]⟩⟩ ∧ e.idx.length = 0) := by grind [linZ]
  refine AW_loop (fun k : Nat => ⟨[(3, I k), (1, .c (.ptr 0 0))], [(0, bEx e)], 1, 0⟩) (fun k => k ≤ e.idx.length ∧ upTo (fun i => ∀ h : i < e.idx.length, wfIx e.idx[i]) k) (fun k => e.idx.length - k) ⟨0, [], ⟨by omega, .zero⟩, by simp [*]⟩ ?_
  repeat clear h
  have HT := Lib.hid hs
  clear hs
  rintro k ⟨hk, hall⟩
  refine runW_sound ?_
  by_cases hlt : k < e.idx.length
  ·repeat' first | simp (disch := omega) only [go_sem, *, map_get hlt, ixP, wrap_i64] | ((with_reducible refine condT ?_ ?_) <;> intro h <;> try omega)
   all_goals first
    | exact ⟨k + 1, [], ⟨by omega, hall.succ fun _ => by grind [wfIx, linZ]⟩, by omega, by simp⟩
    | exact BD ⟨fun h => (by cases h), fun h' => (by have := h'.2.2.2.2.2 _ (List.getElem_mem hlt); grind [wfIx, linZ])⟩
  ·repeat' first | simp (disch := omega) only [go_sem, *] | ((with_reducible refine condT ?_ ?_) <;> intro h <;> try omega)
   refine BD ⟨fun _ => ⟨HT.out.1, HT.out.2.1, HT.out.2.2.1, HT.out.2.2.2.1, HT.out.2.2.2.2, fun x hx => ?_⟩, fun _ => rfl⟩
   obtain ⟨i, hi, rfl⟩ := List.mem_iff_getElem.1 hx
   exact hall i (by omega) hi)
theorem ref14_ranked_abs (e : Ex) : PCalls Tryz.prog n_ref14_ranked [aEx e] (Go.Abs.B (decide (rnkOk e))) := by
 refine PCalls.of is_ref14_ranked (by simp) fun hb => runW_sound ?_
 have hl := (bnd_args hb).2
 conv in c_ref14_ranked => cbv
 repeat' first | simp (disch := omega) only [go_sem, *] | ((with_reducible refine condT ?_ ?_) <;> intro h <;> try omega) | (refine w_L (ref14_args_abs e.op) rfl rfl ?_)
 all_goals first
  | (refine BD ?_; clear hb; simp only [Bool.not_eq_true', decI, decN, reduceCtorEq, false_iff, true_iff, not_exists, not_and, Classical.not_not, decide_eq_true_iff, decide_eq_false_iff_not]; first | done | grind [rnkOk])
  | skip
 all_goals (
  have hs : (e.args.length : Int) = arity e.op ∧ e.idx.length ≤ 6 := by grind
  refine AW_loop (fun k : Nat => ⟨[(3, I k), (1, .c (.ptr 0 0))], [(0, bEx e)], 1, 0⟩) (fun k => k ≤ e.idx.length ∧ upTo (fun i => ∀ h : i < e.idx.length, e.idx[i].2.2.length ≤ 6) k) (fun k => e.idx.length - k) ⟨0, [], ⟨by omega, .zero⟩, by simp [*]⟩ ?_
  repeat clear h
  have HT := Lib.hid hs
  clear hs
  rintro k ⟨hk, hall⟩
  refine runW_sound ?_
  by_cases hlt : k < e.idx.length
  ·repeat' first | simp (disch := omega) only [go_sem, *, map_get hlt, ixP, wrap_i64] | ((with_reducible refine condT ?_ ?_) <;> intro h <;> try omega)
   all_goals first
    | exact ⟨k + 1, [], ⟨by omega, hall.succ fun _ => by omega⟩, by omega, by simp⟩
    | exact BD ⟨fun h => (by cases h), fun h' => (by have := h'.2.2 _ (List.getElem_mem hlt); omega)⟩
  ·repeat' first | simp (disch := omega) only [go_sem, *] | ((with_reducible refine condT ?_ ?_) <;> intro h <;> try omega)
   refine BD ⟨fun _ => ⟨HT.out.1, HT.out.2, fun x hx => ?_⟩, fun _ => rfl⟩
   obtain ⟨i, hi, rfl⟩ := List.mem_iff_getElem.1 hx
   exact hall i (by omega) hi)
theorem ref14_named_abs (e : Ex) : PCalls Tryz.prog n_ref14_named [aEx e] (Go.Abs.B (decide (namOk e))) := by
 refine PCalls.of is_ref14_named (by simp) fun hb => runW_sound ?_
 have hl := (bnd_args hb).2
 conv in c_ref14_named => cbv
 repeat' first | simp (disch := omega) only [go_sem, *] | ((with_reducible refine condT ?_ ?_) <;> intro h <;> try omega) | (refine w_L (base_Name_abs _) rfl rfl ?_)
 all_goals first
  | (refine BD ?_; clear hb; simp only [Bool.not_eq_true', decI, decN, reduceCtorEq, false_iff, true_iff, not_exists, not_and, Classical.not_not, decide_eq_true_iff, decide_eq_false_iff_not]; first | done | grind [namOk])
  | skip
 all_goals (
  have hs : e.op = 3 → idOk e.name := by grind
  refine AW_loop (fun k : Nat => ⟨[(3, I k), (1, .c (.ptr 0 0))], [(0, bEx e)], 1, 0⟩) (fun k => k ≤ e.idx.length ∧ upTo (fun i => ∀ h : i < e.idx.length, e.idx[i].2.1 ≠ ⟨⟨[]⟩⟩ → idOk e.idx[i].2.1) k) (fun k => e.idx.length - k) ⟨0, [], ⟨by omega, .zero⟩, by simp [*]⟩ ?_
  repeat clear h
  have HT := Lib.hid hs
  clear hs
  rintro k ⟨hk, hall⟩
  refine runW_sound ?_
  by_cases hlt : k < e.idx.length
  ·repeat' first | simp (disch := omega) only [go_sem, *, map_get hlt, ixP, wrap_i64] | ((with_reducible refine condT ?_ ?_) <;> intro h <;> try omega) | (refine w_L (base_Name_abs _) rfl rfl ?_)
   all_goals first
    | exact ⟨k + 1, [], ⟨by omega, hall.succ fun _ => by grind⟩, by omega, by simp⟩
    | exact BD ⟨fun h => (by cases h), fun h' => (by have := h'.2 _ (List.getElem_mem hlt); grind)⟩
  ·repeat' first | simp (disch := omega) only [go_sem, *] | ((with_reducible refine condT ?_ ?_) <;> intro h <;> try omega)
   refine BD ⟨fun _ => ⟨HT.out, fun x hx => ?_⟩, fun _ => rfl⟩
   obtain ⟨i, hi, rfl⟩ := List.mem_iff_getElem.1 hx
   exact hall i (by omega) hi)
theorem ref14_typed_abs (e : Ex) : PCalls Tryz.prog n_ref14_typed [aEx e] (Go.Abs.B (decide (typdOk e))) := by
 refine PCalls.of is_ref14_typed (by simp) fun hb => runW_sound ?_
 have hl := (bnd_args hb).1
 conv in c_ref14_typed => cbv
 repeat' first | simp (disch := omega) only [go_sem, *] | ((with_reducible refine condT ?_ ?_) <;> intro h <;> try omega) | (refine w_L (base_Type_ty e.ty) rfl rfl ?_)
 all_goals first
  | (refine BD ?_; clear hb; simp only [Bool.not_eq_true', decI, decN, reduceCtorEq, false_iff, true_iff, not_exists, not_and, Classical.not_not, decide_eq_true_iff, decide_eq_false_iff_not]; first | done | grind [typdOk])
  | skip
 all_goals (
  have hty : (e.op = 1 ∨ e.op = 12) → tyOk e.ty := by grind
  refine AW_loop (fun k : Nat => ⟨[(3, I k), (1, .c (.ptr 0 0))], [(0, bEx e)], 1, 0⟩) (fun k => k ≤ e.args.length ∧ upTo (fun i => ∀ h : i < e.args.length, isCond e.args[i].op ↔ wantsC e.op i) k) (fun k => e.args.length - k) ⟨0, [], ⟨by omega, .zero⟩, by simp [*]⟩ ?_
  repeat clear h
  have HT := Lib.hid hty
  clear hty
  rintro k ⟨hk, hall⟩
  refine runW_sound ?_
  by_cases hlt : k < e.args.length
  ·repeat' first | simp (disch := omega) only [go_sem, *, map_get hlt, Ex.row_eq, wrap_i64, eqb_T] | ((with_reducible refine condT ?_ ?_) <;> intro h <;> try omega) | (refine w_L (ref14_IsCondition_abs e.args[k]) rfl rfl ?_) | (refine w_L (ref14_wants_abs e.op k) rfl rfl ?_)
   ·exact ⟨k + 1, [], ⟨by omega, hall.succ fun _ => by simpa using h⟩, by omega, by simp⟩
   ·refine BD ⟨fun h => (by cases h), fun h' => ?_⟩
    have := h'.2 k hlt
    simp [this] at h
  ·repeat' first | simp (disch := omega) only [go_sem, *] | ((with_reducible refine condT ?_ ?_) <;> intro h <;> try omega)
   exact BD ⟨fun _ => ⟨HT.out, fun i hi => hall i (by omega) hi⟩, fun _ => rfl⟩)
end Go.Proofs.YtbblkakcadonjaaGreatDoor
