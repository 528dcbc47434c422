/- Walks: the iterators of package expr. -/
import Derived.Test.YtbblkakcadonjaaGreatDoorLift
import Derived.Test.YtbblkakcadonjaaGreatDoorV14b
set_option linter.unusedVariables false
set_option linter.unusedSimpArgs false
set_option maxRecDepth 20000
set_option maxHeartbeats 4000000
set_option maxRecDepth 1000000
namespace Go.Proofs.YtbblkakcadonjaaGreatDoor
open Go.Abs Go.RowKit

abbrev cEx (e : Ex) : AV := .c (.cptr [pI e.op, pS e.name, pI e.val.1, pI e.val.2, pI e.ty.1, pI e.ty.2.1, pI e.ty.2.2.1, pI e.ty.2.2.2.1, pI e.ty.2.2.2.2, pI e.lin.1, pMonos e.lin.2, pSl ixP e.idx, .slice (e.args.map Ex.row)])
def Went (k n : Nat) (res : AV) (k' : Option Nat) : Prop := (res = Go.Abs.B true ∧ k' = some (k + n)) ∨ (res = Go.Abs.B false ∧ k' = none)
def At (xs : List (List AV)) (k : Nat) (l : List Ex) : Prop := ∀ (i : Nat) a, l[i]? = some a → xs[k + i]? = some [aEx a]
theorem At_arg {xs : List (List AV)} {k : Nat} {e : Ex} (h : At xs k e.pre) {i : Nat} (hi : i < e.args.length) : At xs (k + 1 + Ex.szs (e.args.take i)) e.args[i].pre := by
 intro j a hj
 have e1 : Ex.pres e.args = Ex.pres (e.args.take i) ++ (e.args[i].pre ++ Ex.pres (e.args.drop (i + 1))) := by
  have e2 : e.args = e.args.take i ++ (e.args[i] :: e.args.drop (i + 1)) := by rw [← List.drop_eq_getElem_cons hi, List.take_append_drop]
  have e3 : Ex.pres (e.args.take i ++ (e.args[i] :: e.args.drop (i + 1))) = Ex.pres (e.args.take i) ++ (e.args[i].pre ++ Ex.pres (e.args.drop (i + 1))) := by rw [Ex.pres_append, Ex.pres]
  rw [← e2] at e3
  exact e3
 have hl : (Ex.pres (e.args.take i)).length = Ex.szs (e.args.take i) := Ex.pres_length fun a _ => Ex.pre_length a
 have := h (1 + Ex.szs (e.args.take i) + j) a (by
  rw [Ex.pre_eq, show 1 + Ex.szs (e.args.take i) + j = (Ex.szs (e.args.take i) + j) + 1 by omega, List.getElem?_cons_succ, e1, List.getElem?_append_right (by omega), hl, Nat.add_sub_cancel_left, List.getElem?_append_left (List.getElem?_eq_some_iff.1 hj).1]
  exact hj)
 rw [← this]
 congr 1
 omega
theorem yspec_lt {P : Program} {l : Nat} {w : World} {xs : List (List AV)} {J : Option Nat → (Nat → Prop) → World → Prop} (h : YSpec P l w xs J) : ∀ k S W, J k S W → (∀ b, S b → b < W.heap.size) ∧ Glob W := fun k S W hj => ⟨(h.old k S W hj).1, (h.old k S W hj).2.2⟩
theorem yspec_grow {P : Program} {l : Nat} {w : World} {xs : List (List AV)} {J : Option Nat → (Nat → Prop) → World → Prop} (h : YSpec P l w xs J) : ∀ k S W W', J k S W → Below W.heap.size W W' → J k (fun b => S b ∨ W.heap.size ≤ b ∧ b < W'.heap.size) W' := fun k S W W' hj hb => h.grow k S W W' hj (.of_below hb)
theorem expr_walk_iy {l : Nat} {w : World} {xs : List (List AV)} {J : Option Nat → (Nat → Prop) → World → Prop} (hY : YSpec Tryz.prog l w xs J) (e : Ex) : ∀ k : Nat, At xs k e.pre → IYCalls Tryz.prog J n_expr_walk [aEx e, yv l] (some k) (Went k e.sz) := by
 refine Ex.ind (p := fun e => ∀ k : Nat, At xs k e.pre → IYCalls Tryz.prog J n_expr_walk [aEx e, yv l] (some k) (Went k e.sz)) (fun e ih k hx => ?_) e
 have hlt := yspec_lt hY
 have hgr := yspec_grow hY
 refine IYCalls.of hlt is_expr_walk (by simp) fun hb => ?_
 have hl := (bnd_args hb).1
 conv in c_expr_walk => cbv
 refine AY_seq (AY_region hlt hgr ?_)
 simp (disch := omega) only [go_sem]
 refine ⟨[(1, yv l), (2, cEx e)], (by simp [wkY, wkF, renV, renA, renC, rn, yv, purV, purVs, purA, purC, purPs, purP, purQ, look_cons, findB, clV, clA, clAs]), ?_⟩
 have h0 : xs[k]? = some [aEx e] := hx 0 e (by rw [Ex.pre_eq]; rfl)
 refine AY_seq (AY_seq (AY_op 2 rfl hlt hgr ?_))
 simp only [List.take, List.drop]
 simp (disch := omega) only [go_sem]
 refine ⟨[(8, aEx e), (7, yv l), (1, yv l), (2, cEx e)], (by simp [wkY, wkF, renV, renA, renC, rn, yv, purV, purVs, purA, purC, purPs, purP, purQ, look_cons, findB, clV, clA, clAs]), _, stepY_yield hY h0, ?_⟩
 rintro res k' ⟨b, rfl, rfl⟩
 simp (disch := omega) only [go_sem]
 refine ⟨[(10, Go.Abs.B !b), (1, yv l), (2, cEx e)], (by simp [wkY, wkF, renV, renA, renC, rn, yv, purV, purVs, purA, purC, purPs, purP, purQ, look_cons, findB, clV, clA, clAs]), ?_⟩
 refine AY_cond (t := !b) rfl (fun hb0 => ?_) (fun hb0 => ?_) hlt
 ·obtain rfl : b = false := by simpa using hb0
  refine AY_seq (AY_region hlt hgr ?_)
  simp (disch := omega) only [go_sem]
  refine ⟨[(4, Go.Abs.B false)], (by simp [wkY, wkF, renV, renA, renC, rn, yv, purV, purVs, purA, purC, purPs, purP, purQ, look_cons, findB, clV, clA, clAs]), AY_ret ?_⟩
  show resW _ _ _ _
  simp (disch := omega) only [go_sem]
  exact .inr ⟨rfl, rfl⟩
 ·obtain rfl : b = true := by simpa using hb0
  refine AY_skip ?_
  simp only [↓reduceIte]
  refine AY_seq (AY_seq (AY_region hlt hgr ?_))
  simp (disch := omega) only [go_sem]
  refine ⟨[(14, I 0), (13, I e.args.length), (12, .c (.pure (.slice (e.args.map Ex.row)))), (1, yv l)], (by simp [wkY, wkF, renV, renA, renC, rn, yv, purV, purVs, purA, purC, purPs, purP, purQ, look_cons, findB, clV, clA, clAs]), ?_⟩
  refine AY_block (AY_loop (fun i : Nat => (some (k + 1 + Ex.szs (e.args.take i)), [(14, I i), (13, I e.args.length), (12, .c (.pure (.slice (e.args.map Ex.row)))), (1, yv l)])) (fun i => i ≤ e.args.length) (fun i => e.args.length - i) ⟨0, by omega, by simp [Ex.szs], (by simp [wkY, wkF, renV, renA, renC, rn, yv, purV, purVs, purA, purC, purPs, purP, purQ, look_cons, findB, clV, clA, clAs])⟩ ?_)
  intro i hi
  refine AY_seq (AY_region hlt hgr ?_)
  simp (disch := omega) only [go_sem]
  refine ⟨[(15, Go.Abs.B (decide ((i : Int) < e.args.length))), (14, I i), (13, I e.args.length), (12, .c (.pure (.slice (e.args.map Ex.row)))), (1, yv l)], (by simp [wkY, wkF, renV, renA, renC, rn, yv, purV, purVs, purA, purC, purPs, purP, purQ, look_cons, findB, clV, clA, clAs]), ?_⟩
  refine AY_seq (AY_cond rfl (fun hi1 => ?_) (fun hi1 => ?_) hlt)
  ·have hlt1 : i < e.args.length := by simpa using hi1
   refine AY_skip (AY_seq (AY_block (AY_seq (AY_region hlt hgr ?_))))
   simp (disch := omega) only [go_sem, map_get hlt1, Ex.row_eq]
   refine ⟨[(6, cEx e.args[i]), (14, I i), (13, I e.args.length), (12, .c (.pure (.slice (e.args.map Ex.row)))), (1, yv l)], (by simp [wkY, wkF, renV, renA, renC, rn, yv, purV, purVs, purA, purC, purPs, purP, purQ, look_cons, findB, clV, clA, clAs]), ?_⟩
   refine AY_seq (AY_op 2 rfl hlt hgr ?_)
   simp only [List.take, List.drop]
   simp (disch := omega) only [go_sem]
   refine ⟨[(18, aEx e.args[i]), (19, yv l), (14, I i), (13, I e.args.length), (12, .c (.pure (.slice (e.args.map Ex.row)))), (1, yv l)], (by simp [wkY, wkF, renV, renA, renC, rn, yv, purV, purVs, purA, purC, purPs, purP, purQ, look_cons, findB, clV, clA, clAs]), _, stepY_call (ih _ (List.getElem_mem hlt1) _ (At_arg hx hlt1)), ?_⟩
   rintro res k' (⟨rfl, rfl⟩ | ⟨rfl, rfl⟩)
   ·simp (disch := omega) only [go_sem]
    refine ⟨[(21, Go.Abs.B false), (14, I i), (13, I e.args.length), (12, .c (.pure (.slice (e.args.map Ex.row)))), (1, yv l)], (by simp [wkY, wkF, renV, renA, renC, rn, yv, purV, purVs, purA, purC, purPs, purP, purQ, look_cons, findB, clV, clA, clAs]), ?_⟩
    refine AY_cond (t := false) rfl (fun h => (by cases h)) (fun _ => AY_skip ?_) hlt
    refine AY_region hlt hgr ?_
    simp (disch := omega) only [go_sem, wrap_i64]
    refine ⟨[(14, I ((i : Int) + 1)), (13, I e.args.length), (12, .c (.pure (.slice (e.args.map Ex.row)))), (1, yv l)], (by simp [wkY, wkF, renV, renA, renC, rn, yv, purV, purVs, purA, purC, purPs, purP, purQ, look_cons, findB, clV, clA, clAs]), i + 1, hlt1, by show _ - _ < _ - _; omega, ?_, (by simp [wkY, wkF, renV, renA, renC, rn, yv, purV, purVs, purA, purC, purPs, purP, purQ, look_cons, findB, clV, clA, clAs])⟩
    show some _ = some _
    rw [Ex.szs_take hlt1]
    congr 1
    omega
   ·simp (disch := omega) only [go_sem]
    refine ⟨[(21, Go.Abs.B true)], (by simp [wkY, wkF, renV, renA, renC, rn, yv, purV, purVs, purA, purC, purPs, purP, purQ, look_cons, findB, clV, clA, clAs]), ?_⟩
    refine AY_cond (t := true) rfl (fun _ => AY_seq (AY_region hlt hgr ?_)) (fun h => (by cases h)) hlt
    simp (disch := omega) only [go_sem]
    refine ⟨[(4, Go.Abs.B false)], (by simp [wkY, wkF, renV, renA, renC, rn, yv, purV, purVs, purA, purC, purPs, purP, purQ, look_cons, findB, clV, clA, clAs]), AY_ret ?_⟩
    show resW _ _ _ _
    simp (disch := omega) only [go_sem]
    exact .inr ⟨rfl, rfl⟩
  ·have hn : ¬ i < e.args.length := by simpa using hi1
   refine AY_exit ?_
   show thenY _ _ _ _ _ _ _ _
   refine AY_seq (AY_region hlt hgr ?_)
   simp (disch := omega) only [go_sem]
   refine ⟨[(4, Go.Abs.B true)], (by simp [wkY, wkF, renV, renA, renC, rn, yv, purV, purVs, purA, purC, purPs, purP, purQ, look_cons, findB, clV, clA, clAs]), AY_ret ?_⟩
   show resW _ _ _ _
   simp (disch := omega) only [go_sem]
   refine .inl ⟨rfl, ?_⟩
   rw [List.take_of_length_le (by omega), Ex.sz_eq e]
   congr 1
   omega
theorem at_pre (e : Ex) : At (e.pre.map fun a => [aEx a]) 0 e.pre := fun i a h => by rw [Nat.zero_add, List.getElem?_map, h]; rfl
theorem expr_Walk_1_y (e : Ex) : YCalls Tryz.prog n_expr_Walk_1 [cEx e] (e.pre.map fun a => [aEx a]) := by
 refine YCalls.of ⟨_, Tryz.func162, rfl, by kernel_rfl⟩ fun l w J hY => ?_
 have hlt := yspec_lt hY
 have hgr := yspec_grow hY
 refine IYCalls.of hlt is_expr_Walk_1 (by simp) fun hb => ?_
 conv in c_expr_Walk_1 => cbv
 refine AY_op 2 rfl hlt hgr ?_
 simp only [List.take, List.drop]
 simp (disch := omega) only [go_sem]
 refine ⟨[(3, aEx e), (4, yv l)], (by simp [wkY, wkF, renV, renA, renC, rn, yv, purV, purVs, purA, purC, purPs, purP, purQ, look_cons, findB, clV, clA, clAs]), _, stepY_call (expr_walk_iy hY e 0 (at_pre e)), ?_⟩
 rintro res k' hk
 refine ⟨[], (by simp [wkY, wkF, renV, renA, renC, rn, yv, purV, purVs, purA, purC, purPs, purP, purQ, look_cons, findB, clV, clA, clAs]), ?_⟩
 show _ ∨ _
 rcases hk with ⟨_, rfl⟩ | ⟨_, rfl⟩
 ·left
  rw [Ex.pre_length, Nat.zero_add]
 ·exact .inr rfl
def AtL (xs : List (List AV)) (k : Nat) (l : List Lin) : Prop := ∀ (i : Nat) a, l[i]? = some a → xs[k + i]? = some [aLin a.1 a.2]
theorem expr_Walk_abs (e : Ex) : PCalls Tryz.prog n_expr_Walk [aEx e] (.c (.clo n_expr_Walk_1 [.cptr [pI e.op, pS e.name, pI e.val.1, pI e.val.2, pI e.ty.1, pI e.ty.2.1, pI e.ty.2.2.1, pI e.ty.2.2.2.1, pI e.ty.2.2.2.2, pI e.lin.1, pMonos e.lin.2, pSl ixP e.idx, .slice (e.args.map Ex.row)]])) := by
 refine PCalls.of is_expr_Walk (by simp) fun hb => runW_sound ?_
 conv in c_expr_Walk => cbv
 repeat' first | simp (disch := omega) only [go_sem, *] | ((with_reducible refine condT ?_ ?_) <;> intro h <;> try omega)
theorem expr_forms_abs (e : Ex) : PCalls Tryz.prog n_expr_forms [aEx e] (.c (.clo n_expr_forms_1 [.cptr [pI e.op, pS e.name, pI e.val.1, pI e.val.2, pI e.ty.1, pI e.ty.2.1, pI e.ty.2.2.1, pI e.ty.2.2.2.1, pI e.ty.2.2.2.2, pI e.lin.1, pMonos e.lin.2, pSl ixP e.idx, .slice (e.args.map Ex.row)]])) := by
 refine PCalls.of is_expr_forms (by simp) fun hb => runW_sound ?_
 conv in c_expr_forms => cbv
 repeat' first | simp (disch := omega) only [go_sem, *] | ((with_reducible refine condT ?_ ?_) <;> intro h <;> try omega)
theorem AtL.app {xs : List (List AV)} {k : Nat} {l r : List Lin} (h : AtL xs k (l ++ r)) : AtL xs (k + l.length) r := fun i a hi => by
 have := h (l.length + i) a (by rw [List.getElem?_append_right (by omega), Nat.add_sub_cancel_left]; exact hi)
 rw [← this, Nat.add_assoc]
def ixLs (x : Ix) : List Lin := x.1 :: x.2.2
theorem forms_split {e : Ex} {i : Nat} (hi : i < e.idx.length) : e.forms = (e.lin :: (e.idx.take i).flatMap ixLs) ++ (ixLs e.idx[i] ++ (e.idx.drop (i + 1)).flatMap ixLs) := by
 have e1 : (e.idx.take i ++ e.idx[i] :: e.idx.drop (i + 1)).flatMap ixLs = (e.idx.take i).flatMap ixLs ++ (ixLs e.idx[i] ++ (e.idx.drop (i + 1)).flatMap ixLs) := by
  rw [List.flatMap_append, List.flatMap_cons]
 rw [← List.drop_eq_getElem_cons hi, List.take_append_drop] at e1
 show e.lin :: e.idx.flatMap ixLs = _
 rw [e1]
 rfl
def cntF (e : Ex) (i : Nat) : Nat := (e.lin :: (e.idx.take i).flatMap ixLs).length
theorem cntF_zero (e : Ex) : cntF e 0 = 1 := by simp [cntF]
theorem cntF_succ {e : Ex} {i : Nat} (hi : i < e.idx.length) : cntF e (i + 1) = cntF e i + 1 + e.idx[i].2.2.length := by
 unfold cntF
 rw [List.take_succ_eq_append_getElem hi, List.flatMap_append]
 simp [ixLs]
 omega
theorem cntF_full {e : Ex} : cntF e e.idx.length = e.forms.length := by
 unfold cntF
 rw [List.take_of_length_le (Nat.le_refl _)]
 rfl
theorem cntF_at {e : Ex} {xs : List (List AV)} (hx : AtL xs 0 e.forms) {i : Nat} (hi : i < e.idx.length) : AtL xs (cntF e i) (ixLs e.idx[i] ++ (e.idx.drop (i + 1)).flatMap ixLs) := by
 have := (show AtL xs 0 ((e.lin :: (e.idx.take i).flatMap ixLs) ++ (ixLs e.idx[i] ++ (e.idx.drop (i + 1)).flatMap ixLs)) by rw [← forms_split hi]; exact hx).app
 rw [Nat.zero_add] at this
 exact this
theorem expr_forms_1_y (e : Ex) (h6 : ∀ x ∈ e.idx, x.2.2.length ≤ 6) (hl : e.idx.length ≤ 6) : YCalls Tryz.prog n_expr_forms_1 [cEx e] (e.forms.map fun a => [aLin a.1 a.2]) := by
 refine YCalls.of ⟨_, Tryz.func199, rfl, by kernel_rfl⟩ fun l w J hY => ?_
 have hlt := yspec_lt hY
 have hgr := yspec_grow hY
 have hx : AtL (e.forms.map fun a => [aLin a.1 a.2]) 0 e.forms := fun i a h => by rw [Nat.zero_add, List.getElem?_map, h]; rfl
 have hlen : (e.forms.map fun a : Lin => [aLin a.1 a.2]).length = e.forms.length := by simp
 generalize (e.forms.map fun a : Lin => [aLin a.1 a.2]) = xs at *
 have h0 : xs[0]? = some [aLin e.lin.1 e.lin.2] := hx 0 e.lin rfl
 refine IYCalls.of hlt is_expr_forms_1 (by simp) fun hb => ?_
 conv in c_expr_forms_1 => cbv
 refine AY_seq (AY_seq (AY_op 3 rfl hlt hgr ?_))
 simp only [List.take, List.drop]
 simp (disch := omega) only [go_sem]
 refine ⟨[(9, aLin e.lin.1 e.lin.2), (7, yv l), (0, yv l), (1, cEx e)], (by simp [wkY, wkF, renV, renA, renC, rn, yv, purV, purVs, purA, purC, purPs, purP, purQ, look_cons, findB, clV, clA, clAs]), _, stepY_yield hY h0, ?_⟩
 rintro res k' ⟨b, rfl, rfl⟩
 simp (disch := omega) only [go_sem]
 refine ⟨[(11, Go.Abs.B !b), (0, yv l), (1, cEx e)], (by simp [wkY, wkF, renV, renA, renC, rn, yv, purV, purVs, purA, purC, purPs, purP, purQ, look_cons, findB, clV, clA, clAs]), ?_⟩
 refine AY_cond (t := !b) rfl (fun hb0 => ?_) (fun hb0 => ?_) hlt
 ·obtain rfl : b = false := by simpa using hb0
  exact AY_ret (.inr rfl)
 ·obtain rfl : b = true := by simpa using hb0
  refine AY_skip ?_
  simp only [↓reduceIte]
  refine AY_seq (AY_region hlt hgr ?_)
  simp (disch := omega) only [go_sem]
  refine ⟨[(15, I 0), (14, I e.idx.length), (13, .c (.pure (pSl ixP e.idx))), (0, yv l)], (by simp [wkY, wkF, renV, renA, renC, rn, yv, purV, purVs, purA, purC, purPs, purP, purQ, look_cons, findB, clV, clA, clAs]), ?_⟩
  refine AY_block (AY_loop (fun i : Nat => (some (cntF e i), [(15, I i), (14, I e.idx.length), (13, .c (.pure (pSl ixP e.idx))), (0, yv l)])) (fun i => i ≤ e.idx.length) (fun i => e.idx.length - i) ⟨0, by omega, by simp [cntF_zero], (by simp [wkY, wkF, renV, renA, renC, rn, yv, purV, purVs, purA, purC, purPs, purP, purQ, look_cons, findB, clV, clA, clAs])⟩ ?_)
  intro i hi
  refine AY_seq (AY_region hlt hgr ?_)
  simp (disch := omega) only [go_sem]
  refine ⟨[(16, Go.Abs.B (decide ((i : Int) < e.idx.length))), (15, I i), (14, I e.idx.length), (13, .c (.pure (pSl ixP e.idx))), (0, yv l)], (by simp [wkY, wkF, renV, renA, renC, rn, yv, purV, purVs, purA, purC, purPs, purP, purQ, look_cons, findB, clV, clA, clAs]), ?_⟩
  refine AY_seq (AY_cond rfl (fun hi1 => ?_) (fun hi1 => ?_) hlt)
  ·have hlt1 : i < e.idx.length := by simpa using hi1
   have hx1 := cntF_at hx hlt1
   have hm := cntF_succ hlt1
   have h6' := h6 _ (List.getElem_mem hlt1)
   have hr0 : xs[cntF e i]? = some [aLin e.idx[i].1.1 e.idx[i].1.2] := hx1 0 e.idx[i].1 rfl
   have hrj : ∀ (j : Nat) (hj : j < e.idx[i].2.2.length), xs[cntF e i + 1 + j]? = some [aLin e.idx[i].2.2[j].1 e.idx[i].2.2[j].2] := fun j hj => by
    have := hx1 (j + 1) e.idx[i].2.2[j] (by simp [ixLs, List.getElem?_append, hj])
    rw [← this]; congr 1; omega
   refine AY_skip (AY_seq (AY_block (AY_seq (AY_region hlt hgr ?_))))
   simp (disch := omega) only [go_sem, map_get hlt1, ixP]
   refine ⟨[(4, .c (.cptr [pI e.idx[i].1.1, pMonos e.idx[i].1.2, pS e.idx[i].2.1, pSl linP e.idx[i].2.2])), (15, I i), (14, I e.idx.length), (13, .c (.pure (pSl ixP e.idx))), (0, yv l)], (by simp [wkY, wkF, renV, renA, renC, rn, yv, purV, purVs, purA, purC, purPs, purP, purQ, look_cons, findB, clV, clA, clAs]), ?_⟩
   refine AY_seq (AY_seq (AY_op 3 rfl hlt hgr ?_))
   simp only [List.take, List.drop]
   simp (disch := omega) only [go_sem]
   refine ⟨[(21, aLin e.idx[i].1.1 e.idx[i].1.2), (19, yv l), (4, .c (.cptr [pI e.idx[i].1.1, pMonos e.idx[i].1.2, pS e.idx[i].2.1, pSl linP e.idx[i].2.2])), (15, I i), (14, I e.idx.length), (13, .c (.pure (pSl ixP e.idx))), (0, yv l)], (by simp [wkY, wkF, renV, renA, renC, rn, yv, purV, purVs, purA, purC, purPs, purP, purQ, look_cons, findB, clV, clA, clAs]), _, stepY_yield hY hr0, ?_⟩
   rintro res k' ⟨b, rfl, rfl⟩
   simp (disch := omega) only [go_sem]
   refine ⟨[(23, Go.Abs.B !b), (4, .c (.cptr [pI e.idx[i].1.1, pMonos e.idx[i].1.2, pS e.idx[i].2.1, pSl linP e.idx[i].2.2])), (15, I i), (14, I e.idx.length), (13, .c (.pure (pSl ixP e.idx))), (0, yv l)], (by simp [wkY, wkF, renV, renA, renC, rn, yv, purV, purVs, purA, purC, purPs, purP, purQ, look_cons, findB, clV, clA, clAs]), ?_⟩
   refine AY_cond (t := !b) rfl (fun hb0 => ?_) (fun hb0 => ?_) hlt
   ·obtain rfl : b = false := by simpa using hb0
    exact AY_ret (.inr rfl)
   ·obtain rfl : b = true := by simpa using hb0
    refine AY_skip ?_
    simp only [↓reduceIte]
    refine AY_seq (AY_region hlt hgr ?_)
    simp (disch := omega) only [go_sem]
    refine ⟨[(27, I 0), (26, I e.idx[i].2.2.length), (25, .c (.pure (pSl linP e.idx[i].2.2))), (15, I i), (14, I e.idx.length), (13, .c (.pure (pSl ixP e.idx))), (0, yv l)], (by simp [wkY, wkF, renV, renA, renC, rn, yv, purV, purVs, purA, purC, purPs, purP, purQ, look_cons, findB, clV, clA, clAs]), ?_⟩
    refine AY_block (AY_loop (fun j : Nat => (some (cntF e i + 1 + j), [(27, I j), (26, I e.idx[i].2.2.length), (25, .c (.pure (pSl linP e.idx[i].2.2))), (15, I i), (14, I e.idx.length), (13, .c (.pure (pSl ixP e.idx))), (0, yv l)])) (fun j => j ≤ e.idx[i].2.2.length) (fun j => e.idx[i].2.2.length - j) ⟨0, by omega, by simp, (by simp [wkY, wkF, renV, renA, renC, rn, yv, purV, purVs, purA, purC, purPs, purP, purQ, look_cons, findB, clV, clA, clAs])⟩ ?_)
    intro j hj
    refine AY_seq (AY_region hlt hgr ?_)
    simp (disch := omega) only [go_sem]
    refine ⟨[(28, Go.Abs.B (decide ((j : Int) < e.idx[i].2.2.length))), (27, I j), (26, I e.idx[i].2.2.length), (25, .c (.pure (pSl linP e.idx[i].2.2))), (15, I i), (14, I e.idx.length), (13, .c (.pure (pSl ixP e.idx))), (0, yv l)], (by simp [wkY, wkF, renV, renA, renC, rn, yv, purV, purVs, purA, purC, purPs, purP, purQ, look_cons, findB, clV, clA, clAs]), ?_⟩
    refine AY_seq (AY_cond rfl (fun hj1 => ?_) (fun hj1 => ?_) hlt)
    ·have hltj : j < e.idx[i].2.2.length := by simpa using hj1
     refine AY_skip (AY_seq (AY_block (AY_seq (AY_region hlt hgr ?_))))
     simp (disch := omega) only [go_sem, map_get hltj, linP]
     refine ⟨[(6, .c (.cptr [pI e.idx[i].2.2[j].1, pMonos e.idx[i].2.2[j].2])), (27, I j), (26, I e.idx[i].2.2.length), (25, .c (.pure (pSl linP e.idx[i].2.2))), (15, I i), (14, I e.idx.length), (13, .c (.pure (pSl ixP e.idx))), (0, yv l)], (by simp [wkY, wkF, renV, renA, renC, rn, yv, purV, purVs, purA, purC, purPs, purP, purQ, look_cons, findB, clV, clA, clAs]), ?_⟩
     refine AY_seq (AY_op 2 rfl hlt hgr ?_)
     simp only [List.take, List.drop]
     simp (disch := omega) only [go_sem]
     refine ⟨[(32, aLin e.idx[i].2.2[j].1 e.idx[i].2.2[j].2), (31, yv l), (27, I j), (26, I e.idx[i].2.2.length), (25, .c (.pure (pSl linP e.idx[i].2.2))), (15, I i), (14, I e.idx.length), (13, .c (.pure (pSl ixP e.idx))), (0, yv l)], (by simp [wkY, wkF, renV, renA, renC, rn, yv, purV, purVs, purA, purC, purPs, purP, purQ, look_cons, findB, clV, clA, clAs]), _, stepY_yield hY (hrj j hltj), ?_⟩
     rintro res k' ⟨b, rfl, rfl⟩
     simp (disch := omega) only [go_sem]
     refine ⟨[(34, Go.Abs.B !b), (27, I j), (26, I e.idx[i].2.2.length), (25, .c (.pure (pSl linP e.idx[i].2.2))), (15, I i), (14, I e.idx.length), (13, .c (.pure (pSl ixP e.idx))), (0, yv l)], (by simp [wkY, wkF, renV, renA, renC, rn, yv, purV, purVs, purA, purC, purPs, purP, purQ, look_cons, findB, clV, clA, clAs]), ?_⟩
     refine AY_cond (t := !b) rfl (fun hb0 => ?_) (fun hb0 => ?_) hlt
     ·obtain rfl : b = false := by simpa using hb0
      exact AY_ret (.inr rfl)
     ·obtain rfl : b = true := by simpa using hb0
      refine AY_skip ?_
      simp only [↓reduceIte]
      refine AY_region hlt hgr ?_
      simp (disch := omega) only [go_sem, wrap_i64]
      exact ⟨[(27, I ((j : Int) + 1)), (26, I e.idx[i].2.2.length), (25, .c (.pure (pSl linP e.idx[i].2.2))), (15, I i), (14, I e.idx.length), (13, .c (.pure (pSl ixP e.idx))), (0, yv l)], (by simp [wkY, wkF, renV, renA, renC, rn, yv, purV, purVs, purA, purC, purPs, purP, purQ, look_cons, findB, clV, clA, clAs]), j + 1, hltj, by show _ - _ < _ - _; omega, rfl, (by simp [wkY, wkF, renV, renA, renC, rn, yv, purV, purVs, purA, purC, purPs, purP, purQ, look_cons, findB, clV, clA, clAs])⟩
    ·have hn : j = e.idx[i].2.2.length := by
      have : ¬ j < e.idx[i].2.2.length := by simpa using hj1
      omega
     refine AY_exit ?_
     show AY _ _ _ _ _ _ _
     refine AY_region hlt hgr ?_
     simp (disch := omega) only [go_sem, wrap_i64]
     refine ⟨[(15, I ((i : Int) + 1)), (14, I e.idx.length), (13, .c (.pure (pSl ixP e.idx))), (0, yv l)], (by simp [wkY, wkF, renV, renA, renC, rn, yv, purV, purVs, purA, purC, purPs, purP, purQ, look_cons, findB, clV, clA, clAs]), i + 1, hlt1, by show _ - _ < _ - _; omega, ?_, (by simp [wkY, wkF, renV, renA, renC, rn, yv, purV, purVs, purA, purC, purPs, purP, purQ, look_cons, findB, clV, clA, clAs])⟩
     show some _ = some _
     rw [hm, hn]
  ·have hn : i = e.idx.length := by
    have : ¬ i < e.idx.length := by simpa using hi1
    omega
   refine AY_exit ?_
   show _ ∨ _
   left
   rw [hlen, hn, cntF_full]
end Go.Proofs.YtbblkakcadonjaaGreatDoor
