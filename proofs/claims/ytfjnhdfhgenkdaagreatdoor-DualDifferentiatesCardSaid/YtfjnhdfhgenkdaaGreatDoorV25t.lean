/- Walks: active tensors and losses. -/
import Derived.Test.YtfjnhdfhgenkdaaGreatDoorV25s
set_option linter.unusedVariables false
set_option linter.unusedSimpArgs false
set_option maxRecDepth 20000
namespace Go.Proofs.YtfjnhdfhgenkdaaGreatDoor
open Go.Abs Go.RowKit

set_option maxHeartbeats 2000000 in
theorem dual_loses_abs {p : Prg} (hf : fewP p) (vars act : List ByteArray) (e : Ex) : rnkAll e → (∀ a ∈ e.pre, frIn a.val) → PCalls Tryz.prog n_dual_loses [aPrg p, .c (.pure (pStrs vars)), aEx e, .c (.pure (pStrs act))] (Go.Abs.B (decide (lsE p vars act e))) := by
 refine Ex.ind (p := fun e => rnkAll e → (∀ a ∈ e.pre, frIn a.val) → PCalls Tryz.prog n_dual_loses [aPrg p, .c (.pure (pStrs vars)), aEx e, .c (.pure (pStrs act))] (Go.Abs.B (decide (lsE p vars act e)))) (fun e ih hr0 h64 => ?_) e
 refine PCalls.of is_dual_loses (by simp) fun hb => runW_sound ?_
 have hl := (bnd_args hb.2.2).1
 simp only [c_dual_loses]
 by_cases hA : e.op = 12 ∧ ¬ e.ty.1 = 1
 ·have h0 : 0 < e.args.length := by
   have ha := (rnkAll_self hr0).1
   rw [hA.1] at ha
   have : arity 12 = 1 := by decide
   omega
  have cT := program_TypeOf_abs hf vars (fun b hb => h64 b (pre_sub (List.getElem_mem h0) hb))
  have cR := dual_reads_abs act e.args[0]
  by_cases ht : (typeOf p vars e.args[0]).1.1 = 1
  ·by_cases hr : rdE act e.args[0]
   ·rw [decide_eq_true (ls_iff.2 (.inl ⟨hA.1, hA.2, h0, ht, hr⟩))]
    rw [decide_eq_true hr] at cR
    obtain ⟨ho, hty⟩ := hA
    clear ih hr
    repeat' first | simp (disch := omega) only [go_sem, map_get h0, Ex.row_eq, Int.toNat_zero] | ((with_reducible first | refine condD ?_ ?_ | refine condX ?_ ?_ | refine condW_intro ?_ ?_) <;> intro h <;> first | (exfalso; omega) | simp (disch := omega) only [go_sem, *, map_get h0, Ex.row_eq, Int.toNat_zero] | skip) | (refine callW_of cT rfl (.inl rfl) ?_) | (refine callW_of cR rfl (.inl rfl) ?_)
   ·have hN := fun h => ls_out (p := p) (vars := vars) (act := act) (e := e) (fun hh => by obtain ⟨_, _, _, _, h5⟩ := hh; exact hr h5) h
    rw [decide_eq_false hr] at cR
    obtain ⟨h, hty⟩ := hA
    clear hr
    repeat' first | simp (disch := omega) only [go_sem, map_get h0, Ex.row_eq, Int.toNat_zero] | ((with_reducible first | refine condD ?_ ?_ | refine condX ?_ ?_ | refine condW_intro ?_ ?_) <;> intro h <;> first | (exfalso; omega) | simp (disch := omega) only [go_sem, *, map_get h0, Ex.row_eq, Int.toNat_zero] | skip) | (refine callW_of cT rfl (.inl rfl) ?_) | (refine callW_of cR rfl (.inl rfl) ?_)
    clear cT cR ht hty
    refine AW_loop (fun k : Nat => ⟨[(46, I k), (45, I e.args.length), (44, .c (.pure (.slice (e.args.map Ex.row)))), (6, .c (.ptr 1 0)), (4, .c (.ptr 0 0)), (3, .c (.pure (pStrs act))), (1, .c (.pure (pStrs vars)))], [(1, bEx e), (0, bPrg p)], 2, 0⟩) (fun k => k ≤ e.args.length ∧ upTo (fun i => noLs p vars act e i) k) (fun k => e.args.length - k) ⟨0, [], ⟨by omega, .zero⟩, by simp [Wk, wkF, wkM, wkL, look_cons, renV, renA, renC, renB, rn, clV, clA, clAs, clB, notIn, findB, findB_setB, clA.go] <;> omega⟩ ?_
    repeat clear h
    rintro k ⟨hk, hall⟩
    refine runW_sound ?_
    by_cases hlt : k < e.args.length
    ·have hih := ih _ (List.getElem_mem hlt) (rnkAll_arg hr0 (List.getElem_mem hlt)) (fun b hb => h64 b (pre_sub (List.getElem_mem hlt) hb))
     by_cases hr : lsE p vars act e.args[k]
     ·rw [decide_eq_true hr] at hih
      by_cases hc : ¬ e.op = 11 ∨ 0 < k
      ·rw [decide_eq_true (ls_in hlt hc hr)]
       clear hall ih hr hN
       repeat' first | simp (disch := omega) only [go_sem, map_get hlt, Ex.row_eq, wrap_i64] | ((with_reducible first | refine condD ?_ ?_ | refine condX ?_ ?_ | refine condW_intro ?_ ?_) <;> intro h <;> first | (exfalso; omega) | simp (disch := omega) only [go_sem, *, map_get hlt, Ex.row_eq, wrap_i64] | skip) | (refine callW_of hih rfl (.inl rfl) ?_)
      ·have HA := Lib.hid (hall.succ (show noLs p vars act e k from fun _ h => hc h.1))
       clear hall ih hr hN
       repeat' first | simp (disch := omega) only [go_sem, map_get hlt, Ex.row_eq, wrap_i64] | ((with_reducible first | refine condD ?_ ?_ | refine condX ?_ ?_ | refine condW_intro ?_ ?_) <;> intro h <;> first | (exfalso; omega) | simp (disch := omega) only [go_sem, *, map_get hlt, Ex.row_eq, wrap_i64] | skip) | (refine callW_of hih rfl (.inl rfl) ?_)
       all_goals exact ⟨k + 1, [], ⟨by omega, HA.out⟩, by omega, by simp [Wk, wkF, wkM, wkL, look_cons, renV, renA, renC, renB, rn, clV, clA, clAs, clB, notIn, findB, findB_setB, clA.go] <;> omega⟩
     ·rw [decide_eq_false hr] at hih
      have HA := Lib.hid (hall.succ (show noLs p vars act e k from fun _ h => hr h.2))
      clear hall ih hr hN
      repeat' first | simp (disch := omega) only [go_sem, map_get hlt, Ex.row_eq, wrap_i64] | ((with_reducible first | refine condD ?_ ?_ | refine condX ?_ ?_ | refine condW_intro ?_ ?_) <;> intro h <;> first | (exfalso; omega) | simp (disch := omega) only [go_sem, *, map_get hlt, Ex.row_eq, wrap_i64] | skip) | (refine callW_of hih rfl (.inl rfl) ?_)
      all_goals exact ⟨k + 1, [], ⟨by omega, HA.out⟩, by omega, by simp [Wk, wkF, wkM, wkL, look_cons, renV, renA, renC, renB, rn, clV, clA, clAs, clB, notIn, findB, findB_setB, clA.go] <;> omega⟩
    ·rw [decide_eq_false (hN fun i hi => hall i (by omega))]
     clear hall ih hN
     repeat' first | simp (disch := omega) only [go_sem] | ((with_reducible first | refine condD ?_ ?_ | refine condX ?_ ?_ | refine condW_intro ?_ ?_) <;> intro h <;> first | (exfalso; omega) | simp (disch := omega) only [go_sem, *] | skip)
  ·have hN := fun h => ls_out (p := p) (vars := vars) (act := act) (e := e) (fun hh => by obtain ⟨_, _, _, h4, _⟩ := hh; exact ht h4) h
   obtain ⟨h, hty⟩ := hA
   repeat' first | simp (disch := omega) only [go_sem, map_get h0, Ex.row_eq, Int.toNat_zero] | ((with_reducible first | refine condD ?_ ?_ | refine condX ?_ ?_ | refine condW_intro ?_ ?_) <;> intro h <;> first | (exfalso; omega) | simp (disch := omega) only [go_sem, *, map_get h0, Ex.row_eq, Int.toNat_zero] | skip) | (refine callW_of cT rfl (.inl rfl) ?_) | (refine callW_of cR rfl (.inl rfl) ?_)
   clear cT cR ht hty
   refine AW_loop (fun k : Nat => ⟨[(46, I k), (45, I e.args.length), (44, .c (.pure (.slice (e.args.map Ex.row)))), (6, .c (.ptr 1 0)), (4, .c (.ptr 0 0)), (3, .c (.pure (pStrs act))), (1, .c (.pure (pStrs vars)))], [(1, bEx e), (0, bPrg p)], 2, 0⟩) (fun k => k ≤ e.args.length ∧ upTo (fun i => noLs p vars act e i) k) (fun k => e.args.length - k) ⟨0, [], ⟨by omega, .zero⟩, by simp [Wk, wkF, wkM, wkL, look_cons, renV, renA, renC, renB, rn, clV, clA, clAs, clB, notIn, findB, findB_setB, clA.go] <;> omega⟩ ?_
   repeat clear h
   rintro k ⟨hk, hall⟩
   refine runW_sound ?_
   by_cases hlt : k < e.args.length
   ·have hih := ih _ (List.getElem_mem hlt) (rnkAll_arg hr0 (List.getElem_mem hlt)) (fun b hb => h64 b (pre_sub (List.getElem_mem hlt) hb))
    by_cases hr : lsE p vars act e.args[k]
    ·rw [decide_eq_true hr] at hih
     by_cases hc : ¬ e.op = 11 ∨ 0 < k
     ·rw [decide_eq_true (ls_in hlt hc hr)]
      clear hall ih hr hN
      repeat' first | simp (disch := omega) only [go_sem, map_get hlt, Ex.row_eq, wrap_i64] | ((with_reducible first | refine condD ?_ ?_ | refine condX ?_ ?_ | refine condW_intro ?_ ?_) <;> intro h <;> first | (exfalso; omega) | simp (disch := omega) only [go_sem, *, map_get hlt, Ex.row_eq, wrap_i64] | skip) | (refine callW_of hih rfl (.inl rfl) ?_)
     ·have HA := Lib.hid (hall.succ (show noLs p vars act e k from fun _ h => hc h.1))
      clear hall ih hr hN
      repeat' first | simp (disch := omega) only [go_sem, map_get hlt, Ex.row_eq, wrap_i64] | ((with_reducible first | refine condD ?_ ?_ | refine condX ?_ ?_ | refine condW_intro ?_ ?_) <;> intro h <;> first | (exfalso; omega) | simp (disch := omega) only [go_sem, *, map_get hlt, Ex.row_eq, wrap_i64] | skip) | (refine callW_of hih rfl (.inl rfl) ?_)
      all_goals exact ⟨k + 1, [], ⟨by omega, HA.out⟩, by omega, by simp [Wk, wkF, wkM, wkL, look_cons, renV, renA, renC, renB, rn, clV, clA, clAs, clB, notIn, findB, findB_setB, clA.go] <;> omega⟩
    ·rw [decide_eq_false hr] at hih
     have HA := Lib.hid (hall.succ (show noLs p vars act e k from fun _ h => hr h.2))
     clear hall ih hr hN
     repeat' first | simp (disch := omega) only [go_sem, map_get hlt, Ex.row_eq, wrap_i64] | ((with_reducible first | refine condD ?_ ?_ | refine condX ?_ ?_ | refine condW_intro ?_ ?_) <;> intro h <;> first | (exfalso; omega) | simp (disch := omega) only [go_sem, *, map_get hlt, Ex.row_eq, wrap_i64] | skip) | (refine callW_of hih rfl (.inl rfl) ?_)
     all_goals exact ⟨k + 1, [], ⟨by omega, HA.out⟩, by omega, by simp [Wk, wkF, wkM, wkL, look_cons, renV, renA, renC, renB, rn, clV, clA, clAs, clB, notIn, findB, findB_setB, clA.go] <;> omega⟩
   ·rw [decide_eq_false (hN fun i hi => hall i (by omega))]
    clear hall ih hN
    repeat' first | simp (disch := omega) only [go_sem] | ((with_reducible first | refine condD ?_ ?_ | refine condX ?_ ?_ | refine condW_intro ?_ ?_) <;> intro h <;> first | (exfalso; omega) | simp (disch := omega) only [go_sem, *] | skip)
 ·have hN := fun h => ls_out (p := p) (vars := vars) (act := act) (e := e) (fun hh => hA ⟨hh.1, hh.2.1⟩) h
  by_cases h : e.op = 12
  ·have hty : e.ty.1 = 1 := Classical.not_not.1 fun hn => hA ⟨h, hn⟩
   clear hA
   repeat' first | simp (disch := omega) only [go_sem] | ((with_reducible first | refine condD ?_ ?_ | refine condX ?_ ?_ | refine condW_intro ?_ ?_) <;> intro h <;> first | (exfalso; omega) | simp (disch := omega) only [go_sem, *] | skip)
   refine AW_loop (fun k : Nat => ⟨[(46, I k), (45, I e.args.length), (44, .c (.pure (.slice (e.args.map Ex.row)))), (6, .c (.ptr 1 0)), (4, .c (.ptr 0 0)), (3, .c (.pure (pStrs act))), (1, .c (.pure (pStrs vars)))], [(1, bEx e), (0, bPrg p)], 2, 0⟩) (fun k => k ≤ e.args.length ∧ upTo (fun i => noLs p vars act e i) k) (fun k => e.args.length - k) ⟨0, [], ⟨by omega, .zero⟩, by simp [Wk, wkF, wkM, wkL, look_cons, renV, renA, renC, renB, rn, clV, clA, clAs, clB, notIn, findB, findB_setB, clA.go] <;> omega⟩ ?_
   repeat clear h
   clear hty
   rintro k ⟨hk, hall⟩
   refine runW_sound ?_
   by_cases hlt : k < e.args.length
   ·have hih := ih _ (List.getElem_mem hlt) (rnkAll_arg hr0 (List.getElem_mem hlt)) (fun b hb => h64 b (pre_sub (List.getElem_mem hlt) hb))
    by_cases hr : lsE p vars act e.args[k]
    ·rw [decide_eq_true hr] at hih
     by_cases hc : ¬ e.op = 11 ∨ 0 < k
     ·rw [decide_eq_true (ls_in hlt hc hr)]
      clear hall ih hr hN
      repeat' first | simp (disch := omega) only [go_sem, map_get hlt, Ex.row_eq, wrap_i64] | ((with_reducible first | refine condD ?_ ?_ | refine condX ?_ ?_ | refine condW_intro ?_ ?_) <;> intro h <;> first | (exfalso; omega) | simp (disch := omega) only [go_sem, *, map_get hlt, Ex.row_eq, wrap_i64] | skip) | (refine callW_of hih rfl (.inl rfl) ?_)
     ·have HA := Lib.hid (hall.succ (show noLs p vars act e k from fun _ h => hc h.1))
      clear hall ih hr hN
      repeat' first | simp (disch := omega) only [go_sem, map_get hlt, Ex.row_eq, wrap_i64] | ((with_reducible first | refine condD ?_ ?_ | refine condX ?_ ?_ | refine condW_intro ?_ ?_) <;> intro h <;> first | (exfalso; omega) | simp (disch := omega) only [go_sem, *, map_get hlt, Ex.row_eq, wrap_i64] | skip) | (refine callW_of hih rfl (.inl rfl) ?_)
      all_goals exact ⟨k + 1, [], ⟨by omega, HA.out⟩, by omega, by simp [Wk, wkF, wkM, wkL, look_cons, renV, renA, renC, renB, rn, clV, clA, clAs, clB, notIn, findB, findB_setB, clA.go] <;> omega⟩
    ·rw [decide_eq_false hr] at hih
     have HA := Lib.hid (hall.succ (show noLs p vars act e k from fun _ h => hr h.2))
     clear hall ih hr hN
     repeat' first | simp (disch := omega) only [go_sem, map_get hlt, Ex.row_eq, wrap_i64] | ((with_reducible first | refine condD ?_ ?_ | refine condX ?_ ?_ | refine condW_intro ?_ ?_) <;> intro h <;> first | (exfalso; omega) | simp (disch := omega) only [go_sem, *, map_get hlt, Ex.row_eq, wrap_i64] | skip) | (refine callW_of hih rfl (.inl rfl) ?_)
     all_goals exact ⟨k + 1, [], ⟨by omega, HA.out⟩, by omega, by simp [Wk, wkF, wkM, wkL, look_cons, renV, renA, renC, renB, rn, clV, clA, clAs, clB, notIn, findB, findB_setB, clA.go] <;> omega⟩
   ·rw [decide_eq_false (hN fun i hi => hall i (by omega))]
    clear hall ih hN
    repeat' first | simp (disch := omega) only [go_sem] | ((with_reducible first | refine condD ?_ ?_ | refine condX ?_ ?_ | refine condW_intro ?_ ?_) <;> intro h <;> first | (exfalso; omega) | simp (disch := omega) only [go_sem, *] | skip)
  ·clear hA
   repeat' first | simp (disch := omega) only [go_sem] | ((with_reducible first | refine condD ?_ ?_ | refine condX ?_ ?_ | refine condW_intro ?_ ?_) <;> intro h <;> first | (exfalso; omega) | simp (disch := omega) only [go_sem, *] | skip)
   refine AW_loop (fun k : Nat => ⟨[(46, I k), (45, I e.args.length), (44, .c (.pure (.slice (e.args.map Ex.row)))), (6, .c (.ptr 1 0)), (4, .c (.ptr 0 0)), (3, .c (.pure (pStrs act))), (1, .c (.pure (pStrs vars)))], [(1, bEx e), (0, bPrg p)], 2, 0⟩) (fun k => k ≤ e.args.length ∧ upTo (fun i => noLs p vars act e i) k) (fun k => e.args.length - k) ⟨0, [], ⟨by omega, .zero⟩, by simp [Wk, wkF, wkM, wkL, look_cons, renV, renA, renC, renB, rn, clV, clA, clAs, clB, notIn, findB, findB_setB, clA.go] <;> omega⟩ ?_
   repeat clear h
   rintro k ⟨hk, hall⟩
   refine runW_sound ?_
   by_cases hlt : k < e.args.length
   ·have hih := ih _ (List.getElem_mem hlt) (rnkAll_arg hr0 (List.getElem_mem hlt)) (fun b hb => h64 b (pre_sub (List.getElem_mem hlt) hb))
    by_cases hr : lsE p vars act e.args[k]
    ·rw [decide_eq_true hr] at hih
     by_cases hc : ¬ e.op = 11 ∨ 0 < k
     ·rw [decide_eq_true (ls_in hlt hc hr)]
      clear hall ih hr hN
      repeat' first | simp (disch := omega) only [go_sem, map_get hlt, Ex.row_eq, wrap_i64] | ((with_reducible first | refine condD ?_ ?_ | refine condX ?_ ?_ | refine condW_intro ?_ ?_) <;> intro h <;> first | (exfalso; omega) | simp (disch := omega) only [go_sem, *, map_get hlt, Ex.row_eq, wrap_i64] | skip) | (refine callW_of hih rfl (.inl rfl) ?_)
     ·have HA := Lib.hid (hall.succ (show noLs p vars act e k from fun _ h => hc h.1))
      clear hall ih hr hN
      repeat' first | simp (disch := omega) only [go_sem, map_get hlt, Ex.row_eq, wrap_i64] | ((with_reducible first | refine condD ?_ ?_ | refine condX ?_ ?_ | refine condW_intro ?_ ?_) <;> intro h <;> first | (exfalso; omega) | simp (disch := omega) only [go_sem, *, map_get hlt, Ex.row_eq, wrap_i64] | skip) | (refine callW_of hih rfl (.inl rfl) ?_)
      all_goals exact ⟨k + 1, [], ⟨by omega, HA.out⟩, by omega, by simp [Wk, wkF, wkM, wkL, look_cons, renV, renA, renC, renB, rn, clV, clA, clAs, clB, notIn, findB, findB_setB, clA.go] <;> omega⟩
    ·rw [decide_eq_false hr] at hih
     have HA := Lib.hid (hall.succ (show noLs p vars act e k from fun _ h => hr h.2))
     clear hall ih hr hN
     repeat' first | simp (disch := omega) only [go_sem, map_get hlt, Ex.row_eq, wrap_i64] | ((with_reducible first | refine condD ?_ ?_ | refine condX ?_ ?_ | refine condW_intro ?_ ?_) <;> intro h <;> first | (exfalso; omega) | simp (disch := omega) only [go_sem, *, map_get hlt, Ex.row_eq, wrap_i64] | skip) | (refine callW_of hih rfl (.inl rfl) ?_)
     all_goals exact ⟨k + 1, [], ⟨by omega, HA.out⟩, by omega, by simp [Wk, wkF, wkM, wkL, look_cons, renV, renA, renC, renB, rn, clV, clA, clAs, clB, notIn, findB, findB_setB, clA.go] <;> omega⟩
   ·rw [decide_eq_false (hN fun i hi => hall i (by omega))]
    clear hall ih hN
    repeat' first | simp (disch := omega) only [go_sem] | ((with_reducible first | refine condD ?_ ?_ | refine condX ?_ ?_ | refine condW_intro ?_ ?_) <;> intro h <;> first | (exfalso; omega) | simp (disch := omega) only [go_sem, *] | skip)
set_option maxHeartbeats 2000000 in
theorem ref25_lossy_abs {p : Prg} (hf : fewP p) (vars act : List ByteArray) (e : Ex) : rnkAll e → (∀ a ∈ e.pre, frIn a.val) → PCalls Tryz.prog n_ref25_lossy [aPrg p, .c (.pure (pStrs vars)), aEx e, .c (.pure (pStrs act))] (Go.Abs.B (decide (lsE p vars act e))) := by
 refine Ex.ind (p := fun e => rnkAll e → (∀ a ∈ e.pre, frIn a.val) → PCalls Tryz.prog n_ref25_lossy [aPrg p, .c (.pure (pStrs vars)), aEx e, .c (.pure (pStrs act))] (Go.Abs.B (decide (lsE p vars act e)))) (fun e ih hr0 h64 => ?_) e
 refine PCalls.of is_ref25_lossy (by simp) fun hb => runW_sound ?_
 have hl := (bnd_args hb.2.2).1
 simp only [c_ref25_lossy]
 by_cases hA : e.op = 12 ∧ ¬ e.ty.1 = 1
 ·have h0 : 0 < e.args.length := by
   have ha := (rnkAll_self hr0).1
   rw [hA.1] at ha
   have : arity 12 = 1 := by decide
   omega
  have cT := ref17_TypeOf_abs hf vars (fun b hb => h64 b (pre_sub (List.getElem_mem h0) hb))
  have cR := ref25_reads_abs act e.args[0] (rnkAll_arg hr0 (List.getElem_mem h0))
  by_cases ht : (typeOf p vars e.args[0]).1.1 = 1
  ·by_cases hr : rdE act e.args[0]
   ·rw [decide_eq_true (ls_iff.2 (.inl ⟨hA.1, hA.2, h0, ht, hr⟩))]
    rw [decide_eq_true hr] at cR
    obtain ⟨ho, hty⟩ := hA
    clear ih hr
    repeat' first | simp (disch := omega) only [go_sem, map_get h0, Ex.row_eq, Int.toNat_zero] | ((with_reducible first | refine condD ?_ ?_ | refine condX ?_ ?_ | refine condW_intro ?_ ?_) <;> intro h <;> first | (exfalso; omega) | simp (disch := omega) only [go_sem, *, map_get h0, Ex.row_eq, Int.toNat_zero] | skip) | (refine callW_of cT rfl (.inl rfl) ?_) | (refine callW_of cR rfl (.inl rfl) ?_)
   ·have hN := fun h => ls_out (p := p) (vars := vars) (act := act) (e := e) (fun hh => by obtain ⟨_, _, _, _, h5⟩ := hh; exact hr h5) h
    rw [decide_eq_false hr] at cR
    obtain ⟨h, hty⟩ := hA
    clear hr
    repeat' first | simp (disch := omega) only [go_sem, map_get h0, Ex.row_eq, Int.toNat_zero] | ((with_reducible first | refine condD ?_ ?_ | refine condX ?_ ?_ | refine condW_intro ?_ ?_) <;> intro h <;> first | (exfalso; omega) | simp (disch := omega) only [go_sem, *, map_get h0, Ex.row_eq, Int.toNat_zero] | skip) | (refine callW_of cT rfl (.inl rfl) ?_) | (refine callW_of cR rfl (.inl rfl) ?_)
    clear cT cR ht hty
    refine AW_loop (fun k : Nat => ⟨[(11, I k), (6, .c (.ptr 1 0)), (4, .c (.ptr 0 0)), (3, .c (.pure (pStrs act))), (1, .c (.pure (pStrs vars)))], [(1, bEx e), (0, bPrg p)], 2, 0⟩) (fun k => k ≤ e.args.length ∧ upTo (fun i => noLs p vars act e i) k) (fun k => e.args.length - k) ⟨0, [], ⟨by omega, .zero⟩, by simp [Wk, wkF, wkM, wkL, look_cons, renV, renA, renC, renB, rn, clV, clA, clAs, clB, notIn, findB, findB_setB, clA.go] <;> omega⟩ ?_
    repeat clear h
    rintro k ⟨hk, hall⟩
    refine runW_sound ?_
    by_cases hlt : k < e.args.length
    ·have hih := ih _ (List.getElem_mem hlt) (rnkAll_arg hr0 (List.getElem_mem hlt)) (fun b hb => h64 b (pre_sub (List.getElem_mem hlt) hb))
     by_cases hr : lsE p vars act e.args[k]
     ·rw [decide_eq_true hr] at hih
      by_cases hc : ¬ e.op = 11 ∨ 0 < k
      ·rw [decide_eq_true (ls_in hlt hc hr)]
       clear hall ih hr hN
       repeat' first | simp (disch := omega) only [go_sem, map_get hlt, Ex.row_eq, wrap_i64] | ((with_reducible first | refine condD ?_ ?_ | refine condX ?_ ?_ | refine condW_intro ?_ ?_) <;> intro h <;> first | (exfalso; omega) | simp (disch := omega) only [go_sem, *, map_get hlt, Ex.row_eq, wrap_i64] | skip) | (refine callW_of hih rfl (.inl rfl) ?_)
      ·have HA := Lib.hid (hall.succ (show noLs p vars act e k from fun _ h => hc h.1))
       clear hall ih hr hN
       repeat' first | simp (disch := omega) only [go_sem, map_get hlt, Ex.row_eq, wrap_i64] | ((with_reducible first | refine condD ?_ ?_ | refine condX ?_ ?_ | refine condW_intro ?_ ?_) <;> intro h <;> first | (exfalso; omega) | simp (disch := omega) only [go_sem, *, map_get hlt, Ex.row_eq, wrap_i64] | skip) | (refine callW_of hih rfl (.inl rfl) ?_)
       all_goals exact ⟨k + 1, [], ⟨by omega, HA.out⟩, by omega, by simp [Wk, wkF, wkM, wkL, look_cons, renV, renA, renC, renB, rn, clV, clA, clAs, clB, notIn, findB, findB_setB, clA.go] <;> omega⟩
     ·rw [decide_eq_false hr] at hih
      have HA := Lib.hid (hall.succ (show noLs p vars act e k from fun _ h => hr h.2))
      clear hall ih hr hN
      repeat' first | simp (disch := omega) only [go_sem, map_get hlt, Ex.row_eq, wrap_i64] | ((with_reducible first | refine condD ?_ ?_ | refine condX ?_ ?_ | refine condW_intro ?_ ?_) <;> intro h <;> first | (exfalso; omega) | simp (disch := omega) only [go_sem, *, map_get hlt, Ex.row_eq, wrap_i64] | skip) | (refine callW_of hih rfl (.inl rfl) ?_)
      all_goals exact ⟨k + 1, [], ⟨by omega, HA.out⟩, by omega, by simp [Wk, wkF, wkM, wkL, look_cons, renV, renA, renC, renB, rn, clV, clA, clAs, clB, notIn, findB, findB_setB, clA.go] <;> omega⟩
    ·rw [decide_eq_false (hN fun i hi => hall i (by omega))]
     clear hall ih hN
     repeat' first | simp (disch := omega) only [go_sem] | ((with_reducible first | refine condD ?_ ?_ | refine condX ?_ ?_ | refine condW_intro ?_ ?_) <;> intro h <;> first | (exfalso; omega) | simp (disch := omega) only [go_sem, *] | skip)
  ·have hN := fun h => ls_out (p := p) (vars := vars) (act := act) (e := e) (fun hh => by obtain ⟨_, _, _, h4, _⟩ := hh; exact ht h4) h
   obtain ⟨h, hty⟩ := hA
   repeat' first | simp (disch := omega) only [go_sem, map_get h0, Ex.row_eq, Int.toNat_zero] | ((with_reducible first | refine condD ?_ ?_ | refine condX ?_ ?_ | refine condW_intro ?_ ?_) <;> intro h <;> first | (exfalso; omega) | simp (disch := omega) only [go_sem, *, map_get h0, Ex.row_eq, Int.toNat_zero] | skip) | (refine callW_of cT rfl (.inl rfl) ?_) | (refine callW_of cR rfl (.inl rfl) ?_)
   clear cT cR ht hty
   refine AW_loop (fun k : Nat => ⟨[(11, I k), (6, .c (.ptr 1 0)), (4, .c (.ptr 0 0)), (3, .c (.pure (pStrs act))), (1, .c (.pure (pStrs vars)))], [(1, bEx e), (0, bPrg p)], 2, 0⟩) (fun k => k ≤ e.args.length ∧ upTo (fun i => noLs p vars act e i) k) (fun k => e.args.length - k) ⟨0, [], ⟨by omega, .zero⟩, by simp [Wk, wkF, wkM, wkL, look_cons, renV, renA, renC, renB, rn, clV, clA, clAs, clB, notIn, findB, findB_setB, clA.go] <;> omega⟩ ?_
   repeat clear h
   rintro k ⟨hk, hall⟩
   refine runW_sound ?_
   by_cases hlt : k < e.args.length
   ·have hih := ih _ (List.getElem_mem hlt) (rnkAll_arg hr0 (List.getElem_mem hlt)) (fun b hb => h64 b (pre_sub (List.getElem_mem hlt) hb))
    by_cases hr : lsE p vars act e.args[k]
    ·rw [decide_eq_true hr] at hih
     by_cases hc : ¬ e.op = 11 ∨ 0 < k
     ·rw [decide_eq_true (ls_in hlt hc hr)]
      clear hall ih hr hN
      repeat' first | simp (disch := omega) only [go_sem, map_get hlt, Ex.row_eq, wrap_i64] | ((with_reducible first | refine condD ?_ ?_ | refine condX ?_ ?_ | refine condW_intro ?_ ?_) <;> intro h <;> first | (exfalso; omega) | simp (disch := omega) only [go_sem, *, map_get hlt, Ex.row_eq, wrap_i64] | skip) | (refine callW_of hih rfl (.inl rfl) ?_)
     ·have HA := Lib.hid (hall.succ (show noLs p vars act e k from fun _ h => hc h.1))
      clear hall ih hr hN
      repeat' first | simp (disch := omega) only [go_sem, map_get hlt, Ex.row_eq, wrap_i64] | ((with_reducible first | refine condD ?_ ?_ | refine condX ?_ ?_ | refine condW_intro ?_ ?_) <;> intro h <;> first | (exfalso; omega) | simp (disch := omega) only [go_sem, *, map_get hlt, Ex.row_eq, wrap_i64] | skip) | (refine callW_of hih rfl (.inl rfl) ?_)
      all_goals exact ⟨k + 1, [], ⟨by omega, HA.out⟩, by omega, by simp [Wk, wkF, wkM, wkL, look_cons, renV, renA, renC, renB, rn, clV, clA, clAs, clB, notIn, findB, findB_setB, clA.go] <;> omega⟩
    ·rw [decide_eq_false hr] at hih
     have HA := Lib.hid (hall.succ (show noLs p vars act e k from fun _ h => hr h.2))
     clear hall ih hr hN
     repeat' first | simp (disch := omega) only [go_sem, map_get hlt, Ex.row_eq, wrap_i64] | ((with_reducible first | refine condD ?_ ?_ | refine condX ?_ ?_ | refine condW_intro ?_ ?_) <;> intro h <;> first | (exfalso; omega) | simp (disch := omega) only [go_sem, *, map_get hlt, Ex.row_eq, wrap_i64] | skip) | (refine callW_of hih rfl (.inl rfl) ?_)
     all_goals exact ⟨k + 1, [], ⟨by omega, HA.out⟩, by omega, by simp [Wk, wkF, wkM, wkL, look_cons, renV, renA, renC, renB, rn, clV, clA, clAs, clB, notIn, findB, findB_setB, clA.go] <;> omega⟩
   ·rw [decide_eq_false (hN fun i hi => hall i (by omega))]
    clear hall ih hN
    repeat' first | simp (disch := omega) only [go_sem] | ((with_reducible first | refine condD ?_ ?_ | refine condX ?_ ?_ | refine condW_intro ?_ ?_) <;> intro h <;> first | (exfalso; omega) | simp (disch := omega) only [go_sem, *] | skip)
 ·have hN := fun h => ls_out (p := p) (vars := vars) (act := act) (e := e) (fun hh => hA ⟨hh.1, hh.2.1⟩) h
  by_cases h : e.op = 12
  ·have hty : e.ty.1 = 1 := Classical.not_not.1 fun hn => hA ⟨h, hn⟩
   clear hA
   repeat' first | simp (disch := omega) only [go_sem] | ((with_reducible first | refine condD ?_ ?_ | refine condX ?_ ?_ | refine condW_intro ?_ ?_) <;> intro h <;> first | (exfalso; omega) | simp (disch := omega) only [go_sem, *] | skip)
   refine AW_loop (fun k : Nat => ⟨[(11, I k), (6, .c (.ptr 1 0)), (4, .c (.ptr 0 0)), (3, .c (.pure (pStrs act))), (1, .c (.pure (pStrs vars)))], [(1, bEx e), (0, bPrg p)], 2, 0⟩) (fun k => k ≤ e.args.length ∧ upTo (fun i => noLs p vars act e i) k) (fun k => e.args.length - k) ⟨0, [], ⟨by omega, .zero⟩, by simp [Wk, wkF, wkM, wkL, look_cons, renV, renA, renC, renB, rn, clV, clA, clAs, clB, notIn, findB, findB_setB, clA.go] <;> omega⟩ ?_
   repeat clear h
   clear hty
   rintro k ⟨hk, hall⟩
   refine runW_sound ?_
   by_cases hlt : k < e.args.length
   ·have hih := ih _ (List.getElem_mem hlt) (rnkAll_arg hr0 (List.getElem_mem hlt)) (fun b hb => h64 b (pre_sub (List.getElem_mem hlt) hb))
    by_cases hr : lsE p vars act e.args[k]
    ·rw [decide_eq_true hr] at hih
     by_cases hc : ¬ e.op = 11 ∨ 0 < k
     ·rw [decide_eq_true (ls_in hlt hc hr)]
      clear hall ih hr hN
      repeat' first | simp (disch := omega) only [go_sem, map_get hlt, Ex.row_eq, wrap_i64] | ((with_reducible first | refine condD ?_ ?_ | refine condX ?_ ?_ | refine condW_intro ?_ ?_) <;> intro h <;> first | (exfalso; omega) | simp (disch := omega) only [go_sem, *, map_get hlt, Ex.row_eq, wrap_i64] | skip) | (refine callW_of hih rfl (.inl rfl) ?_)
     ·have HA := Lib.hid (hall.succ (show noLs p vars act e k from fun _ h => hc h.1))
      clear hall ih hr hN
      repeat' first | simp (disch := omega) only [go_sem, map_get hlt, Ex.row_eq, wrap_i64] | ((with_reducible first | refine condD ?_ ?_ | refine condX ?_ ?_ | refine condW_intro ?_ ?_) <;> intro h <;> first | (exfalso; omega) | simp (disch := omega) only [go_sem, *, map_get hlt, Ex.row_eq, wrap_i64] | skip) | (refine callW_of hih rfl (.inl rfl) ?_)
      all_goals exact ⟨k + 1, [], ⟨by omega, HA.out⟩, by omega, by simp [Wk, wkF, wkM, wkL, look_cons, renV, renA, renC, renB, rn, clV, clA, clAs, clB, notIn, findB, findB_setB, clA.go] <;> omega⟩
    ·rw [decide_eq_false hr] at hih
     have HA := Lib.hid (hall.succ (show noLs p vars act e k from fun _ h => hr h.2))
     clear hall ih hr hN
     repeat' first | simp (disch := omega) only [go_sem, map_get hlt, Ex.row_eq, wrap_i64] | ((with_reducible first | refine condD ?_ ?_ | refine condX ?_ ?_ | refine condW_intro ?_ ?_) <;> intro h <;> first | (exfalso; omega) | simp (disch := omega) only [go_sem, *, map_get hlt, Ex.row_eq, wrap_i64] | skip) | (refine callW_of hih rfl (.inl rfl) ?_)
     all_goals exact ⟨k + 1, [], ⟨by omega, HA.out⟩, by omega, by simp [Wk, wkF, wkM, wkL, look_cons, renV, renA, renC, renB, rn, clV, clA, clAs, clB, notIn, findB, findB_setB, clA.go] <;> omega⟩
   ·rw [decide_eq_false (hN fun i hi => hall i (by omega))]
    clear hall ih hN
    repeat' first | simp (disch := omega) only [go_sem] | ((with_reducible first | refine condD ?_ ?_ | refine condX ?_ ?_ | refine condW_intro ?_ ?_) <;> intro h <;> first | (exfalso; omega) | simp (disch := omega) only [go_sem, *] | skip)
  ·clear hA
   repeat' first | simp (disch := omega) only [go_sem] | ((with_reducible first | refine condD ?_ ?_ | refine condX ?_ ?_ | refine condW_intro ?_ ?_) <;> intro h <;> first | (exfalso; omega) | simp (disch := omega) only [go_sem, *] | skip)
   refine AW_loop (fun k : Nat => ⟨[(11, I k), (6, .c (.ptr 1 0)), (4, .c (.ptr 0 0)), (3, .c (.pure (pStrs act))), (1, .c (.pure (pStrs vars)))], [(1, bEx e), (0, bPrg p)], 2, 0⟩) (fun k => k ≤ e.args.length ∧ upTo (fun i => noLs p vars act e i) k) (fun k => e.args.length - k) ⟨0, [], ⟨by omega, .zero⟩, by simp [Wk, wkF, wkM, wkL, look_cons, renV, renA, renC, renB, rn, clV, clA, clAs, clB, notIn, findB, findB_setB, clA.go] <;> omega⟩ ?_
   repeat clear h
   rintro k ⟨hk, hall⟩
   refine runW_sound ?_
   by_cases hlt : k < e.args.length
   ·have hih := ih _ (List.getElem_mem hlt) (rnkAll_arg hr0 (List.getElem_mem hlt)) (fun b hb => h64 b (pre_sub (List.getElem_mem hlt) hb))
    by_cases hr : lsE p vars act e.args[k]
    ·rw [decide_eq_true hr] at hih
     by_cases hc : ¬ e.op = 11 ∨ 0 < k
     ·rw [decide_eq_true (ls_in hlt hc hr)]
      clear hall ih hr hN
      repeat' first | simp (disch := omega) only [go_sem, map_get hlt, Ex.row_eq, wrap_i64] | ((with_reducible first | refine condD ?_ ?_ | refine condX ?_ ?_ | refine condW_intro ?_ ?_) <;> intro h <;> first | (exfalso; omega) | simp (disch := omega) only [go_sem, *, map_get hlt, Ex.row_eq, wrap_i64] | skip) | (refine callW_of hih rfl (.inl rfl) ?_)
     ·have HA := Lib.hid (hall.succ (show noLs p vars act e k from fun _ h => hc h.1))
      clear hall ih hr hN
      repeat' first | simp (disch := omega) only [go_sem, map_get hlt, Ex.row_eq, wrap_i64] | ((with_reducible first | refine condD ?_ ?_ | refine condX ?_ ?_ | refine condW_intro ?_ ?_) <;> intro h <;> first | (exfalso; omega) | simp (disch := omega) only [go_sem, *, map_get hlt, Ex.row_eq, wrap_i64] | skip) | (refine callW_of hih rfl (.inl rfl) ?_)
      all_goals exact ⟨k + 1, [], ⟨by omega, HA.out⟩, by omega, by simp [Wk, wkF, wkM, wkL, look_cons, renV, renA, renC, renB, rn, clV, clA, clAs, clB, notIn, findB, findB_setB, clA.go] <;> omega⟩
    ·rw [decide_eq_false hr] at hih
     have HA := Lib.hid (hall.succ (show noLs p vars act e k from fun _ h => hr h.2))
     clear hall ih hr hN
     repeat' first | simp (disch := omega) only [go_sem, map_get hlt, Ex.row_eq, wrap_i64] | ((with_reducible first | refine condD ?_ ?_ | refine condX ?_ ?_ | refine condW_intro ?_ ?_) <;> intro h <;> first | (exfalso; omega) | simp (disch := omega) only [go_sem, *, map_get hlt, Ex.row_eq, wrap_i64] | skip) | (refine callW_of hih rfl (.inl rfl) ?_)
     all_goals exact ⟨k + 1, [], ⟨by omega, HA.out⟩, by omega, by simp [Wk, wkF, wkM, wkL, look_cons, renV, renA, renC, renB, rn, clV, clA, clAs, clB, notIn, findB, findB_setB, clA.go] <;> omega⟩
   ·rw [decide_eq_false (hN fun i hi => hall i (by omega))]
    clear hall ih hN
    repeat' first | simp (disch := omega) only [go_sem] | ((with_reducible first | refine condD ?_ ?_ | refine condX ?_ ?_ | refine condW_intro ?_ ?_) <;> intro h <;> first | (exfalso; omega) | simp (disch := omega) only [go_sem, *] | skip)
end Go.Proofs.YtfjnhdfhgenkdaaGreatDoor
