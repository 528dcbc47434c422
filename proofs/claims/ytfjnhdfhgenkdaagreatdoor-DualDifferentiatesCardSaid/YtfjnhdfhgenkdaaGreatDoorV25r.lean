/- Walks: reads, active tensors, losses. -/
import Derived.Test.YtfjnhdfhgenkdaaGreatDoorP25r
import Derived.Test.YtfjnhdfhgenkdaaGreatDoorV17m
set_option linter.unusedVariables false
set_option linter.unusedSimpArgs false
set_option maxRecDepth 20000
namespace Go.Proofs.YtfjnhdfhgenkdaaGreatDoor
open Go.Abs Go.RowKit

theorem rd_in {names : List ByteArray} {e : Ex} {k : Nat} (hk : k < e.args.length) (hc : ¬ e.op = 11 ∨ 0 < k) (h : rdE names e.args[k]) : rdE names e := rd_iff.2 (.inr ⟨k, hk, hc, h⟩)
/-- Operand number i is not read. -/
def noRd (names : List ByteArray) (e : Ex) (i : Nat) : Prop := ∀ h : i < e.args.length, ¬ ((¬ e.op = 11 ∨ 0 < i) ∧ rdE names e.args[i])
theorem rd_out {names : List ByteArray} {e : Ex} (h1 : ¬ (e.op = 3 ∧ e.name ∈ names)) (h : ∀ i, i < e.args.length → noRd names e i) : ¬ rdE names e := fun hr => by
 rcases rd_iff.1 hr with hh | ⟨i, hi, hc⟩
 ·exact h1 hh
 ·exact h i hi hi hc
theorem ls_in {p : Prg} {vars act : List ByteArray} {e : Ex} {k : Nat} (hk : k < e.args.length) (hc : ¬ e.op = 11 ∨ 0 < k) (h : lsE p vars act e.args[k]) : lsE p vars act e := ls_iff.2 (.inr ⟨k, hk, hc, h⟩)
def noLs (p : Prg) (vars act : List ByteArray) (e : Ex) (i : Nat) : Prop := ∀ h : i < e.args.length, ¬ ((¬ e.op = 11 ∨ 0 < i) ∧ lsE p vars act e.args[i])
/-- The node itself loses. -/
def lsN (p : Prg) (vars act : List ByteArray) (e : Ex) : Prop := e.op = 12 ∧ ¬ e.ty.1 = 1 ∧ ∃ h : 0 < e.args.length, (typeOf p vars e.args[0]).1.1 = 1 ∧ rdE act e.args[0]
theorem ls_out {p : Prg} {vars act : List ByteArray} {e : Ex} (h1 : ¬ lsN p vars act e) (h : ∀ i, i < e.args.length → noLs p vars act e i) : ¬ lsE p vars act e := fun hr => by
 rcases ls_iff.1 hr with hh | ⟨i, hi, hc⟩
 ·exact h1 hh
 ·exact h i hi hi hc
set_option maxHeartbeats 1000000 in
theorem dual_reads_abs (names : List ByteArray) (e : Ex) : PCalls Tryz.prog n_dual_reads [aEx e, .c (.pure (pStrs names))] (Go.Abs.B (decide (rdE names e))) := by
 refine Ex.ind (p := fun e => PCalls Tryz.prog n_dual_reads [aEx e, .c (.pure (pStrs names))] (Go.Abs.B (decide (rdE names e)))) (fun e ih => ?_) e
 refine PCalls.of is_dual_reads (by simp) fun hb => runW_sound ?_
 have hl := (bnd_args hb).1
 have cC := slices_Contains_str_abs names e.name
 simp only [c_dual_reads]
 by_cases h1 : e.op = 3 ∧ e.name ∈ names
 ·rw [decide_eq_true (rd_iff.2 (.inl h1))]
  rw [decide_eq_true h1.2] at cC
  have h3 := h1.1
  clear h1 ih
  repeat' first | simp (disch := omega) only [go_sem] | ((with_reducible first | refine condD ?_ ?_ | refine condX ?_ ?_ | refine condW_intro ?_ ?_) <;> intro h <;> first | (exfalso; omega) | simp (disch := omega) only [go_sem, *] | skip) | (refine callW_of cC rfl (.inl rfl) ?_)
 ·have hN := fun h => rd_out h1 h
  by_cases hm : e.name ∈ names
  ·have h : ¬ e.op = 3 := fun h => h1 ⟨h, hm⟩
   clear h1 cC hm
   repeat' first | simp (disch := omega) only [go_sem] | ((with_reducible first | refine condD ?_ ?_ | refine condX ?_ ?_ | refine condW_intro ?_ ?_) <;> intro h <;> first | (exfalso; omega) | simp (disch := omega) only [go_sem, *] | skip)
   refine AW_loop (fun k : Nat => ⟨[(19, I k), (18, I e.args.length), (17, .c (.pure (.slice (e.args.map Ex.row)))), (2, .c (.ptr 0 0)), (1, .c (.pure (pStrs names)))], [(0, bEx e)], 1, 0⟩) (fun k => k ≤ e.args.length ∧ upTo (fun i => noRd names e i) k) (fun k => e.args.length - k) ⟨0, [], ⟨by omega, .zero⟩, by simp [Wk, wkF, wkM, wkL, look_cons, renV, renA, renC, renB, rn, clV, clA, clAs, clB, notIn, findB, findB_setB, clA.go] <;> omega⟩ ?_
   repeat clear h
   rintro k ⟨hk, hall⟩
   refine runW_sound ?_
   by_cases hlt : k < e.args.length
   ·have hih := ih _ (List.getElem_mem hlt)
    by_cases hr : rdE names e.args[k]
    ·rw [decide_eq_true hr] at hih
     by_cases hc : ¬ e.op = 11 ∨ 0 < k
     ·rw [decide_eq_true (rd_in hlt hc hr)]
      clear hall ih hr hN
      repeat' first | simp (disch := omega) only [go_sem, map_get hlt, Ex.row_eq, wrap_i64] | ((with_reducible first | refine condD ?_ ?_ | refine condX ?_ ?_ | refine condW_intro ?_ ?_) <;> intro h <;> first | (exfalso; omega) | simp (disch := omega) only [go_sem, *, map_get hlt, Ex.row_eq, wrap_i64] | skip) | (refine callW_of hih rfl (.inl rfl) ?_)
     ·have HA := Lib.hid (hall.succ (show noRd names e k from fun _ h => hc h.1))
      clear hall ih hr hN
      repeat' first | simp (disch := omega) only [go_sem, map_get hlt, Ex.row_eq, wrap_i64] | ((with_reducible first | refine condD ?_ ?_ | refine condX ?_ ?_ | refine condW_intro ?_ ?_) <;> intro h <;> first | (exfalso; omega) | simp (disch := omega) only [go_sem, *, map_get hlt, Ex.row_eq, wrap_i64] | skip) | (refine callW_of hih rfl (.inl rfl) ?_)
      all_goals exact ⟨k + 1, [], ⟨by omega, HA.out⟩, by omega, by simp [Wk, wkF, wkM, wkL, look_cons, renV, renA, renC, renB, rn, clV, clA, clAs, clB, notIn, findB, findB_setB, clA.go] <;> omega⟩
    ·rw [decide_eq_false hr] at hih
     have HA := Lib.hid (hall.succ (show noRd names e k from fun _ h => hr h.2))
     clear hall ih hr hN
     repeat' first | simp (disch := omega) only [go_sem, map_get hlt, Ex.row_eq, wrap_i64] | ((with_reducible first | refine condD ?_ ?_ | refine condX ?_ ?_ | refine condW_intro ?_ ?_) <;> intro h <;> first | (exfalso; omega) | simp (disch := omega) only [go_sem, *, map_get hlt, Ex.row_eq, wrap_i64] | skip) | (refine callW_of hih rfl (.inl rfl) ?_)
     all_goals exact ⟨k + 1, [], ⟨by omega, HA.out⟩, by omega, by simp [Wk, wkF, wkM, wkL, look_cons, renV, renA, renC, renB, rn, clV, clA, clAs, clB, notIn, findB, findB_setB, clA.go] <;> omega⟩
   ·rw [decide_eq_false (hN fun i hi => hall i (by omega))]
    clear hall ih hN
    repeat' first | simp (disch := omega) only [go_sem] | ((with_reducible first | refine condD ?_ ?_ | refine condX ?_ ?_ | refine condW_intro ?_ ?_) <;> intro h <;> first | (exfalso; omega) | simp (disch := omega) only [go_sem, *] | skip)
  ·rw [decide_eq_false hm] at cC
   clear h1 hm
   repeat' first | simp (disch := omega) only [go_sem] | ((with_reducible first | refine condD ?_ ?_ | refine condX ?_ ?_ | refine condW_intro ?_ ?_) <;> intro h <;> first | (exfalso; omega) | simp (disch := omega) only [go_sem, *] | skip) | (refine callW_of cC rfl (.inl rfl) ?_)
   all_goals
    clear cC
    refine AW_loop (fun k : Nat => ⟨[(19, I k), (18, I e.args.length), (17, .c (.pure (.slice (e.args.map Ex.row)))), (2, .c (.ptr 0 0)), (1, .c (.pure (pStrs names)))], [(0, bEx e)], 1, 0⟩) (fun k => k ≤ e.args.length ∧ upTo (fun i => noRd names e i) k) (fun k => e.args.length - k) ⟨0, [], ⟨by omega, .zero⟩, by simp [Wk, wkF, wkM, wkL, look_cons, renV, renA, renC, renB, rn, clV, clA, clAs, clB, notIn, findB, findB_setB, clA.go] <;> omega⟩ ?_
    repeat clear h
    rintro k ⟨hk, hall⟩
    refine runW_sound ?_
    by_cases hlt : k < e.args.length
    ·have hih := ih _ (List.getElem_mem hlt)
     by_cases hr : rdE names e.args[k]
     ·rw [decide_eq_true hr] at hih
      by_cases hc : ¬ e.op = 11 ∨ 0 < k
      ·rw [decide_eq_true (rd_in hlt hc hr)]
       clear hall ih hr hN
       repeat' first | simp (disch := omega) only [go_sem, map_get hlt, Ex.row_eq, wrap_i64] | ((with_reducible first | refine condD ?_ ?_ | refine condX ?_ ?_ | refine condW_intro ?_ ?_) <;> intro h <;> first | (exfalso; omega) | simp (disch := omega) only [go_sem, *, map_get hlt, Ex.row_eq, wrap_i64] | skip) | (refine callW_of hih rfl (.inl rfl) ?_)
      ·have HA := Lib.hid (hall.succ (show noRd names e k from fun _ h => hc h.1))
       clear hall ih hr hN
       repeat' first | simp (disch := omega) only [go_sem, map_get hlt, Ex.row_eq, wrap_i64] | ((with_reducible first | refine condD ?_ ?_ | refine condX ?_ ?_ | refine condW_intro ?_ ?_) <;> intro h <;> first | (exfalso; omega) | simp (disch := omega) only [go_sem, *, map_get hlt, Ex.row_eq, wrap_i64] | skip) | (refine callW_of hih rfl (.inl rfl) ?_)
       all_goals exact ⟨k + 1, [], ⟨by omega, HA.out⟩, by omega, by simp [Wk, wkF, wkM, wkL, look_cons, renV, renA, renC, renB, rn, clV, clA, clAs, clB, notIn, findB, findB_setB, clA.go] <;> omega⟩
     ·rw [decide_eq_false hr] at hih
      have HA := Lib.hid (hall.succ (show noRd names e k from fun _ h => hr h.2))
      clear hall ih hr hN
      repeat' first | simp (disch := omega) only [go_sem, map_get hlt, Ex.row_eq, wrap_i64] | ((with_reducible first | refine condD ?_ ?_ | refine condX ?_ ?_ | refine condW_intro ?_ ?_) <;> intro h <;> first | (exfalso; omega) | simp (disch := omega) only [go_sem, *, map_get hlt, Ex.row_eq, wrap_i64] | skip) | (refine callW_of hih rfl (.inl rfl) ?_)
      all_goals exact ⟨k + 1, [], ⟨by omega, HA.out⟩, by omega, by simp [Wk, wkF, wkM, wkL, look_cons, renV, renA, renC, renB, rn, clV, clA, clAs, clB, notIn, findB, findB_setB, clA.go] <;> omega⟩
    ·rw [decide_eq_false (hN fun i hi => hall i (by omega))]
     clear hall ih hN
     repeat' first | simp (disch := omega) only [go_sem] | ((with_reducible first | refine condD ?_ ?_ | refine condX ?_ ?_ | refine condW_intro ?_ ?_) <;> intro h <;> first | (exfalso; omega) | simp (disch := omega) only [go_sem, *] | skip)
set_option maxHeartbeats 1000000 in
theorem ref25_reads_abs (names : List ByteArray) (e : Ex) : rnkAll e → PCalls Tryz.prog n_ref25_reads [aEx e, .c (.pure (pStrs names))] (Go.Abs.B (decide (rdE names e))) := by
 refine Ex.ind (p := fun e => rnkAll e → PCalls Tryz.prog n_ref25_reads [aEx e, .c (.pure (pStrs names))] (Go.Abs.B (decide (rdE names e)))) (fun e ih hr0 => ?_) e
 refine PCalls.of is_ref25_reads (by simp) fun hb => runW_sound ?_
 have hl := (bnd_args hb).1
 have cC := base_Has_abs names e.name
 simp only [c_ref25_reads]
 by_cases h3 : e.op = 3
 ·have hE : rdE names e ↔ e.name ∈ names := by
   have ha := (rnkAll_self hr0).1
   rw [h3] at ha
   have ha0 : e.args.length = 0 := by
    have : arity 3 = 0 := by decide
    omega
   rw [rd_iff]
   constructor
   ·rintro (h | ⟨i, hi, _⟩)
    ·exact h.2
    ·omega
   ·exact fun h => .inl ⟨h3, h⟩
  rw [show decide (rdE names e) = decide (e.name ∈ names) from decide_eq_decide.2 hE]
  clear ih hE
  repeat' first | simp (disch := omega) only [go_sem] | ((with_reducible first | refine condD ?_ ?_ | refine condX ?_ ?_ | refine condW_intro ?_ ?_) <;> intro h <;> first | (exfalso; omega) | simp (disch := omega) only [go_sem, *] | skip) | (refine callW_of cC rfl (.inl rfl) ?_)
 ·have hN := fun h => rd_out (names := names) (e := e) (fun hh => h3 hh.1) h
  have h := h3
  clear cC h3
  repeat' first | simp (disch := omega) only [go_sem] | ((with_reducible first | refine condD ?_ ?_ | refine condX ?_ ?_ | refine condW_intro ?_ ?_) <;> intro h <;> first | (exfalso; omega) | simp (disch := omega) only [go_sem, *] | skip)
  refine AW_loop (fun k : Nat => ⟨[(5, I k), (2, .c (.ptr 0 0)), (1, .c (.pure (pStrs names)))], [(0, bEx e)], 1, 0⟩) (fun k => k ≤ e.args.length ∧ upTo (fun i => noRd names e i) k) (fun k => e.args.length - k) ⟨0, [], ⟨by omega, .zero⟩, by simp [Wk, wkF, wkM, wkL, look_cons, renV, renA, renC, renB, rn, clV, clA, clAs, clB, notIn, findB, findB_setB, clA.go] <;> omega⟩ ?_
  repeat clear h
  rintro k ⟨hk, hall⟩
  refine runW_sound ?_
  by_cases hlt : k < e.args.length
  ·have hih := ih _ (List.getElem_mem hlt) (rnkAll_arg hr0 (List.getElem_mem hlt))
   by_cases hr : rdE names e.args[k]
   ·rw [decide_eq_true hr] at hih
    by_cases hc : ¬ e.op = 11 ∨ 0 < k
    ·rw [decide_eq_true (rd_in hlt hc hr)]
     clear hall ih hr hN
     repeat' first | simp (disch := omega) only [go_sem, map_get hlt, Ex.row_eq, wrap_i64] | ((with_reducible first | refine condD ?_ ?_ | refine condX ?_ ?_ | refine condW_intro ?_ ?_) <;> intro h <;> first | (exfalso; omega) | simp (disch := omega) only [go_sem, *, map_get hlt, Ex.row_eq, wrap_i64] | skip) | (refine callW_of hih rfl (.inl rfl) ?_)
    ·have HA := Lib.hid (hall.succ (show noRd names e k from fun _ h => hc h.1))
     clear hall ih hr hN
     repeat' first | simp (disch := omega) only [go_sem, map_get hlt, Ex.row_eq, wrap_i64] | ((with_reducible first | refine condD ?_ ?_ | refine condX ?_ ?_ | refine condW_intro ?_ ?_) <;> intro h <;> first | (exfalso; omega) | simp (disch := omega) only [go_sem, *, map_get hlt, Ex.row_eq, wrap_i64] | skip) | (refine callW_of hih rfl (.inl rfl) ?_)
     all_goals exact ⟨k + 1, [], ⟨by omega, HA.out⟩, by omega, by simp [Wk, wkF, wkM, wkL, look_cons, renV, renA, renC, renB, rn, clV, clA, clAs, clB, notIn, findB, findB_setB, clA.go] <;> omega⟩
   ·rw [decide_eq_false hr] at hih
    have HA := Lib.hid (hall.succ (show noRd names e k from fun _ h => hr h.2))
    clear hall ih hr hN
    repeat' first | simp (disch := omega) only [go_sem, map_get hlt, Ex.row_eq, wrap_i64] | ((with_reducible first | refine condD ?_ ?_ | refine condX ?_ ?_ | refine condW_intro ?_ ?_) <;> intro h <;> first | (exfalso; omega) | simp (disch := omega) only [go_sem, *, map_get hlt, Ex.row_eq, wrap_i64] | skip) | (refine callW_of hih rfl (.inl rfl) ?_)
    all_goals exact ⟨k + 1, [], ⟨by omega, HA.out⟩, by omega, by simp [Wk, wkF, wkM, wkL, look_cons, renV, renA, renC, renB, rn, clV, clA, clAs, clB, notIn, findB, findB_setB, clA.go] <;> omega⟩
  ·rw [decide_eq_false (hN fun i hi => hall i (by omega))]
   clear hall ih hN
   repeat' first | simp (disch := omega) only [go_sem] | ((with_reducible first | refine condD ?_ ?_ | refine condX ?_ ?_ | refine condW_intro ?_ ?_) <;> intro h <;> first | (exfalso; omega) | simp (disch := omega) only [go_sem, *] | skip)
end Go.Proofs.YtfjnhdfhgenkdaaGreatDoor
