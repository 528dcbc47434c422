/- Walks: the reference's programs: names, reads, types. -/
import Derived.Test.YtfjnhdfhgenkdaaGreatDoorV17a
import Derived.Test.YtfjnhdfhgenkdaaGreatDoorV14c
set_option linter.unusedVariables false
set_option linter.unusedSimpArgs false
set_option maxRecDepth 20000
namespace Go.Proofs.YtfjnhdfhgenkdaaGreatDoor
open Go.Abs Go.RowKit

theorem ref17_known_abs (l : Lin) (vars sizes : List ByteArray) : PCalls Tryz.prog n_ref17_known [aLin l.1 l.2, .c (.pure (pStrs vars)), .c (.pure (pStrs sizes))] (Go.Abs.B (decide (knownL vars sizes l))) := by
 refine PCalls.of is_ref17_known (by simp) fun hb => runW_sound ?_
 have hl := bnd_lin hb.1
 simp only [c_ref17_known]
 repeat' first | simp (disch := omega) only [go_sem] | ((with_reducible first | refine condD ?_ ?_ | refine condX ?_ ?_ | refine condW_intro ?_ ?_) <;> intro h <;> first | (exfalso; omega) | simp (disch := omega) only [go_sem, *] | skip)
 refine AW_loop (fun k : Nat => ⟨[(7, I k), (3, .c (.ptr 0 0)), (2, .c (.pure (pStrs sizes))), (1, .c (.pure (pStrs vars)))], [(0, .var [.pure (pI l.1), .pure (pMonos l.2)])], 1, 0⟩) (fun k => k ≤ l.2.length ∧ upTo (fun i => ∀ h : i < l.2.length, l.2[i].1 ∈ vars ∨ l.2[i].1 ∈ sizes) k) (fun k => l.2.length - k) ⟨0, [], ⟨by omega, .zero⟩, by simp [Wk, wkF, wkM, wkL, look_cons, renV, renA, renC, renB, rn, clV, clA, clAs, clB, notIn, findB, findB_setB, clA.go]⟩ ?_
 rintro k ⟨hk, hall⟩
 refine runW_sound ?_
 by_cases hlt : k < l.2.length
 ·repeat' first | simp (disch := omega) only [go_sem, map_get hlt, mP, wrap_i64] | ((with_reducible first | refine condD ?_ ?_ | refine condX ?_ ?_ | refine condW_intro ?_ ?_) <;> intro h <;> first | (exfalso; omega) | simp (disch := omega) only [go_sem, *, map_get hlt, mP, wrap_i64] | skip) | (refine callW_of (base_Has_abs _ _) rfl (.inl rfl) ?_)
  ·exact ⟨k + 1, [], ⟨by omega, hall.succ fun _ => .inl h⟩, by omega, by simp [Wk, wkF, wkM, wkL, look_cons, renV, renA, renC, renB, rn, clV, clA, clAs, clB, notIn, findB, findB_setB, clA.go]⟩
  ·exact ⟨k + 1, [], ⟨by omega, hall.succ fun _ => .inr h⟩, by omega, by simp [Wk, wkF, wkM, wkL, look_cons, renV, renA, renC, renB, rn, clV, clA, clAs, clB, notIn, findB, findB_setB, clA.go]⟩
  ·refine BD ⟨fun h => (by cases h), fun h' => ?_⟩
   have := h' _ (List.getElem_mem hlt)
   simp_all
 ·repeat' first | simp (disch := omega) only [go_sem] | ((with_reducible first | refine condD ?_ ?_ | refine condX ?_ ?_ | refine condW_intro ?_ ?_) <;> intro h <;> first | (exfalso; omega) | simp (disch := omega) only [go_sem, *] | skip)
  refine BD ⟨fun _ m hm => ?_, fun _ => rfl⟩
  obtain ⟨i, hi, rfl⟩ := List.mem_iff_getElem.1 hm
  exact hall i (by omega) hi
theorem ref17_forms_abs (p : Prg) (vars : List ByteArray) (ls : List Lin) : PCalls Tryz.prog n_ref17_forms [aPrg p, .c (.pure (pStrs vars)), aLins ls] (I (formsErr p vars ls)) := by
 refine PCalls.of is_ref17_forms (by simp) fun hb => runW_sound ?_
 have hl : ls.length ≤ 9223372036854775807 := by
  have := hb.2.2.1
  simpa [bndV, bndA] using this
 simp only [c_ref17_forms]
 repeat' first | simp (disch := omega) only [go_sem] | ((with_reducible first | refine condD ?_ ?_ | refine condX ?_ ?_ | refine condW_intro ?_ ?_) <;> intro h <;> first | (exfalso; omega) | simp (disch := omega) only [go_sem, *] | skip)
 refine AW_loop (fun k : Nat => ⟨[(7, I k), (3, .c (.ptr 0 0)), (2, aLins ls), (1, .c (.pure (pStrs vars)))], [(0, bPrg p)], 1, 0⟩) (fun k => k ≤ ls.length ∧ upTo (fun i => ∀ h : i < ls.length, knownL vars p.sizes ls[i]) k) (fun k => ls.length - k) ⟨0, [], ⟨by omega, .zero⟩, by simp [Wk, wkF, wkM, wkL, look_cons, renV, renA, renC, renB, rn, clV, clA, clAs, clB, notIn, findB, findB_setB, clA.go]⟩ ?_
 rintro k ⟨hk, hall⟩
 refine runW_sound ?_
 by_cases hlt : k < ls.length
 ·repeat' first | simp (disch := omega) only [go_sem, map_get hlt, linP, wrap_i64] | ((with_reducible first | refine condD ?_ ?_ | refine condX ?_ ?_ | refine condW_intro ?_ ?_) <;> intro h <;> first | (exfalso; omega) | simp (disch := omega) only [go_sem, *, map_get hlt, linP, wrap_i64] | skip) | (refine callW_of (ref17_known_abs _ _ _) rfl (.inl rfl) ?_)
  ·exact ⟨k + 1, [], ⟨by omega, hall.succ fun _ => h⟩, by omega, by simp [Wk, wkF, wkM, wkL, look_cons, renV, renA, renC, renB, rn, clV, clA, clAs, clB, notIn, findB, findB_setB, clA.go]⟩
  ·exact IE (if_neg fun h' => h (h' _ (List.getElem_mem hlt))).symm
 ·repeat' first | simp (disch := omega) only [go_sem] | ((with_reducible first | refine condD ?_ ?_ | refine condX ?_ ?_ | refine condW_intro ?_ ?_) <;> intro h <;> first | (exfalso; omega) | simp (disch := omega) only [go_sem, *] | skip)
  refine IE (if_pos fun x hx => ?_).symm
  obtain ⟨i, hi, rfl⟩ := List.mem_iff_getElem.1 hx
  exact hall i (by omega) hi
set_option maxHeartbeats 1000000 in
theorem ref17_Find_abs {p : Prg} (hf : fewP p) (s : ByteArray) : PCalls Tryz.prog n_ref17_Find [aPrg p, S s] (aFound (findS p s)) := by
 refine PCalls.of is_ref17_Find (by simp) fun hb => runW_sound ?_
 have hl : p.params.length ≤ 9223372036854775807 ∧ p.defs.length ≤ 9223372036854775807 := by
  have := hb.1
  simp [bndV, bndAs, bndA] at this
  omega
 simp only [c_ref17_Find]
 repeat' first | simp (disch := omega) only [go_sem] | ((with_reducible first | refine condD ?_ ?_ | refine condX ?_ ?_ | refine condW_intro ?_ ?_) <;> intro h <;> first | (exfalso; omega) | simp (disch := omega) only [go_sem, *] | skip)
 refine AW_loop (fun k : Nat => ⟨[(7, I k), (4, .c (.ptr 1 0)), (2, .c (.ptr 0 0)), (1, S s)], [(1, .var [.pure (pI 0), .pure (pI 0), .pure (pI 0), .pure (pI 0), .pure (pI 0)]), (0, bPrg p)], 2, 0⟩) (fun k => k ≤ p.params.length ∧ upTo (fun j => ∀ h : j < p.params.length, ¬ p.params[j].1 = s) k) (fun k => p.params.length - k) ⟨0, [], ⟨by omega, .zero⟩, by simp [Wk, wkF, wkM, wkL, look_cons, renV, renA, renC, renB, rn, clV, clA, clAs, clB, notIn, findB, findB_setB, clA.go]⟩ ?_
 rintro k ⟨hk, hall⟩
 refine runW_sound ?_
 by_cases hlt : k < p.params.length
 ·by_cases he : p.params[k].1 = s
  ·have HN := Lib.hid (findS_par hlt he fun j hj => hall j hj (by omega))
   clear hall hf
   repeat' first | simp (disch := omega) only [go_sem, map_get hlt, parP, str_eq, he, decide_true, wrap_i64,] | ((with_reducible first | refine condD ?_ ?_ | refine condX ?_ ?_ | refine condW_intro ?_ ?_) <;> intro h <;> first | (exfalso; omega) | simp (disch := omega) only [go_sem, *, map_get hlt, parP, str_eq, he, decide_true, wrap_i64, ] | skip) | (with_reducible refine bothW_intro ?_ ?_) | (with_reducible refine nilW_intro (fun h => ?_) ?_)
   all_goals (rw [HN.out]; try rfl)
  ·have HA := Lib.hid hall
   clear hall hf
   repeat' first | simp (disch := omega) only [go_sem, map_get hlt, parP, str_eq, he, decide_false, wrap_i64] | ((with_reducible first | refine condD ?_ ?_ | refine condX ?_ ?_ | refine condW_intro ?_ ?_) <;> intro h <;> first | (exfalso; omega) | simp (disch := omega) only [go_sem, *, map_get hlt, parP, str_eq, he, decide_false, wrap_i64] | skip)
   exact ⟨k + 1, [], ⟨by omega, HA.out.succ fun _ => he⟩, by omega, by simp [Wk, wkF, wkM, wkL, look_cons, renV, renA, renC, renB, rn, clV, clA, clAs, clB, notIn, findB, findB_setB, clA.go]⟩
 ·have h0 : ∀ j (hj : j < p.params.length), ¬ p.params[j].1 = s := fun j hj => hall j (by omega) hj
  have H0 := Lib.hid h0
  clear hall h0
  repeat' first | simp (disch := omega) only [go_sem] | ((with_reducible first | refine condD ?_ ?_ | refine condX ?_ ?_ | refine condW_intro ?_ ?_) <;> intro h <;> first | (exfalso; omega) | simp (disch := omega) only [go_sem, *] | skip)
  refine AW_loop (fun k : Nat => ⟨[(8, I k), (4, .c (.ptr 1 0)), (2, .c (.ptr 0 0)), (1, S s)], [(1, .var [.pure (pI 0), .pure (pI 0), .pure (pI 0), .pure (pI 0), .pure (pI 0)]), (0, bPrg p)], 2, 0⟩) (fun k => k ≤ p.defs.length ∧ upTo (fun j => ∀ h : j < p.defs.length, ¬ p.defs[j].name = s) k) (fun k => p.defs.length - k) ⟨0, [], ⟨by omega, .zero⟩, by simp [Wk, wkF, wkM, wkL, look_cons, renV, renA, renC, renB, rn, clV, clA, clAs, clB, notIn, findB, findB_setB, clA.go]⟩ ?_
  rintro i ⟨hk, hall⟩
  refine runW_sound ?_
  by_cases hi : i < p.defs.length
  ·by_cases he : p.defs[i].name = s
   ·have HN := Lib.hid (findS_def H0.out hi he fun j hj => hall j hj (by omega))
    have HF := Lib.hid (hf.2 _ (List.getElem_mem hi))
    clear hall hf
    repeat' first | simp (disch := omega) only [go_sem, map_get hi, defP, str_eq, he, decide_true, wrap_i64] | ((with_reducible first | refine condD ?_ ?_ | refine condX ?_ ?_ | refine condW_intro ?_ ?_) <;> intro h <;> first | (exfalso; omega) | simp (disch := omega) only [go_sem, *, map_get hi, defP, str_eq, he, decide_true, wrap_i64] | skip)
    refine AW_adopt 9 47 2 rfl (by decide) ?_
    refine AW_loop (fun k : Nat => ⟨[(10, I k), (9, .c (.ref 2)), (8, I i), (4, .c (.ptr 1 0)), (2, .c (.ptr 0 0))], [(2, .arr 47 2 ((p.defs[i].dims.take k).map fun a => linP a.2)), (1, .var [.pure (pI 0), .pure (pI 0), .pure (pI 0), .pure (pI 0), .pure (pI 0)]), (0, bPrg p)], 3, 0⟩) (fun k => k ≤ p.defs[i].dims.length) (fun k => p.defs[i].dims.length - k) ⟨0, [], by omega, by simp [Wk, wkF, wkM, wkL, look_cons, renV, renA, renC, renB, rn, clV, clA, clAs, clB, notIn, findB, findB_setB, clA.go]⟩ ?_
    intro k hk
    refine runW_sound ?_
    by_cases hlt : k < p.defs[i].dims.length
    ·have hd := HF.out.1
     have ht : (p.defs[i].dims.take k).map (fun a : Axis => linP a.2) ++ [linP p.defs[i].dims[k].2] = (p.defs[i].dims.take (k + 1)).map fun a => linP a.2 := by rw [List.take_succ_eq_append_getElem hlt, List.map_append]; rfl
     simp only [linP] at ht
     have HT := Lib.hid ht
     clear ht HF
     repeat' first | simp (disch := omega) only [go_sem, map_get hi, defP, map_get hlt, axP, linP, wrap_i64] | ((with_reducible first | refine condD ?_ ?_ | refine condX ?_ ?_ | refine condW_intro ?_ ?_) <;> intro h <;> first | (exfalso; omega) | simp (disch := omega) only [go_sem, *, map_get hi, defP, map_get hlt, axP, linP, wrap_i64] | skip) | (refine app_own rfl (by intro h; cases h) (rowsOk_one rfl) (by simp; omega) (by simp; omega) ?_)
     rw [HT.out]
     exact ⟨k + 1, [(2, 3)], by omega, by omega, by simp [Wk, wkF, wkM, wkL, look_cons, renV, renA, renC, renB, rn, clV, clA, clAs, clB, notIn, findB, findB_setB, clA.go, linP]⟩
    ·repeat' first | simp (disch := omega) only [go_sem, map_get hi, defP] | ((with_reducible first | refine condD ?_ ?_ | refine condX ?_ ?_ | refine condW_intro ?_ ?_) <;> intro h <;> first | (exfalso; omega) | simp (disch := omega) only [go_sem, *, map_get hi, defP] | skip)
     rw [HN.out, List.take_of_length_le (by omega)]
     simp [List.map_map, Function.comp_def]
   ·have HA := Lib.hid hall
    clear hall hf
    repeat' first | simp (disch := omega) only [go_sem, map_get hi, defP, str_eq, he, decide_false, wrap_i64] | ((with_reducible first | refine condD ?_ ?_ | refine condX ?_ ?_ | refine condW_intro ?_ ?_) <;> intro h <;> first | (exfalso; omega) | simp (disch := omega) only [go_sem, *, map_get hi, defP, str_eq, he, decide_false, wrap_i64] | skip)
    exact ⟨i + 1, [], ⟨by omega, HA.out.succ fun _ => he⟩, by omega, by simp [Wk, wkF, wkM, wkL, look_cons, renV, renA, renC, renB, rn, clV, clA, clAs, clB, notIn, findB, findB_setB, clA.go]⟩
  ·have HN := Lib.hid (findS_none H0.out fun d hd => by
    obtain ⟨j, hj, rfl⟩ := List.mem_iff_getElem.1 hd
    exact hall j (by omega) hj)
   clear hall hf
   repeat' first | simp (disch := omega) only [go_sem] | ((with_reducible first | refine condD ?_ ?_ | refine condX ?_ ?_ | refine condW_intro ?_ ?_) <;> intro h <;> first | (exfalso; omega) | simp (disch := omega) only [go_sem, *] | skip)
   rw [HN.out]
   try rfl
end Go.Proofs.YtfjnhdfhgenkdaaGreatDoor
