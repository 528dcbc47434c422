/- Walks: long programs. -/
import Derived.Test.YtfjnhdfhgenkdaaGreatDoorV17w
import Derived.Test.YtfjnhdfhgenkdaaGreatDoorV17g
set_option linter.unusedVariables false
set_option linter.unusedSimpArgs false
set_option maxRecDepth 20000
namespace Go.Proofs.YtfjnhdfhgenkdaaGreatDoor
open Go.Abs Go.RowKit

noncomputable instance wideDec (l : List Lin) : Decidable (∃ x ∈ l, 20 < x.2.length) := Classical.propDecidable _
theorem ref17_wide_abs (l : List Lin) : PCalls Tryz.prog n_ref17_wide [aLins l] (Go.Abs.B (@decide (∃ x ∈ l, 20 < x.2.length) (wideDec l))) := by
 refine PCalls.of is_ref17_wide (by simp) fun hb => runW_sound ?_
 have hl : l.length ≤ 9223372036854775807 := by
  have := hb.1
  simpa [bndV, bndA] using this
 simp only [c_ref17_wide]
 repeat' first | simp (disch := omega) only [go_sem] | ((with_reducible first | refine condD ?_ ?_ | refine condX ?_ ?_ | refine condW_intro ?_ ?_) <;> intro h <;> first | (exfalso; omega) | simp (disch := omega) only [go_sem, *] | skip)
 refine AW_loop (fun k : Nat => ⟨[(3, I k), (0, aLins l)], [], 0, 0⟩) (fun k => k ≤ l.length ∧ upTo (fun i => ∀ h : i < l.length, ¬ 20 < l[i].2.length) k) (fun k => l.length - k) ⟨0, [], ⟨by omega, .zero⟩, by simp [Wk, wkF, wkM, wkL, look_cons, renV, renA, renC, renB, rn, clV, clA, clAs, clB, notIn, findB, findB_setB, clA.go]⟩ ?_
 rintro k ⟨hk, hall⟩
 refine runW_sound ?_
 by_cases hlt : k < l.length
 ·by_cases h : 20 < l[k].2.length
  ·rw [@decide_eq_true _ (wideDec l) ⟨l[k], List.getElem_mem hlt, h⟩]
   have h' : (l[k].2.length : Int) > 20 := by omega
   clear hall
   repeat' first | simp (disch := omega) only [go_sem, map_get hlt, linP, wrap_i64, h'] | ((with_reducible first | refine condD ?_ ?_ | refine condX ?_ ?_ | refine condW_intro ?_ ?_) <;> intro h <;> first | (exfalso; omega) | simp (disch := omega) only [go_sem, *, map_get hlt, linP, wrap_i64, h'] | skip)
  ·have HA := Lib.hid (hall.succ fun _ => h)
   have h' : ¬ (l[k].2.length : Int) > 20 := by omega
   clear hall h
   repeat' first | simp (disch := omega) only [go_sem, map_get hlt, linP, wrap_i64, h'] | ((with_reducible first | refine condD ?_ ?_ | refine condX ?_ ?_ | refine condW_intro ?_ ?_) <;> intro h <;> first | (exfalso; omega) | simp (disch := omega) only [go_sem, *, map_get hlt, linP, wrap_i64, h'] | skip)
   exact ⟨k + 1, [], ⟨by omega, HA.out⟩, by omega, by simp [Wk, wkF, wkM, wkL, look_cons, renV, renA, renC, renB, rn, clV, clA, clAs, clB, notIn, findB, findB_setB, clA.go]⟩
 ·rw [@decide_eq_false _ (wideDec l) (by
   rintro ⟨x, hx, h⟩
   obtain ⟨i, hi, rfl⟩ := List.mem_iff_getElem.1 hx
   exact hall i (by omega) hi h)]
  clear hall
  repeat' first | simp (disch := omega) only [go_sem] | ((with_reducible first | refine condD ?_ ?_ | refine condX ?_ ?_ | refine condW_intro ?_ ?_) <;> intro h <;> first | (exfalso; omega) | simp (disch := omega) only [go_sem, *] | skip)
set_option maxHeartbeats 4000000 in
theorem ref17_Long_abs (p : Prg) : PCalls Tryz.prog n_ref17_Long [aPrg p, I 300] (Go.Abs.B (decide (longS p))) := by
 refine PCalls.of is_ref17_Long (by simp) fun hb => runW_sound ?_
 simp only [c_ref17_Long]
 by_cases h5 : 12 < p.sizes.length ∨ 12 < p.wher.length ∨ 12 < p.params.length ∨ 12 < p.defs.length ∨ 12 < p.outs.length
 ·rw [decide_eq_true (show longS p from .inl h5)]
  repeat' first | simp (disch := omega) only [go_sem] | ((with_reducible first | refine condD ?_ ?_ | refine condX ?_ ?_ | refine condW_intro ?_ ?_) <;> intro h <;> first | (exfalso; omega) | simp (disch := omega) only [go_sem, *] | skip)
 ·have hd : (∀ i (h : i < p.wher.length), ¬ 20 < p.wher[i].1.2.length) → (∀ i (h : i < p.params.length), ¬ longX p.params[i]) → (∀ i (h : i < p.defs.length), ¬ longD p.defs[i]) → decide (longS p) = false := fun g1 g2 g3 => decide_eq_false (by
   rintro (h | ⟨x, hx, h⟩ | ⟨x, hx, h⟩ | ⟨x, hx, h⟩)
   ·exact h5 h
   ·obtain ⟨i, hi, rfl⟩ := List.mem_iff_getElem.1 hx
    exact g1 i hi h
   ·obtain ⟨i, hi, rfl⟩ := List.mem_iff_getElem.1 hx
    exact g2 i hi h
   ·obtain ⟨i, hi, rfl⟩ := List.mem_iff_getElem.1 hx
    exact g3 i hi h)
  have HF := Lib.hid hd
  clear hd
  obtain ⟨hl1, hl2, hl3, hl4, hl5⟩ : p.sizes.length ≤ 12 ∧ p.wher.length ≤ 12 ∧ p.params.length ≤ 12 ∧ p.defs.length ≤ 12 ∧ p.outs.length ≤ 12 := by omega
  clear h5
  repeat' first | simp (disch := omega) only [go_sem] | ((with_reducible first | refine condD ?_ ?_ | refine condX ?_ ?_ | refine condW_intro ?_ ?_) <;> intro h <;> first | (exfalso; omega) | simp (disch := omega) only [go_sem, *] | skip)
  refine AW_loop (fun k : Nat => ⟨[(5, I k), (2, .c (.ptr 0 0)), (1, I 300)], [(0, bPrg p)], 1, 0⟩) (fun k => k ≤ p.wher.length ∧ upTo (fun i => ∀ h : i < p.wher.length, ¬ 20 < p.wher[i].1.2.length) k) (fun k => p.wher.length - k) ⟨0, [], ⟨by omega, .zero⟩, by simp [Wk, wkF, wkM, wkL, look_cons, renV, renA, renC, renB, rn, clV, clA, clAs, clB, notIn, findB, findB_setB, clA.go]⟩ ?_
  rintro k ⟨hk, hall⟩
  refine runW_sound ?_
  by_cases hlt : k < p.wher.length
  ·by_cases h : 20 < p.wher[k].1.2.length
   ·rw [decide_eq_true (show longS p from .inr (.inl ⟨_, List.getElem_mem hlt, h⟩))]
    have h' : (p.wher[k].1.2.length : Int) > 20 := by omega
    clear hall
    repeat' first | simp (disch := omega) only [go_sem, map_get hlt, cP, wrap_i64, h'] | ((with_reducible first | refine condD ?_ ?_ | refine condX ?_ ?_ | refine condW_intro ?_ ?_) <;> intro h <;> first | (exfalso; omega) | simp (disch := omega) only [go_sem, *, map_get hlt, cP, wrap_i64, h'] | skip)
   ·have HA := Lib.hid (hall.succ fun _ => h)
    have h' : ¬ (p.wher[k].1.2.length : Int) > 20 := by omega
    clear hall h
    repeat' first | simp (disch := omega) only [go_sem, map_get hlt, cP, wrap_i64, h'] | ((with_reducible first | refine condD ?_ ?_ | refine condX ?_ ?_ | refine condW_intro ?_ ?_) <;> intro h <;> first | (exfalso; omega) | simp (disch := omega) only [go_sem, *, map_get hlt, cP, wrap_i64, h'] | skip)
    exact ⟨k + 1, [], ⟨by omega, HA.out⟩, by omega, by simp [Wk, wkF, wkM, wkL, look_cons, renV, renA, renC, renB, rn, clV, clA, clAs, clB, notIn, findB, findB_setB, clA.go]⟩
  have H1 : Hid (∀ i (h : i < p.wher.length), ¬ 20 < p.wher[i].1.2.length) := fun i hi => hall i (by omega) hi
  clear hall
  repeat' first | simp (disch := omega) only [go_sem] | ((with_reducible first | refine condD ?_ ?_ | refine condX ?_ ?_ | refine condW_intro ?_ ?_) <;> intro h <;> first | (exfalso; omega) | simp (disch := omega) only [go_sem, *] | skip)
  repeat clear hlt
  repeat clear hk
  refine AW_loop (fun k : Nat => ⟨[(6, I k), (2, .c (.ptr 0 0)), (1, I 300)], [(0, bPrg p)], 1, 0⟩) (fun k => k ≤ p.params.length ∧ upTo (fun i => ∀ h : i < p.params.length, ¬ longX p.params[i]) k) (fun k => p.params.length - k) ⟨0, [], ⟨by omega, .zero⟩, by simp [Wk, wkF, wkM, wkL, look_cons, renV, renA, renC, renB, rn, clV, clA, clAs, clB, notIn, findB, findB_setB, clA.go]⟩ ?_
  rintro k ⟨hk, hall⟩
  refine runW_sound ?_
  by_cases hlt : k < p.params.length
  ·have cW := ref17_wide_abs p.params[k].2.2
   by_cases h : longX p.params[k]
   ·rw [decide_eq_true (show longS p from .inr (.inr (.inl ⟨_, List.getElem_mem hlt, h⟩)))]
    by_cases hw : ∃ l ∈ p.params[k].2.2, 20 < l.2.length
    ·rw [decide_eq_true hw] at cW
     clear hall h hw
     repeat' first | simp (disch := omega) only [go_sem, map_get hlt, parP, wrap_i64] | ((with_reducible first | refine condD ?_ ?_ | refine condX ?_ ?_ | refine condW_intro ?_ ?_) <;> intro h <;> first | (exfalso; omega) | simp (disch := omega) only [go_sem, *, map_get hlt, parP, wrap_i64] | skip) | (refine callW_of cW rfl (.inl rfl) ?_)
    ·have h' : 12 < p.params[k].2.2.length := h.resolve_right hw
     clear hall h hw cW
     repeat' first | simp (disch := omega) only [go_sem, map_get hlt, parP, wrap_i64] | ((with_reducible first | refine condD ?_ ?_ | refine condX ?_ ?_ | refine condW_intro ?_ ?_) <;> intro h <;> first | (exfalso; omega) | simp (disch := omega) only [go_sem, *, map_get hlt, parP, wrap_i64] | skip)
   ·have HA := Lib.hid (hall.succ fun _ => h)
    have hw : ¬ ∃ l ∈ p.params[k].2.2, 20 < l.2.length := fun hh => h (.inr hh)
    have h' : ¬ 12 < p.params[k].2.2.length := fun hh => h (.inl hh)
    rw [decide_eq_false hw] at cW
    clear hall h hw
    repeat' first | simp (disch := omega) only [go_sem, map_get hlt, parP, wrap_i64] | ((with_reducible first | refine condD ?_ ?_ | refine condX ?_ ?_ | refine condW_intro ?_ ?_) <;> intro h <;> first | (exfalso; omega) | simp (disch := omega) only [go_sem, *, map_get hlt, parP, wrap_i64] | skip) | (refine callW_of cW rfl (.inl rfl) ?_)
    exact ⟨k + 1, [], ⟨by omega, HA.out⟩, by omega, by simp [Wk, wkF, wkM, wkL, look_cons, renV, renA, renC, renB, rn, clV, clA, clAs, clB, notIn, findB, findB_setB, clA.go]⟩
  have H2 : Hid (∀ i (h : i < p.params.length), ¬ longX p.params[i]) := fun i hi => hall i (by omega) hi
  clear hall
  repeat' first | simp (disch := omega) only [go_sem] | ((with_reducible first | refine condD ?_ ?_ | refine condX ?_ ?_ | refine condW_intro ?_ ?_) <;> intro h <;> first | (exfalso; omega) | simp (disch := omega) only [go_sem, *] | skip)
  repeat clear hlt
  repeat clear hk
  refine AW_loop (fun k : Nat => ⟨[(7, I k), (2, .c (.ptr 0 0)), (1, I 300)], [(0, bPrg p)], 1, 0⟩) (fun k => k ≤ p.defs.length ∧ upTo (fun i => ∀ h : i < p.defs.length, ¬ longD p.defs[i]) k) (fun k => p.defs.length - k) ⟨0, [], ⟨by omega, .zero⟩, by simp [Wk, wkF, wkM, wkL, look_cons, renV, renA, renC, renB, rn, clV, clA, clAs, clB, notIn, findB, findB_setB, clA.go]⟩ ?_
  rintro k ⟨hk, hall⟩
  refine runW_sound ?_
  by_cases hlt : k < p.defs.length
  ·have cW := base_Weigh_abs p.defs[k].body 300
   have hyes : longD p.defs[k] → longS p := fun h => .inr (.inr (.inr ⟨_, List.getElem_mem hlt, h⟩))
   by_cases h : 12 < p.defs[k].dims.length ∨ 12 < p.defs[k].red.length ∨ 300 < weigh p.defs[k].body 300
   ·rw [decide_eq_true (hyes (by
     rcases h with h | h | h
     ·exact .inl h
     ·exact .inr (.inl h)
     ·exact .inr (.inr (.inl h))))]
    clear hall hyes
    generalize weigh p.defs[k].body 300 = W at *
    repeat' first | simp (disch := omega) only [go_sem, map_get hlt, defP, wrap_i64] | ((with_reducible first | refine condD ?_ ?_ | refine condX ?_ ?_ | refine condW_intro ?_ ?_) <;> intro h <;> first | (exfalso; omega) | simp (disch := omega) only [go_sem, *, map_get hlt, defP, wrap_i64] | skip) | (refine callW_of cW rfl (.inl rfl) ?_)
   ·have hD : (∀ i (h : i < (p.defs[k].dims ++ p.defs[k].red).length), ¬ 20 < (p.defs[k].dims ++ p.defs[k].red)[i].2.2.length) → Hid (upTo (fun i => ∀ h : i < p.defs.length, ¬ longD p.defs[i]) (k + 1)) := fun g => hall.succ fun _ hh => by
     rcases hh with hh | hh | hh | ⟨a, ha, hh⟩
     ·exact h (.inl hh)
     ·exact h (.inr (.inl hh))
     ·exact h (.inr (.inr hh))
     ·obtain ⟨i, hi, rfl⟩ := List.mem_iff_getElem.1 ha
      exact g i hi hh
    have hy2 : ∀ i (h : i < (p.defs[k].dims ++ p.defs[k].red).length), 20 < (p.defs[k].dims ++ p.defs[k].red)[i].2.2.length → longS p := fun i hi hh => hyes (.inr (.inr (.inr ⟨_, List.getElem_mem hi, hh⟩)))
    obtain ⟨h1, h2, h3⟩ : p.defs[k].dims.length ≤ 12 ∧ p.defs[k].red.length ≤ 12 ∧ weigh p.defs[k].body 300 ≤ 300 := by omega
    clear hall hyes h
    generalize weigh p.defs[k].body 300 = W at *
    repeat' first | simp (disch := omega) only [go_sem, map_get hlt, defP, wrap_i64] | ((with_reducible first | refine condD ?_ ?_ | refine condX ?_ ?_ | refine condW_intro ?_ ?_) <;> intro h <;> first | (exfalso; omega) | simp (disch := omega) only [go_sem, *, map_get hlt, defP, wrap_i64] | skip) | (refine callW_of cW rfl (.inl rfl) ?_)
    clear cW h3
    refine AW_loop (fun j : Nat => ⟨[(9, I j), (8, .c (.ptr 1 0)), (7, I k), (2, .c (.ptr 0 0)), (1, I 300)], [(1, bDfn p.defs[k]), (0, bPrg p)], 2, 0⟩) (fun j => j ≤ (p.defs[k].dims ++ p.defs[k].red).length ∧ upTo (fun i => ∀ h : i < (p.defs[k].dims ++ p.defs[k].red).length, ¬ 20 < (p.defs[k].dims ++ p.defs[k].red)[i].2.2.length) j) (fun j => (p.defs[k].dims ++ p.defs[k].red).length - j) ⟨0, [], ⟨by omega, .zero⟩, by simp [Wk, wkF, wkM, wkL, look_cons, renV, renA, renC, renB, rn, clV, clA, clAs, clB, notIn, findB, findB_setB, clA.go]⟩ ?_
    rintro j ⟨hj, hal2⟩
    refine runW_sound ?_
    have hLl : (p.defs[k].dims ++ p.defs[k].red).length = p.defs[k].dims.length + p.defs[k].red.length := List.length_append
    by_cases hlt2 : j < (p.defs[k].dims ++ p.defs[k].red).length
    ·have hlt3 : (j : Int) < p.defs[k].dims.length + p.defs[k].red.length := by omega
     by_cases hdn : p.defs[k].dims = []
     ·have hget : (p.defs[k].dims ++ p.defs[k].red)[j] = p.defs[k].red[j]'(by simpa [hdn] using hlt2) := by simp [hdn]
      have hltr : j < p.defs[k].red.length := by simpa [hdn] using hlt2
      by_cases h : 20 < (p.defs[k].dims ++ p.defs[k].red)[j].2.2.length
      ·rw [decide_eq_true (hy2 j hlt2 h)]
       rw [hget] at h
       have h' : (p.defs[k].red[j].2.2.length : Int) > 20 := by omega
       clear hal2 hy2 hD hget h hlt2 hLl hj
       repeat' first | simp (disch := omega) only [go_sem, hdn, map_get hltr, axP, wrap_i64, h'] | ((with_reducible first | refine condD ?_ ?_ | refine condX ?_ ?_ | refine condW_intro ?_ ?_) <;> intro h <;> first | (exfalso; omega) | simp (disch := omega) only [go_sem, *, hdn, map_get hltr, axP, wrap_i64, h'] | skip) | (with_reducible refine bothW_intro ?_ ?_) | (with_reducible refine nilW_intro (fun h => ?_) ?_) | (refine app_tslN rowsOk_nil ?_) | (refine app_tslP rowsOk_nil (rowsOk_map fun x => rfl) (by simp; omega) (by simp; omega) ?_)
      ·have HA := Lib.hid (hal2.succ fun _ => h)
       rw [hget] at h
       have h' : ¬ (p.defs[k].red[j].2.2.length : Int) > 20 := by omega
       have hj2 : j + 1 ≤ (p.defs[k].dims ++ p.defs[k].red).length := by omega
       have hj3 : (p.defs[k].dims ++ p.defs[k].red).length - (j + 1) < (p.defs[k].dims ++ p.defs[k].red).length - j := by omega
       have ha2 := HA.out
       simp only [hdn, List.nil_append] at ha2 hj2 hj3
       have HA2 := Lib.hid ha2
       have HJ2 := Lib.hid hj2
       have HJ3 := Lib.hid hj3
       clear hal2 hy2 hget h hlt2 hLl hj hj2 hj3 ha2 HA
       repeat' first | simp (disch := omega) only [go_sem, hdn, map_get hltr, axP, wrap_i64, h'] | ((with_reducible first | refine condD ?_ ?_ | refine condX ?_ ?_ | refine condW_intro ?_ ?_) <;> intro h <;> first | (exfalso; omega) | simp (disch := omega) only [go_sem, *, hdn, map_get hltr, axP, wrap_i64, h'] | skip) | (with_reducible refine bothW_intro ?_ ?_) | (with_reducible refine nilW_intro (fun h => ?_) ?_) | (refine app_tslN rowsOk_nil ?_) | (refine app_tslP rowsOk_nil (rowsOk_map fun x => rfl) (by simp; omega) (by simp; omega) ?_)
       all_goals exact ⟨j + 1, [], ⟨HJ2.out, HA2.out⟩, HJ3.out, by simp [Wk, wkF, wkM, wkL, look_cons, renV, renA, renC, renB, rn, clV, clA, clAs, clB, notIn, findB, findB_setB, clA.go, hdn]⟩
     ·by_cases h : 20 < (p.defs[k].dims ++ p.defs[k].red)[j].2.2.length
      ·rw [decide_eq_true (hy2 j hlt2 h)]
       have h' : ((p.defs[k].dims ++ p.defs[k].red)[j].2.2.length : Int) > 20 := by omega
       clear hal2 hy2 hD h hj
       repeat' first | simp (disch := omega) only [go_sem, ← List.map_append, map_get hlt2, axP, wrap_i64, h'] | ((with_reducible first | refine condD ?_ ?_ | refine condX ?_ ?_ | refine condW_intro ?_ ?_) <;> intro h <;> first | (exfalso; omega) | simp (disch := omega) only [go_sem, *, ← List.map_append, map_get hlt2, axP, wrap_i64, h'] | skip) | (with_reducible refine bothW_intro ?_ ?_) | (with_reducible refine nilW_intro (fun h => ?_) ?_) | (refine app_tsl rowsOk_nil (rowsOk_map fun x => rfl) (by simpa using hdn) (by simp; omega) (by simp; omega) ?_) | (refine app_own rfl (by intro h; cases h) (rowsOk_map fun x => rfl) (by simp; omega) (by simp; omega) ?_)
      ·have HA := Lib.hid (hal2.succ fun _ => h)
       have h' : ¬ ((p.defs[k].dims ++ p.defs[k].red)[j].2.2.length : Int) > 20 := by omega
       clear hal2 hy2 h
       repeat' first | simp (disch := omega) only [go_sem, ← List.map_append, map_get hlt2, axP, wrap_i64, h'] | ((with_reducible first | refine condD ?_ ?_ | refine condX ?_ ?_ | refine condW_intro ?_ ?_) <;> intro h <;> first | (exfalso; omega) | simp (disch := omega) only [go_sem, *, ← List.map_append, map_get hlt2, axP, wrap_i64, h'] | skip) | (with_reducible refine bothW_intro ?_ ?_) | (with_reducible refine nilW_intro (fun h => ?_) ?_) | (refine app_tsl rowsOk_nil (rowsOk_map fun x => rfl) (by simpa using hdn) (by simp; omega) (by simp; omega) ?_) | (refine app_own rfl (by intro h; cases h) (rowsOk_map fun x => rfl) (by simp; omega) (by simp; omega) ?_)
       all_goals exact ⟨j + 1, [], ⟨by omega, HA.out⟩, by omega, by simp [Wk, wkF, wkM, wkL, look_cons, renV, renA, renC, renB, rn, clV, clA, clAs, clB, notIn, findB, findB_setB, clA.go]⟩
    ·have HA := hD fun i hi => hal2 i (by omega) hi
     have hlt3 : ¬ (j : Int) < p.defs[k].dims.length + p.defs[k].red.length := by omega
     clear hal2 hD hy2 hlt2 hLl hj
     repeat' first | simp (disch := omega) only [go_sem, wrap_i64] | ((with_reducible first | refine condD ?_ ?_ | refine condX ?_ ?_ | refine condW_intro ?_ ?_) <;> intro h <;> first | (exfalso; omega) | simp (disch := omega) only [go_sem, *, wrap_i64] | skip)
     exact ⟨k + 1, [], ⟨by omega, HA.out⟩, by omega, by simp [Wk, wkF, wkM, wkL, look_cons, renV, renA, renC, renB, rn, clV, clA, clAs, clB, notIn, findB, findB_setB, clA.go]⟩
  ·rw [HF.out H1.out H2.out fun i hi => hall i (by omega) hi]
   clear hall
   repeat' first | simp (disch := omega) only [go_sem] | ((with_reducible first | refine condD ?_ ?_ | refine condX ?_ ?_ | refine condW_intro ?_ ?_) <;> intro h <;> first | (exfalso; omega) | simp (disch := omega) only [go_sem, *] | skip)
theorem ref18_Small_abs (p : Prg) : PCalls Tryz.prog n_ref18_Small [aPrg p] (Go.Abs.B (decide (p.defs.length ≤ 8 ∧ ¬ longS p))) := by
 refine PCalls.of is_ref18_Small (by simp) fun hb => runW_sound ?_
 have cL := ref17_Long_abs p
 simp only [c_ref18_Small]
 by_cases h1 : p.defs.length ≤ 8
 ·by_cases h2 : longS p
  ·rw [decide_eq_true h2] at cL
   rw [decide_eq_false (fun h => h.2 h2)]
   clear h2
   repeat' first | simp (disch := omega) only [go_sem] | ((with_reducible first | refine condD ?_ ?_ | refine condX ?_ ?_ | refine condW_intro ?_ ?_) <;> intro h <;> first | (exfalso; omega) | simp (disch := omega) only [go_sem, *] | skip) | (refine callW_of cL rfl (.inl rfl) ?_)
   all_goals rfl
  ·rw [decide_eq_false h2] at cL
   rw [decide_eq_true ⟨h1, h2⟩]
   clear h2
   repeat' first | simp (disch := omega) only [go_sem] | ((with_reducible first | refine condD ?_ ?_ | refine condX ?_ ?_ | refine condW_intro ?_ ?_) <;> intro h <;> first | (exfalso; omega) | simp (disch := omega) only [go_sem, *] | skip) | (refine callW_of cL rfl (.inl rfl) ?_)
   all_goals rfl
 ·rw [decide_eq_false (fun h => h1 h.1)]
  clear cL
  repeat' first | simp (disch := omega) only [go_sem] | ((with_reducible first | refine condD ?_ ?_ | refine condX ?_ ?_ | refine condW_intro ?_ ?_) <;> intro h <;> first | (exfalso; omega) | simp (disch := omega) only [go_sem, *] | skip)
end Go.Proofs.YtfjnhdfhgenkdaaGreatDoor
