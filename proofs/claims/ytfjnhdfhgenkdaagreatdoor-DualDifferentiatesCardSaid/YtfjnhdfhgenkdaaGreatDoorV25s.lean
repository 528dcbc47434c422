/- Walks: active tensors and losses. -/
import Derived.Test.YtfjnhdfhgenkdaaGreatDoorV25r
set_option linter.unusedVariables false
set_option linter.unusedSimpArgs false
set_option maxRecDepth 20000
namespace Go.Proofs.YtfjnhdfhgenkdaaGreatDoor
open Go.Abs Go.RowKit

theorem pre_sub {e a b : Ex} (ha : a ∈ e.args) (hb : b ∈ a.pre) : b ∈ e.pre := by
 rw [Ex.pre_eq]
 refine List.mem_cons_of_mem _ ?_
 generalize e.args = l at ha
 induction l with
 | nil => cases ha
 | cons x r ihr =>
  rw [Ex.pres]
  rcases List.mem_cons.1 ha with rfl | ha
  ·exact List.mem_append_left _ hb
  ·exact List.mem_append_right _ (ihr ha)
set_option maxHeartbeats 1000000 in
theorem dual_active_abs {p : Prg} (hc : cntOk p) : PCalls Tryz.prog n_dual_active [aPrg p] (.c (.pure (pStrs (actS p)))) := by
 refine PCalls.of is_dual_active (by simp) fun hb => runW_sound ?_
 have hl2 := hc.2.1
 have hl3 := hc.2.2.1
 clear hc
 simp only [c_dual_active]
 repeat' first | simp (disch := omega) only [go_sem] | ((with_reducible first | refine condD ?_ ?_ | refine condX ?_ ?_ | refine condW_intro ?_ ?_) <;> intro h <;> first | (exfalso; omega) | simp (disch := omega) only [go_sem, *] | skip)
 refine AW_adopt 3 9 1 rfl (by decide) ?_
 refine AW_loop (fun k : Nat => ⟨[(11, I k), (10, I p.params.length), (9, .c (.pure (pSl parP p.params))), (3, .c (.ref 1)), (1, .c (.ptr 0 0))], [(1, .arr 9 1 ((actP p k).map fun s => [pS s])), (0, bPrg p)], 2, 0⟩) (fun k => k ≤ p.params.length) (fun k => p.params.length - k) ⟨0, [], by omega, by simp [Wk, wkF, wkM, wkL, look_cons, renV, renA, renC, renB, rn, clV, clA, clAs, clB, notIn, findB, findB_setB, clA.go, actP]⟩ ?_
 intro k hk
 refine runW_sound ?_
 have hlen := actP_len (p := p) k
 by_cases hlt : k < p.params.length
 ·by_cases ht : p.params[k].2.1.1 = 1
  ·have hw : (actP p k).map (fun s => [pS s]) ++ [[pS p.params[k].1]] = (actP p (k + 1)).map fun s => [pS s] := by rw [actP_yes hlt ht, List.map_append]; rfl
   have HW := Lib.hid hw
   clear hw
   repeat' first | simp (disch := omega) only [go_sem, map_get hlt, parP, wrap_i64, ht] | ((with_reducible first | refine condD ?_ ?_ | refine condX ?_ ?_ | refine condW_intro ?_ ?_) <;> intro h <;> first | (exfalso; omega) | simp (disch := omega) only [go_sem, *, map_get hlt, parP, wrap_i64, ht] | skip) | (refine app_own rfl (by intro h; cases h) (rowsOk_one rfl) (by simp; omega) (by simp; omega) ?_)
   rw [HW.out]
   exact ⟨k + 1, [(1, 3)], by omega, by omega, by simp [Wk, wkF, wkM, wkL, look_cons, renV, renA, renC, renB, rn, clV, clA, clAs, clB, notIn, findB, findB_setB, clA.go]⟩
  ·have HE := Lib.hid (actP_no hlt ht)
   repeat' first | simp (disch := omega) only [go_sem, map_get hlt, parP, wrap_i64, ht] | ((with_reducible first | refine condD ?_ ?_ | refine condX ?_ ?_ | refine condW_intro ?_ ?_) <;> intro h <;> first | (exfalso; omega) | simp (disch := omega) only [go_sem, *, map_get hlt, parP, wrap_i64, ht] | skip)
   rw [← HE.out]
   exact ⟨k + 1, [], by omega, by omega, by simp [Wk, wkF, wkM, wkL, look_cons, renV, renA, renC, renB, rn, clV, clA, clAs, clB, notIn, findB, findB_setB, clA.go]⟩
 ·have hkp : k = p.params.length := by omega
  subst hkp
  rw [show actP p p.params.length = actD p 0 from rfl]
  repeat clear hlt
  repeat clear hk
  clear hlen
  repeat' first | simp (disch := omega) only [go_sem] | ((with_reducible first | refine condD ?_ ?_ | refine condX ?_ ?_ | refine condW_intro ?_ ?_) <;> intro h <;> first | (exfalso; omega) | simp (disch := omega) only [go_sem, *] | skip)
  refine AW_loop (fun k : Nat => ⟨[(28, I k), (27, I p.defs.length), (26, .c (.pure (pSl defP p.defs))), (3, .c (.ref 1))], [(1, .arr 9 1 ((actD p k).map fun s => [pS s])), (0, bPrg p)], 2, 0⟩) (fun k => k ≤ p.defs.length) (fun k => p.defs.length - k) ⟨0, [], by omega, by simp [Wk, wkF, wkM, wkL, look_cons, renV, renA, renC, renB, rn, clV, clA, clAs, clB, notIn, findB, findB_setB, clA.go]⟩ ?_
  intro k hk
  refine runW_sound ?_
  have hlen := actD_len (p := p) k
  by_cases hlt : k < p.defs.length
  ·have cR := dual_reads_abs (actD p k) p.defs[k].body
   by_cases ht : p.defs[k].ty.1 = 1
   ·by_cases hr : rdE (actD p k) p.defs[k].body
    ·rw [decide_eq_true hr] at cR
     have hw : (actD p k).map (fun s => [pS s]) ++ [[pS p.defs[k].name]] = (actD p (k + 1)).map fun s => [pS s] := by rw [actD_yes hlt ht hr, List.map_append]; rfl
     have HW := Lib.hid hw
     clear hw hr
     repeat' first | simp (disch := omega) only [go_sem, map_get hlt, defP, wrap_i64, ht] | ((with_reducible first | refine condD ?_ ?_ | refine condX ?_ ?_ | refine condW_intro ?_ ?_) <;> intro h <;> first | (exfalso; omega) | simp (disch := omega) only [go_sem, *, map_get hlt, defP, wrap_i64, ht] | skip) | (refine callW_of cR rfl (.inl rfl) ?_) | (refine app_own rfl (by intro h; cases h) (rowsOk_one rfl) (by simp; omega) (by simp; omega) ?_)
     rw [HW.out]
     exact ⟨k + 1, [(1, 3)], by omega, by omega, by simp [Wk, wkF, wkM, wkL, look_cons, renV, renA, renC, renB, rn, clV, clA, clAs, clB, notIn, findB, findB_setB, clA.go]⟩
    ·rw [decide_eq_false hr] at cR
     have HE := Lib.hid (actD_no hlt fun h => hr h.2)
     clear hr
     repeat' first | simp (disch := omega) only [go_sem, map_get hlt, defP, wrap_i64, ht] | ((with_reducible first | refine condD ?_ ?_ | refine condX ?_ ?_ | refine condW_intro ?_ ?_) <;> intro h <;> first | (exfalso; omega) | simp (disch := omega) only [go_sem, *, map_get hlt, defP, wrap_i64, ht] | skip) | (refine callW_of cR rfl (.inl rfl) ?_)
     rw [← HE.out]
     exact ⟨k + 1, [], by omega, by omega, by simp [Wk, wkF, wkM, wkL, look_cons, renV, renA, renC, renB, rn, clV, clA, clAs, clB, notIn, findB, findB_setB, clA.go]⟩
   ·have HE := Lib.hid (actD_no hlt fun h => ht h.1)
    repeat' first | simp (disch := omega) only [go_sem, map_get hlt, defP, wrap_i64, ht] | ((with_reducible first | refine condD ?_ ?_ | refine condX ?_ ?_ | refine condW_intro ?_ ?_) <;> intro h <;> first | (exfalso; omega) | simp (disch := omega) only [go_sem, *, map_get hlt, defP, wrap_i64, ht] | skip) | (refine callW_of cR rfl (.inl rfl) ?_)
    rw [← HE.out]
    exact ⟨k + 1, [], by omega, by omega, by simp [Wk, wkF, wkM, wkL, look_cons, renV, renA, renC, renB, rn, clV, clA, clAs, clB, notIn, findB, findB_setB, clA.go]⟩
  ·have hkp : k = p.defs.length := by omega
   subst hkp
   repeat' first | simp (disch := omega) only [go_sem] | ((with_reducible first | refine condD ?_ ?_ | refine condX ?_ ?_ | refine condW_intro ?_ ?_) <;> intro h <;> first | (exfalso; omega) | simp (disch := omega) only [go_sem, *] | skip)
   try simp [actS]
set_option maxHeartbeats 1000000 in
theorem ref25_Active_abs {p : Prg} (hc : cntOk p) (hrk : ∀ k (hk : k < p.defs.length), rnkAll p.defs[k].body) : PCalls Tryz.prog n_ref25_Active [aPrg p] (.c (.pure (pStrs (actS p)))) := by
 refine PCalls.of is_ref25_Active (by simp) fun hb => runW_sound ?_
 have hl2 := hc.2.1
 have hl3 := hc.2.2.1
 clear hc
 simp only [c_ref25_Active]
 repeat' first | simp (disch := omega) only [go_sem] | ((with_reducible first | refine condD ?_ ?_ | refine condX ?_ ?_ | refine condW_intro ?_ ?_) <;> intro h <;> first | (exfalso; omega) | simp (disch := omega) only [go_sem, *] | skip)
 refine AW_adopt 3 9 1 rfl (by decide) ?_
 refine AW_loop (fun k : Nat => ⟨[(4, I k), (3, .c (.ref 1)), (1, .c (.ptr 0 0))], [(1, .arr 9 1 ((actP p k).map fun s => [pS s])), (0, bPrg p)], 2, 0⟩) (fun k => k ≤ p.params.length) (fun k => p.params.length - k) ⟨0, [], by omega, by simp [Wk, wkF, wkM, wkL, look_cons, renV, renA, renC, renB, rn, clV, clA, clAs, clB, notIn, findB, findB_setB, clA.go, actP]⟩ ?_
 intro k hk
 refine runW_sound ?_
 have hlen := actP_len (p := p) k
 by_cases hlt : k < p.params.length
 ·by_cases ht : p.params[k].2.1.1 = 1
  ·have hw : (actP p k).map (fun s => [pS s]) ++ [[pS p.params[k].1]] = (actP p (k + 1)).map fun s => [pS s] := by rw [actP_yes hlt ht, List.map_append]; rfl
   have HW := Lib.hid hw
   clear hw
   repeat' first | simp (disch := omega) only [go_sem, map_get hlt, parP, wrap_i64, ht] | ((with_reducible first | refine condD ?_ ?_ | refine condX ?_ ?_ | refine condW_intro ?_ ?_) <;> intro h <;> first | (exfalso; omega) | simp (disch := omega) only [go_sem, *, map_get hlt, parP, wrap_i64, ht] | skip) | (refine app_own rfl (by intro h; cases h) (rowsOk_one rfl) (by simp; omega) (by simp; omega) ?_)
   rw [HW.out]
   exact ⟨k + 1, [(1, 2)], by omega, by omega, by simp [Wk, wkF, wkM, wkL, look_cons, renV, renA, renC, renB, rn, clV, clA, clAs, clB, notIn, findB, findB_setB, clA.go]⟩
  ·have HE := Lib.hid (actP_no hlt ht)
   repeat' first | simp (disch := omega) only [go_sem, map_get hlt, parP, wrap_i64, ht] | ((with_reducible first | refine condD ?_ ?_ | refine condX ?_ ?_ | refine condW_intro ?_ ?_) <;> intro h <;> first | (exfalso; omega) | simp (disch := omega) only [go_sem, *, map_get hlt, parP, wrap_i64, ht] | skip)
   rw [← HE.out]
   exact ⟨k + 1, [], by omega, by omega, by simp [Wk, wkF, wkM, wkL, look_cons, renV, renA, renC, renB, rn, clV, clA, clAs, clB, notIn, findB, findB_setB, clA.go]⟩
 ·have hkp : k = p.params.length := by omega
  subst hkp
  rw [show actP p p.params.length = actD p 0 from rfl]
  repeat clear hlt
  repeat clear hk
  clear hlen
  repeat' first | simp (disch := omega) only [go_sem] | ((with_reducible first | refine condD ?_ ?_ | refine condX ?_ ?_ | refine condW_intro ?_ ?_) <;> intro h <;> first | (exfalso; omega) | simp (disch := omega) only [go_sem, *] | skip)
  refine AW_loop (fun k : Nat => ⟨[(5, I k), (3, .c (.ref 1)), (1, .c (.ptr 0 0))], [(1, .arr 9 1 ((actD p k).map fun s => [pS s])), (0, bPrg p)], 2, 0⟩) (fun k => k ≤ p.defs.length) (fun k => p.defs.length - k) ⟨0, [], by omega, by simp [Wk, wkF, wkM, wkL, look_cons, renV, renA, renC, renB, rn, clV, clA, clAs, clB, notIn, findB, findB_setB, clA.go]⟩ ?_
  intro k hk
  refine runW_sound ?_
  have hlen := actD_len (p := p) k
  by_cases hlt : k < p.defs.length
  ·have cR := ref25_reads_abs (actD p k) p.defs[k].body (hrk k hlt)
   by_cases ht : p.defs[k].ty.1 = 1
   ·by_cases hr : rdE (actD p k) p.defs[k].body
    ·rw [decide_eq_true hr] at cR
     have hw : (actD p k).map (fun s => [pS s]) ++ [[pS p.defs[k].name]] = (actD p (k + 1)).map fun s => [pS s] := by rw [actD_yes hlt ht hr, List.map_append]; rfl
     have HW := Lib.hid hw
     clear hw hr
     repeat' first | simp (disch := omega) only [go_sem, map_get hlt, defP, wrap_i64, ht] | ((with_reducible first | refine condD ?_ ?_ | refine condX ?_ ?_ | refine condW_intro ?_ ?_) <;> intro h <;> first | (exfalso; omega) | simp (disch := omega) only [go_sem, *, map_get hlt, defP, wrap_i64, ht] | skip) | (refine callW_of cR rfl (.inl rfl) ?_) | (refine app_own rfl (by intro h; cases h) (rowsOk_one rfl) (by simp; omega) (by simp; omega) ?_)
     rw [HW.out]
     exact ⟨k + 1, [(1, 2)], by omega, by omega, by simp [Wk, wkF, wkM, wkL, look_cons, renV, renA, renC, renB, rn, clV, clA, clAs, clB, notIn, findB, findB_setB, clA.go]⟩
    ·rw [decide_eq_false hr] at cR
     have HE := Lib.hid (actD_no hlt fun h => hr h.2)
     clear hr
     repeat' first | simp (disch := omega) only [go_sem, map_get hlt, defP, wrap_i64, ht] | ((with_reducible first | refine condD ?_ ?_ | refine condX ?_ ?_ | refine condW_intro ?_ ?_) <;> intro h <;> first | (exfalso; omega) | simp (disch := omega) only [go_sem, *, map_get hlt, defP, wrap_i64, ht] | skip) | (refine callW_of cR rfl (.inl rfl) ?_)
     rw [← HE.out]
     exact ⟨k + 1, [], by omega, by omega, by simp [Wk, wkF, wkM, wkL, look_cons, renV, renA, renC, renB, rn, clV, clA, clAs, clB, notIn, findB, findB_setB, clA.go]⟩
   ·have HE := Lib.hid (actD_no hlt fun h => ht h.1)
    repeat' first | simp (disch := omega) only [go_sem, map_get hlt, defP, wrap_i64, ht] | ((with_reducible first | refine condD ?_ ?_ | refine condX ?_ ?_ | refine condW_intro ?_ ?_) <;> intro h <;> first | (exfalso; omega) | simp (disch := omega) only [go_sem, *, map_get hlt, defP, wrap_i64, ht] | skip) | (refine callW_of cR rfl (.inl rfl) ?_)
    rw [← HE.out]
    exact ⟨k + 1, [], by omega, by omega, by simp [Wk, wkF, wkM, wkL, look_cons, renV, renA, renC, renB, rn, clV, clA, clAs, clB, notIn, findB, findB_setB, clA.go]⟩
  ·have hkp : k = p.defs.length := by omega
   subst hkp
   repeat' first | simp (disch := omega) only [go_sem] | ((with_reducible first | refine condD ?_ ?_ | refine condX ?_ ?_ | refine condW_intro ?_ ?_) <;> intro h <;> first | (exfalso; omega) | simp (disch := omega) only [go_sem, *] | skip)
   try simp [actS]
end Go.Proofs.YtfjnhdfhgenkdaaGreatDoor
