/- Walks: Differentiable. -/
import Derived.Test.YtfjnhdfhgenkdaaGreatDoorV25t
set_option linter.unusedVariables false
set_option linter.unusedSimpArgs false
set_option maxRecDepth 20000
namespace Go.Proofs.YtfjnhdfhgenkdaaGreatDoor
open Go.Abs Go.RowKit

set_option maxHeartbeats 1000000 in
theorem dual_Differentiable_abs {p : Prg} (hf : fewP p) (h64 : prg64 p) : PCalls Tryz.prog n_dual_Differentiable [aPrg p] (.tup [I (difS p).1, I (difS p).2]) := by
 refine PCalls.of is_dual_Differentiable (by simp) fun hb => runW_sound ?_
 have cV := program_Validate_abs hf h64
 simp only [c_dual_Differentiable]
 by_cases hv : (validS p).2 = 0
 ·have hc := valid_cnt hv
  have cA := dual_active_abs hc
  have hbd := valid_bodies hv
  have hl3 := hc.2.2.1
  have HV := Lib.hid hv
  rw [hv] at cV
  clear hv hc
  repeat' first | simp (disch := omega) only [go_sem] | ((with_reducible first | refine condD ?_ ?_ | refine condX ?_ ?_ | refine condW_intro ?_ ?_) <;> intro h <;> first | (exfalso; omega) | simp (disch := omega) only [go_sem, *] | skip) | (refine callW_of cV rfl (.inl rfl) ?_) | (refine callW_of cA rfl (.inr rfl) ?_)
  refine AW_loop (fun k : Nat => ⟨[(23, I k), (22, I p.defs.length), (21, .c (.pure (pSl defP p.defs))), (6, .c (.pure (pStrs (actS p)))), (1, .c (.ptr 0 0))], [(0, bPrg p)], 1, 0⟩) (fun k => k ≤ p.defs.length ∧ upTo (fun j => lsI p j = 0) k) (fun k => p.defs.length - k) ⟨0, [], ⟨by omega, .zero⟩, by simp [Wk, wkF, wkM, wkL, look_cons, renV, renA, renC, renB, rn, clV, clA, clAs, clB, notIn, findB, findB_setB, clA.go]⟩ ?_
  clear cV cA
  rintro k ⟨hk, hall⟩
  refine runW_sound ?_
  by_cases hlt : k < p.defs.length
  ·have hd := hf.2 _ (List.getElem_mem hlt)
   have cI := program_IndexNames_abs (d := p.defs[k]) (by omega) (by omega)
   have cL := dual_loses_abs hf (idxNames p.defs[k]) (actS p) p.defs[k].body (exErr_rnk (hbd k hlt)) (h64 _ (List.getElem_mem hlt))
   have hs := lsI_at hlt
   clear hd
   by_cases hz : lsE p (idxNames p.defs[k]) (actS p) p.defs[k].body
   ·rw [if_pos hz] at hs
    rw [decide_eq_true hz] at cL
    rw [difS_at HV.out hlt hall hs]
    clear hall hs hz
    repeat' first | simp (disch := omega) only [go_sem, map_get hlt, defP, wrap_i64] | ((with_reducible first | refine condD ?_ ?_ | refine condX ?_ ?_ | refine condW_intro ?_ ?_) <;> intro h <;> first | (exfalso; omega) | simp (disch := omega) only [go_sem, *, map_get hlt, defP, wrap_i64] | skip) | (refine callW_of cI rfl (.inr rfl) ?_) | (refine callW_of cL rfl (.inl rfl) ?_)
   ·rw [if_neg hz] at hs
    rw [decide_eq_false hz] at cL
    have HA := Lib.hid (hall.succ hs)
    clear hall hs hz
    repeat' first | simp (disch := omega) only [go_sem, map_get hlt, defP, wrap_i64] | ((with_reducible first | refine condD ?_ ?_ | refine condX ?_ ?_ | refine condW_intro ?_ ?_) <;> intro h <;> first | (exfalso; omega) | simp (disch := omega) only [go_sem, *, map_get hlt, defP, wrap_i64] | skip) | (refine callW_of cI rfl (.inr rfl) ?_) | (refine callW_of cL rfl (.inl rfl) ?_)
    exact ⟨k + 1, [], ⟨by omega, HA.out⟩, by omega, by simp [Wk, wkF, wkM, wkL, look_cons, renV, renA, renC, renB, rn, clV, clA, clAs, clB, notIn, findB, findB_setB, clA.go]⟩
  ·rw [difS_ok HV.out fun j hj => hall j (by omega)]
   clear hall
   repeat' first | simp (disch := omega) only [go_sem] | ((with_reducible first | refine condD ?_ ?_ | refine condX ?_ ?_ | refine condW_intro ?_ ?_) <;> intro h <;> first | (exfalso; omega) | simp (disch := omega) only [go_sem, *] | skip)
 ·rw [difS_err hv]
  repeat' first | simp (disch := omega) only [go_sem, hv] | ((with_reducible first | refine condD ?_ ?_ | refine condX ?_ ?_ | refine condW_intro ?_ ?_) <;> intro h <;> first | (exfalso; omega) | simp (disch := omega) only [go_sem, *, hv] | skip) | (refine callW_of cV rfl (.inl rfl) ?_)
set_option maxHeartbeats 1000000 in
theorem ref25_Differentiable_abs {p : Prg} (hf : fewP p) (h64 : prg64 p) : PCalls Tryz.prog n_ref25_Differentiable [aPrg p] (.tup [I (difS p).1, I (difS p).2]) := by
 refine PCalls.of is_ref25_Differentiable (by simp) fun hb => runW_sound ?_
 have cV := ref17_Validate_abs hf h64
 simp only [c_ref25_Differentiable]
 by_cases hv : (validS p).2 = 0
 ·have hc := valid_cnt hv
  have cA := ref25_Active_abs hc (fun k hk => exErr_rnk (valid_bodies hv k hk))
  have hbd := valid_bodies hv
  have hl3 := hc.2.2.1
  have HV := Lib.hid hv
  rw [hv] at cV
  clear hv hc
  repeat' first | simp (disch := omega) only [go_sem] | ((with_reducible first | refine condD ?_ ?_ | refine condX ?_ ?_ | refine condW_intro ?_ ?_) <;> intro h <;> first | (exfalso; omega) | simp (disch := omega) only [go_sem, *] | skip) | (refine callW_of cV rfl (.inl rfl) ?_) | (refine callW_of cA rfl (.inr rfl) ?_)
  refine AW_loop (fun k : Nat => ⟨[(7, I k), (6, .c (.pure (pStrs (actS p)))), (1, .c (.ptr 0 0))], [(0, bPrg p)], 1, 0⟩) (fun k => k ≤ p.defs.length ∧ upTo (fun j => lsI p j = 0) k) (fun k => p.defs.length - k) ⟨0, [], ⟨by omega, .zero⟩, by simp [Wk, wkF, wkM, wkL, look_cons, renV, renA, renC, renB, rn, clV, clA, clAs, clB, notIn, findB, findB_setB, clA.go]⟩ ?_
  clear cV cA
  rintro k ⟨hk, hall⟩
  refine runW_sound ?_
  by_cases hlt : k < p.defs.length
  ·have hd := hf.2 _ (List.getElem_mem hlt)
   have cI := ref17_IndexNames_abs (d := p.defs[k]) (by omega) (by omega)
   have cL := ref25_lossy_abs hf (idxNames p.defs[k]) (actS p) p.defs[k].body (exErr_rnk (hbd k hlt)) (h64 _ (List.getElem_mem hlt))
   have hs := lsI_at hlt
   clear hd
   by_cases hz : lsE p (idxNames p.defs[k]) (actS p) p.defs[k].body
   ·rw [if_pos hz] at hs
    rw [decide_eq_true hz] at cL
    rw [difS_at HV.out hlt hall hs]
    clear hall hs hz
    repeat' first | simp (disch := omega) only [go_sem, map_get hlt, defP, wrap_i64] | ((with_reducible first | refine condD ?_ ?_ | refine condX ?_ ?_ | refine condW_intro ?_ ?_) <;> intro h <;> first | (exfalso; omega) | simp (disch := omega) only [go_sem, *, map_get hlt, defP, wrap_i64] | skip) | (refine callW_of cI rfl (.inr rfl) ?_) | (refine callW_of cL rfl (.inl rfl) ?_)
   ·rw [if_neg hz] at hs
    rw [decide_eq_false hz] at cL
    have HA := Lib.hid (hall.succ hs)
    clear hall hs hz
    repeat' first | simp (disch := omega) only [go_sem, map_get hlt, defP, wrap_i64] | ((with_reducible first | refine condD ?_ ?_ | refine condX ?_ ?_ | refine condW_intro ?_ ?_) <;> intro h <;> first | (exfalso; omega) | simp (disch := omega) only [go_sem, *, map_get hlt, defP, wrap_i64] | skip) | (refine callW_of cI rfl (.inr rfl) ?_) | (refine callW_of cL rfl (.inl rfl) ?_)
    exact ⟨k + 1, [], ⟨by omega, HA.out⟩, by omega, by simp [Wk, wkF, wkM, wkL, look_cons, renV, renA, renC, renB, rn, clV, clA, clAs, clB, notIn, findB, findB_setB, clA.go]⟩
  ·rw [difS_ok HV.out fun j hj => hall j (by omega)]
   clear hall
   repeat' first | simp (disch := omega) only [go_sem] | ((with_reducible first | refine condD ?_ ?_ | refine condX ?_ ?_ | refine condW_intro ?_ ?_) <;> intro h <;> first | (exfalso; omega) | simp (disch := omega) only [go_sem, *] | skip)
 ·rw [difS_err hv]
  repeat' first | simp (disch := omega) only [go_sem, hv] | ((with_reducible first | refine condD ?_ ?_ | refine condX ?_ ?_ | refine condW_intro ?_ ?_) <;> intro h <;> first | (exfalso; omega) | simp (disch := omega) only [go_sem, *, hv] | skip) | (refine callW_of cV rfl (.inl rfl) ?_)
end Go.Proofs.YtfjnhdfhgenkdaaGreatDoor
