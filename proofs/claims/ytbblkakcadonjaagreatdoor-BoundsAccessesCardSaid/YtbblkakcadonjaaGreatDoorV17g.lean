/- Walks: the reference's validity of programs, whole. -/
import Derived.Test.YtbblkakcadonjaaGreatDoorV17f
set_option linter.unusedVariables false
set_option linter.unusedSimpArgs false
set_option maxRecDepth 20000
set_option maxHeartbeats 4000000
set_option maxRecDepth 1000000
namespace Go.Proofs.YtbblkakcadonjaaGreatDoor
open Go.Abs Go.RowKit

theorem rowsStr (l : List ByteArray) : rowsOk 1 (l.map fun s => [pS s]) := rowsOk_map fun x => rfl
theorem ref17_sizes_abs (p : Prg) : PCalls Tryz.prog n_ref17_sizes [aPrg p] (I (if cntOk p then szErr p else 2)) := by
 refine PCalls.of is_ref17_sizes (by simp) fun hb => runW_sound ?_
 conv in c_ref17_sizes => cbv
 by_cases hc : cntOk p
 ·rw [if_pos hc]
  have h1 : ¬ (p.sizes.length : Int) > 64 := by have := hc.1; omega
  have h2 : ¬ (p.params.length : Int) > 64 := by have := hc.2.1; omega
  have h3 : ¬ (p.defs.length : Int) > 64 := by have := hc.2.2.1; omega
  have h4 : ¬ (p.outs.length : Int) > 64 := by have := hc.2.2.2.1; omega
  have h5 : ¬ (p.wher.length : Int) > 256 := by have := hc.2.2.2.2; omega
  clear hc
  repeat' first | simp (disch := omega) only [go_sem, *] | ((with_reducible refine condT ?_ ?_) <;> intro h <;> try omega)
  refine AW_loop (fun k : Nat => ⟨[(3, I k), (1, .c (.ptr 0 0))], [(0, bPrg p)], 1, 0⟩) (fun k => k ≤ p.sizes.length ∧ upTo (fun j => szE p j = 0) k) (fun k => p.sizes.length - k) ⟨0, [], ⟨by omega, .zero⟩, by simp⟩ ?_
  clear h2 h3 h4 h5
  rintro k ⟨hk, hall⟩
  refine runW_sound ?_
  by_cases hlt : k < p.sizes.length
  ·have hs := szE_at hlt
   by_cases hz : nameErr (p.sizes.take k) p.sizes[k] = 0
   ·have HA := Lib.hid (hall.succ (hs.trans hz))
    clear hall hs
    repeat' first | simp (disch := omega) only [go_sem, *, map_get hlt, wrap_i64, ← List.map_take, rowsStr, Option.getD_none, Option.getD_some, hz] | ((with_reducible refine condT ?_ ?_) <;> intro h <;> try omega) | (refine w_L (ref17_name_abs p.sizes[k] (p.sizes.take k)) rfl rfl ?_)
    exact ⟨k + 1, [], ⟨by omega, HA.out⟩, by omega, by simp⟩
   ·rw [szErr_at hlt hall hs hz]
    clear hall hs
    repeat' first | simp (disch := omega) only [go_sem, *, map_get hlt, wrap_i64, ← List.map_take, rowsStr, Option.getD_none, Option.getD_some, hz] | ((with_reducible refine condT ?_ ?_) <;> intro h <;> try omega) | (refine w_L (ref17_name_abs p.sizes[k] (p.sizes.take k)) rfl rfl ?_)
  ·rw [szErr_ok fun j hj => hall j (by omega)]
   clear hall
   repeat' first | simp (disch := omega) only [go_sem, *] | ((with_reducible refine condT ?_ ?_) <;> intro h <;> try omega)
 ·rw [if_neg hc]
  have hc' : ¬ ((p.sizes.length : Int) ≤ 64 ∧ (p.params.length : Int) ≤ 64 ∧ (p.defs.length : Int) ≤ 64 ∧ (p.outs.length : Int) ≤ 64 ∧ (p.wher.length : Int) ≤ 256) := fun h => hc (by unfold cntOk; omega)
  clear hc
  have HC := Lib.hid hc'
  clear hc'
  repeat' first | simp (disch := omega) only [go_sem, *] | ((with_reducible refine condT ?_ ?_) <;> intro h <;> try omega)
  all_goals (exfalso; have := HC.out; omega)
def tkV (nx : Nat) (l : List ByteArray) : AV := if l = [] then .c (.tsl []) else .c (.ref nx)
def tkM (nx : Nat) (l : List ByteArray) (m : List (Nat × Box)) : List (Nat × Box) := if l = [] then m else (nx, .arr 9 1 (l.map fun s => [pS s])) :: m
def tkN (nx : Nat) (l : List ByteArray) : Nat := if l = [] then nx else nx + 1
theorem tkSt_eq {fr : List (Nat × AV)} {t : Nat} {mem : List (Nat × Box)} {nx : Nat} {l : List ByteArray} : tkSt fr t mem nx l = ⟨(t, tkV nx l) :: fr, tkM nx l mem, tkN nx l, 0⟩ := by
 unfold tkSt tkV tkM tkN
 split <;> rfl
theorem tkM_find {b : Box} {l : List ByteArray} : findB (tkM 1 l [(0, b)]) 0 = some b := by
 unfold tkM
 split
 ·rfl
 ·rfl
theorem app_tk {bytes : Nat} {y : AV} {ys : List ByteArray} {fr : List (Nat × AV)} {mem : List (Nat × Box)} {nx : Nat} {K : Blk (AV → St → Prop)} (h1 : ys.length * bytes ≤ 140737488355328) (h2 : ys.length ≤ 140737488355328)
  (hk : K.out (tkV nx ys) ⟨fr, tkM nx ys mem, tkN nx ys, 0⟩) : @appW 9 1 bytes (.c (.tsl [])) y (ys.map fun s => [pS s]) ⟨fr, mem, nx, 0⟩ K := by
 by_cases h : ys = []
 ·subst h
  exact app_tslN rowsOk_nil hk
 ·unfold tkV tkM tkN at hk
  rw [if_neg h, if_neg h, if_neg h] at hk
  exact app_tsl rowsOk_nil (rowsOk_map fun x => rfl) (by simpa using h) (by simpa using h1) (by simpa using h2) hk
theorem takenP_zero {p : Prg} : takenP p 0 = p.sizes := by simp [takenP]
theorem takenD_full {p : Prg} : takenD p 0 = takenP p p.params.length := by rw [takenD_zero, takenP_full]
set_option maxHeartbeats 4000000 in
theorem ref17_Validate_abs {p : Prg} (hf : fewP p) (h64 : prg64 p) : PCalls Tryz.prog n_ref17_Validate [aPrg p] (.tup [I (validS p).1, I (validS p).2]) := by
 refine PCalls.of is_ref17_Validate (by simp) fun hb => runW_sound ?_
 conv in c_ref17_Validate => cbv
 have cS := ref17_sizes_abs p
 by_cases hc : cntOk p
 ·rw [if_pos hc] at cS
  by_cases hs : szErr p = 0
  ·rw [hs] at cS
   have hl1 := hc.1
   have hl2 := hc.2.1
   have hl3 := hc.2.2.1
   have hl4 := hc.2.2.2.1
   have hl5 := hc.2.2.2.2
   have HC := Lib.hid hc
   have HS := Lib.hid hs
   clear hc hs
   repeat' first | simp (disch := omega) only [go_sem, *] | ((with_reducible refine condT ?_ ?_) <;> intro h <;> try omega) | (refine w_L cS rfl rfl ?_)
   refine AW_loop (fun k : Nat => ⟨[(5, I k), (1, .c (.ptr 0 0))], [(0, bPrg p)], 1, 0⟩) (fun k => k ≤ p.wher.length ∧ Hid (fstE ((p.wher.map fun c => formErr p.sizes c.1).take k) = 0)) (fun k => p.wher.length - k) ⟨0, [], ⟨by omega, by show _ = _; simp [fstE]⟩, by simp⟩ ?_
   clear cS
   rintro k ⟨hk, hall⟩
   refine runW_sound ?_
   by_cases hlt : k < p.wher.length
   ·have hlm : k < (p.wher.map fun c => formErr p.sizes c.1).length := by simpa using hlt
    have h4 := fstE_takeN hlm hall.out
    have h5 := fstE_hit hlm hall.out
    rw [List.getElem_map] at h4 h5
    clear hall
    by_cases hz : formErr p.sizes p.wher[k].1 = 0
    ·have HN := Lib.hid (h4.trans hz)
     clear h4 h5
     repeat' first | simp (disch := omega) only [go_sem, *, map_get hlt, cP, wrap_i64, hz] | ((with_reducible refine condT ?_ ?_) <;> intro h <;> try omega) | (refine w_L (ref17_form_abs p.wher[k].1 _) rfl rfl ?_)
     exact ⟨k + 1, [], ⟨by omega, HN⟩, by omega, by simp⟩
    ·rw [validS_wh HC.out HS.out (h5 hz) hz]
     clear h4 h5
     repeat' first | simp (disch := omega) only [go_sem, *, map_get hlt, cP, wrap_i64, hz] | ((with_reducible refine condT ?_ ?_) <;> intro h <;> try omega) | (refine w_L (ref17_form_abs p.wher[k].1 _) rfl rfl ?_)
   have hw : whErr p = 0 := by
    have hz := hall.out
    rw [List.take_of_length_le (by simp; omega)] at hz
    exact hz
   have HW := Lib.hid hw
   clear hall hw
   repeat' first | simp (disch := omega) only [go_sem, *] | ((with_reducible refine condT ?_ ?_) <;> intro h <;> try omega) | (refine app_tk (by omega) (by omega) ?_)
   repeat clear hlt
   repeat clear hk
   refine AW_loop (fun k : Nat => tkSt [(8, I ((2 : Int) + k)), (9, I k), (1, .c (.ptr 0 0))] 7 [(0, bPrg p)] 1 (takenP p k)) (fun k => k ≤ p.params.length ∧ upTo (fun j => parE p j = 0) k) (fun k => p.params.length - k) ⟨0, [], ⟨by omega, .zero⟩, by rw [takenP_zero, tkSt_eq]; unfold tkV tkM tkN; split <;> simp⟩ ?_
   rintro k ⟨hk, hall⟩
   refine runW_sound ?_
   have hlen := (taken_len k HC.out).1
   by_cases hlt : k < p.params.length
   ·have hs := parE_at hlt
    by_cases hz : parErr p.sizes (takenP p k) p.params[k] = 0
    ·have HA := Lib.hid (hall.succ (hs.trans hz))
     have hsu := takenP_succ hlt
     have HN : Hid (takenP p (k + 1) ≠ []) := by show _ ≠ _; rw [hsu]; simp
     clear hall hs
     by_cases htn : takenP p k = []
     ·have hw : ([[pS p.params[k].1]] : List (List PC)) = (takenP p (k + 1)).map fun s => [pS s] := by rw [hsu, htn]; rfl
      have HW := Lib.hid hw
      rw [htn] at hz ⊢
      clear hw hsu htn
      rw [tkSt_nil]
      repeat' first | simp (disch := omega) only [go_sem, *, map_get hlt, parP, wrap_i64, hz] | ((with_reducible refine condT ?_ ?_) <;> intro h <;> try omega) | (refine w_L (ref17_param_abs p.params[k] _ []) rfl rfl ?_) | (refine app_tsl rowsOk_nil (rowsOk_one rfl) (by simp) (by simp) (by simp) ?_)
      refine ⟨k + 1, [], ⟨by omega, HA.out⟩, by omega, ?_⟩
      rw [tkSt_cons HN.out, HW.out]
      simp
      try omega
     ·have hw : (takenP p k).map (fun s => [pS s]) ++ [[pS p.params[k].1]] = (takenP p (k + 1)).map fun s => [pS s] := by rw [hsu, List.map_append]; rfl
      have HW := Lib.hid hw
      rw [tkSt_cons htn]
      clear hw hsu htn
      repeat' first | simp (disch := omega) only [go_sem, *, map_get hlt, parP, wrap_i64, hz] | ((with_reducible refine condT ?_ ?_) <;> intro h <;> try omega) | (refine w_L (ref17_param_abs p.params[k] _ _) rfl rfl ?_) | (refine app_own rfl (by intro h; cases h) (rowsOk_one rfl) (by simp; omega) (by simp; omega) ?_)
      refine ⟨k + 1, [(1, 2)], ⟨by omega, HA.out⟩, by omega, ?_⟩
      rw [tkSt_cons HN.out, HW.out]
      simp
      try omega
    ·rw [validS_par HC.out HS.out HW.out hlt hall hs hz]
     clear hall hs
     by_cases htn : takenP p k = []
     ·rw [htn] at hz ⊢
      clear htn
      rw [tkSt_nil]
      repeat' first | simp (disch := omega) only [go_sem, *, map_get hlt, parP, wrap_i64, hz] | ((with_reducible refine condT ?_ ?_) <;> intro h <;> try omega) | (refine w_L (ref17_param_abs p.params[k] _ []) rfl rfl ?_)
     ·rw [tkSt_cons htn]
      clear htn
      repeat' first | simp (disch := omega) only [go_sem, *, map_get hlt, parP, wrap_i64, hz] | ((with_reducible refine condT ?_ ?_) <;> intro h <;> try omega) | (refine w_L (ref17_param_abs p.params[k] _ _) rfl rfl ?_)
   have HP : Hid (∀ j, j < p.params.length → parE p j = 0) := fun j hj => hall j (by omega)
   have hkp : k = p.params.length := by omega
   clear hall hlen
   subst hkp
   repeat clear hlt
   repeat clear hk
   rw [tkSt_eq]
   repeat' first | simp (disch := omega) only [go_sem, *, tkM_find] | ((with_reducible refine condT ?_ ?_) <;> intro h <;> try omega)
   refine AW_loop (fun k : Nat => tkSt [(8, I ((2 : Int) + p.params.length + k)), (11, I k), (1, .c (.ptr 0 0))] 7 [(0, bPrg p)] 1 (takenD p k)) (fun k => k ≤ p.defs.length ∧ upTo (fun j => defE p j = 0) k) (fun k => p.defs.length - k) ⟨0, [], ⟨by omega, .zero⟩, by rw [takenD_full, tkSt_eq]; unfold tkV tkM tkN; split <;> simp⟩ ?_
   rintro k ⟨hk, hall⟩
   refine runW_sound ?_
   have hlen := (taken_len k HC.out).2
   by_cases hlt : k < p.defs.length
   ·have hs := defE_at hlt
    by_cases hz : defErr p k (takenD p k) p.defs[k] = 0
    ·have HA := Lib.hid (hall.succ (hs.trans hz))
     have hsu := takenD_succ hlt
     have HN : Hid (takenD p (k + 1) ≠ []) := by show _ ≠ _; rw [hsu]; simp
     clear hall hs
     by_cases htn : takenD p k = []
     ·have hw : ([[pS p.defs[k].name]] : List (List PC)) = (takenD p (k + 1)).map fun s => [pS s] := by rw [hsu, htn]; rfl
      have HW := Lib.hid hw
      rw [htn] at hz ⊢
      clear hw hsu htn
      rw [tkSt_nil]
      repeat' first | simp (disch := omega) only [go_sem, *, map_get hlt, defP, wrap_i64, hz] | ((with_reducible refine condT ?_ ?_) <;> intro h <;> try omega) | (refine w_L (ref17_def_abs hf h64 HC.out hlt []) rfl rfl ?_) | (refine app_tsl rowsOk_nil (rowsOk_one rfl) (by simp) (by simp) (by simp) ?_)
      refine ⟨k + 1, [], ⟨by omega, HA.out⟩, by omega, ?_⟩
      rw [tkSt_cons HN.out, HW.out]
      simp
      try omega
     ·have hw : (takenD p k).map (fun s => [pS s]) ++ [[pS p.defs[k].name]] = (takenD p (k + 1)).map fun s => [pS s] := by rw [hsu, List.map_append]; rfl
      have HW := Lib.hid hw
      rw [tkSt_cons htn]
      clear hw hsu htn
      repeat' first | simp (disch := omega) only [go_sem, *, map_get hlt, defP, wrap_i64, hz] | ((with_reducible refine condT ?_ ?_) <;> intro h <;> try omega) | (refine w_L (ref17_def_abs hf h64 HC.out hlt _) rfl rfl ?_) | (refine app_own rfl (by intro h; cases h) (rowsOk_one rfl) (by simp; omega) (by simp; omega) ?_)
      refine ⟨k + 1, [(1, 2)], ⟨by omega, HA.out⟩, by omega, ?_⟩
      rw [tkSt_cons HN.out, HW.out]
      simp
      try omega
    ·rw [validS_def HC.out HS.out HW.out HP.out hlt hall hs hz]
     clear hall hs
     by_cases htn : takenD p k = []
     ·rw [htn] at hz ⊢
      clear htn
      rw [tkSt_nil]
      repeat' first | simp (disch := omega) only [go_sem, *, map_get hlt, defP, wrap_i64, hz] | ((with_reducible refine condT ?_ ?_) <;> intro h <;> try omega) | (refine w_L (ref17_def_abs hf h64 HC.out hlt []) rfl rfl ?_)
     ·rw [tkSt_cons htn]
      clear htn
      repeat' first | simp (disch := omega) only [go_sem, *, map_get hlt, defP, wrap_i64, hz] | ((with_reducible refine condT ?_ ?_) <;> intro h <;> try omega) | (refine w_L (ref17_def_abs hf h64 HC.out hlt _) rfl rfl ?_)
   have HD : Hid (∀ j, j < p.defs.length → defE p j = 0) := fun j hj => hall j (by omega)
   have hkp : k = p.defs.length := by omega
   clear hall hlen
   subst hkp
   repeat clear hlt
   repeat clear hk
   rw [tkSt_eq]
   repeat' first | simp (disch := omega) only [go_sem, *, tkM_find] | ((with_reducible refine condT ?_ ?_) <;> intro h <;> try omega)
   refine AW_loop (fun k : Nat => ⟨[(8, I ((2 : Int) + p.params.length + p.defs.length + k)), (13, I k), (1, .c (.ptr 0 0))], [(0, bPrg p)], 1, 0⟩) (fun k => k ≤ p.outs.length ∧ upTo (fun j => outE p j = 0) k) (fun k => p.outs.length - k) ⟨0, [], ⟨by omega, .zero⟩, by unfold tkV tkM tkN; split <;> simp⟩ ?_
   rintro k ⟨hk, hall⟩
   refine runW_sound ?_
   by_cases hlt : k < p.outs.length
   ·have hs := outE_at hlt
    have cF := ref17_Find_abs hf p.outs[k]
    have cB := base_Has_abs (p.outs.take k) p.outs[k]
    by_cases hn : findS p p.outs[k] = none
    ·rw [if_pos hn] at hs
     rw [validS_out HC.out HS.out HW.out HP.out HD.out hlt hall hs (by decide)]
     rw [hn] at cF
     clear hall hs hn
     repeat' first | simp (disch := omega) only [go_sem, *, map_get hlt, wrap_i64] | ((with_reducible refine condT ?_ ?_) <;> intro h <;> try omega) | (refine w_R cF rfl rfl ?_)
    ·obtain ⟨r, hr⟩ : ∃ r, findS p p.outs[k] = some r := by
      cases h : findS p p.outs[k] with
      | none => exact absurd h hn
      | some r => exact ⟨r, rfl⟩
     rw [if_neg hn] at hs
     rw [hr] at cF
     clear hn hr
     obtain ⟨t, dims⟩ := r
     by_cases hm : p.outs[k] ∈ p.outs.take k
     ·rw [if_pos hm] at hs
      rw [validS_out HC.out HS.out HW.out HP.out HD.out hlt hall hs (by decide)]
      clear hall hs
      repeat' first | simp (disch := omega) only [go_sem, *, map_get hlt, wrap_i64, ← List.map_take, rowsStr, Option.getD_none, Option.getD_some, hm, decide_true] | ((with_reducible refine condT ?_ ?_) <;> intro h <;> try omega) | (refine w_R cF rfl rfl ?_) | (refine w_L cB rfl rfl ?_)
     ·rw [if_neg hm] at hs
      have HA := Lib.hid (hall.succ hs)
      clear hall hs
      repeat' first | simp (disch := omega) only [go_sem, *, map_get hlt, wrap_i64, ← List.map_take, rowsStr, Option.getD_none, Option.getD_some, hm, decide_false] | ((with_reducible refine condT ?_ ?_) <;> intro h <;> try omega) | (refine w_R cF rfl rfl ?_) | (refine w_L cB rfl rfl ?_)
      exact ⟨k + 1, [], ⟨by omega, HA.out⟩, by omega, by simp; omega⟩
   ·rw [validS_ok HC.out HS.out HW.out HP.out HD.out fun j hj => hall j (by omega)]
    clear hall
    repeat' first | simp (disch := omega) only [go_sem, *] | ((with_reducible refine condT ?_ ?_) <;> intro h <;> try omega)
  ·rw [validS_sz hc rfl hs]
   repeat' first | simp (disch := omega) only [go_sem, *, hs] | ((with_reducible refine condT ?_ ?_) <;> intro h <;> try omega) | (refine w_L cS rfl rfl ?_)
 ·rw [if_neg hc] at cS
  rw [validS_cnt hc]
  repeat' first | simp (disch := omega) only [go_sem, *] | ((with_reducible refine condT ?_ ?_) <;> intro h <;> try omega) | (refine w_L cS rfl rfl ?_)
end Go.Proofs.YtbblkakcadonjaaGreatDoor
