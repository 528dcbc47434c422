/- Walks: the reference's definitions. -/
import Derived.Test.YtbblkakcadonjaaGreatDoorV17e
set_option linter.unusedVariables false
set_option linter.unusedSimpArgs false
set_option maxRecDepth 20000
set_option maxHeartbeats 4000000
set_option maxRecDepth 1000000
namespace Go.Proofs.YtbblkakcadonjaaGreatDoor
open Go.Abs Go.RowKit

theorem ref17_reduction_abs (d : Dfn) : PCalls Tryz.prog n_ref17_reduction [aDfn d] (I (foldErr d)) := by
 refine PCalls.of is_ref17_reduction (by simp) fun hb => runW_sound ?_
 conv in c_ref17_reduction => cbv
 repeat' first | simp (disch := omega) only [go_sem, *, eqb_T] | ((with_reducible refine condT ?_ ?_) <;> intro h <;> try omega)
 all_goals (refine IE ?_; unfold foldErr; grind)
theorem ref17_IndexNames_abs {d : Dfn} (h1 : d.dims.length ≤ 1000) (h2 : d.red.length ≤ 1000) : PCalls Tryz.prog n_ref17_IndexNames [aDfn d] (.c (.pure (pStrs (idxNames d)))) := by
 refine PCalls.of is_ref17_IndexNames (by simp) fun hb => runW_sound ?_
 conv in c_ref17_IndexNames => cbv
 repeat' first | simp (disch := omega) only [go_sem, *] | ((with_reducible refine condT ?_ ?_) <;> intro h <;> try omega)
 refine AW_adopt 3 9 1 rfl (by decide) ?_
 refine AW_loop (fun k : Nat => ⟨[(4, I k), (3, .c (.ref 1)), (1, .c (.ptr 0 0))], [(1, .arr 9 1 ((d.dims.take k).map fun a => [pS a.1])), (0, bDfn d)], 2, 0⟩) (fun k => k ≤ d.dims.length) (fun k => d.dims.length - k) ⟨0, [], by omega, by simp⟩ ?_
 intro k hk
 refine runW_sound ?_
 by_cases hlt : k < d.dims.length
 ·have ht : (d.dims.take k).map (fun a : Axis => [pS a.1]) ++ [[pS d.dims[k].1]] = (d.dims.take (k + 1)).map fun a => [pS a.1] := by rw [List.take_succ_eq_append_getElem hlt, List.map_append]; rfl
  have HT := Lib.hid ht
  clear ht
  repeat' first | simp (disch := omega) only [go_sem, *, map_get hlt, axP, wrap_i64] | ((with_reducible refine condT ?_ ?_) <;> intro h <;> try omega) | (refine app_own rfl (by intro h; cases h) (rowsOk_one rfl) (by simp; omega) (by simp; omega) ?_)
  rw [HT.out]
  exact ⟨k + 1, [(1, 2)], by omega, by omega, by simp⟩
 ·repeat' first | simp (disch := omega) only [go_sem, *] | ((with_reducible refine condT ?_ ?_) <;> intro h <;> try omega)
  refine AW_loop (fun k : Nat => ⟨[(5, I k), (3, .c (.ref 1)), (1, .c (.ptr 0 0))], [(1, .arr 9 1 (d.dims.map (fun a => [pS a.1]) ++ (d.red.take k).map fun a => [pS a.1])), (0, bDfn d)], 2, 0⟩) (fun k => k ≤ d.red.length) (fun k => d.red.length - k) ⟨0, [], by omega, by rw [List.take_of_length_le (by omega)]; simp⟩ ?_
  clear hlt hk
  intro k hk
  refine runW_sound ?_
  by_cases hlt : k < d.red.length
  ·have ht : d.dims.map (fun a : Axis => [pS a.1]) ++ (d.red.take k).map (fun a : Axis => [pS a.1]) ++ [[pS d.red[k].1]] = d.dims.map (fun a : Axis => [pS a.1]) ++ (d.red.take (k + 1)).map fun a => [pS a.1] := by rw [List.take_succ_eq_append_getElem hlt, List.map_append, List.append_assoc]; rfl
   have HT := Lib.hid ht
   clear ht
   repeat' first | simp (disch := omega) only [go_sem, *, map_get hlt, axP, wrap_i64] | ((with_reducible refine condT ?_ ?_) <;> intro h <;> try omega) | (refine app_own rfl (by intro h; cases h) (rowsOk_one rfl) (by simp; omega) (by simp; omega) ?_)
   rw [HT.out]
   exact ⟨k + 1, [(1, 2)], by omega, by omega, by simp⟩
  ·repeat' first | simp (disch := omega) only [go_sem, *] | ((with_reducible refine condT ?_ ?_) <;> intro h <;> try omega)
   rw [List.take_of_length_le (by omega)]
   simp [idxNames, List.map_map, Function.comp_def]
set_option maxHeartbeats 4000000 in
theorem ref17_def_abs {p : Prg} (hf : fewP p) (h64 : prg64 p) (hc : cntOk p) {k : Nat} (hk : k < p.defs.length) (taken : List ByteArray) : PCalls Tryz.prog n_ref17_def [aPrg p, I k, .c (.pure (pStrs taken))] (I (defErr p k taken p.defs[k])) := by
 refine PCalls.of is_ref17_def (by simp) fun hb => runW_sound ?_
 have cT := ref17_TypeOf_abs (fewP_before hf k) (idxNames p.defs[k]) (h64 _ (List.getElem_mem hk))
 have hsz := hc.1
 have hRo : rowsOk 22 (p.defs.map defP) := rowsOk_map fun x => rfl
 conv in c_ref17_def => cbv
 by_cases h1 : nameErr taken p.defs[k].name = 0
 ·by_cases h2 : tyOk p.defs[k].ty
  ·by_cases h3 : 6 < p.defs[k].dims.length ∨ 6 < p.defs[k].red.length
   ·rw [show defErr p k taken p.defs[k] = 11 by unfold defErr; rw [if_neg (not_not_intro h1), if_neg (not_not_intro h2), if_pos h3]]
    repeat' first | simp (disch := omega) only [go_sem, *, map_get hk, defP, h1, h2, decide_true] | ((with_reducible refine condT ?_ ?_) <;> intro h <;> try omega) | (refine w_L (ref17_name_abs _ _) rfl rfl ?_) | (refine w_L (base_Type_ty p.defs[k].ty) rfl rfl ?_)
   ·by_cases hd : p.defs[k].dims = []
    ·have cA := ref17_axes_abs p.defs[k].red p.sizes (by omega) (by omega)
     have cR := ref17_reduction_abs p.defs[k]
     have cI := ref17_IndexNames_abs (d := p.defs[k]) (by omega) (by omega)
     simp only [aDfn, hd] at cR cI
     by_cases h4 : axErrs p.sizes p.sizes (p.defs[k].dims ++ p.defs[k].red) = 0
     ·by_cases h5 : foldErr p.defs[k] = 0
      ·have hT : (typeOf (before p k) (idxNames p.defs[k]) p.defs[k].body) = (typeOf { p with wher := [], defs := p.defs.take k, outs := [] } (idxNames p.defs[k]) p.defs[k].body) := rfl
       by_cases h6 : (typeOf (before p k) (idxNames p.defs[k]) p.defs[k].body).2 = 0
       ·by_cases h7 : (typeOf (before p k) (idxNames p.defs[k]) p.defs[k].body).1 = p.defs[k].ty
        ·rw [show defErr p k taken p.defs[k] = 0 by unfold defErr; rw [if_neg (not_not_intro h1), if_neg (not_not_intro h2), if_neg h3, if_neg (not_not_intro h4), if_neg (not_not_intro h5), ← hT, if_neg (not_not_intro h6), if_neg (not_not_intro h7)]]
         clear hT
         generalize typeOf (before p k) (idxNames p.defs[k]) p.defs[k].body = r at *
         obtain ⟨r1, r2⟩ := r
         simp only at h6 h7
         subst h7
         have h4' : axErrs p.sizes p.sizes p.defs[k].red = 0 := by rw [hd, List.nil_append] at h4; exact h4
         repeat' first | simp (disch := omega) only [go_sem, *, map_get hk, defP, h1, h2, h4', h5, h6, decide_true, ← List.map_take, hRo, Option.getD_none, Option.getD_some, hd] | ((with_reducible refine condT ?_ ?_) <;> intro h <;> try omega) | (with_reducible refine bothW_intro ?_ ?_) | (with_reducible refine nilW_intro (fun h => ?_) ?_) | (refine w_L (ref17_name_abs _ _) rfl rfl ?_) | (refine w_L (base_Type_ty p.defs[k].ty) rfl rfl ?_) | (refine w_L cA rfl rfl ?_) | (refine app_tslN rowsOk_nil ?_) | (refine app_tslP rowsOk_nil (rowsOk_map fun x => rfl) (by simp; omega) (by simp; omega) ?_) | (refine w_L cR rfl rfl ?_) | (refine w_R cI rfl rfl ?_) | (refine w_L cT rfl rfl ?_)
        ·rw [show defErr p k taken p.defs[k] = 10 by unfold defErr; rw [if_neg (not_not_intro h1), if_neg (not_not_intro h2), if_neg h3, if_neg (not_not_intro h4), if_neg (not_not_intro h5), ← hT, if_neg (not_not_intro h6), if_pos h7]]
         clear hT
         generalize typeOf (before p k) (idxNames p.defs[k]) p.defs[k].body = r at *
         have h4' : axErrs p.sizes p.sizes p.defs[k].red = 0 := by rw [hd, List.nil_append] at h4; exact h4
         repeat' first | simp (disch := omega) only [go_sem, *, map_get hk, defP, h1, h2, h4', h5, h6, decide_true, ← List.map_take, hRo, Option.getD_none, Option.getD_some, hd] | ((with_reducible refine condT ?_ ?_) <;> intro h <;> try omega) | (with_reducible refine bothW_intro ?_ ?_) | (with_reducible refine nilW_intro (fun h => ?_) ?_) | (refine w_L (ref17_name_abs _ _) rfl rfl ?_) | (refine w_L (base_Type_ty p.defs[k].ty) rfl rfl ?_) | (refine w_L cA rfl rfl ?_) | (refine app_tslN rowsOk_nil ?_) | (refine app_tslP rowsOk_nil (rowsOk_map fun x => rfl) (by simp; omega) (by simp; omega) ?_) | (refine w_L cR rfl rfl ?_) | (refine w_R cI rfl rfl ?_) | (refine w_L cT rfl rfl ?_)
         all_goals first
          | exact absurd (ty_ext h) h7
          | rfl
       ·rw [show defErr p k taken p.defs[k] = (typeOf (before p k) (idxNames p.defs[k]) p.defs[k].body).2 by unfold defErr; rw [if_neg (not_not_intro h1), if_neg (not_not_intro h2), if_neg h3, if_neg (not_not_intro h4), if_neg (not_not_intro h5), ← hT, if_pos h6]]
        clear hT
        generalize typeOf (before p k) (idxNames p.defs[k]) p.defs[k].body = r at *
        have h4' : axErrs p.sizes p.sizes p.defs[k].red = 0 := by rw [hd, List.nil_append] at h4; exact h4
        repeat' first | simp (disch := omega) only [go_sem, *, map_get hk, defP, h1, h2, h4', h5, h6, decide_true, ← List.map_take, hRo, Option.getD_none, Option.getD_some, hd] | ((with_reducible refine condT ?_ ?_) <;> intro h <;> try omega) | (with_reducible refine bothW_intro ?_ ?_) | (with_reducible refine nilW_intro (fun h => ?_) ?_) | (refine w_L (ref17_name_abs _ _) rfl rfl ?_) | (refine w_L (base_Type_ty p.defs[k].ty) rfl rfl ?_) | (refine w_L cA rfl rfl ?_) | (refine app_tslN rowsOk_nil ?_) | (refine app_tslP rowsOk_nil (rowsOk_map fun x => rfl) (by simp; omega) (by simp; omega) ?_) | (refine w_L cR rfl rfl ?_) | (refine w_R cI rfl rfl ?_) | (refine w_L cT rfl rfl ?_)
      ·rw [show defErr p k taken p.defs[k] = foldErr p.defs[k] by unfold defErr; rw [if_neg (not_not_intro h1), if_neg (not_not_intro h2), if_neg h3, if_neg (not_not_intro h4), if_pos h5]]
       have h4' : axErrs p.sizes p.sizes p.defs[k].red = 0 := by rw [hd, List.nil_append] at h4; exact h4
       repeat' first | simp (disch := omega) only [go_sem, *, map_get hk, defP, h1, h2, h4', h5, decide_true, hd] | ((with_reducible refine condT ?_ ?_) <;> intro h <;> try omega) | (with_reducible refine bothW_intro ?_ ?_) | (with_reducible refine nilW_intro (fun h => ?_) ?_) | (refine w_L (ref17_name_abs _ _) rfl rfl ?_) | (refine w_L (base_Type_ty p.defs[k].ty) rfl rfl ?_) | (refine w_L cA rfl rfl ?_) | (refine app_tslN rowsOk_nil ?_) | (refine app_tslP rowsOk_nil (rowsOk_map fun x => rfl) (by simp; omega) (by simp; omega) ?_) | (refine w_L cR rfl rfl ?_)
     ·rw [show defErr p k taken p.defs[k] = axErrs p.sizes p.sizes (p.defs[k].dims ++ p.defs[k].red) by unfold defErr; rw [if_neg (not_not_intro h1), if_neg (not_not_intro h2), if_neg h3, if_pos h4]]
      have h4' : ¬ axErrs p.sizes p.sizes p.defs[k].red = 0 := by rw [hd, List.nil_append] at h4; exact h4
      repeat' first | simp (disch := omega) only [go_sem, *, map_get hk, defP, h1, h2, h4', decide_true, hd] | ((with_reducible refine condT ?_ ?_) <;> intro h <;> try omega) | (with_reducible refine bothW_intro ?_ ?_) | (with_reducible refine nilW_intro (fun h => ?_) ?_) | (refine w_L (ref17_name_abs _ _) rfl rfl ?_) | (refine w_L (base_Type_ty p.defs[k].ty) rfl rfl ?_) | (refine w_L cA rfl rfl ?_) | (refine app_tslN rowsOk_nil ?_) | (refine app_tslP rowsOk_nil (rowsOk_map fun x => rfl) (by simp; omega) (by simp; omega) ?_)
    ·have cA := ref17_axes_abs (p.defs[k].dims ++ p.defs[k].red) p.sizes (by simp; omega) (by omega)
     rw [show aSl axP (p.defs[k].dims ++ p.defs[k].red) = .c (.pure (.slice (p.defs[k].dims.map axP ++ p.defs[k].red.map axP))) by show AV.c (.pure (.slice (List.map axP (_ ++ _)))) = _; rw [List.map_append]] at cA
     have cR := ref17_reduction_abs p.defs[k]
     have cI := ref17_IndexNames_abs (d := p.defs[k]) (by omega) (by omega)
     by_cases h4 : axErrs p.sizes p.sizes (p.defs[k].dims ++ p.defs[k].red) = 0
     ·by_cases h5 : foldErr p.defs[k] = 0
      ·have hT : (typeOf (before p k) (idxNames p.defs[k]) p.defs[k].body) = (typeOf { p with wher := [], defs := p.defs.take k, outs := [] } (idxNames p.defs[k]) p.defs[k].body) := rfl
       by_cases h6 : (typeOf (before p k) (idxNames p.defs[k]) p.defs[k].body).2 = 0
       ·by_cases h7 : (typeOf (before p k) (idxNames p.defs[k]) p.defs[k].body).1 = p.defs[k].ty
        ·rw [show defErr p k taken p.defs[k] = 0 by unfold defErr; rw [if_neg (not_not_intro h1), if_neg (not_not_intro h2), if_neg h3, if_neg (not_not_intro h4), if_neg (not_not_intro h5), ← hT, if_neg (not_not_intro h6), if_neg (not_not_intro h7)]]
         clear hT
         generalize typeOf (before p k) (idxNames p.defs[k]) p.defs[k].body = r at *
         obtain ⟨r1, r2⟩ := r
         simp only at h6 h7
         subst h7
         have h4' : axErrs p.sizes p.sizes (p.defs[k].dims ++ p.defs[k].red) = 0 := h4
         repeat' first | simp (disch := omega) only [go_sem, *, map_get hk, defP, h1, h2, h4', h5, h6, decide_true, ← List.map_take, hRo, Option.getD_none, Option.getD_some] | ((with_reducible refine condT ?_ ?_) <;> intro h <;> try omega) | (with_reducible refine bothW_intro ?_ ?_) | (with_reducible refine nilW_intro (fun h => ?_) ?_) | (refine w_L (ref17_name_abs _ _) rfl rfl ?_) | (refine w_L (base_Type_ty p.defs[k].ty) rfl rfl ?_) | (refine w_L cA rfl rfl ?_) | (refine app_tsl rowsOk_nil (rowsOk_map fun x => rfl) (by simpa using hd) (by simp; omega) (by simp; omega) ?_) | (refine app_own rfl (by intro h; cases h) (rowsOk_map fun x => rfl) (by simp; omega) (by simp; omega) ?_) | (refine w_L cR rfl rfl ?_) | (refine w_R cI rfl rfl ?_) | (refine w_L cT rfl rfl ?_)
        ·rw [show defErr p k taken p.defs[k] = 10 by unfold defErr; rw [if_neg (not_not_intro h1), if_neg (not_not_intro h2), if_neg h3, if_neg (not_not_intro h4), if_neg (not_not_intro h5), ← hT, if_neg (not_not_intro h6), if_pos h7]]
         clear hT
         generalize typeOf (before p k) (idxNames p.defs[k]) p.defs[k].body = r at *
         have h4' : axErrs p.sizes p.sizes (p.defs[k].dims ++ p.defs[k].red) = 0 := h4
         repeat' first | simp (disch := omega) only [go_sem, *, map_get hk, defP, h1, h2, h4', h5, h6, decide_true, ← List.map_take, hRo, Option.getD_none, Option.getD_some] | ((with_reducible refine condT ?_ ?_) <;> intro h <;> try omega) | (with_reducible refine bothW_intro ?_ ?_) | (with_reducible refine nilW_intro (fun h => ?_) ?_) | (refine w_L (ref17_name_abs _ _) rfl rfl ?_) | (refine w_L (base_Type_ty p.defs[k].ty) rfl rfl ?_) | (refine w_L cA rfl rfl ?_) | (refine app_tsl rowsOk_nil (rowsOk_map fun x => rfl) (by simpa using hd) (by simp; omega) (by simp; omega) ?_) | (refine app_own rfl (by intro h; cases h) (rowsOk_map fun x => rfl) (by simp; omega) (by simp; omega) ?_) | (refine w_L cR rfl rfl ?_) | (refine w_R cI rfl rfl ?_) | (refine w_L cT rfl rfl ?_)
         all_goals first
          | exact absurd (ty_ext h) h7
          | rfl
       ·rw [show defErr p k taken p.defs[k] = (typeOf (before p k) (idxNames p.defs[k]) p.defs[k].body).2 by unfold defErr; rw [if_neg (not_not_intro h1), if_neg (not_not_intro h2), if_neg h3, if_neg (not_not_intro h4), if_neg (not_not_intro h5), ← hT, if_pos h6]]
        clear hT
        generalize typeOf (before p k) (idxNames p.defs[k]) p.defs[k].body = r at *
        have h4' : axErrs p.sizes p.sizes (p.defs[k].dims ++ p.defs[k].red) = 0 := h4
        repeat' first | simp (disch := omega) only [go_sem, *, map_get hk, defP, h1, h2, h4', h5, h6, decide_true, ← List.map_take, hRo, Option.getD_none, Option.getD_some] | ((with_reducible refine condT ?_ ?_) <;> intro h <;> try omega) | (with_reducible refine bothW_intro ?_ ?_) | (with_reducible refine nilW_intro (fun h => ?_) ?_) | (refine w_L (ref17_name_abs _ _) rfl rfl ?_) | (refine w_L (base_Type_ty p.defs[k].ty) rfl rfl ?_) | (refine w_L cA rfl rfl ?_) | (refine app_tsl rowsOk_nil (rowsOk_map fun x => rfl) (by simpa using hd) (by simp; omega) (by simp; omega) ?_) | (refine app_own rfl (by intro h; cases h) (rowsOk_map fun x => rfl) (by simp; omega) (by simp; omega) ?_) | (refine w_L cR rfl rfl ?_) | (refine w_R cI rfl rfl ?_) | (refine w_L cT rfl rfl ?_)
      ·rw [show defErr p k taken p.defs[k] = foldErr p.defs[k] by unfold defErr; rw [if_neg (not_not_intro h1), if_neg (not_not_intro h2), if_neg h3, if_neg (not_not_intro h4), if_pos h5]]
       have h4' : axErrs p.sizes p.sizes (p.defs[k].dims ++ p.defs[k].red) = 0 := h4
       repeat' first | simp (disch := omega) only [go_sem, *, map_get hk, defP, h1, h2, h4', h5, decide_true] | ((with_reducible refine condT ?_ ?_) <;> intro h <;> try omega) | (with_reducible refine bothW_intro ?_ ?_) | (with_reducible refine nilW_intro (fun h => ?_) ?_) | (refine w_L (ref17_name_abs _ _) rfl rfl ?_) | (refine w_L (base_Type_ty p.defs[k].ty) rfl rfl ?_) | (refine w_L cA rfl rfl ?_) | (refine app_tsl rowsOk_nil (rowsOk_map fun x => rfl) (by simpa using hd) (by simp; omega) (by simp; omega) ?_) | (refine app_own rfl (by intro h; cases h) (rowsOk_map fun x => rfl) (by simp; omega) (by simp; omega) ?_) | (refine w_L cR rfl rfl ?_)
     ·rw [show defErr p k taken p.defs[k] = axErrs p.sizes p.sizes (p.defs[k].dims ++ p.defs[k].red) by unfold defErr; rw [if_neg (not_not_intro h1), if_neg (not_not_intro h2), if_neg h3, if_pos h4]]
      have h4' : ¬ axErrs p.sizes p.sizes (p.defs[k].dims ++ p.defs[k].red) = 0 := h4
      repeat' first | simp (disch := omega) only [go_sem, *, map_get hk, defP, h1, h2, h4', decide_true] | ((with_reducible refine condT ?_ ?_) <;> intro h <;> try omega) | (with_reducible refine bothW_intro ?_ ?_) | (with_reducible refine nilW_intro (fun h => ?_) ?_) | (refine w_L (ref17_name_abs _ _) rfl rfl ?_) | (refine w_L (base_Type_ty p.defs[k].ty) rfl rfl ?_) | (refine w_L cA rfl rfl ?_) | (refine app_tsl rowsOk_nil (rowsOk_map fun x => rfl) (by simpa using hd) (by simp; omega) (by simp; omega) ?_) | (refine app_own rfl (by intro h; cases h) (rowsOk_map fun x => rfl) (by simp; omega) (by simp; omega) ?_)
  ·rw [show defErr p k taken p.defs[k] = 10 by unfold defErr; rw [if_neg (not_not_intro h1), if_pos h2]]
   repeat' first | simp (disch := omega) only [go_sem, *, map_get hk, defP, h1, h2, decide_false] | ((with_reducible refine condT ?_ ?_) <;> intro h <;> try omega) | (refine w_L (ref17_name_abs _ _) rfl rfl ?_) | (refine w_L (base_Type_ty p.defs[k].ty) rfl rfl ?_)
 ·rw [show defErr p k taken p.defs[k] = nameErr taken p.defs[k].name by unfold defErr; rw [if_pos h1]]
  repeat' first | simp (disch := omega) only [go_sem, *, map_get hk, defP, h1] | ((with_reducible refine condT ?_ ?_) <;> intro h <;> try omega) | (refine w_L (ref17_name_abs _ _) rfl rfl ?_) | (refine w_L (base_Type_ty p.defs[k].ty) rfl rfl ?_)
end Go.Proofs.YtbblkakcadonjaaGreatDoor
