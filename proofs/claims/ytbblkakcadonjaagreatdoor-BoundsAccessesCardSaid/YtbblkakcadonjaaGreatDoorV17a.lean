/- Walks: tensors of a program by name. -/
import Derived.Test.YtbblkakcadonjaaGreatDoorVGrow
import Derived.Test.YtbblkakcadonjaaGreatDoorV14b
set_option linter.unusedVariables false
set_option linter.unusedSimpArgs false
set_option maxRecDepth 20000
set_option maxHeartbeats 4000000
set_option maxRecDepth 1000000
namespace Go.Proofs.YtbblkakcadonjaaGreatDoor
open Go.Abs Go.RowKit

theorem slices_Clone_Mono_abs (l : List Mono) (hl : l.length ≤ 1000) : PCalls Tryz.prog n_slices_Clone_api_Mono_api_Mono [.c (.pure (pMonos l))] (.c (.pure (pMonos l))) := by
 refine PCalls.of is_slices_Clone_api_Mono_api_Mono (by simp) fun hb => runW_sound ?_
 conv in c_slices_Clone_api_Mono_api_Mono => cbv
 repeat' first | simp (disch := omega) only [go_sem, *, List.take_zero, List.drop_nil] | ((with_reducible refine condT ?_ ?_) <;> intro h <;> try omega) | (with_reducible refine bothW_intro ?_ ?_) | (with_reducible refine nilW_intro (fun h => ?_) ?_) | (refine app_tslP rowsOk_nil (rowsOk_map fun x => rfl) (by simp; omega) (by simp; omega) ?_)
 cases l with
 | nil => rfl
 | cons m r => exact absurd (h _ List.mem_cons_self) (by simp [mP])
theorem program_copyForm_abs (l : Lin) (hl : l.2.length ≤ 1000) : PCalls Tryz.prog n_program_copyForm [aLin l.1 l.2] (aLin l.1 l.2) := by
 refine PCalls.of is_program_copyForm (by simp) fun hb => runW_sound ?_
 conv in c_program_copyForm => cbv
 repeat' first | simp (disch := omega) only [go_sem, *] | ((with_reducible refine condT ?_ ?_) <;> intro h <;> try omega) | (with_reducible refine bothW_intro ?_ ?_) | (with_reducible refine nilW_intro (fun h => ?_) ?_) | (refine w_R (slices_Clone_Mono_abs l.2 hl) rfl rfl ?_)
theorem program_copyForms_abs (ls : List Lin) (hn : ls.length ≤ 1000) (hl : ∀ l ∈ ls, l.2.length ≤ 1000) : PCalls Tryz.prog n_program_copyForms [aLins ls] (aLins ls) := by
 refine PCalls.of is_program_copyForms (by simp) fun hb => runW_sound ?_
 conv in c_program_copyForms => cbv
 repeat' first | simp (disch := omega) only [go_sem, *] | ((with_reducible refine condT ?_ ?_) <;> intro h <;> try omega)
 refine AW_adopt 3 35 2 rfl (by decide) ?_
 refine AW_loop (fun k : Nat => ⟨[(8, I k), (7, I ls.length), (6, aLins ls), (3, .c (.ref 0))], [(0, .arr 35 2 ((ls.take k).map linP))], 1, 0⟩) (fun k => k ≤ ls.length) (fun k => ls.length - k) ⟨0, [], by omega, by simp⟩ ?_
 intro k hk
 refine runW_sound ?_
 by_cases hlt : k < ls.length
 ·have hc := program_copyForm_abs ls[k] (hl _ (List.getElem_mem hlt))
  have ht : (ls.take k).map linP ++ [linP ls[k]] = (ls.take (k + 1)).map linP := by rw [List.take_succ_eq_append_getElem hlt, List.map_append]; rfl
  simp only [linP] at ht
  have HT := Lib.hid ht
  clear ht hl
  repeat' first | simp (disch := omega) only [go_sem, *, map_get hlt, linP, wrap_i64] | ((with_reducible refine condT ?_ ?_) <;> intro h <;> try omega) | (refine w_R hc rfl rfl ?_) | (refine app_own rfl (by intro h; cases h) (rowsOk_one rfl) (by simp; omega) (by simp; omega) ?_)
  rw [HT.out]
  exact ⟨k + 1, [(0, 2)], by omega, by omega, by simp⟩
 ·repeat' first | simp (disch := omega) only [go_sem, *] | ((with_reducible refine condT ?_ ?_) <;> intro h <;> try omega)
  rw [List.take_of_length_le (by omega)]
theorem program_IndexOf_1_abs (d : Dfn) (s : ByteArray) : PCalls Tryz.prog n_program_IndexOf_1 [aDfn d, .c (.cptr [pS s])] (Go.Abs.B (dec (d.name = s))) := by
 refine PCalls.of is_program_IndexOf_1 (by simp) fun hb => runW_sound ?_
 conv in c_program_IndexOf_1 => cbv
 repeat' first | simp (disch := omega) only [go_sem, *, str_eq] | ((with_reducible refine condT ?_ ?_) <;> intro h <;> try omega)
 all_goals (refine BC ?_; clear hb; simp only [Bool.not_eq_true', decI, decN, reduceCtorEq, false_iff, true_iff, not_exists, not_and, Classical.not_not, decide_eq_true_iff, decide_eq_false_iff_not]; first | done | grind [])
theorem slices_IndexFunc_Def_abs (s : ByteArray) (xs : List Dfn) : PCalls Tryz.prog n_slices_IndexFunc_api_Def_api_Def [aSl defP xs, .c (.clo n_program_IndexOf_1 [.cptr [pS s]])] (I (idxOf (fun d => d.name = s) xs)) := by
 refine PCalls.of is_slices_IndexFunc_api_Def_api_Def (by simp) fun hb => runW_sound ?_
 have hl := bnd_sl hb
 conv in c_slices_IndexFunc_api_Def_api_Def => cbv
 repeat' first | simp (disch := omega) only [go_sem, *] | ((with_reducible refine condT ?_ ?_) <;> intro h <;> try omega)
 refine AW_loop (fun k : Nat => ⟨[(0, aSl defP xs), (1, .c (.clo n_program_IndexOf_1 [.cptr [pS s]])), (7, I xs.length), (8, I k)], [], 0, 0⟩) (fun k => k ≤ xs.length ∧ upTo (fun j => ∀ h : j < xs.length, ¬ xs[j].name = s) k) (fun k => xs.length - k) ⟨0, [], ⟨by omega, .zero⟩, by simp⟩ ?_
 rintro k ⟨hk, hall⟩
 refine runW_sound ?_
 by_cases hlt : k < xs.length
 ·have HN := Lib.hid fun h => idxOf_at (p := fun d : Dfn => d.name = s) hlt h fun j hj => hall j hj (by omega)
  have HA := Lib.hid hall
  clear hall
  repeat' first | simp (disch := omega) only [go_sem, *, map_get hlt, defP, wrap_i64] | ((with_reducible refine condT ?_ ?_) <;> intro h <;> try omega) | (refine w_L (program_IndexOf_1_abs _ _) rfl rfl ?_)
  ·rw [HN.out h]
  ·exact ⟨k + 1, [], ⟨by omega, HA.out.succ fun _ => h⟩, by omega, by simp⟩
 ·have HN := Lib.hid (idxOf_none (p := fun d : Dfn => d.name = s) fun j hj => hall j (by omega) hj)
  clear hall
  repeat' first | simp (disch := omega) only [go_sem, *] | ((with_reducible refine condT ?_ ?_) <;> intro h <;> try omega)
  rw [HN.out]
theorem program_IndexOf_abs (p : Prg) (s : ByteArray) : PCalls Tryz.prog n_program_IndexOf [aPrg p, S s] (I (idxOf (fun d => d.name = s) p.defs)) := by
 refine PCalls.of is_program_IndexOf (by simp) fun hb => runW_sound ?_
 conv in c_program_IndexOf => cbv
 repeat' first | simp (disch := omega) only [go_sem, *] | ((with_reducible refine condT ?_ ?_) <;> intro h <;> try omega) | (refine w_L (slices_IndexFunc_Def_abs s p.defs) rfl rfl ?_)
abbrev aFound (x : Option (Ty × List Lin)) : AV := match x with
 | some (t, l) => .tup [aTyp t, aLins l, Go.Abs.B true]
 | none => .tup [aTyp ty0, .c (.pure (.slice [])), Go.Abs.B false]
theorem findS_par {p : Prg} {s : ByteArray} {k : Nat} (hk : k < p.params.length) (h : p.params[k].1 = s) (hn : ∀ j (hj : j < k), ¬ (p.params[j]'(by omega)).1 = s) : findS p s = some p.params[k].2 := by
 have : p.params.find? (fun x => decide (x.1 = s)) = some p.params[k] := by
  rw [List.find?_eq_some_iff_getElem]
  exact ⟨by simpa using h, k, hk, rfl, fun j hj => by simpa using hn j hj⟩
 rw [findS, this]
theorem findS_def {p : Prg} {s : ByteArray} (h0 : ∀ j (hj : j < p.params.length), ¬ p.params[j].1 = s) {k : Nat} (hk : k < p.defs.length) (h : p.defs[k].name = s) (hn : ∀ j (hj : j < k), ¬ (p.defs[j]'(by omega)).name = s) : findS p s = some (p.defs[k].ty, p.defs[k].dims.map (·.2)) := by
 have e1 : p.params.find? (fun x => decide (x.1 = s)) = none := by
  rw [List.find?_eq_none]
  intro x hx
  obtain ⟨j, hj, rfl⟩ := List.mem_iff_getElem.1 hx
  simpa using h0 j hj
 have e2 : p.defs.find? (fun d => decide (d.name = s)) = some p.defs[k] := by
  rw [List.find?_eq_some_iff_getElem]
  exact ⟨by simpa using h, k, hk, rfl, fun j hj => by simpa using hn j hj⟩
 rw [findS, e1]
 simp only [e2]
theorem findS_none {p : Prg} {s : ByteArray} (h0 : ∀ j (hj : j < p.params.length), ¬ p.params[j].1 = s) (h1 : ∀ d ∈ p.defs, ¬ d.name = s) : findS p s = none := by
 have e1 : p.params.find? (fun x => decide (x.1 = s)) = none := by
  rw [List.find?_eq_none]
  intro x hx
  obtain ⟨j, hj, rfl⟩ := List.mem_iff_getElem.1 hx
  simpa using h0 j hj
 have e2 : p.defs.find? (fun d => decide (d.name = s)) = none := by
  rw [List.find?_eq_none]
  intro x hx
  simpa using h1 x hx
 rw [findS, e1]
 simp only [e2]
set_option maxHeartbeats 1000000 in
theorem program_Find_abs {p : Prg} (hf : fewP p) (s : ByteArray) : PCalls Tryz.prog n_program_Find [aPrg p, S s] (aFound (findS p s)) := by
 refine PCalls.of is_program_Find (by simp) fun hb => runW_sound ?_
 have hl : p.params.length ≤ 9223372036854775807 ∧ p.defs.length ≤ 9223372036854775807 := by
  have := hb.1
  simp [bndV, bndAs, bndA] at this
  omega
 conv in c_program_Find => cbv
 repeat' first | simp (disch := omega) only [go_sem, *] | ((with_reducible refine condT ?_ ?_) <;> intro h <;> try omega)
 refine AW_loop (fun k : Nat => ⟨[(16, I k), (15, I p.params.length), (14, aSl parP p.params), (4, .c (.ptr 1 0)), (2, .c (.ptr 0 0)), (1, S s)], [(1, .var [.pure (pI 0), .pure (pI 0), .pure (pI 0), .pure (pI 0), .pure (pI 0)]), (0, bPrg p)], 2, 0⟩) (fun k => k ≤ p.params.length ∧ upTo (fun j => ∀ h : j < p.params.length, ¬ p.params[j].1 = s) k) (fun k => p.params.length - k) ⟨0, [], ⟨by omega, .zero⟩, by simp⟩ ?_
 rintro k ⟨hk, hall⟩
 refine runW_sound ?_
 by_cases hlt : k < p.params.length
 ·have hfw := hf.1 _ (List.getElem_mem hlt)
  have hcf := program_copyForms_abs p.params[k].2.2 (by omega) (fun l hl => by have := hfw.2 l hl; omega)
  by_cases he : p.params[k].1 = s
  ·have HN := Lib.hid (findS_par hlt he fun j hj => hall j hj (by omega))
   clear hall hf hfw
   repeat' first | simp (disch := omega) only [go_sem, *, map_get hlt, parP, str_eq, he, decide_true, wrap_i64, ] | ((with_reducible refine condT ?_ ?_) <;> intro h <;> try omega) | (with_reducible refine bothW_intro ?_ ?_) | (with_reducible refine nilW_intro (fun h => ?_) ?_) | (refine w_R hcf rfl rfl ?_)
   all_goals (rw [HN.out])
  ·have HA := Lib.hid hall
   clear hall hf hfw hcf
   repeat' first | simp (disch := omega) only [go_sem, *, map_get hlt, parP, str_eq, he, decide_false, wrap_i64] | ((with_reducible refine condT ?_ ?_) <;> intro h <;> try omega)
   exact ⟨k + 1, [], ⟨by omega, HA.out.succ fun _ => he⟩, by omega, by simp⟩
 ·have h0 : ∀ j (hj : j < p.params.length), ¬ p.params[j].1 = s := fun j hj => hall j (by omega) hj
  rcases idxOf_cases (fun d : Dfn => d.name = s) p.defs with ⟨g1, g2⟩ | ⟨i, hi, g1, g2, g3⟩
  ·have HN := Lib.hid (findS_none h0 g2)
   clear hall hf h0 g2
   have hix := program_IndexOf_abs p s
   rw [g1] at hix
   clear g1
   repeat' first | simp (disch := omega) only [go_sem, *] | ((with_reducible refine condT ?_ ?_) <;> intro h <;> try omega) | (refine w_L hix rfl rfl ?_)
   all_goals (rw [HN.out]; try rfl)
  ·have hfw := hf.2 _ (List.getElem_mem hi)
   have HN := Lib.hid (findS_def h0 hi g2 g3)
   have hix := program_IndexOf_abs p s
   rw [g1] at hix
   have HF := Lib.hid hfw
   clear hall hf h0 g1 g2 g3 hfw
   repeat' first | simp (disch := omega) only [go_sem, *, map_get hi, defP] | ((with_reducible refine condT ?_ ?_) <;> intro h <;> try omega) | (refine w_L hix rfl rfl ?_)
   refine AW_adopt 10 35 2 rfl (by decide) ?_
   refine AW_loop (fun k : Nat => ⟨[(42, I k), (41, I p.defs[i].dims.length), (40, aSl axP p.defs[i].dims), (10, .c (.ref 2)), (9, I i), (4, .c (.ptr 1 0)), (2, .c (.ptr 0 0))], [(2, .arr 35 2 ((p.defs[i].dims.take k).map fun a => linP a.2)), (1, .var [.pure (pI 0), .pure (pI 0), .pure (pI 0), .pure (pI 0), .pure (pI 0)]), (0, bPrg p)], 3, 0⟩) (fun k => k ≤ p.defs[i].dims.length) (fun k => p.defs[i].dims.length - k) ⟨0, [], by omega, by simp⟩ ?_
   intro k hk
   refine runW_sound ?_
   by_cases hlt : k < p.defs[i].dims.length
   ·have hc := program_copyForm_abs p.defs[i].dims[k].2 (by have := HF.out.2.2.1 _ (List.getElem_mem hlt); omega)
    have hd := HF.out.1
    have ht : (p.defs[i].dims.take k).map (fun a : Axis => linP a.2) ++ [linP p.defs[i].dims[k].2] = (p.defs[i].dims.take (k + 1)).map fun a => linP a.2 := by rw [List.take_succ_eq_append_getElem hlt, List.map_append]; rfl
    simp only [linP] at ht
    have HT := Lib.hid ht
    clear ht HF
    repeat' first | simp (disch := omega) only [go_sem, *, map_get hi, defP, map_get hlt, axP, linP, wrap_i64] | ((with_reducible refine condT ?_ ?_) <;> intro h <;> try omega) | (refine w_R hc rfl rfl ?_) | (refine app_own rfl (by intro h; cases h) (rowsOk_one rfl) (by simp; omega) (by simp; omega) ?_)
    rw [HT.out]
    exact ⟨k + 1, [(2, 4)], by omega, by omega, by simp [linP]⟩
   ·repeat' first | simp (disch := omega) only [go_sem, *, map_get hi, defP] | ((with_reducible refine condT ?_ ?_) <;> intro h <;> try omega)
    rw [HN.out, List.take_of_length_le (by omega)]
    simp [List.map_map, Function.comp_def]
theorem program_IndexNames_abs {d : Dfn} (h1 : d.dims.length ≤ 1000) (h2 : d.red.length ≤ 1000) : PCalls Tryz.prog n_program_IndexNames [aDfn d] (.c (.pure (pStrs (idxNames d)))) := by
 refine PCalls.of is_program_IndexNames (by simp) fun hb => runW_sound ?_
 have hC := Concat_abs d.dims d.red h1 h2
 have hlen : (d.dims ++ d.red).length ≤ 2000 := by simp; omega
 have hi : idxNames d = (d.dims ++ d.red).map (·.1) := rfl
 generalize d.dims ++ d.red = ax at *
 rw [hi]
 clear hi
 conv in c_program_IndexNames => cbv
 repeat' first | simp (disch := omega) only [go_sem, *] | ((with_reducible refine condT ?_ ?_) <;> intro h <;> try omega) | (refine w_R hC rfl rfl ?_)
 refine AW_adopt 3 9 1 rfl (by decide) ?_
 refine AW_loop (fun k : Nat => ⟨[(13, I k), (12, I ax.length), (11, aSl axP ax), (3, .c (.ref 1))], [(1, .arr 9 1 ((ax.take k).map fun a => [pS a.1])), (0, bDfn d)], 2, 0⟩) (fun k => k ≤ ax.length) (fun k => ax.length - k) ⟨0, [], by omega, by simp⟩ ?_
 intro k hk
 refine runW_sound ?_
 by_cases hlt : k < ax.length
 ·have ht : (ax.take k).map (fun a : Axis => [pS a.1]) ++ [[pS ax[k].1]] = (ax.take (k + 1)).map fun a => [pS a.1] := by rw [List.take_succ_eq_append_getElem hlt, List.map_append]; rfl
  have HT := Lib.hid ht
  clear ht hC
  repeat' first | simp (disch := omega) only [go_sem, *, map_get hlt, axP, wrap_i64] | ((with_reducible refine condT ?_ ?_) <;> intro h <;> try omega) | (refine app_own rfl (by intro h; cases h) (rowsOk_one rfl) (by simp; omega) (by simp; omega) ?_)
  rw [HT.out]
  exact ⟨k + 1, [(1, 3)], by omega, by omega, by simp⟩
 ·repeat' first | simp (disch := omega) only [go_sem, *] | ((with_reducible refine condT ?_ ?_) <;> intro h <;> try omega)
  rw [List.take_of_length_le (by omega)]
  simp [List.map_map, Function.comp_def]
theorem slices_Max_one (a : Nat) : PCalls Tryz.prog n_slices_Max_int_int [.c (.pure (.slice [[pI a]]))] (I a) := by
 refine PCalls.of is_slices_Max_int_int (by simp) fun hb => runW_sound ?_
 conv in c_slices_Max_int_int => cbv
 repeat' first | simp (disch := omega) only [go_sem, *, Int.toNat_zero, List.getElem?_cons_zero] | ((with_reducible refine condT ?_ ?_) <;> intro h <;> try omega)
 refine AW_loop (fun _ : Unit => ⟨[(4, I 1), (3, I a), (0, .c (.pure (.slice [[pI a]])))], [], 0, 0⟩) (fun _ => True) (fun _ => 0) ⟨(), [], trivial, by simp⟩ ?_
 intro _ _
 refine runW_sound ?_
 repeat' first | simp (disch := omega) only [go_sem, *] | ((with_reducible refine condT ?_ ?_) <;> intro h <;> try omega)
theorem slices_Max_two (a b : Nat) : PCalls Tryz.prog n_slices_Max_int_int [.c (.pure (.slice [[pI a], [pI b]]))] (I (max a b : Nat)) := by
 refine PCalls.of is_slices_Max_int_int (by simp) fun hb => runW_sound ?_
 conv in c_slices_Max_int_int => cbv
 repeat' first | simp (disch := omega) only [go_sem, *, Int.toNat_zero, List.getElem?_cons_zero] | ((with_reducible refine condT ?_ ?_) <;> intro h <;> try omega)
 refine AW_loop (fun k : Nat => ⟨[(4, I k), (3, I (if k = 1 then a else max a b : Nat)), (0, .c (.pure (.slice [[pI a], [pI b]])))], [], 0, 0⟩) (fun k => k = 1 ∨ k = 2) (fun k => 2 - k) ⟨1, [], .inl rfl, by simp⟩ ?_
 rintro k (rfl | rfl)
 ·refine runW_sound ?_
  repeat' first | simp (disch := omega) only [go_sem, *, wrap_i64, show Int.toNat 1 = 1 from rfl] | ((with_reducible refine condT ?_ ?_) <;> intro h <;> try omega)
  rw [show max (a : Int) (b : Int) = ((max a b : Nat) : Int) by omega]
  exact ⟨2, [], .inr rfl, by omega, by simp⟩
 ·refine runW_sound ?_
  repeat' first | simp (disch := omega) only [go_sem, *, wrap_i64] | ((with_reducible refine condT ?_ ?_) <;> intro h <;> try omega)
theorem program_declared_one {t : Ty} (n : Nat) : PCalls Tryz.prog n_program_declared [aTyp t, .c (.pure (.slice [[pI n]]))] (I (if ¬ tyOk t then 10 else if 6 < n then 11 else 0)) := by
 refine PCalls.of is_program_declared (by simp) fun hb => runW_sound ?_
 conv in c_program_declared => cbv
 repeat' first | simp (disch := omega) only [go_sem, *] | ((with_reducible refine condT ?_ ?_) <;> intro h <;> try omega) | (refine w_L (value_ValidateType_ty t) rfl rfl ?_) | (refine w_L (slices_Max_one n) rfl rfl ?_)
 all_goals (repeat' split) <;> first | rfl | omega | simp_all
theorem program_declared_two {t : Ty} (n m : Nat) : PCalls Tryz.prog n_program_declared [aTyp t, .c (.pure (.slice [[pI n], [pI m]]))] (I (if ¬ tyOk t then 10 else if 6 < n ∨ 6 < m then 11 else 0)) := by
 refine PCalls.of is_program_declared (by simp) fun hb => runW_sound ?_
 conv in c_program_declared => cbv
 repeat' first | simp (disch := omega) only [go_sem, *] | ((with_reducible refine condT ?_ ?_) <;> intro h <;> try omega) | (refine w_L (value_ValidateType_ty t) rfl rfl ?_) | (refine w_L (slices_Max_two n m) rfl rfl ?_)
 all_goals (repeat' split) <;> first | rfl | omega | simp_all
theorem program_fold_abs (d : Dfn) : PCalls Tryz.prog n_program_fold [aDfn d] (I (foldErr d)) := by
 refine PCalls.of is_program_fold (by simp) fun hb => runW_sound ?_
 conv in c_program_fold => cbv
 repeat' first | simp (disch := omega) only [go_sem, *] | ((with_reducible refine condT ?_ ?_) <;> intro h <;> try omega)
 all_goals (refine IE ?_; unfold foldErr; grind)
theorem program_limits_abs (p : Prg) : PCalls Tryz.prog n_program_limits [aPrg p] (Go.Abs.B (decide (p.sizes.length ≤ 64 ∧ p.params.length ≤ 64 ∧ p.defs.length ≤ 64 ∧ p.outs.length ≤ 64 ∧ p.wher.length ≤ 256))) := by
 refine PCalls.of is_program_limits (by simp) fun hb => runW_sound ?_
 conv in c_program_limits => cbv
 repeat' first | simp (disch := omega) only [go_sem, *] | ((with_reducible refine condT ?_ ?_) <;> intro h <;> try omega)
 all_goals (refine BD ?_; simp only [decide_eq_true_iff, reduceCtorEq, false_iff]; omega)
end Go.Proofs.YtbblkakcadonjaaGreatDoor
