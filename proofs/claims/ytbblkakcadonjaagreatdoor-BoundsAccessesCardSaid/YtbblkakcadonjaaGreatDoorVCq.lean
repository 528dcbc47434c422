/- Walks: copies of programs. -/
import Derived.Test.YtbblkakcadonjaaGreatDoorVCp
import Derived.Test.YtbblkakcadonjaaGreatDoorV17a
set_option linter.unusedVariables false
set_option linter.unusedSimpArgs false
set_option maxRecDepth 20000
set_option maxHeartbeats 4000000
set_option maxRecDepth 1000000
namespace Go.Proofs.YtbblkakcadonjaaGreatDoor
open Go.Abs Go.RowKit

theorem take_map {α : Type} {f : α → List PC} {l : List α} {k : Nat} (h : k < l.length) {r : List PC} (hr : r = f l[k]) : (l.take k).map f ++ [r] = (l.take (k + 1)).map f := by
 rw [List.take_succ_eq_append_getElem h, List.map_append, hr]
 rfl
theorem program_copyAxes_abs (l : List Axis) (hl : l.length ≤ 1000000) (h : ∀ x ∈ l, x.2.2.length ≤ 1000) : PCalls Tryz.prog n_program_copyAxes [aSl axP l] (aSl axP l) := by
 refine PCalls.of is_program_copyAxes (by simp) fun hb => runW_sound ?_
 conv in c_program_copyAxes => cbv
 repeat' first | simp (disch := omega) only [go_sem, *] | ((with_reducible refine condT ?_ ?_) <;> intro h <;> try omega)
 refine AW_adopt 3 75 3 rfl (by decide) ?_
 refine AW_loop (fun k : Nat => ⟨[(8, I k), (7, I l.length), (6, aSl axP l), (3, .c (.ref 0))], [(0, .arr 75 3 ((l.take k).map axP))], 1, 0⟩) (fun k => k ≤ l.length) (fun k => l.length - k) ⟨0, [], by omega, by simp⟩ ?_
 intro k hk
 refine runW_sound ?_
 by_cases hlt : k < l.length
 ·have pk := program_copyForm_abs l[k].2 (h _ (List.getElem_mem hlt))
  have HT := Lib.hid (take_map (f := axP) hlt (r := [pS l[k].1, pI l[k].2.1, pMonos l[k].2.2]) rfl)
  repeat' first | simp (disch := omega) only [go_sem, *, map_get hlt, axP, wrap_i64] | ((with_reducible refine condT ?_ ?_) <;> intro h <;> try omega) | (with_reducible refine bothW_intro ?_ ?_) | (with_reducible refine nilW_intro (fun h => ?_) ?_) | (refine w_R pk rfl rfl ?_) | (refine app_own rfl (by intro h; cases h) (rowsOk_one rfl) (by simp; omega) (by simp; omega) ?_)
  all_goals
   rw [HT.out]
   exact ⟨k + 1, [(0, 2)], by omega, by omega, by simp⟩
 ·repeat' first | simp (disch := omega) only [go_sem, *] | ((with_reducible refine condT ?_ ?_) <;> intro h <;> try omega)
  rw [List.take_of_length_le (by omega)]
def cqOk (p : Prg) : Prop := (p.sizes.length ≤ 1000 ∧ p.wher.length ≤ 1000 ∧ p.params.length ≤ 1000 ∧ p.defs.length ≤ 1000 ∧ p.outs.length ≤ 1000) ∧ (∀ c ∈ p.wher, c.1.2.length ≤ 1000) ∧
 (∀ x ∈ p.params, x.2.2.length ≤ 1000 ∧ ∀ l ∈ x.2.2, l.2.length ≤ 1000) ∧ ∀ d ∈ p.defs, (d.dims.length ≤ 1000 ∧ ∀ a ∈ d.dims, a.2.2.length ≤ 1000) ∧ (d.red.length ≤ 1000 ∧ ∀ a ∈ d.red, a.2.2.length ≤ 1000) ∧ cpOk d.body
abbrev oPrg (p : Prg) (c1 c2 c3 : AC) : Box := .var [.pure (pStrs p.sizes), c1, c2, c3, .pure (pStrs p.outs)]
set_option maxHeartbeats 8000000 in
theorem program_Copy_abs {p : Prg} (hp : cqOk p) : PCalls Tryz.prog n_program_Copy [aPrg p] (aPrg p) := by
 obtain ⟨⟨z1, z2, z3, z4, z5⟩, hw, hq, hd⟩ := hp
 have c1 := Cl_str_p p.sizes (by omega)
 have c5 := Cl_str_p p.outs (by omega)
 refine PCalls.of is_program_Copy (by simp) fun hb => runW_sound ?_
 simp only [c_program_Copy]
 repeat' first | simp (disch := omega) only [go_sem, *] | ((with_reducible refine condT ?_ ?_) <;> intro h <;> try omega) | (with_reducible refine bothW_intro ?_ ?_) | (with_reducible refine nilW_intro (fun h => ?_) ?_) | (refine w_R c1 rfl rfl ?_) | (refine w_R c5 rfl rfl ?_)
 all_goals
  refine AW_adoptM 2 1 37 3 _ rfl rfl (by decide) ?_
  refine AW_loop (fun k : Nat => ⟨[(20, I k), (19, I p.wher.length), (18, aSl cP p.wher), (3, .c (.ptr 2 0)), (2, .c (.ptr 1 0)), (1, .c (.ptr 0 0))], [(3, .arr 37 3 ((p.wher.take k).map cP)), (2, oPrg p (.ref 3) .nils .nils), (1, .var [.nils, .nils, .nils, .nils, .nils]), (0, bPrg p)], 4, 0⟩) (fun k => k ≤ p.wher.length) (fun k => p.wher.length - k) ⟨0, [], by omega, by simp [setB]⟩ ?_
  intro k hk
  by_cases hlt : k < p.wher.length
  ·have pk := program_copyForm_abs p.wher[k].1 (hw _ (List.getElem_mem hlt))
   have HT := Lib.hid (take_map (f := cP) hlt (r := [pI p.wher[k].1.1, pMonos p.wher[k].1.2, pB p.wher[k].2]) rfl)
   refine runW_sound ?_
   repeat' first | simp (disch := omega) only [go_sem, *, map_get hlt, cP, wrap_i64] | ((with_reducible refine condT ?_ ?_) <;> intro h <;> try omega) | (with_reducible refine bothW_intro ?_ ?_) | (with_reducible refine nilW_intro (fun h => ?_) ?_) | (refine w_R pk rfl rfl ?_) | (refine app_own rfl (by intro h; cases h) (rowsOk_one rfl) (by simp; omega) (by simp; omega) ?_)
   all_goals
    rw [HT.out]
    exact ⟨k + 1, [(3, 5)], by omega, by omega, by simp [setB]⟩
  refine AW_frz [3] ?_
  simp (disch := omega) only [go_sem]
  refine runW_sound ?_
  rw [show p.wher.take k = p.wher from List.take_of_length_le (by omega)]
  repeat' first | simp (disch := omega) only [go_sem, *] | ((with_reducible refine condT ?_ ?_) <;> intro h <;> try omega)
  clear hlt hk
  refine AW_adoptM 2 2 62 7 _ rfl rfl (by decide) ?_
  refine AW_loop (fun k : Nat => ⟨[(39, I k), (38, I p.params.length), (37, aSl parP p.params), (3, .c (.ptr 2 0)), (2, .c (.ptr 1 0)), (1, .c (.ptr 0 0))], [(4, .arr 62 7 ((p.params.take k).map parP)), (2, oPrg p (.pure (pSl cP p.wher)) (.ref 4) .nils), (1, .var [.nils, .nils, .nils, .nils, .nils]), (0, bPrg p)], 5, 0⟩) (fun k => k ≤ p.params.length) (fun k => p.params.length - k) ⟨0, [], by omega, by simp [setB]⟩ ?_
  intro k hk
  by_cases hlt : k < p.params.length
  ·have pk := program_copyForms_abs p.params[k].2.2 (hq _ (List.getElem_mem hlt)).1 (hq _ (List.getElem_mem hlt)).2
   generalize hg : p.params[k] = g at pk
   have HT := Lib.hid (take_map (f := parP) hlt (r := [pS g.1, pI g.2.1.1, pI g.2.1.2.1, pI g.2.1.2.2.1, pI g.2.1.2.2.2.1, pI g.2.1.2.2.2.2, pSl linP g.2.2]) (by rw [hg]; rfl))
   have hgt : (p.params.map parP)[k]? = some (parP g) := by rw [map_get hlt, hg]
   clear hg
   refine runW_sound ?_
   repeat' first | simp (disch := omega) only [go_sem, *, hgt, parP, wrap_i64] | ((with_reducible refine condT ?_ ?_) <;> intro h <;> try omega) | (with_reducible refine bothW_intro ?_ ?_) | (with_reducible refine nilW_intro (fun h => ?_) ?_) | (refine w_R pk rfl rfl ?_) | (refine app_own rfl (by intro h; cases h) (rowsOk_one rfl) (by simp; omega) (by simp; omega) ?_)
   all_goals
    rw [HT.out]
    exact ⟨k + 1, [(4, 6)], by omega, by omega, by simp [setB]⟩
  refine AW_frz [4] ?_
  simp (disch := omega) only [go_sem]
  refine runW_sound ?_
  rw [show p.params.take k = p.params from List.take_of_length_le (by omega)]
  repeat' first | simp (disch := omega) only [go_sem, *] | ((with_reducible refine condT ?_ ?_) <;> intro h <;> try omega)
  clear hlt hk
  refine AW_adoptM 2 3 72 22 _ rfl rfl (by decide) ?_
  refine AW_loop (fun k : Nat => ⟨[(57, I k), (56, I p.defs.length), (55, aSl defP p.defs), (3, .c (.ptr 2 0)), (2, .c (.ptr 1 0))], [(5, .arr 72 22 ((p.defs.take k).map defP)), (2, oPrg p (.pure (pSl cP p.wher)) (.pure (pSl parP p.params)) (.ref 5)), (1, .var [.nils, .nils, .nils, .nils, .nils])], 6, 0⟩) (fun k => k ≤ p.defs.length) (fun k => p.defs.length - k) ⟨0, [], by omega, by simp [setB]⟩ ?_
  intro k hk
  by_cases hlt : k < p.defs.length
  ·have hdk := hd _ (List.getElem_mem hlt)
   have p1 := program_copyAxes_abs p.defs[k].dims (by have := hdk.1.1; omega) hdk.1.2
   have p2 := program_copyAxes_abs p.defs[k].red (by have := hdk.2.1.1; omega) hdk.2.1.2
   have p3 := expr_Copy_abs hdk.2.2
   clear hdk
   generalize hg : p.defs[k] = g at p1 p2 p3
   have HT := Lib.hid (take_map (f := defP) hlt (r := [pS g.name, pI g.ty.1, pI g.ty.2.1, pI g.ty.2.2.1, pI g.ty.2.2.2.1, pI g.ty.2.2.2.2, pSl axP g.dims, pSl axP g.red, pI g.fold, pI g.body.op, pS g.body.name, pI g.body.val.1, pI g.body.val.2, pI g.body.ty.1, pI g.body.ty.2.1, pI g.body.ty.2.2.1, pI g.body.ty.2.2.2.1, pI g.body.ty.2.2.2.2, pI g.body.lin.1, pMonos g.body.lin.2, pSl ixP g.body.idx, .slice (g.body.args.map Ex.row)]) (by rw [hg]; rfl))
   have hgt : (p.defs.map defP)[k]? = some (defP g) := by rw [map_get hlt, hg]
   clear hg
   refine runW_sound ?_
   repeat' first | simp (disch := omega) only [go_sem, *, hgt, defP, wrap_i64] | ((with_reducible refine condT ?_ ?_) <;> intro h <;> try omega) | (with_reducible refine bothW_intro ?_ ?_) | (with_reducible refine nilW_intro (fun h => ?_) ?_) | (refine w_R p1 rfl rfl ?_) | (refine w_R p2 rfl rfl ?_) | (refine w_R p3 rfl rfl ?_) | (refine app_own rfl (by intro h; cases h) (rowsOk_one rfl) (by simp; omega) (by simp; omega) ?_)
   all_goals
    rw [HT.out]
    exact ⟨k + 1, [(5, 7)], by omega, by omega, by simp [setB]⟩
  refine AW_frz [5] ?_
  simp (disch := omega) only [go_sem]
  refine runW_sound ?_
  rw [show p.defs.take k = p.defs from List.take_of_length_le (by omega)]
  repeat' first | simp (disch := omega) only [go_sem, *] | ((with_reducible refine condT ?_ ?_) <;> intro h <;> try omega)
  all_goals rfl
end Go.Proofs.YtbblkakcadonjaaGreatDoor
