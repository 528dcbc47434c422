/- Walks: the assumptions of a definition, on both sides. -/
import Derived.Test.YtkkbffbbifkhjaaGreatDoorV18m
import Derived.Test.YtkkbffbbifkhjaaGreatDoorVCq
import Derived.Test.YtkkbffbbifkhjaaGreatDoorV17m
set_option linter.unusedVariables false
set_option linter.unusedSimpArgs false
set_option maxRecDepth 20000
namespace Go.Proofs.YtkkbffbbifkhjaaGreatDoor
open Go.Abs Go.RowKit

abbrev fV (s : ByteArray) : Lin := (0, [(s, 1)])
noncomputable def axC (a : Axis) : List Con := if (belS (fV a.1) a.2).2 = 0 then [(fV a.1, false), ((belS (fV a.1) a.2).1, false)] else [(fV a.1, false)]
noncomputable def asmS (p : Prg) (d : Dfn) : List Con := p.wher ++ p.sizes.map (fun s => (((-1, [(s, 1)]), false) : Con)) ++ (d.dims ++ d.red).flatMap axC
def prgL (p : Prg) : Prop := (∀ c ∈ p.wher, lin64 c.1) ∧ (∀ x ∈ p.params, ∀ l ∈ x.2.2, lin64 l) ∧ ∀ d ∈ p.defs, (∀ a ∈ d.dims ++ d.red, lin64 a.2) ∧ ∀ e ∈ d.body.pre, ∀ l ∈ e.forms, lin64 l
def asmOk (p : Prg) (d : Dfn) : Prop := p.wher.length ≤ 1000 ∧ p.sizes.length ≤ 1000 ∧ d.dims.length ≤ 1000 ∧ d.red.length ≤ 1000 ∧ (∀ s ∈ p.sizes, idOk s) ∧ ∀ a ∈ d.dims ++ d.red, idOk a.1 ∧ lin64 a.2 ∧ a.2.2.length ≤ 1000
theorem axC_len (a : Axis) : (axC a).length ≤ 2 := by unfold axC; split <;> simp
theorem fm_len {l : List Axis} : (l.flatMap axC).length ≤ 2 * l.length := by
 induction l with
 | nil => simp
 | cons a l ih => have := axC_len a; simp only [List.flatMap_cons, List.length_append, List.length_cons]; omega
theorem fm_take {l : List Axis} {k : Nat} (h : k < l.length) : (l.take (k + 1)).flatMap axC = (l.take k).flatMap axC ++ axC l[k] := by
 rw [List.take_succ_eq_append_getElem h, List.flatMap_append]
 simp
theorem bounds_axes_abs (d : Dfn) (h1 : d.dims.length ≤ 1000) (h2 : d.red.length ≤ 1000) : PCalls Tryz.prog n_bounds_axes [aDfn d] (aSl axP (d.dims ++ d.red)) := by
 refine PCalls.of is_bounds_axes (by simp) fun hb => runW_sound ?_
 simp only [c_bounds_axes]
 have hd : rowsOk 3 (d.dims.map axP) := rowsOk_map fun x => rfl
 have hr : rowsOk 3 (d.red.map axP) := rowsOk_map fun x => rfl
 have tk : (d.dims.map axP).take d.dims.length = d.dims.map axP := List.take_of_length_le (by simp)
 by_cases h : d.red = []
 ·have hl : d.red.map axP = [] := by rw [h]; rfl
  have e : d.dims ++ d.red = d.dims := by rw [h, List.append_nil]
  rw [e]
  clear h e
  repeat' first | simp (disch := omega) only [go_sem, hd, hl, tk, Int.toNat_zero, Option.getD_none, Option.getD_some] | ((with_reducible refine condT ?_ ?_) <;> intro h <;> try first | omega | simp (disch := omega) only [go_sem, *, hd, hl, tk, Int.toNat_zero, Option.getD_none, Option.getD_some]) | (with_reducible refine bothW_intro ?_ ?_) | (with_reducible refine nilW_intro (fun h => ?_) ?_) | (refine app_tslN hd ?_)
  all_goals rfl
 ·have hne : d.red.map axP ≠ [] := by simpa using h
  rw [show aSl axP (d.dims ++ d.red) = .c (.pure (.slice (d.dims.map axP ++ d.red.map axP))) by show AV.c (.pure (.slice (List.map axP (_ ++ _)))) = _; rw [List.map_append]]
  clear h
  repeat' first | simp (disch := omega) only [go_sem, hd, tk, Int.toNat_zero, Option.getD_none, Option.getD_some] | ((with_reducible refine condT ?_ ?_) <;> intro h <;> try first | omega | simp (disch := omega) only [go_sem, *, hd, tk, Int.toNat_zero, Option.getD_none, Option.getD_some]) | (with_reducible refine bothW_intro ?_ ?_) | (with_reducible refine nilW_intro (fun h => ?_) ?_) | (refine app_tsl hd hr hne (by simp; omega) (by simp; omega) ?_)
  all_goals rfl
def sC (s : ByteArray) : Con := ((-1, [(s, 1)]), false)
abbrev rA (p : Prg) (i : Nat) : List (List PC) := (p.wher ++ (p.sizes.take i).map sC).map cP
theorem rA_succ {p : Prg} {i : Nat} (h : i < p.sizes.length) : rA p i ++ [[pI (-1), pMonos [(p.sizes[i], 1)], pB false]] = rA p (i + 1) := by
 have e : p.wher ++ (p.sizes.take (i + 1)).map sC = (p.wher ++ (p.sizes.take i).map sC) ++ [sC p.sizes[i]] := by
  rw [List.take_succ_eq_append_getElem h, List.map_append, List.append_assoc]
  rfl
 exact (List.map_append (f := cP) (l₁ := p.wher ++ (p.sizes.take i).map sC) (l₂ := [sC p.sizes[i]])).symm.trans (congrArg (List.map cP) e.symm)
theorem rA_succ' {p : Prg} {i : Nat} (h : i < p.sizes.length) : rA p i ++ [[pI (-1), .slice [[pS p.sizes[i], pI 1]], pB false]] = rA p (i + 1) := rA_succ h
noncomputable abbrev rX (p : Prg) (l : List Axis) (i : Nat) : List (List PC) := (p.wher ++ p.sizes.map sC ++ (l.take i).flatMap axC).map cP
theorem rX_two {p : Prg} {l : List Axis} {i : Nat} (h : i < l.length) (h0 : (belS (fV l[i].1) l[i].2).2 = 0) : rX p l i ++ [[pI 0, pMonos [(l[i].1, 1)], pB false]] ++ [[pI (belS (fV l[i].1) l[i].2).1.1, pMonos (belS (fV l[i].1) l[i].2).1.2, pB false]] = rX p l (i + 1) := by
 unfold rX
 rw [fm_take h, axC, if_pos h0]
 simp [List.map_append, cP]
theorem rX_one {p : Prg} {l : List Axis} {i : Nat} (h : i < l.length) (h0 : (belS (fV l[i].1) l[i].2).2 ≠ 0) : rX p l i ++ [[pI 0, pMonos [(l[i].1, 1)], pB false]] = rX p l (i + 1) := by
 unfold rX
 rw [fm_take h, axC, if_neg h0]
 simp [List.map_append, cP]
theorem asm_rX (p : Prg) (d : Dfn) : asmS p d = p.wher ++ p.sizes.map sC ++ (d.dims ++ d.red).flatMap axC := rfl
set_option maxHeartbeats 2000000 in
theorem bounds_assumptions_abs {p : Prg} {k : Nat} (hk : k < p.defs.length) (h : asmOk p p.defs[k]) : PCalls Tryz.prog n_bounds_assumptions [aPrg p, I k] (aCons (asmS p p.defs[k])) := by
 obtain ⟨z1, z2, z3, z4, hs, hx⟩ := h
 refine PCalls.of is_bounds_assumptions (by simp) fun hb => runW_sound ?_
 simp only [c_bounds_assumptions]
 have hok : rowsOk 3 (p.wher.map cP) := rowsOk_map fun x => rfl
 repeat' first | simp (disch := omega) only [go_sem] | ((with_reducible refine condT ?_ ?_) <;> intro h <;> try first | omega | simp (disch := omega) only [go_sem, *]) | (refine app_nil hok (by simp; omega) (by simp; omega) ?_)
 refine AW_loop (fun i : Nat => ⟨[(21, I i), (20, I p.sizes.length), (19, .c (.pure (pStrs p.sizes))), (5, .c (.ref 1)), (2, .c (.ptr 0 0)), (1, I k)], [(1, .arr 43 3 (rA p i)), (0, bPrg p)], 2, 0⟩) (fun i => i ≤ p.sizes.length) (fun i => p.sizes.length - i) ⟨0, [], by omega, by simp⟩ ?_
 intro i hi
 refine runW_sound ?_
 by_cases hlt : i < p.sizes.length
 ·have pv := lin_Var_abs p.sizes[i]
  rw [if_pos (hs _ (List.getElem_mem hlt))] at pv
  have HT := Lib.hid (rA_succ hlt)
  have hlen : (rA p i).length ≤ 3000 := by simp; omega
  repeat' first | simp (disch := omega) only [go_sem, map_get hlt, wrap_i64] | ((with_reducible refine condT ?_ ?_) <;> intro h <;> try first | omega | simp (disch := omega) only [go_sem, *, map_get hlt, wrap_i64]) | (refine callW_of pv rfl (.inr rfl) ?_) | (refine app_own rfl (by intro h; cases h) (rowsOk_one rfl) (by simp only [List.length_append, List.length_cons, List.length_nil]; omega) (by simp only [List.length_append, List.length_cons, List.length_nil]; omega) ?_)
  rw [HT.out]
  exact ⟨i + 1, [(1, 3)], by omega, by omega, by simp⟩
 ·have pa := bounds_axes_abs p.defs[k] z3 z4
  rw [show rA p i = (p.wher ++ p.sizes.map sC).map cP by unfold rA; rw [List.take_of_length_le (by omega)]]
  generalize hl : p.defs[k].dims ++ p.defs[k].red = l at *
  have hll : l.length ≤ 2000 := by rw [← hl]; simp; omega
  rw [asm_rX, hl]
  clear hs hl
  repeat' first | simp (disch := omega) only [go_sem, map_get hk, defP] | ((with_reducible refine condT ?_ ?_) <;> intro h <;> try first | omega | simp (disch := omega) only [go_sem, *, map_get hk, defP]) | (refine callW_of pa rfl (.inr rfl) ?_)
  refine AW_loop (fun i : Nat => ⟨[(41, I i), (40, I l.length), (39, aSl axP l), (5, .c (.ref 1))], [(1, .arr 43 3 (rX p l i))], 2, 0⟩) (fun i => i ≤ l.length) (fun i => l.length - i) ⟨0, [], by omega, by simp⟩ ?_
  clear pa hlt hi
  intro i hi
  refine runW_sound ?_
  by_cases hlt : i < l.length
  ·obtain ⟨g1, g2, g3⟩ := hx _ (List.getElem_mem hlt)
   have pv := lin_Var_abs l[i].1
   rw [if_pos g1] at pv
   have pb := bounds_below_abs (a := fV l[i].1) (b := l[i].2) ⟨by simp [in64], by simp [in64]⟩ g2 (by simp) (by omega)
   have hlen : (rX p l i).length ≤ 100000 := by
    have := fm_len (l := l.take i)
    simp at this ⊢
    omega
   by_cases h0 : (belS (fV l[i].1) l[i].2).2 = 0
   ·have HT := Lib.hid (rX_two (p := p) hlt h0)
    rw [show aLinB (belS (fV l[i].1) l[i].2) = .tup [aLin (belS (fV l[i].1) l[i].2).1.1 (belS (fV l[i].1) l[i].2).1.2, Go.Abs.B true] by unfold aLinB; rw [decide_eq_true h0]] at pb
    clear h0 g1 g2 g3
    generalize belS (fV l[i].1) l[i].2 = r at *
    repeat' first | simp (disch := omega) only [go_sem, map_get hlt, axP, wrap_i64] | ((with_reducible refine condT ?_ ?_) <;> intro h <;> try first | omega | simp (disch := omega) only [go_sem, *, map_get hlt, axP, wrap_i64]) | (refine callW_of pv rfl (.inr rfl) ?_) | (refine callW_of pb rfl (.inr rfl) ?_) | (refine app_own rfl (by intro h; cases h) (rowsOk_one rfl) (by simp only [List.length_append, List.length_cons, List.length_nil]; omega) (by simp only [List.length_append, List.length_cons, List.length_nil]; omega) ?_)
    rw [HT.out]
    exact ⟨i + 1, [(1, 6)], by omega, by omega, by simp⟩
   ·have HT := Lib.hid (rX_one (p := p) hlt h0)
    rw [show aLinB (belS (fV l[i].1) l[i].2) = .tup [aLin (belS (fV l[i].1) l[i].2).1.1 (belS (fV l[i].1) l[i].2).1.2, Go.Abs.B false] by unfold aLinB; rw [decide_eq_false h0]] at pb
    clear h0 g1 g2 g3
    generalize belS (fV l[i].1) l[i].2 = r at *
    repeat' first | simp (disch := omega) only [go_sem, map_get hlt, axP, wrap_i64] | ((with_reducible refine condT ?_ ?_) <;> intro h <;> try first | omega | simp (disch := omega) only [go_sem, *, map_get hlt, axP, wrap_i64]) | (refine callW_of pv rfl (.inr rfl) ?_) | (refine callW_of pb rfl (.inr rfl) ?_) | (refine app_own rfl (by intro h; cases h) (rowsOk_one rfl) (by simp only [List.length_append, List.length_cons, List.length_nil]; omega) (by simp only [List.length_append, List.length_cons, List.length_nil]; omega) ?_)
    rw [HT.out]
    exact ⟨i + 1, [(1, 4)], by omega, by omega, by simp⟩
  ·repeat' first | simp (disch := omega) only [go_sem] | ((with_reducible refine condT ?_ ?_) <;> intro h <;> try first | omega | simp (disch := omega) only [go_sem, *])
   unfold rX
   rw [List.take_of_length_le (by omega)]
noncomputable def asmR (p : Prg) (k : Int) : List Con := if (validS p).2 ≠ 0 ∨ k < 0 then [] else match p.defs[k.toNat]? with
 | some d => asmS p d
 | none => []
theorem asmR_at {p : Prg} {n : Nat} (h0 : (validS p).2 = 0) (h : n < p.defs.length) : asmR p n = asmS p p.defs[n] := by
 unfold asmR
 rw [if_neg (by rintro (h | h); exact h h0; omega), Int.toNat_natCast, List.getElem?_eq_getElem h]
theorem asmR_out {p : Prg} {k : Int} (h : (validS p).2 ≠ 0 ∨ k < 0 ∨ (p.defs.length : Int) ≤ k) : asmR p k = [] := by
 unfold asmR
 split
 ·rfl
 ·rename_i hn
  rw [List.getElem?_eq_none (by omega)]
theorem bounds_Assumptions_abs {p : Prg} {k : Int} (hf : fewP p) (h64 : prg64 p) (hcp : (validS p).2 = 0 → cqOk p) (has : (validS p).2 = 0 → ∀ (i : Nat) (h : i < p.defs.length), asmOk p p.defs[i]) : PCalls Tryz.prog n_bounds_Assumptions [aPrg p, I k] (aCons (asmR p k)) := by
 refine PCalls.of is_bounds_Assumptions (by simp) fun hb => runW_sound ?_
 simp only [c_bounds_Assumptions]
 have pv := program_Validate_abs hf h64
 by_cases h0 : (validS p).2 = 0
 ·have pc := program_Copy_abs (hcp h0)
  by_cases hk : 0 ≤ k ∧ k < p.defs.length
  ·obtain ⟨n, rfl⟩ := Int.eq_ofNat_of_zero_le hk.1
   have hk2 : n < p.defs.length := by omega
   have pa := bounds_assumptions_abs hk2 (has h0 n hk2)
   rw [asmR_at h0 hk2]
   rw [h0] at pv
   clear hcp has h0 hk
   repeat' first | simp (disch := omega) only [go_sem] | ((with_reducible refine condT ?_ ?_) <;> intro h <;> try first | omega | simp (disch := omega) only [go_sem, *]) | (refine callW_of pv rfl (.inl rfl) ?_) | (refine callW_of pc rfl (.inr rfl) ?_) | (refine callW_of pa rfl (.inr rfl) ?_)
   all_goals first | rfl | (exfalso; omega)
  ·rw [asmR_out (by omega)]
   rw [h0] at pv
   clear hcp has h0 pc
   repeat' first | simp (disch := omega) only [go_sem] | ((with_reducible refine condT ?_ ?_) <;> intro h <;> try first | omega | simp (disch := omega) only [go_sem, *]) | (refine callW_of pv rfl (.inl rfl) ?_)
   all_goals first | rfl | (exfalso; omega)
 ·rw [asmR_out (.inl h0)]
  clear hcp has
  generalize (validS p).2 = e at *
  repeat' first | simp (disch := omega) only [go_sem, h0] | ((with_reducible refine condT ?_ ?_) <;> intro h <;> try first | omega | simp (disch := omega) only [go_sem, *, h0]) | (refine callW_of pv rfl (.inl rfl) ?_)
  all_goals rfl
set_option maxHeartbeats 4000000 in
theorem ref18_Assumptions_abs {p : Prg} {k : Int} (hf : fewP p) (h64 : prg64 p) (has : (validS p).2 = 0 → ∀ (i : Nat) (h : i < p.defs.length), asmOk p p.defs[i]) : PCalls Tryz.prog n_ref18_Assumptions [aPrg p, I k] (aCons (asmR p k)) := by
 refine PCalls.of is_ref18_Assumptions (by simp) fun hb => runW_sound ?_
 simp only [c_ref18_Assumptions]
 have pv := ref17_Validate_abs hf h64
 by_cases h0 : (validS p).2 = 0
 ·by_cases hk : 0 ≤ k ∧ k < p.defs.length
  ·obtain ⟨n, rfl⟩ := Int.eq_ofNat_of_zero_le hk.1
   have hk2 : n < p.defs.length := by omega
   obtain ⟨z1, z2, z3, z4, hs, hx⟩ := has h0 n hk2
   have hok : rowsOk 3 (p.wher.map cP) := rowsOk_map fun x => rfl
   rw [asmR_at h0 hk2]
   rw [h0] at pv
   clear has h0 hk
   repeat' first | simp (disch := omega) only [go_sem] | ((with_reducible refine condT ?_ ?_) <;> intro h <;> try first | omega | simp (disch := omega) only [go_sem, *]) | (refine callW_of pv rfl (.inl rfl) ?_) | (refine app_nil hok (by simp; omega) (by simp; omega) ?_)
   refine AW_loop (fun i : Nat => ⟨[(8, I i), (7, .c (.ref 1)), (2, .c (.ptr 0 0)), (1, I n)], [(1, .arr 43 3 (rA p i)), (0, bPrg p)], 2, 0⟩) (fun i => i ≤ p.sizes.length) (fun i => p.sizes.length - i) ⟨0, [], by omega, by simp⟩ ?_
   intro i hi
   refine runW_sound ?_
   by_cases hlt : i < p.sizes.length
   ·have HT := Lib.hid (rA_succ' hlt)
    have hlen : (rA p i).length ≤ 3000 := by simp; omega
    repeat' first | simp (disch := omega) only [go_sem, map_get hlt, wrap_i64] | ((with_reducible refine condT ?_ ?_) <;> intro h <;> try first | omega | simp (disch := omega) only [go_sem, *, map_get hlt, wrap_i64]) | (refine app_own rfl (by intro h; cases h) (rowsOk_one rfl) (by simp only [List.length_append, List.length_cons, List.length_nil]; omega) (by simp only [List.length_append, List.length_cons, List.length_nil]; omega) ?_)
    rw [HT.out]
    exact ⟨i + 1, [(1, 2)], by omega, by omega, by simp⟩
   rw [show rA p i = (p.wher ++ p.sizes.map sC).map cP by unfold rA; rw [List.take_of_length_le (by omega)]]
   have hd : rowsOk 3 (p.defs[n].dims.map axP) := rowsOk_map fun x => rfl
   have hr : rowsOk 3 (p.defs[n].red.map axP) := rowsOk_map fun x => rfl
   have HM := Lib.hid (List.map_append (f := axP) (l₁ := p.defs[n].dims) (l₂ := p.defs[n].red)).symm
   have hll : (p.defs[n].dims ++ p.defs[n].red).length ≤ 2000 := by simp; omega
   repeat' first | simp (disch := omega) only [go_sem, map_get hk2, defP] | ((with_reducible refine condT ?_ ?_) <;> intro h <;> try first | omega | simp (disch := omega) only [go_sem, *, map_get hk2, defP]) | (refine app_nil hd (by simp; omega) (by simp; omega) ?_) | (refine app_own rfl (by intro h; cases h) hr (by simp; omega) (by simp; omega) ?_)
   rw [HM.out]
   generalize hl : p.defs[n].dims ++ p.defs[n].red = l at *
   rw [asm_rX, hl]
   clear hd hr HM hl hs hlt hi z3 z4
   refine AW_loop (fun i : Nat => ⟨[(10, I i), (9, .c (.ref 3)), (7, .c (.ref 1))], [(3, .arr 62 3 (l.map axP)), (1, .arr 43 3 (rX p l i))], 4, 0⟩) (fun i => i ≤ l.length) (fun i => l.length - i) ⟨0, [], by omega, by simp⟩ ?_
   intro i hi
   refine runW_sound ?_
   by_cases hlt : i < l.length
   ·obtain ⟨g1, g2, g3⟩ := hx _ (List.getElem_mem hlt)
    have pv := ref05_Var_abs g1
    have pb := ref18_minus_abs (a := fV l[i].1) (b := l[i].2) (k := -1) (.inr rfl) ⟨by simp [in64], by simp [in64]⟩ g2 (by simp) (by omega)
    rw [if_neg (by decide)] at pb
    have hlen : (rX p l i).length ≤ 100000 := by
     have := fm_len (l := l.take i)
     simp at this ⊢
     omega
    by_cases h0 : (belS (fV l[i].1) l[i].2).2 = 0
    ·have HT := Lib.hid (rX_two (p := p) hlt h0)
     rw [show aLinB (belS (fV l[i].1) l[i].2) = .tup [aLin (belS (fV l[i].1) l[i].2).1.1 (belS (fV l[i].1) l[i].2).1.2, Go.Abs.B true] by unfold aLinB; rw [decide_eq_true h0]] at pb
     clear h0 g1 g2 g3
     generalize belS (fV l[i].1) l[i].2 = r at *
     repeat' first | simp (disch := omega) only [go_sem, map_get hlt, axP, wrap_i64] | ((with_reducible refine condT ?_ ?_) <;> intro h <;> try first | omega | simp (disch := omega) only [go_sem, *, map_get hlt, axP, wrap_i64]) | (with_reducible refine bothW_intro ?_ ?_) | (with_reducible refine nilW_intro (fun h => ?_) ?_) | (refine callW_of pv rfl (.inr rfl) ?_) | (refine callW_of pb rfl (.inr rfl) ?_) | (refine app_own rfl (by intro h; cases h) (rowsOk_one rfl) (by simp only [List.length_append, List.length_cons, List.length_nil]; omega) (by simp only [List.length_append, List.length_cons, List.length_nil]; omega) ?_)
     all_goals
      rw [HT.out]
      exact ⟨i + 1, [(1, 7)], by omega, by omega, by simp⟩
    ·have HT := Lib.hid (rX_one (p := p) hlt h0)
     rw [show aLinB (belS (fV l[i].1) l[i].2) = .tup [aLin (belS (fV l[i].1) l[i].2).1.1 (belS (fV l[i].1) l[i].2).1.2, Go.Abs.B false] by unfold aLinB; rw [decide_eq_false h0]] at pb
     clear h0 g1 g2 g3
     generalize belS (fV l[i].1) l[i].2 = r at *
     repeat' first | simp (disch := omega) only [go_sem, map_get hlt, axP, wrap_i64] | ((with_reducible refine condT ?_ ?_) <;> intro h <;> try first | omega | simp (disch := omega) only [go_sem, *, map_get hlt, axP, wrap_i64]) | (with_reducible refine bothW_intro ?_ ?_) | (with_reducible refine nilW_intro (fun h => ?_) ?_) | (refine callW_of pv rfl (.inr rfl) ?_) | (refine callW_of pb rfl (.inr rfl) ?_) | (refine app_own rfl (by intro h; cases h) (rowsOk_one rfl) (by simp only [List.length_append, List.length_cons, List.length_nil]; omega) (by simp only [List.length_append, List.length_cons, List.length_nil]; omega) ?_)
     all_goals
      rw [HT.out]
      exact ⟨i + 1, [(1, 5)], by omega, by omega, by simp⟩
   ·repeat' first | simp (disch := omega) only [go_sem] | ((with_reducible refine condT ?_ ?_) <;> intro h <;> try first | omega | simp (disch := omega) only [go_sem, *])
    unfold rX
    rw [List.take_of_length_le (by omega)]
  ·rw [asmR_out (by omega)]
   rw [h0] at pv
   clear has h0
   repeat' first | simp (disch := omega) only [go_sem] | ((with_reducible refine condT ?_ ?_) <;> intro h <;> try first | omega | simp (disch := omega) only [go_sem, *]) | (refine callW_of pv rfl (.inl rfl) ?_)
   all_goals first | rfl | (exfalso; omega)
 ·rw [asmR_out (.inl h0)]
  clear has
  generalize (validS p).2 = e at *
  repeat' first | simp (disch := omega) only [go_sem, h0] | ((with_reducible refine condT ?_ ?_) <;> intro h <;> try first | omega | simp (disch := omega) only [go_sem, *, h0]) | (refine callW_of pv rfl (.inl rfl) ?_)
  all_goals rfl
end Go.Proofs.YtkkbffbbifkhjaaGreatDoor
