/- Walks: package program: definitions. -/
import Derived.Test.YtfjnhdfhgenkdaaGreatDoorV17k
set_option linter.unusedVariables false
set_option linter.unusedSimpArgs false
set_option maxRecDepth 20000
namespace Go.Proofs.YtfjnhdfhgenkdaaGreatDoor
open Go.Abs Go.RowKit

set_option maxHeartbeats 4000000 in
theorem program_checker_def_abs {p : Prg} (hf : fewP p) (h64 : prg64 p) {K : KL} {taken : List ByteArray} (hT : Kt K taken) (hK : Kc p K) (hS : ∀ x ∈ p.sizes, x ∈ taken) {k : Nat} (hk : k < p.defs.length) :
  ICalls Tryz.prog n_program_checker_def [.c (.ptr 2 0), I k] [(2, bCk p 1), (1, mK K), (0, bPrg p)] 3 (I (defErr p k taken p.defs[k])) [(2, bCk p 1), (1, mK (kAdd K taken p.defs[k].name)), (0, bPrg p)] 3 := by
 refine ICalls.ofZ (ress := [I (defErr p k taken p.defs[k])]) is_program_checker_def (by simp) fun hb => runW_sound ?_
 have cD := program_declared_two (t := p.defs[k].ty) p.defs[k].dims.length p.defs[k].red.length
 have hf' : fewP { p with defs := p.defs.take k } := fewP_before hf k
 have hc1 := (hf.2 _ (List.getElem_mem hk)).1
 have hc2 := (hf.2 _ (List.getElem_mem hk)).2.1
 have cT := program_TypeOf_abs hf' (idxNames p.defs[k]) (h64 _ (List.getElem_mem hk))
 rw [typeOf_congr (p := { p with defs := p.defs.take k }) (q := before p k) rfl rfl rfl] at cT
 have hRo : rowsOk 22 (p.defs.map defP) := rowsOk_map fun x => rfl
 have cF := program_fold_abs p.defs[k]
 have cI := program_IndexNames_abs (d := p.defs[k]) (by omega) (by omega)
 simp only [c_program_checker_def]
 by_cases h1 : nameErr taken p.defs[k].name = 0
 ·rw [show kAdd K taken p.defs[k].name = kSet K p.defs[k].name 2 from if_pos h1]
  have hK' := hK.add hS h1
  have hn := fun mem nx h2 h3 => program_checker_name_ok (mem := mem) (nx := nx) (c := 2) (m := 1) (p := p) h2 h3 hT h1 2
  have cA := program_checker_axes_abs hK' p.defs[k] (by omega) (by omega)
  clear hT hK hS hK' hf hf' h64
  by_cases h2 : tyOk p.defs[k].ty
  ·rw [if_neg (not_not_intro h2)] at cD
   by_cases h3 : 6 < p.defs[k].dims.length ∨ 6 < p.defs[k].red.length
   ·rw [if_pos h3] at cD
    rw [show defErr p k taken p.defs[k] = 11 by unfold defErr; rw [if_neg (not_not_intro h1), if_neg (not_not_intro h2), if_pos h3]]
    clear h1 h2 h3 cT cA cF cI
    repeat' first | simp (disch := omega) only [go_sem, map_get hk, defP, ← List.map_take, hRo, Option.getD_none, Option.getD_some] | ((with_reducible first | refine condD ?_ ?_ | refine condX ?_ ?_ | refine condW_intro ?_ ?_) <;> intro h <;> first | (exfalso; omega) | simp (disch := omega) only [go_sem, *, map_get hk, defP, ← List.map_take, hRo, Option.getD_none, Option.getD_some] | skip) | (refine callW_i (hn _ _ rfl rfl) ?_) | (refine callW_of cD rfl (.inl rfl) ?_)
    refine ⟨[], [], ?_⟩
    simp (disch := omega) only [go_sem, frzLA]
    simp [Wk, wkF, wkM, wkL, look_cons, renV, renA, renC, renB, rn, clV, clA, clAs, clB, notIn, findB, findB_setB, clA.go, ren_A, cl_A]
   ·rw [if_neg h3] at cD
    by_cases h4 : axErrs p.sizes p.sizes (p.defs[k].dims ++ p.defs[k].red) = 0
    ·rw [h4] at cA
     by_cases h5 : foldErr p.defs[k] = 0
     ·have hT : (typeOf (before p k) (idxNames p.defs[k]) p.defs[k].body) = (typeOf { p with wher := [], defs := p.defs.take k, outs := [] } (idxNames p.defs[k]) p.defs[k].body) := rfl
      by_cases h6 : (typeOf (before p k) (idxNames p.defs[k]) p.defs[k].body).2 = 0
      ·by_cases h7 : (typeOf (before p k) (idxNames p.defs[k]) p.defs[k].body).1 = p.defs[k].ty
       ·rw [show defErr p k taken p.defs[k] = 0 by unfold defErr; rw [if_neg (not_not_intro h1), if_neg (not_not_intro h2), if_neg h3, if_neg (not_not_intro h4), if_neg (not_not_intro h5), ← hT, if_neg (not_not_intro h6), if_neg (not_not_intro h7)]]
        clear hT
        generalize typeOf (before p k) (idxNames p.defs[k]) p.defs[k].body = r at *
        obtain ⟨r1, r2⟩ := r
        simp only at h6 h7
        subst h7
        clear h1 h2 h3 h4
        repeat' first | simp (disch := omega) only [go_sem, map_get hk, defP, ← List.map_take, hRo, Option.getD_none, Option.getD_some, h5, h6] | ((with_reducible first | refine condD ?_ ?_ | refine condX ?_ ?_ | refine condW_intro ?_ ?_) <;> intro h <;> first | (exfalso; omega) | simp (disch := omega) only [go_sem, *, map_get hk, defP, ← List.map_take, hRo, Option.getD_none, Option.getD_some, h5, h6] | skip) | (refine callW_i (hn _ _ rfl rfl) ?_) | (refine callW_of cD rfl (.inl rfl) ?_) | (refine callW_of cA (pur_ck (c := 2) (m := 1) rfl rfl rfl) (.inl rfl) ?_) | (refine callW_of cF rfl (.inl rfl) ?_) | (refine callW_of cI rfl (.inr rfl) ?_) | (refine callW_of cT rfl (.inl rfl) ?_)
        refine ⟨[], [], ?_⟩
        simp (disch := omega) only [go_sem, frzLA]
        simp [Wk, wkF, wkM, wkL, look_cons, renV, renA, renC, renB, rn, clV, clA, clAs, clB, notIn, findB, findB_setB, clA.go, ren_A, cl_A]
       ·rw [show defErr p k taken p.defs[k] = 10 by unfold defErr; rw [if_neg (not_not_intro h1), if_neg (not_not_intro h2), if_neg h3, if_neg (not_not_intro h4), if_neg (not_not_intro h5), ← hT, if_neg (not_not_intro h6), if_pos h7]]
        clear hT
        generalize typeOf (before p k) (idxNames p.defs[k]) p.defs[k].body = r at *
        clear h1 h2 h3 h4
        have H7 := Lib.hid h7
        clear h7
        repeat' first | simp (disch := omega) only [go_sem, map_get hk, defP, ← List.map_take, hRo, Option.getD_none, Option.getD_some, h5, h6] | ((with_reducible first | refine condD ?_ ?_ | refine condX ?_ ?_ | refine condW_intro ?_ ?_) <;> intro h <;> first | (exfalso; omega) | simp (disch := omega) only [go_sem, *, map_get hk, defP, ← List.map_take, hRo, Option.getD_none, Option.getD_some, h5, h6] | skip) | (refine callW_i (hn _ _ rfl rfl) ?_) | (refine callW_of cD rfl (.inl rfl) ?_) | (refine callW_of cA (pur_ck (c := 2) (m := 1) rfl rfl rfl) (.inl rfl) ?_) | (refine callW_of cF rfl (.inl rfl) ?_) | (refine callW_of cI rfl (.inr rfl) ?_) | (refine callW_of cT rfl (.inl rfl) ?_)
        all_goals first
         | exact absurd (ty_ext h) H7.out
         | skip
        refine ⟨[], [], ?_⟩
        simp (disch := omega) only [go_sem, frzLA]
        simp [Wk, wkF, wkM, wkL, look_cons, renV, renA, renC, renB, rn, clV, clA, clAs, clB, notIn, findB, findB_setB, clA.go, ren_A, cl_A]
      ·rw [show defErr p k taken p.defs[k] = (typeOf (before p k) (idxNames p.defs[k]) p.defs[k].body).2 by unfold defErr; rw [if_neg (not_not_intro h1), if_neg (not_not_intro h2), if_neg h3, if_neg (not_not_intro h4), if_neg (not_not_intro h5), ← hT, if_pos h6]]
       clear hT
       generalize typeOf (before p k) (idxNames p.defs[k]) p.defs[k].body = r at *
       clear h1 h2 h3 h4
       repeat' first | simp (disch := omega) only [go_sem, map_get hk, defP, ← List.map_take, hRo, Option.getD_none, Option.getD_some, h5, h6] | ((with_reducible first | refine condD ?_ ?_ | refine condX ?_ ?_ | refine condW_intro ?_ ?_) <;> intro h <;> first | (exfalso; omega) | simp (disch := omega) only [go_sem, *, map_get hk, defP, ← List.map_take, hRo, Option.getD_none, Option.getD_some, h5, h6] | skip) | (refine callW_i (hn _ _ rfl rfl) ?_) | (refine callW_of cD rfl (.inl rfl) ?_) | (refine callW_of cA (pur_ck (c := 2) (m := 1) rfl rfl rfl) (.inl rfl) ?_) | (refine callW_of cF rfl (.inl rfl) ?_) | (refine callW_of cI rfl (.inr rfl) ?_) | (refine callW_of cT rfl (.inl rfl) ?_)
       refine ⟨[], [], ?_⟩
       simp (disch := omega) only [go_sem, frzLA]
       simp [Wk, wkF, wkM, wkL, look_cons, renV, renA, renC, renB, rn, clV, clA, clAs, clB, notIn, findB, findB_setB, clA.go, ren_A, cl_A]
     ·rw [show defErr p k taken p.defs[k] = foldErr p.defs[k] by unfold defErr; rw [if_neg (not_not_intro h1), if_neg (not_not_intro h2), if_neg h3, if_neg (not_not_intro h4), if_pos h5]]
      clear h1 h2 h3 h4 cT
      repeat' first | simp (disch := omega) only [go_sem, map_get hk, defP, ← List.map_take, hRo, Option.getD_none, Option.getD_some, h5] | ((with_reducible first | refine condD ?_ ?_ | refine condX ?_ ?_ | refine condW_intro ?_ ?_) <;> intro h <;> first | (exfalso; omega) | simp (disch := omega) only [go_sem, *, map_get hk, defP, ← List.map_take, hRo, Option.getD_none, Option.getD_some, h5] | skip) | (refine callW_i (hn _ _ rfl rfl) ?_) | (refine callW_of cD rfl (.inl rfl) ?_) | (refine callW_of cA (pur_ck (c := 2) (m := 1) rfl rfl rfl) (.inl rfl) ?_) | (refine callW_of cF rfl (.inl rfl) ?_)
      refine ⟨[], [], ?_⟩
      simp (disch := omega) only [go_sem, frzLA]
      simp [Wk, wkF, wkM, wkL, look_cons, renV, renA, renC, renB, rn, clV, clA, clAs, clB, notIn, findB, findB_setB, clA.go, ren_A, cl_A]
    ·rw [show defErr p k taken p.defs[k] = axErrs p.sizes p.sizes (p.defs[k].dims ++ p.defs[k].red) by unfold defErr; rw [if_neg (not_not_intro h1), if_neg (not_not_intro h2), if_neg h3, if_pos h4]]
     clear h1 h2 h3 cT cF
     repeat' first | simp (disch := omega) only [go_sem, map_get hk, defP, ← List.map_take, hRo, Option.getD_none, Option.getD_some, h4] | ((with_reducible first | refine condD ?_ ?_ | refine condX ?_ ?_ | refine condW_intro ?_ ?_) <;> intro h <;> first | (exfalso; omega) | simp (disch := omega) only [go_sem, *, map_get hk, defP, ← List.map_take, hRo, Option.getD_none, Option.getD_some, h4] | skip) | (refine callW_i (hn _ _ rfl rfl) ?_) | (refine callW_of cD rfl (.inl rfl) ?_) | (refine callW_of cA (pur_ck (c := 2) (m := 1) rfl rfl rfl) (.inl rfl) ?_)
     refine ⟨[], [], ?_⟩
     simp (disch := omega) only [go_sem, frzLA]
     simp [Wk, wkF, wkM, wkL, look_cons, renV, renA, renC, renB, rn, clV, clA, clAs, clB, notIn, findB, findB_setB, clA.go, ren_A, cl_A]
  ·rw [if_pos h2] at cD
   rw [show defErr p k taken p.defs[k] = 10 by unfold defErr; rw [if_neg (not_not_intro h1), if_pos h2]]
   clear h1 h2 cT cA cF cI
   repeat' first | simp (disch := omega) only [go_sem, map_get hk, defP, ← List.map_take, hRo, Option.getD_none, Option.getD_some] | ((with_reducible first | refine condD ?_ ?_ | refine condX ?_ ?_ | refine condW_intro ?_ ?_) <;> intro h <;> first | (exfalso; omega) | simp (disch := omega) only [go_sem, *, map_get hk, defP, ← List.map_take, hRo, Option.getD_none, Option.getD_some] | skip) | (refine callW_i (hn _ _ rfl rfl) ?_) | (refine callW_of cD rfl (.inl rfl) ?_)
   refine ⟨[], [], ?_⟩
   simp (disch := omega) only [go_sem, frzLA]
   simp [Wk, wkF, wkM, wkL, look_cons, renV, renA, renC, renB, rn, clV, clA, clAs, clB, notIn, findB, findB_setB, clA.go, ren_A, cl_A]
 ·rw [show kAdd K taken p.defs[k].name = K from if_neg h1]
  have hn := fun mem nx h2 h3 => program_checker_name_err (mem := mem) (nx := nx) (c := 2) (m := 1) (p := p) h2 h3 hT h1 2
  rw [show defErr p k taken p.defs[k] = nameErr taken p.defs[k].name by unfold defErr; rw [if_pos h1]]
  clear hT hK hS hf hf' h64 cT cF cI cD
  repeat' first | simp (disch := omega) only [go_sem, map_get hk, defP, ← List.map_take, hRo, Option.getD_none, Option.getD_some, h1] | ((with_reducible first | refine condD ?_ ?_ | refine condX ?_ ?_ | refine condW_intro ?_ ?_) <;> intro h <;> first | (exfalso; omega) | simp (disch := omega) only [go_sem, *, map_get hk, defP, ← List.map_take, hRo, Option.getD_none, Option.getD_some, h1] | skip) | (refine callW_i (hn _ _ rfl rfl) ?_)
  refine ⟨[], [], ?_⟩
  simp (disch := omega) only [go_sem, frzLA]
  simp [Wk, wkF, wkM, wkL, look_cons, renV, renA, renC, renB, rn, clV, clA, clAs, clB, notIn, findB, findB_setB, clA.go, ren_A, cl_A]
end Go.Proofs.YtfjnhdfhgenkdaaGreatDoor
