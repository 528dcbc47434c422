/- Walks: package program: types of expressions, whole. -/
import Derived.Test.YtfjnhdfhgenkdaaGreatDoorV17h
import Derived.Test.YtfjnhdfhgenkdaaGreatDoorV17d
set_option linter.unusedVariables false
set_option linter.unusedSimpArgs false
set_option maxRecDepth 20000
namespace Go.Proofs.YtfjnhdfhgenkdaaGreatDoor
open Go.Abs Go.RowKit

set_option maxHeartbeats 4000000 in
theorem program_typer_of_abs {p : Prg} (hf : fewP p) {vars : List ByteArray} {K : KL} (hK : Kn p vars K) (e : Ex) : rnkAll e → PCalls Tryz.prog n_program_typer_of [cTy p K, aEx e] (aTyE (exTy p vars e)) := by
 refine Ex.ind (p := fun e => rnkAll e → PCalls Tryz.prog n_program_typer_of [cTy p K, aEx e] (aTyE (exTy p vars e))) (fun e ih hr => ?_) e
 refine PCalls.of is_program_typer_of (by simp) fun hb => runW_sound ?_
 have hl := (bnd_args hb.2).1
 obtain ⟨ha, ho1, ho2, _⟩ := rnkAll_self hr
 have ha3 : e.args.length ≤ 3 := by rcases op_kinds ho1 ho2 with h | h | h | h | h | h <;> omega
 have HA := Lib.hid ha
 clear ha
 simp only [c_program_typer_of]
 repeat' first | simp (disch := omega) only [go_sem] | ((with_reducible first | refine condD ?_ ?_ | refine condX ?_ ?_ | refine condW_intro ?_ ?_) <;> intro h <;> first | (exfalso; omega) | simp (disch := omega) only [go_sem, *] | skip)
 refine AW_adopt 6 43 5 rfl (by decide) ?_
 refine AW_loop (fun s : Nat × List Ty => ⟨[(15, I s.1), (14, I e.args.length), (13, .c (.pure (.slice (e.args.map Ex.row)))), (6, .c (.ref 2)), (4, .c (.ptr 1 0)), (3, .c (.ptr 0 0)), (0, cTy p K)], [(2, .arr 43 5 (s.2.map tyP)), (1, bTy ty0), (0, bEx e)], 3, 0⟩) (fun s => s.1 ≤ e.args.length ∧ Hid (exTys p vars (e.args.take s.1) = .inr s.2)) (fun s => e.args.length - s.1) ⟨(0, []), [], ⟨by omega, by show _ = _; simp [exTys]⟩, by simp [Wk, wkF, wkM, wkL, look_cons, renV, renA, renC, renB, rn, clV, clA, clAs, clB, notIn, findB, findB_setB, clA.go, ty0]⟩ ?_
 rintro ⟨k, ts⟩ ⟨hk, hall⟩
 refine runW_sound ?_
 simp only at hk hall
 by_cases hlt : k < e.args.length
 ·have hih := ih _ (List.getElem_mem hlt) (rnkAll_arg hr (List.getElem_mem hlt))
  have hlk : ts.length = k := by
   have := exTys_len hall.out
   rw [this, List.length_take]
   omega
  by_cases h0 : (exTy p vars e.args[k]).2 = 0
  ·have hn := exTys_step hlt hall.out h0
   have HN := Lib.hid hn
   clear ih hr hall hn
   generalize exTy p vars e.args[k] = r at *
   have ht : ts.map tyP ++ [tyP r.1] = (ts ++ [r.1]).map tyP := by simp
   simp only [tyP] at ht
   have HT := Lib.hid ht
   clear ht
   repeat' first | simp (disch := omega) only [go_sem, map_get hlt, Ex.row_eq, wrap_i64, h0] | ((with_reducible first | refine condD ?_ ?_ | refine condX ?_ ?_ | refine condW_intro ?_ ?_) <;> intro h <;> first | (exfalso; omega) | simp (disch := omega) only [go_sem, *, map_get hlt, Ex.row_eq, wrap_i64, h0] | skip) | (refine callW_of hih rfl (.inl rfl) ?_) | (refine app_own rfl (by intro h; cases h) (rowsOk_one rfl) (by simp; omega) (by simp; omega) ?_)
   rw [HT.out]
   exact ⟨(k + 1, ts ++ [r.1]), [(2, 5)], ⟨by omega, HN⟩, by show _ - _ < _ - _; omega, by simp [Wk, wkF, wkM, wkL, look_cons, renV, renA, renC, renB, rn, clV, clA, clAs, clB, notIn, findB, findB_setB, clA.go]⟩
  ·have hn := exTys_stop hlt hall.out h0
   have hR : exTy p vars e = (ty0, (exTy p vars e.args[k]).2) := by conv => lhs; rw [exTy_eq, hn]
   rw [hR]
   clear ih hr hall hn hR
   generalize exTy p vars e.args[k] = r at *
   repeat' first | simp (disch := omega) only [go_sem, map_get hlt, Ex.row_eq, wrap_i64, h0] | ((with_reducible first | refine condD ?_ ?_ | refine condX ?_ ?_ | refine condW_intro ?_ ?_) <;> intro h <;> first | (exfalso; omega) | simp (disch := omega) only [go_sem, *, map_get hlt, Ex.row_eq, wrap_i64, h0] | skip) | (refine callW_of hih rfl (.inl rfl) ?_)
   try rfl
 ·have hts := hall.out
  rw [List.take_of_length_le (by omega)] at hts
  have hlk := exTys_len hts
  have hR : exTy p vars e = nodeTy p vars e ts := by conv => lhs; rw [exTy_eq, hts]
  have hrd := program_typer_read_abs hf hK e
  have hfo := program_typer_form_abs hK e.lin
  clear ih hr hall hts
  have hts := HA.out
  clear HA
  rcases op_kinds ho1 ho2 with ⟨g | g | g, h2⟩ | ⟨g | g | g, h2⟩ | ⟨g, h2⟩ | ⟨g, h2⟩ | ⟨g, h2⟩ | ⟨g, h2⟩
  ·rw [hR.trans (show nodeTy p vars e ts = (e.ty, 0) by simp [nodeTy, g])]
   clear hR hlk h2 hts hrd hfo
   repeat' first | simp (disch := omega) only [go_sem, g] | ((with_reducible first | refine condD ?_ ?_ | refine condX ?_ ?_ | refine condW_intro ?_ ?_) <;> intro h <;> first | (exfalso; omega) | simp (disch := omega) only [go_sem, *, g] | skip)
  ·rw [hR.trans (show nodeTy p vars e ts = ((3, 0, 0, 0, 0), formsErr p vars [e.lin]) by simp [nodeTy, g])]
   clear hR hlk h2 hts hrd
   repeat' first | simp (disch := omega) only [go_sem, g] | ((with_reducible first | refine condD ?_ ?_ | refine condX ?_ ?_ | refine condW_intro ?_ ?_) <;> intro h <;> first | (exfalso; omega) | simp (disch := omega) only [go_sem, *, g] | skip) | (refine callW_of hfo rfl (.inl rfl) ?_)
  ·rw [hR.trans (show nodeTy p vars e ts = readS p vars e by simp [nodeTy, g])]
   clear hR hlk h2 hts hfo
   simp only [aEx, g] at hrd
   repeat' first | simp (disch := omega) only [go_sem, g] | ((with_reducible first | refine condD ?_ ?_ | refine condX ?_ ?_ | refine condW_intro ?_ ?_) <;> intro h <;> first | (exfalso; omega) | simp (disch := omega) only [go_sem, *, g] | skip) | (refine callW_of hrd rfl (.inl rfl) ?_)
  ·obtain ⟨a, rfl⟩ := len1 (l := ts) (by omega)
   rw [hR.trans (show nodeTy p vars e [a] = (a, 0) by simp [nodeTy, g])]
   clear hR hlk h2 hts hrd hfo
   repeat' first | simp (disch := omega) only [go_sem, g, Int.toNat_zero] | ((with_reducible first | refine condD ?_ ?_ | refine condX ?_ ?_ | refine condW_intro ?_ ?_) <;> intro h <;> first | (exfalso; omega) | simp (disch := omega) only [go_sem, *, g, Int.toNat_zero] | skip)
  ·rw [hR.trans (show nodeTy p vars e ts = (e.ty, 0) by simp [nodeTy, g])]
   clear hR hlk h2 hts hrd hfo
   repeat' first | simp (disch := omega) only [go_sem, g] | ((with_reducible first | refine condD ?_ ?_ | refine condX ?_ ?_ | refine condW_intro ?_ ?_) <;> intro h <;> first | (exfalso; omega) | simp (disch := omega) only [go_sem, *, g] | skip)
  ·rw [hR.trans (show nodeTy p vars e ts = (ty0, 0) by simp [nodeTy, g])]
   clear hR hlk h2 hts hrd hfo
   repeat' first | simp (disch := omega) only [go_sem, g] | ((with_reducible first | refine condD ?_ ?_ | refine condX ?_ ?_ | refine condW_intro ?_ ?_) <;> intro h <;> first | (exfalso; omega) | simp (disch := omega) only [go_sem, *, g] | skip)
   try rfl
  ·obtain ⟨a, b, c, rfl⟩ := len3 (l := ts) (by omega)
   by_cases hbc : b = c
   ·subst hbc
    rw [hR.trans (show nodeTy p vars e [a, b, b] = (b, 0) by simp [nodeTy, g])]
    have cs := typer_same_abs b
    clear hR hlk h2 hts hrd hfo
    repeat' first | simp (disch := omega) only [go_sem, g, Int.toNat_zero, show Int.toNat 1 = 1 from rfl, show Int.toNat 2 = 2 from rfl] | ((with_reducible first | refine condD ?_ ?_ | refine condX ?_ ?_ | refine condW_intro ?_ ?_) <;> intro h <;> first | (exfalso; omega) | simp (disch := omega) only [go_sem, *, g, Int.toNat_zero, show Int.toNat 1 = 1 from rfl, show Int.toNat 2 = 2 from rfl] | skip) | (with_reducible refine bothW_intro ?_ ?_) | (with_reducible refine nilW_intro (fun h => ?_) ?_) | (refine callW_of cs rfl (.inl rfl) ?_)
   ·rw [hR.trans (show nodeTy p vars e [a, b, c] = (b, 10) by simp [nodeTy, g, hbc])]
    have cs := typer_other_abs hbc
    clear hR hlk h2 hts hrd hfo hbc
    repeat' first | simp (disch := omega) only [go_sem, g, Int.toNat_zero, show Int.toNat 1 = 1 from rfl, show Int.toNat 2 = 2 from rfl] | ((with_reducible first | refine condD ?_ ?_ | refine condX ?_ ?_ | refine condW_intro ?_ ?_) <;> intro h <;> first | (exfalso; omega) | simp (disch := omega) only [go_sem, *, g, Int.toNat_zero, show Int.toNat 1 = 1 from rfl, show Int.toNat 2 = 2 from rfl] | skip) | (with_reducible refine bothW_intro ?_ ?_) | (with_reducible refine nilW_intro (fun h => ?_) ?_) | (refine callW_of cs rfl (.inl rfl) ?_)
  ·obtain ⟨a, b, rfl⟩ := len2 (l := ts) (by omega)
   rcases g with g | g | g
   all_goals
    by_cases hbc : a = b
    ·subst hbc
     rw [hR.trans (show nodeTy p vars e [a, a] = (ty0, 0) by simp [nodeTy, g])]
     have cs := typer_same_abs a
     clear hR hlk h2 hts hrd hfo
     repeat' first | simp (disch := omega) only [go_sem, g, Int.toNat_zero, show Int.toNat 1 = 1 from rfl] | ((with_reducible first | refine condD ?_ ?_ | refine condX ?_ ?_ | refine condW_intro ?_ ?_) <;> intro h <;> first | (exfalso; omega) | simp (disch := omega) only [go_sem, *, g, Int.toNat_zero, show Int.toNat 1 = 1 from rfl] | skip) | (refine callW_of cs rfl (.inl rfl) ?_)
     try rfl
    ·rw [hR.trans (show nodeTy p vars e [a, b] = (ty0, 10) by simp [nodeTy, g, hbc])]
     have cs := typer_other_abs hbc
     clear hR hlk h2 hts hrd hfo hbc
     repeat' first | simp (disch := omega) only [go_sem, g, Int.toNat_zero, show Int.toNat 1 = 1 from rfl] | ((with_reducible first | refine condD ?_ ?_ | refine condX ?_ ?_ | refine condW_intro ?_ ?_) <;> intro h <;> first | (exfalso; omega) | simp (disch := omega) only [go_sem, *, g, Int.toNat_zero, show Int.toNat 1 = 1 from rfl] | skip) | (refine callW_of cs rfl (.inl rfl) ?_)
     try rfl
  ·rcases g with g | g
   all_goals
    rw [hR.trans (show nodeTy p vars e ts = (ty0, 0) by simp [nodeTy, g])]
    clear hR hlk h2 hts hrd hfo
    repeat' first | simp (disch := omega) only [go_sem, g] | ((with_reducible first | refine condD ?_ ?_ | refine condX ?_ ?_ | refine condW_intro ?_ ?_) <;> intro h <;> first | (exfalso; omega) | simp (disch := omega) only [go_sem, *, g] | skip)
    try rfl
  ·obtain ⟨a, b, rfl⟩ := len2 (l := ts) (by omega)
   have h3 : ¬ e.op = 1 ∧ ¬ e.op = 2 ∧ ¬ e.op = 3 ∧ ¬ e.op = 12 ∧ ¬ e.op = 8 ∧ ¬ e.op = 11 ∧ ¬ 16 ≤ e.op ∧ ¬ 13 ≤ e.op ∧ ¬ e.op = 13 ∧ ¬ e.op = 14 ∧ ¬ e.op = 15 ∧ ¬ e.op = 16 ∧ ¬ e.op = 17 ∧ ¬ e.op = 18 := by omega
   obtain ⟨g1, g2, g3, g4, g5, g6, g7, g8, g9, g10, g11, g12, g13, g14⟩ := h3
   clear g
   by_cases hbc : a = b
   ·subst hbc
    rw [hR.trans (show nodeTy p vars e [a, a] = (a, 0) by simp [nodeTy, g1, g2, g3, g4, g5, g6, g7, g8])]
    have cs := typer_same_abs a
    clear hR hlk h2 hts hrd hfo g7 g8
    repeat' first | simp (disch := omega) only [go_sem, g1, g2, g3, g4, g5, g6, g9, g10, g11, g12, g13, g14, Int.toNat_zero, show Int.toNat 1 = 1 from rfl] | ((with_reducible first | refine condD ?_ ?_ | refine condX ?_ ?_ | refine condW_intro ?_ ?_) <;> intro h <;> first | (exfalso; omega) | simp (disch := omega) only [go_sem, *, g1, g2, g3, g4, g5, g6, g9, g10, g11, g12, g13, g14, Int.toNat_zero, show Int.toNat 1 = 1 from rfl] | skip) | (with_reducible refine bothW_intro ?_ ?_) | (with_reducible refine nilW_intro (fun h => ?_) ?_) | (refine callW_of cs rfl (.inl rfl) ?_)
   ·rw [hR.trans (show nodeTy p vars e [a, b] = (a, 10) by simp [nodeTy, g1, g2, g3, g4, g5, g6, g7, g8, hbc])]
    have cs := typer_other_abs hbc
    clear hR hlk h2 hts hrd hfo hbc g7 g8
    repeat' first | simp (disch := omega) only [go_sem, g1, g2, g3, g4, g5, g6, g9, g10, g11, g12, g13, g14, Int.toNat_zero, show Int.toNat 1 = 1 from rfl] | ((with_reducible first | refine condD ?_ ?_ | refine condX ?_ ?_ | refine condW_intro ?_ ?_) <;> intro h <;> first | (exfalso; omega) | simp (disch := omega) only [go_sem, *, g1, g2, g3, g4, g5, g6, g9, g10, g11, g12, g13, g14, Int.toNat_zero, show Int.toNat 1 = 1 from rfl] | skip) | (with_reducible refine bothW_intro ?_ ?_) | (with_reducible refine nilW_intro (fun h => ?_) ?_) | (refine callW_of cs rfl (.inl rfl) ?_)
theorem kn_all (p : Prg) (vars : List ByteArray) : Kn p vars (kPut (kPut [] 1 p.sizes) 3 vars) := fun s => by
 rw [kGet_put, kGet_put, kGet_nil]
 by_cases h1 : s ∈ vars
 ·simp [h1]
 ·by_cases h2 : s ∈ p.sizes
  ·simp [h1, h2]
  ·simp [h1, h2]
set_option maxHeartbeats 2000000 in
theorem program_TypeOf_abs {p : Prg} (hf : fewP p) (vars : List ByteArray) {e : Ex} (h64 : ∀ a ∈ e.pre, frIn a.val) : PCalls Tryz.prog n_program_TypeOf [aPrg p, .c (.pure (pStrs vars)), aEx e] (aTyE (typeOf p vars e)) := by
 refine PCalls.of is_program_TypeOf (by simp) fun hb => runW_sound ?_
 have hl : vars.length ≤ 9223372036854775807 := by
  have := hb.2.1
  simp [bndV, bndA] at this
  omega
 have hl2 : p.sizes.length ≤ 9223372036854775807 := by
  have := hb.1
  simp [bndV, bndAs, bndA] at this
  omega
 simp only [c_program_TypeOf]
 have hv := expr_Validate_abs h64
 by_cases h1 : exErr e = 0
 ·by_cases h2 : isCond e.op
  ·have hR : typeOf p vars e = (ty0, 10) := by unfold typeOf; rw [if_neg (not_not_intro h1), if_pos h2]
   rw [hR]
   clear hR
   repeat' first | simp (disch := omega) only [go_sem, h1, h2, decide_true] | ((with_reducible first | refine condD ?_ ?_ | refine condX ?_ ?_ | refine condW_intro ?_ ?_) <;> intro h <;> first | (exfalso; omega) | simp (disch := omega) only [go_sem, *, h1, h2, decide_true] | skip) | (refine callW_of hv rfl (.inl rfl) ?_) | (refine callW_of (expr_IsCondition_abs e) rfl (.inl rfl) ?_)
   try rfl
  ·have cO := program_typer_of_abs hf (kn_all p vars) e (exErr_rnk h1)
   have CO := Lib.hid cO
   clear cO
   have hR : ∀ x, (exTy p vars e).2 = x → x ≠ 0 → typeOf p vars e = (ty0, x) := fun x hx h0 => by unfold typeOf; rw [if_neg (not_not_intro h1), if_neg h2, hx, if_pos h0]
   have hR0 : (exTy p vars e).2 = 0 → typeOf p vars e = ((exTy p vars e).1, 0) := fun h0 => by unfold typeOf; rw [if_neg (not_not_intro h1), if_neg h2, if_neg (not_not_intro h0)]
   have HR := Lib.hid hR
   have HR0 := Lib.hid hR0
   clear hR hR0
   repeat' first | simp (disch := omega) only [go_sem, h1, h2, decide_false] | ((with_reducible first | refine condD ?_ ?_ | refine condX ?_ ?_ | refine condW_intro ?_ ?_) <;> intro h <;> first | (exfalso; omega) | simp (disch := omega) only [go_sem, *, h1, h2, decide_false] | skip) | (refine callW_of hv rfl (.inl rfl) ?_) | (refine callW_of (expr_IsCondition_abs e) rfl (.inl rfl) ?_)
   refine AW_loop (fun k : Nat => ⟨[(32, I k), (31, I p.sizes.length), (30, .c (.pure (pStrs p.sizes))), (9, .c (.ptr 4 0)), (6, .c (.ptr 2 0)), (5, .c (.ptr 1 0)), (1, .c (.pure (pStrs vars)))], [(4, bCk p 3), (3, .map .str none (entsA (kPut [] 1 (p.sizes.take k)))), (2, bTy ty0), (1, bEx e), (0, bPrg p)], 5, 0⟩) (fun k => k ≤ p.sizes.length) (fun k => p.sizes.length - k) ⟨0, [], by omega, by simp [Wk, wkF, wkM, wkL, look_cons, renV, renA, renC, renB, rn, clV, clA, clAs, clB, notIn, findB, findB_setB, clA.go, ty0, kPut, entsA, cl_nil]⟩ ?_
   clear h1 h2 hv
   intro k hk
   refine runW_sound ?_
   by_cases hlt : k < p.sizes.length
   ·repeat' first | simp (disch := omega) only [go_sem, map_get hlt, wrap_i64, mset_A, ← kPut_take hlt] | ((with_reducible first | refine condD ?_ ?_ | refine condX ?_ ?_ | refine condW_intro ?_ ?_) <;> intro h <;> first | (exfalso; omega) | simp (disch := omega) only [go_sem, *, map_get hlt, wrap_i64, mset_A, ← kPut_take hlt] | skip)
    exact ⟨k + 1, [], by omega, by omega, by simp [Wk, wkF, wkM, wkL, look_cons, renV, renA, renC, renB, rn, clV, clA, clAs, clB, notIn, findB, findB_setB, clA.go, ty0, ren_A, cl_A]⟩
   ·have hkp : k = p.sizes.length := by omega
    subst hkp
    rw [List.take_length]
    repeat clear hlt
    repeat clear hk
    repeat' first | simp (disch := omega) only [go_sem] | ((with_reducible first | refine condD ?_ ?_ | refine condX ?_ ?_ | refine condW_intro ?_ ?_) <;> intro h <;> first | (exfalso; omega) | simp (disch := omega) only [go_sem, *] | skip)
    refine AW_loop (fun k : Nat => ⟨[(44, I k), (43, I vars.length), (42, .c (.pure (pStrs vars))), (9, .c (.ptr 4 0)), (6, .c (.ptr 2 0)), (5, .c (.ptr 1 0))], [(4, bCk p 3), (3, .map .str none (entsA (kPut (kPut [] 1 p.sizes) 3 (vars.take k)))), (2, bTy ty0), (1, bEx e), (0, bPrg p)], 5, 0⟩) (fun k => k ≤ vars.length) (fun k => vars.length - k) ⟨0, [], by omega, by simp [Wk, wkF, wkM, wkL, look_cons, renV, renA, renC, renB, rn, clV, clA, clAs, clB, notIn, findB, findB_setB, clA.go, ty0, kPut, ren_A, cl_A]⟩ ?_
    intro k hk
    refine runW_sound ?_
    by_cases hlt : k < vars.length
    ·repeat' first | simp (disch := omega) only [go_sem, map_get hlt, wrap_i64, mset_A, ← kPut_take hlt] | ((with_reducible first | refine condD ?_ ?_ | refine condX ?_ ?_ | refine condW_intro ?_ ?_) <;> intro h <;> first | (exfalso; omega) | simp (disch := omega) only [go_sem, *, map_get hlt, wrap_i64, mset_A, ← kPut_take hlt] | skip)
     exact ⟨k + 1, [], by omega, by omega, by simp [Wk, wkF, wkM, wkL, look_cons, renV, renA, renC, renB, rn, clV, clA, clAs, clB, notIn, findB, findB_setB, clA.go, ty0, ren_A, cl_A]⟩
    ·have hkp : k = vars.length := by omega
     subst hkp
     rw [List.take_length]
     repeat clear hlt
     repeat clear hk
     repeat' first | simp (disch := omega) only [go_sem] | ((with_reducible first | refine condD ?_ ?_ | refine condX ?_ ?_ | refine condW_intro ?_ ?_) <;> intro h <;> first | (exfalso; omega) | simp (disch := omega) only [go_sem, *] | skip)
     refine callW_of CO.out (pur_ck (m := 3) rfl rfl rfl) (.inl rfl) ?_
     by_cases h3 : (exTy p vars e).2 = 0
     ·rw [HR0.out h3]
      clear HR HR0 CO
      generalize exTy p vars e = r at *
      repeat' first | simp (disch := omega) only [go_sem, h3] | ((with_reducible first | refine condD ?_ ?_ | refine condX ?_ ?_ | refine condW_intro ?_ ?_) <;> intro h <;> first | (exfalso; omega) | simp (disch := omega) only [go_sem, *, h3] | skip)
     ·rw [HR.out _ rfl h3]
      clear HR HR0 CO
      generalize exTy p vars e = r at *
      repeat' first | simp (disch := omega) only [go_sem, h3] | ((with_reducible first | refine condD ?_ ?_ | refine condX ?_ ?_ | refine condW_intro ?_ ?_) <;> intro h <;> first | (exfalso; omega) | simp (disch := omega) only [go_sem, *, h3] | skip)
      try rfl
 ·have hR : typeOf p vars e = (ty0, exErr e) := by unfold typeOf; rw [if_pos h1]
  rw [hR]
  clear hR
  repeat' first | simp (disch := omega) only [go_sem, h1] | ((with_reducible first | refine condD ?_ ?_ | refine condX ?_ ?_ | refine condW_intro ?_ ?_) <;> intro h <;> first | (exfalso; omega) | simp (disch := omega) only [go_sem, *, h1] | skip) | (refine callW_of hv rfl (.inl rfl) ?_)
  try rfl
end Go.Proofs.YtfjnhdfhgenkdaaGreatDoor
