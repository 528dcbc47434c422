/- Walks: the reference's types of expressions, whole. -/
import Derived.Test.YtbblkakcadonjaaGreatDoorV17c
import Derived.Test.YtbblkakcadonjaaGreatDoorP17
set_option linter.unusedVariables false
set_option linter.unusedSimpArgs false
set_option maxRecDepth 20000
set_option maxHeartbeats 4000000
set_option maxRecDepth 1000000
namespace Go.Proofs.YtbblkakcadonjaaGreatDoor
open Go.Abs Go.RowKit

set_option maxHeartbeats 4000000 in
theorem ref17_node_abs {p : Prg} (hf : fewP p) (vars : List ByteArray) (e : Ex) : rnkAll e → PCalls Tryz.prog n_ref17_node [aPrg p, .c (.pure (pStrs vars)), aEx e] (aTyE (exTyR p vars e)) := by
 refine Ex.ind (p := fun e => rnkAll e → PCalls Tryz.prog n_ref17_node [aPrg p, .c (.pure (pStrs vars)), aEx e] (aTyE (exTyR p vars e))) (fun e ih hr => ?_) e
 refine PCalls.of is_ref17_node (by simp) fun hb => runW_sound ?_
 have hl := (bnd_args hb.2.2).1
 obtain ⟨ha, ho1, ho2, _⟩ := rnkAll_self hr
 have ha3 : e.args.length ≤ 3 := by rcases op_kinds ho1 ho2 with h | h | h | h | h | h <;> omega
 have HA := Lib.hid ha
 clear ha
 conv in c_ref17_node => cbv
 repeat' first | simp (disch := omega) only [go_sem] | ((with_reducible refine condT ?_ ?_) <;> intro h <;> try first | omega | simp (disch := omega) only [go_sem, *])
 refine AW_adopt 8 59 5 rfl (by decide) ?_
 refine AW_loop (fun s : Nat × List Ty => ⟨[(9, I s.1), (8, .c (.ref 3)), (6, .c (.ptr 2 0)), (5, .c (.ptr 1 0)), (3, .c (.ptr 0 0)), (1, .c (.pure (pStrs vars)))], [(3, .arr 59 5 (s.2.map tyP)), (2, bTy ty0), (1, bEx e), (0, bPrg p)], 4, 0⟩) (fun s => s.1 ≤ e.args.length ∧ Hid (exTys p vars (e.args.take s.1) = .inr s.2)) (fun s => e.args.length - s.1) ⟨(0, []), [], ⟨by omega, by show _ = _; simp [exTys]⟩, by simp [ty0]⟩ ?_
 rintro ⟨k, ts⟩ ⟨hk, hall⟩
 refine runW_sound ?_
 simp only at hk hall
 by_cases hlt : k < e.args.length
 ·have hih := ih _ (List.getElem_mem hlt) (rnkAll_arg hr (List.getElem_mem hlt))
  have hlk : ts.length = k := by
   have := exTys_len hall.out
   rw [this, List.length_take]
   omega
  by_cases h0 : (exTy p vars e.args[k]).2 = 0
  ·have hn := exTys_step hlt hall.out h0
   have h0' : (exTyR p vars e.args[k]).2 = 0 := (exTyR_err _).trans h0
   have ht := exTyR_ty h0
   rw [← ht] at hn
   have HN := Lib.hid hn
   clear ih hr hall hn ht h0
   generalize exTyR p vars e.args[k] = r at *
   have ht : ts.map tyP ++ [tyP r.1] = (ts ++ [r.1]).map tyP := by simp
   simp only [tyP] at ht
   have HT := Lib.hid ht
   clear ht
   repeat' first | simp (disch := omega) only [go_sem, map_get hlt, Ex.row_eq, wrap_i64, h0'] | ((with_reducible refine condT ?_ ?_) <;> intro h <;> try first | omega | simp (disch := omega) only [go_sem, *, map_get hlt, Ex.row_eq, wrap_i64, h0']) | (refine callW_of hih rfl (.inl rfl) ?_) | (refine app_own rfl (by intro h; cases h) (rowsOk_one rfl) (by simp; omega) (by simp; omega) ?_)
   rw [HT.out]
   exact ⟨(k + 1, ts ++ [r.1]), [(3, 5)], ⟨by omega, HN⟩, by show _ - _ < _ - _; omega, by simp⟩
  ·have hn := exTys_stop hlt hall.out h0
   have h0' : ¬ (exTyR p vars e.args[k]).2 = 0 := fun h => h0 ((exTyR_err _).symm.trans h)
   have hR : exTyR p vars e = (ty0, (exTyR p vars e.args[k]).2) := by rw [exTyR_err]; conv => lhs; unfold exTyR; rw [hn]
   rw [hR]
   clear ih hr hall hn h0 hR
   generalize exTyR p vars e.args[k] = r at *
   repeat' first | simp (disch := omega) only [go_sem, map_get hlt, Ex.row_eq, wrap_i64, h0'] | ((with_reducible refine condT ?_ ?_) <;> intro h <;> try first | omega | simp (disch := omega) only [go_sem, *, map_get hlt, Ex.row_eq, wrap_i64, h0']) | (refine callW_of hih rfl (.inl rfl) ?_)
   try rfl
 ·have hts := hall.out
  rw [List.take_of_length_le (by omega)] at hts
  have hlk := exTys_len hts
  have hR : exTyR p vars e = zE e.op (nodeTy p vars e ts) := by unfold exTyR; rw [hts]
  have hrd := ref17_read_abs hf vars e
  have hfo := ref17_forms_abs p vars [e.lin]
  clear ih hr hall hts
  have hts := HA.out
  clear HA
  rcases op_kinds ho1 ho2 with ⟨g | g | g, h2⟩ | ⟨g | g | g, h2⟩ | ⟨g, h2⟩ | ⟨g, h2⟩ | ⟨g, h2⟩ | ⟨g, h2⟩
  ·rw [hR.trans (show zE e.op (nodeTy p vars e ts) = (e.ty, 0) by simp [zE, nodeTy, g])]
   clear hR hlk h2 hts hrd hfo
   repeat' first | simp (disch := omega) only [go_sem, g] | ((with_reducible refine condT ?_ ?_) <;> intro h <;> try first | omega | simp (disch := omega) only [go_sem, *, g])
  ·rw [hR.trans (show zE e.op (nodeTy p vars e ts) = ((3, 0, 0, 0, 0), formsErr p vars [e.lin]) by simp [zE, nodeTy, g])]
   clear hR hlk h2 hts hrd
   repeat' first | simp (disch := omega) only [go_sem, g] | ((with_reducible refine condT ?_ ?_) <;> intro h <;> try first | omega | simp (disch := omega) only [go_sem, *, g]) | (refine callW_of hfo rfl (.inl rfl) ?_)
  ·have hz : zE 3 (readS p vars e) = readS p vars e := by
    unfold readS zE
    repeat' split
    all_goals first
     | rfl
     | simp_all
   rw [hR.trans (show zE e.op (nodeTy p vars e ts) = readS p vars e by simp [nodeTy, g, hz])]
   clear hR hlk h2 hts hfo hz
   simp only [aEx, g] at hrd
   repeat' first | simp (disch := omega) only [go_sem, g] | ((with_reducible refine condT ?_ ?_) <;> intro h <;> try first | omega | simp (disch := omega) only [go_sem, *, g]) | (refine callW_of hrd rfl (.inl rfl) ?_)
  ·obtain ⟨a, rfl⟩ := len1 (l := ts) (by omega)
   rw [hR.trans (show zE e.op (nodeTy p vars e [a]) = (a, 0) by simp [zE, nodeTy, g])]
   clear hR hlk h2 hts hrd hfo
   repeat' first | simp (disch := omega) only [go_sem, g, Int.toNat_zero] | ((with_reducible refine condT ?_ ?_) <;> intro h <;> try first | omega | simp (disch := omega) only [go_sem, *, g, Int.toNat_zero])
  ·rw [hR.trans (show zE e.op (nodeTy p vars e ts) = (e.ty, 0) by simp [zE, nodeTy, g])]
   clear hR hlk h2 hts hrd hfo
   repeat' first | simp (disch := omega) only [go_sem, g] | ((with_reducible refine condT ?_ ?_) <;> intro h <;> try first | omega | simp (disch := omega) only [go_sem, *, g])
  ·rw [hR.trans (show zE e.op (nodeTy p vars e ts) = (ty0, 0) by simp [zE, nodeTy, g])]
   clear hR hlk h2 hts hrd hfo
   repeat' first | simp (disch := omega) only [go_sem, g] | ((with_reducible refine condT ?_ ?_) <;> intro h <;> try first | omega | simp (disch := omega) only [go_sem, *, g])
   try rfl
  ·obtain ⟨a, b, c, rfl⟩ := len3 (l := ts) (by omega)
   by_cases hbc : b = c
   ·subst hbc
    rw [hR.trans (show zE e.op (nodeTy p vars e [a, b, b]) = (b, 0) by simp [zE, nodeTy, g])]
    clear hR hlk h2 hts hrd hfo
    repeat' first | simp (disch := omega) only [go_sem, g, Int.toNat_zero, show Int.toNat 1 = 1 from rfl, show Int.toNat 2 = 2 from rfl] | ((with_reducible refine condT ?_ ?_) <;> intro h <;> try first | omega | simp (disch := omega) only [go_sem, *, g, Int.toNat_zero, show Int.toNat 1 = 1 from rfl, show Int.toNat 2 = 2 from rfl])
   ·rw [hR.trans (show zE e.op (nodeTy p vars e [a, b, c]) = (ty0, 10) by simp [zE, nodeTy, g, hbc])]
    clear hR hlk h2 hts hrd hfo
    repeat' first | simp (disch := omega) only [go_sem, g, Int.toNat_zero, show Int.toNat 1 = 1 from rfl, show Int.toNat 2 = 2 from rfl] | ((with_reducible refine condT ?_ ?_) <;> intro h <;> try first | omega | simp (disch := omega) only [go_sem, *, g, Int.toNat_zero, show Int.toNat 1 = 1 from rfl, show Int.toNat 2 = 2 from rfl])
    all_goals first
     | exact absurd (ty_ext h) hbc
     | rfl
  ·obtain ⟨a, b, rfl⟩ := len2 (l := ts) (by omega)
   have h3 : ¬ e.op = 1 ∧ ¬ e.op = 2 ∧ ¬ e.op = 3 ∧ ¬ e.op = 12 ∧ ¬ e.op = 8 ∧ ¬ e.op = 11 ∧ ¬ 16 ≤ e.op ∧ 13 ≤ e.op := by omega
   obtain ⟨g1, g2, g3, g4, g5, g6, g7, g8⟩ := h3
   clear g
   by_cases hbc : a = b
   ·subst hbc
    rw [hR.trans (show zE e.op (nodeTy p vars e [a, a]) = (ty0, 0) by simp [zE, nodeTy, g1, g2, g3, g4, g5, g6, g7, g8])]
    clear hR hlk h2 hts hrd hfo
    repeat' first | simp (disch := omega) only [go_sem, Int.toNat_zero, show Int.toNat 1 = 1 from rfl] | ((with_reducible refine condT ?_ ?_) <;> intro h <;> try first | omega | simp (disch := omega) only [go_sem, *, Int.toNat_zero, show Int.toNat 1 = 1 from rfl])
    try rfl
   ·rw [hR.trans (show zE e.op (nodeTy p vars e [a, b]) = (ty0, 10) by simp [zE, nodeTy, g1, g2, g3, g4, g5, g6, g7, g8, hbc])]
    clear hR hlk h2 hts hrd hfo
    repeat' first | simp (disch := omega) only [go_sem, Int.toNat_zero, show Int.toNat 1 = 1 from rfl] | ((with_reducible refine condT ?_ ?_) <;> intro h <;> try first | omega | simp (disch := omega) only [go_sem, *, Int.toNat_zero, show Int.toNat 1 = 1 from rfl])
    all_goals first
     | exact absurd (ty_ext h) hbc
     | rfl
  ·have h3 : ¬ e.op = 1 ∧ ¬ e.op = 2 ∧ ¬ e.op = 3 ∧ ¬ e.op = 12 ∧ ¬ e.op = 8 ∧ ¬ e.op = 11 ∧ 16 ≤ e.op := by omega
   obtain ⟨g1, g2, g3, g4, g5, g6, g7⟩ := h3
   clear g
   rw [hR.trans (show zE e.op (nodeTy p vars e ts) = (ty0, 0) by simp [zE, nodeTy, g1, g2, g3, g4, g5, g6, g7])]
   clear hR hlk h2 hts hrd hfo
   repeat' first | simp (disch := omega) only [go_sem] | ((with_reducible refine condT ?_ ?_) <;> intro h <;> try first | omega | simp (disch := omega) only [go_sem, *])
   try rfl
  ·obtain ⟨a, b, rfl⟩ := len2 (l := ts) (by omega)
   have h3 : ¬ e.op = 1 ∧ ¬ e.op = 2 ∧ ¬ e.op = 3 ∧ ¬ e.op = 12 ∧ ¬ e.op = 8 ∧ ¬ e.op = 11 ∧ ¬ 16 ≤ e.op ∧ ¬ 13 ≤ e.op := by omega
   obtain ⟨g1, g2, g3, g4, g5, g6, g7, g8⟩ := h3
   clear g
   by_cases hbc : a = b
   ·subst hbc
    rw [hR.trans (show zE e.op (nodeTy p vars e [a, a]) = (a, 0) by simp [zE, nodeTy, g1, g2, g3, g4, g5, g6, g7, g8])]
    clear hR hlk h2 hts hrd hfo
    repeat' first | simp (disch := omega) only [go_sem, Int.toNat_zero, show Int.toNat 1 = 1 from rfl] | ((with_reducible refine condT ?_ ?_) <;> intro h <;> try first | omega | simp (disch := omega) only [go_sem, *, Int.toNat_zero, show Int.toNat 1 = 1 from rfl])
    try rfl
   ·rw [hR.trans (show zE e.op (nodeTy p vars e [a, b]) = (ty0, 10) by simp [zE, nodeTy, g1, g2, g3, g4, g5, g6, g7, g8, hbc])]
    clear hR hlk h2 hts hrd hfo
    repeat' first | simp (disch := omega) only [go_sem, Int.toNat_zero, show Int.toNat 1 = 1 from rfl] | ((with_reducible refine condT ?_ ?_) <;> intro h <;> try first | omega | simp (disch := omega) only [go_sem, *, Int.toNat_zero, show Int.toNat 1 = 1 from rfl])
    all_goals first
     | exact absurd (ty_ext h) hbc
     | rfl
theorem ref17_TypeOf_abs {p : Prg} (hf : fewP p) (vars : List ByteArray) {e : Ex} (h64 : ∀ a ∈ e.pre, frIn a.val) : PCalls Tryz.prog n_ref17_TypeOf [aPrg p, .c (.pure (pStrs vars)), aEx e] (aTyE (typeOf p vars e)) := by
 refine PCalls.of is_ref17_TypeOf (by simp) fun hb => runW_sound ?_
 conv in c_ref17_TypeOf => cbv
 have hv := ref14_Validate_abs h64
 by_cases h1 : exErr e = 0
 ·by_cases h2 : isCond e.op
  ·have hR : typeOf p vars e = (ty0, 10) := by unfold typeOf; rw [if_neg (not_not_intro h1), if_pos h2]
   rw [hR]
   clear hR
   repeat' first | simp (disch := omega) only [go_sem, h1, h2, decide_true] | ((with_reducible refine condT ?_ ?_) <;> intro h <;> try first | omega | simp (disch := omega) only [go_sem, *, h1, h2, decide_true]) | (refine callW_of hv rfl (.inl rfl) ?_) | (refine callW_of (ref14_IsCondition_abs e) rfl (.inl rfl) ?_)
   try rfl
  ·have hnd := ref17_node_abs hf vars e (exErr_rnk h1)
   by_cases h3 : (exTy p vars e).2 = 0
   ·have hR : typeOf p vars e = ((exTyR p vars e).1, 0) := by unfold typeOf; rw [if_neg (not_not_intro h1), if_neg h2, if_neg (not_not_intro h3), exTyR_ty h3]
    have h3' := (exTyR_err (p := p) (vars := vars) e).trans h3
    rw [hR]
    clear hR h3
    generalize exTyR p vars e = r at *
    repeat' first | simp (disch := omega) only [go_sem, h1, h2, h3', decide_false] | ((with_reducible refine condT ?_ ?_) <;> intro h <;> try first | omega | simp (disch := omega) only [go_sem, *, h1, h2, h3', decide_false]) | (refine callW_of hv rfl (.inl rfl) ?_) | (refine callW_of (ref14_IsCondition_abs e) rfl (.inl rfl) ?_) | (refine callW_of hnd rfl (.inl rfl) ?_)
    try rfl
   ·have hR : typeOf p vars e = (ty0, (exTyR p vars e).2) := by unfold typeOf; rw [if_neg (not_not_intro h1), if_neg h2, if_pos h3, exTyR_err]
    have h3' : ¬ (exTyR p vars e).2 = 0 := fun h => h3 ((exTyR_err e).symm.trans h)
    rw [hR]
    clear hR h3
    generalize exTyR p vars e = r at *
    repeat' first | simp (disch := omega) only [go_sem, h1, h2, h3', decide_false] | ((with_reducible refine condT ?_ ?_) <;> intro h <;> try first | omega | simp (disch := omega) only [go_sem, *, h1, h2, h3', decide_false]) | (refine callW_of hv rfl (.inl rfl) ?_) | (refine callW_of (ref14_IsCondition_abs e) rfl (.inl rfl) ?_) | (refine callW_of hnd rfl (.inl rfl) ?_)
    try rfl
 ·have hR : typeOf p vars e = (ty0, exErr e) := by unfold typeOf; rw [if_pos h1]
  rw [hR]
  clear hR
  repeat' first | simp (disch := omega) only [go_sem, h1] | ((with_reducible refine condT ?_ ?_) <;> intro h <;> try first | omega | simp (disch := omega) only [go_sem, *, h1]) | (refine callW_of hv rfl (.inl rfl) ?_)
  try rfl
end Go.Proofs.YtbblkakcadonjaaGreatDoor
