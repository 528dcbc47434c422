/- Walks: package program: types of expressions. -/
import Derived.Test.YtbblkakcadonjaaGreatDoorV17a
import Derived.Test.YtbblkakcadonjaaGreatDoorV14d
import Derived.Test.YtbblkakcadonjaaGreatDoorV17c
import Derived.Test.YtbblkakcadonjaaGreatDoorP17
import Derived.Test.YtbblkakcadonjaaGreatDoorV17d
set_option linter.unusedVariables false
set_option linter.unusedSimpArgs false
set_option maxRecDepth 20000
set_option maxHeartbeats 4000000
set_option maxRecDepth 1000000
namespace Go.Proofs.YtbblkakcadonjaaGreatDoor
open Go.Abs Go.RowKit

abbrev cTy (p : Prg) (K : KL) : AV := .c (.cptr [pStrs p.sizes, pSl cP p.wher, pSl parP p.params, pSl defP p.defs, pStrs p.outs, .fmap .str none (entsP K)])
abbrev bCk (p : Prg) (m : Nat) : Box := .var [.pure (pStrs p.sizes), .pure (pSl cP p.wher), .pure (pSl parP p.params), .pure (pSl defP p.defs), .pure (pStrs p.outs), .mref m]
abbrev mK (K : KL) : Box := .map .str none (entsA K)
theorem pur_ck {mem : List (Nat × Box)} {c m : Nat} {p : Prg} {K : KL} {rest rest' : List AV} (h2 : findB mem c = some (bCk p m)) (h1 : findB mem m = some (mK K)) (hr : purVs mem rest = some rest') : purVs mem (.c (.ptr c 0) :: rest) = some (cTy p K :: rest') := by
 simp [purVs, purV, purA, purC, h2, purPs, purP, purQ, h1, purEs_A, hr]
theorem ren_A (rl : List (Nat × Nat)) : ∀ K : KL, List.map (fun x : MK × List AC => (x.1, List.map (renA rl) x.2)) (entsA K) = entsA K
 | [] => rfl
 |x :: r => by
  have ih := ren_A rl r
  simp only [entsA, List.map_cons] at ih ⊢
  rw [ih]
  rfl
theorem cl_A (N : Nat) : ∀ K : KL, clEs N (entsA K)
 | [] => trivial
 | x :: r => ⟨⟨trivial, trivial⟩, cl_A N r⟩
theorem cl_nil (N : Nat) : clEs N [] := trivial
def Kn (p : Prg) (vars : List ByteArray) (K : KL) : Prop := ∀ s, kGet K s ≠ 0 ↔ s ∈ vars ∨ s ∈ p.sizes
theorem program_typer_form_abs {p : Prg} {vars : List ByteArray} {K : KL} (hK : Kn p vars K) (l : Lin) : PCalls Tryz.prog n_program_typer_form [cTy p K, aLin l.1 l.2] (I (formsErr p vars [l])) := by
 refine PCalls.of is_program_typer_form (by simp) fun hb => runW_sound ?_
 have hl := bnd_lin hb.2.1
 rw [formsErr_one]
 conv in c_program_typer_form => cbv
 repeat' first | simp (disch := omega) only [go_sem, *] | ((with_reducible refine condT ?_ ?_) <;> intro h <;> try omega)
 refine AW_loop (fun k : Nat => ⟨[(10, I k), (9, I l.2.length), (8, .c (.pure (pMonos l.2))), (0, cTy p K)], [], 0, 0⟩) (fun k => k ≤ l.2.length ∧ upTo (fun i => ∀ h : i < l.2.length, l.2[i].1 ∈ vars ∨ l.2[i].1 ∈ p.sizes) k) (fun k => l.2.length - k) ⟨0, [], ⟨by omega, .zero⟩, by simp⟩ ?_
 rintro k ⟨hk, hall⟩
 refine runW_sound ?_
 by_cases hlt : k < l.2.length
 ·have hm := mlook_A l.2[k].1 K
  rw [← entsOf_P] at hm
  have hkn := hK l.2[k].1
  cases hL : kLook K l.2[k].1 with
  | none =>
   rw [hL] at hm
   rw [kLook_none hL] at hkn
   rw [if_neg (show ¬ knownL vars p.sizes l from fun h => (hkn.2 (h _ (List.getElem_mem hlt))) rfl)]
   clear hL hkn hall
   repeat' first | simp (disch := omega) only [go_sem, *, map_get hlt, mP, wrap_i64, hm, Option.map_none] | ((with_reducible refine condT ?_ ?_) <;> intro h <;> try omega)
  | some j =>
   rw [hL] at hm
   rw [kLook_get hL] at hkn
   clear hL
   by_cases hj : j = 0
   ·rw [if_neg (show ¬ knownL vars p.sizes l from fun h => (hkn.2 (h _ (List.getElem_mem hlt))) hj)]
    clear hkn hall
    repeat' first | simp (disch := omega) only [go_sem, *, map_get hlt, mP, wrap_i64, hm, Option.map_some, hj] | ((with_reducible refine condT ?_ ?_) <;> intro h <;> try omega)
   ·have HA := Lib.hid (hall.succ fun _ => hkn.1 hj)
    clear hkn hall
    repeat' first | simp (disch := omega) only [go_sem, *, map_get hlt, mP, wrap_i64, hm, Option.map_some, hj] | ((with_reducible refine condT ?_ ?_) <;> intro h <;> try omega)
    exact ⟨k + 1, [], ⟨by omega, HA.out⟩, by omega, by simp⟩
 ·have hkn : knownL vars p.sizes l := fun m hm => by
   obtain ⟨i, hi, rfl⟩ := List.mem_iff_getElem.1 hm
   exact hall i (by omega) hi
  rw [if_pos hkn]
  clear hall hkn
  repeat' first | simp (disch := omega) only [go_sem, *] | ((with_reducible refine condT ?_ ?_) <;> intro h <;> try omega)
theorem program_typer_index_abs {p : Prg} (hf : fewP p) {vars : List ByteArray} {K : KL} (hK : Kn p vars K) (x : Ix) : PCalls Tryz.prog n_program_typer_index [cTy p K, aIx x] (I (ixErr p vars x)) := by
 refine PCalls.of is_program_typer_index (by simp) fun hb => runW_sound ?_
 have hl : x.2.2.length ≤ 9223372036854775807 := by
  have := hb.2.1
  simp [bndV, bndAs, bndA] at this
  omega
 have cF := program_typer_form_abs hK x.1
 conv in c_program_typer_index => cbv
 by_cases hfrom : x.2.1 = ⟨⟨[]⟩⟩
 ·rw [ixErr_lin hfrom]
  rw [formsErr_one] at cF
  repeat' first | simp (disch := omega) only [go_sem, *, hfrom] | ((with_reducible refine condT ?_ ?_) <;> intro h <;> try omega) | (refine w_L cF rfl rfl ?_)
 ·clear cF
  have hF := program_Find_abs hf x.2.1
  cases hfx : findS p x.2.1 with
  | none =>
   rw [ixErr_none hfrom hfx]
   rw [hfx] at hF
   clear hfx
   repeat' first | simp (disch := omega) only [go_sem, *, hfrom] | ((with_reducible refine condT ?_ ?_) <;> intro h <;> try omega) | (refine w_R hF rfl rfl ?_)
  | some r =>
   obtain ⟨t, d⟩ := r
   rw [ixErr_some hfrom hfx]
   rw [hfx] at hF
   clear hfx
   by_cases ht : t.1 = 3
   ·rw [if_neg (not_not_intro ht)]
    by_cases hd : x.2.2.length = d.length
    ·rw [if_neg (not_not_intro hd)]
     have hd' : (x.2.2.length : Int) = d.length := by omega
     clear hd
     repeat' first | simp (disch := omega) only [go_sem, *, hfrom, ht, hd'] | ((with_reducible refine condT ?_ ?_) <;> intro h <;> try omega) | (refine w_R hF rfl rfl ?_)
     refine AW_loop (fun k : Nat => ⟨[(46, I k), (45, I x.2.2.length), (44, aLins x.2.2), (0, cTy p K)], [], 0, 0⟩) (fun k => k ≤ x.2.2.length ∧ upTo (fun i => ∀ h : i < x.2.2.length, knownL vars p.sizes x.2.2[i]) k) (fun k => x.2.2.length - k) ⟨0, [], ⟨by omega, .zero⟩, by rw [hd']; simp⟩ ?_
     clear hd' hF ht hfrom
     rintro k ⟨hk, hall⟩
     refine runW_sound ?_
     by_cases hlt : k < x.2.2.length
     ·have cF := program_typer_form_abs hK x.2.2[k]
      rw [formsErr_one] at cF
      by_cases hkn : knownL vars p.sizes x.2.2[k]
      ·rw [if_pos hkn] at cF
       have HA := Lib.hid (hall.succ fun _ => hkn)
       clear hall hkn
       repeat' first | simp (disch := omega) only [go_sem, *, map_get hlt, linP, wrap_i64] | ((with_reducible refine condT ?_ ?_) <;> intro h <;> try omega) | (refine w_L cF rfl rfl ?_)
       exact ⟨k + 1, [], ⟨by omega, HA.out⟩, by omega, by simp⟩
      ·rw [if_neg hkn] at cF
       have hR : formsErr p vars x.2.2 = 9 := if_neg fun h => hkn (h _ (List.getElem_mem hlt))
       rw [hR]
       clear hall hkn hR
       repeat' first | simp (disch := omega) only [go_sem, *, map_get hlt, linP, wrap_i64] | ((with_reducible refine condT ?_ ?_) <;> intro h <;> try omega) | (refine w_L cF rfl rfl ?_)
     ·have hR : formsErr p vars x.2.2 = 0 := if_pos fun l hm => by
       obtain ⟨i, hi, rfl⟩ := List.mem_iff_getElem.1 hm
       exact hall i (by omega) hi
      rw [hR]
      clear hall hR
      repeat' first | simp (disch := omega) only [go_sem, *] | ((with_reducible refine condT ?_ ?_) <;> intro h <;> try omega)
    ·rw [if_pos hd]
     have hd' : ¬ (x.2.2.length : Int) = d.length := by omega
     clear hd
     repeat' first | simp (disch := omega) only [go_sem, *, hfrom, ht, hd'] | ((with_reducible refine condT ?_ ?_) <;> intro h <;> try omega) | (refine w_R hF rfl rfl ?_)
   ·rw [if_pos ht]
    repeat' first | simp (disch := omega) only [go_sem, *, hfrom, ht] | ((with_reducible refine condT ?_ ?_) <;> intro h <;> try omega) | (refine w_R hF rfl rfl ?_)
theorem program_typer_read_abs {p : Prg} (hf : fewP p) {vars : List ByteArray} {K : KL} (hK : Kn p vars K) (e : Ex) : PCalls Tryz.prog n_program_typer_read [cTy p K, aEx e] (aTyE (readS p vars e)) := by
 refine PCalls.of is_program_typer_read (by simp) fun hb => runW_sound ?_
 have hl := (bnd_args hb.2).2
 conv in c_program_typer_read => cbv
 have hF := program_Find_abs hf e.name
 cases hfind : findS p e.name with
 | none =>
  rw [hfind] at hF
  rw [readS_none hfind]
  clear hfind
  repeat' first | simp (disch := omega) only [go_sem, *] | ((with_reducible refine condT ?_ ?_) <;> intro h <;> try omega) | (refine w_R hF rfl rfl ?_)
  try rfl
 | some r =>
  obtain ⟨t, dims⟩ := r
  rw [hfind] at hF
  by_cases hlen : e.idx.length = dims.length
  ·have hlen' : (dims.length : Int) = e.idx.length := by omega
   have HF := Lib.hid hfind
   have HL := Lib.hid hlen
   clear hlen hfind
   repeat' first | simp (disch := omega) only [go_sem, *, hlen'] | ((with_reducible refine condT ?_ ?_) <;> intro h <;> try omega) | (refine w_R hF rfl rfl ?_)
   refine AW_loop (fun k : Nat => ⟨[(36, I k), (35, I e.idx.length), (34, .c (.pure (pSl ixP e.idx))), (6, .c (.ptr 2 0)), (4, .c (.ptr 1 0)), (0, cTy p K)], [(2, bTy t), (1, bTy ty0), (0, bEx e)], 3, 0⟩) (fun k => k ≤ e.idx.length ∧ Hid (fstE ((e.idx.map (ixErr p vars)).take k) = 0)) (fun k => e.idx.length - k) ⟨0, [], ⟨by omega, by show _ = _; simp [fstE]⟩, by simp [ty0]⟩ ?_
   clear hF hlen'
   rintro k ⟨hk, hall⟩
   refine runW_sound ?_
   by_cases hlt : k < e.idx.length
   ·have cI := program_typer_index_abs hf hK e.idx[k]
    by_cases hz : ixErr p vars e.idx[k] = 0
    ·have HN : Hid (fstE ((e.idx.map (ixErr p vars)).take (k + 1)) = 0) := fstE_next hlt hall.out hz
     clear HF HL hall
     repeat' first | simp (disch := omega) only [go_sem, *, map_get hlt, ixP, wrap_i64, hz] | ((with_reducible refine condT ?_ ?_) <;> intro h <;> try omega) | (refine w_L cI rfl rfl ?_)
     exact ⟨k + 1, [], ⟨by omega, HN⟩, by omega, by simp [ty0]⟩
    ·rw [readS_err HF.out HL.out (fstE_stop hlt hall.out hz) hz]
     clear HF HL hall
     repeat' first | simp (disch := omega) only [go_sem, *, map_get hlt, ixP, wrap_i64, hz] | ((with_reducible refine condT ?_ ?_) <;> intro h <;> try omega) | (refine w_L cI rfl rfl ?_)
     try rfl
   ·have hz := hall.out
    rw [List.take_of_length_le (by simp; omega)] at hz
    rw [readS_ok HF.out HL.out hz]
    clear HF HL hall hz
    repeat' first | simp (disch := omega) only [go_sem, *] | ((with_reducible refine condT ?_ ?_) <;> intro h <;> try omega)
  ·have hlen' : ¬ (dims.length : Int) = e.idx.length := by omega
   rw [readS_len hfind hlen]
   clear hlen hfind
   repeat' first | simp (disch := omega) only [go_sem, *, hlen'] | ((with_reducible refine condT ?_ ?_) <;> intro h <;> try omega) | (refine w_R hF rfl rfl ?_)
   try rfl
theorem typer_same_abs (a : Ty) : PCalls Tryz.prog n_program_typer_of_1 [aTyp a, aTyp a] (I 0) := by
 refine PCalls.of is_program_typer_of_1 (by simp) fun hb => runW_sound ?_
 conv in c_program_typer_of_1 => cbv
 repeat' first | simp (disch := omega) only [go_sem, *] | ((with_reducible refine condT ?_ ?_) <;> intro h <;> try omega)
theorem typer_other_abs {a b : Ty} (h : ¬ a = b) : PCalls Tryz.prog n_program_typer_of_1 [aTyp a, aTyp b] (I 10) := by
 refine PCalls.of is_program_typer_of_1 (by simp) fun hb => runW_sound ?_
 conv in c_program_typer_of_1 => cbv
 have HN := Lib.hid h
 clear h
 repeat' first | simp (disch := omega) only [go_sem, *] | ((with_reducible refine condT ?_ ?_) <;> intro h <;> try omega)
 all_goals first
  | exact absurd (ty_ext h) HN.out
  | rfl
end Go.Proofs.YtbblkakcadonjaaGreatDoor
set_option linter.unusedVariables false
set_option linter.unusedSimpArgs false
set_option maxRecDepth 20000
set_option maxHeartbeats 4000000
set_option maxRecDepth 1000000
namespace Go.Proofs.YtbblkakcadonjaaGreatDoor
open Go.Abs Go.RowKit

set_option maxHeartbeats 4000000 in
theorem program_typer_of_abs {p : Prg} (hf : fewP p) {vars : List ByteArray} {K : KL} (hK : Kn p vars K) (e : Ex) : rnkAll e → PCalls Tryz.prog n_program_typer_of [cTy p K, aEx e] (aTyE (exTy p vars e)) := by
 refine Ex.ind (p := fun e => rnkAll e → PCalls Tryz.prog n_program_typer_of [cTy p K, aEx e] (aTyE (exTy p vars e))) (fun e ih hr => ?_) e
 refine PCalls.of is_program_typer_of (by simp) fun hb => runW_sound ?_
 have hl := (bnd_args hb.2).1
 obtain ⟨ha, ho1, ho2, _⟩ := rnkAll_self hr
 have ha3 : e.args.length ≤ 3 := by rcases op_kinds ho1 ho2 with h | h | h | h | h | h <;> omega
 have HA := Lib.hid ha
 clear ha
 conv in c_program_typer_of => cbv
 repeat' first | simp (disch := omega) only [go_sem, *] | ((with_reducible refine condT ?_ ?_) <;> intro h <;> try omega)
 refine AW_adopt 6 59 5 rfl (by decide) ?_
 refine AW_loop (fun s : Nat × List Ty => ⟨[(15, I s.1), (14, I e.args.length), (13, .c (.pure (.slice (e.args.map Ex.row)))), (6, .c (.ref 2)), (4, .c (.ptr 1 0)), (3, .c (.ptr 0 0)), (0, cTy p K)], [(2, .arr 59 5 (s.2.map tyP)), (1, bTy ty0), (0, bEx e)], 3, 0⟩) (fun s => s.1 ≤ e.args.length ∧ Hid (exTys p vars (e.args.take s.1) = .inr s.2)) (fun s => e.args.length - s.1) ⟨(0, []), [], ⟨by omega, by show _ = _; simp [exTys]⟩, by simp [ty0]⟩ ?_
 rintro ⟨k, ts⟩ ⟨hk, hall⟩
 refine runW_sound ?_
 simp only at hk hall
 by_cases hlt : k < e.args.length
 ·have hih := ih _ (List.getElem_mem hlt) (rnkAll_arg hr (List.getElem_mem hlt))
  have hlk : ts.length = k := by
   have := exTys_len hall.out
   rw [this, List.length_take]
   omega
  by_cases h0 : (exTy p vars e.args[k]).2 = 0
  ·have hn := exTys_step hlt hall.out h0
   have HN := Lib.hid hn
   clear ih hr hall hn
   generalize exTy p vars e.args[k] = r at *
   have ht : ts.map tyP ++ [tyP r.1] = (ts ++ [r.1]).map tyP := by simp
   simp only [tyP] at ht
   have HT := Lib.hid ht
   clear ht
   repeat' first | simp (disch := omega) only [go_sem, *, map_get hlt, Ex.row_eq, wrap_i64, h0] | ((with_reducible refine condT ?_ ?_) <;> intro h <;> try omega) | (refine w_L hih rfl rfl ?_) | (refine app_own rfl (by intro h; cases h) (rowsOk_one rfl) (by simp; omega) (by simp; omega) ?_)
   rw [HT.out]
   exact ⟨(k + 1, ts ++ [r.1]), [(2, 5)], ⟨by omega, HN⟩, by show _ - _ < _ - _; omega, by simp⟩
  ·have hn := exTys_stop hlt hall.out h0
   have hR : exTy p vars e = (ty0, (exTy p vars e.args[k]).2) := by conv => lhs; rw [exTy_eq, hn]
   rw [hR]
   clear ih hr hall hn hR
   generalize exTy p vars e.args[k] = r at *
   repeat' first | simp (disch := omega) only [go_sem, *, map_get hlt, Ex.row_eq, wrap_i64, h0] | ((with_reducible refine condT ?_ ?_) <;> intro h <;> try omega) | (refine w_L hih rfl rfl ?_)
   try rfl
 ·have hts := hall.out
  rw [List.take_of_length_le (by omega)] at hts
  have hlk := exTys_len hts
  have hR : exTy p vars e = nodeTy p vars e ts := by conv => lhs; rw [exTy_eq, hts]
  have hrd := program_typer_read_abs hf hK e
  have hfo := program_typer_form_abs hK e.lin
  clear ih hr hall hts
  have hts := HA.out
  clear HA
  rcases op_kinds ho1 ho2 with ⟨g | g | g, h2⟩ | ⟨g | g | g, h2⟩ | ⟨g, h2⟩ | ⟨g, h2⟩ | ⟨g, h2⟩ | ⟨g, h2⟩
  ·rw [hR.trans (show nodeTy p vars e ts = (e.ty, 0) by simp [nodeTy, g])]
   clear hR hlk h2 hts hrd hfo
   repeat' first | simp (disch := omega) only [go_sem, *, g] | ((with_reducible refine condT ?_ ?_) <;> intro h <;> try omega)
  ·rw [hR.trans (show nodeTy p vars e ts = ((3, 0, 0, 0, 0), formsErr p vars [e.lin]) by simp [nodeTy, g])]
   clear hR hlk h2 hts hrd
   repeat' first | simp (disch := omega) only [go_sem, *, g] | ((with_reducible refine condT ?_ ?_) <;> intro h <;> try omega) | (refine w_L hfo rfl rfl ?_)
  ·rw [hR.trans (show nodeTy p vars e ts = readS p vars e by simp [nodeTy, g])]
   clear hR hlk h2 hts hfo
   simp only [aEx, g] at hrd
   repeat' first | simp (disch := omega) only [go_sem, *, g] | ((with_reducible refine condT ?_ ?_) <;> intro h <;> try omega) | (refine w_L hrd rfl rfl ?_)
  ·obtain ⟨a, rfl⟩ := len1 (l := ts) (by omega)
   rw [hR.trans (show nodeTy p vars e [a] = (a, 0) by simp [nodeTy, g])]
   clear hR hlk h2 hts hrd hfo
   repeat' first | simp (disch := omega) only [go_sem, *, g, Int.toNat_zero] | ((with_reducible refine condT ?_ ?_) <;> intro h <;> try omega)
  ·rw [hR.trans (show nodeTy p vars e ts = (e.ty, 0) by simp [nodeTy, g])]
   clear hR hlk h2 hts hrd hfo
   repeat' first | simp (disch := omega) only [go_sem, *, g] | ((with_reducible refine condT ?_ ?_) <;> intro h <;> try omega)
  ·rw [hR.trans (show nodeTy p vars e ts = (ty0, 0) by simp [nodeTy, g])]
   clear hR hlk h2 hts hrd hfo
   repeat' first | simp (disch := omega) only [go_sem, *, g] | ((with_reducible refine condT ?_ ?_) <;> intro h <;> try omega)
   try rfl
  ·obtain ⟨a, b, c, rfl⟩ := len3 (l := ts) (by omega)
   by_cases hbc : b = c
   ·subst hbc
    rw [hR.trans (show nodeTy p vars e [a, b, b] = (b, 0) by simp [nodeTy, g])]
    have cs := typer_same_abs b
    clear hR hlk h2 hts hrd hfo
    repeat' first | simp (disch := omega) only [go_sem, *, g, Int.toNat_zero, show Int.toNat 1 = 1 from rfl, show Int.toNat 2 = 2 from rfl] | ((with_reducible refine condT ?_ ?_) <;> intro h <;> try omega) | (with_reducible refine bothW_intro ?_ ?_) | (with_reducible refine nilW_intro (fun h => ?_) ?_) | (refine w_L cs rfl rfl ?_)
   ·rw [hR.trans (show nodeTy p vars e [a, b, c] = (b, 10) by simp [nodeTy, g, hbc])]
    have cs := typer_other_abs hbc
    clear hR hlk h2 hts hrd hfo hbc
    repeat' first | simp (disch := omega) only [go_sem, *, g, Int.toNat_zero, show Int.toNat 1 = 1 from rfl, show Int.toNat 2 = 2 from rfl] | ((with_reducible refine condT ?_ ?_) <;> intro h <;> try omega) | (with_reducible refine bothW_intro ?_ ?_) | (with_reducible refine nilW_intro (fun h => ?_) ?_) | (refine w_L cs rfl rfl ?_)
  ·obtain ⟨a, b, rfl⟩ := len2 (l := ts) (by omega)
   rcases g with g | g | g
   all_goals
    by_cases hbc : a = b
    ·subst hbc
     rw [hR.trans (show nodeTy p vars e [a, a] = (ty0, 0) by simp [nodeTy, g])]
     have cs := typer_same_abs a
     clear hR hlk h2 hts hrd hfo
     repeat' first | simp (disch := omega) only [go_sem, *, g, Int.toNat_zero, show Int.toNat 1 = 1 from rfl] | ((with_reducible refine condT ?_ ?_) <;> intro h <;> try omega) | (refine w_L cs rfl rfl ?_)
     try rfl
    ·rw [hR.trans (show nodeTy p vars e [a, b] = (ty0, 10) by simp [nodeTy, g, hbc])]
     have cs := typer_other_abs hbc
     clear hR hlk h2 hts hrd hfo hbc
     repeat' first | simp (disch := omega) only [go_sem, *, g, Int.toNat_zero, show Int.toNat 1 = 1 from rfl] | ((with_reducible refine condT ?_ ?_) <;> intro h <;> try omega) | (refine w_L cs rfl rfl ?_)
     try rfl
  ·rcases g with g | g
   all_goals
    rw [hR.trans (show nodeTy p vars e ts = (ty0, 0) by simp [nodeTy, g])]
    clear hR hlk h2 hts hrd hfo
    repeat' first | simp (disch := omega) only [go_sem, *, g] | ((with_reducible refine condT ?_ ?_) <;> intro h <;> try omega)
    try rfl
  ·obtain ⟨a, b, rfl⟩ := len2 (l := ts) (by omega)
   have h3 : ¬ e.op = 1 ∧ ¬ e.op = 2 ∧ ¬ e.op = 3 ∧ ¬ e.op = 12 ∧ ¬ e.op = 8 ∧ ¬ e.op = 11 ∧ ¬ 16 ≤ e.op ∧ ¬ 13 ≤ e.op ∧ ¬ e.op = 13 ∧ ¬ e.op = 14 ∧ ¬ e.op = 15 ∧ ¬ e.op = 16 ∧ ¬ e.op = 17 ∧ ¬ e.op = 18 := by omega
   obtain ⟨g1, g2, g3, g4, g5, g6, g7, g8, g9, g10, g11, g12, g13, g14⟩ := h3
   clear g
   by_cases hbc : a = b
   ·subst hbc
    rw [hR.trans (show nodeTy p vars e [a, a] = (a, 0) by simp [nodeTy, g1, g2, g3, g4, g5, g6, g7, g8])]
    have cs := typer_same_abs a
    clear hR hlk h2 hts hrd hfo g7 g8
    repeat' first | simp (disch := omega) only [go_sem, *, g1, g2, g3, g4, g5, g6, g9, g10, g11, g12, g13, g14, Int.toNat_zero, show Int.toNat 1 = 1 from rfl] | ((with_reducible refine condT ?_ ?_) <;> intro h <;> try omega) | (with_reducible refine bothW_intro ?_ ?_) | (with_reducible refine nilW_intro (fun h => ?_) ?_) | (refine w_L cs rfl rfl ?_)
   ·rw [hR.trans (show nodeTy p vars e [a, b] = (a, 10) by simp [nodeTy, g1, g2, g3, g4, g5, g6, g7, g8, hbc])]
    have cs := typer_other_abs hbc
    clear hR hlk h2 hts hrd hfo hbc g7 g8
    repeat' first | simp (disch := omega) only [go_sem, *, g1, g2, g3, g4, g5, g6, g9, g10, g11, g12, g13, g14, Int.toNat_zero, show Int.toNat 1 = 1 from rfl] | ((with_reducible refine condT ?_ ?_) <;> intro h <;> try omega) | (with_reducible refine bothW_intro ?_ ?_) | (with_reducible refine nilW_intro (fun h => ?_) ?_) | (refine w_L cs rfl rfl ?_)
theorem kn_all (p : Prg) (vars : List ByteArray) : Kn p vars (kPut (kPut [] 1 p.sizes) 3 vars) := fun s => by
 rw [kGet_put, kGet_put, kGet_nil]
 by_cases h1 : s ∈ vars
 ·simp [h1]
 ·by_cases h2 : s ∈ p.sizes
  ·simp [h1, h2]
  ·simp [h1, h2]
set_option maxHeartbeats 2000000 in
theorem program_TypeOf_abs {p : Prg} (hf : fewP p) (vars : List ByteArray) {e : Ex} (h64 : ∀ a ∈ e.pre, frIn a.val) : PCalls Tryz.prog n_program_TypeOf [aPrg p, .c (.pure (pStrs vars)), aEx e] (aTyE (typeOf p vars e)) := by
 refine PCalls.of is_program_TypeOf (by simp) fun hb => runW_sound ?_
 have hl : vars.length ≤ 9223372036854775807 := by
  have := hb.2.1
  simp [bndV, bndA] at this
  omega
 have hl2 : p.sizes.length ≤ 9223372036854775807 := by
  have := hb.1
  simp [bndV, bndAs, bndA] at this
  omega
 conv in c_program_TypeOf => cbv
 have hv := expr_Validate_abs h64
 by_cases h1 : exErr e = 0
 ·by_cases h2 : isCond e.op
  ·have hR : typeOf p vars e = (ty0, 10) := by unfold typeOf; rw [if_neg (not_not_intro h1), if_pos h2]
   rw [hR]
   clear hR
   repeat' first | simp (disch := omega) only [go_sem, *, h1, h2, decide_true] | ((with_reducible refine condT ?_ ?_) <;> intro h <;> try omega) | (refine w_L hv rfl rfl ?_) | (refine w_L (expr_IsCondition_abs e) rfl rfl ?_)
   try rfl
  ·have cO := program_typer_of_abs hf (kn_all p vars) e (exErr_rnk h1)
   have CO := Lib.hid cO
   clear cO
   have hR : ∀ x, (exTy p vars e).2 = x → x ≠ 0 → typeOf p vars e = (ty0, x) := fun x hx h0 => by unfold typeOf; rw [if_neg (not_not_intro h1), if_neg h2, hx, if_pos h0]
   have hR0 : (exTy p vars e).2 = 0 → typeOf p vars e = ((exTy p vars e).1, 0) := fun h0 => by unfold typeOf; rw [if_neg (not_not_intro h1), if_neg h2, if_neg (not_not_intro h0)]
   have HR := Lib.hid hR
   have HR0 := Lib.hid hR0
   clear hR hR0
   repeat' first | simp (disch := omega) only [go_sem, *, h1, h2, decide_false] | ((with_reducible refine condT ?_ ?_) <;> intro h <;> try omega) | (refine w_L hv rfl rfl ?_) | (refine w_L (expr_IsCondition_abs e) rfl rfl ?_)
   refine AW_loop (fun k : Nat => ⟨[(32, I k), (31, I p.sizes.length), (30, .c (.pure (pStrs p.sizes))), (9, .c (.ptr 4 0)), (6, .c (.ptr 2 0)), (5, .c (.ptr 1 0)), (1, .c (.pure (pStrs vars)))], [(4, bCk p 3), (3, .map .str none (entsA (kPut [] 1 (p.sizes.take k)))), (2, bTy ty0), (1, bEx e), (0, bPrg p)], 5, 0⟩) (fun k => k ≤ p.sizes.length) (fun k => p.sizes.length - k) ⟨0, [], by omega, by simp [ty0, kPut, entsA, cl_nil]⟩ ?_
   clear h1 h2 hv
   intro k hk
   refine runW_sound ?_
   by_cases hlt : k < p.sizes.length
   ·repeat' first | simp (disch := omega) only [go_sem, *, map_get hlt, wrap_i64, mset_A, ← kPut_take hlt] | ((with_reducible refine condT ?_ ?_) <;> intro h <;> try omega)
    exact ⟨k + 1, [], by omega, by omega, by simp [ty0, ren_A, cl_A]⟩
   ·have hkp : k = p.sizes.length := by omega
    subst hkp
    rw [List.take_length]
    repeat clear hlt
    repeat clear hk
    repeat' first | simp (disch := omega) only [go_sem, *] | ((with_reducible refine condT ?_ ?_) <;> intro h <;> try omega)
    refine AW_loop (fun k : Nat => ⟨[(44, I k), (43, I vars.length), (42, .c (.pure (pStrs vars))), (9, .c (.ptr 4 0)), (6, .c (.ptr 2 0)), (5, .c (.ptr 1 0))], [(4, bCk p 3), (3, .map .str none (entsA (kPut (kPut [] 1 p.sizes) 3 (vars.take k)))), (2, bTy ty0), (1, bEx e), (0, bPrg p)], 5, 0⟩) (fun k => k ≤ vars.length) (fun k => vars.length - k) ⟨0, [], by omega, by simp [ty0, kPut, ren_A, cl_A]⟩ ?_
    intro k hk
    refine runW_sound ?_
    by_cases hlt : k < vars.length
    ·repeat' first | simp (disch := omega) only [go_sem, *, map_get hlt, wrap_i64, mset_A, ← kPut_take hlt] | ((with_reducible refine condT ?_ ?_) <;> intro h <;> try omega)
     exact ⟨k + 1, [], by omega, by omega, by simp [ty0, ren_A, cl_A]⟩
    ·have hkp : k = vars.length := by omega
     subst hkp
     rw [List.take_length]
     repeat clear hlt
     repeat clear hk
     repeat' first | simp (disch := omega) only [go_sem, *] | ((with_reducible refine condT ?_ ?_) <;> intro h <;> try omega)
     refine callW_of CO.out (pur_ck (m := 3) rfl rfl rfl) (.inl rfl) ?_
     by_cases h3 : (exTy p vars e).2 = 0
     ·rw [HR0.out h3]
      clear HR HR0 CO
      generalize exTy p vars e = r at *
      repeat' first | simp (disch := omega) only [go_sem, *, h3] | ((with_reducible refine condT ?_ ?_) <;> intro h <;> try omega)
     ·rw [HR.out _ rfl h3]
      clear HR HR0 CO
      generalize exTy p vars e = r at *
      repeat' first | simp (disch := omega) only [go_sem, *, h3] | ((with_reducible refine condT ?_ ?_) <;> intro h <;> try omega)
      try rfl
 ·have hR : typeOf p vars e = (ty0, exErr e) := by unfold typeOf; rw [if_pos h1]
  rw [hR]
  clear hR
  repeat' first | simp (disch := omega) only [go_sem, *, h1] | ((with_reducible refine condT ?_ ?_) <;> intro h <;> try omega) | (refine w_L hv rfl rfl ?_)
  try rfl
end Go.Proofs.YtbblkakcadonjaaGreatDoor
