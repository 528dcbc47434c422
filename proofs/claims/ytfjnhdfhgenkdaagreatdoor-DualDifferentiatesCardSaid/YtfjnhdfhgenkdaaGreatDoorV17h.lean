/- Walks: package program: types of expressions. -/
import Derived.Test.YtfjnhdfhgenkdaaGreatDoorV17a
import Derived.Test.YtfjnhdfhgenkdaaGreatDoorV14d
import Derived.Test.YtfjnhdfhgenkdaaGreatDoorV17c
import Derived.Test.YtfjnhdfhgenkdaaGreatDoorP17
set_option linter.unusedVariables false
set_option linter.unusedSimpArgs false
set_option maxRecDepth 20000
namespace Go.Proofs.YtfjnhdfhgenkdaaGreatDoor
open Go.Abs Go.RowKit

/-- A typer, as it reads. -/
abbrev cTy (p : Prg) (K : KL) : AV := .c (.cptr [pStrs p.sizes, pSl cP p.wher, pSl parP p.params, pSl defP p.defs, pStrs p.outs, .fmap .str none (entsP K)])
abbrev bCk (p : Prg) (m : Nat) : Box := .var [.pure (pStrs p.sizes), .pure (pSl cP p.wher), .pure (pSl parP p.params), .pure (pSl defP p.defs), .pure (pStrs p.outs), .mref m]
abbrev mK (K : KL) : Box := .map .str none (entsA K)
theorem pur_ck {mem : List (Nat × Box)} {c m : Nat} {p : Prg} {K : KL} {rest rest' : List AV} (h2 : findB mem c = some (bCk p m)) (h1 : findB mem m = some (mK K)) (hr : purVs mem rest = some rest') : purVs mem (.c (.ptr c 0) :: rest) = some (cTy p K :: rest') := by
 simp [purVs, purV, purA, purC, h2, purPs, purP, purQ, h1, purEs_A, hr]
theorem ren_A (rl : List (Nat × Nat)) : ∀ K : KL, List.map (fun x : MK × List AC => (x.1, List.map (renA rl) x.2)) (entsA K) = entsA K
 | [] => rfl
 |x :: r => by
  have ih := ren_A rl r
  simp only [entsA, List.map_cons] at ih ⊢
  rw [ih]
  rfl
theorem cl_A (N : Nat) : ∀ K : KL, clEs N (entsA K)
 | [] => trivial
 | x :: r => ⟨⟨trivial, trivial⟩, cl_A N r⟩
theorem cl_nil (N : Nat) : clEs N [] := trivial
/-- It knows the names of the sizes and the indices. -/
def Kn (p : Prg) (vars : List ByteArray) (K : KL) : Prop := ∀ s, kGet K s ≠ 0 ↔ s ∈ vars ∨ s ∈ p.sizes
theorem program_typer_form_abs {p : Prg} {vars : List ByteArray} {K : KL} (hK : Kn p vars K) (l : Lin) : PCalls Tryz.prog n_program_typer_form [cTy p K, aLin l.1 l.2] (I (formsErr p vars [l])) := by
 refine PCalls.of is_program_typer_form (by simp) fun hb => runW_sound ?_
 have hl := bnd_lin hb.2.1
 rw [formsErr_one]
 simp only [c_program_typer_form]
 repeat' first | simp (disch := omega) only [go_sem] | ((with_reducible first | refine condD ?_ ?_ | refine condX ?_ ?_ | refine condW_intro ?_ ?_) <;> intro h <;> first | (exfalso; omega) | simp (disch := omega) only [go_sem, *] | skip)
 refine AW_loop (fun k : Nat => ⟨[(10, I k), (9, I l.2.length), (8, .c (.pure (pMonos l.2))), (0, cTy p K)], [], 0, 0⟩) (fun k => k ≤ l.2.length ∧ upTo (fun i => ∀ h : i < l.2.length, l.2[i].1 ∈ vars ∨ l.2[i].1 ∈ p.sizes) k) (fun k => l.2.length - k) ⟨0, [], ⟨by omega, .zero⟩, by simp [Wk, wkF, wkM, wkL, look_cons, renV, renA, renC, renB, rn, clV, clA, clAs, clB, notIn, findB, findB_setB, clA.go]⟩ ?_
 rintro k ⟨hk, hall⟩
 refine runW_sound ?_
 by_cases hlt : k < l.2.length
 ·have hm := mlook_A l.2[k].1 K
  rw [← entsOf_P] at hm
  have hkn := hK l.2[k].1
  cases hL : kLook K l.2[k].1 with
  | none =>
   rw [hL] at hm
   rw [kLook_none hL] at hkn
   rw [if_neg (show ¬ knownL vars p.sizes l from fun h => (hkn.2 (h _ (List.getElem_mem hlt))) rfl)]
   clear hL hkn hall
   repeat' first | simp (disch := omega) only [go_sem, map_get hlt, mP, wrap_i64, hm, Option.map_none] | ((with_reducible first | refine condD ?_ ?_ | refine condX ?_ ?_ | refine condW_intro ?_ ?_) <;> intro h <;> first | (exfalso; omega) | simp (disch := omega) only [go_sem, *, map_get hlt, mP, wrap_i64, hm, Option.map_none] | skip)
  | some j =>
   rw [hL] at hm
   rw [kLook_get hL] at hkn
   clear hL
   by_cases hj : j = 0
   ·rw [if_neg (show ¬ knownL vars p.sizes l from fun h => (hkn.2 (h _ (List.getElem_mem hlt))) hj)]
    clear hkn hall
    repeat' first | simp (disch := omega) only [go_sem, map_get hlt, mP, wrap_i64, hm, Option.map_some, hj] | ((with_reducible first | refine condD ?_ ?_ | refine condX ?_ ?_ | refine condW_intro ?_ ?_) <;> intro h <;> first | (exfalso; omega) | simp (disch := omega) only [go_sem, *, map_get hlt, mP, wrap_i64, hm, Option.map_some, hj] | skip)
   ·have HA := Lib.hid (hall.succ fun _ => hkn.1 hj)
    clear hkn hall
    repeat' first | simp (disch := omega) only [go_sem, map_get hlt, mP, wrap_i64, hm, Option.map_some, hj] | ((with_reducible first | refine condD ?_ ?_ | refine condX ?_ ?_ | refine condW_intro ?_ ?_) <;> intro h <;> first | (exfalso; omega) | simp (disch := omega) only [go_sem, *, map_get hlt, mP, wrap_i64, hm, Option.map_some, hj] | skip)
    exact ⟨k + 1, [], ⟨by omega, HA.out⟩, by omega, by simp [Wk, wkF, wkM, wkL, look_cons, renV, renA, renC, renB, rn, clV, clA, clAs, clB, notIn, findB, findB_setB, clA.go]⟩
 ·have hkn : knownL vars p.sizes l := fun m hm => by
   obtain ⟨i, hi, rfl⟩ := List.mem_iff_getElem.1 hm
   exact hall i (by omega) hi
  rw [if_pos hkn]
  clear hall hkn
  repeat' first | simp (disch := omega) only [go_sem] | ((with_reducible first | refine condD ?_ ?_ | refine condX ?_ ?_ | refine condW_intro ?_ ?_) <;> intro h <;> first | (exfalso; omega) | simp (disch := omega) only [go_sem, *] | skip)
theorem program_typer_index_abs {p : Prg} (hf : fewP p) {vars : List ByteArray} {K : KL} (hK : Kn p vars K) (x : Ix) : PCalls Tryz.prog n_program_typer_index [cTy p K, aIx x] (I (ixErr p vars x)) := by
 refine PCalls.of is_program_typer_index (by simp) fun hb => runW_sound ?_
 have hl : x.2.2.length ≤ 9223372036854775807 := by
  have := hb.2.1
  simp [bndV, bndAs, bndA] at this
  omega
 have cF := program_typer_form_abs hK x.1
 simp only [c_program_typer_index]
 by_cases hfrom : x.2.1 = ⟨⟨[]⟩⟩
 ·rw [ixErr_lin hfrom]
  rw [formsErr_one] at cF
  repeat' first | simp (disch := omega) only [go_sem, hfrom] | ((with_reducible first | refine condD ?_ ?_ | refine condX ?_ ?_ | refine condW_intro ?_ ?_) <;> intro h <;> first | (exfalso; omega) | simp (disch := omega) only [go_sem, *, hfrom] | skip) | (refine callW_of cF rfl (.inl rfl) ?_)
 ·clear cF
  have hF := program_Find_abs hf x.2.1
  cases hfx : findS p x.2.1 with
  | none =>
   rw [ixErr_none hfrom hfx]
   rw [hfx] at hF
   clear hfx
   repeat' first | simp (disch := omega) only [go_sem, hfrom] | ((with_reducible first | refine condD ?_ ?_ | refine condX ?_ ?_ | refine condW_intro ?_ ?_) <;> intro h <;> first | (exfalso; omega) | simp (disch := omega) only [go_sem, *, hfrom] | skip) | (refine callW_of hF rfl (.inr rfl) ?_)
  | some r =>
   obtain ⟨t, d⟩ := r
   rw [ixErr_some hfrom hfx]
   rw [hfx] at hF
   clear hfx
   by_cases ht : t.1 = 3
   ·rw [if_neg (not_not_intro ht)]
    by_cases hd : x.2.2.length = d.length
    ·rw [if_neg (not_not_intro hd)]
     have hd' : (x.2.2.length : Int) = d.length := by omega
     clear hd
     repeat' first | simp (disch := omega) only [go_sem, hfrom, ht, hd'] | ((with_reducible first | refine condD ?_ ?_ | refine condX ?_ ?_ | refine condW_intro ?_ ?_) <;> intro h <;> first | (exfalso; omega) | simp (disch := omega) only [go_sem, *, hfrom, ht, hd'] | skip) | (refine callW_of hF rfl (.inr rfl) ?_)
     refine AW_loop (fun k : Nat => ⟨[(46, I k), (45, I x.2.2.length), (44, aLins x.2.2), (0, cTy p K)], [], 0, 0⟩) (fun k => k ≤ x.2.2.length ∧ upTo (fun i => ∀ h : i < x.2.2.length, knownL vars p.sizes x.2.2[i]) k) (fun k => x.2.2.length - k) ⟨0, [], ⟨by omega, .zero⟩, by rw [hd']; simp [Wk, wkF, wkM, wkL, look_cons, renV, renA, renC, renB, rn, clV, clA, clAs, clB, notIn, findB, findB_setB, clA.go]⟩ ?_
     clear hd' hF ht hfrom
     rintro k ⟨hk, hall⟩
     refine runW_sound ?_
     by_cases hlt : k < x.2.2.length
     ·have cF := program_typer_form_abs hK x.2.2[k]
      rw [formsErr_one] at cF
      by_cases hkn : knownL vars p.sizes x.2.2[k]
      ·rw [if_pos hkn] at cF
       have HA := Lib.hid (hall.succ fun _ => hkn)
       clear hall hkn
       repeat' first | simp (disch := omega) only [go_sem, map_get hlt, linP, wrap_i64] | ((with_reducible first | refine condD ?_ ?_ | refine condX ?_ ?_ | refine condW_intro ?_ ?_) <;> intro h <;> first | (exfalso; omega) | simp (disch := omega) only [go_sem, *, map_get hlt, linP, wrap_i64] | skip) | (refine callW_of cF rfl (.inl rfl) ?_)
       exact ⟨k + 1, [], ⟨by omega, HA.out⟩, by omega, by simp [Wk, wkF, wkM, wkL, look_cons, renV, renA, renC, renB, rn, clV, clA, clAs, clB, notIn, findB, findB_setB, clA.go]⟩
      ·rw [if_neg hkn] at cF
       have hR : formsErr p vars x.2.2 = 9 := if_neg fun h => hkn (h _ (List.getElem_mem hlt))
       rw [hR]
       clear hall hkn hR
       repeat' first | simp (disch := omega) only [go_sem, map_get hlt, linP, wrap_i64] | ((with_reducible first | refine condD ?_ ?_ | refine condX ?_ ?_ | refine condW_intro ?_ ?_) <;> intro h <;> first | (exfalso; omega) | simp (disch := omega) only [go_sem, *, map_get hlt, linP, wrap_i64] | skip) | (refine callW_of cF rfl (.inl rfl) ?_)
     ·have hR : formsErr p vars x.2.2 = 0 := if_pos fun l hm => by
       obtain ⟨i, hi, rfl⟩ := List.mem_iff_getElem.1 hm
       exact hall i (by omega) hi
      rw [hR]
      clear hall hR
      repeat' first | simp (disch := omega) only [go_sem] | ((with_reducible first | refine condD ?_ ?_ | refine condX ?_ ?_ | refine condW_intro ?_ ?_) <;> intro h <;> first | (exfalso; omega) | simp (disch := omega) only [go_sem, *] | skip)
    ·rw [if_pos hd]
     have hd' : ¬ (x.2.2.length : Int) = d.length := by omega
     clear hd
     repeat' first | simp (disch := omega) only [go_sem, hfrom, ht, hd'] | ((with_reducible first | refine condD ?_ ?_ | refine condX ?_ ?_ | refine condW_intro ?_ ?_) <;> intro h <;> first | (exfalso; omega) | simp (disch := omega) only [go_sem, *, hfrom, ht, hd'] | skip) | (refine callW_of hF rfl (.inr rfl) ?_)
   ·rw [if_pos ht]
    repeat' first | simp (disch := omega) only [go_sem, hfrom, ht] | ((with_reducible first | refine condD ?_ ?_ | refine condX ?_ ?_ | refine condW_intro ?_ ?_) <;> intro h <;> first | (exfalso; omega) | simp (disch := omega) only [go_sem, *, hfrom, ht] | skip) | (refine callW_of hF rfl (.inr rfl) ?_)
theorem program_typer_read_abs {p : Prg} (hf : fewP p) {vars : List ByteArray} {K : KL} (hK : Kn p vars K) (e : Ex) : PCalls Tryz.prog n_program_typer_read [cTy p K, aEx e] (aTyE (readS p vars e)) := by
 refine PCalls.of is_program_typer_read (by simp) fun hb => runW_sound ?_
 have hl := (bnd_args hb.2).2
 simp only [c_program_typer_read]
 have hF := program_Find_abs hf e.name
 cases hfind : findS p e.name with
 | none =>
  rw [hfind] at hF
  rw [readS_none hfind]
  clear hfind
  repeat' first | simp (disch := omega) only [go_sem] | ((with_reducible first | refine condD ?_ ?_ | refine condX ?_ ?_ | refine condW_intro ?_ ?_) <;> intro h <;> first | (exfalso; omega) | simp (disch := omega) only [go_sem, *] | skip) | (refine callW_of hF rfl (.inr rfl) ?_)
  try rfl
 | some r =>
  obtain ⟨t, dims⟩ := r
  rw [hfind] at hF
  by_cases hlen : e.idx.length = dims.length
  ·have hlen' : (dims.length : Int) = e.idx.length := by omega
   have HF := Lib.hid hfind
   have HL := Lib.hid hlen
   clear hlen hfind
   repeat' first | simp (disch := omega) only [go_sem, hlen'] | ((with_reducible first | refine condD ?_ ?_ | refine condX ?_ ?_ | refine condW_intro ?_ ?_) <;> intro h <;> first | (exfalso; omega) | simp (disch := omega) only [go_sem, *, hlen'] | skip) | (refine callW_of hF rfl (.inr rfl) ?_)
   refine AW_loop (fun k : Nat => ⟨[(36, I k), (35, I e.idx.length), (34, .c (.pure (pSl ixP e.idx))), (6, .c (.ptr 2 0)), (4, .c (.ptr 1 0)), (0, cTy p K)], [(2, bTy t), (1, bTy ty0), (0, bEx e)], 3, 0⟩) (fun k => k ≤ e.idx.length ∧ Hid (fstE ((e.idx.map (ixErr p vars)).take k) = 0)) (fun k => e.idx.length - k) ⟨0, [], ⟨by omega, by show _ = _; simp [fstE]⟩, by simp [Wk, wkF, wkM, wkL, look_cons, renV, renA, renC, renB, rn, clV, clA, clAs, clB, notIn, findB, findB_setB, clA.go, ty0]⟩ ?_
   clear hF hlen'
   rintro k ⟨hk, hall⟩
   refine runW_sound ?_
   by_cases hlt : k < e.idx.length
   ·have cI := program_typer_index_abs hf hK e.idx[k]
    by_cases hz : ixErr p vars e.idx[k] = 0
    ·have HN : Hid (fstE ((e.idx.map (ixErr p vars)).take (k + 1)) = 0) := fstE_next hlt hall.out hz
     clear HF HL hall
     repeat' first | simp (disch := omega) only [go_sem, map_get hlt, ixP, wrap_i64, hz] | ((with_reducible first | refine condD ?_ ?_ | refine condX ?_ ?_ | refine condW_intro ?_ ?_) <;> intro h <;> first | (exfalso; omega) | simp (disch := omega) only [go_sem, *, map_get hlt, ixP, wrap_i64, hz] | skip) | (refine callW_of cI rfl (.inl rfl) ?_)
     exact ⟨k + 1, [], ⟨by omega, HN⟩, by omega, by simp [Wk, wkF, wkM, wkL, look_cons, renV, renA, renC, renB, rn, clV, clA, clAs, clB, notIn, findB, findB_setB, clA.go, ty0]⟩
    ·rw [readS_err HF.out HL.out (fstE_stop hlt hall.out hz) hz]
     clear HF HL hall
     repeat' first | simp (disch := omega) only [go_sem, map_get hlt, ixP, wrap_i64, hz] | ((with_reducible first | refine condD ?_ ?_ | refine condX ?_ ?_ | refine condW_intro ?_ ?_) <;> intro h <;> first | (exfalso; omega) | simp (disch := omega) only [go_sem, *, map_get hlt, ixP, wrap_i64, hz] | skip) | (refine callW_of cI rfl (.inl rfl) ?_)
     try rfl
   ·have hz := hall.out
    rw [List.take_of_length_le (by simp; omega)] at hz
    rw [readS_ok HF.out HL.out hz]
    clear HF HL hall hz
    repeat' first | simp (disch := omega) only [go_sem] | ((with_reducible first | refine condD ?_ ?_ | refine condX ?_ ?_ | refine condW_intro ?_ ?_) <;> intro h <;> first | (exfalso; omega) | simp (disch := omega) only [go_sem, *] | skip)
  ·have hlen' : ¬ (dims.length : Int) = e.idx.length := by omega
   rw [readS_len hfind hlen]
   clear hlen hfind
   repeat' first | simp (disch := omega) only [go_sem, hlen'] | ((with_reducible first | refine condD ?_ ?_ | refine condX ?_ ?_ | refine condW_intro ?_ ?_) <;> intro h <;> first | (exfalso; omega) | simp (disch := omega) only [go_sem, *, hlen'] | skip) | (refine callW_of hF rfl (.inr rfl) ?_)
   try rfl
theorem typer_same_abs (a : Ty) : PCalls Tryz.prog n_program_typer_of_1 [aTyp a, aTyp a] (I 0) := by
 refine PCalls.of is_program_typer_of_1 (by simp) fun hb => runW_sound ?_
 simp only [c_program_typer_of_1]
 repeat' first | simp (disch := omega) only [go_sem] | ((with_reducible first | refine condD ?_ ?_ | refine condX ?_ ?_ | refine condW_intro ?_ ?_) <;> intro h <;> first | (exfalso; omega) | simp (disch := omega) only [go_sem, *] | skip)
theorem typer_other_abs {a b : Ty} (h : ¬ a = b) : PCalls Tryz.prog n_program_typer_of_1 [aTyp a, aTyp b] (I 10) := by
 refine PCalls.of is_program_typer_of_1 (by simp) fun hb => runW_sound ?_
 simp only [c_program_typer_of_1]
 have HN := Lib.hid h
 clear h
 repeat' first | simp (disch := omega) only [go_sem] | ((with_reducible first | refine condD ?_ ?_ | refine condX ?_ ?_ | refine condW_intro ?_ ?_) <;> intro h <;> first | (exfalso; omega) | simp (disch := omega) only [go_sem, *] | skip)
 all_goals first
  | exact absurd (ty_ext h) HN.out
  | rfl
end Go.Proofs.YtfjnhdfhgenkdaaGreatDoor
