/- Walks: the reference's types of expressions. -/
import Derived.Test.YtfjnhdfhgenkdaaGreatDoorV17b
set_option linter.unusedVariables false
set_option linter.unusedSimpArgs false
set_option maxRecDepth 20000
namespace Go.Proofs.YtfjnhdfhgenkdaaGreatDoor
open Go.Abs Go.RowKit

abbrev bTy (t : Ty) : Box := .var [.pure (pI t.1), .pure (pI t.2.1), .pure (pI t.2.2.1), .pure (pI t.2.2.2.1), .pure (pI t.2.2.2.2)]
abbrev aTyE (x : Ty × Int) : AV := .tup [aTyp x.1, I x.2]
theorem formsErr_one {p : Prg} {vars : List ByteArray} {l : Lin} : formsErr p vars [l] = if knownL vars p.sizes l then 0 else 9 := by
 unfold formsErr
 simp only [List.mem_singleton, forall_eq]
theorem fstE_next {l : List Ix} {f : Ix → Int} {k : Nat} (h : k < l.length) (hf : fstE ((l.map f).take k) = 0) (hz : f l[k] = 0) : fstE ((l.map f).take (k + 1)) = 0 := by
 rw [fstE_takeN (by simpa using h) hf, List.getElem_map, hz]
theorem fstE_stop {l : List Ix} {f : Ix → Int} {k : Nat} (h : k < l.length) (hf : fstE ((l.map f).take k) = 0) (hz : f l[k] ≠ 0) : fstE (l.map f) = f l[k] := by
 have := fstE_hit (l := l.map f) (k := k) (by simpa using h) hf (by simpa using hz)
 rw [this, List.getElem_map]
section
variable {p : Prg} {vars : List ByteArray} {e : Ex} {t : Ty} {dims : List Lin}
theorem readS_none (h : findS p e.name = none) : readS p vars e = (ty0, 9) := by unfold readS; rw [h]
theorem readS_len (h : findS p e.name = some (t, dims)) (hl : ¬ e.idx.length = dims.length) : readS p vars e = (ty0, 11) := by
 unfold readS
 rw [h]
 exact if_pos hl
theorem readS_err (h : findS p e.name = some (t, dims)) (hl : e.idx.length = dims.length) {x : Int} (he : fstE (e.idx.map (ixErr p vars)) = x) (hx : x ≠ 0) : readS p vars e = (ty0, x) := by
 unfold readS
 rw [h]
 simp only [he]
 rw [if_neg (not_not_intro hl), if_pos hx]
theorem readS_ok (h : findS p e.name = some (t, dims)) (hl : e.idx.length = dims.length) (he : fstE (e.idx.map (ixErr p vars)) = 0) : readS p vars e = (t, 0) := by
 unfold readS
 rw [h]
 simp only [he]
 rw [if_neg (not_not_intro hl), if_neg (by simp)]
theorem ixErr_lin {x : Ix} (h : x.2.1 = ⟨⟨[]⟩⟩) : ixErr p vars x = if knownL vars p.sizes x.1 then 0 else 9 := by
 unfold ixErr
 rw [if_pos h, formsErr_one]
theorem ixErr_none {x : Ix} (h : ¬ x.2.1 = ⟨⟨[]⟩⟩) (hf : findS p x.2.1 = none) : ixErr p vars x = 9 := by
 unfold ixErr
 rw [if_neg h, hf]
theorem ixErr_some {x : Ix} (h : ¬ x.2.1 = ⟨⟨[]⟩⟩) (hf : findS p x.2.1 = some (t, dims)) : ixErr p vars x = if t.1 ≠ 3 then 10 else if x.2.2.length ≠ dims.length then 11 else formsErr p vars x.2.2 := by
 unfold ixErr
 rw [if_neg h, hf]
end
set_option maxHeartbeats 2000000 in
theorem ref17_read_abs {p : Prg} (hf : fewP p) (vars : List ByteArray) (e : Ex) : PCalls Tryz.prog n_ref17_read [aPrg p, .c (.pure (pStrs vars)), aEx e] (aTyE (readS p vars e)) := by
 refine PCalls.of is_ref17_read (by simp) fun hb => runW_sound ?_
 have hl := (bnd_args hb.2.2).2
 simp only [c_ref17_read]
 have hF := ref17_Find_abs hf e.name
 cases hfind : findS p e.name with
 | none =>
  rw [hfind] at hF
  rw [readS_none hfind]
  clear hfind
  repeat' first | simp (disch := omega) only [go_sem] | ((with_reducible first | refine condD ?_ ?_ | refine condX ?_ ?_ | refine condW_intro ?_ ?_) <;> intro h <;> first | (exfalso; omega) | simp (disch := omega) only [go_sem, *] | skip) | (refine callW_of hF rfl (.inr rfl) ?_)
  rfl
 | some r =>
  obtain ⟨t, dims⟩ := r
  rw [hfind] at hF
  by_cases hlen : e.idx.length = dims.length
  ·have hlen' : (dims.length : Int) = e.idx.length := by omega
   have HF := Lib.hid hfind
   have HL := Lib.hid hlen
   clear hlen hfind
   repeat' first | simp (disch := omega) only [go_sem, hlen'] | ((with_reducible first | refine condD ?_ ?_ | refine condX ?_ ?_ | refine condW_intro ?_ ?_) <;> intro h <;> first | (exfalso; omega) | simp (disch := omega) only [go_sem, *, hlen'] | skip) | (refine callW_of hF rfl (.inr rfl) ?_)
   refine AW_loop (fun k : Nat => ⟨[(11, I k), (8, .c (.ptr 3 0)), (6, .c (.ptr 2 0)), (5, .c (.ptr 1 0)), (3, .c (.ptr 0 0)), (1, .c (.pure (pStrs vars)))], [(3, bTy t), (2, bTy ty0), (1, bEx e), (0, bPrg p)], 4, 0⟩) (fun k => k ≤ e.idx.length ∧ Hid (fstE ((e.idx.map (ixErr p vars)).take k) = 0)) (fun k => e.idx.length - k) ⟨0, [], ⟨by omega, by show _ = _; simp [fstE]⟩, by simp [Wk, wkF, wkM, wkL, look_cons, renV, renA, renC, renB, rn, clV, clA, clAs, clB, notIn, findB, findB_setB, clA.go, ty0]⟩ ?_
   clear hF hlen'
   rintro k ⟨hk, hall⟩
   refine runW_sound ?_
   by_cases hlt : k < e.idx.length
   ·have hstop : ∀ x, ixErr p vars e.idx[k] = x → x ≠ 0 → readS p vars e = (ty0, x) := fun x h1 h2 => readS_err HF.out HL.out ((fstE_stop hlt hall.out (by rw [h1]; exact h2)).trans h1) h2
    have hnext : ixErr p vars e.idx[k] = 0 → Hid (fstE ((e.idx.map (ixErr p vars)).take (k + 1)) = 0) := fun h => fstE_next hlt hall.out h
    clear HF HL hall
    by_cases hfrom : e.idx[k].2.1 = ⟨⟨[]⟩⟩
    ·have hE := ixErr_lin (p := p) (vars := vars) hfrom
     by_cases hkn : knownL vars p.sizes e.idx[k].1
     ·rw [if_pos hkn] at hE
      have HN := hnext hE
      clear hstop hnext hE
      repeat' first | simp (disch := omega) only [go_sem, map_get hlt, ixP, wrap_i64, hfrom, hkn, decide_true] | ((with_reducible first | refine condD ?_ ?_ | refine condX ?_ ?_ | refine condW_intro ?_ ?_) <;> intro h <;> first | (exfalso; omega) | simp (disch := omega) only [go_sem, *, map_get hlt, ixP, wrap_i64, hfrom, hkn, decide_true] | skip) | (refine callW_of (ref17_known_abs _ _ _) rfl (.inl rfl) ?_)
      exact ⟨k + 1, [], ⟨by omega, HN⟩, by omega, by simp [Wk, wkF, wkM, wkL, look_cons, renV, renA, renC, renB, rn, clV, clA, clAs, clB, notIn, findB, findB_setB, clA.go, ty0]⟩
     ·rw [if_neg hkn] at hE
      have hS := hstop _ hE (by omega)
      rw [hS]
      clear hstop hnext hE hS
      repeat' first | simp (disch := omega) only [go_sem, map_get hlt, ixP, wrap_i64, hfrom, hkn, decide_false] | ((with_reducible first | refine condD ?_ ?_ | refine condX ?_ ?_ | refine condW_intro ?_ ?_) <;> intro h <;> first | (exfalso; omega) | simp (disch := omega) only [go_sem, *, map_get hlt, ixP, wrap_i64, hfrom, hkn, decide_false] | skip) | (refine callW_of (ref17_known_abs _ _ _) rfl (.inl rfl) ?_)
      try rfl
    ·have hF := ref17_Find_abs hf e.idx[k].2.1
     cases hfx : findS p e.idx[k].2.1 with
     | none =>
      have hS := hstop _ (ixErr_none hfrom hfx) (by omega)
      rw [hS]
      rw [hfx] at hF
      clear hstop hnext hS hfx
      repeat' first | simp (disch := omega) only [go_sem, map_get hlt, ixP, wrap_i64, hfrom] | ((with_reducible first | refine condD ?_ ?_ | refine condX ?_ ?_ | refine condW_intro ?_ ?_) <;> intro h <;> first | (exfalso; omega) | simp (disch := omega) only [go_sem, *, map_get hlt, ixP, wrap_i64, hfrom] | skip) | (refine callW_of hF rfl (.inr rfl) ?_)
      try rfl
     | some r =>
      obtain ⟨t', d'⟩ := r
      have hE := ixErr_some (vars := vars) hfrom hfx
      rw [hfx] at hF
      clear hfx
      by_cases ht : t'.1 = 3
      ·rw [if_neg (not_not_intro ht)] at hE
       by_cases hd : e.idx[k].2.2.length = d'.length
       ·rw [if_neg (not_not_intro hd)] at hE
        have hd' : (d'.length : Int) = e.idx[k].2.2.length := by omega
        have hfm := ref17_forms_abs p vars e.idx[k].2.2
        clear hd
        by_cases hz : formsErr p vars e.idx[k].2.2 = 0
        ·have HN := hnext (hE.trans hz)
         clear hstop hnext hE
         repeat' first | simp (disch := omega) only [go_sem, map_get hlt, ixP, wrap_i64, hfrom, ht, hd', hz] | ((with_reducible first | refine condD ?_ ?_ | refine condX ?_ ?_ | refine condW_intro ?_ ?_) <;> intro h <;> first | (exfalso; omega) | simp (disch := omega) only [go_sem, *, map_get hlt, ixP, wrap_i64, hfrom, ht, hd', hz] | skip) | (refine callW_of hF rfl (.inr rfl) ?_) | (refine callW_of hfm rfl (.inl rfl) ?_)
         exact ⟨k + 1, [], ⟨by omega, HN⟩, by omega, by simp [Wk, wkF, wkM, wkL, look_cons, renV, renA, renC, renB, rn, clV, clA, clAs, clB, notIn, findB, findB_setB, clA.go, ty0]⟩
        ·have hS := hstop _ hE hz
         rw [hS]
         clear hstop hnext hE hS
         repeat' first | simp (disch := omega) only [go_sem, map_get hlt, ixP, wrap_i64, hfrom, ht, hd', hz] | ((with_reducible first | refine condD ?_ ?_ | refine condX ?_ ?_ | refine condW_intro ?_ ?_) <;> intro h <;> first | (exfalso; omega) | simp (disch := omega) only [go_sem, *, map_get hlt, ixP, wrap_i64, hfrom, ht, hd', hz] | skip) | (refine callW_of hF rfl (.inr rfl) ?_) | (refine callW_of hfm rfl (.inl rfl) ?_)
         try rfl
       ·rw [if_pos hd] at hE
        have hS := hstop _ hE (by omega)
        have hd' : ¬ (d'.length : Int) = e.idx[k].2.2.length := by omega
        rw [hS]
        clear hstop hnext hE hS hd
        repeat' first | simp (disch := omega) only [go_sem, map_get hlt, ixP, wrap_i64, hfrom, ht, hd'] | ((with_reducible first | refine condD ?_ ?_ | refine condX ?_ ?_ | refine condW_intro ?_ ?_) <;> intro h <;> first | (exfalso; omega) | simp (disch := omega) only [go_sem, *, map_get hlt, ixP, wrap_i64, hfrom, ht, hd'] | skip) | (refine callW_of hF rfl (.inr rfl) ?_)
        try rfl
      ·rw [if_pos ht] at hE
       have hS := hstop _ hE (by omega)
       rw [hS]
       clear hstop hnext hE hS
       repeat' first | simp (disch := omega) only [go_sem, map_get hlt, ixP, wrap_i64, hfrom, ht] | ((with_reducible first | refine condD ?_ ?_ | refine condX ?_ ?_ | refine condW_intro ?_ ?_) <;> intro h <;> first | (exfalso; omega) | simp (disch := omega) only [go_sem, *, map_get hlt, ixP, wrap_i64, hfrom, ht] | skip) | (refine callW_of hF rfl (.inr rfl) ?_)
       try rfl
   ·have hz := hall.out
    rw [List.take_of_length_le (by simp; omega)] at hz
    rw [readS_ok HF.out HL.out hz]
    clear HF HL hall hz
    repeat' first | simp (disch := omega) only [go_sem] | ((with_reducible first | refine condD ?_ ?_ | refine condX ?_ ?_ | refine condW_intro ?_ ?_) <;> intro h <;> first | (exfalso; omega) | simp (disch := omega) only [go_sem, *] | skip)
  ·have hlen' : ¬ (dims.length : Int) = e.idx.length := by omega
   rw [readS_len hfind hlen]
   clear hlen hfind
   repeat' first | simp (disch := omega) only [go_sem, hlen'] | ((with_reducible first | refine condD ?_ ?_ | refine condX ?_ ?_ | refine condW_intro ?_ ?_) <;> intro h <;> first | (exfalso; omega) | simp (disch := omega) only [go_sem, *, hlen'] | skip) | (refine callW_of hF rfl (.inr rfl) ?_)
   try rfl
end Go.Proofs.YtfjnhdfhgenkdaaGreatDoor
