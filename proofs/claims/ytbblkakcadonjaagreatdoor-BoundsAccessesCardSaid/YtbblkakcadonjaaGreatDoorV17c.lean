/- Walks: the reference's programs: names, reads, types. -/
import Derived.Test.YtbblkakcadonjaaGreatDoorV17a
import Derived.Test.YtbblkakcadonjaaGreatDoorV14c
set_option linter.unusedVariables false
set_option linter.unusedSimpArgs false
set_option maxRecDepth 20000
set_option maxHeartbeats 4000000
set_option maxRecDepth 1000000
namespace Go.Proofs.YtbblkakcadonjaaGreatDoor
open Go.Abs Go.RowKit

theorem ref17_known_abs (l : Lin) (vars sizes : List ByteArray) : PCalls Tryz.prog n_ref17_known [aLin l.1 l.2, .c (.pure (pStrs vars)), .c (.pure (pStrs sizes))] (Go.Abs.B (decide (knownL vars sizes l))) := by
 refine PCalls.of is_ref17_known (by simp) fun hb => runW_sound ?_
 have hl := bnd_lin hb.1
 conv in c_ref17_known => cbv
 repeat' first | simp (disch := omega) only [go_sem, *] | ((with_reducible refine condT ?_ ?_) <;> intro h <;> try omega)
 refine AW_loop (fun k : Nat => ⟨[(7, I k), (3, .c (.ptr 0 0)), (2, .c (.pure (pStrs sizes))), (1, .c (.pure (pStrs vars)))], [(0, .var [.pure (pI l.1), .pure (pMonos l.2)])], 1, 0⟩) (fun k => k ≤ l.2.length ∧ upTo (fun i => ∀ h : i < l.2.length, l.2[i].1 ∈ vars ∨ l.2[i].1 ∈ sizes) k) (fun k => l.2.length - k) ⟨0, [], ⟨by omega, .zero⟩, by simp⟩ ?_
 rintro k ⟨hk, hall⟩
 refine runW_sound ?_
 by_cases hlt : k < l.2.length
 ·repeat' first | simp (disch := omega) only [go_sem, *, map_get hlt, mP, wrap_i64] | ((with_reducible refine condT ?_ ?_) <;> intro h <;> try omega) | (refine w_L (base_Has_abs _ _) rfl rfl ?_)
  ·exact ⟨k + 1, [], ⟨by omega, hall.succ fun _ => .inl h⟩, by omega, by simp⟩
  ·exact ⟨k + 1, [], ⟨by omega, hall.succ fun _ => .inr h⟩, by omega, by simp⟩
  ·refine BD ⟨fun h => (by cases h), fun h' => ?_⟩
   have := h' _ (List.getElem_mem hlt)
   simp_all
 ·repeat' first | simp (disch := omega) only [go_sem, *] | ((with_reducible refine condT ?_ ?_) <;> intro h <;> try omega)
  refine BD ⟨fun _ m hm => ?_, fun _ => rfl⟩
  obtain ⟨i, hi, rfl⟩ := List.mem_iff_getElem.1 hm
  exact hall i (by omega) hi
theorem ref17_forms_abs (p : Prg) (vars : List ByteArray) (ls : List Lin) : PCalls Tryz.prog n_ref17_forms [aPrg p, .c (.pure (pStrs vars)), aLins ls] (I (formsErr p vars ls)) := by
 refine PCalls.of is_ref17_forms (by simp) fun hb => runW_sound ?_
 have hl : ls.length ≤ 9223372036854775807 := by
  have := hb.2.2.1
  simpa [bndV, bndA] using this
 conv in c_ref17_forms => cbv
 repeat' first | simp (disch := omega) only [go_sem, *] | ((with_reducible refine condT ?_ ?_) <;> intro h <;> try omega)
 refine AW_loop (fun k : Nat => ⟨[(7, I k), (3, .c (.ptr 0 0)), (2, aLins ls), (1, .c (.pure (pStrs vars)))], [(0, bPrg p)], 1, 0⟩) (fun k => k ≤ ls.length ∧ upTo (fun i => ∀ h : i < ls.length, knownL vars p.sizes ls[i]) k) (fun k => ls.length - k) ⟨0, [], ⟨by omega, .zero⟩, by simp⟩ ?_
 rintro k ⟨hk, hall⟩
 refine runW_sound ?_
 by_cases hlt : k < ls.length
 ·repeat' first | simp (disch := omega) only [go_sem, *, map_get hlt, linP, wrap_i64] | ((with_reducible refine condT ?_ ?_) <;> intro h <;> try omega) | (refine w_L (ref17_known_abs _ _ _) rfl rfl ?_)
  ·exact ⟨k + 1, [], ⟨by omega, hall.succ fun _ => h⟩, by omega, by simp⟩
  ·exact IE (if_neg fun h' => h (h' _ (List.getElem_mem hlt))).symm
 ·repeat' first | simp (disch := omega) only [go_sem, *] | ((with_reducible refine condT ?_ ?_) <;> intro h <;> try omega)
  refine IE (if_pos fun x hx => ?_).symm
  obtain ⟨i, hi, rfl⟩ := List.mem_iff_getElem.1 hx
  exact hall i (by omega) hi
set_option maxHeartbeats 1000000 in
theorem ref17_Find_abs {p : Prg} (hf : fewP p) (s : ByteArray) : PCalls Tryz.prog n_ref17_Find [aPrg p, S s] (aFound (findS p s)) := by
 refine PCalls.of is_ref17_Find (by simp) fun hb => runW_sound ?_
 have hl : p.params.length ≤ 9223372036854775807 ∧ p.defs.length ≤ 9223372036854775807 := by
  have := hb.1
  simp [bndV, bndAs, bndA] at this
  omega
 conv in c_ref17_Find => cbv
 repeat' first | simp (disch := omega) only [go_sem, *] | ((with_reducible refine condT ?_ ?_) <;> intro h <;> try omega)
 refine AW_loop (fun k : Nat => ⟨[(7, I k), (4, .c (.ptr 1 0)), (2, .c (.ptr 0 0)), (1, S s)], [(1, .var [.pure (pI 0), .pure (pI 0), .pure (pI 0), .pure (pI 0), .pure (pI 0)]), (0, bPrg p)], 2, 0⟩) (fun k => k ≤ p.params.length ∧ upTo (fun j => ∀ h : j < p.params.length, ¬ p.params[j].1 = s) k) (fun k => p.params.length - k) ⟨0, [], ⟨by omega, .zero⟩, by simp⟩ ?_
 rintro k ⟨hk, hall⟩
 refine runW_sound ?_
 by_cases hlt : k < p.params.length
 ·by_cases he : p.params[k].1 = s
  ·have HN := Lib.hid (findS_par hlt he fun j hj => hall j hj (by omega))
   clear hall hf
   repeat' first | simp (disch := omega) only [go_sem, *, map_get hlt, parP, str_eq, he, decide_true, wrap_i64, ] | ((with_reducible refine condT ?_ ?_) <;> intro h <;> try omega) | (with_reducible refine bothW_intro ?_ ?_) | (with_reducible refine nilW_intro (fun h => ?_) ?_)
   all_goals (rw [HN.out]; try rfl)
  ·have HA := Lib.hid hall
   clear hall hf
   repeat' first | simp (disch := omega) only [go_sem, *, map_get hlt, parP, str_eq, he, decide_false, wrap_i64] | ((with_reducible refine condT ?_ ?_) <;> intro h <;> try omega)
   exact ⟨k + 1, [], ⟨by omega, HA.out.succ fun _ => he⟩, by omega, by simp⟩
 ·have h0 : ∀ j (hj : j < p.params.length), ¬ p.params[j].1 = s := fun j hj => hall j (by omega) hj
  have H0 := Lib.hid h0
  clear hall h0
  repeat' first | simp (disch := omega) only [go_sem, *] | ((with_reducible refine condT ?_ ?_) <;> intro h <;> try omega)
  refine AW_loop (fun k : Nat => ⟨[(8, I k), (4, .c (.ptr 1 0)), (2, .c (.ptr 0 0)), (1, S s)], [(1, .var [.pure (pI 0), .pure (pI 0), .pure (pI 0), .pure (pI 0), .pure (pI 0)]), (0, bPrg p)], 2, 0⟩) (fun k => k ≤ p.defs.length ∧ upTo (fun j => ∀ h : j < p.defs.length, ¬ p.defs[j].name = s) k) (fun k => p.defs.length - k) ⟨0, [], ⟨by omega, .zero⟩, by simp⟩ ?_
  rintro i ⟨hk, hall⟩
  refine runW_sound ?_
  by_cases hi : i < p.defs.length
  ·by_cases he : p.defs[i].name = s
   ·have HN := Lib.hid (findS_def H0.out hi he fun j hj => hall j hj (by omega))
    have HF := Lib.hid (hf.2 _ (List.getElem_mem hi))
    clear hall hf
    repeat' first | simp (disch := omega) only [go_sem, *, map_get hi, defP, str_eq, he, decide_true, wrap_i64] | ((with_reducible refine condT ?_ ?_) <;> intro h <;> try omega)
    refine AW_adopt 9 35 2 rfl (by decide) ?_
    refine AW_loop (fun k : Nat => ⟨[(10, I k), (9, .c (.ref 2)), (8, I i), (4, .c (.ptr 1 0)), (2, .c (.ptr 0 0))], [(2, .arr 35 2 ((p.defs[i].dims.take k).map fun a => linP a.2)), (1, .var [.pure (pI 0), .pure (pI 0), .pure (pI 0), .pure (pI 0), .pure (pI 0)]), (0, bPrg p)], 3, 0⟩) (fun k => k ≤ p.defs[i].dims.length) (fun k => p.defs[i].dims.length - k) ⟨0, [], by omega, by simp⟩ ?_
    intro k hk
    refine runW_sound ?_
    by_cases hlt : k < p.defs[i].dims.length
    ·have hd := HF.out.1
     have ht : (p.defs[i].dims.take k).map (fun a : Axis => linP a.2) ++ [linP p.defs[i].dims[k].2] = (p.defs[i].dims.take (k + 1)).map fun a => linP a.2 := by rw [List.take_succ_eq_append_getElem hlt, List.map_append]; rfl
     simp only [linP] at ht
     have HT := Lib.hid ht
     clear ht HF
     repeat' first | simp (disch := omega) only [go_sem, *, map_get hi, defP, map_get hlt, axP, linP, wrap_i64] | ((with_reducible refine condT ?_ ?_) <;> intro h <;> try omega) | (refine app_own rfl (by intro h; cases h) (rowsOk_one rfl) (by simp; omega) (by simp; omega) ?_)
     rw [HT.out]
     exact ⟨k + 1, [(2, 3)], by omega, by omega, by simp [linP]⟩
    ·repeat' first | simp (disch := omega) only [go_sem, *, map_get hi, defP] | ((with_reducible refine condT ?_ ?_) <;> intro h <;> try omega)
     rw [HN.out, List.take_of_length_le (by omega)]
     simp [List.map_map, Function.comp_def]
   ·have HA := Lib.hid hall
    clear hall hf
    repeat' first | simp (disch := omega) only [go_sem, *, map_get hi, defP, str_eq, he, decide_false, wrap_i64] | ((with_reducible refine condT ?_ ?_) <;> intro h <;> try omega)
    exact ⟨i + 1, [], ⟨by omega, HA.out.succ fun _ => he⟩, by omega, by simp⟩
  ·have HN := Lib.hid (findS_none H0.out fun d hd => by
    obtain ⟨j, hj, rfl⟩ := List.mem_iff_getElem.1 hd
    exact hall j (by omega) hj)
   clear hall hf
   repeat' first | simp (disch := omega) only [go_sem, *] | ((with_reducible refine condT ?_ ?_) <;> intro h <;> try omega)
   rw [HN.out]
   try rfl
end Go.Proofs.YtbblkakcadonjaaGreatDoor
set_option linter.unusedVariables false
set_option linter.unusedSimpArgs false
set_option maxRecDepth 20000
set_option maxHeartbeats 4000000
set_option maxRecDepth 1000000
namespace Go.Proofs.YtbblkakcadonjaaGreatDoor
open Go.Abs Go.RowKit

abbrev bTy (t : Ty) : Box := .var [.pure (pI t.1), .pure (pI t.2.1), .pure (pI t.2.2.1), .pure (pI t.2.2.2.1), .pure (pI t.2.2.2.2)]
abbrev aTyE (x : Ty × Int) : AV := .tup [aTyp x.1, I x.2]
theorem formsErr_one {p : Prg} {vars : List ByteArray} {l : Lin} : formsErr p vars [l] = if knownL vars p.sizes l then 0 else 9 := by
 unfold formsErr
 simp only [List.mem_singleton, forall_eq]
theorem fstE_next {l : List Ix} {f : Ix → Int} {k : Nat} (h : k < l.length) (hf : fstE ((l.map f).take k) = 0) (hz : f l[k] = 0) : fstE ((l.map f).take (k + 1)) = 0 := by
 rw [fstE_takeN (by simpa using h) hf, List.getElem_map, hz]
theorem fstE_stop {l : List Ix} {f : Ix → Int} {k : Nat} (h : k < l.length) (hf : fstE ((l.map f).take k) = 0) (hz : f l[k] ≠ 0) : fstE (l.map f) = f l[k] := by
 have := fstE_hit (l := l.map f) (k := k) (by simpa using h) hf (by simpa using hz)
 rw [this, List.getElem_map]
section
variable {p : Prg} {vars : List ByteArray} {e : Ex} {t : Ty} {dims : List Lin}
theorem readS_none (h : findS p e.name = none) : readS p vars e = (ty0, 9) := by unfold readS; rw [h]
theorem readS_len (h : findS p e.name = some (t, dims)) (hl : ¬ e.idx.length = dims.length) : readS p vars e = (ty0, 11) := by
 unfold readS
 rw [h]
 exact if_pos hl
theorem readS_err (h : findS p e.name = some (t, dims)) (hl : e.idx.length = dims.length) {x : Int} (he : fstE (e.idx.map (ixErr p vars)) = x) (hx : x ≠ 0) : readS p vars e = (ty0, x) := by
 unfold readS
 rw [h]
 simp only [he]
 rw [if_neg (not_not_intro hl), if_pos hx]
theorem readS_ok (h : findS p e.name = some (t, dims)) (hl : e.idx.length = dims.length) (he : fstE (e.idx.map (ixErr p vars)) = 0) : readS p vars e = (t, 0) := by
 unfold readS
 rw [h]
 simp only [he]
 rw [if_neg (not_not_intro hl), if_neg (by simp)]
theorem ixErr_lin {x : Ix} (h : x.2.1 = ⟨⟨[]⟩⟩) : ixErr p vars x = if knownL vars p.sizes x.1 then 0 else 9 := by
 unfold ixErr
 rw [if_pos h, formsErr_one]
theorem ixErr_none {x : Ix} (h : ¬ x.2.1 = ⟨⟨[]⟩⟩) (hf : findS p x.2.1 = none) : ixErr p vars x = 9 := by
 unfold ixErr
 rw [if_neg h, hf]
theorem ixErr_some {x : Ix} (h : ¬ x.2.1 = ⟨⟨[]⟩⟩) (hf : findS p x.2.1 = some (t, dims)) : ixErr p vars x = if t.1 ≠ 3 then 10 else if x.2.2.length ≠ dims.length then 11 else formsErr p vars x.2.2 := by
 unfold ixErr
 rw [if_neg h, hf]
end
set_option maxHeartbeats 2000000 in
theorem ref17_read_abs {p : Prg} (hf : fewP p) (vars : List ByteArray) (e : Ex) : PCalls Tryz.prog n_ref17_read [aPrg p, .c (.pure (pStrs vars)), aEx e] (aTyE (readS p vars e)) := by
 refine PCalls.of is_ref17_read (by simp) fun hb => runW_sound ?_
 have hl := (bnd_args hb.2.2).2
 conv in c_ref17_read => cbv
 have hF := ref17_Find_abs hf e.name
 cases hfind : findS p e.name with
 | none =>
  rw [hfind] at hF
  rw [readS_none hfind]
  clear hfind
  repeat' first | simp (disch := omega) only [go_sem, *] | ((with_reducible refine condT ?_ ?_) <;> intro h <;> try omega) | (refine w_R hF rfl rfl ?_)
  rfl
 | some r =>
  obtain ⟨t, dims⟩ := r
  rw [hfind] at hF
  by_cases hlen : e.idx.length = dims.length
  ·have hlen' : (dims.length : Int) = e.idx.length := by omega
   have HF := Lib.hid hfind
   have HL := Lib.hid hlen
   clear hlen hfind
   repeat' first | simp (disch := omega) only [go_sem, *, hlen'] | ((with_reducible refine condT ?_ ?_) <;> intro h <;> try omega) | (refine w_R hF rfl rfl ?_)
   refine AW_loop (fun k : Nat => ⟨[(11, I k), (8, .c (.ptr 3 0)), (6, .c (.ptr 2 0)), (5, .c (.ptr 1 0)), (3, .c (.ptr 0 0)), (1, .c (.pure (pStrs vars)))], [(3, bTy t), (2, bTy ty0), (1, bEx e), (0, bPrg p)], 4, 0⟩) (fun k => k ≤ e.idx.length ∧ Hid (fstE ((e.idx.map (ixErr p vars)).take k) = 0)) (fun k => e.idx.length - k) ⟨0, [], ⟨by omega, by show _ = _; simp [fstE]⟩, by simp [ty0]⟩ ?_
   clear hF hlen'
   rintro k ⟨hk, hall⟩
   refine runW_sound ?_
   by_cases hlt : k < e.idx.length
   ·have hstop : ∀ x, ixErr p vars e.idx[k] = x → x ≠ 0 → readS p vars e = (ty0, x) := fun x h1 h2 => readS_err HF.out HL.out ((fstE_stop hlt hall.out (by rw [h1]; exact h2)).trans h1) h2
    have hnext : ixErr p vars e.idx[k] = 0 → Hid (fstE ((e.idx.map (ixErr p vars)).take (k + 1)) = 0) := fun h => fstE_next hlt hall.out h
    clear HF HL hall
    by_cases hfrom : e.idx[k].2.1 = ⟨⟨[]⟩⟩
    ·have hE := ixErr_lin (p := p) (vars := vars) hfrom
     by_cases hkn : knownL vars p.sizes e.idx[k].1
     ·rw [if_pos hkn] at hE
      have HN := hnext hE
      clear hstop hnext hE
      repeat' first | simp (disch := omega) only [go_sem, *, map_get hlt, ixP, wrap_i64, hfrom, hkn, decide_true] | ((with_reducible refine condT ?_ ?_) <;> intro h <;> try omega) | (refine w_L (ref17_known_abs _ _ _) rfl rfl ?_)
      exact ⟨k + 1, [], ⟨by omega, HN⟩, by omega, by simp [ty0]⟩
     ·rw [if_neg hkn] at hE
      have hS := hstop _ hE (by omega)
      rw [hS]
      clear hstop hnext hE hS
      repeat' first | simp (disch := omega) only [go_sem, *, map_get hlt, ixP, wrap_i64, hfrom, hkn, decide_false] | ((with_reducible refine condT ?_ ?_) <;> intro h <;> try omega) | (refine w_L (ref17_known_abs _ _ _) rfl rfl ?_)
      try rfl
    ·have hF := ref17_Find_abs hf e.idx[k].2.1
     cases hfx : findS p e.idx[k].2.1 with
     | none =>
      have hS := hstop _ (ixErr_none hfrom hfx) (by omega)
      rw [hS]
      rw [hfx] at hF
      clear hstop hnext hS hfx
      repeat' first | simp (disch := omega) only [go_sem, *, map_get hlt, ixP, wrap_i64, hfrom] | ((with_reducible refine condT ?_ ?_) <;> intro h <;> try omega) | (refine w_R hF rfl rfl ?_)
      try rfl
     | some r =>
      obtain ⟨t', d'⟩ := r
      have hE := ixErr_some (vars := vars) hfrom hfx
      rw [hfx] at hF
      clear hfx
      by_cases ht : t'.1 = 3
      ·rw [if_neg (not_not_intro ht)] at hE
       by_cases hd : e.idx[k].2.2.length = d'.length
       ·rw [if_neg (not_not_intro hd)] at hE
        have hd' : (d'.length : Int) = e.idx[k].2.2.length := by omega
        have hfm := ref17_forms_abs p vars e.idx[k].2.2
        clear hd
        by_cases hz : formsErr p vars e.idx[k].2.2 = 0
        ·have HN := hnext (hE.trans hz)
         clear hstop hnext hE
         repeat' first | simp (disch := omega) only [go_sem, *, map_get hlt, ixP, wrap_i64, hfrom, ht, hd', hz] | ((with_reducible refine condT ?_ ?_) <;> intro h <;> try omega) | (refine w_R hF rfl rfl ?_) | (refine w_L hfm rfl rfl ?_)
         exact ⟨k + 1, [], ⟨by omega, HN⟩, by omega, by simp [ty0]⟩
        ·have hS := hstop _ hE hz
         rw [hS]
         clear hstop hnext hE hS
         repeat' first | simp (disch := omega) only [go_sem, *, map_get hlt, ixP, wrap_i64, hfrom, ht, hd', hz] | ((with_reducible refine condT ?_ ?_) <;> intro h <;> try omega) | (refine w_R hF rfl rfl ?_) | (refine w_L hfm rfl rfl ?_)
         try rfl
       ·rw [if_pos hd] at hE
        have hS := hstop _ hE (by omega)
        have hd' : ¬ (d'.length : Int) = e.idx[k].2.2.length := by omega
        rw [hS]
        clear hstop hnext hE hS hd
        repeat' first | simp (disch := omega) only [go_sem, *, map_get hlt, ixP, wrap_i64, hfrom, ht, hd'] | ((with_reducible refine condT ?_ ?_) <;> intro h <;> try omega) | (refine w_R hF rfl rfl ?_)
        try rfl
      ·rw [if_pos ht] at hE
       have hS := hstop _ hE (by omega)
       rw [hS]
       clear hstop hnext hE hS
       repeat' first | simp (disch := omega) only [go_sem, *, map_get hlt, ixP, wrap_i64, hfrom, ht] | ((with_reducible refine condT ?_ ?_) <;> intro h <;> try omega) | (refine w_R hF rfl rfl ?_)
       try rfl
   ·have hz := hall.out
    rw [List.take_of_length_le (by simp; omega)] at hz
    rw [readS_ok HF.out HL.out hz]
    clear HF HL hall hz
    repeat' first | simp (disch := omega) only [go_sem, *] | ((with_reducible refine condT ?_ ?_) <;> intro h <;> try omega)
  ·have hlen' : ¬ (dims.length : Int) = e.idx.length := by omega
   rw [readS_len hfind hlen]
   clear hlen hfind
   repeat' first | simp (disch := omega) only [go_sem, *, hlen'] | ((with_reducible refine condT ?_ ?_) <;> intro h <;> try omega) | (refine w_R hF rfl rfl ?_)
   try rfl
end Go.Proofs.YtbblkakcadonjaaGreatDoor
