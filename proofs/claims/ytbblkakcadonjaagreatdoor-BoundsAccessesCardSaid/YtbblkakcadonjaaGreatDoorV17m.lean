/- Walks: package program: Validate. -/
import Derived.Test.YtbblkakcadonjaaGreatDoorV17l
import Derived.Test.YtbblkakcadonjaaGreatDoorV17g
set_option linter.unusedVariables false
set_option linter.unusedSimpArgs false
set_option maxRecDepth 20000
set_option maxHeartbeats 4000000
set_option maxRecDepth 1000000
namespace Go.Proofs.YtbblkakcadonjaaGreatDoor
open Go.Abs Go.RowKit

def KK (p : Prg) (T : List ByteArray) : KL := kPut (kPut [] 1 p.sizes) 2 T
def Tp (p : Prg) (k : Nat) : List ByteArray := (p.params.take k).map (·.1)
def Td (p : Prg) (k : Nat) : List ByteArray := p.params.map (·.1) ++ (p.defs.take k).map (·.name)
theorem kGet_KK (p : Prg) (T : List ByteArray) (s : ByteArray) : kGet (KK p T) s = if s ∈ T then 2 else if s ∈ p.sizes then 1 else 0 := by
 unfold KK
 rw [kGet_put, kGet_put, kGet_nil]
theorem Kt_KK (p : Prg) (T : List ByteArray) : Kt (KK p T) (p.sizes ++ T) := fun s => by
 rw [kGet_KK, List.mem_append]
 by_cases h1 : s ∈ T
 ·simp [h1]
 ·by_cases h2 : s ∈ p.sizes <;> simp [h1, h2]
theorem Kc_KK {p : Prg} {T : List ByteArray} (h : ∀ s ∈ T, ¬ s ∈ p.sizes) : Kc p (KK p T) := fun s => by
 rw [kGet_KK]
 by_cases h1 : s ∈ T
 ·have := h s h1
  simp [h1, this]
 ·by_cases h2 : s ∈ p.sizes <;> simp [h1, h2]
theorem KK_add (p : Prg) (T : List ByteArray) (s : ByteArray) : kSet (KK p T) s 2 = KK p (T ++ [s]) := by
 unfold KK
 rw [kPut_app]
 rfl
theorem KK_zero (p : Prg) : KK p (Tp p 0) = kPut [] 1 p.sizes := by simp [KK, Tp, kPut]
theorem Kt_sizes (l : List ByteArray) : Kt (kPut [] 1 l) l := fun s => by
 rw [kGet_put, kGet_nil]
 by_cases h1 : s ∈ l <;> simp [h1]
theorem Tp_succ {p : Prg} {k : Nat} (h : k < p.params.length) : Tp p (k + 1) = Tp p k ++ [p.params[k].1] := by
 unfold Tp
 rw [List.take_succ_eq_append_getElem h, List.map_append]
 rfl
theorem Td_succ {p : Prg} {k : Nat} (h : k < p.defs.length) : Td p (k + 1) = Td p k ++ [p.defs[k].name] := by
 unfold Td
 rw [List.take_succ_eq_append_getElem h, List.map_append, List.append_assoc]
 rfl
theorem Td_zero (p : Prg) : Td p 0 = Tp p p.params.length := by simp [Td, Tp]
theorem takenP_T (p : Prg) (k : Nat) : takenP p k = p.sizes ++ Tp p k := rfl
theorem takenD_T (p : Prg) (k : Nat) : takenD p k = p.sizes ++ Td p k := by unfold takenD Td; rw [List.append_assoc]
theorem findS_out {p : Prg} {s : ByteArray} : findS p s = none ↔ ¬ s ∈ Td p p.defs.length := by
 have h1 : p.params.find? (fun x => decide (x.1 = s)) = none ↔ ¬ s ∈ p.params.map (·.1) := by
  rw [List.find?_eq_none]
  constructor
  ·intro h hm
   obtain ⟨x, hx, rfl⟩ := List.mem_map.1 hm
   exact h x hx (by simp)
  ·intro h x hx e
   exact h (List.mem_map.2 ⟨x, hx, by simpa using e⟩)
 have h2 : p.defs.find? (fun d => decide (d.name = s)) = none ↔ ¬ s ∈ p.defs.map (·.name) := by
  rw [List.find?_eq_none]
  constructor
  ·intro h hm
   obtain ⟨x, hx, rfl⟩ := List.mem_map.1 hm
   exact h x hx (by simp)
  ·intro h x hx e
   exact h (List.mem_map.2 ⟨x, hx, by simpa using e⟩)
 unfold Td findS
 rw [List.take_length, List.mem_append]
 cases hp : p.params.find? (fun x => decide (x.1 = s)) with
 | some x =>
  rw [hp] at h1
  have : s ∈ p.params.map (·.1) := Classical.not_not.1 fun h => by cases h1.2 h
  exact ⟨fun h => (by cases h), fun h => absurd (.inl this) h⟩
 | none =>
  have n1 := h1.1 hp
  cases hd : p.defs.find? (fun d => decide (d.name = s)) with
  | some x =>
   rw [hd] at h2
   have : s ∈ p.defs.map (·.name) := Classical.not_not.1 fun h => by cases h2.2 h
   exact ⟨fun h => (by cases h), fun h => absurd (.inr this) h⟩
  | none =>
   have n2 := h2.1 hd
   exact ⟨fun _ h => h.elim n1 n2, fun _ => rfl⟩
theorem parErr_name {sizes taken : List ByteArray} {x : Param} (h : parErr sizes taken x = 0) : nameErr taken x.1 = 0 := by
 unfold parErr at h
 exact Classical.not_not.1 fun hn => by rw [if_pos hn] at h; exact hn h
theorem defErr_name {p : Prg} {k : Nat} {taken : List ByteArray} {d : Dfn} (h : defErr p k taken d = 0) : nameErr taken d.name = 0 := by
 unfold defErr at h
 exact Classical.not_not.1 fun hn => by rw [if_pos hn] at h; exact hn h
theorem new_apart {p : Prg} {T : List ByteArray} {s : ByteArray} (h : nameErr (p.sizes ++ T) s = 0) (hT : ∀ x ∈ T, ¬ x ∈ p.sizes) : ∀ x ∈ T ++ [s], ¬ x ∈ p.sizes := fun x hx hs => by
 rcases List.mem_append.1 hx with hx | hx
 ·exact hT x hx hs
 ·rw [List.mem_singleton] at hx
  subst hx
  exact (nameErr_zero h).2 (List.mem_append_left _ hs)
abbrev mV (p : Prg) (K : KL) : List (Nat × Box) := [(2, bCk p 1), (1, mK K), (0, bPrg p)]
set_option maxHeartbeats 4000000 in
theorem program_Validate_abs {p : Prg} (hf : fewP p) (h64 : prg64 p) : PCalls Tryz.prog n_program_Validate [aPrg p] (.tup [I (validS p).1, I (validS p).2]) := by
 refine PCalls.of is_program_Validate (by simp) fun hb => runW_sound ?_
 have cL := program_limits_abs p
 conv in c_program_Validate => cbv
 by_cases hc : cntOk p
 ·rw [decide_eq_true (show _ ∧ _ from hc)] at cL
  have hl1 := hc.1
  have hl2 := hc.2.1
  have hl3 := hc.2.2.1
  have hl4 := hc.2.2.2.1
  have hl5 := hc.2.2.2.2
  have HC := Lib.hid hc
  clear hc
  repeat' first | simp (disch := omega) only [go_sem, *] | ((with_reducible refine condT ?_ ?_) <;> intro h <;> try omega) | (refine w_L cL rfl rfl ?_)
  clear cL
  refine AW_loop (fun k : Nat => ⟨[(29, I k), (28, I p.sizes.length), (27, .c (.pure (pStrs p.sizes))), (4, .c (.ptr 2 0)), (1, .c (.ptr 0 0))], mV p (kPut [] 1 (p.sizes.take k)), 3, 0⟩) (fun k => k ≤ p.sizes.length ∧ upTo (fun j => szE p j = 0) k) (fun k => p.sizes.length - k) ⟨0, [], ⟨by omega, .zero⟩, by simp [kPut, entsA, cl_nil]⟩ ?_
  rintro k ⟨hk, hall⟩
  refine runW_sound ?_
  by_cases hlt : k < p.sizes.length
  ·have hs := szE_at hlt
   by_cases hz : nameErr (p.sizes.take k) p.sizes[k] = 0
   ·have HA := Lib.hid (hall.succ (hs.trans hz))
    have hn := fun mem nx h2 h3 => program_checker_name_ok (mem := mem) (nx := nx) (c := 2) (m := 1) (p := p) h2 h3 (Kt_sizes (p.sizes.take k)) hz 1
    clear hall hs
    repeat' first | simp (disch := omega) only [go_sem, *, map_get hlt, wrap_i64, ← kPut_take hlt] | ((with_reducible refine condT ?_ ?_) <;> intro h <;> try omega) | (refine callW_i (hn _ _ rfl rfl) ?_)
    exact ⟨k + 1, [], ⟨by omega, HA.out⟩, by omega, by simp [ren_A, cl_A]⟩
   ·rw [validS_sz HC.out (szErr_at hlt hall hs hz) hz]
    have hn := fun mem nx h2 h3 => program_checker_name_err (mem := mem) (nx := nx) (c := 2) (m := 1) (p := p) h2 h3 (Kt_sizes (p.sizes.take k)) hz 1
    clear hall hs
    repeat' first | simp (disch := omega) only [go_sem, *, map_get hlt, wrap_i64, hz] | ((with_reducible refine condT ?_ ?_) <;> intro h <;> try omega) | (refine callW_i (hn _ _ rfl rfl) ?_)
  have HS : Hid (szErr p = 0) := szErr_ok fun j hj => hall j (by omega)
  have hkp : k = p.sizes.length := by omega
  subst hkp
  rw [List.take_length]
  clear hall
  repeat clear hlt
  repeat clear hk
  repeat' first | simp (disch := omega) only [go_sem, *] | ((with_reducible refine condT ?_ ?_) <;> intro h <;> try omega)
  refine AW_loop (fun k : Nat => ⟨[(43, I k), (42, I p.wher.length), (41, .c (.pure (pSl cP p.wher))), (4, .c (.ptr 2 0)), (1, .c (.ptr 0 0))], mV p (kPut [] 1 p.sizes), 3, 0⟩) (fun k => k ≤ p.wher.length ∧ Hid (fstE ((p.wher.map fun c => formErr p.sizes c.1).take k) = 0)) (fun k => p.wher.length - k) ⟨0, [], ⟨by omega, by show _ = _; simp [fstE]⟩, by simp [ren_A, cl_A]⟩ ?_
  rintro k ⟨hk, hall⟩
  refine runW_sound ?_
  by_cases hlt : k < p.wher.length
  ·have hlm : k < (p.wher.map fun c => formErr p.sizes c.1).length := by simpa using hlt
   have h4 := fstE_takeN hlm hall.out
   have h5 := fstE_hit hlm hall.out
   rw [List.getElem_map] at h4 h5
   have hkc : Kc p (kPut [] 1 p.sizes) := by rw [← KK_zero]; exact Kc_KK (by simp [Tp])
   have cC := program_checker_constraint_abs hkc p.wher[k]
   clear hall
   by_cases hz : formErr p.sizes p.wher[k].1 = 0
   ·have HN := Lib.hid (h4.trans hz)
    clear h4 h5
    repeat' first | simp (disch := omega) only [go_sem, *, map_get hlt, cP, wrap_i64, hz] | ((with_reducible refine condT ?_ ?_) <;> intro h <;> try omega) | (refine callW_of cC (pur_ck (c := 2) (m := 1) rfl rfl rfl) (.inl rfl) ?_)
    exact ⟨k + 1, [], ⟨by omega, HN⟩, by omega, by simp [ren_A, cl_A]⟩
   ·rw [validS_wh HC.out HS.out (h5 hz) hz]
    clear h4 h5
    repeat' first | simp (disch := omega) only [go_sem, *, map_get hlt, cP, wrap_i64, hz] | ((with_reducible refine condT ?_ ?_) <;> intro h <;> try omega) | (refine callW_of cC (pur_ck (c := 2) (m := 1) rfl rfl rfl) (.inl rfl) ?_)
  have hw : whErr p = 0 := by
   have hz := hall.out
   rw [List.take_of_length_le (by simp; omega)] at hz
   exact hz
  have HW := Lib.hid hw
  clear hall hw
  repeat' first | simp (disch := omega) only [go_sem, *] | ((with_reducible refine condT ?_ ?_) <;> intro h <;> try omega)
  repeat clear hlt
  repeat clear hk
  refine AW_loop (fun k : Nat => ⟨[(57, I k), (56, I p.params.length), (55, .c (.pure (pSl parP p.params))), (11, I ((2 : Int) + k)), (4, .c (.ptr 2 0)), (1, .c (.ptr 0 0))], mV p (KK p (Tp p k)), 3, 0⟩) (fun k => k ≤ p.params.length ∧ upTo (fun j => parE p j = 0) k ∧ Hid (∀ s ∈ Tp p k, ¬ s ∈ p.sizes)) (fun k => p.params.length - k) ⟨0, [], ⟨by omega, .zero, by intro s hs; simp [Tp] at hs⟩, by rw [KK_zero]; simp [ren_A, cl_A]⟩ ?_
  rintro k ⟨hk, hall, hap⟩
  refine runW_sound ?_
  by_cases hlt : k < p.params.length
  ·have hs := parE_at hlt
   have cP := program_checker_param_abs (Kt_KK p (Tp p k)) (Kc_KK hap.out) (fun x hx => List.mem_append_left _ hx) p.params[k]
   rw [← takenP_T] at cP
   by_cases hz : parErr p.sizes (takenP p k) p.params[k] = 0
   ·have HA := Lib.hid (hall.succ (hs.trans hz))
    have HP : Hid (∀ s ∈ Tp p (k + 1), ¬ s ∈ p.sizes) := by
     show ∀ s ∈ Tp p (k + 1), _
     rw [Tp_succ hlt]
     exact new_apart (parErr_name hz) hap.out
    rw [show kAdd (KK p (Tp p k)) (takenP p k) p.params[k].1 = KK p (Tp p (k + 1)) by rw [Tp_succ hlt, ← KK_add]; exact if_pos (parErr_name hz), hz] at cP
    clear hall hs hap hz
    repeat' first | simp (disch := omega) only [go_sem, *, map_get hlt, parP, wrap_i64] | ((with_reducible refine condT ?_ ?_) <;> intro h <;> try omega) | (refine callW_i cP ?_)
    exact ⟨k + 1, [], ⟨by omega, HA.out, HP⟩, by omega, by simp [ren_A, cl_A]; omega⟩
   ·rw [validS_par HC.out HS.out HW.out hlt hall hs hz]
    clear hall hs hap
    repeat' first | simp (disch := omega) only [go_sem, *, map_get hlt, parP, wrap_i64, hz] | ((with_reducible refine condT ?_ ?_) <;> intro h <;> try omega) | (refine callW_i cP ?_)
  have HP : Hid (∀ j, j < p.params.length → parE p j = 0) := fun j hj => hall j (by omega)
  have hkp : k = p.params.length := by omega
  subst hkp
  rw [← Td_zero] at hap ⊢
  have HT := Lib.hid hap
  clear hall hap
  repeat clear hlt
  repeat clear hk
  repeat' first | simp (disch := omega) only [go_sem, *] | ((with_reducible refine condT ?_ ?_) <;> intro h <;> try omega)
  refine AW_loop (fun k : Nat => ⟨[(74, I k), (73, I p.defs.length), (11, I ((2 : Int) + p.params.length + k)), (4, .c (.ptr 2 0)), (1, .c (.ptr 0 0))], mV p (KK p (Td p k)), 3, 0⟩) (fun k => k ≤ p.defs.length ∧ upTo (fun j => defE p j = 0) k ∧ Hid (∀ s ∈ Td p k, ¬ s ∈ p.sizes)) (fun k => p.defs.length - k) ⟨0, [], ⟨by omega, .zero, HT.out⟩, by simp [ren_A, cl_A]⟩ ?_
  clear HT
  rintro k ⟨hk, hall, hap⟩
  refine runW_sound ?_
  by_cases hlt : k < p.defs.length
  ·have hs := defE_at hlt
   have cP := program_checker_def_abs hf h64 (Kt_KK p (Td p k)) (Kc_KK hap.out) (fun x hx => List.mem_append_left _ hx) hlt
   rw [← takenD_T] at cP
   by_cases hz : defErr p k (takenD p k) p.defs[k] = 0
   ·have HA := Lib.hid (hall.succ (hs.trans hz))
    have HN : Hid (∀ s ∈ Td p (k + 1), ¬ s ∈ p.sizes) := by
     show ∀ s ∈ Td p (k + 1), _
     rw [Td_succ hlt]
     have := defErr_name hz
     rw [takenD_T] at this
     exact new_apart this hap.out
    rw [show kAdd (KK p (Td p k)) (takenD p k) p.defs[k].name = KK p (Td p (k + 1)) by rw [Td_succ hlt, ← KK_add]; exact if_pos (defErr_name hz), hz] at cP
    clear hall hs hap hz
    repeat' first | simp (disch := omega) only [go_sem, *, wrap_i64] | ((with_reducible refine condT ?_ ?_) <;> intro h <;> try omega) | (refine callW_i cP ?_)
    exact ⟨k + 1, [], ⟨by omega, HA.out, HN⟩, by omega, by simp [ren_A, cl_A]; omega⟩
   ·rw [validS_def HC.out HS.out HW.out HP.out hlt hall hs hz]
    clear hall hs hap
    repeat' first | simp (disch := omega) only [go_sem, *, wrap_i64, hz] | ((with_reducible refine condT ?_ ?_) <;> intro h <;> try omega) | (refine callW_i cP ?_)
  have HD : Hid (∀ j, j < p.defs.length → defE p j = 0) := fun j hj => hall j (by omega)
  have hkp : k = p.defs.length := by omega
  subst hkp
  clear hall hap
  repeat clear hlt
  repeat clear hk
  repeat' first | simp (disch := omega) only [go_sem, *] | ((with_reducible refine condT ?_ ?_) <;> intro h <;> try omega)
  refine AW_loop (fun k : Nat => ⟨[(90, I k), (89, I p.outs.length), (88, .c (.pure (pStrs p.outs))), (11, I ((2 : Int) + p.params.length + p.defs.length + k)), (4, .c (.ptr 2 0)), (1, .c (.ptr 0 0))], mV p (KK p (Td p p.defs.length)), 3, 0⟩) (fun k => k ≤ p.outs.length ∧ upTo (fun j => outE p j = 0) k) (fun k => p.outs.length - k) ⟨0, [], ⟨by omega, .zero⟩, by simp [ren_A, cl_A]⟩ ?_
  rintro k ⟨hk, hall⟩
  refine runW_sound ?_
  by_cases hlt : k < p.outs.length
  ·have hs := outE_at hlt
   have cB := slices_Contains_str_abs (p.outs.take k) p.outs[k]
   have hm := mlook_A p.outs[k] (KK p (Td p p.defs.length))
   have hg := kGet_KK p (Td p p.defs.length) p.outs[k]
   by_cases hn : findS p p.outs[k] = none
   ·rw [if_pos hn] at hs
    rw [validS_out HC.out HS.out HW.out HP.out HD.out hlt hall hs (by decide)]
    have h2 : ¬ kGet (KK p (Td p p.defs.length)) p.outs[k] = 2 := by
     rw [hg, if_neg (findS_out.1 hn)]
     split <;> decide
    clear hall hs hn hg
    cases hL : kLook (KK p (Td p p.defs.length)) p.outs[k] with
    | none =>
     rw [hL] at hm
     clear hL h2
     repeat' first | simp (disch := omega) only [go_sem, *, map_get hlt, wrap_i64, hm, Option.map_none] | ((with_reducible refine condT ?_ ?_) <;> intro h <;> try omega)
    | some j =>
     rw [kLook_get hL] at h2
     rw [hL] at hm
     clear hL
     repeat' first | simp (disch := omega) only [go_sem, *, map_get hlt, wrap_i64, hm, Option.map_some, h2] | ((with_reducible refine condT ?_ ?_) <;> intro h <;> try omega)
   ·rw [if_neg hn] at hs
    have h2 : kGet (KK p (Td p p.defs.length)) p.outs[k] = 2 := by
     rw [hg, if_pos (Classical.not_not.1 fun h => hn (findS_out.2 h))]
    cases hL : kLook (KK p (Td p p.defs.length)) p.outs[k] with
    | none => rw [kLook_none hL] at h2; exact absurd h2 (by decide)
    | some j =>
     rw [kLook_get hL] at h2
     rw [hL, h2] at hm
     clear hL h2 hn hg
     by_cases hmem : p.outs[k] ∈ p.outs.take k
     ·rw [if_pos hmem] at hs
      rw [validS_out HC.out HS.out HW.out HP.out HD.out hlt hall hs (by decide)]
      clear hall hs
      repeat' first | simp (disch := omega) only [go_sem, *, map_get hlt, wrap_i64, hm, Option.map_some, ← List.map_take, rowsStr, Option.getD_none, Option.getD_some, hmem, decide_true] | ((with_reducible refine condT ?_ ?_) <;> intro h <;> try omega) | (refine w_L cB rfl rfl ?_)
     ·rw [if_neg hmem] at hs
      have HA := Lib.hid (hall.succ hs)
      clear hall hs
      repeat' first | simp (disch := omega) only [go_sem, *, map_get hlt, wrap_i64, hm, Option.map_some, ← List.map_take, rowsStr, Option.getD_none, Option.getD_some, hmem, decide_false] | ((with_reducible refine condT ?_ ?_) <;> intro h <;> try omega) | (refine w_L cB rfl rfl ?_)
      exact ⟨k + 1, [], ⟨by omega, HA.out⟩, by omega, by simp [ren_A, cl_A]; omega⟩
  ·rw [validS_ok HC.out HS.out HW.out HP.out HD.out fun j hj => hall j (by omega)]
   clear hall
   repeat' first | simp (disch := omega) only [go_sem, *] | ((with_reducible refine condT ?_ ?_) <;> intro h <;> try omega)
 ·rw [decide_eq_false (show ¬ (_ ∧ _) from hc)] at cL
  rw [validS_cnt hc]
  repeat' first | simp (disch := omega) only [go_sem, *] | ((with_reducible refine condT ?_ ?_) <;> intro h <;> try omega) | (refine w_L cL rfl rfl ?_)
end Go.Proofs.YtbblkakcadonjaaGreatDoor
