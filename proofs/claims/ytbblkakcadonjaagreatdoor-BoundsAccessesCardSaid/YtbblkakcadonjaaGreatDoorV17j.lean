/- Walks: package program: the checker's parts. -/
import Derived.Test.YtbblkakcadonjaaGreatDoorV17i
import Derived.Test.YtbblkakcadonjaaGreatDoorV17e
import Derived.Test.YtbblkakcadonjaaGreatDoorVGrow
set_option linter.unusedVariables false
set_option linter.unusedSimpArgs false
set_option maxRecDepth 20000
set_option maxHeartbeats 4000000
set_option maxRecDepth 1000000
namespace Go.Proofs.YtbblkakcadonjaaGreatDoor
open Go.Abs Go.RowKit

def Kc (p : Prg) (K : KL) : Prop := ∀ s, kGet K s = 1 ↔ s ∈ p.sizes
theorem program_checker_sized_abs {p : Prg} {K : KL} (hK : Kc p K) (l : Lin) : PCalls Tryz.prog n_program_checker_sized [cTy p K, aLin l.1 l.2] (I (formErr p.sizes l)) := by
 refine PCalls.of is_program_checker_sized (by simp) fun hb => runW_sound ?_
 have hl := bnd_lin hb.2.1
 unfold formErr
 conv in c_program_checker_sized => cbv
 by_cases hok : linOk l.2
 ·rw [if_neg (not_not_intro hok)]
  have cV := lin_Validate_abs l.1 l.2
  rw [if_pos hok] at cV
  clear hok
  repeat' first | simp (disch := omega) only [go_sem, *] | ((with_reducible refine condT ?_ ?_) <;> intro h <;> try omega) | (refine w_L cV rfl rfl ?_)
  refine AW_loop (fun k : Nat => ⟨[(13, I k), (12, I l.2.length), (11, .c (.pure (pMonos l.2))), (0, cTy p K)], [], 0, 0⟩) (fun k => k ≤ l.2.length ∧ upTo (fun i => ∀ h : i < l.2.length, l.2[i].1 ∈ p.sizes) k) (fun k => l.2.length - k) ⟨0, [], ⟨by omega, .zero⟩, by simp⟩ ?_
  clear cV
  rintro k ⟨hk, hall⟩
  refine runW_sound ?_
  by_cases hlt : k < l.2.length
  ·have hm := mlook_A l.2[k].1 K
   rw [← entsOf_P] at hm
   have hkn := hK l.2[k].1
   have hno : ¬ l.2[k].1 ∈ p.sizes → ¬ knownL [] p.sizes l := fun h h2 => h ((h2 _ (List.getElem_mem hlt)).resolve_left (by simp))
   cases hL : kLook K l.2[k].1 with
   | none =>
    rw [hL] at hm
    rw [kLook_none hL] at hkn
    rw [if_pos (hno fun h => absurd (hkn.2 h) (by decide))]
    clear hL hkn hall hno
    repeat' first | simp (disch := omega) only [go_sem, *, map_get hlt, mP, wrap_i64, hm, Option.map_none] | ((with_reducible refine condT ?_ ?_) <;> intro h <;> try omega)
   | some j =>
    rw [hL] at hm
    rw [kLook_get hL] at hkn
    clear hL
    by_cases hj : j = 1
    ·have HA := Lib.hid (hall.succ fun _ => hkn.1 hj)
     clear hkn hall hno
     repeat' first | simp (disch := omega) only [go_sem, *, map_get hlt, mP, wrap_i64, hm, Option.map_some, hj] | ((with_reducible refine condT ?_ ?_) <;> intro h <;> try omega)
     exact ⟨k + 1, [], ⟨by omega, HA.out⟩, by omega, by simp⟩
    ·rw [if_pos (hno fun h => hj (hkn.2 h))]
     clear hkn hall hno
     repeat' first | simp (disch := omega) only [go_sem, *, map_get hlt, mP, wrap_i64, hm, Option.map_some, hj] | ((with_reducible refine condT ?_ ?_) <;> intro h <;> try omega)
  ·have hkn : knownL [] p.sizes l := fun m hm => by
    obtain ⟨i, hi, rfl⟩ := List.mem_iff_getElem.1 hm
    exact .inr (hall i (by omega) hi)
   rw [if_neg (not_not_intro hkn)]
   clear hall hkn
   repeat' first | simp (disch := omega) only [go_sem, *] | ((with_reducible refine condT ?_ ?_) <;> intro h <;> try omega)
 ·rw [if_pos hok]
  have cV := lin_Validate_abs l.1 l.2
  rw [if_neg hok] at cV
  clear hok
  repeat' first | simp (disch := omega) only [go_sem, *] | ((with_reducible refine condT ?_ ?_) <;> intro h <;> try omega) | (refine w_L cV rfl rfl ?_)
theorem program_checker_constraint_abs {p : Prg} {K : KL} (hK : Kc p K) (c : Con) : PCalls Tryz.prog n_program_checker_constraint [cTy p K, aCon c] (I (formErr p.sizes c.1)) := by
 refine PCalls.of is_program_checker_constraint (by simp) fun hb => runW_sound ?_
 have cV := constraint_Validate_abs c
 have cS := program_checker_sized_abs hK c.1
 conv in c_program_checker_constraint => cbv
 by_cases hok : linOk c.1.2
 ·rw [if_pos hok] at cV
  clear hok
  generalize formErr p.sizes c.1 = r at *
  repeat' first | simp (disch := omega) only [go_sem, *] | ((with_reducible refine condT ?_ ?_) <;> intro h <;> try omega) | (refine w_L cV rfl rfl ?_) | (refine w_L cS rfl rfl ?_)
 ·rw [if_neg hok] at cV
  rw [show formErr p.sizes c.1 = 1 from if_pos hok]
  clear hok
  repeat' first | simp (disch := omega) only [go_sem, *] | ((with_reducible refine condT ?_ ?_) <;> intro h <;> try omega) | (refine w_L cV rfl rfl ?_)
def entsT (o : List ByteArray) : List (MK × List AC) := o.map fun a => (MK.str a.data.toList, [.pure (pB true)])
theorem mlook_T (s : ByteArray) : ∀ o : List ByteArray, mlook (entsT o) (.str s.data.toList) = if s ∈ o then some [.pure (pB true)] else none
 | [] => rfl
 |a :: r => by
  have ih := mlook_T s r
  simp only [entsT, List.map_cons, mlook] at ih ⊢
  by_cases h : a = s
  ·rw [if_pos (key_eq.2 h), if_pos (by rw [h]; exact List.mem_cons_self)]
  ·rw [if_neg (fun e => h (key_eq.1 e)), ih]
   by_cases h2 : s ∈ r
   ·rw [if_pos h2, if_pos (List.mem_cons_of_mem _ h2)]
   ·rw [if_neg h2, if_neg]
    intro hm
    rcases List.mem_cons.1 hm with rfl | hm
    ·exact h rfl
    ·exact h2 hm
theorem mset_T (s : ByteArray) : ∀ o : List ByteArray, ¬ s ∈ o → mset (entsT o) (.str s.data.toList) [.pure (pB true)] = entsT (o ++ [s])
 | [], _ => rfl
 |a :: r, h => by
  have ih := mset_T s r fun hm => h (List.mem_cons_of_mem _ hm)
  simp only [entsT, List.map_cons, mset, List.cons_append] at ih ⊢
  rw [if_neg (fun e => h (by rw [← key_eq.1 e]; exact List.mem_cons_self)), ih]
theorem ren_T (rl : List (Nat × Nat)) : ∀ o : List ByteArray, List.map (fun x : MK × List AC => (x.1, List.map (renA rl) x.2)) (entsT o) = entsT o
 | [] => rfl
 |x :: r => by
  have ih := ren_T rl r
  simp only [entsT, List.map_cons] at ih ⊢
  rw [ih]
  rfl
theorem cl_T (N : Nat) : ∀ o : List ByteArray, clEs N (entsT o)
 | [] => trivial
 | x :: r => ⟨⟨trivial, trivial⟩, cl_T N r⟩
theorem nameErr_id {taken : List ByteArray} {s : ByteArray} (h : ¬ idOk s) : nameErr taken s = 7 := if_pos h
theorem nameErr_in {taken : List ByteArray} {s : ByteArray} (h : idOk s) (h2 : s ∈ taken) : nameErr taken s = 8 := by unfold nameErr; rw [if_neg (not_not_intro h), if_pos h2]
theorem nameErr_ok {taken : List ByteArray} {s : ByteArray} (h : idOk s) (h2 : ¬ s ∈ taken) : nameErr taken s = 0 := by unfold nameErr; rw [if_neg (not_not_intro h), if_neg h2]
set_option maxHeartbeats 1000000 in
theorem program_checker_axes_abs {p : Prg} {K : KL} (hK : Kc p K) (d : Dfn) (hd1 : d.dims.length ≤ 1000) (hd2 : d.red.length ≤ 1000) : PCalls Tryz.prog n_program_checker_axes [cTy p K, aDfn d] (I (axErrs p.sizes p.sizes (d.dims ++ d.red))) := by
 refine PCalls.of is_program_checker_axes (by simp) fun hb => runW_sound ?_
 have cC := Concat_abs d.dims d.red hd1 hd2
 have hlL : (d.dims ++ d.red).length ≤ 2000 := by simp; omega
 conv in c_program_checker_axes => cbv
 generalize d.dims ++ d.red = L at *
 repeat' first | simp (disch := omega) only [go_sem, *] | ((with_reducible refine condT ?_ ?_) <;> intro h <;> try omega) | (refine w_R cC rfl rfl ?_)
 refine AW_loop (fun k : Nat => ⟨[(17, I k), (16, I L.length), (15, aSl axP L), (5, .c (.mref 1)), (0, cTy p K)], [(1, .map .str none (entsT ((L.take k).map (·.1)))), (0, bDfn d)], 2, 0⟩) (fun k => k ≤ L.length ∧ Hid (axErrs p.sizes p.sizes (L.take k) = 0)) (fun k => L.length - k) ⟨0, [], ⟨by omega, by show _ = _; simp [axErrs]⟩, by simp [entsT, cl_nil]⟩ ?_
 clear cC hd1 hd2
 rintro k ⟨hk, hall⟩
 refine runW_sound ?_
 by_cases hlt : k < L.length
 ·have hn1 := fun h1 => axErrs_name (sizes := p.sizes) hlt hall.out h1
  have hn2 := fun h1 h2 => axErrs_form (sizes := p.sizes) hlt hall.out h1 h2
  have hn3 := fun h1 h2 => Lib.hid (axErrs_step (sizes := p.sizes) hlt hall.out h1 h2)
  have cS := program_checker_sized_abs hK L[k].2
  have hkn := hK L[k].1
  have hm := mlook_A L[k].1 K
  rw [← entsOf_P] at hm
  have hmo := mlook_T L[k].1 ((L.take k).map (·.1))
  have hso := mset_T L[k].1 ((L.take k).map (·.1))
  have htk : (L.take (k + 1)).map (·.1) = (L.take k).map (·.1) ++ [L[k].1] := by rw [List.take_succ_eq_append_getElem hlt, List.map_append]; rfl
  rw [← htk] at hso
  clear hall htk
  by_cases hi : idOk L[k].1
  ·by_cases ho : L[k].1 ∈ (L.take k).map (·.1)
   ·rw [if_pos ho] at hmo
    have hE := nameErr_in (taken := p.sizes ++ (L.take k).map (·.1)) hi (List.mem_append_right _ ho)
    rw [hn1 (by rw [hE]; decide), hE]
    clear hn1 hn2 hn3 hso hkn hm ho hE
    repeat' first | simp (disch := omega) only [go_sem, *, map_get hlt, axP, wrap_i64, hi, decide_true, hmo] | ((with_reducible refine condT ?_ ?_) <;> intro h <;> try omega) | (refine w_L (lexer_IsName_abs _) rfl rfl ?_)
   ·rw [if_neg ho] at hmo
    have hso := hso ho
    by_cases hs : L[k].1 ∈ p.sizes
    ·have hE := nameErr_in (taken := p.sizes ++ (L.take k).map (·.1)) hi (List.mem_append_left _ hs)
     have hg := hkn.2 hs
     rw [hn1 (by rw [hE]; decide), hE]
     cases hL : kLook K L[k].1 with
     | none =>
      rw [kLook_none hL] at hg
      exact absurd hg (by decide)
     | some j =>
      rw [kLook_get hL] at hg
      rw [hL, hg] at hm
      clear hn1 hn2 hn3 hso hkn ho hE hs hL hg
      repeat' first | simp (disch := omega) only [go_sem, *, map_get hlt, axP, wrap_i64, hi, decide_true, hmo, hm, Option.map_some] | ((with_reducible refine condT ?_ ?_) <;> intro h <;> try omega) | (refine w_L (lexer_IsName_abs _) rfl rfl ?_)
    ·have hE : nameErr (p.sizes ++ (L.take k).map (·.1)) L[k].1 = 0 := nameErr_ok hi fun h => (List.mem_append.1 h).elim hs ho
     have hg : ¬ kGet K L[k].1 = 1 := fun h => hs (hkn.1 h)
     have hcase : (mlook (entsOf (entsP K)) (.str L[k].1.data.toList) = none) ∨ ∃ j, mlook (entsOf (entsP K)) (.str L[k].1.data.toList) = some [.pure (pI j)] ∧ ¬ j = 1 := by
      rw [hm]
      cases hL : kLook K L[k].1 with
      | none => exact .inl rfl
      | some j => exact .inr ⟨j, rfl, fun h => hg ((kLook_get hL).trans h)⟩
     by_cases h2 : formErr p.sizes L[k].2 = 0
     ·have HN := hn3 hE h2
      rw [h2] at cS
      clear hn1 hn2 hn3 hkn ho hE hs hm hg h2
      rcases hcase with hm | ⟨j, hm, hj⟩
      ·repeat' first | simp (disch := omega) only [go_sem, *, map_get hlt, axP, wrap_i64, hi, decide_true, hmo, hm, hso] | ((with_reducible refine condT ?_ ?_) <;> intro h <;> try omega) | (refine w_L (lexer_IsName_abs _) rfl rfl ?_) | (refine w_L cS rfl rfl ?_)
       exact ⟨k + 1, [], ⟨by omega, HN⟩, by omega, by simp [ren_T, cl_T]⟩
      ·repeat' first | simp (disch := omega) only [go_sem, *, map_get hlt, axP, wrap_i64, hi, decide_true, hmo, hm, hso, hj] | ((with_reducible refine condT ?_ ?_) <;> intro h <;> try omega) | (refine w_L (lexer_IsName_abs _) rfl rfl ?_) | (refine w_L cS rfl rfl ?_)
       exact ⟨k + 1, [], ⟨by omega, HN⟩, by omega, by simp [ren_T, cl_T]⟩
     ·rw [hn2 hE h2]
      clear hn1 hn2 hn3 hkn ho hE hs hm hg
      rcases hcase with hm | ⟨j, hm, hj⟩
      ·repeat' first | simp (disch := omega) only [go_sem, *, map_get hlt, axP, wrap_i64, hi, decide_true, hmo, hm, hso, h2] | ((with_reducible refine condT ?_ ?_) <;> intro h <;> try omega) | (refine w_L (lexer_IsName_abs _) rfl rfl ?_) | (refine w_L cS rfl rfl ?_)
      ·repeat' first | simp (disch := omega) only [go_sem, *, map_get hlt, axP, wrap_i64, hi, decide_true, hmo, hm, hso, hj, h2] | ((with_reducible refine condT ?_ ?_) <;> intro h <;> try omega) | (refine w_L (lexer_IsName_abs _) rfl rfl ?_) | (refine w_L cS rfl rfl ?_)
  ·have hE := nameErr_id (taken := p.sizes ++ (L.take k).map (·.1)) hi
   rw [hn1 (by rw [hE]; decide), hE]
   clear hn1 hn2 hn3 hso hkn hm hE
   repeat' first | simp (disch := omega) only [go_sem, *, map_get hlt, axP, wrap_i64, hi, decide_false] | ((with_reducible refine condT ?_ ?_) <;> intro h <;> try omega) | (refine w_L (lexer_IsName_abs _) rfl rfl ?_)
 ·have hz := hall.out
  rw [List.take_of_length_le (by omega)] at hz
  rw [hz]
  clear hz hall
  repeat' first | simp (disch := omega) only [go_sem, *] | ((with_reducible refine condT ?_ ?_) <;> intro h <;> try omega)
end Go.Proofs.YtbblkakcadonjaaGreatDoor
