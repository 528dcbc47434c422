/- Walks: the reference's validity of programs. -/
import Derived.Test.YtbblkakcadonjaaGreatDoorV17d
import Derived.Test.YtbblkakcadonjaaGreatDoorP17
set_option linter.unusedVariables false
set_option linter.unusedSimpArgs false
set_option maxRecDepth 20000
set_option maxHeartbeats 4000000
set_option maxRecDepth 1000000
namespace Go.Proofs.YtbblkakcadonjaaGreatDoor
open Go.Abs Go.RowKit

theorem ref17_name_abs (s : ByteArray) (taken : List ByteArray) : PCalls Tryz.prog n_ref17_name [S s, .c (.pure (pStrs taken))] (I (nameErr taken s)) := by
 refine PCalls.of is_ref17_name (by simp) fun hb => runW_sound ?_
 conv in c_ref17_name => cbv
 repeat' first | simp (disch := omega) only [go_sem, *] | ((with_reducible refine condT ?_ ?_) <;> intro h <;> try omega) | (refine w_L (base_Name_abs _) rfl rfl ?_) | (refine w_L (base_Has_abs _ _) rfl rfl ?_)
 all_goals (refine IE ?_; unfold nameErr; grind)
theorem ref17_form_abs (l : Lin) (sizes : List ByteArray) : PCalls Tryz.prog n_ref17_form [aLin l.1 l.2, .c (.pure (pStrs sizes))] (I (formErr sizes l)) := by
 refine PCalls.of is_ref17_form (by simp) fun hb => runW_sound ?_
 conv in c_ref17_form => cbv
 repeat' first | simp (disch := omega) only [go_sem, *] | ((with_reducible refine condT ?_ ?_) <;> intro h <;> try omega) | (refine w_L (base_LinRight_abs _ _) rfl rfl ?_) | (refine w_L (ref17_known_abs l [] sizes) rfl rfl ?_)
 all_goals (refine IE ?_; unfold formErr; grind)
theorem ref17_param_abs (x : Param) (sizes taken : List ByteArray) : PCalls Tryz.prog n_ref17_param [aPar x, .c (.pure (pStrs sizes)), .c (.pure (pStrs taken))] (I (parErr sizes taken x)) := by
 refine PCalls.of is_ref17_param (by simp) fun hb => runW_sound ?_
 conv in c_ref17_param => cbv
 by_cases h1 : nameErr taken x.1 = 0
 ·by_cases h2 : tyOk x.2.1
  ·by_cases h3 : 6 < x.2.2.length
   ·have hR : parErr sizes taken x = 11 := by unfold parErr; rw [if_neg (not_not_intro h1), if_neg (not_not_intro h2), if_pos h3]
    rw [hR]
    have h3' : (x.2.2.length : Int) > 6 := by omega
    clear hR
    repeat' first | simp (disch := omega) only [go_sem, *, h1, h2, h3', decide_true] | ((with_reducible refine condT ?_ ?_) <;> intro h <;> try omega) | (refine w_L (ref17_name_abs _ _) rfl rfl ?_) | (refine w_L (base_Type_ty x.2.1) rfl rfl ?_)
   ·have hR : parErr sizes taken x = fstE (x.2.2.map (formErr sizes)) := by unfold parErr; rw [if_neg (not_not_intro h1), if_neg (not_not_intro h2), if_neg h3]
    rw [hR]
    have h3' : ¬ (x.2.2.length : Int) > 6 := by omega
    clear hR
    repeat' first | simp (disch := omega) only [go_sem, *, h1, h2, h3', decide_true] | ((with_reducible refine condT ?_ ?_) <;> intro h <;> try omega) | (refine w_L (ref17_name_abs _ _) rfl rfl ?_) | (refine w_L (base_Type_ty x.2.1) rfl rfl ?_)
    refine AW_loop (fun k : Nat => ⟨[(8, I k), (3, .c (.ptr 0 0)), (1, .c (.pure (pStrs sizes)))], [(0, bPar x)], 1, 0⟩) (fun k => k ≤ x.2.2.length ∧ Hid (fstE ((x.2.2.map (formErr sizes)).take k) = 0)) (fun k => x.2.2.length - k) ⟨0, [], ⟨by omega, by show _ = _; simp [fstE]⟩, by simp⟩ ?_
    clear h1 h2
    rintro k ⟨hk, hall⟩
    refine runW_sound ?_
    by_cases hlt : k < x.2.2.length
    ·have hlm : k < (x.2.2.map (formErr sizes)).length := by simpa using hlt
     have h4 := fstE_takeN hlm hall.out
     have h5 := fstE_hit hlm hall.out
     rw [List.getElem_map] at h4 h5
     clear hall
     by_cases hz : formErr sizes x.2.2[k] = 0
     ·have HN := Lib.hid (h4.trans hz)
      clear h4 h5
      repeat' first | simp (disch := omega) only [go_sem, *, map_get hlt, linP, wrap_i64, hz] | ((with_reducible refine condT ?_ ?_) <;> intro h <;> try omega) | (refine w_L (ref17_form_abs _ _) rfl rfl ?_)
      exact ⟨k + 1, [], ⟨by omega, HN⟩, by omega, by simp⟩
     ·rw [h5 hz]
      clear h4 h5
      repeat' first | simp (disch := omega) only [go_sem, *, map_get hlt, linP, wrap_i64, hz] | ((with_reducible refine condT ?_ ?_) <;> intro h <;> try omega) | (refine w_L (ref17_form_abs _ _) rfl rfl ?_)
    ·have hz := hall.out
     rw [List.take_of_length_le (by simp; omega)] at hz
     rw [hz]
     clear hz hall
     repeat' first | simp (disch := omega) only [go_sem, *] | ((with_reducible refine condT ?_ ?_) <;> intro h <;> try omega)
  ·have hR : parErr sizes taken x = 10 := by unfold parErr; rw [if_neg (not_not_intro h1), if_pos h2]
   rw [hR]
   clear hR
   repeat' first | simp (disch := omega) only [go_sem, *, h1, h2, decide_false] | ((with_reducible refine condT ?_ ?_) <;> intro h <;> try omega) | (refine w_L (ref17_name_abs _ _) rfl rfl ?_) | (refine w_L (base_Type_ty x.2.1) rfl rfl ?_)
 ·have hR : parErr sizes taken x = nameErr taken x.1 := by unfold parErr; rw [if_pos h1]
  rw [hR]
  clear hR
  repeat' first | simp (disch := omega) only [go_sem, *, h1] | ((with_reducible refine condT ?_ ?_) <;> intro h <;> try omega) | (refine w_L (ref17_name_abs _ _) rfl rfl ?_)
theorem axErrs_app (sizes : List ByteArray) : ∀ (l r : List Axis) (taken : List ByteArray), axErrs sizes taken (l ++ r) = if axErrs sizes taken l ≠ 0 then axErrs sizes taken l else axErrs sizes (taken ++ l.map (·.1)) r
 | [], r, taken => by simp [axErrs]
 |a :: l, r, taken => by
  have ih := axErrs_app sizes l r (taken ++ [a.1])
  simp only [List.cons_append, axErrs, List.map_cons]
  rw [ih, List.append_assoc, List.singleton_append]
  by_cases h1 : nameErr taken a.1 = 0
  ·by_cases h2 : formErr sizes a.2 = 0
   ·simp only [h1, h2, ne_eq, not_true_eq_false, if_false]
   ·simp only [h1, h2, ne_eq, not_true_eq_false, if_false, not_false_eq_true, if_true]
  ·simp only [h1, ne_eq, not_false_eq_true, if_true]
theorem axErrs_step {sizes : List ByteArray} {l : List Axis} {k : Nat} (h : k < l.length) (h0 : axErrs sizes sizes (l.take k) = 0) (h1 : nameErr (sizes ++ (l.take k).map (·.1)) l[k].1 = 0) (h2 : formErr sizes l[k].2 = 0) : axErrs sizes sizes (l.take (k + 1)) = 0 := by
 rw [List.take_succ_eq_append_getElem h, axErrs_app, if_neg (not_not_intro h0)]
 simp only [axErrs]
 rw [if_neg (not_not_intro h1), if_neg (not_not_intro h2)]
theorem axErrs_split {sizes : List ByteArray} {l : List Axis} {k : Nat} (h : k < l.length) (h0 : axErrs sizes sizes (l.take k) = 0) : axErrs sizes sizes l = axErrs sizes (sizes ++ (l.take k).map (·.1)) (l[k] :: l.drop (k + 1)) := by
 have := axErrs_app sizes (l.take k) (l[k] :: l.drop (k + 1)) sizes
 rw [← List.drop_eq_getElem_cons h, List.take_append_drop, if_neg (not_not_intro h0)] at this
 rw [this, List.drop_eq_getElem_cons h]
theorem axErrs_name {sizes : List ByteArray} {l : List Axis} {k : Nat} (h : k < l.length) (h0 : axErrs sizes sizes (l.take k) = 0) (h1 : nameErr (sizes ++ (l.take k).map (·.1)) l[k].1 ≠ 0) : axErrs sizes sizes l = nameErr (sizes ++ (l.take k).map (·.1)) l[k].1 := by
 rw [axErrs_split h h0, axErrs, if_pos h1]
theorem axErrs_form {sizes : List ByteArray} {l : List Axis} {k : Nat} (h : k < l.length) (h0 : axErrs sizes sizes (l.take k) = 0) (h1 : nameErr (sizes ++ (l.take k).map (·.1)) l[k].1 = 0) (h2 : formErr sizes l[k].2 ≠ 0) : axErrs sizes sizes l = formErr sizes l[k].2 := by
 rw [axErrs_split h h0, axErrs, if_neg (not_not_intro h1), if_pos h2]
abbrev tkSt (fr : List (Nat × AV)) (t : Nat) (mem : List (Nat × Box)) (nx : Nat) (l : List ByteArray) : St :=
 if l = [] then ⟨(t, .c (.tsl [])) :: fr, mem, nx, 0⟩ else ⟨(t, .c (.ref nx)) :: fr, (nx, .arr 9 1 (l.map fun s => [pS s])) :: mem, nx + 1, 0⟩
theorem tkSt_nil {fr : List (Nat × AV)} {t : Nat} {mem : List (Nat × Box)} {nx : Nat} : tkSt fr t mem nx [] = ⟨(t, .c (.tsl [])) :: fr, mem, nx, 0⟩ := if_pos rfl
theorem tkSt_cons {fr : List (Nat × AV)} {t : Nat} {mem : List (Nat × Box)} {nx : Nat} {l : List ByteArray} (h : l ≠ []) : tkSt fr t mem nx l = ⟨(t, .c (.ref nx)) :: fr, (nx, .arr 9 1 (l.map fun s => [pS s])) :: mem, nx + 1, 0⟩ := if_neg h
def tkA (sizes : List ByteArray) (l : List Axis) (k : Nat) : List ByteArray := sizes ++ (l.take k).map (·.1)
theorem tkA_succ {sizes : List ByteArray} {l : List Axis} {k : Nat} (h : k < l.length) : tkA sizes l (k + 1) = tkA sizes l k ++ [l[k].1] := by
 unfold tkA
 rw [List.take_succ_eq_append_getElem h, List.map_append, List.append_assoc]
 rfl
theorem tkA_len {sizes : List ByteArray} {l : List Axis} (k : Nat) (h : sizes.length ≤ 100) (hl : l.length ≤ 100) : (tkA sizes l k).length ≤ 200 := by
 unfold tkA
 simp
 omega
theorem tkA_zero {sizes : List ByteArray} {l : List Axis} : tkA sizes l 0 = sizes := by simp [tkA]
set_option maxHeartbeats 1000000 in
theorem ref17_axes_abs (l : List Axis) (sizes : List ByteArray) (hl : l.length ≤ 100) (hsz : sizes.length ≤ 100) : PCalls Tryz.prog n_ref17_axes [aSl axP l, .c (.pure (pStrs sizes))] (I (axErrs sizes sizes l)) := by
 refine PCalls.of is_ref17_axes (by simp) fun hb => runW_sound ?_
 conv in c_ref17_axes => cbv
 by_cases hne : sizes = []
 ·subst hne
  repeat' first | simp (disch := omega) only [go_sem, *] | ((with_reducible refine condT ?_ ?_) <;> intro h <;> try omega) | (refine app_tslN rowsOk_nil ?_)
  refine AW_loop (fun k : Nat => tkSt [(6, I k), (1, .c (.pure (pStrs []))), (0, aSl axP l)] 5 [] 0 (tkA [] l k)) (fun k => k ≤ l.length ∧ Hid (axErrs [] [] (l.take k) = 0)) (fun k => l.length - k) ⟨0, [], ⟨by omega, by show _ = _; simp [axErrs]⟩, by rw [tkA_zero, tkSt_nil]; simp⟩ ?_
  rintro k ⟨hk, hall⟩
  refine runW_sound ?_
  by_cases hlt : k < l.length
  ·have hn1 := fun h1 => axErrs_name (sizes := []) hlt hall.out h1
   have hn2 := fun h1 h2 => axErrs_form (sizes := []) hlt hall.out h1 h2
   have hn3 := fun h1 h2 => Lib.hid (axErrs_step (sizes := []) hlt hall.out h1 h2)
   rw [show [] ++ (l.take k).map (·.1) = tkA [] l k from rfl] at hn1 hn2 hn3
   have hlen := tkA_len (sizes := []) k hsz hl
   have htk := tkA_succ (sizes := []) hlt
   have hne1 : tkA [] l (k + 1) ≠ [] := by rw [htk]; simp
   have hn4 : nameErr (tkA [] l k) l[k].1 = 0 → formErr [] l[k].2 = 0 → ∃ t' : Nat, (t' ≤ l.length ∧ Hid (axErrs [] [] (l.take t') = 0)) ∧ l.length - t' < l.length - k ∧ t' = k + 1 := fun h1 h2 => ⟨k + 1, ⟨by omega, hn3 h1 h2⟩, by omega, rfl⟩
   clear hall hn3
   by_cases h1 : nameErr (tkA [] l k) l[k].1 = 0
   ·by_cases h2 : formErr [] l[k].2 = 0
    ·obtain ⟨k', hI, hlt', hk'⟩ := hn4 h1 h2
     clear hn1 hn2 hn4
     by_cases htn : tkA [] l k = []
     ·have hw : ([[pS l[k].1]] : List (List PC)) = (tkA [] l k').map fun s => [pS s] := by rw [hk', htk, htn]; rfl
      have HW := Lib.hid hw
      have HK := Lib.hid hk'
      have h1' := h1
      rw [htn] at h1' ⊢
      clear hw hk' htk htn h1
      rw [tkSt_nil]
      repeat' first | simp (disch := omega) only [go_sem, *, map_get hlt, axP, wrap_i64, h1', h2] | ((with_reducible refine condT ?_ ?_) <;> intro h <;> try omega) | (refine w_L (ref17_name_abs _ []) rfl rfl ?_) | (refine w_L (ref17_form_abs _ _) rfl rfl ?_) | (refine app_tsl rowsOk_nil (rowsOk_one rfl) (by simp) (by simp) (by simp) ?_)
      refine ⟨k', [], hI, hlt', ?_⟩
      rw [tkSt_cons (by rw [HK.out]; exact hne1), HW.out, show (k : Int) + 1 = (k' : Nat) by rw [HK.out]; omega]
      simp
     ·have hw : (tkA [] l k).map (fun s => [pS s]) ++ [[pS l[k].1]] = (tkA [] l k').map fun s => [pS s] := by rw [hk', htk, List.map_append]; rfl
      have HW := Lib.hid hw
      have HK := Lib.hid hk'
      rw [tkSt_cons htn]
      clear hw hk' htk htn
      repeat' first | simp (disch := omega) only [go_sem, *, map_get hlt, axP, wrap_i64, h1, h2] | ((with_reducible refine condT ?_ ?_) <;> intro h <;> try omega) | (refine w_L (ref17_name_abs _ _) rfl rfl ?_) | (refine w_L (ref17_form_abs _ _) rfl rfl ?_) | (refine app_own rfl (by intro h; cases h) (rowsOk_one rfl) (by simp; omega) (by simp; omega) ?_)
      refine ⟨k', [(0, 1)], hI, hlt', ?_⟩
      rw [tkSt_cons (by rw [HK.out]; exact hne1), HW.out, show (k : Int) + 1 = (k' : Nat) by rw [HK.out]; omega]
      simp
    ·rw [hn2 h1 h2]
     clear hn1 hn2 hn4 htk hne1
     by_cases htn : tkA [] l k = []
     ·rw [htn] at h1 ⊢
      clear htn
      rw [tkSt_nil]
      repeat' first | simp (disch := omega) only [go_sem, *, map_get hlt, axP, wrap_i64, h1, h2] | ((with_reducible refine condT ?_ ?_) <;> intro h <;> try omega) | (refine w_L (ref17_name_abs _ []) rfl rfl ?_) | (refine w_L (ref17_form_abs _ _) rfl rfl ?_)
     ·rw [tkSt_cons htn]
      clear htn
      repeat' first | simp (disch := omega) only [go_sem, *, map_get hlt, axP, wrap_i64, h1, h2] | ((with_reducible refine condT ?_ ?_) <;> intro h <;> try omega) | (refine w_L (ref17_name_abs _ _) rfl rfl ?_) | (refine w_L (ref17_form_abs _ _) rfl rfl ?_)
   ·rw [hn1 h1]
    clear hn1 hn2 hn4 htk hne1
    by_cases htn : tkA [] l k = []
    ·rw [htn] at h1 ⊢
     clear htn
     rw [tkSt_nil]
     repeat' first | simp (disch := omega) only [go_sem, *, map_get hlt, axP, wrap_i64, h1] | ((with_reducible refine condT ?_ ?_) <;> intro h <;> try omega) | (refine w_L (ref17_name_abs _ []) rfl rfl ?_)
    ·rw [tkSt_cons htn]
     clear htn
     repeat' first | simp (disch := omega) only [go_sem, *, map_get hlt, axP, wrap_i64, h1] | ((with_reducible refine condT ?_ ?_) <;> intro h <;> try omega) | (refine w_L (ref17_name_abs _ _) rfl rfl ?_)
  ·have hz := hall.out
   rw [List.take_of_length_le (by omega)] at hz
   rw [hz]
   clear hz hall
   by_cases htn : tkA [] l k = []
   ·rw [htn, tkSt_nil]
    clear htn
    repeat' first | simp (disch := omega) only [go_sem, *] | ((with_reducible refine condT ?_ ?_) <;> intro h <;> try omega)
   ·rw [tkSt_cons htn]
    clear htn
    repeat' first | simp (disch := omega) only [go_sem, *] | ((with_reducible refine condT ?_ ?_) <;> intro h <;> try omega)
 ·repeat' first | simp (disch := omega) only [go_sem, *] | ((with_reducible refine condT ?_ ?_) <;> intro h <;> try omega) | (refine app_tsl rowsOk_nil (rowsOk_map fun x => rfl) (by simpa using hne) (by simp; omega) (by simp; omega) ?_)
  refine AW_loop (fun k : Nat => tkSt [(6, I k), (1, .c (.pure (pStrs sizes))), (0, aSl axP l)] 5 [] 0 (tkA sizes l k)) (fun k => k ≤ l.length ∧ Hid (axErrs sizes sizes (l.take k) = 0)) (fun k => l.length - k) ⟨0, [], ⟨by omega, by show _ = _; simp [axErrs]⟩, by rw [tkA_zero, tkSt_cons hne]; simp⟩ ?_
  rintro k ⟨hk, hall⟩
  refine runW_sound ?_
  by_cases hlt : k < l.length
  ·have hn1 := fun h1 => axErrs_name (sizes := sizes) hlt hall.out h1
   have hn2 := fun h1 h2 => axErrs_form (sizes := sizes) hlt hall.out h1 h2
   have hn3 := fun h1 h2 => Lib.hid (axErrs_step (sizes := sizes) hlt hall.out h1 h2)
   rw [show sizes ++ (l.take k).map (·.1) = tkA sizes l k from rfl] at hn1 hn2 hn3
   have hlen := tkA_len (sizes := sizes) k hsz hl
   have htk := tkA_succ (sizes := sizes) hlt
   have hne1 : tkA sizes l (k + 1) ≠ [] := by rw [htk]; simp
   have hn4 : nameErr (tkA sizes l k) l[k].1 = 0 → formErr sizes l[k].2 = 0 → ∃ t' : Nat, (t' ≤ l.length ∧ Hid (axErrs sizes sizes (l.take t') = 0)) ∧ l.length - t' < l.length - k ∧ t' = k + 1 := fun h1 h2 => ⟨k + 1, ⟨by omega, hn3 h1 h2⟩, by omega, rfl⟩
   clear hall hn3
   by_cases h1 : nameErr (tkA sizes l k) l[k].1 = 0
   ·by_cases h2 : formErr sizes l[k].2 = 0
    ·obtain ⟨k', hI, hlt', hk'⟩ := hn4 h1 h2
     clear hn1 hn2 hn4
     by_cases htn : tkA sizes l k = []
     ·have hw : ([[pS l[k].1]] : List (List PC)) = (tkA sizes l k').map fun s => [pS s] := by rw [hk', htk, htn]; rfl
      have HW := Lib.hid hw
      have HK := Lib.hid hk'
      have h1' := h1
      rw [htn] at h1' ⊢
      clear hw hk' htk htn h1
      rw [tkSt_nil]
      repeat' first | simp (disch := omega) only [go_sem, *, map_get hlt, axP, wrap_i64, h1', h2] | ((with_reducible refine condT ?_ ?_) <;> intro h <;> try omega) | (refine w_L (ref17_name_abs _ []) rfl rfl ?_) | (refine w_L (ref17_form_abs _ _) rfl rfl ?_) | (refine app_tsl rowsOk_nil (rowsOk_one rfl) (by simp) (by simp) (by simp) ?_)
      refine ⟨k', [], hI, hlt', ?_⟩
      rw [tkSt_cons (by rw [HK.out]; exact hne1), HW.out, show (k : Int) + 1 = (k' : Nat) by rw [HK.out]; omega]
      simp
     ·have hw : (tkA sizes l k).map (fun s => [pS s]) ++ [[pS l[k].1]] = (tkA sizes l k').map fun s => [pS s] := by rw [hk', htk, List.map_append]; rfl
      have HW := Lib.hid hw
      have HK := Lib.hid hk'
      rw [tkSt_cons htn]
      clear hw hk' htk htn
      repeat' first | simp (disch := omega) only [go_sem, *, map_get hlt, axP, wrap_i64, h1, h2] | ((with_reducible refine condT ?_ ?_) <;> intro h <;> try omega) | (refine w_L (ref17_name_abs _ _) rfl rfl ?_) | (refine w_L (ref17_form_abs _ _) rfl rfl ?_) | (refine app_own rfl (by intro h; cases h) (rowsOk_one rfl) (by simp; omega) (by simp; omega) ?_)
      refine ⟨k', [(0, 1)], hI, hlt', ?_⟩
      rw [tkSt_cons (by rw [HK.out]; exact hne1), HW.out, show (k : Int) + 1 = (k' : Nat) by rw [HK.out]; omega]
      simp
    ·rw [hn2 h1 h2]
     clear hn1 hn2 hn4 htk hne1
     by_cases htn : tkA sizes l k = []
     ·rw [htn] at h1 ⊢
      clear htn
      rw [tkSt_nil]
      repeat' first | simp (disch := omega) only [go_sem, *, map_get hlt, axP, wrap_i64, h1, h2] | ((with_reducible refine condT ?_ ?_) <;> intro h <;> try omega) | (refine w_L (ref17_name_abs _ []) rfl rfl ?_) | (refine w_L (ref17_form_abs _ _) rfl rfl ?_)
     ·rw [tkSt_cons htn]
      clear htn
      repeat' first | simp (disch := omega) only [go_sem, *, map_get hlt, axP, wrap_i64, h1, h2] | ((with_reducible refine condT ?_ ?_) <;> intro h <;> try omega) | (refine w_L (ref17_name_abs _ _) rfl rfl ?_) | (refine w_L (ref17_form_abs _ _) rfl rfl ?_)
   ·rw [hn1 h1]
    clear hn1 hn2 hn4 htk hne1
    by_cases htn : tkA sizes l k = []
    ·rw [htn] at h1 ⊢
     clear htn
     rw [tkSt_nil]
     repeat' first | simp (disch := omega) only [go_sem, *, map_get hlt, axP, wrap_i64, h1] | ((with_reducible refine condT ?_ ?_) <;> intro h <;> try omega) | (refine w_L (ref17_name_abs _ []) rfl rfl ?_)
    ·rw [tkSt_cons htn]
     clear htn
     repeat' first | simp (disch := omega) only [go_sem, *, map_get hlt, axP, wrap_i64, h1] | ((with_reducible refine condT ?_ ?_) <;> intro h <;> try omega) | (refine w_L (ref17_name_abs _ _) rfl rfl ?_)
  ·have hz := hall.out
   rw [List.take_of_length_le (by omega)] at hz
   rw [hz]
   clear hz hall
   by_cases htn : tkA sizes l k = []
   ·rw [htn, tkSt_nil]
    clear htn
    repeat' first | simp (disch := omega) only [go_sem, *] | ((with_reducible refine condT ?_ ?_) <;> intro h <;> try omega)
   ·rw [tkSt_cons htn]
    clear htn
    repeat' first | simp (disch := omega) only [go_sem, *] | ((with_reducible refine condT ?_ ?_) <;> intro h <;> try omega)
end Go.Proofs.YtbblkakcadonjaaGreatDoor
