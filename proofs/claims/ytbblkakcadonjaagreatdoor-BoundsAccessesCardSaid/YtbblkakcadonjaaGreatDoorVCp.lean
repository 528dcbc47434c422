/- Walks: slices.Clone. -/
import Derived.Test.YtbblkakcadonjaaGreatDoorP17
import Derived.Test.YtbblkakcadonjaaGreatDoorLift
set_option linter.unusedVariables false
set_option linter.unusedSimpArgs false
set_option maxRecDepth 20000
set_option maxHeartbeats 4000000
set_option maxRecDepth 1000000
namespace Go.Proofs.YtbblkakcadonjaaGreatDoor
open Go.Abs Go.RowKit

theorem Cl_mono_nil (mem : List (Nat × Box)) (nx : Nat) : ICalls Tryz.prog n_slices_Clone_api_Mono_api_Mono [aSl mP []] mem nx (.c (.tsl [])) mem nx := by
 refine ICalls.of is_slices_Clone_api_Mono_api_Mono (by simp) fun _ => ?_
 conv in c_slices_Clone_api_Mono_api_Mono => cbv
 refine AW_seq (runW_sound ?_)
 repeat' first | simp (disch := omega) only [go_sem, *] | ((with_reducible refine condT ?_ ?_) <;> intro h <;> try omega)
 refine AW_seq (AW_seq (runW_sound ?_))
 repeat' first | simp (disch := omega) only [go_sem, *] | ((with_reducible refine condT ?_ ?_) <;> intro h <;> try omega) | (with_reducible refine bothW_intro ?_ ?_) | (with_reducible refine nilW_intro (fun h => ?_) ?_)
 ·refine AW_cond (t := true) rfl (fun _ => ?_) (fun e => by cases e)
  refine AW_seq (runW_sound ?_)
  repeat' first | simp (disch := omega) only [go_sem, *] | ((with_reducible refine condT ?_ ?_) <;> intro h <;> try omega)
  refine AW_nilT 2 rfl (AW_ret ?_)
  repeat' first | simp (disch := omega) only [go_sem, *, retI] | ((with_reducible refine condT ?_ ?_) <;> intro h <;> try omega)
  all_goals rfl
 ·refine AW_cond (t := false) rfl (fun e => by cases e) (fun _ => AW_skip ?_)
  change AW _ _ _ _ _
  refine AW_seq (runW_sound ?_)
  repeat' first | simp (disch := omega) only [go_sem, *] | ((with_reducible refine condT ?_ ?_) <;> intro h <;> try omega) | (refine app_tslN (by intro r hr; cases hr) ?_)
  refine AW_ret ?_
  repeat' first | simp (disch := omega) only [go_sem, *, retI] | ((with_reducible refine condT ?_ ?_) <;> intro h <;> try omega)
  all_goals rfl
theorem Cl_mono_cons (mem : List (Nat × Box)) (nx : Nat) (x : Mono) (l : List Mono) (hl : l.length + 1 ≤ 100000000) : ICalls Tryz.prog n_slices_Clone_api_Mono_api_Mono [aSl mP (x :: l)] mem nx (.c (.ref nx)) ((nx, .arr 83 2 ((x :: l).map mP)) :: mem) (nx + 1) := by
 refine ICalls.of is_slices_Clone_api_Mono_api_Mono (by simp) fun _ => runW_sound ?_
 conv in c_slices_Clone_api_Mono_api_Mono => cbv
 have hok : rowsOk 2 ((x :: l).map mP) := by
  intro r hr
  obtain ⟨y, _, rfl⟩ := List.mem_map.1 hr
  exact rfl
 repeat' first | simp (disch := omega) only [go_sem, *] | ((with_reducible refine condT ?_ ?_) <;> intro h <;> try omega) | (with_reducible refine bothW_intro ?_ ?_) | (with_reducible refine nilW_intro (fun h => ?_) ?_) | (refine app_tsl (by intro r hr; cases hr) hok (by simp) (by simp; omega) (by simp; omega) ?_)
 all_goals first | rfl | (exfalso; have := h (mP x) List.mem_cons_self; cases this) | (exfalso; have := h (Ex.row x) List.mem_cons_self; rw [Ex.row_eq] at this; cases this)
theorem Cl_lin_nil (mem : List (Nat × Box)) (nx : Nat) : ICalls Tryz.prog n_slices_Clone_api_Lin_api_Lin [aSl linP []] mem nx (.c (.tsl [])) mem nx := by
 refine ICalls.of is_slices_Clone_api_Lin_api_Lin (by simp) fun _ => ?_
 conv in c_slices_Clone_api_Lin_api_Lin => cbv
 refine AW_seq (runW_sound ?_)
 repeat' first | simp (disch := omega) only [go_sem, *] | ((with_reducible refine condT ?_ ?_) <;> intro h <;> try omega)
 refine AW_seq (AW_seq (runW_sound ?_))
 repeat' first | simp (disch := omega) only [go_sem, *] | ((with_reducible refine condT ?_ ?_) <;> intro h <;> try omega) | (with_reducible refine bothW_intro ?_ ?_) | (with_reducible refine nilW_intro (fun h => ?_) ?_)
 ·refine AW_cond (t := true) rfl (fun _ => ?_) (fun e => by cases e)
  refine AW_seq (runW_sound ?_)
  repeat' first | simp (disch := omega) only [go_sem, *] | ((with_reducible refine condT ?_ ?_) <;> intro h <;> try omega)
  refine AW_nilT 2 rfl (AW_ret ?_)
  repeat' first | simp (disch := omega) only [go_sem, *, retI] | ((with_reducible refine condT ?_ ?_) <;> intro h <;> try omega)
  all_goals rfl
 ·refine AW_cond (t := false) rfl (fun e => by cases e) (fun _ => AW_skip ?_)
  change AW _ _ _ _ _
  refine AW_seq (runW_sound ?_)
  repeat' first | simp (disch := omega) only [go_sem, *] | ((with_reducible refine condT ?_ ?_) <;> intro h <;> try omega) | (refine app_tslN (by intro r hr; cases hr) ?_)
  refine AW_ret ?_
  repeat' first | simp (disch := omega) only [go_sem, *, retI] | ((with_reducible refine condT ?_ ?_) <;> intro h <;> try omega)
  all_goals rfl
theorem Cl_lin_cons (mem : List (Nat × Box)) (nx : Nat) (x : Lin) (l : List Lin) (hl : l.length + 1 ≤ 100000000) : ICalls Tryz.prog n_slices_Clone_api_Lin_api_Lin [aSl linP (x :: l)] mem nx (.c (.ref nx)) ((nx, .arr 35 2 ((x :: l).map linP)) :: mem) (nx + 1) := by
 refine ICalls.of is_slices_Clone_api_Lin_api_Lin (by simp) fun _ => runW_sound ?_
 conv in c_slices_Clone_api_Lin_api_Lin => cbv
 have hok : rowsOk 2 ((x :: l).map linP) := by
  intro r hr
  obtain ⟨y, _, rfl⟩ := List.mem_map.1 hr
  exact rfl
 repeat' first | simp (disch := omega) only [go_sem, *] | ((with_reducible refine condT ?_ ?_) <;> intro h <;> try omega) | (with_reducible refine bothW_intro ?_ ?_) | (with_reducible refine nilW_intro (fun h => ?_) ?_) | (refine app_tsl (by intro r hr; cases hr) hok (by simp) (by simp; omega) (by simp; omega) ?_)
 all_goals first | rfl | (exfalso; have := h (linP x) List.mem_cons_self; cases this) | (exfalso; have := h (Ex.row x) List.mem_cons_self; rw [Ex.row_eq] at this; cases this)
theorem Cl_ix_nil (mem : List (Nat × Box)) (nx : Nat) : ICalls Tryz.prog n_slices_Clone_api_Index_api_Index [aSl ixP []] mem nx (.c (.tsl [])) mem nx := by
 refine ICalls.of is_slices_Clone_api_Index_api_Index (by simp) fun _ => ?_
 conv in c_slices_Clone_api_Index_api_Index => cbv
 refine AW_seq (runW_sound ?_)
 repeat' first | simp (disch := omega) only [go_sem, *] | ((with_reducible refine condT ?_ ?_) <;> intro h <;> try omega)
 refine AW_seq (AW_seq (runW_sound ?_))
 repeat' first | simp (disch := omega) only [go_sem, *] | ((with_reducible refine condT ?_ ?_) <;> intro h <;> try omega) | (with_reducible refine bothW_intro ?_ ?_) | (with_reducible refine nilW_intro (fun h => ?_) ?_)
 ·refine AW_cond (t := true) rfl (fun _ => ?_) (fun e => by cases e)
  refine AW_seq (runW_sound ?_)
  repeat' first | simp (disch := omega) only [go_sem, *] | ((with_reducible refine condT ?_ ?_) <;> intro h <;> try omega)
  refine AW_nilT 2 rfl (AW_ret ?_)
  repeat' first | simp (disch := omega) only [go_sem, *, retI] | ((with_reducible refine condT ?_ ?_) <;> intro h <;> try omega)
  all_goals rfl
 ·refine AW_cond (t := false) rfl (fun e => by cases e) (fun _ => AW_skip ?_)
  change AW _ _ _ _ _
  refine AW_seq (runW_sound ?_)
  repeat' first | simp (disch := omega) only [go_sem, *] | ((with_reducible refine condT ?_ ?_) <;> intro h <;> try omega) | (refine app_tslN (by intro r hr; cases hr) ?_)
  refine AW_ret ?_
  repeat' first | simp (disch := omega) only [go_sem, *, retI] | ((with_reducible refine condT ?_ ?_) <;> intro h <;> try omega)
  all_goals rfl
theorem Cl_ix_cons (mem : List (Nat × Box)) (nx : Nat) (x : Ix) (l : List Ix) (hl : l.length + 1 ≤ 100000000) : ICalls Tryz.prog n_slices_Clone_api_Index_api_Index [aSl ixP (x :: l)] mem nx (.c (.ref nx)) ((nx, .arr 85 4 ((x :: l).map ixP)) :: mem) (nx + 1) := by
 refine ICalls.of is_slices_Clone_api_Index_api_Index (by simp) fun _ => runW_sound ?_
 conv in c_slices_Clone_api_Index_api_Index => cbv
 have hok : rowsOk 4 ((x :: l).map ixP) := by
  intro r hr
  obtain ⟨y, _, rfl⟩ := List.mem_map.1 hr
  exact rfl
 repeat' first | simp (disch := omega) only [go_sem, *] | ((with_reducible refine condT ?_ ?_) <;> intro h <;> try omega) | (with_reducible refine bothW_intro ?_ ?_) | (with_reducible refine nilW_intro (fun h => ?_) ?_) | (refine app_tsl (by intro r hr; cases hr) hok (by simp) (by simp; omega) (by simp; omega) ?_)
 all_goals first | rfl | (exfalso; have := h (ixP x) List.mem_cons_self; cases this) | (exfalso; have := h (Ex.row x) List.mem_cons_self; rw [Ex.row_eq] at this; cases this)
theorem Cl_ex_nil (mem : List (Nat × Box)) (nx : Nat) : ICalls Tryz.prog n_slices_Clone_api_Expr_api_Expr [aSl Ex.row []] mem nx (.c (.tsl [])) mem nx := by
 refine ICalls.of is_slices_Clone_api_Expr_api_Expr (by simp) fun _ => ?_
 conv in c_slices_Clone_api_Expr_api_Expr => cbv
 refine AW_seq (runW_sound ?_)
 repeat' first | simp (disch := omega) only [go_sem, *] | ((with_reducible refine condT ?_ ?_) <;> intro h <;> try omega)
 refine AW_seq (AW_seq (runW_sound ?_))
 repeat' first | simp (disch := omega) only [go_sem, *] | ((with_reducible refine condT ?_ ?_) <;> intro h <;> try omega) | (with_reducible refine bothW_intro ?_ ?_) | (with_reducible refine nilW_intro (fun h => ?_) ?_)
 ·refine AW_cond (t := true) rfl (fun _ => ?_) (fun e => by cases e)
  refine AW_seq (runW_sound ?_)
  repeat' first | simp (disch := omega) only [go_sem, *] | ((with_reducible refine condT ?_ ?_) <;> intro h <;> try omega)
  refine AW_nilT 2 rfl (AW_ret ?_)
  repeat' first | simp (disch := omega) only [go_sem, *, retI] | ((with_reducible refine condT ?_ ?_) <;> intro h <;> try omega)
  all_goals rfl
 ·refine AW_cond (t := false) rfl (fun e => by cases e) (fun _ => AW_skip ?_)
  change AW _ _ _ _ _
  refine AW_seq (runW_sound ?_)
  repeat' first | simp (disch := omega) only [go_sem, *] | ((with_reducible refine condT ?_ ?_) <;> intro h <;> try omega) | (refine app_tslN (by intro r hr; cases hr) ?_)
  refine AW_ret ?_
  repeat' first | simp (disch := omega) only [go_sem, *, retI] | ((with_reducible refine condT ?_ ?_) <;> intro h <;> try omega)
  all_goals rfl
theorem Cl_ex_cons (mem : List (Nat × Box)) (nx : Nat) (x : Ex) (l : List Ex) (hl : l.length + 1 ≤ 100000000) : ICalls Tryz.prog n_slices_Clone_api_Expr_api_Expr [aSl Ex.row (x :: l)] mem nx (.c (.ref nx)) ((nx, .arr 70 13 ((x :: l).map Ex.row)) :: mem) (nx + 1) := by
 refine ICalls.of is_slices_Clone_api_Expr_api_Expr (by simp) fun _ => runW_sound ?_
 conv in c_slices_Clone_api_Expr_api_Expr => cbv
 have hok : rowsOk 13 ((x :: l).map Ex.row) := by
  intro r hr
  obtain ⟨y, _, rfl⟩ := List.mem_map.1 hr
  exact Ex.row_eq y ▸ rfl
 repeat' first | simp (disch := omega) only [go_sem, *] | ((with_reducible refine condT ?_ ?_) <;> intro h <;> try omega) | (with_reducible refine bothW_intro ?_ ?_) | (with_reducible refine nilW_intro (fun h => ?_) ?_) | (refine app_tsl (by intro r hr; cases hr) hok (by simp) (by simp; omega) (by simp; omega) ?_)
 all_goals first | rfl | (exfalso; have := h (Ex.row x) List.mem_cons_self; cases this) | (exfalso; have := h (Ex.row x) List.mem_cons_self; rw [Ex.row_eq] at this; cases this)
theorem Cl_mono_ne (mem : List (Nat × Box)) (nx : Nat) (l : List Mono) (h : l ≠ []) (hl : l.length ≤ 100000000) : ICalls Tryz.prog n_slices_Clone_api_Mono_api_Mono [aSl mP l] mem nx (.c (.ref nx)) ((nx, .arr 83 2 (l.map mP)) :: mem) (nx + 1) := by
 cases l with
 | nil => exact absurd rfl h
 | cons x l => exact Cl_mono_cons mem nx x l (by simpa using hl)
theorem Cl_lin_ne (mem : List (Nat × Box)) (nx : Nat) (l : List Lin) (h : l ≠ []) (hl : l.length ≤ 100000000) : ICalls Tryz.prog n_slices_Clone_api_Lin_api_Lin [aSl linP l] mem nx (.c (.ref nx)) ((nx, .arr 35 2 (l.map linP)) :: mem) (nx + 1) := by
 cases l with
 | nil => exact absurd rfl h
 | cons x l => exact Cl_lin_cons mem nx x l (by simpa using hl)
theorem Cl_ix_ne (mem : List (Nat × Box)) (nx : Nat) (l : List Ix) (h : l ≠ []) (hl : l.length ≤ 100000000) : ICalls Tryz.prog n_slices_Clone_api_Index_api_Index [aSl ixP l] mem nx (.c (.ref nx)) ((nx, .arr 85 4 (l.map ixP)) :: mem) (nx + 1) := by
 cases l with
 | nil => exact absurd rfl h
 | cons x l => exact Cl_ix_cons mem nx x l (by simpa using hl)
theorem Cl_ex_ne (mem : List (Nat × Box)) (nx : Nat) (l : List Ex) (h : l ≠ []) (hl : l.length ≤ 100000000) : ICalls Tryz.prog n_slices_Clone_api_Expr_api_Expr [aSl Ex.row l] mem nx (.c (.ref nx)) ((nx, .arr 70 13 (l.map Ex.row)) :: mem) (nx + 1) := by
 cases l with
 | nil => exact absurd rfl h
 | cons x l => exact Cl_ex_cons mem nx x l (by simpa using hl)
theorem Cl_str_p (l : List ByteArray) (hl : l.length ≤ 100000000) : PCalls Tryz.prog n_slices_Clone_string_string [aSl (fun s : ByteArray => [pS s]) l] (aSl (fun s : ByteArray => [pS s]) l) := by
 refine PCalls.of is_slices_Clone_string_string (by simp) fun _ => runW_sound ?_
 conv in c_slices_Clone_string_string => cbv
 have hok : rowsOk 1 (l.map fun s : ByteArray => [pS s]) := rowsOk_map fun x => rfl
 cases l with
 | nil =>
  repeat' first | simp (disch := omega) only [go_sem, *] | ((with_reducible refine condT ?_ ?_) <;> intro h <;> try omega) | (with_reducible refine bothW_intro ?_ ?_) | (with_reducible refine nilW_intro (fun h => ?_) ?_) | (refine app_tslN (by intro r hr; cases hr) ?_)
  all_goals rfl
 | cons x l =>
  have hl' : l.length + 1 ≤ 100000000 := by simpa using hl
  repeat' first | simp (disch := omega) only [go_sem, *] | ((with_reducible refine condT ?_ ?_) <;> intro h <;> try omega) | (with_reducible refine bothW_intro ?_ ?_) | (with_reducible refine nilW_intro (fun h => ?_) ?_) | (refine app_tsl (by intro r hr; cases hr) hok (by simp) (by simp; omega) (by simp; omega) ?_)
  all_goals first | rfl | (exfalso; have := h [pS x] List.mem_cons_self; cases this)
end Go.Proofs.YtbblkakcadonjaaGreatDoor
set_option linter.unusedVariables false
set_option linter.unusedSimpArgs false
set_option maxRecDepth 20000
set_option maxHeartbeats 4000000
set_option maxRecDepth 1000000
namespace Go.Proofs.YtbblkakcadonjaaGreatDoor
open Go.Abs Go.RowKit

theorem expr_Copy_1_abs (l : Lin) (hl : l.2.length ≤ 100000000) : PCalls Tryz.prog n_expr_Copy_1 [aLin l.1 l.2] (.tup [aLin l.1 l.2, I 0]) := by
 refine PCalls.of is_expr_Copy_1 (by simp) fun _ => runW_sound ?_
 conv in c_expr_Copy_1 => cbv
 by_cases h : l.2 = []
 ·rw [h]
  repeat' first | simp (disch := omega) only [go_sem, *] | ((with_reducible refine condT ?_ ?_) <;> intro h <;> try omega) | (with_reducible refine bothW_intro ?_ ?_) | (with_reducible refine nilW_intro (fun h => ?_) ?_) | (refine callW_i (Cl_mono_nil _ _) ?_)
  all_goals rfl
 ·have cl := fun mem nx => Cl_mono_ne mem nx l.2 h hl
  repeat' first | simp (disch := omega) only [go_sem, *] | ((with_reducible refine condT ?_ ?_) <;> intro h <;> try omega) | (with_reducible refine bothW_intro ?_ ?_) | (with_reducible refine nilW_intro (fun h => ?_) ?_) | (refine callW_i (cl _ _) ?_)
  all_goals rfl
def arnR (l : List Ix) (i : Nat) (c : AC) : List (List AC) := ((l.map ixP).map fun r => r.map AC.pure).set i (match l[i]? with
 | some x => [.pure (pI x.1.1), .pure (pMonos x.1.2), .pure (pS x.2.1), c]
 | none => [])
theorem arnR_len (l : List Ix) (i : Nat) (c : AC) : (arnR l i c).length = l.length := by simp [arnR]
theorem arnR_get {l : List Ix} {i : Nat} {c : AC} (h : i < l.length) : (arnR l i c)[i]? = some [.pure (pI l[i].1.1), .pure (pMonos l[i].1.2), .pure (pS l[i].2.1), c] := by
 unfold arnR
 rw [List.getElem?_set, if_pos rfl, if_pos (by simpa using h), List.getElem?_eq_getElem h]
theorem arnR_set {l : List Ix} {i : Nat} {c c' : AC} (h : i < l.length) : (arnR l i c).set i [.pure (pI l[i].1.1), .pure (pMonos l[i].1.2), .pure (pS l[i].2.1), c'] = arnR l i c' := by
 unfold arnR
 rw [List.set_set, List.getElem?_eq_getElem h]
theorem arnR_full {l : List Ix} {i : Nat} (h : i < l.length) : arnR l i (.pure (pSl linP l[i].2.2)) = (l.map ixP).map fun r => r.map AC.pure := by
 unfold arnR
 rw [List.getElem?_eq_getElem h]
 refine List.ext_getElem? fun j => ?_
 rw [List.getElem?_set]
 by_cases e : i = j
 ·subst e
  rw [if_pos rfl, if_pos (by simpa using h), List.getElem?_map, List.getElem?_map, List.getElem?_eq_getElem h]
  rfl
 ·rw [if_neg e]
theorem arnR_map {l : List Ix} {i : Nat} {c : AC} {f : AC → AC} (hf : ∀ p, f (.pure p) = .pure p) : (arnR l i c).map (fun r => r.map f) = arnR l i (f c) := by
 unfold arnR
 rw [List.map_set]
 congr 1
 ·rw [List.map_map]
  refine List.map_congr_left fun r _ => ?_
  simp [Function.comp_def, hf]
 ·split <;> simp [hf]
theorem arnR_ren {l : List Ix} {i : Nat} {c : AC} {m : List (Nat × Nat)} : (arnR l i c).map (fun r => r.map (renA m)) = arnR l i (renA m c) := arnR_map fun _ => rfl
theorem arnR_frz {l : List Ix} {i : Nat} {c : AC} {n : Nat} {rs : List (List PC)} : (arnR l i c).map (fun r => r.map (frz1 n rs)) = arnR l i (frz1 n rs c) := arnR_map fun _ => rfl
theorem set_same {α : Type} {f : α → List PC} {l : List α} {i : Nat} (h : i < l.length) {r : List PC} (hr : r = f l[i]) : (l.map f).set i r = l.map f := by
 refine List.ext_getElem? fun j => ?_
 rw [List.getElem?_set]
 by_cases e : i = j
 ·subst e
  rw [if_pos rfl, if_pos (by simpa using h), List.getElem?_map, List.getElem?_eq_getElem h, hr]
  rfl
 ·rw [if_neg e]
theorem clRs_iff {N : Nat} : ∀ {rows : List (List AC)}, clRs N rows ↔ ∀ r ∈ rows, clAs N r
 | [] => by simp [clRs]
 | r :: rows => by simp [clRs, clRs_iff (rows := rows)]
theorem clAs_iff {N : Nat} : ∀ {xs : List AC}, clAs N xs ↔ ∀ x ∈ xs, clA N x
 | [] => by simp [clAs]
 | x :: xs => by simp [clAs, clAs_iff (xs := xs)]
theorem arnR_cl {N : Nat} {l : List Ix} {i : Nat} {c : AC} (h : clA N c) : clRs N (arnR l i c) := by
 refine clRs_iff.2 fun r hr => clAs_iff.2 fun x hx => ?_
 unfold arnR at hr
 rcases List.mem_or_eq_of_mem_set hr with hr | rfl
 ·obtain ⟨s, _, rfl⟩ := List.mem_map.1 hr
  obtain ⟨p, _, rfl⟩ := List.mem_map.1 hx
  trivial
 ·split at hx
  ·simp only [List.mem_cons, List.not_mem_nil, or_false] at hx
   rcases hx with rfl | rfl | rfl | rfl
   ·trivial
   ·trivial
   ·trivial
   ·exact h
  ·cases hx
theorem AW_cellM {P : Program} {nt : Nat} {c : ACode} {σ : St} {Q : AExit → St → Prop} (nm i : Nat) (xs : List AC) (x y : AC) (hf : findB σ.mem nm = some (.var xs)) (hi : xs[i]? = some x) (hr : ∀ (w : World) (V : Nat → Prop) (ι : Pl) (N : Nat) (v : Value), RepA w V ι N x v → RepA w V ι N y v)
  (h : AW P nt c { σ with mem := setB σ.mem nm (.var (xs.set i y)) } Q) : AW P nt c σ Q :=
 fun c' hc w0 U rd ds ι a w hrd hs hz => h c' hc w0 U rd ds ι a w hrd (hs.rebox hf (by
  obtain ⟨b, vs, T, g1, g2, g3, g4⟩ := hs.box _ _ hf
  refine ⟨b, vs, T, g1, g2, g3, All2.of_get (by rw [List.length_set]; exact g4.length) fun j z v hj hv => ?_⟩
  rw [List.getElem?_set] at hj
  by_cases e1 : i = j
  ·subst e1
   rw [if_pos rfl, if_pos (List.getElem?_eq_some_iff.1 hi).1] at hj
   cases hj
   obtain ⟨v', hv', hx⟩ := g4.get hi
   rw [hv'] at hv
   cases hv
   exact hr _ _ _ _ _ hx
  ·rw [if_neg e1] at hj
   obtain ⟨v', hv', hx⟩ := g4.get hj
   rw [hv'] at hv
   cases hv
   exact hx)) hz
theorem tsl_pure {rows : List (List PC)} (w : World) (V : Nat → Prop) (ι : Pl) (N : Nat) (v : Value) (h : RepA w V ι N (.tsl rows) v) : RepA w V ι N (.pure (.slice rows)) v := by
 cases h with
 | tsl h => exact .pure h
theorem Cl_ix_e (mem : List (Nat × Box)) (nx : Nat) {l : List Ix} (h : l = []) : ICalls Tryz.prog n_slices_Clone_api_Index_api_Index [aSl ixP l] mem nx (.c (.tsl [])) mem nx := h ▸ Cl_ix_nil mem nx
theorem Cl_lin_e (mem : List (Nat × Box)) (nx : Nat) {l : List Lin} (h : l = []) : ICalls Tryz.prog n_slices_Clone_api_Lin_api_Lin [aSl linP l] mem nx (.c (.tsl [])) mem nx := h ▸ Cl_lin_nil mem nx
theorem Cl_ex_e (mem : List (Nat × Box)) (nx : Nat) {l : List Ex} (h : l = []) : ICalls Tryz.prog n_slices_Clone_api_Expr_api_Expr [aSl Ex.row l] mem nx (.c (.tsl [])) mem nx := h ▸ Cl_ex_nil mem nx
abbrev oEx (e : Ex) (c c2 : AC) : Box := .var [.pure (pI e.op), .pure (pS e.name), .pure (pI e.val.1), .pure (pI e.val.2), .pure (pI e.ty.1), .pure (pI e.ty.2.1), .pure (pI e.ty.2.2.1), .pure (pI e.ty.2.2.2.1), .pure (pI e.ty.2.2.2.2), .pure (pI e.lin.1), .pure (pMonos e.lin.2), c, c2]
abbrev zEx : Box := .var [.pure (pI 0), .pure (pS ⟨⟨[]⟩⟩), .pure (pI 0), .pure (pI 0), .pure (pI 0), .pure (pI 0), .pure (pI 0), .pure (pI 0), .pure (pI 0), .pure (pI 0), .nils, .nils, .nils]
def cpOk (e : Ex) : Prop := ∀ a ∈ e.pre, a.idx.length ≤ 1000000 ∧ a.args.length ≤ 1000000 ∧ (∀ l ∈ a.forms, l.2.length ≤ 100000000) ∧ ∀ x ∈ a.idx, x.2.2.length ≤ 1000000
theorem cpOk_self {e : Ex} (h : cpOk e) : e.idx.length ≤ 1000000 ∧ e.args.length ≤ 1000000 ∧ (∀ l ∈ e.forms, l.2.length ≤ 100000000) ∧ ∀ x ∈ e.idx, x.2.2.length ≤ 1000000 := h e (by rw [Ex.pre_eq]; exact List.mem_cons_self)
theorem cpOk_arg {e a : Ex} (h : cpOk e) (ha : a ∈ e.args) : cpOk a := fun b hb => h b (by
 rw [Ex.pre_eq]
 refine List.mem_cons_of_mem _ ?_
 generalize e.args = l at ha
 induction l with
 | nil => cases ha
 | cons x r ih =>
  rw [Ex.pres]
  rcases List.mem_cons.1 ha with rfl | ha
  ·exact List.mem_append_left _ hb
  ·exact List.mem_append_right _ (ih ha))
abbrev kEx (e : Ex) : Box := .var [.pure (pI e.op), .pure (pS e.name), .pure (pI e.val.1), .pure (pI e.val.2), .pure (pI e.ty.1), .pure (pI e.ty.2.1), .pure (pI e.ty.2.2.1), .pure (pI e.ty.2.2.2.1), .pure (pI e.ty.2.2.2.2), .pure (pI e.lin.1), .pure (pMonos e.lin.2), .pure (pSl ixP e.idx), .pure (.slice (e.args.map Ex.row))]
set_option maxHeartbeats 8000000 in
theorem expr_mapForms_abs (e : Ex) : cpOk e → PCalls Tryz.prog n_expr_mapForms [aEx e, .c (.clo n_expr_Copy_1 [])] (.tup [aEx e, I 0]) := by
 refine Ex.ind (p := fun e => cpOk e → PCalls Tryz.prog n_expr_mapForms [aEx e, .c (.clo n_expr_Copy_1 [])] (.tup [aEx e, I 0])) (fun e ih hok => ?_) e
 obtain ⟨h1, h2, h3, h4⟩ := cpOk_self hok
 have pc := expr_Copy_1_abs e.lin (h3 _ List.mem_cons_self)
 refine PCalls.of is_expr_mapForms (by simp) fun hb => runW_sound ?_
 simp only [c_expr_mapForms]
 refine (Classical.em (e.idx = [])).elim (fun hI => ?_) (fun hI => ?_)
 focus
  have cI := fun mem nx => Cl_ix_e mem nx hI
  repeat' first | simp (disch := omega) only [go_sem] | ((with_reducible refine condT ?_ ?_) <;> intro h <;> try first | omega | simp (disch := omega) only [go_sem, *]) | (refine w_R pc rfl rfl ?_) | (refine callW_i (cI _ _) ?_)
  refine AW_cellM 2 11 _ (.tsl []) (.pure (pSl ixP e.idx)) rfl rfl (by rw [hI]; exact tsl_pure) ?_
  refine AW_loop (fun k : Nat => ⟨[(34, I k), (33, I e.idx.length), (32, .c (.pure (pSl ixP e.idx))), (6, .c (.ptr 2 0)), (4, .c (.ptr 1 0)), (2, .c (.ptr 0 0)), (1, .c (.clo n_expr_Copy_1 []))], [(2, oEx e (.pure (pSl ixP e.idx)) (.pure (.slice (e.args.map Ex.row)))), (1, zEx), (0, kEx e)], 4, 0⟩) (fun k => k = 0) (fun k => 0) ⟨0, [], rfl, by simp [setB]⟩ ?_
  rintro k rfl
  have hl : e.idx.length = 0 := by rw [hI]; rfl
  clear hI
  refine runW_sound ?_
  repeat' first | simp (disch := omega) only [go_sem, hl] | ((with_reducible refine condT ?_ ?_) <;> intro h <;> try first | omega | simp (disch := omega) only [go_sem, *, hl])
  clear hl
 rotate_left
 focus
  have cI := fun mem nx => Cl_ix_ne mem nx e.idx hI (by omega)
  repeat' first | simp (disch := omega) only [go_sem] | ((with_reducible refine condT ?_ ?_) <;> intro h <;> try first | omega | simp (disch := omega) only [go_sem, *]) | (refine w_R pc rfl rfl ?_) | (refine callW_i (cI _ _) ?_)
  refine AW_loop (fun k : Nat => ⟨[(34, I k), (33, I e.idx.length), (32, .c (.pure (pSl ixP e.idx))), (6, .c (.ptr 2 0)), (4, .c (.ptr 1 0)), (2, .c (.ptr 0 0)), (1, .c (.clo n_expr_Copy_1 []))], [(3, .arr 85 4 (e.idx.map ixP)), (2, oEx e (.ref 3) (.pure (.slice (e.args.map Ex.row)))), (1, zEx), (0, kEx e)], 4, 0⟩) (fun k => k ≤ e.idx.length) (fun k => e.idx.length - k) ⟨0, [], by omega, by simp [setB]⟩ ?_
  intro k hk
  by_cases hlt : k < e.idx.length
  rotate_left
  focus
   refine AW_frz [3] ?_
   simp (disch := omega) only [go_sem]
   refine runW_sound ?_
   clear hI
   repeat' first | simp (disch := omega) only [go_sem] | ((with_reducible refine condT ?_ ?_) <;> intro h <;> try first | omega | simp (disch := omega) only [go_sem, *])
  rotate_left
  ·have pk := expr_Copy_1_abs e.idx[k].1 (h3 _ (List.mem_cons_of_mem _ (List.mem_flatMap.2 ⟨_, List.getElem_mem hlt, List.mem_cons_self⟩)))
   have hat := h4 _ (List.getElem_mem hlt)
   have sI : (e.idx.map ixP).set k [pI e.idx[k].1.1, pMonos e.idx[k].1.2, pS e.idx[k].2.1, pSl linP e.idx[k].2.2] = e.idx.map ixP := set_same hlt rfl
   by_cases hA : e.idx[k].2.2 = []
   ·have cA := fun mem nx => Cl_lin_e mem nx hA
    have sE : (e.idx.map ixP).set k [pI e.idx[k].1.1, pMonos e.idx[k].1.2, pS e.idx[k].2.1, .slice []] = e.idx.map ixP := set_same hlt (by unfold ixP; rw [hA]; rfl)
    have hl : e.idx[k].2.2.length = 0 := by rw [hA]; rfl
    clear hA
    refine runW_sound ?_
    repeat' first | simp (disch := omega) only [go_sem, map_get hlt, ixP, wrap_i64, sI, sE] | ((with_reducible refine condT ?_ ?_) <;> intro h <;> try first | omega | simp (disch := omega) only [go_sem, *, map_get hlt, ixP, wrap_i64, sI, sE]) | (with_reducible refine bothW_intro ?_ ?_) | (with_reducible refine nilW_intro (fun h => ?_) ?_) | (refine w_R pk rfl rfl ?_) | (refine callW_i (cA _ _) ?_)
    all_goals
     refine AW_loop (fun _ : Nat => ⟨[(66, I 0), (65, I 0), (34, I k), (33, I e.idx.length), (32, .c (.pure (pSl ixP e.idx))), (6, .c (.ptr 2 0)), (4, .c (.ptr 1 0)), (2, .c (.ptr 0 0)), (1, .c (.clo n_expr_Copy_1 []))], [(3, .arr 85 4 (e.idx.map ixP)), (2, oEx e (.ref 3) (.pure (.slice (e.args.map Ex.row)))), (1, zEx), (0, kEx e)], 4, 0⟩) (fun _ => True) (fun _ => 0) ⟨0, [], trivial, by simp [setB, hl]⟩ ?_
     rintro _ _
     refine runW_sound ?_
     repeat' first | simp (disch := omega) only [go_sem, wrap_i64] | ((with_reducible refine condT ?_ ?_) <;> intro h <;> try first | omega | simp (disch := omega) only [go_sem, *, wrap_i64])
     exact ⟨k + 1, [], by omega, by omega, by simp⟩
   ·have cA := fun mem nx => Cl_lin_ne mem nx _ hA (by omega)
    refine AW_arn 3 85 4 _ rfl ?_
    rw [← arnR_full hlt]
    refine runW_sound ?_
    repeat' first | simp (disch := omega) only [go_sem, map_get hlt, ixP, wrap_i64, arnR_get hlt, arnR_len, arnR_set hlt] | ((with_reducible refine condT ?_ ?_) <;> intro h <;> try first | omega | simp (disch := omega) only [go_sem, *, map_get hlt, ixP, wrap_i64, arnR_get hlt, arnR_len, arnR_set hlt]) | (with_reducible refine bothW_intro ?_ ?_) | (with_reducible refine nilW_intro (fun h => ?_) ?_) | (refine w_R pk rfl rfl ?_) | (refine callW_i (cA _ _) ?_)
    all_goals
     refine AW_loop (fun j : Nat => ⟨[(66, I j), (65, I e.idx[k].2.2.length), (64, .c (.pure (pSl linP e.idx[k].2.2))), (34, I k), (33, I e.idx.length), (32, .c (.pure (pSl ixP e.idx))), (8, I k), (6, .c (.ptr 2 0)), (4, .c (.ptr 1 0)), (2, .c (.ptr 0 0)), (1, .c (.clo n_expr_Copy_1 []))], [(5, .arr 35 2 (e.idx[k].2.2.map linP)), (3, .arn 85 4 (arnR e.idx k (.ref 5))), (2, oEx e (.ref 3) (.pure (.slice (e.args.map Ex.row)))), (1, zEx), (0, kEx e)], 6, 0⟩) (fun j => j ≤ e.idx[k].2.2.length) (fun j => e.idx[k].2.2.length - j) ⟨0, [], by omega, (by simp [setB, arnR_ren]; exact arnR_cl (by simp [clA]))⟩ ?_
     intro j hj
     by_cases hjl : j < e.idx[k].2.2.length
     ·have pj := expr_Copy_1_abs e.idx[k].2.2[j] (h3 _ (List.mem_cons_of_mem _ (List.mem_flatMap.2 ⟨_, List.getElem_mem hlt, List.mem_cons_of_mem _ (List.getElem_mem hjl)⟩)))
      have sJ : (e.idx[k].2.2.map linP).set j [pI e.idx[k].2.2[j].1, pMonos e.idx[k].2.2[j].2] = e.idx[k].2.2.map linP := set_same hjl rfl
      refine runW_sound ?_
      repeat' first | simp (disch := omega) only [go_sem, map_get hjl, linP, wrap_i64, arnR_get hlt, arnR_len, arnR_set hlt, sJ] | ((with_reducible refine condT ?_ ?_) <;> intro h <;> try first | omega | simp (disch := omega) only [go_sem, *, map_get hjl, linP, wrap_i64, arnR_get hlt, arnR_len, arnR_set hlt, sJ]) | (with_reducible refine bothW_intro ?_ ?_) | (with_reducible refine nilW_intro (fun h => ?_) ?_) | (refine w_R pj rfl rfl ?_)
      all_goals exact ⟨j + 1, [], by omega, by omega, (by simp [setB, arnR_ren]; exact arnR_cl (by simp [clA]))⟩
     ·refine AW_frz [5] ?_
      simp (disch := omega) only [go_sem, arnR_frz, arnR_full hlt]
      refine AW_arr 3 85 4 _ rfl ?_
      refine runW_sound ?_
      repeat' first | simp (disch := omega) only [go_sem, wrap_i64] | ((with_reducible refine condT ?_ ?_) <;> intro h <;> try first | omega | simp (disch := omega) only [go_sem, *, wrap_i64])
      exact ⟨k + 1, [], by omega, by omega, by simp [setB]⟩
 all_goals
  clear cI pc
  by_cases hX : e.args = []
  ·have cX := fun mem nx => Cl_ex_e mem nx hX
   have hl : e.args.length = 0 := by rw [hX]; rfl
   have hr : e.args.map Ex.row = [] := by rw [hX]; rfl
   clear hX
   repeat' first | simp (disch := omega) only [go_sem, hl] | ((with_reducible refine condT ?_ ?_) <;> intro h <;> try first | omega | simp (disch := omega) only [go_sem, *, hl]) | (refine callW_i (cX _ _) ?_)
   refine AW_loop (fun _ : Nat => ⟨[(98, I 0), (97, I 0), (6, .c (.ptr 2 0)), (4, .c (.ptr 1 0)), (2, .c (.ptr 0 0)), (1, .c (.clo n_expr_Copy_1 []))], [(2, oEx e (.pure (pSl ixP e.idx)) (.tsl [])), (1, zEx), (0, kEx e)], 5, 0⟩) (fun _ => True) (fun _ => 0) ⟨0, [], trivial, by simp [setB, hl]⟩ ?_
   rintro _ _
   refine runW_sound ?_
   repeat' first | simp (disch := omega) only [go_sem] | ((with_reducible refine condT ?_ ?_) <;> intro h <;> try first | omega | simp (disch := omega) only [go_sem, *])
   all_goals (unfold aEx; rw [hr])
  ·have cX := fun mem nx => Cl_ex_ne mem nx e.args hX (by omega)
   repeat' first | simp (disch := omega) only [go_sem] | ((with_reducible refine condT ?_ ?_) <;> intro h <;> try first | omega | simp (disch := omega) only [go_sem, *]) | (refine callW_i (cX _ _) ?_)
   refine AW_loop (fun j : Nat => ⟨[(98, I j), (97, I e.args.length), (96, .c (.pure (.slice (e.args.map Ex.row)))), (6, .c (.ptr 2 0)), (4, .c (.ptr 1 0)), (2, .c (.ptr 0 0)), (1, .c (.clo n_expr_Copy_1 []))], [(4, .arr 70 13 (e.args.map Ex.row)), (2, oEx e (.pure (pSl ixP e.idx)) (.ref 4)), (1, zEx), (0, kEx e)], 5, 0⟩) (fun j => j ≤ e.args.length) (fun j => e.args.length - j) ⟨0, [], by omega, by simp [setB]⟩ ?_
   intro j hj
   by_cases hjl : j < e.args.length
   ·have pj := ih _ (List.getElem_mem hjl) (cpOk_arg hok (List.getElem_mem hjl))
    generalize hg : e.args[j] = g at *
    have sX : (e.args.map Ex.row).set j [pI g.op, pS g.name, pI g.val.1, pI g.val.2, pI g.ty.1, pI g.ty.2.1, pI g.ty.2.2.1, pI g.ty.2.2.2.1, pI g.ty.2.2.2.2, pI g.lin.1, pMonos g.lin.2, pSl ixP g.idx, .slice (g.args.map Ex.row)] = e.args.map Ex.row := set_same hjl (by rw [hg]; exact (Ex.row_eq _).symm)
    have hgt : (e.args.map Ex.row)[j]? = some (Ex.row g) := by rw [map_get hjl, hg]
    clear hg
    refine runW_sound ?_
    repeat' first | simp (disch := omega) only [go_sem, hgt, Ex.row_eq, wrap_i64, sX] | ((with_reducible refine condT ?_ ?_) <;> intro h <;> try first | omega | simp (disch := omega) only [go_sem, *, hgt, Ex.row_eq, wrap_i64, sX]) | (with_reducible refine bothW_intro ?_ ?_) | (with_reducible refine nilW_intro (fun h => ?_) ?_) | (refine w_R pj rfl rfl ?_)
    all_goals exact ⟨j + 1, [], by omega, by omega, by simp [setB]⟩
   ·refine AW_frz [4] ?_
    simp (disch := omega) only [go_sem]
    refine runW_sound ?_
    repeat' first | simp (disch := omega) only [go_sem] | ((with_reducible refine condT ?_ ?_) <;> intro h <;> try first | omega | simp (disch := omega) only [go_sem, *])
    all_goals rfl
theorem expr_Copy_abs {e : Ex} (h : cpOk e) : PCalls Tryz.prog n_expr_Copy [aEx e] (aEx e) := by
 refine PCalls.of is_expr_Copy (by simp) fun hb => runW_sound ?_
 conv in c_expr_Copy => cbv
 have pc := expr_mapForms_abs e h
 repeat' first | simp (disch := omega) only [go_sem, *] | ((with_reducible refine condT ?_ ?_) <;> intro h <;> try omega) | (with_reducible refine bothW_intro ?_ ?_) | (with_reducible refine nilW_intro (fun h => ?_) ?_) | (refine w_R pc rfl rfl ?_)
 all_goals rfl
end Go.Proofs.YtbblkakcadonjaaGreatDoor
