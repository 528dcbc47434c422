/- Walks: the facts of a condition, by the program: an array of the caller's own. -/
import Derived.Test.YtbblkakcadonjaaGreatDoorV18c
import Derived.Test.YtbblkakcadonjaaGreatDoorLift
import Derived.Test.YtbblkakcadonjaaGreatDoorV17a
set_option linter.unusedVariables false
set_option linter.unusedSimpArgs false
set_option maxRecDepth 20000
set_option maxHeartbeats 4000000
set_option maxRecDepth 1000000
namespace Go.Proofs.YtbblkakcadonjaaGreatDoor
open Go.Abs Go.RowKit

theorem negS_one {c : Con} (h0 : (negS c).2 = 0) (h1 : (negS c).1.length = 1) : linOk c.1.2 ∧ ¬ minAt c.1.2 ∧ c.2 = false ∧ negS c = ([lessV c.1], 0) := by
 by_cases a : linOk c.1.2
 ·by_cases b : minAt c.1.2
  ·unfold negS at h0
   rw [if_neg (not_not_intro a), if_pos b] at h0
   cases h0
  ·by_cases d : c.2 = false
   ·exact ⟨a, b, d, by unfold negS; rw [if_neg (not_not_intro a), if_neg b, if_pos d]⟩
   ·unfold negS at h0 h1
    rw [if_neg (not_not_intro a), if_neg b, if_neg d] at h0 h1
    by_cases e : c.1.1 = -9223372036854775808
    ·rw [if_pos e] at h0; cases h0
    ·rw [if_neg e] at h1; cases h1
 ·unfold negS at h0
  rw [if_pos a] at h0
  cases h0
theorem constraint_Negate_lit {c : Con} (h64 : con64 c) (hs : short c.1.2) (h0 : (negS c).2 = 0) (h1 : (negS c).1.length = 1) : ICalls Tryz.prog n_constraint_Negate [aCon c] [] 0 (.tup [.c (.tsl ((negS c).1.map cP)), I 0]) [] 0 := by
 obtain ⟨hok, hm, hq, hN⟩ := negS_one h0 h1
 have pv := constraint_Validate_abs c
 have po := constraint_opposite_abs (f := c.1) h64 hs
 rw [oppS, if_neg hm] at po
 rw [if_pos hok] at pv
 rw [hN]
 clear hN h0 h1 hok hm h64 hs
 obtain ⟨⟨K, l⟩, q⟩ := c
 simp only at hq
 subst hq
 refine ICalls.ofZ (ress := [.c (.tsl ([lessV (K, l)].map cP)), I 0]) is_constraint_Negate (by simp) fun _ => runW_sound ?_
 conv in c_constraint_Negate => cbv
 try simp only at po pv
 repeat' first | simp (disch := omega) only [go_sem, *] | ((with_reducible refine condT ?_ ?_) <;> intro h <;> try omega) | (with_reducible refine bothW_intro ?_ ?_) | (with_reducible refine nilW_intro (fun h => ?_) ?_) | (refine w_L pv rfl rfl ?_) | (refine w_R po rfl rfl ?_)
 refine ⟨[], [], ?_⟩
 simp (disch := omega) only [go_sem, frzLA]
 simp [ren_A, cl_A, lessV, negL, cP]
def FacC (e : Ex) : Prop :=
 (ICalls Tryz.prog n_bounds_facts [aEx e] [] 0 (.tup [.c .nils, Go.Abs.B (facS e).2]) [] 0 ∧ (facS e).1 = []) ∨
 (ICalls Tryz.prog n_bounds_facts [aEx e] [] 0 (.tup [.c (.tsl ((facS e).1.map cP)), Go.Abs.B (facS e).2]) [] 0 ∧ (facS e).1 ≠ []) ∨
 ICalls Tryz.prog n_bounds_facts [aEx e] [] 0 (.tup [.c (.ref 0), Go.Abs.B (facS e).2]) [(0, .arr 37 3 ((facS e).1.map cP))] 1
set_option maxHeartbeats 4000000 in
theorem bounds_facts_c (e : Ex) : lnOk e → e.sz ≤ 20000 → FacC e := by
 refine Ex.ind (p := fun e => lnOk e → e.sz ≤ 20000 → FacC e) (fun e ih h hs => ?_) e
 have ha := (rnkAll_self h.1).1
 unfold FacC
 by_cases k : 13 ≤ e.op ∧ e.op ≤ 15
 ·have ha2 : (e.args.length : Int) = 2 := by
   rw [ha]
   have : e.op = 13 ∨ e.op = 14 ∨ e.op = 15 := by omega
   rcases this with k | k | k <;> rw [k] <;> rfl
  obtain ⟨a, b, hargs⟩ := args2 ha2
  have pc := bounds_compared_abs h hs hargs
  rw [facN_cmp k hargs]
  clear ih ha ha2 h hs hargs
  have hd : e.op = 13 ∨ e.op = 14 ∨ e.op = 15 := by omega
  clear k
  by_cases hxy : (linS a).2 = true ∧ (linS b).2 = true
  ·rw [if_pos hxy] at pc ⊢
   clear hxy
   unfold okF
   generalize cmpS e.op (linS a).1 (linS b).1 = s at *
   obtain ⟨⟨K2, l2⟩, er⟩ := s
   by_cases h0 : er = 0
   ·subst h0
    rw [if_pos rfl]
    try simp only at pc
    refine .inr (.inl ⟨ICalls.ofZ (ress := [.c (.tsl ([((K2, l2), decide (e.op = 15))].map cP)), Go.Abs.B true]) is_bounds_facts (by simp) fun _ => runW_sound ?_, by simp⟩)
    conv in c_bounds_facts => cbv
    rcases hd with hd | hd | hd
    all_goals
     simp only [aEx, hd] at pc
     repeat' first | simp (disch := omega) only [go_sem, *, hd] | ((with_reducible refine condT ?_ ?_) <;> intro h <;> try omega) | (with_reducible refine bothW_intro ?_ ?_) | (with_reducible refine nilW_intro (fun h => ?_) ?_) | (refine w_R pc rfl rfl ?_)
     refine ⟨[], [], ?_⟩
     simp (disch := omega) only [go_sem, frzLA]
     simp [ren_A, cl_A, cP, hd]
   ·rw [if_neg h0]
    try simp only at pc
    refine .inl ⟨ICalls.ofZ (ress := [.c .nils, Go.Abs.B false]) is_bounds_facts (by simp) fun _ => runW_sound ?_, rfl⟩
    conv in c_bounds_facts => cbv
    rcases hd with hd | hd | hd
    all_goals
     simp only [aEx, hd] at pc
     repeat' first | simp (disch := omega) only [go_sem, *, h0, hd] | ((with_reducible refine condT ?_ ?_) <;> intro h <;> try omega) | (with_reducible refine bothW_intro ?_ ?_) | (with_reducible refine nilW_intro (fun h => ?_) ?_) | (refine w_R pc rfl rfl ?_)
     refine ⟨[], [], ?_⟩
     simp (disch := omega) only [go_sem, frzLA]
     simp [ren_A, cl_A, cP]
  ·rw [if_neg hxy] at pc ⊢
   clear hxy
   refine .inl ⟨ICalls.ofZ (ress := [.c .nils, Go.Abs.B false]) is_bounds_facts (by simp) fun _ => runW_sound ?_, rfl⟩
   conv in c_bounds_facts => cbv
   rcases hd with hd | hd | hd
   all_goals
    simp only [aEx, hd] at pc
    repeat' first | simp (disch := omega) only [go_sem, *, hd] | ((with_reducible refine condT ?_ ?_) <;> intro h <;> try omega) | (with_reducible refine bothW_intro ?_ ?_) | (with_reducible refine nilW_intro (fun h => ?_) ?_) | (refine w_R pc rfl rfl ?_)
    refine ⟨[], [], ?_⟩
    simp (disch := omega) only [go_sem, frzLA]
    simp [ren_A, cl_A, cP]
 by_cases k16 : e.op = 16
 ·have ha2 : (e.args.length : Int) = 2 := by rw [ha, k16]; rfl
  obtain ⟨a, b, hargs⟩ := args2 ha2
  rw [facN_and k16 hargs]
  have hm : a ∈ e.args := by rw [hargs]; exact List.mem_cons_self
  have hm' : b ∈ e.args := by rw [hargs]; exact List.mem_cons_of_mem _ List.mem_cons_self
  have hA := ih a hm (lnOk_arg h hm) (by have := sz_mem hm; omega)
  have hB := ih b hm' (lnOk_arg h hm') (by have := sz_mem hm'; omega)
  have q1 := (fac_ok a (lnOk_arg h hm)).1
  have q2 := (fac_ok b (lnOk_arg h hm')).1
  have s1 := sz_mem hm
  have s2 := sz_mem hm'
  have hg : (e.args.map Ex.row)[0]? = some a.row := by rw [hargs]; rfl
  have hg1 : (e.args.map Ex.row)[1]? = some b.row := by rw [hargs]; rfl
  have hl : e.args.length = 2 := by rw [hargs]; rfl
  clear ih ha ha2 h k hm hm' hargs
  have l1 : (facS a).1.length ≤ 20000 := by omega
  have l2 : (facS b).1.length ≤ 20000 := by omega
  clear q1 q2 s1 s2 hs
  unfold FacC at hA hB
  generalize facS a = r at *
  obtain ⟨x, y⟩ := r
  generalize facS b = r at *
  obtain ⟨x', y'⟩ := r
  have ok' : rowsOk 3 (x'.map cP) := rowsOk_map fun _ => rfl
  have ok : rowsOk 3 (x.map cP) := rowsOk_map fun _ => rfl
  simp only at l1 l2 hA hB ⊢
  rcases hA with ⟨pa, ea⟩ | ⟨pa, ea⟩ | pa <;> rcases hB with ⟨pb, eb⟩ | ⟨pb, eb⟩ | pb
  ·subst ea
   subst eb
   cases y
   all_goals
    refine .inr (.inr (ICalls.ofZ (ress := [.c (.ref 0), _]) is_bounds_facts (by simp) fun _ => runW_sound ?_))
    conv in c_bounds_facts => cbv
    repeat' first | simp (disch := omega) only [go_sem, *, k16, hl, hg, hg1, Ex.row_eq, Int.toNat_zero, Int.toNat_one] | ((with_reducible refine condT ?_ ?_) <;> intro h <;> try omega) | (with_reducible refine bothW_intro ?_ ?_) | (with_reducible refine nilW_intro (fun h => ?_) ?_) | (refine callW_i (pa.lift0 rfl rfl) ?_) | (refine callW_i (pb.lift0 rfl rfl) ?_) | (refine app_nil ok' (by simp; try omega) (by simp; try omega) ?_)
    refine ⟨[], [(0, 1)], ?_⟩
    simp (disch := omega) only [go_sem, frzLA]
    simp [ren_A, cl_A]
  ·subst ea
   cases y
   all_goals
    refine .inr (.inr (ICalls.ofZ (ress := [.c (.ref 0), _]) is_bounds_facts (by simp) fun _ => runW_sound ?_))
    conv in c_bounds_facts => cbv
    repeat' first | simp (disch := omega) only [go_sem, *, k16, hl, hg, hg1, Ex.row_eq, Int.toNat_zero, Int.toNat_one] | ((with_reducible refine condT ?_ ?_) <;> intro h <;> try omega) | (with_reducible refine bothW_intro ?_ ?_) | (with_reducible refine nilW_intro (fun h => ?_) ?_) | (refine callW_i (pa.lift0 rfl rfl) ?_) | (refine callW_i (pb.lift0 rfl rfl) ?_) | (refine app_nil ok' (by simp; try omega) (by simp; try omega) ?_)
    refine ⟨[], [(0, 1)], ?_⟩
    simp (disch := omega) only [go_sem, frzLA]
    simp [ren_A, cl_A]
  ·subst ea
   cases y
   all_goals
    refine .inr (.inr (ICalls.ofZ (ress := [.c (.ref 0), _]) is_bounds_facts (by simp) fun _ => runW_sound ?_))
    conv in c_bounds_facts => cbv
    repeat' first | simp (disch := omega) only [go_sem, *, k16, hl, hg, hg1, Ex.row_eq, Int.toNat_zero, Int.toNat_one] | ((with_reducible refine condT ?_ ?_) <;> intro h <;> try omega) | (with_reducible refine bothW_intro ?_ ?_) | (with_reducible refine nilW_intro (fun h => ?_) ?_) | (refine callW_i (pa.lift0 rfl rfl) ?_) | (refine callW_i (pb.lift1 rfl rfl rfl) ?_) | (refine app_nil ok' (by simp; try omega) (by simp; try omega) ?_)
    refine ⟨[], [(0, 2)], ?_⟩
    simp (disch := omega) only [go_sem, frzLA]
    simp [ren_A, cl_A]
  ·subst eb
   rw [show x ++ ([] : List Con) = x from List.append_nil x]
   cases y
   all_goals
    refine .inr (.inl ⟨ICalls.ofZ (ress := [.c (.tsl (x.map cP)), _]) is_bounds_facts (by simp) fun _ => runW_sound ?_, ea⟩)
    conv in c_bounds_facts => cbv
    repeat' first | simp (disch := omega) only [go_sem, *, k16, hl, hg, hg1, Ex.row_eq, Int.toNat_zero, Int.toNat_one] | ((with_reducible refine condT ?_ ?_) <;> intro h <;> try omega) | (with_reducible refine bothW_intro ?_ ?_) | (with_reducible refine nilW_intro (fun h => ?_) ?_) | (refine callW_i (pa.lift0 rfl rfl) ?_) | (refine callW_i (pb.lift0 rfl rfl) ?_) | (refine app_tslN ok ?_)
    refine ⟨[], [], ?_⟩
    simp (disch := omega) only [go_sem, frzLA]
    simp [ren_A, cl_A]
  ·cases y
   all_goals
    refine .inr (.inr (ICalls.ofZ (ress := [.c (.ref 0), _]) is_bounds_facts (by simp) fun _ => runW_sound ?_))
    conv in c_bounds_facts => cbv
    repeat' first | simp (disch := omega) only [go_sem, *, k16, hl, hg, hg1, Ex.row_eq, Int.toNat_zero, Int.toNat_one] | ((with_reducible refine condT ?_ ?_) <;> intro h <;> try omega) | (with_reducible refine bothW_intro ?_ ?_) | (with_reducible refine nilW_intro (fun h => ?_) ?_) | (refine callW_i (pa.lift0 rfl rfl) ?_) | (refine callW_i (pb.lift0 rfl rfl) ?_) | (refine app_tsl ok ok' (by simpa using eb) (by simp; try omega) (by simp; try omega) ?_)
    refine ⟨[], [(0, 1)], ?_⟩
    simp (disch := omega) only [go_sem, frzLA]
    simp [ren_A, cl_A]
  ·by_cases eb : x' = []
   ·subst eb
    rw [show x ++ ([] : List Con) = x from List.append_nil x]
    cases y
    all_goals
     refine .inr (.inl ⟨ICalls.ofZ (ress := [.c (.tsl (x.map cP)), _]) is_bounds_facts (by simp) fun _ => runW_sound ?_, ea⟩)
     conv in c_bounds_facts => cbv
     repeat' first | simp (disch := omega) only [go_sem, *, k16, hl, hg, hg1, Ex.row_eq, Int.toNat_zero, Int.toNat_one] | ((with_reducible refine condT ?_ ?_) <;> intro h <;> try omega) | (with_reducible refine bothW_intro ?_ ?_) | (with_reducible refine nilW_intro (fun h => ?_) ?_) | (refine callW_i (pa.lift0 rfl rfl) ?_) | (refine callW_i (pb.lift1 rfl rfl rfl) ?_) | (refine app_tslN ok ?_)
     refine ⟨[], [], ?_⟩
     simp (disch := omega) only [go_sem, frzLA]
     simp [ren_A, cl_A]
   ·cases y
    all_goals
     refine .inr (.inr (ICalls.ofZ (ress := [.c (.ref 0), _]) is_bounds_facts (by simp) fun _ => runW_sound ?_))
     conv in c_bounds_facts => cbv
     repeat' first | simp (disch := omega) only [go_sem, *, k16, hl, hg, hg1, Ex.row_eq, Int.toNat_zero, Int.toNat_one] | ((with_reducible refine condT ?_ ?_) <;> intro h <;> try omega) | (with_reducible refine bothW_intro ?_ ?_) | (with_reducible refine nilW_intro (fun h => ?_) ?_) | (refine callW_i (pa.lift0 rfl rfl) ?_) | (refine callW_i (pb.lift1 rfl rfl rfl) ?_) | (refine app_tsl ok ok' (by simpa using eb) (by simp; try omega) (by simp; try omega) ?_)
     refine ⟨[], [(0, 2)], ?_⟩
     simp (disch := omega) only [go_sem, frzLA]
     simp [ren_A, cl_A]
  ·subst eb
   cases y
   all_goals
    refine .inr (.inr (ICalls.ofZ (ress := [.c (.ref 0), _]) is_bounds_facts (by simp) fun _ => runW_sound ?_))
    conv in c_bounds_facts => cbv
    repeat' first | simp (disch := omega) only [go_sem, *, k16, hl, hg, hg1, Ex.row_eq, Int.toNat_zero, Int.toNat_one] | ((with_reducible refine condT ?_ ?_) <;> intro h <;> try omega) | (with_reducible refine bothW_intro ?_ ?_) | (with_reducible refine nilW_intro (fun h => ?_) ?_) | (refine callW_i (pa.lift1 rfl rfl rfl) ?_) | (refine callW_i (pb.lift0 rfl rfl) ?_) | (refine app_own rfl (by intro h; cases h) ok' (by simp; try omega) (by simp; try omega) ?_)
    refine ⟨[], [(0, 2)], ?_⟩
    simp (disch := omega) only [go_sem, frzLA]
    simp [ren_A, cl_A]
  ·cases y
   all_goals
    refine .inr (.inr (ICalls.ofZ (ress := [.c (.ref 0), _]) is_bounds_facts (by simp) fun _ => runW_sound ?_))
    conv in c_bounds_facts => cbv
    repeat' first | simp (disch := omega) only [go_sem, *, k16, hl, hg, hg1, Ex.row_eq, Int.toNat_zero, Int.toNat_one] | ((with_reducible refine condT ?_ ?_) <;> intro h <;> try omega) | (with_reducible refine bothW_intro ?_ ?_) | (with_reducible refine nilW_intro (fun h => ?_) ?_) | (refine callW_i (pa.lift1 rfl rfl rfl) ?_) | (refine callW_i (pb.lift0 rfl rfl) ?_) | (refine app_own rfl (by intro h; cases h) ok' (by simp; try omega) (by simp; try omega) ?_)
    refine ⟨[], [(0, 2)], ?_⟩
    simp (disch := omega) only [go_sem, frzLA]
    simp [ren_A, cl_A]
  ·cases y
   all_goals
    refine .inr (.inr (ICalls.ofZ (ress := [.c (.ref 0), _]) is_bounds_facts (by simp) fun _ => runW_sound ?_))
    conv in c_bounds_facts => cbv
    repeat' first | simp (disch := omega) only [go_sem, *, k16, hl, hg, hg1, Ex.row_eq, Int.toNat_zero, Int.toNat_one] | ((with_reducible refine condT ?_ ?_) <;> intro h <;> try omega) | (with_reducible refine bothW_intro ?_ ?_) | (with_reducible refine nilW_intro (fun h => ?_) ?_) | (refine callW_i (pa.lift1 rfl rfl rfl) ?_) | (refine callW_i (pb.lift1 rfl rfl rfl) ?_) | (refine app_own rfl (by intro h; cases h) ok' (by simp; try omega) (by simp; try omega) ?_)
    refine ⟨[], [(0, 3)], ?_⟩
    simp (disch := omega) only [go_sem, frzLA]
    simp [ren_A, cl_A]
 by_cases k18 : e.op = 18
 ·have ha2 : (e.args.length : Int) = 1 := by rw [ha, k18]; rfl
  obtain ⟨a, hargs⟩ := args1 ha2
  rw [facN_not k18 hargs]
  have hm : a ∈ e.args := by rw [hargs]; exact List.mem_cons_self
  have hA := ih a hm (lnOk_arg h hm) (by have := sz_mem hm; omega)
  have q1 := fac_ok a (lnOk_arg h hm)
  have s1 := sz_mem hm
  have hg : (e.args.map Ex.row)[0]? = some a.row := by rw [hargs]; rfl
  have hl : e.args.length = 1 := by rw [hargs]; rfl
  clear ih ha ha2 h k k16 hm hargs
  unfold FacC at hA
  have hq : upC 20000 (facS a).1 := upC_mono q1 (by omega)
  clear q1 s1 hs
  generalize facS a = r at *
  obtain ⟨x, y⟩ := r
  simp only at hA hq ⊢
  by_cases hxy : x.length = 1 ∧ y = true
  ·obtain ⟨hx, rfl⟩ := hxy
   obtain ⟨c, rfl⟩ : ∃ c, x = [c] := by match x, hx with | [c], _ => exact ⟨c, rfl⟩
   obtain ⟨h64, hlen⟩ := hq.2 c List.mem_cons_self
   have hsh : short c.1.2 := by unfold short; omega
   have pn := constraint_Negate_abs h64 hsh
   rw [show notF ([c], true) = if (negS c).2 = 0 ∧ (negS c).1.length = 1 then ((negS c).1, true) else ([], false) from rfl]
   try simp only at hA ⊢
   by_cases hn : (negS c).2 = 0 ∧ (negS c).1.length = 1
   ·rw [if_pos hn]
    have pl := constraint_Negate_lit h64 hsh hn.1 hn.2
    have hN := (negS_one hn.1 hn.2).2.2.2
    rw [hN] at pl ⊢
    clear pn hN hn h64 hlen hq hsh
    refine .inr (.inl ⟨ICalls.ofZ (ress := [.c (.tsl ([lessV c.1].map cP)), Go.Abs.B true]) is_bounds_facts (by simp) fun _ => runW_sound ?_, by simp⟩)
    conv in c_bounds_facts => cbv
    rcases hA with ⟨pa, ea⟩ | ⟨pa, ea⟩ | pa
    ·cases ea
    ·repeat' first | simp (disch := omega) only [go_sem, *, k18, hl, hg, Ex.row_eq, Int.toNat_zero, cP] | ((with_reducible refine condT ?_ ?_) <;> intro h <;> try omega) | (with_reducible refine bothW_intro ?_ ?_) | (with_reducible refine nilW_intro (fun h => ?_) ?_) | (refine callW_i (pa.lift0 rfl rfl) ?_) | (refine callW_i (pl.lift0 rfl rfl) ?_)
     refine ⟨[], [], ?_⟩
     simp (disch := omega) only [go_sem, frzLA]
     simp [ren_A, cl_A, cP]
    ·repeat' first | simp (disch := omega) only [go_sem, *, k18, hl, hg, Ex.row_eq, Int.toNat_zero, cP] | ((with_reducible refine condT ?_ ?_) <;> intro h <;> try omega) | (with_reducible refine bothW_intro ?_ ?_) | (with_reducible refine nilW_intro (fun h => ?_) ?_) | (refine callW_i (pa.lift1 rfl rfl rfl) ?_) | (refine callW_i (pl.lift0 rfl rfl) ?_)
     refine ⟨[], [], ?_⟩
     simp (disch := omega) only [go_sem, frzLA]
     simp [ren_A, cl_A, cP]
   ·rw [if_neg hn]
    clear h64 hlen hq hsh
    generalize negS c = X at *
    obtain ⟨xs, er⟩ := X
    try simp only at pn hn
    have hn' : er ≠ 0 ∨ (er = 0 ∧ ¬ ((xs.length : Nat) : Int) = 1) := by
     by_cases h : er = 0
     ·exact .inr ⟨h, fun h1 => hn ⟨h, by omega⟩⟩
     ·exact .inl h
    clear hn
    refine .inl ⟨ICalls.ofZ (ress := [.c .nils, Go.Abs.B false]) is_bounds_facts (by simp) fun _ => runW_sound ?_, rfl⟩
    conv in c_bounds_facts => cbv
    rcases hA with ⟨pa, ea⟩ | ⟨pa, ea⟩ | pa
    ·cases ea
    ·rcases hn' with h1 | ⟨rfl, h1⟩
     all_goals
      repeat' first | simp (disch := omega) only [go_sem, *, k18, hl, hg, Ex.row_eq, Int.toNat_zero, cP, h1] | ((with_reducible refine condT ?_ ?_) <;> intro h <;> try omega) | (with_reducible refine bothW_intro ?_ ?_) | (with_reducible refine nilW_intro (fun h => ?_) ?_) | (refine callW_i (pa.lift0 rfl rfl) ?_) | (refine w_R pn rfl rfl ?_)
      refine ⟨[], [], ?_⟩
      simp (disch := omega) only [go_sem, frzLA]
      simp [ren_A, cl_A, cP]
    ·rcases hn' with h1 | ⟨rfl, h1⟩
     all_goals
      repeat' first | simp (disch := omega) only [go_sem, *, k18, hl, hg, Ex.row_eq, Int.toNat_zero, cP, h1] | ((with_reducible refine condT ?_ ?_) <;> intro h <;> try omega) | (with_reducible refine bothW_intro ?_ ?_) | (with_reducible refine nilW_intro (fun h => ?_) ?_) | (refine callW_i (pa.lift1 rfl rfl rfl) ?_) | (refine w_R pn rfl rfl ?_)
      refine ⟨[], [], ?_⟩
      simp (disch := omega) only [go_sem, frzLA]
      simp [ren_A, cl_A, cP]
  ·have hR : notF (x, y) = (([], false) : CB) := notF_no hxy
   rw [hR]
   have hy : y = false ∨ (y = true ∧ ¬ ((x.length : Nat) : Int) = 1) := by
    cases y
    ·exact .inl rfl
    ·exact .inr ⟨rfl, fun h1 => hxy ⟨by omega, rfl⟩⟩
   clear hR hxy hq
   refine .inl ⟨ICalls.ofZ (ress := [.c .nils, Go.Abs.B false]) is_bounds_facts (by simp) fun _ => runW_sound ?_, rfl⟩
   conv in c_bounds_facts => cbv
   rcases hA with ⟨pa, ea⟩ | ⟨pa, ea⟩ | pa
   ·subst ea
    rcases hy with rfl | ⟨rfl, h1⟩
    all_goals
     repeat' first | simp (disch := omega) only [go_sem, *, k18, hl, hg, Ex.row_eq, Int.toNat_zero, cP] | ((with_reducible refine condT ?_ ?_) <;> intro h <;> try omega) | (with_reducible refine bothW_intro ?_ ?_) | (with_reducible refine nilW_intro (fun h => ?_) ?_) | (refine callW_i (pa.lift0 rfl rfl) ?_)
     refine ⟨[], [], ?_⟩
     simp (disch := omega) only [go_sem, frzLA]
     simp [ren_A, cl_A, cP]
   ·rcases hy with rfl | ⟨rfl, h1⟩
    ·repeat' first | simp (disch := omega) only [go_sem, *, k18, hl, hg, Ex.row_eq, Int.toNat_zero, cP] | ((with_reducible refine condT ?_ ?_) <;> intro h <;> try omega) | (with_reducible refine bothW_intro ?_ ?_) | (with_reducible refine nilW_intro (fun h => ?_) ?_) | (refine callW_i (pa.lift0 rfl rfl) ?_)
     refine ⟨[], [], ?_⟩
     simp (disch := omega) only [go_sem, frzLA]
     simp [ren_A, cl_A, cP]
    ·repeat' first | simp (disch := omega) only [go_sem, *, k18, hl, hg, Ex.row_eq, Int.toNat_zero, cP, h1] | ((with_reducible refine condT ?_ ?_) <;> intro h <;> try omega) | (with_reducible refine bothW_intro ?_ ?_) | (with_reducible refine nilW_intro (fun h => ?_) ?_) | (refine callW_i (pa.lift0 rfl rfl) ?_)
     refine ⟨[], [], ?_⟩
     simp (disch := omega) only [go_sem, frzLA]
     simp [ren_A, cl_A, cP]
   ·rcases hy with rfl | ⟨rfl, h1⟩
    ·repeat' first | simp (disch := omega) only [go_sem, *, k18, hl, hg, Ex.row_eq, Int.toNat_zero, cP] | ((with_reducible refine condT ?_ ?_) <;> intro h <;> try omega) | (with_reducible refine bothW_intro ?_ ?_) | (with_reducible refine nilW_intro (fun h => ?_) ?_) | (refine callW_i (pa.lift1 rfl rfl rfl) ?_)
     refine ⟨[], [], ?_⟩
     simp (disch := omega) only [go_sem, frzLA]
     simp [ren_A, cl_A, cP]
    ·repeat' first | simp (disch := omega) only [go_sem, *, k18, hl, hg, Ex.row_eq, Int.toNat_zero, cP, h1] | ((with_reducible refine condT ?_ ?_) <;> intro h <;> try omega) | (with_reducible refine bothW_intro ?_ ?_) | (with_reducible refine nilW_intro (fun h => ?_) ?_) | (refine callW_i (pa.lift1 rfl rfl rfl) ?_)
     refine ⟨[], [], ?_⟩
     simp (disch := omega) only [go_sem, frzLA]
     simp [ren_A, cl_A, cP]
 ·rw [facN_no k k16 k18]
  have d1 : ¬ e.op = 13 := by omega
  have d2 : ¬ e.op = 14 := by omega
  have d3 : ¬ e.op = 15 := by omega
  clear ih ha h k
  refine .inl ⟨ICalls.ofZ (ress := [.c .nils, Go.Abs.B false]) is_bounds_facts (by simp) fun _ => runW_sound ?_, rfl⟩
  conv in c_bounds_facts => cbv
  repeat' first | simp (disch := omega) only [go_sem, *, d1, d2, d3, k16, k18] | ((with_reducible refine condT ?_ ?_) <;> intro h <;> try omega) | (with_reducible refine bothW_intro ?_ ?_) | (with_reducible refine nilW_intro (fun h => ?_) ?_)
  refine ⟨[], [], ?_⟩
  simp (disch := omega) only [go_sem, frzLA]
  simp [ren_A, cl_A, cP]
end Go.Proofs.YtbblkakcadonjaaGreatDoor
set_option linter.unusedVariables false
set_option linter.unusedSimpArgs false
set_option maxRecDepth 20000
set_option maxHeartbeats 4000000
set_option maxRecDepth 1000000
namespace Go.Proofs.YtbblkakcadonjaaGreatDoor
open Go.Abs Go.RowKit

theorem bounds_facts_p {e : Ex} (h : lnOk e) (hs : e.sz ≤ 20000) : PCalls Tryz.prog n_bounds_facts [aEx e] (aCB (facS e)) := by
 rcases bounds_facts_c e h hs with ⟨c, h0⟩ | ⟨c, _⟩ | c
 ·exact c.toP (by show _ = some (AV.tup [aCons (facS e).1, Go.Abs.B (facS e).2]); rw [h0]; rfl)
 ·exact c.toP rfl
 ·exact c.toP rfl
theorem fr_cons {q N N' a r r' : Nat} {b : Box} {F : List (Nat × Box)} (h : Go.Abs.frOk N [q, r] F) (h0 : q < a) (ha : N ≤ a) (ha' : a < N') (hb : flatX b = true) (hr : r' = r ∨ N ≤ r') (hne : a ≠ r') : Go.Abs.frOk N' [q, r'] ((a, b) :: F) := by
 refine ⟨ha', hb, notIn_iff.2 fun m hm => ?_, h.mono (by omega) fun n hn h' => notIn_iff.2 fun m hm => ?_⟩
 ·simp only [List.mem_cons, List.not_mem_nil, or_false] at hm
  omega
 ·have h1 := notIn_iff.1 h' q (by simp)
  have h2 := notIn_iff.1 h' r (by simp)
  simp only [List.mem_cons, List.not_mem_nil, or_false] at hm
  omega

theorem frOk_none {N n : Nat} : ∀ {F : List (Nat × Box)} {s : List Nat}, Go.Abs.frOk N s F → N ≤ n → findB F n = none
 | [], s, _, _ => rfl
 |(nm, b) :: r, s, h, hn => by
  rw [findB, if_neg (by have := h.1; omega)]
  exact frOk_none h.2.2.2 hn
def obP (d k : Nat) (o : Ob) : List PC := [pI d, pI k, pI o.1.1.1, pMonos o.1.1.2, pB o.1.2, pSl cP o.2]
def rowsO (d : Nat) (l : List Ob) : List (List PC) := l.zipIdx.map fun x => obP d x.2 x.1
theorem rowsO_one (d : Nat) (l : List Ob) (o : Ob) : rowsO d (l ++ [o]) = rowsO d l ++ [[pI d, pI l.length, pI o.1.1.1, pMonos o.1.1.2, pB o.1.2, pSl cP o.2]] := by simp [rowsO, List.zipIdx_append, obP]
theorem rowsO_len (d : Nat) (l : List Ob) : (rowsO d l).length = l.length := by simp [rowsO]
abbrev bWl (p : Prg) (d : Nat) (c : AC) (n : Int) : Box := .var [.pure (pStrs p.sizes), .pure (pSl cP p.wher), .pure (pSl parP p.params), .pure (pSl defP p.defs), .pure (pStrs p.outs), .pure (pI d), c, .pure (pI n)]
abbrev wlM (q r : Nat) (p : Prg) (d : Nat) (l : List Ob) (F : List (Nat × Box)) : List (Nat × Box) := (r, .arr 52 6 (rowsO d l)) :: (q, bWl p d (.ref r) l.length) :: F
def obN (cs : List Con) (l : List Con) : List Ob := l.map fun c => (c, cs)
theorem needS_eq (f x : Lin) : ∃ T : Lin, needS f x = [(f, false), (T, false)] ∧ ((belS f x).2 = 0 → T = (belS f x).1) ∧ ((belS f x).2 ≠ 0 → T = (-1, [])) := ⟨if (belS f x).2 = 0 then (belS f x).1 else (-1, []), rfl, fun h => if_pos h, fun h => if_neg h⟩
set_option maxHeartbeats 2000000 in
theorem bounds_need_abs {p : Prg} {d : Nat} {f x : Lin} {cs : List Con} {l : List Ob} {q r nx : Nat} {F : List (Nat × Box)} (hf : lin64 f) (hx : lin64 x) (lf : f.2.length ≤ 40000000) (lx : x.2.length ≤ 40000000) (hl : l.length ≤ 100000000) (hr : q < r) (hrn : r < nx) (hF : Go.Abs.frOk nx [q, r] F) :
  ICalls Tryz.prog n_bounds_walker_need [.c (.ptr q 0), aLin f.1 f.2, aLin x.1 x.2, aCons cs] (wlM q r p d l F) nx (packV []) (wlM q nx p d (l ++ obN cs (needS f x)) F) (nx + 1) := by
 refine ICalls.ofZ is_bounds_walker_need (by simp) fun _ => runW_sound ?_
 have pb := bounds_below_abs hf hx lf lx
 have pc := lin_Const_abs (-1)
 have hdl := hF.del (n := r) (.inl (by simp))
 have hqk : ∀ k, q < nx + k := fun k => by omega
 obtain ⟨T, hT, h1, h2⟩ := needS_eq f x
 rw [hT]
 clear hT lf lx hf hx
 obtain ⟨K, L⟩ := f
 conv in c_bounds_walker_need => cbv
 have key : T = (-1, []) ∨ True := .inr trivial
 obtain ⟨os, hos⟩ : ∃ os : List Con, os = [((K, L), false), (T, false)] := ⟨_, rfl⟩
 have hol : os.length = 2 := by rw [hos]; rfl
 have hoq : ∀ c ∈ os, c.2 = false := by rw [hos]; simp
 have hor : os.map (fun c => linP c.1) = [[pI K, pMonos L], [pI T.1, pMonos T.2]] := by rw [hos]; rfl
 rw [← hos]
 generalize belS (K, L) x = s at *
 obtain ⟨⟨K3, L3⟩, er⟩ := s
 try simp only at pb h1 h2
 have hd : (er = 0 ∧ T = (K3, L3)) ∨ (er ≠ 0 ∧ T = (-1, [])) := by
  by_cases h : er = 0
  ·exact .inl ⟨h, h1 h⟩
  ·exact .inr ⟨h, h2 h⟩
 clear h1 h2 key
 rcases hd with ⟨h0, rfl⟩ | ⟨h0, rfl⟩
 all_goals
  repeat' first | simp (disch := omega) only [go_sem, *, ifN, ifNP, h0] | ((with_reducible refine condT ?_ ?_) <;> intro h <;> try omega) | (refine w_R pb rfl rfl ?_) | (refine w_R pc rfl rfl ?_)
  refine AW_loop (fun k : Nat => ⟨[(0, .c (.ptr q 0)), (3, aCons cs), (23, .c (.tsl (os.map fun c => linP c.1))), (24, I 2), (25, I k)], wlM q nx p d (l ++ obN cs (os.take k)) F, nx + 1, nx⟩) (fun k => k ≤ 2) (fun k => 2 - k) ⟨0, [(nx, r)], by omega, ?_⟩ ?_
  ·rw [hor]
   simp only [List.take_zero, obN, List.map_nil, List.append_nil]
   refine Wk_intro (by simp (disch := omega) [ifN, hqk]) ?_ rfl (by simp; try omega) (by simp [wkL]; try omega)
   repeat' first | exact hF.wkA | refine wkM_cons ?_ ?_ ?_ ?_ ?_ | (simp (disch := omega) [ifN, hqk] <;> omega) | omega
  clear hor hdl pb pc
  intro k hk
  refine runW_sound ?_
  have h0n : q < nx := by omega
  have hdn := hF.del (n := nx) (.inr (Nat.le_refl _))
  by_cases hlt : k < 2
  ·have hlt' : k < os.length := by omega
   have g1 := map_get (f := fun c : Con => linP c.1) hlt'
   have hq := hoq _ (List.getElem_mem hlt')
   have hlo : (l ++ obN cs (os.take k)).length ≤ 100000002 := by simp [obN]; omega
   have ho : l ++ obN cs (os.take (k + 1)) = l ++ obN cs (os.take k) ++ [(os[k], cs)] := by
    rw [List.take_succ_eq_append_getElem hlt', obN, List.map_append, List.append_assoc]
    rfl
   have hr1 := rowsO_one d (l ++ obN cs (os.take k)) (os[k], cs)
   rw [← ho] at hr1
   have hn1 : ((l ++ obN cs (os.take (k + 1))).length : Int) = (l ++ obN cs (os.take k)).length + 1 := by rw [ho]; simp only [List.length_append, List.length_cons, List.length_nil]; omega
   have hro := rowsO_len d (l ++ obN cs (os.take k))
   have HR := Lib.hid hr1
   have HN := Lib.hid hn1
   clear hr1 hn1 ho hos
   obtain ⟨l2, hl2⟩ : ∃ l2, l2 = l ++ obN cs (os.take (k + 1)) := ⟨_, rfl⟩
   rw [← hl2] at HR HN
   have HL := Lib.hid hl2
   clear hl2
   generalize l ++ obN cs (os.take k) = l1 at *
   generalize os[k] = c at *
   obtain ⟨⟨Kc, Lc⟩, q⟩ := c
   simp only at hq
   subst hq
   have g2 : (os.map fun c : Con => linP c.1)[k]? = some [pI Kc, pMonos Lc] := g1
   clear g1 hoq hol h0
   simp only at HR
   repeat' first | simp (disch := omega) only [go_sem, *, g2, ifN, ifNP, wrap_i64] | ((with_reducible refine condT ?_ ?_) <;> intro h <;> try omega) | (refine app_own (by simp (disch := omega) only [findB, findB_setB, ifN, eq_self, ↓reduceIte, Option.map_some] <;> rfl) (by intro h; cases h) (rowsOk_one rfl) (by simp only [List.length_append, List.length_cons, List.length_nil]; omega) (by simp only [List.length_append, List.length_cons, List.length_nil]; omega) ?_)
   rw [← HR.out, ← HN.out]
   try rw [hdn]
   refine ⟨k + 1, [(nx, nx + 2)], by omega, by omega, ?_⟩
   rw [← HL.out]
   refine Wk_intro (by simp (disch := omega) [ifN, hqk, h0n]) ?_ rfl (by simp; try omega) (by simp [wkL]; try omega)
   repeat' first | exact hF.wkA | refine wkM_cons ?_ ?_ ?_ ?_ ?_ | (simp (disch := omega) [ifN, hqk, h0n] <;> omega) | omega
  ·obtain rfl : k = 2 := by omega
   rw [List.take_of_length_le (by omega)]
   repeat' first | simp (disch := omega) only [go_sem, *, ifN, ifNP] | ((with_reducible refine condT ?_ ?_) <;> intro h <;> try omega)
   refine ⟨[], [], ?_⟩
   simp (disch := omega) only [go_sem, frzLA, ifN, ifNP]
   refine Wk_intro (by simp (disch := omega) [ifN, hqk]) ?_ rfl (by simp; try omega) (by simp [wkL]; try omega)
   repeat' first | exact hF.wkA | refine wkM_cons ?_ ?_ ?_ ?_ ?_ | (simp (disch := omega) [ifN, hqk] <;> omega) | omega
end Go.Proofs.YtbblkakcadonjaaGreatDoor
