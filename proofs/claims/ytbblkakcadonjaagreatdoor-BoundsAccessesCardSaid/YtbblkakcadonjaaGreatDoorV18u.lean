/- Walks: linear values and facts of conditions: the reference's. -/
import Derived.Test.YtbblkakcadonjaaGreatDoorV18c
import Derived.Test.YtbblkakcadonjaaGreatDoorV18g
import Derived.Test.YtbblkakcadonjaaGreatDoorV17c
set_option linter.unusedVariables false
set_option linter.unusedSimpArgs false
set_option maxRecDepth 20000
set_option maxHeartbeats 4000000
set_option maxRecDepth 1000000
namespace Go.Proofs.YtbblkakcadonjaaGreatDoor
open Go.Abs Go.RowKit

set_option maxHeartbeats 4000000 in
theorem ref18_Linear_abs (e : Ex) : lnOk e → e.sz ≤ 20000 → PCalls Tryz.prog n_ref18_Linear [aEx e] (aLB (linR e)) := by
 refine Ex.ind (p := fun e => lnOk e → e.sz ≤ 20000 → PCalls Tryz.prog n_ref18_Linear [aEx e] (aLB (linR e))) (fun e ih h hs => ?_) e
 refine PCalls.of is_ref18_Linear (by simp) fun hb => runW_sound ?_
 clear hb
 have ha := (rnkAll_self h.1).1
 rw [linR_eq]
 conv in c_ref18_Linear => cbv
 by_cases k2 : e.op = 2
 ·rw [show linNR e.op e.val e.ty e.lin (e.args.map linR) = (e.lin, true) by simp [linNR, k2]]
  clear ih ha h
  repeat' first | simp (disch := omega) only [go_sem, *, k2] | ((with_reducible refine condT ?_ ?_) <;> intro h <;> try omega) | (with_reducible refine bothW_intro ?_ ?_) | (with_reducible refine nilW_intro (fun h => ?_) ?_)
  all_goals rfl
 by_cases k1 : e.op = 1
 ·rw [show linNR e.op e.val e.ty e.lin (e.args.map linR) = ((e.val.1, []), decide (e.ty.1 = 3)) by simp [linNR, k1]]
  have pc := ref05_Const_abs e.val.1
  clear ih ha h k2
  repeat' first | simp (disch := omega) only [go_sem, *, k1] | ((with_reducible refine condT ?_ ?_) <;> intro h <;> try omega) | (with_reducible refine bothW_intro ?_ ?_) | (with_reducible refine nilW_intro (fun h => ?_) ?_) | (refine w_R pc rfl rfl ?_)
  all_goals rfl
 by_cases k8 : e.op = 8
 ·rw [k8] at ha
  obtain ⟨a, hargs⟩ := args1 (l := e.args) ha
  have hm : a ∈ e.args := by rw [hargs]; exact List.mem_cons_self
  have hN : linNR e.op e.val e.ty e.lin (e.args.map linR) = ((scaleE (linR a).1 (-1)).1, (linR a).2 && decide ((scaleE (linR a).1 (-1)).2 = 0)) := by rw [hargs, k8]; simp [linNR]
  rw [hN]
  have pa := ih a hm (lnOk_arg h hm) (by have := sz_mem hm; omega)
  obtain ⟨q1, q2, _⟩ := upL_short (linR_ok a (lnOk_arg h hm)) (by have := sz_mem hm; omega)
  have hg : (e.args.map Ex.row)[0]? = some a.row := by rw [hargs]; rfl
  have hl : e.args.length = 1 := by rw [hargs]; rfl
  clear ih ha h k2 k1 hN hm hargs hs
  generalize linR a = r at *
  obtain ⟨⟨K, l⟩, b⟩ := r
  have ps := ref05_Scale_abs (a := (K, l)) (b := -1) q1 (by decide) q2
  clear q1 q2
  simp only at ps ⊢
  generalize scaleE (K, l) (-1) = s at *
  obtain ⟨⟨K', l'⟩, er⟩ := s
  try simp only at ps
  cases b
  all_goals
   repeat' first | simp (disch := omega) only [go_sem, *, k8, hl, hg, Ex.row_eq, Int.toNat_zero] | ((with_reducible refine condT ?_ ?_) <;> intro h <;> try omega) | (with_reducible refine bothW_intro ?_ ?_) | (with_reducible refine nilW_intro (fun h => ?_) ?_) | (refine w_R pa rfl rfl ?_) | (refine w_R ps rfl rfl ?_)
   all_goals rfl
 by_cases k45 : e.op = 4 ∨ e.op = 5
 ·have ha2 : (e.args.length : Int) = 2 := by rw [ha]; unfold arity; rcases k45 with k | k <;> rw [k] <;> rfl
  obtain ⟨a, b, hargs⟩ := args2 ha2
  have hm : a ∈ e.args := by rw [hargs]; exact List.mem_cons_self
  have hm' : b ∈ e.args := by rw [hargs]; exact List.mem_cons_of_mem _ List.mem_cons_self
  have pa := ih a hm (lnOk_arg h hm) (by have := sz_mem hm; omega)
  have pb := ih b hm' (lnOk_arg h hm') (by have := sz_mem hm'; omega)
  obtain ⟨q1, q2, q3⟩ := upL_short (linR_ok a (lnOk_arg h hm)) (by have := sz_mem hm; omega)
  obtain ⟨r1, r2, r3⟩ := upL_short (linR_ok b (lnOk_arg h hm')) (by have := sz_mem hm'; omega)
  have hg : (e.args.map Ex.row)[0]? = some a.row := by rw [hargs]; rfl
  have hg1 : (e.args.map Ex.row)[1]? = some b.row := by rw [hargs]; rfl
  have hl : e.args.length = 2 := by rw [hargs]; rfl
  rcases k45 with k | k
  ·have hN : linNR e.op e.val e.ty e.lin (e.args.map linR) = ((addE (linR a).1 (linR b).1).1, (linR a).2 && (linR b).2 && true && decide ((addE (linR a).1 (linR b).1).2 = 0)) := by rw [hargs, k]; simp [linNR]
   rw [hN]
   clear ih ha ha2 h k2 k1 k8 hN hm hm' hargs hs
   generalize linR a = r at *
   obtain ⟨⟨K, l⟩, x⟩ := r
   generalize linR b = r at *
   obtain ⟨⟨K', l'⟩, y⟩ := r
   have ps := ref05_Add_abs q1 r1 (by simp only at q3 r3 ⊢; omega)
   clear q1 q2 r1 r2 q3 r3
   simp only at ps ⊢
   generalize addE (K, l) (K', l') = s at *
   obtain ⟨⟨K2, l2⟩, er⟩ := s
   try simp only at ps
   cases x <;> cases y
   all_goals
    repeat' first | simp (disch := omega) only [go_sem, *, k, hl, hg, hg1, Ex.row_eq, Int.toNat_zero, Int.toNat_one] | ((with_reducible refine condT ?_ ?_) <;> intro h <;> try omega) | (with_reducible refine bothW_intro ?_ ?_) | (with_reducible refine nilW_intro (fun h => ?_) ?_) | (refine w_R pa rfl rfl ?_) | (refine w_R pb rfl rfl ?_) | (refine w_R ps rfl rfl ?_)
    all_goals rfl
  ·have hN : linNR e.op e.val e.ty e.lin (e.args.map linR) = ((addE (linR a).1 (scaleE (linR b).1 (-1)).1).1, (linR a).2 && (linR b).2 && decide ((scaleE (linR b).1 (-1)).2 = 0) && decide ((addE (linR a).1 (scaleE (linR b).1 (-1)).1).2 = 0)) := by rw [hargs, k]; simp [linNR]
   rw [hN]
   clear ih ha ha2 h k2 k1 k8 hN hm hm' hargs hs
   generalize linR a = r at *
   obtain ⟨⟨K, l⟩, x⟩ := r
   generalize linR b = r at *
   obtain ⟨⟨K', l'⟩, y⟩ := r
   have p1 := ref05_Scale_abs (a := (K', l')) (b := -1) r1 (by decide) r2
   have ps := ref05_Add_abs q1 (scaleE_64 (a := (K', l'))) (by have := scaleE_len (K', l') (-1); simp only at q3 r3 this ⊢; omega)
   clear q1 q2 r1 r2 q3 r3
   simp only at p1 ps ⊢
   generalize scaleE (K', l') (-1) = s at *
   obtain ⟨⟨K3, l3⟩, e3⟩ := s
   simp only at p1 ps ⊢
   generalize addE (K, l) (K3, l3) = s at *
   obtain ⟨⟨K2, l2⟩, er⟩ := s
   try simp only at ps
   cases x <;> cases y
   all_goals
    repeat' first | simp (disch := omega) only [go_sem, *, k, hl, hg, hg1, Ex.row_eq, Int.toNat_zero, Int.toNat_one] | ((with_reducible refine condT ?_ ?_) <;> intro h <;> try omega) | (with_reducible refine bothW_intro ?_ ?_) | (with_reducible refine nilW_intro (fun h => ?_) ?_) | (refine w_R pa rfl rfl ?_) | (refine w_R pb rfl rfl ?_) | (refine w_R p1 rfl rfl ?_) | (refine w_R ps rfl rfl ?_)
    all_goals first | rfl | (simp_all; done) | (simp; done)
 ·have hN : linNR e.op e.val e.ty e.lin (e.args.map linR) = lb0 := by
   unfold linNR
   rw [if_neg k2, if_neg k1, if_neg k8, if_neg (fun h => k45 (.inr h)), if_neg (fun h => k45 (.inl h))]
  rw [hN]
  have k4 : ¬ e.op = 4 := fun h => k45 (.inl h)
  have k5 : ¬ e.op = 5 := fun h => k45 (.inr h)
  clear ih ha h hN k45
  repeat' first | simp (disch := omega) only [go_sem, *, k2, k1, k8, k4, k5] | ((with_reducible refine condT ?_ ?_) <;> intro h <;> try omega) | (with_reducible refine bothW_intro ?_ ?_) | (with_reducible refine nilW_intro (fun h => ?_) ?_)
  all_goals rfl
set_option maxHeartbeats 4000000 in
theorem ref18_Facts_abs (e : Ex) : lnOk e → e.sz ≤ 20000 → PCalls Tryz.prog n_ref18_Facts [aEx e] (aCB (facS e)) := by
 refine Ex.ind (p := fun e => lnOk e → e.sz ≤ 20000 → PCalls Tryz.prog n_ref18_Facts [aEx e] (aCB (facS e))) (fun e ih h hs => ?_) e
 have ha := (rnkAll_self h.1).1
 by_cases k : 13 ≤ e.op ∧ e.op ≤ 15
 ·have ha2 : (e.args.length : Int) = 2 := by
   rw [ha]
   have : e.op = 13 ∨ e.op = 14 ∨ e.op = 15 := by omega
   rcases this with k | k | k <;> rw [k] <;> rfl
  obtain ⟨a, b, hargs⟩ := args2 ha2
  have hm : a ∈ e.args := by rw [hargs]; exact List.mem_cons_self
  have hm' : b ∈ e.args := by rw [hargs]; exact List.mem_cons_of_mem _ List.mem_cons_self
  have pa := ref18_Linear_abs a (lnOk_arg h hm) (by have := sz_mem hm; omega)
  have pb := ref18_Linear_abs b (lnOk_arg h hm') (by have := sz_mem hm'; omega)
  obtain ⟨q1, q2, q3⟩ := upL_short (linR_ok a (lnOk_arg h hm)) (by have := sz_mem hm; omega)
  obtain ⟨r1, r2, r3⟩ := upL_short (linR_ok b (lnOk_arg h hm')) (by have := sz_mem hm'; omega)
  obtain ⟨sa1, sa2⟩ := linSR a
  obtain ⟨sb1, sb2⟩ := linSR b
  have hF : facS e = if (linR a).2 = true ∧ (linR b).2 = true then okF (cmpS e.op (linR a).1 (linR b).1) (decide (e.op = 15)) else ([], false) := by
   rw [facN_cmp k hargs, sa1, sb1]
   by_cases hh : (linR a).2 = true ∧ (linR b).2 = true
   ·rw [if_pos hh, if_pos hh, sa2 (sa1.trans hh.1), sb2 (sb1.trans hh.2)]
   ·rw [if_neg hh, if_neg hh]
  have hg : (e.args.map Ex.row)[0]? = some a.row := by rw [hargs]; rfl
  have hg1 : (e.args.map Ex.row)[1]? = some b.row := by rw [hargs]; rfl
  have hl : e.args.length = 2 := by rw [hargs]; rfl
  have hd : e.op = 13 ∨ e.op = 14 ∨ e.op = 15 := by omega
  rw [hF]
  clear ih ha ha2 h hs hm hm' hargs sa1 sa2 sb1 sb2 hF k
  generalize linR a = r at *
  obtain ⟨⟨K, l⟩, x⟩ := r
  generalize linR b = r at *
  obtain ⟨⟨K', l'⟩, y⟩ := r
  by_cases hxy : x = true ∧ y = true
  ·obtain ⟨rfl, rfl⟩ := hxy
   rw [if_pos ⟨rfl, rfl⟩]
   have p0 := ref18_minus_abs (k := 0) (.inl rfl) q1 r1 q3 r3
   have p1 := ref18_minus_abs (k := -1) (.inr rfl) q1 r1 q3 r3
   rw [if_pos rfl] at p0
   rw [if_neg (by decide)] at p1
   clear q1 q2 r1 r2 q3 r3
   unfold okF
   simp only at p0 p1 ⊢
   rcases hd with hd | hd | hd
   ·rw [show cmpS e.op (K, l) (K', l') = belS (K, l) (K', l') by rw [cmpS, if_pos hd]]
    generalize belS (K, l) (K', l') = s at *
    obtain ⟨⟨K2, l2⟩, er⟩ := s
    clear p0
    by_cases h0 : er = 0
    ·subst h0
     rw [if_pos rfl]
     refine PCalls.of is_ref18_Facts (by simp) fun hb => runW_sound ?_
     conv in c_ref18_Facts => cbv
     repeat' first | simp (disch := omega) only [go_sem, *, hd, hl, hg, hg1, Ex.row_eq, Int.toNat_zero, Int.toNat_one] | ((with_reducible refine condT ?_ ?_) <;> intro h <;> try omega) | (with_reducible refine bothW_intro ?_ ?_) | (with_reducible refine nilW_intro (fun h => ?_) ?_) | (refine w_R pa rfl rfl ?_) | (refine w_R pb rfl rfl ?_) | (refine w_R p1 rfl rfl ?_)
     all_goals rfl
    ·rw [if_neg h0]
     refine PCalls.of is_ref18_Facts (by simp) fun hb => runW_sound ?_
     conv in c_ref18_Facts => cbv
     repeat' first | simp (disch := omega) only [go_sem, *, h0, hd, hl, hg, hg1, Ex.row_eq, Int.toNat_zero, Int.toNat_one] | ((with_reducible refine condT ?_ ?_) <;> intro h <;> try omega) | (with_reducible refine bothW_intro ?_ ?_) | (with_reducible refine nilW_intro (fun h => ?_) ?_) | (refine w_R pa rfl rfl ?_) | (refine w_R pb rfl rfl ?_) | (refine w_R p1 rfl rfl ?_)
     all_goals rfl
   all_goals
    rw [show cmpS e.op (K, l) (K', l') = minS (K, l) (K', l') by rw [cmpS, if_neg (by omega)]]
    generalize minS (K, l) (K', l') = s at *
    obtain ⟨⟨K2, l2⟩, er⟩ := s
    clear p1
    by_cases h0 : er = 0
    ·subst h0
     rw [if_pos rfl]
     refine PCalls.of is_ref18_Facts (by simp) fun hb => runW_sound ?_
     conv in c_ref18_Facts => cbv
     repeat' first | simp (disch := omega) only [go_sem, *, hd, hl, hg, hg1, Ex.row_eq, Int.toNat_zero, Int.toNat_one] | ((with_reducible refine condT ?_ ?_) <;> intro h <;> try omega) | (with_reducible refine bothW_intro ?_ ?_) | (with_reducible refine nilW_intro (fun h => ?_) ?_) | (refine w_R pa rfl rfl ?_) | (refine w_R pb rfl rfl ?_) | (refine w_R p0 rfl rfl ?_)
     all_goals rfl
    ·rw [if_neg h0]
     refine PCalls.of is_ref18_Facts (by simp) fun hb => runW_sound ?_
     conv in c_ref18_Facts => cbv
     repeat' first | simp (disch := omega) only [go_sem, *, h0, hd, hl, hg, hg1, Ex.row_eq, Int.toNat_zero, Int.toNat_one] | ((with_reducible refine condT ?_ ?_) <;> intro h <;> try omega) | (with_reducible refine bothW_intro ?_ ?_) | (with_reducible refine nilW_intro (fun h => ?_) ?_) | (refine w_R pa rfl rfl ?_) | (refine w_R pb rfl rfl ?_) | (refine w_R p0 rfl rfl ?_)
     all_goals rfl
  ·rw [if_neg hxy]
   clear q1 q2 r1 r2 q3 r3
   refine PCalls.of is_ref18_Facts (by simp) fun hb => runW_sound ?_
   conv in c_ref18_Facts => cbv
   rcases hd with hd | hd | hd
   all_goals
    cases x <;> cases y
    all_goals first
     | (exact absurd ⟨rfl, rfl⟩ hxy; done)
     | skip
    all_goals
     clear hxy
     repeat' first | simp (disch := omega) only [go_sem, *, hd, hl, hg, hg1, Ex.row_eq, Int.toNat_zero, Int.toNat_one] | ((with_reducible refine condT ?_ ?_) <;> intro h <;> try omega) | (with_reducible refine bothW_intro ?_ ?_) | (with_reducible refine nilW_intro (fun h => ?_) ?_) | (refine w_R pa rfl rfl ?_) | (refine w_R pb rfl rfl ?_)
    all_goals rfl
 by_cases k16 : e.op = 16
 ·have ha2 : (e.args.length : Int) = 2 := by rw [ha, k16]; rfl
  obtain ⟨a, b, hargs⟩ := args2 ha2
  rw [facN_and k16 hargs]
  have hm : a ∈ e.args := by rw [hargs]; exact List.mem_cons_self
  have hm' : b ∈ e.args := by rw [hargs]; exact List.mem_cons_of_mem _ List.mem_cons_self
  have pa := ih a hm (lnOk_arg h hm) (by have := sz_mem hm; omega)
  have pb := ih b hm' (lnOk_arg h hm') (by have := sz_mem hm'; omega)
  have q1 := (fac_ok a (lnOk_arg h hm)).1
  have q2 := (fac_ok b (lnOk_arg h hm')).1
  have s1 := sz_mem hm
  have s2 := sz_mem hm'
  have hg : (e.args.map Ex.row)[0]? = some a.row := by rw [hargs]; rfl
  have hg1 : (e.args.map Ex.row)[1]? = some b.row := by rw [hargs]; rfl
  have hl : e.args.length = 2 := by rw [hargs]; rfl
  clear ih ha ha2 h k hm hm' hargs
  have l1 : (facS a).1.length ≤ 20000 := by omega
  have l2 : (facS b).1.length ≤ 20000 := by omega
  clear q1 q2 s1 s2 hs
  generalize facS a = r at *
  obtain ⟨x, y⟩ := r
  generalize facS b = r at *
  obtain ⟨x', y'⟩ := r
  have ok' : rowsOk 3 (x'.map cP) := rowsOk_map fun _ => rfl
  have ok : rowsOk 3 (x.map cP) := rowsOk_map fun _ => rfl
  simp only at l1 l2 pa pb ⊢
  rw [show aCB (x ++ x', y && y') = .tup [.c (.pure (.slice (x.map cP ++ x'.map cP))), Go.Abs.B (y && y')] by show AV.tup [.c (.pure (.slice (List.map cP (_ ++ _)))), _] = _; rw [List.map_append]]
  refine PCalls.of is_ref18_Facts (by simp) fun hb => runW_sound ?_
  conv in c_ref18_Facts => cbv
  cases y
  all_goals
   repeat' first | simp (disch := omega) only [go_sem, *, k16, hl, hg, hg1, Ex.row_eq, Int.toNat_zero, Int.toNat_one] | ((with_reducible refine condT ?_ ?_) <;> intro h <;> try omega) | (with_reducible refine bothW_intro ?_ ?_) | (with_reducible refine nilW_intro (fun h => ?_) ?_) | (refine w_R pa rfl rfl ?_) | (refine w_R pb rfl rfl ?_) | (refine app_nil ok (by simp only [List.length_map]; omega) (by simp only [List.length_map]; omega) ?_) | (refine app_own rfl (by intro h; cases h) ok' (by simp only [List.length_map]; omega) (by simp only [List.length_map]; omega) ?_)
  all_goals rfl
 by_cases k18 : e.op = 18
 ·have ha2 : (e.args.length : Int) = 1 := by rw [ha, k18]; rfl
  obtain ⟨a, hargs⟩ := args1 ha2
  rw [facN_not k18 hargs]
  have hm : a ∈ e.args := by rw [hargs]; exact List.mem_cons_self
  have pa := ih a hm (lnOk_arg h hm) (by have := sz_mem hm; omega)
  have q1 := fac_ok a (lnOk_arg h hm)
  have s1 := sz_mem hm
  have hg : (e.args.map Ex.row)[0]? = some a.row := by rw [hargs]; rfl
  have hl : e.args.length = 1 := by rw [hargs]; rfl
  clear ih ha ha2 h k k16 hm hargs
  have hq : upC 20000 (facS a).1 := upC_mono q1 (by omega)
  clear q1 s1 hs
  generalize facS a = r at *
  obtain ⟨x, y⟩ := r
  simp only at pa hq ⊢
  by_cases hxy : x.length = 1 ∧ y = true
  ·obtain ⟨hx, rfl⟩ := hxy
   obtain ⟨c, rfl⟩ : ∃ c, x = [c] := by match x, hx with | [c], _ => exact ⟨c, rfl⟩
   obtain ⟨h64, hlen⟩ := hq.2 c List.mem_cons_self
   have hsh : short c.1.2 := by unfold short; omega
   have pn := ref06_Negate_abs h64 hsh
   rw [show notF ([c], true) = if (negS c).2 = 0 ∧ (negS c).1.length = 1 then ((negS c).1, true) else ([], false) from rfl]
   clear h64 hlen hq hsh
   generalize negS c = X at *
   obtain ⟨xs, er⟩ := X
   try simp only at pn pa ⊢
   by_cases hn : er = 0 ∧ xs.length = 1
   ·rw [if_pos hn]
    obtain ⟨rfl, hx1⟩ := hn
    refine PCalls.of is_ref18_Facts (by simp) fun hb => runW_sound ?_
    conv in c_ref18_Facts => cbv
    repeat' first | simp (disch := omega) only [go_sem, *, k18, hl, hg, Ex.row_eq, Int.toNat_zero, cP, hx1] | ((with_reducible refine condT ?_ ?_) <;> intro h <;> try omega) | (with_reducible refine bothW_intro ?_ ?_) | (with_reducible refine nilW_intro (fun h => ?_) ?_) | (refine w_R pa rfl rfl ?_) | (refine w_R pn rfl rfl ?_)
    all_goals rfl
   ·rw [if_neg hn]
    have hn' : er ≠ 0 ∨ (er = 0 ∧ ¬ ((xs.length : Nat) : Int) = 1) := by
     by_cases h : er = 0
     ·exact .inr ⟨h, fun h1 => hn ⟨h, by omega⟩⟩
     ·exact .inl h
    clear hn
    refine PCalls.of is_ref18_Facts (by simp) fun hb => runW_sound ?_
    conv in c_ref18_Facts => cbv
    rcases hn' with h1 | ⟨rfl, h1⟩
    all_goals
     repeat' first | simp (disch := omega) only [go_sem, *, k18, hl, hg, Ex.row_eq, Int.toNat_zero, cP, h1] | ((with_reducible refine condT ?_ ?_) <;> intro h <;> try omega) | (with_reducible refine bothW_intro ?_ ?_) | (with_reducible refine nilW_intro (fun h => ?_) ?_) | (refine w_R pa rfl rfl ?_) | (refine w_R pn rfl rfl ?_)
    all_goals rfl
  ·rw [show notF (x, y) = (([], false) : CB) from notF_no hxy]
   have hy : y = false ∨ (y = true ∧ ¬ ((x.length : Nat) : Int) = 1) := by
    cases y
    ·exact .inl rfl
    ·exact .inr ⟨rfl, fun h1 => hxy ⟨by omega, rfl⟩⟩
   clear hxy hq
   refine PCalls.of is_ref18_Facts (by simp) fun hb => runW_sound ?_
   conv in c_ref18_Facts => cbv
   rcases hy with rfl | ⟨rfl, h1⟩
   ·repeat' first | simp (disch := omega) only [go_sem, *, k18, hl, hg, Ex.row_eq, Int.toNat_zero] | ((with_reducible refine condT ?_ ?_) <;> intro h <;> try omega) | (with_reducible refine bothW_intro ?_ ?_) | (with_reducible refine nilW_intro (fun h => ?_) ?_) | (refine w_R pa rfl rfl ?_)
    all_goals rfl
   ·repeat' first | simp (disch := omega) only [go_sem, *, k18, hl, hg, Ex.row_eq, Int.toNat_zero, h1] | ((with_reducible refine condT ?_ ?_) <;> intro h <;> try omega) | (with_reducible refine bothW_intro ?_ ?_) | (with_reducible refine nilW_intro (fun h => ?_) ?_) | (refine w_R pa rfl rfl ?_)
    all_goals rfl
 ·rw [facN_no k k16 k18]
  have d1 : ¬ e.op = 13 := by omega
  have d2 : ¬ e.op = 14 := by omega
  have d3 : ¬ e.op = 15 := by omega
  clear ih ha h k
  refine PCalls.of is_ref18_Facts (by simp) fun hb => runW_sound ?_
  conv in c_ref18_Facts => cbv
  repeat' first | simp (disch := omega) only [go_sem, *, d1, d2, d3, k16, k18] | ((with_reducible refine condT ?_ ?_) <;> intro h <;> try omega) | (with_reducible refine bothW_intro ?_ ?_) | (with_reducible refine nilW_intro (fun h => ?_) ?_)
  all_goals rfl
theorem ref18_both_abs {f x : Lin} (hf : lin64 f) (hx : lin64 x) (lf : f.2.length ≤ 40000000) (lx : x.2.length ≤ 40000000) : PCalls Tryz.prog n_ref18_both [aLin f.1 f.2, aLin x.1 x.2] (aCons (needS f x)) := by
 have p1 := ref18_minus_abs (k := -1) (.inr rfl) hf hx lf lx
 rw [if_neg (by decide)] at p1
 refine PCalls.of is_ref18_both (by simp) fun hb => runW_sound ?_
 conv in c_ref18_both => cbv
 unfold needS
 obtain ⟨K, L⟩ := f
 obtain ⟨K2, L2⟩ := x
 clear hf hx lf lx
 simp only at p1 ⊢
 generalize belS (K, L) (K2, L2) = s at *
 obtain ⟨⟨K3, L3⟩, er⟩ := s
 by_cases h0 : er = 0
 ·subst h0
  rw [if_pos rfl]
  repeat' first | simp (disch := omega) only [go_sem, *] | ((with_reducible refine condT ?_ ?_) <;> intro h <;> try omega) | (with_reducible refine bothW_intro ?_ ?_) | (with_reducible refine nilW_intro (fun h => ?_) ?_) | (refine w_R p1 rfl rfl ?_)
  all_goals rfl
 ·rw [if_neg h0]
  repeat' first | simp (disch := omega) only [go_sem, *, h0] | ((with_reducible refine condT ?_ ?_) <;> intro h <;> try omega) | (with_reducible refine bothW_intro ?_ ?_) | (with_reducible refine nilW_intro (fun h => ?_) ?_) | (refine w_R p1 rfl rfl ?_)
  all_goals rfl
end Go.Proofs.YtbblkakcadonjaaGreatDoor
set_option linter.unusedVariables false
set_option linter.unusedSimpArgs false
set_option maxRecDepth 20000
namespace Go.Proofs.YtbblkakcadonjaaGreatDoor
open Go.Abs Go.RowKit

abbrev gArr (R : List (List PC)) (d : Nat) (l : List Ob) : Box := .arr 56 6 (R ++ rowsO d l)
theorem fr_one {N N' a r r' : Nat} {b : Box} {F : List (Nat × Box)} (h : Go.Abs.frOk N [r] F) (ha : N ≤ a) (ha' : a < N') (hb : flatX b = true) (hr : r' = r ∨ N ≤ r') (hne : a ≠ r') : Go.Abs.frOk N' [r'] ((a, b) :: F) := by
 refine ⟨ha', hb, notIn_iff.2 fun m hm => ?_, h.mono (by omega) fun n hn h' => notIn_iff.2 fun m hm => ?_⟩
 ·simp only [List.mem_cons, List.not_mem_nil, or_false] at hm
  omega
 ·have h2 := notIn_iff.1 h' r (by simp)
  simp only [List.mem_cons, List.not_mem_nil, or_false] at hm
  omega
abbrev bNot (a : Ex) : Box := .var [.pure (pI 18), .pure (pS ⟨⟨[]⟩⟩), .pure (pI 0), .pure (pI 0), .pure (pI 0), .pure (pI 0), .pure (pI 0), .pure (pI 0), .pure (pI 0), .pure (pI 0), .nils, .nils, .tsl [[pI a.op, pS a.name, pI a.val.1, pI a.val.2, pI a.ty.1, pI a.ty.2.1, pI a.ty.2.2.1, pI a.ty.2.2.2.1, pI a.ty.2.2.2.2, pI a.lin.1, pMonos a.lin.2, pSl ixP a.idx, .slice (a.args.map Ex.row)]]]
theorem AW_frz1 (nm e sz : Nat) (rows : List (List PC)) {P : Program} {nt : Nat} {c : ACode} {σ : St} {Q : AExit → St → Prop} (hf : findB σ.mem nm = some (.arr e sz rows)) (h : AW P nt c ⟨frzF nm rows σ.fr, frzM nm rows σ.mem, σ.nx, σ.base⟩ Q) : AW P nt c σ Q :=
 AW_frz [nm] (by rw [frzLA, hf]; exact h)
def GoC (p : Prg) (d : Nat) (e : Ex) : Prop := ∀ (cs : List Con) (R : List (List PC)) (l : List Ob) (r nx : Nat) (F : List (Nat × Box)), cs.length + e.sz ≤ 20000 → R.length ≤ 2000000000 → l.length + 72 * e.sz ≤ 100000000 → r < nx → Go.Abs.frOk nx [r] F →
  ICalls Tryz.prog n_ref18_goals [aPrg p, I d, aEx e, aCons cs, .c (.ref r), I R.length] ((r, gArr R d l) :: F) nx (packV [.c (.ref nx)]) ((nx, gArr R d (l ++ obS p e cs)) :: F) (nx + 1)
set_option maxHeartbeats 4000000 in
theorem ref18_goals_loop {p : Prg} {d : Nat} {e : Ex} (h : exOk p e) (k3 : e.op ≠ 3) (k11 : e.op ≠ 11) (IH : ∀ a ∈ e.args, GoC p d a) : GoC p d e := by
 intro cs R l r nx F hcs hR hl hrn hF
 have hz := Ex.sz_eq e
 have hal := Ex.szs_len e.args
 have hob : obS p e cs = obs p e.args cs := by rw [obS_eq, if_neg k3, if_neg k11, List.nil_append]
 rw [hob]
 clear hob
 have hfn : ∀ n, nx ≤ n → findB F n = none := fun n h => frOk_none hF h
 have hok : rowsOk 3 (cs.map cP) := rowsOk_map fun _ => rfl
 refine ICalls.ofZ (ress := [.c (.ref nx)]) is_ref18_goals (by simp) fun _ => runW_sound ?_
 simp only [c_ref18_goals]
 repeat' first | simp (disch := omega) only [go_sem, *, ifN, ifNP, k3, hfn] | ((with_reducible refine condT ?_ ?_) <;> intro h <;> try omega)
 refine AW_loop (fun k : Nat => ⟨[(1, I d), (3, aCons cs), (4, .c (.ref nx)), (5, I R.length), (6, .c (.ptr (nx + 1) 0)), (8, .c (.ptr (nx + 2) 0)), (23, I k)], (nx, gArr R d (l ++ obs p (e.args.take k) cs)) :: (nx + 1, bPrg p) :: (nx + 2, bXr e) :: F, nx + 3, nx⟩) (fun k => k ≤ e.args.length) (fun k => e.args.length - k) ⟨0, [(nx, r), (nx + 1, nx), (nx + 2, nx + 1)], by omega, ?_⟩ ?_
 ·simp only [List.take_zero, obs, List.append_nil]
  refine Wk_intro (by simp (disch := omega) [ifN]) ?_ rfl (by simp; try omega) (by simp [wkL]; try omega)
  repeat' first | exact hF.wkA | refine wkM_cons ?_ ?_ ?_ ?_ ?_ | (simp (disch := omega) [ifN] <;> omega) | omega
 intro k hk
 refine runW_sound ?_
 by_cases hlt : k < e.args.length
 ·have hm := List.getElem_mem hlt
  have hoa := exOk_arg h hm
  have hsm := sz_mem hm
  have hlen : ∀ l : List Ex, (∀ a ∈ l, rnkAll a) → (obs p l cs).length ≤ 72 * Ex.szs l := by
   intro l
   induction l with
   | nil => intro _; simp [obs]
   | cons a s ih =>
    intro hh
    have := ob_len p a (hh a List.mem_cons_self) cs
    have := ih fun b hb => hh b (List.mem_cons_of_mem _ hb)
    simp only [obs, List.length_append, Ex.szs]
    omega
  have h1 := hlen (e.args.take k) fun a ha => rnkAll_arg h.1.1 (List.mem_of_mem_take ha)
  have h2 : Ex.szs (e.args.take k) + e.args[k].sz ≤ Ex.szs e.args := by
   have a1 := Ex.szs_take hlt
   have a2 : Ex.szs (e.args.take (k + 1)) ≤ Ex.szs e.args := by
    conv => rhs; rw [← List.take_append_drop (k + 1) e.args, Ex.szs_append]
    omega
   omega
  have pe := IH _ hm cs R (l ++ obs p (e.args.take k) cs) nx (nx + 3) ((nx + 2, bXr e) :: (nx + 1, bPrg p) :: F) (by omega) hR (by simp only [List.length_append]; omega) (by omega) (fr_one (N := nx + 2) (r := nx) (fr_one (N' := nx + 2) (r' := nx) hF (by omega) (by omega) rfl (.inr (Nat.le_refl _)) (by omega)) (by omega) (by omega) rfl (.inl rfl) (by omega))
  rw [List.append_assoc, ← obs_take p cs hlt] at pe
  have g1 := map_get (f := Ex.row) hlt
  rw [Ex.row_eq] at g1
  clear IH h hoa hlen h1 h2 hm
  repeat' first | simp (disch := omega) only [go_sem, *, g1, k11, ifN, ifNP, hfn, wrap_i64] | ((with_reducible refine condT ?_ ?_) <;> intro h <;> try omega) | (with_reducible refine bothW_intro ?_ ?_) | (with_reducible refine nilW_intro (fun h => ?_) ?_) | (refine app_nilP hok (by simp only [List.length_map]; omega) (by simp only [List.length_map]; omega) ?_) | (refine callW_i (pe.perm (fun nm => by first | rfl | (simp only [findB, findB_setB]; done) | (simp only [findB, findB_setB]; (repeat' split) <;> first | rfl | omega))) ?_)
  refine ⟨k + 1, [(nx, nx + 3)], by omega, by omega, ?_⟩
  refine Wk_intro (by simp (disch := omega) [ifN]) ?_ rfl (by simp; try omega) (by simp [wkL]; try omega)
  repeat' first | exact hF.wkA | refine wkM_cons ?_ ?_ ?_ ?_ ?_ | (simp (disch := omega) [ifN] <;> omega) | omega
 ·obtain rfl : k = e.args.length := by omega
  rw [List.take_of_length_le (by omega)]
  repeat' first | simp (disch := omega) only [go_sem, *, ifN, ifNP] | ((with_reducible refine condT ?_ ?_) <;> intro h <;> try omega)
  refine ⟨[], [], ?_⟩
  simp (disch := omega) only [go_sem, frzLA, ifN, ifNP]
  refine Wk_intro (by simp (disch := omega) [ifN]) ?_ rfl (by simp; try omega) (by simp [wkL]; try omega)
  repeat' first | exact hF.wkA | refine wkM_cons ?_ ?_ ?_ ?_ ?_ | (simp (disch := omega) [ifN] <;> omega) | omega
set_option maxHeartbeats 4000000 in
theorem ref18_goals_read {p : Prg} {d : Nat} {e : Ex} (hfp : fewP p) (h : exOk p e) (k3 : e.op = 3) : GoC p d e := by
 intro cs R l r nx F hcs hR hl hrn hF
 obtain ⟨hra, _, _, hi6, ha6⟩ := rnkAll_self h.1.1
 obtain ⟨t, ds, hfd, hlen, hds, hix⟩ := h.2 e (pre_self e) k3
 have hz := Ex.sz_pos e
 have hfn : ∀ n, nx ≤ n → findB F n = none := fun n h => frOk_none hF h
 rw [k3] at hra
 have hargs : e.args = [] := List.eq_nil_of_length_eq_zero (by have : ((e.args.length : Nat) : Int) = 0 := hra; omega)
 have hob : obS p e cs = obN cs ((e.idx.zip ds).flatMap fun q => ixC p q.1 q.2) := by
  rw [obS_eq, if_pos k3, if_neg (by omega), hargs, obs, List.append_nil, readC, dimsF, hfd]
  rfl
 rw [hob]
 have hall : ((e.idx.zip ds).flatMap fun q => ixC p q.1 q.2).length ≤ 72 := by
  have := fmz_len (f := fun q : Ix × Lin => ixC p q.1 q.2) (n := 12) (l := e.idx.zip ds) fun x hx => ixC_len (ha6 _ (List.of_mem_zip hx).1)
  have h3 : (e.idx.zip ds).length ≤ e.idx.length := by simp; omega
  omega
 clear hob hra hargs
 have pf := ref17_Find_abs hfp e.name
 rw [hfd] at pf
 have hforms := fun l hl => ((h.1.2 e (pre_self e)).2 l hl : lin64 l ∧ l.2.length ≤ 1000)
 have hlen' : ds.length = e.idx.length := hlen.symm
 have hrk : ∀ k, r < nx + k := fun k => by omega
 have hdn : delB F (nx + 2) = F := hF.del (.inr (by omega))
 refine ICalls.ofZ (ress := [.c (.ref nx)]) is_ref18_goals (by simp) fun _ => runW_sound ?_
 simp only [c_ref18_goals]
 repeat' first | simp (disch := omega) only [go_sem, *, ifN, ifNP, hfn, k3] | ((with_reducible refine condT ?_ ?_) <;> intro h <;> try omega) | (refine w_R pf rfl rfl ?_)
 refine AW_adopt 16 37 3 rfl (by decide) ?_
 have hok1 : ∀ (f x : Lin), rowsOk 3 ((needS f x).map cP) := fun f x => rowsOk_map fun _ => rfl
 refine AW_loop (fun i : Nat => ⟨[(1, I d), (3, aCons cs), (4, .c (.ref r)), (5, I R.length), (6, .c (.ptr nx 0)), (8, .c (.ptr (nx + 1) 0)), (14, aLins ds), (16, .c (.ref (nx + 2))), (17, I i)], (nx + 2, .arr 37 3 ((((e.idx.zip ds).take i).flatMap fun q => ixC p q.1 q.2).map cP)) :: (nx, bPrg p) :: (nx + 1, bXo 3 e) :: (r, gArr R d l) :: F, nx + 3, nx⟩) (fun i => i ≤ e.idx.length) (fun i => e.idx.length - i) ⟨0, [(nx + 2, nx + 3)], by omega, ?_⟩ ?_
 ·simp only [List.take_zero, List.flatMap_nil, List.map_nil]
  refine Wk_intro (by simp (disch := omega) [ifN, hrk, hrn]) ?_ rfl (by simp; try omega) (by simp [wkL]; try omega)
  repeat' first | exact hF.wkA | refine wkM_cons ?_ ?_ ?_ ?_ ?_ | (simp (disch := omega) [ifN, hrk, hrn] <;> omega) | omega
 intro i hi
 refine runW_sound ?_
 clear pf
 by_cases hlt : i < e.idx.length
 ·have hltd : i < ds.length := by omega
  have hm := List.getElem_mem hlt
  have g1 := map_get (f := ixP) hlt
  have g2 := map_get (f := linP) hltd
  have gd := hds _ (List.getElem_mem hltd)
  have hxi := hix _ hm
  have hf1 := hforms _ (List.mem_cons_of_mem _ (List.mem_flatMap.2 ⟨e.idx[i], hm, List.mem_cons_self⟩))
  have hfa : ∀ l ∈ e.idx[i].2.2, lin64 l ∧ l.2.length ≤ 1000 := fun l hl => hforms _ (List.mem_cons_of_mem _ (List.mem_flatMap.2 ⟨e.idx[i], hm, List.mem_cons_of_mem _ hl⟩))
  have h6 := ha6 _ hm
  have hst := fmz_take (f := fun q : Ix × Lin => ixC p q.1 q.2) hlt hltd
  have hll : (((e.idx.zip ds).take i).flatMap fun q => ixC p q.1 q.2).length ≤ 60 := by
   have := fmz_len (f := fun q : Ix × Lin => ixC p q.1 q.2) (n := 12) (l := (e.idx.zip ds).take i) fun x hx => ixC_len (ha6 _ (List.of_mem_zip (List.mem_of_mem_take hx)).1)
   have h3 : ((e.idx.zip ds).take i).length ≤ i := by simp; omega
   omega
  clear hix hforms hds ha6 h hm hfd hall
  obtain ⟨R1, hR1⟩ : ∃ R1, R1 = ((e.idx.zip ds).take (i + 1)).flatMap (fun q => ixC p q.1 q.2) := ⟨_, rfl⟩
  rw [← hR1] at hst
  have HR1 := Lib.hid hR1
  clear hR1
  generalize ((e.idx.zip ds).take i).flatMap (fun q => ixC p q.1 q.2) = R0 at *
  generalize ds[i] = dl at *
  generalize e.idx[i] = x at *
  obtain ⟨⟨K, L⟩, s, at'⟩ := x
  obtain ⟨K2, L2⟩ := dl
  simp only [ixP, linP] at g1 g2 hf1 gd hxi hfa h6 hst
  by_cases hs : s = ⟨⟨[]⟩⟩
  ·subst hs
   rw [ixC, if_pos rfl] at hst
   have pn := ref18_both_abs (f := (K, L)) (x := (K2, L2)) hf1.1 gd.1 (by have := hf1.2; simp only at this ⊢; omega) (by have := gd.2; simp only at this ⊢; omega)
   have ok1 := hok1 (K, L) (K2, L2)
   have hn2 : ((needS (K, L) (K2, L2)).map cP).length = 2 := rfl
   have hst' : R0.map cP ++ (needS (K, L) (K2, L2)).map cP = R1.map cP := by rw [hst, List.map_append]
   have HT := Lib.hid hst'
   clear hst hst' hxi hf1 hfa gd hlen hok1
   simp only at pn
   generalize needS (K, L) (K2, L2) = nd at *
   repeat' first | simp (disch := omega) only [go_sem, *, g1, g2, hlen', ifN, ifNP, hfn, wrap_i64] | ((with_reducible refine condT ?_ ?_) <;> intro h <;> try omega) | (with_reducible refine bothW_intro ?_ ?_) | (with_reducible refine nilW_intro (fun h => ?_) ?_) | (refine w_R pn rfl rfl ?_) | (refine app_own (by simp (disch := omega) only [findB, findB_setB, ifN, eq_self, ↓reduceIte, Option.map_some] <;> rfl) (by intro h; cases h) ok1 (by simp only [List.length_map] at *; omega) (by simp only [List.length_map] at *; omega) ?_)
   rw [HT.out]
   try rw [hdn]
   refine ⟨i + 1, [(nx + 2, nx + 3)], by omega, by omega, ?_⟩
   rw [← HR1.out]
   refine Wk_intro (by simp (disch := omega) [ifN, hrk, hrn]) ?_ rfl (by simp; try omega) (by simp [wkL]; try omega)
   repeat' first | exact hF.wkA | refine wkM_cons ?_ ?_ ?_ ?_ ?_ | (simp (disch := omega) [ifN, hrk, hrn] <;> omega) | omega
  ·obtain ⟨t', ds', hfd', hlen2, hds'⟩ := hxi hs
   have pf2 := ref17_Find_abs hfp s
   rw [hfd'] at pf2
   rw [ixC, if_neg hs, dimsF, hfd'] at hst
   clear hxi hf1 gd hlen g2 hfd'
   simp only at hst hlen2
   have hlen3 : ds'.length = at'.length := hlen2.symm
   repeat' first | simp (disch := omega) only [go_sem, *, g1, hlen', ifN, ifNP, hfn, hs] | ((with_reducible refine condT ?_ ?_) <;> intro h <;> try omega) | (with_reducible refine bothW_intro ?_ ?_) | (with_reducible refine nilW_intro (fun h => ?_) ?_) | (refine w_R pf2 rfl rfl ?_)
   refine AW_loop (fun k : Nat => ⟨[(1, I d), (3, aCons cs), (4, .c (.ref r)), (5, I R.length), (6, .c (.ptr nx 0)), (8, .c (.ptr (nx + 1) 0)), (14, aLins ds), (16, .c (.ref (nx + 2))), (17, I i), (19, aLins ds'), (21, I k)], (nx + 2, .arr 37 3 ((R0 ++ ((at'.zip ds').take k).flatMap fun q => needS q.1 q.2).map cP)) :: (nx, bPrg p) :: (nx + 1, bXo 3 e) :: (r, gArr R d l) :: F, nx + 3, nx⟩) (fun k => k ≤ at'.length) (fun k => at'.length - k) ⟨0, [], by omega, ?_⟩ ?_
   ·simp only [List.take_zero, List.flatMap_nil, List.append_nil]
    refine Wk_intro (by simp (disch := omega) [ifN, hrk, hrn]) ?_ rfl (by simp; try omega) (by simp [wkL]; try omega)
    repeat' first | exact hF.wkA | refine wkM_cons ?_ ?_ ?_ ?_ ?_ | (simp (disch := omega) [ifN, hrk, hrn] <;> omega) | omega
   clear pf2
   intro k hk
   refine runW_sound ?_
   by_cases hlk : k < at'.length
   ·have hlkd : k < ds'.length := by omega
    have g3 := map_get (f := linP) hlk
    have g4 := map_get (f := linP) hlkd
    have b1 := hfa _ (List.getElem_mem hlk)
    have b2 := hds' _ (List.getElem_mem hlkd)
    have hst2 := fmz_take (f := fun q : Lin × Lin => needS q.1 q.2) hlk hlkd
    have hl2 : (((at'.zip ds').take k).flatMap fun q => needS q.1 q.2).length ≤ 12 := by
     rw [fm2_len]
     have : ((at'.zip ds').take k).length ≤ at'.length := by simp; omega
     omega
    have pn := ref18_both_abs (f := at'[k]) (x := ds'[k]) b1.1 b2.1 (by have := b1.2; omega) (by have := b2.2; omega)
    have ok1 := hok1 at'[k] ds'[k]
    have hn2 : (needS at'[k] ds'[k]).length = 2 := rfl
    have hl3 : (R0 ++ ((at'.zip ds').take k).flatMap fun q => needS q.1 q.2).length ≤ 72 := by rw [List.length_append]; omega
    have hst3 : (R0 ++ ((at'.zip ds').take k).flatMap fun q => needS q.1 q.2).map cP ++ (needS at'[k] ds'[k]).map cP = (R0 ++ ((at'.zip ds').take (k + 1)).flatMap fun q => needS q.1 q.2).map cP := by rw [hst2, ← List.append_assoc, List.map_append (l₁ := R0 ++ _)]
    have HT := Lib.hid hst3
    clear hst2 hst3 b1 b2 hst hfa hds' hlen2 hl2 hok1
    simp only [linP] at g3 g4
    generalize needS at'[k] ds'[k] = nd at *
    generalize (R0 ++ ((at'.zip ds').take k).flatMap fun q => needS q.1 q.2) = R2 at *
    repeat' first | simp (disch := omega) only [go_sem, *, g1, g3, g4, hlen3, ifN, ifNP, hfn, wrap_i64] | ((with_reducible refine condT ?_ ?_) <;> intro h <;> try omega) | (with_reducible refine bothW_intro ?_ ?_) | (with_reducible refine nilW_intro (fun h => ?_) ?_) | (refine w_R pn rfl rfl ?_) | (refine app_own (by simp (disch := omega) only [findB, findB_setB, ifN, eq_self, ↓reduceIte, Option.map_some] <;> rfl) (by intro h; cases h) ok1 (by simp only [List.length_map]; omega) (by simp only [List.length_map]; omega) ?_)
    rw [HT.out]
    try rw [hdn]
    refine ⟨k + 1, [(nx + 2, nx + 3)], by omega, by omega, ?_⟩
    refine Wk_intro (by simp (disch := omega) [ifN, hrk, hrn]) ?_ rfl (by simp; try omega) (by simp [wkL]; try omega)
    repeat' first | exact hF.wkA | refine wkM_cons ?_ ?_ ?_ ?_ ?_ | (simp (disch := omega) [ifN, hrk, hrn] <;> omega) | omega
   ·obtain rfl : k = at'.length := by omega
    rw [List.take_of_length_le (l := at'.zip ds') (by simp; omega), ← hst]
    clear hst hfa hds' hlen2
    repeat' first | simp (disch := omega) only [go_sem, *, g1, ifN, ifNP, hfn, wrap_i64] | ((with_reducible refine condT ?_ ?_) <;> intro h <;> try omega) | (with_reducible refine bothW_intro ?_ ?_) | (with_reducible refine nilW_intro (fun h => ?_) ?_)
    refine ⟨i + 1, [], by omega, by omega, ?_⟩
    rw [← HR1.out]
    refine Wk_intro (by simp (disch := omega) [ifN, hrk, hrn]) ?_ rfl (by simp; try omega) (by simp [wkL]; try omega)
    repeat' first | exact hF.wkA | refine wkM_cons ?_ ?_ ?_ ?_ ?_ | (simp (disch := omega) [ifN, hrk, hrn] <;> omega) | omega
 ·obtain rfl : i = e.idx.length := by omega
  rw [List.take_of_length_le (l := e.idx.zip ds) (by simp; omega)]
  generalize (e.idx.zip ds).flatMap (fun q => ixC p q.1 q.2) = C at *
  clear hix hforms hds ha6 h hfd hok1 hlen hlen'
  repeat' first | simp (disch := omega) only [go_sem, *, ifN, ifNP, hfn] | ((with_reducible refine condT ?_ ?_) <;> intro h <;> try omega)
  refine AW_loop (fun k : Nat => ⟨[(1, I d), (3, aCons cs), (4, .c (.ref nx)), (5, I R.length), (16, .c (.ref (nx + 1))), (22, I k)], (nx, gArr R d (l ++ obN cs (C.take k))) :: (nx + 1, .arr 37 3 (C.map cP)) :: F, nx + 2, nx⟩) (fun k => k ≤ C.length) (fun k => C.length - k) ⟨0, [(nx, r), (nx + 1, nx + 2)], by omega, ?_⟩ ?_
  ·simp only [List.take_zero, obN, List.map_nil, List.append_nil]
   refine Wk_intro (by simp (disch := omega) [ifN, hrk, hrn]) ?_ rfl (by simp; try omega) (by simp [wkL]; try omega)
   repeat' first | exact hF.wkA | refine wkM_cons ?_ ?_ ?_ ?_ ?_ | (simp (disch := omega) [ifN, hrk, hrn] <;> omega) | omega
  clear hi hlt hdn
  have hdn : delB F nx = F := hF.del (.inr (by omega))
  intro k hk
  refine runW_sound ?_
  by_cases hlk : k < C.length
  ·have g1 : (C.map cP)[k]? = some [pI C[k].1.1, pMonos C[k].1.2, pB C[k].2] := map_get (f := cP) hlk
   have hlo : (l ++ obN cs (C.take k)).length ≤ 100000072 := by simp [obN]; omega
   have ho : l ++ obN cs (C.take (k + 1)) = l ++ obN cs (C.take k) ++ [(C[k], cs)] := by
    rw [List.take_succ_eq_append_getElem hlk, obN, List.map_append, List.append_assoc]
    rfl
   have hr1 := rowsO_one d (l ++ obN cs (C.take k)) (C[k], cs)
   rw [← ho] at hr1
   have hro := rowsO_len d (l ++ obN cs (C.take k))
   obtain ⟨l2, hl2⟩ : ∃ l2, l2 = l ++ obN cs (C.take (k + 1)) := ⟨_, rfl⟩
   rw [← hl2] at hr1
   have HL := Lib.hid hl2
   clear hl2 ho
   generalize l ++ obN cs (C.take k) = l1 at *
   have hr2 : (R ++ rowsO d l1) ++ [[pI d, pI l1.length, pI C[k].1.1, pMonos C[k].1.2, pB C[k].2, pSl cP cs]] = R ++ rowsO d l2 := by rw [hr1, List.append_assoc]
   have hq : ((R ++ rowsO d l1).length : Int) = R.length + l1.length := by rw [List.length_append, hro]; omega
   have hw : IntKind.wrap .i64 (((R ++ rowsO d l1).length : Int) - (R.length : Int)) = l1.length := by rw [wrap_i64 (by omega)]; omega
   have hql : (R ++ rowsO d l1).length ≤ 2100000100 := by omega
   have HR := Lib.hid hr2
   clear hr1 hr2 hq hro
   repeat' first | simp (disch := omega) only [go_sem, *, g1, hw, ifN, ifNP, hfn, wrap_i64] | ((with_reducible refine condT ?_ ?_) <;> intro h <;> try omega) | (refine app_own (by simp (disch := omega) only [findB, findB_setB, ifN, eq_self, ↓reduceIte, Option.map_some] <;> rfl) (by intro h; cases h) (rowsOk_one rfl) (by simp only [List.length_cons, List.length_nil]; omega) (by simp only [List.length_cons, List.length_nil]; omega) ?_)
   rw [HR.out]
   try rw [hdn]
   refine ⟨k + 1, [(nx, nx + 2)], by omega, by omega, ?_⟩
   rw [← HL.out]
   refine Wk_intro (by simp (disch := omega) [ifN, hrk, hrn]) ?_ rfl (by simp; try omega) (by simp [wkL]; try omega)
   repeat' first | exact hF.wkA | refine wkM_cons ?_ ?_ ?_ ?_ ?_ | (simp (disch := omega) [ifN, hrk, hrn] <;> omega) | omega
  ·obtain rfl : k = C.length := by omega
   rw [List.take_of_length_le (Nat.le_refl _)]
   repeat' first | simp (disch := omega) only [go_sem, *, ifN, ifNP, hfn] | ((with_reducible refine condT ?_ ?_) <;> intro h <;> try omega)
   refine ⟨[], [], ?_⟩
   simp (disch := omega) only [go_sem, frzLA, ifN, ifNP]
   refine Wk_intro (by simp (disch := omega) [ifN]) ?_ rfl (by simp; try omega) (by simp [wkL]; try omega)
   repeat' first | exact hF.wkA | refine wkM_cons ?_ ?_ ?_ ?_ ?_ | (simp (disch := omega) [ifN] <;> omega) | omega
set_option maxHeartbeats 8000000 in
theorem ref18_goals_if {p : Prg} {d : Nat} {e : Ex} (h : exOk p e) (k11 : e.op = 11) (IH : ∀ a ∈ e.args, GoC p d a) : GoC p d e := by
 intro cs R l r nx F hcs hR hl hrn hF
 have ha := (rnkAll_self h.1.1).1
 rw [k11] at ha
 obtain ⟨a, b, c, hargs⟩ := args3 (l := e.args) ha
 have ma : a ∈ e.args := by rw [hargs]; simp
 have mb : b ∈ e.args := by rw [hargs]; simp
 have mc : c ∈ e.args := by rw [hargs]; simp
 have hz := Ex.sz_eq e
 rw [hargs] at hz
 simp only [Ex.szs] at hz
 have oa := exOk_arg h ma
 have on := lnOk_not oa.1
 have hnz : (notE a).sz = 1 + a.sz := by rw [Ex.sz_eq]; simp [notE, Ex.args, Ex.szs]
 have fa := (fac_ok a oa.1).1
 have fn : (facS (notE a)).1.length ≤ a.sz := by
  have e1 : facS (notE a) = notF (facS a) := facN_not rfl rfl
  have := Ex.sz_pos a
  rw [e1]
  unfold notF
  split
  ·split
   ·rename_i hh
    show (negS _).1.length ≤ _
    omega
   ·simp
  ·simp
 have hob : obS p e cs = obS p a cs ++ obS p b (cs ++ (facS a).1) ++ obS p c (cs ++ (facS (notE a)).1) := by
  rw [obS_eq, if_neg (by omega), if_pos k11, hargs, List.nil_append]
  rfl
 have l1 := ob_len p a oa.1.1 cs
 have l2 := ob_len p b (exOk_arg h mb).1.1 (cs ++ (facS a).1)
 have pf := ref18_Facts_abs a oa.1 (by omega)
 have pn := ref18_Facts_abs (notE a) on (by omega)
 have hfr : Go.Abs.frOk (nx + 3) [nx] ((nx + 2, bXo 11 e) :: (nx + 1, bPrg p) :: F) := fr_one (N := nx + 2) (r := nx) (fr_one (N' := nx + 2) (r' := nx) hF (by omega) (by omega) rfl (.inr (Nat.le_refl _)) (by omega)) (by omega) (by omega) rfl (.inl rfl) (by omega)
 have hfn : ∀ n, nx ≤ n → findB F n = none := fun n h => frOk_none hF h
 have hrk : ∀ k, r < nx + k := fun k => by omega
 have hok : rowsOk 3 (cs.map cP) := rowsOk_map fun _ => rfl
 have hokf : rowsOk 3 ((facS a).1.map cP) := rowsOk_map fun _ => rfl
 have hokn : rowsOk 3 ((facS (notE a)).1.map cP) := rowsOk_map fun _ => rfl
 have hg : (e.args.map Ex.row)[0]? = some a.row := by rw [hargs]; rfl
 have hg1 : (e.args.map Ex.row)[1]? = some b.row := by rw [hargs]; rfl
 have hg2 : (e.args.map Ex.row)[2]? = some c.row := by rw [hargs]; rfl
 have hal : e.args.length = 3 := by rw [hargs]; rfl
 have lf : (facS a).1.length ≤ 20000 := by omega
 have ln : (facS (notE a)).1.length ≤ 20000 := by omega
 have lc : cs.length ≤ 20000 := by omega
 have p1 := IH a ma cs R l nx (nx + 3) ((nx + 2, bXo 11 e) :: (nx + 1, bPrg p) :: F) (by omega) hR (by omega) (by omega) hfr
 have p2 := IH b mb (cs ++ (facS a).1) R (l ++ obS p a cs) nx (nx + 6) ((nx + 4, bXr a) :: (nx + 2, bXo 11 e) :: (nx + 1, bPrg p) :: F) (by simp only [List.length_append]; omega) hR (by simp only [List.length_append]; omega) (by omega) (fr_one hfr (by omega) (by omega) rfl (.inl rfl) (by omega))
 have p3 := IH c mc (cs ++ (facS (notE a)).1) R (l ++ obS p a cs ++ obS p b (cs ++ (facS a).1)) nx (nx + 6) ((nx + 4, bNot a) :: (nx + 2, bXo 11 e) :: (nx + 1, bPrg p) :: F) (by simp only [List.length_append]; omega) hR (by simp only [List.length_append]; omega) (by omega) (fr_one hfr (by omega) (by omega) rfl (.inl rfl) (by omega))
 have hd3 : delB F (nx + 3) = F := hF.del (.inr (by omega))
 have hf1 : frzM (nx + 3 + 1 + 1) (cs.map cP ++ (facS a).1.map cP) F = F := hF.frz (.inr (by omega))
 have hf2 : frzM (nx + 3 + 1 + 1) (cs.map cP ++ (facS (notE a)).1.map cP) F = F := hF.frz (.inr (by omega))
 rw [hob, ← List.append_assoc, ← List.append_assoc]
 rw [Ex.row_eq] at hg hg1 hg2
 rw [show aEx (notE a) = .agg [.pure (pI 18), .pure (pS ⟨⟨[]⟩⟩), .pure (pI 0), .pure (pI 0), .pure (pI 0), .pure (pI 0), .pure (pI 0), .pure (pI 0), .pure (pI 0), .pure (pI 0), .pure (pMonos []), .pure (pSl ixP []), .pure (.slice [a.row])] from rfl, Ex.row_eq] at pn
 rw [show aCons (cs ++ (facS a).1) = .c (.pure (.slice (cs.map cP ++ (facS a).1.map cP))) by show AV.c (.pure (.slice (List.map cP (_ ++ _)))) = _; rw [List.map_append]] at p2
 rw [show aCons (cs ++ (facS (notE a)).1) = .c (.pure (.slice (cs.map cP ++ (facS (notE a)).1.map cP))) by show AV.c (.pure (.slice (List.map cP (_ ++ _)))) = _; rw [List.map_append]] at p3
 clear IH h ha hargs ma mb mc hz oa on hnz fa fn hob l1 l2 hcs hl hfr
 refine ICalls.ofZ (ress := [.c (.ref nx)]) is_ref18_goals (by simp) fun _ => runW_sound ?_
 simp only [c_ref18_goals]
 generalize obS p a cs = o1 at *
 generalize obS p b (cs ++ (facS a).1) = o2 at *
 generalize obS p c (cs ++ (facS (notE a)).1) = o3 at *
 repeat' first | simp (disch := omega) only [go_sem, *, ifN, ifNP, k11, hfn] | ((with_reducible refine condT ?_ ?_) <;> intro h <;> try omega)
 refine AW_loop (fun k : Nat => ⟨[(1, I d), (3, aCons cs), (4, .c (.ref nx)), (5, I R.length), (6, .c (.ptr (nx + 1) 0)), (8, .c (.ptr (nx + 2) 0)), (23, I k)], (nx, gArr R d (l ++ ([o1, o2, o3].take k).flatten)) :: (nx + 1, bPrg p) :: (nx + 2, bXo 11 e) :: F, nx + 3, nx⟩) (fun k => k ≤ 3) (fun k => 3 - k) ⟨0, [(nx, r), (nx + 1, nx), (nx + 2, nx + 1)], by omega, ?_⟩ ?_
 ·simp only [List.take_zero, List.flatten_nil, List.append_nil]
  refine Wk_intro (by simp (disch := omega) [ifN, hrk, hrn]) ?_ rfl (by simp; try omega) (by simp [wkL]; try omega)
  repeat' first | exact hF.wkA | refine wkM_cons ?_ ?_ ?_ ?_ ?_ | (simp (disch := omega) [ifN, hrk, hrn] <;> omega) | omega
 intro k hk
 have hk4 : k = 0 ∨ k = 1 ∨ k = 2 ∨ k = 3 := by omega
 rcases hk4 with rfl | rfl | rfl | rfl
 ·refine runW_sound ?_
  rw [show l ++ ([o1, o2, o3].take 0).flatten = l by simp]
  repeat' first | simp (disch := omega) only [go_sem, *, hg, hal, ifN, ifNP, hfn, wrap_i64] | ((with_reducible refine condT ?_ ?_) <;> intro h <;> try omega) | (with_reducible refine bothW_intro ?_ ?_) | (with_reducible refine nilW_intro (fun h => ?_) ?_) | (refine app_nilP hok (by simp only [List.length_map]; omega) (by simp only [List.length_map]; omega) ?_) | (refine callW_i (p1.perm (fun nm => by first | rfl | (simp only [findB, findB_setB]; done) | (simp only [findB, findB_setB]; (repeat' split) <;> first | rfl | omega))) ?_)
  refine ⟨1, [(nx, nx + 3)], by omega, by omega, ?_⟩
  rw [show l ++ ([o1, o2, o3].take 1).flatten = l ++ o1 by simp]
  refine Wk_intro (by simp (disch := omega) [ifN, hrk, hrn]) ?_ rfl (by simp; try omega) (by simp [wkL]; try omega)
  repeat' first | exact hF.wkA | refine wkM_cons ?_ ?_ ?_ ?_ ?_ | (simp (disch := omega) [ifN, hrk, hrn] <;> omega) | omega
 ·rw [show l ++ ([o1, o2, o3].take 1).flatten = l ++ o1 by simp]
  refine AW_seq (AW_seq (runW_sound ?_))
  repeat' first | simp (disch := omega) only [go_sem, *, hal, ifN, ifNP, hfn] | ((with_reducible refine condT ?_ ?_) <;> intro h <;> try omega)
  refine AW_cond (t := true) rfl (fun _ => AW_skip ?_) (fun e => by cases e)
  change AW _ _ _ _ _
  refine AW_seq (AW_block (AW_seq (runW_sound ?_)))
  repeat' first | simp (disch := omega) only [go_sem, *] | ((with_reducible refine condT ?_ ?_) <;> intro h <;> try omega)
  refine AW_seq (runW_sound ?_)
  repeat' first | simp (disch := omega) only [go_sem, *, ifN, ifNP] | ((with_reducible refine condT ?_ ?_) <;> intro h <;> try omega) | (refine app_nil hok (by simp only [List.length_map]; omega) (by simp only [List.length_map]; omega) ?_)
  refine AW_seq (AW_seq (runW_sound ?_))
  repeat' first | simp (disch := omega) only [go_sem, *, hal, ifN, ifNP, hfn] | ((with_reducible refine condT ?_ ?_) <;> intro h <;> try omega)
  refine AW_cond (t := true) rfl (fun _ => ?_) (fun e => by cases e)
  refine runW_sound ?_
  repeat' first | simp (disch := omega) only [go_sem, *, hg, hal, ifN, ifNP, hfn, Int.toNat_zero] | ((with_reducible refine condT ?_ ?_) <;> intro h <;> try omega) | (with_reducible refine bothW_intro ?_ ?_) | (with_reducible refine nilW_intro (fun h => ?_) ?_) | (refine w_R pf rfl rfl ?_) | (refine app_own (by simp (disch := omega) only [findB, findB_setB, ifN, eq_self, ↓reduceIte, Option.map_some] <;> rfl) (by intro h; cases h) hokf (by simp only [List.length_map]; omega) (by simp only [List.length_map]; omega) ?_)
  try rw [hd3]
  refine AW_frz1 (nx + 3 + 1 + 1) 37 3 (cs.map cP ++ (facS a).1.map cP) (by simp (disch := omega) only [findB, findB_setB, ifN, eq_self, ↓reduceIte, Option.map_some] <;> rfl) ?_
  simp (disch := omega) only [frzF, frzV, frz1, frzM, frzB, List.map_cons, List.map_nil, ifN, hf1, ↓reduceIte]
  refine runW_sound ?_
  repeat' first | simp (disch := omega) only [go_sem, *, hg1, hal, ifN, ifNP, hfn, Int.toNat_one] | ((with_reducible refine condT ?_ ?_) <;> intro h <;> try omega) | (with_reducible refine bothW_intro ?_ ?_) | (with_reducible refine nilW_intro (fun h => ?_) ?_) | (refine callW_i (p2.perm (fun nm => by first | rfl | (simp only [findB, findB_setB]; done) | (simp only [findB, findB_setB]; (repeat' split) <;> first | rfl | omega))) ?_)
  change AW _ _ _ _ _
  refine runW_sound ?_
  repeat' first | simp (disch := omega) only [go_sem, *, wrap_i64] | ((with_reducible refine condT ?_ ?_) <;> intro h <;> try omega)
  refine ⟨2, [(nx, nx + 6)], by omega, by omega, ?_⟩
  rw [show l ++ ([o1, o2, o3].take 2).flatten = l ++ o1 ++ o2 by simp]
  refine Wk_intro (by simp (disch := omega) [ifN, hrk, hrn]) ?_ rfl (by simp; try omega) (by simp [wkL]; try omega)
  repeat' first | exact hF.wkA | refine wkM_cons ?_ ?_ ?_ ?_ ?_ | (simp (disch := omega) [ifN, hrk, hrn] <;> omega) | omega
 ·rw [show l ++ ([o1, o2, o3].take 2).flatten = l ++ o1 ++ o2 by simp]
  refine AW_seq (AW_seq (runW_sound ?_))
  repeat' first | simp (disch := omega) only [go_sem, *, hal, ifN, ifNP, hfn] | ((with_reducible refine condT ?_ ?_) <;> intro h <;> try omega)
  refine AW_cond (t := true) rfl (fun _ => AW_skip ?_) (fun e => by cases e)
  change AW _ _ _ _ _
  refine AW_seq (AW_block (AW_seq (runW_sound ?_)))
  repeat' first | simp (disch := omega) only [go_sem, *] | ((with_reducible refine condT ?_ ?_) <;> intro h <;> try omega)
  refine AW_seq (runW_sound ?_)
  repeat' first | simp (disch := omega) only [go_sem, *, ifN, ifNP] | ((with_reducible refine condT ?_ ?_) <;> intro h <;> try omega) | (refine app_nil hok (by simp only [List.length_map]; omega) (by simp only [List.length_map]; omega) ?_)
  refine AW_seq (AW_seq (runW_sound ?_))
  repeat' first | simp (disch := omega) only [go_sem, *, hal, ifN, ifNP, hfn] | ((with_reducible refine condT ?_ ?_) <;> intro h <;> try omega)
  refine AW_cond (t := true) rfl (fun _ => ?_) (fun e => by cases e)
  refine runW_sound ?_
  repeat' first | simp (disch := omega) only [go_sem, *, hg, hal, ifN, ifNP, hfn, Int.toNat_zero] | ((with_reducible refine condT ?_ ?_) <;> intro h <;> try omega) | (with_reducible refine bothW_intro ?_ ?_) | (with_reducible refine nilW_intro (fun h => ?_) ?_) | (refine w_R pn rfl rfl ?_) | (refine app_own (by simp (disch := omega) only [findB, findB_setB, ifN, eq_self, ↓reduceIte, Option.map_some] <;> rfl) (by intro h; cases h) hokn (by simp only [List.length_map]; omega) (by simp only [List.length_map]; omega) ?_)
  try rw [hd3]
  refine AW_frz1 (nx + 3 + 1 + 1) 37 3 (cs.map cP ++ (facS (notE a)).1.map cP) (by simp (disch := omega) only [findB, findB_setB, ifN, eq_self, ↓reduceIte, Option.map_some] <;> rfl) ?_
  simp (disch := omega) only [frzF, frzV, frz1, frzM, frzB, List.map_cons, List.map_nil, ifN, hf2, ↓reduceIte]
  refine runW_sound ?_
  repeat' first | simp (disch := omega) only [go_sem, *, hg2, hal, ifN, ifNP, hfn, Int.reduceToNat] | ((with_reducible refine condT ?_ ?_) <;> intro h <;> try omega) | (with_reducible refine bothW_intro ?_ ?_) | (with_reducible refine nilW_intro (fun h => ?_) ?_) | (refine callW_i (p3.perm (fun nm => by first | rfl | (simp only [findB, findB_setB]; done) | (simp only [findB, findB_setB]; (repeat' split) <;> first | rfl | omega))) ?_)
  change AW _ _ _ _ _
  refine runW_sound ?_
  repeat' first | simp (disch := omega) only [go_sem, *, wrap_i64] | ((with_reducible refine condT ?_ ?_) <;> intro h <;> try omega)
  refine ⟨3, [(nx, nx + 6)], by omega, by omega, ?_⟩
  rw [show l ++ ([o1, o2, o3].take 3).flatten = l ++ o1 ++ o2 ++ o3 by simp]
  refine Wk_intro (by simp (disch := omega) [ifN, hrk, hrn]) ?_ rfl (by simp; try omega) (by simp [wkL]; try omega)
  repeat' first | exact hF.wkA | refine wkM_cons ?_ ?_ ?_ ?_ ?_ | (simp (disch := omega) [ifN, hrk, hrn] <;> omega) | omega
 ·rw [show l ++ ([o1, o2, o3].take 3).flatten = l ++ o1 ++ o2 ++ o3 by simp]
  refine runW_sound ?_
  repeat' first | simp (disch := omega) only [go_sem, *, hal, ifN, ifNP, hfn] | ((with_reducible refine condT ?_ ?_) <;> intro h <;> try omega)
  refine ⟨[], [], ?_⟩
  simp (disch := omega) only [go_sem, frzLA, ifN, ifNP]
  refine Wk_intro (by simp (disch := omega) [ifN]) ?_ rfl (by simp; try omega) (by simp [wkL]; try omega)
  repeat' first | exact hF.wkA | refine wkM_cons ?_ ?_ ?_ ?_ ?_ | (simp (disch := omega) [ifN] <;> omega) | omega
theorem ref18_goals_c {p : Prg} {d : Nat} (hfp : fewP p) (e : Ex) : exOk p e → GoC p d e := by
 refine Ex.ind (p := fun e => exOk p e → GoC p d e) (fun e ih h => ?_) e
 by_cases k3 : e.op = 3
 ·exact ref18_goals_read hfp h k3
 ·by_cases k11 : e.op = 11
  ·exact ref18_goals_if h k11 fun a ha => ih a ha (exOk_arg h ha)
  ·exact ref18_goals_loop h k3 k11 fun a ha => ih a ha (exOk_arg h ha)
end Go.Proofs.YtbblkakcadonjaaGreatDoor
