/- Walks: the obligations of an expression, by the program. -/
import Derived.Test.YtbblkakcadonjaaGreatDoorV18e
import Derived.Test.YtbblkakcadonjaaGreatDoorV18c
import Derived.Test.YtbblkakcadonjaaGreatDoorP18w
set_option linter.unusedVariables false
set_option linter.unusedSimpArgs false
set_option maxRecDepth 20000
set_option maxHeartbeats 4000000
set_option maxRecDepth 1000000
namespace Go.Proofs.YtbblkakcadonjaaGreatDoor
open Go.Abs Go.RowKit

def ExC (p : Prg) (d : Nat) (e : Ex) : Prop := ∀ (cs : List Con) (l : List Ob) (q r nx : Nat) (F : List (Nat × Box)), cs.length + e.sz ≤ 20000 → l.length + 72 * e.sz ≤ 100000000 → q < r → r < nx → Go.Abs.frOk nx [q, r] F →
  ICalls Tryz.prog n_bounds_walker_expr [.c (.ptr q 0), aEx e, aCons cs] (wlM q r p d l F) nx (packV []) (wlM q nx p d (l ++ obS p e cs) F) (nx + 1)
abbrev bXo (o : Int) (e : Ex) : Box := .var [.pure (pI o), .pure (pS e.name), .pure (pI e.val.1), .pure (pI e.val.2), .pure (pI e.ty.1), .pure (pI e.ty.2.1), .pure (pI e.ty.2.2.1), .pure (pI e.ty.2.2.2.1), .pure (pI e.ty.2.2.2.2), .pure (pI e.lin.1), .pure (pMonos e.lin.2), .pure (pSl ixP e.idx), .pure (.slice (e.args.map Ex.row))]
abbrev bXr (e : Ex) : Box := bXo e.op e
abbrev bIx (x : Ix) : Box := .var [.pure (pI x.1.1), .pure (pMonos x.1.2), .pure (pS x.2.1), .pure (pSl linP x.2.2)]
set_option maxHeartbeats 4000000 in
theorem bounds_expr_loop {p : Prg} {d : Nat} {e : Ex} (h : exOk p e) (k3 : e.op ≠ 3) (k11 : e.op ≠ 11) (IH : ∀ a ∈ e.args, ExC p d a) : ExC p d e := by
 intro cs l q r nx F hcs hl hr hrn hF
 have hqk : ∀ k, q < nx + k := fun k => by omega
 have hz := Ex.sz_eq e
 have hal := Ex.szs_len e.args
 have hob : obS p e cs = obs p e.args cs := by rw [obS_eq, if_neg k3, if_neg k11, List.nil_append]
 rw [hob]
 clear hob
 refine ICalls.ofZ (ress := []) is_bounds_walker_expr (by simp) fun _ => runW_sound ?_
 conv in c_bounds_walker_expr => cbv
 repeat' first | simp (disch := omega) only [go_sem, *, ifN, ifNP, k3, k11] | ((with_reducible refine condT ?_ ?_) <;> intro h <;> try omega)
 refine AW_loop (fun k : Nat => ⟨[(0, .c (.ptr q 0)), (2, aCons cs), (90, .c (.pure (.slice (e.args.map Ex.row)))), (91, I e.args.length), (92, I k)], wlM q nx p d (l ++ obs p (e.args.take k) cs) F, nx + 1, nx⟩) (fun k => k ≤ e.args.length) (fun k => e.args.length - k) ⟨0, [(nx, r)], by omega, ?_⟩ ?_
 ·simp only [List.take_zero, obs, List.append_nil]
  refine Wk_intro (by simp (disch := omega) [ifN, hqk]) ?_ rfl (by simp; try omega) (by simp [wkL]; try omega)
  repeat' first | exact hF.wkA | refine wkM_cons ?_ ?_ ?_ ?_ ?_ | (simp (disch := omega) [ifN, hqk] <;> omega) | omega
 intro k hk
 refine runW_sound ?_
 have h0n : q < nx := by omega
 by_cases hlt : k < e.args.length
 ·have hm := List.getElem_mem hlt
  have hoa := exOk_arg h hm
  have hsm := sz_mem hm
  have hlen : ∀ l : List Ex, (∀ a ∈ l, rnkAll a) → (obs p l cs).length ≤ 72 * Ex.szs l := by
   intro l
   induction l with
   | nil => intro _; simp [obs]
   | cons a s ih =>
    intro hh
    have := ob_len p a (hh a List.mem_cons_self) cs
    have := ih fun b hb => hh b (List.mem_cons_of_mem _ hb)
    simp only [obs, List.length_append, Ex.szs]
    omega
  have h1 := hlen (e.args.take k) fun a ha => rnkAll_arg h.1.1 (List.mem_of_mem_take ha)
  have h2 : Ex.szs (e.args.take k) + e.args[k].sz ≤ Ex.szs e.args := by
   have a1 := Ex.szs_take hlt
   have a2 : Ex.szs (e.args.take (k + 1)) ≤ Ex.szs e.args := by
    conv => rhs; rw [← List.take_append_drop (k + 1) e.args, Ex.szs_append]
    omega
   omega
  have pe := IH _ hm cs (l ++ obs p (e.args.take k) cs) q nx (nx + 2) ((nx + 1, bXr e.args[k]) :: F) (by omega) (by simp only [List.length_append]; omega) h0n (by omega) (fr_cons hF (by omega) (by omega) (by omega) rfl (.inr (Nat.le_refl _)) (by omega))
  rw [List.append_assoc, ← obs_take p cs hlt] at pe
  have g1 := map_get (f := Ex.row) hlt
  rw [Ex.row_eq] at g1
  clear IH h hoa hlen h1 h2 hm
  repeat' first | simp (disch := omega) only [go_sem, *, g1, ifN, ifNP, wrap_i64] | ((with_reducible refine condT ?_ ?_) <;> intro h <;> try omega) | (refine callW_i (pe.perm (fun nm => by first | rfl | (simp only [findB, findB_setB]; done) | (simp only [findB, findB_setB]; (repeat' split) <;> first | rfl | omega))) ?_)
  refine ⟨k + 1, [(nx, nx + 2)], by omega, by omega, ?_⟩
  refine Wk_intro (by simp (disch := omega) [ifN, hqk, h0n]) ?_ rfl (by simp; try omega) (by simp [wkL]; try omega)
  repeat' first | exact hF.wkA | refine wkM_cons ?_ ?_ ?_ ?_ ?_ | (simp (disch := omega) [ifN, hqk, h0n] <;> omega) | omega
 ·obtain rfl : k = e.args.length := by omega
  rw [List.take_of_length_le (by omega)]
  repeat' first | simp (disch := omega) only [go_sem, *, ifN, ifNP] | ((with_reducible refine condT ?_ ?_) <;> intro h <;> try omega)
  refine ⟨[], [], ?_⟩
  simp (disch := omega) only [go_sem, frzLA, ifN, ifNP]
  refine Wk_intro (by simp (disch := omega) [ifN, hqk]) ?_ rfl (by simp; try omega) (by simp [wkL]; try omega)
  repeat' first | exact hF.wkA | refine wkM_cons ?_ ?_ ?_ ?_ ?_ | (simp (disch := omega) [ifN, hqk] <;> omega) | omega
set_option maxHeartbeats 4000000 in
theorem bounds_expr_if {p : Prg} {d : Nat} {e : Ex} (h : exOk p e) (k11 : e.op = 11) (IH : ∀ a ∈ e.args, ExC p d a) : ExC p d e := by
 intro cs l q r nx F hcs hl hr hrn hF
 have hqk : ∀ k, q < nx + k := fun k => by omega
 have ha := (rnkAll_self h.1.1).1
 rw [k11] at ha
 obtain ⟨a, b, c, hargs⟩ := args3 (l := e.args) ha
 have ma : a ∈ e.args := by rw [hargs]; simp
 have mb : b ∈ e.args := by rw [hargs]; simp
 have mc : c ∈ e.args := by rw [hargs]; simp
 have hz := Ex.sz_eq e
 rw [hargs] at hz
 simp only [Ex.szs] at hz
 have oa := exOk_arg h ma
 have on := lnOk_not oa.1
 have hnz : (notE a).sz = 1 + a.sz := by rw [Ex.sz_eq]; simp [notE, Ex.args, Ex.szs]
 have fa := (fac_ok a oa.1).1
 have fn : (facS (notE a)).1.length ≤ a.sz := by
  have e1 : facS (notE a) = notF (facS a) := facN_not rfl rfl
  have := Ex.sz_pos a
  rw [e1]
  unfold notF
  split
  ·split
   ·rename_i hh
    show (negS _).1.length ≤ _
    omega
   ·simp
  ·simp
 have hob : obS p e cs = obS p a cs ++ obS p b (cs ++ (facS a).1) ++ obS p c (cs ++ (facS (notE a)).1) := by
  rw [obS_eq, if_neg (by omega), if_pos k11, hargs, List.nil_append]
  rfl
 have l1 := ob_len p a oa.1.1 cs
 have l2 := ob_len p b (exOk_arg h mb).1.1 (cs ++ (facS a).1)
 have pf := bounds_facts_p oa.1 (by omega)
 have pn := bounds_facts_p on (by omega)
 have p1 := IH a ma cs l q r (nx + 1) ((nx, bXr e) :: F) (by omega) (by omega) hr (by omega) (fr_cons hF (by omega) (by omega) (by omega) rfl (.inl rfl) (by omega))
 have p2 := IH b mb (cs ++ (facS a).1) (l ++ obS p a cs) q (nx + 1) (nx + 2) ((nx, bXr e) :: F) (by simp only [List.length_append]; omega) (by simp only [List.length_append]; omega) (by omega) (by omega) (fr_cons hF (by omega) (by omega) (by omega) rfl (.inr (by omega)) (by omega))
 have p3 := IH c mc (cs ++ (facS (notE a)).1) (l ++ obS p a cs ++ obS p b (cs ++ (facS a).1)) q (nx + 2) (nx + 3) ((nx, bXr e) :: F) (by simp only [List.length_append]; omega) (by simp only [List.length_append]; omega) (by omega) (by omega) (fr_cons hF (by omega) (by omega) (by omega) rfl (.inr (by omega)) (by omega))
 rw [hob, ← List.append_assoc, ← List.append_assoc]
 have hok : rowsOk 3 (cs.map cP) := rowsOk_map fun _ => rfl
 have hokf : rowsOk 3 ((facS a).1.map cP) := rowsOk_map fun _ => rfl
 have hokn : rowsOk 3 ((facS (notE a)).1.map cP) := rowsOk_map fun _ => rfl
 have hrx : rowsOk 13 (e.args.map Ex.row) := rowsOk_map fun x => by rw [Ex.row_eq]; rfl
 have tk : (cs.map cP).take cs.length = cs.map cP := List.take_of_length_le (by simp)
 have hg : (e.args.map Ex.row)[0]? = some a.row := by rw [hargs]; rfl
 have hg1 : (e.args.map Ex.row)[1]? = some b.row := by rw [hargs]; rfl
 have hg2 : (e.args.map Ex.row)[2]? = some c.row := by rw [hargs]; rfl
 have hgt : (e.args.map Ex.row).take 1 = [a.row] := by rw [hargs]; rfl
 have hal : e.args.length = 3 := by rw [hargs]; rfl
 have lf : (facS a).1.length ≤ 20000 := by omega
 have ln : (facS (notE a)).1.length ≤ 20000 := by omega
 have lc : cs.length ≤ 20000 := by omega
 rw [Ex.row_eq] at hg hg1 hg2 hgt
 rw [show aEx (notE a) = .agg [.pure (pI 18), .pure (pS ⟨⟨[]⟩⟩), .pure (pI 0), .pure (pI 0), .pure (pI 0), .pure (pI 0), .pure (pI 0), .pure (pI 0), .pure (pI 0), .pure (pI 0), .pure (pMonos []), .pure (pSl ixP []), .pure (.slice [a.row])] from rfl, Ex.row_eq] at pn
 rw [show aCons (cs ++ (facS a).1) = .c (.pure (.slice (cs.map cP ++ (facS a).1.map cP))) by show AV.c (.pure (.slice (List.map cP (_ ++ _)))) = _; rw [List.map_append]] at p2
 rw [show aCons (cs ++ (facS (notE a)).1) = .c (.pure (.slice (cs.map cP ++ (facS (notE a)).1.map cP))) by show AV.c (.pure (.slice (List.map cP (_ ++ _)))) = _; rw [List.map_append]] at p3
 clear IH h ha hargs ma mb mc hz oa on hnz fa fn hob l1 l2 hcs hl
 refine ICalls.ofZ (ress := []) is_bounds_walker_expr (by simp) fun _ => runW_sound ?_
 conv in c_bounds_walker_expr => cbv
 generalize obS p a cs = o1 at *
 generalize obS p b (cs ++ (facS a).1) = o2 at *
 generalize obS p c (cs ++ (facS (notE a)).1) = o3 at *
 simp only [aEx, bXr, k11] at p1 p2 p3
 repeat' first | simp (disch := omega) only [go_sem, *, ifN, ifNP, and_false, if_false, k11, hrx, hok, hg, hg1, hg2, hgt, hal, tk, Int.reduceToNat, Int.toNat_zero, Int.toNat_one, Option.getD_none, Option.getD_some] | ((with_reducible refine condT ?_ ?_) <;> intro h <;> try omega) | (with_reducible refine bothW_intro ?_ ?_) | (with_reducible refine nilW_intro (fun h => ?_) ?_) | (refine callW_i (p1.perm (fun nm => by first | rfl | (simp only [findB, findB_setB]; done) | (simp only [findB, findB_setB]; (repeat' split) <;> first | rfl | omega))) ?_) | (refine callW_i (p2.perm (fun nm => by first | rfl | (simp only [findB, findB_setB]; done) | (simp only [findB, findB_setB]; (repeat' split) <;> first | rfl | omega))) ?_) | (refine callW_i (p3.perm (fun nm => by first | rfl | (simp only [findB, findB_setB]; done) | (simp only [findB, findB_setB]; (repeat' split) <;> first | rfl | omega))) ?_) | (refine w_R pf rfl rfl ?_) | (refine w_R pn rfl rfl ?_) | (refine app_tslP hok hokf (by simp only [List.length_map]; omega) (by simp only [List.length_map]; omega) ?_) | (refine app_tslP hok hokn (by simp only [List.length_map]; omega) (by simp only [List.length_map]; omega) ?_)

 refine ⟨[], [(nx, nx + 3)], ?_⟩
 simp (disch := omega) only [go_sem, frzLA, ifN, ifNP]
 refine Wk_intro (by simp (disch := omega) [ifN, hqk]) ?_ rfl (by simp; try omega) (by simp [wkL]; try omega)
 repeat' first | exact hF.wkA | refine wkM_cons ?_ ?_ ?_ ?_ ?_ | (simp (disch := omega) [ifN, hqk] <;> omega) | omega
theorem fmz_take {α β γ : Type} {f : α × β → List γ} {l : List α} {m : List β} {k : Nat} (h : k < l.length) (h' : k < m.length) : ((l.zip m).take (k + 1)).flatMap f = ((l.zip m).take k).flatMap f ++ f (l[k], m[k]) := by
 have hz : k < (l.zip m).length := by simp; omega
 rw [List.take_succ_eq_append_getElem hz, List.flatMap_append]
 simp
theorem fmz_len {α β γ : Type} {f : α × β → List γ} {n : Nat} : ∀ {l : List (α × β)}, (∀ x ∈ l, (f x).length ≤ n) → (l.flatMap f).length ≤ n * l.length
 | [], _ => by simp
 |a :: r, h => by
  have h1 := h a List.mem_cons_self
  have h2 := fmz_len (l := r) fun x hx => h x (List.mem_cons_of_mem _ hx)
  simp only [List.flatMap_cons, List.length_append, List.length_cons, Nat.mul_add]
  omega
theorem obN_app (cs a b : List Con) : obN cs (a ++ b) = obN cs a ++ obN cs b := by simp [obN]
theorem obN_len (cs a : List Con) : (obN cs a).length = a.length := by simp [obN]
set_option maxHeartbeats 4000000 in
theorem bounds_expr_read {p : Prg} {d : Nat} {e : Ex} (hfp : fewP p) (h : exOk p e) (k3 : e.op = 3) : ExC p d e := by
 intro cs l q r nx F hcs hl hr hrn hF
 have hqk : ∀ k, q < nx + k := fun k => by omega
 obtain ⟨hra, _, _, hi6, ha6⟩ := rnkAll_self h.1.1
 rw [k3] at hra
 have hargs : e.args = [] := List.eq_nil_of_length_eq_zero (by have : ((e.args.length : Nat) : Int) = 0 := hra; omega)
 obtain ⟨t, ds, hfd, hlen, hds, hix⟩ := h.2 e (pre_self e) k3
 have hz := Ex.sz_pos e
 have hfn : ∀ n, nx ≤ n → findB F n = none := fun n h => frOk_none hF h
 have hob : obS p e cs = obN cs ((e.idx.zip ds).flatMap fun q => ixC p q.1 q.2) := by
  rw [obS_eq, if_pos k3, if_neg (by omega), hargs, obs, List.append_nil, readC, dimsF, hfd]
  rfl
 rw [hob]
 clear hob hra
 have pf := program_Find_abs hfp e.name
 rw [hfd] at pf
 have hforms := fun l hl => ((h.1.2 e (pre_self e)).2 l hl : lin64 l ∧ l.2.length ≤ 1000)
 refine ICalls.ofZ (ress := []) is_bounds_walker_expr (by simp) fun _ => runW_sound ?_
 conv in c_bounds_walker_expr => cbv
 repeat' first | simp (disch := omega) only [go_sem, *, ifN, ifNP, hfn, k3] | ((with_reducible refine condT ?_ ?_) <;> intro h <;> try omega) | (refine w_R pf rfl rfl ?_)
 refine AW_loop (fun i : Nat => ⟨[(0, .c (.ptr q 0)), (2, aCons cs), (4, .c (.ptr (nx + 1) 0)), (7, aLins ds), (38, .c (.pure (pSl ixP e.idx))), (39, I e.idx.length), (40, I i)], (nx + 1, bXo 3 e) :: wlM q nx p d (l ++ obN cs (((e.idx.zip ds).take i).flatMap fun q => ixC p q.1 q.2)) F, nx + 2, nx⟩) (fun i => i ≤ e.idx.length) (fun i => e.idx.length - i) ⟨0, [(nx, r), (nx + 1, nx)], by omega, ?_⟩ ?_
 ·simp only [List.take_zero, List.flatMap_nil, obN, List.map_nil, List.append_nil]
  refine Wk_intro (by simp (disch := omega) [ifN, hqk, hlen]) ?_ rfl (by simp; try omega) (by simp [wkL]; try omega)
  repeat' first | exact hF.wkA | refine wkM_cons ?_ ?_ ?_ ?_ ?_ | (simp (disch := omega) [ifN, hqk, hlen] <;> omega) | omega
 intro i hi
 refine runW_sound ?_
 have h0n : q < nx := by omega
 clear pf
 by_cases hlt : i < e.idx.length
 ·have hltd : i < ds.length := by omega
  have hm := List.getElem_mem hlt
  have g1 := map_get (f := ixP) hlt
  have g2 := map_get (f := linP) hltd
  have gd := hds _ (List.getElem_mem hltd)
  have hxi := hix _ hm
  have hf1 := hforms _ (List.mem_cons_of_mem _ (List.mem_flatMap.2 ⟨e.idx[i], hm, List.mem_cons_self⟩))
  have hfa : ∀ l ∈ e.idx[i].2.2, lin64 l ∧ l.2.length ≤ 1000 := fun l hl => hforms _ (List.mem_cons_of_mem _ (List.mem_flatMap.2 ⟨e.idx[i], hm, List.mem_cons_of_mem _ hl⟩))
  have h6 := ha6 _ hm
  have hst := fmz_take (f := fun q : Ix × Lin => ixC p q.1 q.2) hlt hltd
  have hll : (((e.idx.zip ds).take i).flatMap fun q => ixC p q.1 q.2).length ≤ 60 := by
   have := fmz_len (f := fun q : Ix × Lin => ixC p q.1 q.2) (n := 12) (l := (e.idx.zip ds).take i) fun x hx => ixC_len (ha6 _ (List.of_mem_zip (List.mem_of_mem_take hx)).1)
   have h3 : ((e.idx.zip ds).take i).length ≤ i := by simp; omega
   omega
  clear hix hforms hds ha6 h hm hfd
  obtain ⟨R1, hR1⟩ : ∃ R1, R1 = ((e.idx.zip ds).take (i + 1)).flatMap (fun q => ixC p q.1 q.2) := ⟨_, rfl⟩
  rw [← hR1] at hst
  have HR1 := Lib.hid hR1
  clear hR1
  generalize ((e.idx.zip ds).take i).flatMap (fun q => ixC p q.1 q.2) = R0 at *
  generalize ds[i] = dl at *
  generalize e.idx[i] = x at *
  obtain ⟨⟨K, L⟩, s, at'⟩ := x
  obtain ⟨K2, L2⟩ := dl
  simp only [ixP, linP] at g1 g2 hf1 gd hxi hfa h6 hst
  have hlen' : ds.length = e.idx.length := hlen.symm
  by_cases hs : s = ⟨⟨[]⟩⟩
  ·subst hs
   rw [ixC, if_pos rfl] at hst
   have pn := bounds_need_abs (p := p) (d := d) (f := (K, L)) (x := (K2, L2)) (cs := cs) (l := l ++ obN cs R0) (q := q) (r := nx) (nx := nx + 3) (F := (nx + 2, bIx ((K, L), ⟨⟨[]⟩⟩, at')) :: (nx + 1, bXo 3 e) :: F) hf1.1 gd.1 (by have := hf1.2; simp only at this ⊢; omega) (by have := gd.2; simp only at this ⊢; omega) (by simp only [List.length_append, obN_len]; omega) h0n (by omega)
    (fr_cons (fr_cons hF (by omega) (by omega) (by omega) rfl (.inr (Nat.le_refl _)) (by omega)) (by omega) (Nat.le_refl _) (by omega) rfl (.inl rfl) (by omega))
   rw [List.append_assoc, ← obN_app, ← hst] at pn
   clear hst hxi hf1 hfa gd hlen
   repeat' first | simp (disch := omega) only [go_sem, *, g1, g2, hlen', ifN, ifNP, hfn, wrap_i64] | ((with_reducible refine condT ?_ ?_) <;> intro h <;> try omega) | (refine callW_i (pn.perm (fun nm => by first | rfl | (simp only [findB, findB_setB]; done) | (simp only [findB, findB_setB]; (repeat' split) <;> first | rfl | omega))) ?_)
   refine ⟨i + 1, [(nx, nx + 3)], by omega, by omega, ?_⟩
   rw [← HR1.out]
   refine Wk_intro (by simp (disch := omega) [ifN, hqk, h0n]) ?_ rfl (by simp; try omega) (by simp [wkL]; try omega)
   repeat' first | exact hF.wkA | refine wkM_cons ?_ ?_ ?_ ?_ ?_ | (simp (disch := omega) [ifN, hqk, h0n] <;> omega) | omega
  ·obtain ⟨t', ds', hfd', hlen2, hds'⟩ := hxi hs
   have pf2 := program_Find_abs hfp s
   rw [hfd'] at pf2
   rw [ixC, if_neg hs, dimsF, hfd'] at hst
   clear hxi hf1 gd hlen g2 hfd'
   simp only at hst hlen2
   repeat' first | simp (disch := omega) only [go_sem, *, g1, hlen', ifN, ifNP, hfn, hs] | ((with_reducible refine condT ?_ ?_) <;> intro h <;> try omega) | (refine w_R pf2 rfl rfl ?_)
   refine AW_loop (fun k : Nat => ⟨[(0, .c (.ptr q 0)), (2, aCons cs), (4, .c (.ptr (nx + 1) 0)), (7, aLins ds), (12, aLins ds'), (38, .c (.pure (pSl ixP e.idx))), (39, I e.idx.length), (40, I i), (69, aLins at'), (70, I at'.length), (71, I k)], (nx + 1, bXo 3 e) :: wlM q nx p d (l ++ obN cs (R0 ++ ((at'.zip ds').take k).flatMap fun q => needS q.1 q.2)) F, nx + 2, nx⟩) (fun k => k ≤ at'.length) (fun k => at'.length - k) ⟨0, [], by omega, ?_⟩ ?_
   ·simp only [List.take_zero, List.flatMap_nil, List.append_nil]
    refine Wk_intro (by simp (disch := omega) [ifN, hqk, h0n, hlen2]) ?_ rfl (by simp; try omega) (by simp [wkL]; try omega)
    repeat' first | exact hF.wkA | refine wkM_cons ?_ ?_ ?_ ?_ ?_ | (simp (disch := omega) [ifN, hqk, h0n, hlen2] <;> omega) | omega
   clear pf2 g1
   intro k hk
   refine runW_sound ?_
   by_cases hlk : k < at'.length
   ·have hlkd : k < ds'.length := by omega
    have g3 := map_get (f := linP) hlk
    have g4 := map_get (f := linP) hlkd
    have b1 := hfa _ (List.getElem_mem hlk)
    have b2 := hds' _ (List.getElem_mem hlkd)
    have hst2 := fmz_take (f := fun q : Lin × Lin => needS q.1 q.2) hlk hlkd
    have hl2 : (((at'.zip ds').take k).flatMap fun q => needS q.1 q.2).length ≤ 12 := by
     rw [fm2_len]
     have : ((at'.zip ds').take k).length ≤ at'.length := by simp; omega
     omega
    have pn := bounds_need_abs (p := p) (d := d) (f := at'[k]) (x := ds'[k]) (cs := cs) (l := l ++ obN cs (R0 ++ ((at'.zip ds').take k).flatMap fun q => needS q.1 q.2)) (r := nx) (nx := nx + 3) (F := (nx + 2, .var [.pure (pI at'[k].1), .pure (pMonos at'[k].2)]) :: (nx + 1, bXo 3 e) :: F) b1.1 b2.1 (by have := b1.2; omega) (by have := b2.2; omega) (by simp only [List.length_append, obN_len]; omega) h0n (by omega)
     (fr_cons (fr_cons hF (by omega) (by omega) (by omega) rfl (.inr (Nat.le_refl _)) (by omega)) (by omega) (Nat.le_refl _) (by omega) rfl (.inl rfl) (by omega))
    rw [List.append_assoc, ← obN_app, List.append_assoc, ← hst2] at pn
    clear hst2 b1 b2 hst hfa hds'
    simp only [linP] at g3 g4
    have hlen3 : ds'.length = at'.length := hlen2.symm
    clear hlen2
    repeat' first | simp (disch := omega) only [go_sem, *, g3, g4, hlen3, ifN, ifNP, hfn, wrap_i64] | ((with_reducible refine condT ?_ ?_) <;> intro h <;> try omega) | (refine callW_i (pn.perm (fun nm => by first | rfl | (simp only [findB, findB_setB]; done) | (simp only [findB, findB_setB]; (repeat' split) <;> first | rfl | omega))) ?_)
    refine ⟨k + 1, [(nx, nx + 3)], by omega, by omega, ?_⟩
    refine Wk_intro (by simp (disch := omega) [ifN, hqk, h0n]) ?_ rfl (by simp; try omega) (by simp [wkL]; try omega)
    repeat' first | exact hF.wkA | refine wkM_cons ?_ ?_ ?_ ?_ ?_ | (simp (disch := omega) [ifN, hqk, h0n] <;> omega) | omega
   ·obtain rfl : k = at'.length := by omega
    rw [List.take_of_length_le (l := at'.zip ds') (by simp; omega), ← hst]
    clear hst hfa hds'
    repeat' first | simp (disch := omega) only [go_sem, *, ifN, ifNP, hfn, wrap_i64] | ((with_reducible refine condT ?_ ?_) <;> intro h <;> try omega)
    refine ⟨i + 1, [], by omega, by omega, ?_⟩
    rw [← HR1.out]
    refine Wk_intro (by simp (disch := omega) [ifN, hqk, h0n]) ?_ rfl (by simp; try omega) (by simp [wkL]; try omega)
    repeat' first | exact hF.wkA | refine wkM_cons ?_ ?_ ?_ ?_ ?_ | (simp (disch := omega) [ifN, hqk, h0n] <;> omega) | omega
 ·obtain rfl : i = e.idx.length := by omega
  rw [List.take_of_length_le (l := e.idx.zip ds) (by simp; omega)]
  repeat' first | simp (disch := omega) only [go_sem, *, ifN, ifNP, hfn] | ((with_reducible refine condT ?_ ?_) <;> intro h <;> try omega)
  refine AW_loop (fun k : Nat => ⟨[(0, .c (.ptr q 0)), (2, aCons cs), (90, .c (.pure (.slice []))), (91, I 0), (92, I 0)], wlM q nx p d (l ++ obN cs ((e.idx.zip ds).flatMap fun q => ixC p q.1 q.2)) F, nx + 1, nx⟩) (fun k => k = 0) (fun _ => 0) ⟨0, [], rfl, ?_⟩ ?_
  ·refine Wk_intro (by simp (disch := omega) [ifN, hqk, hargs]) ?_ rfl (by simp; try omega) (by simp [wkL]; try omega)
   repeat' first | exact hF.wkA | refine wkM_cons ?_ ?_ ?_ ?_ ?_ | (simp (disch := omega) [ifN, hqk, hargs] <;> omega) | omega
  rintro k rfl
  refine runW_sound ?_
  repeat' first | simp (disch := omega) only [go_sem, *, ifN, ifNP, hfn] | ((with_reducible refine condT ?_ ?_) <;> intro h <;> try omega)
  refine ⟨[], [], ?_⟩
  simp (disch := omega) only [go_sem, frzLA, ifN, ifNP]
  refine Wk_intro (by simp (disch := omega) [ifN, hqk]) ?_ rfl (by simp; try omega) (by simp [wkL]; try omega)
  repeat' first | exact hF.wkA | refine wkM_cons ?_ ?_ ?_ ?_ ?_ | (simp (disch := omega) [ifN, hqk] <;> omega) | omega
theorem bounds_expr_c {p : Prg} {d : Nat} (hfp : fewP p) (e : Ex) : exOk p e → ExC p d e := by
 refine Ex.ind (p := fun e => exOk p e → ExC p d e) (fun e ih h => ?_) e
 by_cases k3 : e.op = 3
 ·exact bounds_expr_read hfp h k3
 ·by_cases k11 : e.op = 11
  ·exact bounds_expr_if h k11 fun a ha => ih a ha (exOk_arg h ha)
  ·exact bounds_expr_loop h k3 k11 fun a ha => ih a ha (exOk_arg h ha)
end Go.Proofs.YtbblkakcadonjaaGreatDoor
set_option linter.unusedVariables false
set_option linter.unusedSimpArgs false
set_option maxRecDepth 20000
set_option maxHeartbeats 4000000
set_option maxRecDepth 1000000
namespace Go.Proofs.YtbblkakcadonjaaGreatDoor
open Go.Abs Go.RowKit

abbrev Obl := Nat × Nat × Ob
def a6 (x : Obl) : List PC := obP x.1 x.2.1 x.2.2
def a5 (x : Obl) : List PC := [pI x.1, pI x.2.1, pI x.2.2.1.1.1, pMonos x.2.2.1.1.2, pB x.2.2.1.2]
noncomputable def defO (p : Prg) (x : Dfn × Nat) : List Obl := (obS p x.1.body []).zipIdx.map fun y => (x.2, y.2, y.1)
noncomputable def allK (p : Prg) (k : Nat) : List Obl := ((p.defs.take k).zipIdx).flatMap (defO p)
noncomputable def allO (p : Prg) : List Obl := (p.defs.zipIdx).flatMap (defO p)
theorem allK_succ {p : Prg} {k : Nat} (h : k < p.defs.length) : allK p (k + 1) = allK p k ++ defO p (p.defs[k], k) := by
 unfold allK
 rw [List.take_succ_eq_append_getElem h, List.zipIdx_append, List.flatMap_append]
 simp [Nat.min_eq_left (Nat.le_of_lt h)]
theorem defO_rows (p : Prg) (d : Dfn) (k : Nat) : (defO p (d, k)).map a6 = rowsO k (obS p d.body []) := by
 simp [defO, rowsO, a6, Function.comp_def]
def alOk (p : Prg) : Prop := p.defs.length ≤ 1000 ∧ ∀ d ∈ p.defs, exOk p d.body ∧ d.body.sz ≤ 20000 - 1
theorem defO_len {p : Prg} {d : Dfn} {k : Nat} (h : exOk p d.body ∧ d.body.sz ≤ 20000 - 1) : (defO p (d, k)).length ≤ 1440000 := by
 have := ob_len p d.body h.1.1.1 []
 simp only [defO, List.length_map, List.length_zipIdx]
 omega
theorem allK_len {p : Prg} (h : alOk p) : ∀ k, (allK p k).length ≤ 1440000 * k := by
 intro k
 induction k with
 | zero => simp [allK]
 | succ k ih =>
  by_cases hlt : k < p.defs.length
  ·rw [allK_succ hlt, List.length_append]
   have := defO_len (k := k) (h.2 _ (List.getElem_mem hlt))
   omega
  ·have : allK p (k + 1) = allK p k := by
    unfold allK
    rw [List.take_of_length_le (by omega), List.take_of_length_le (by omega)]
   rw [this]
   omega
set_option maxHeartbeats 4000000 in
theorem bounds_all_abs {p : Prg} (hfp : fewP p) (h : alOk p) : PCalls Tryz.prog n_bounds_all [aPrg p] (aSl a6 (allO p)) := by
 refine PCalls.of is_bounds_all (by simp) fun hb => runW_sound ?_
 have hdl := h.1
 conv in c_bounds_all => cbv
 repeat' first | simp (disch := omega) only [go_sem, *] | ((with_reducible refine condT ?_ ?_) <;> intro h <;> try omega)
 refine AW_adopt 3 52 6 rfl (by decide) ?_
 refine AW_loop (fun k : Nat => ⟨[(10, I k), (9, I p.defs.length), (8, .c (.pure (pSl defP p.defs))), (3, .c (.ref 1)), (1, .c (.ptr 0 0))], [(1, .arr 52 6 ((allK p k).map a6)), (0, bPrg p)], 2, 0⟩) (fun k => k ≤ p.defs.length) (fun k => p.defs.length - k) ⟨0, [], by omega, by simp [allK]⟩ ?_
 intro k hk
 by_cases hlt : k < p.defs.length
 ·have hd := h.2 _ (List.getElem_mem hlt)
  have hL := allK_len h k
  have hD := defO_len (k := k) hd
  have pe := bounds_expr_c (d := k) hfp p.defs[k].body hd.1 [] [] 3 4 5 [(2, bDfn p.defs[k]), (1, .arr 52 6 ((allK p k).map a6)), (0, bPrg p)] (by have := hd.2; simp; omega) (by have := hd.2; simp; omega) (by omega) (by omega) ⟨by omega, rfl, by simp [notIn], by omega, rfl, by simp [notIn], by omega, rfl, by simp [notIn], trivial⟩
  rw [List.nil_append] at pe
  have hrw := defO_rows p p.defs[k] k
  have hs := allK_succ hlt
  have g1 := map_get (f := defP) hlt
  refine AW_seq (runW_sound ?_)
  repeat' first | simp (disch := omega) only [go_sem, *] | ((with_reducible refine condT ?_ ?_) <;> intro h <;> try omega)
  refine AW_seq (AW_cond (t := decide ((k : Int) < (p.defs.length : Int))) rfl (fun _ => AW_skip ?_) (fun e => absurd e (by simp; omega)))
  change AW _ _ _ _ _
  refine AW_seq (AW_block (AW_seq (runW_sound ?_)))
  repeat' first | simp (disch := omega) only [go_sem, *, g1, defP] | ((with_reducible refine condT ?_ ?_) <;> intro h <;> try omega)
  refine AW_seq (runW_sound ?_)
  repeat' first | simp (disch := omega) only [go_sem, *] | ((with_reducible refine condT ?_ ?_) <;> intro h <;> try omega)
  refine AW_adoptM 3 6 52 6 _ rfl rfl (by decide) ?_
  have pc := ICalls.nil3 pe
  have ho : rowsOk 6 (rowsO k (obS p p.defs[k].body [])) := by rw [← hrw]; exact rowsOk_map fun x => rfl
  have hol : (rowsO k (obS p p.defs[k].body [])).length ≤ 1440000 := by rw [← hrw, List.length_map]; exact hD
  have hat : (allK p k).map a6 ++ rowsO k (obS p p.defs[k].body []) = (allK p (k + 1)).map a6 := by rw [hs, List.map_append, hrw]
  have HT := Lib.hid hat
  clear hat hs hrw pe hb hd g1
  refine runW_sound ?_
  repeat' first | simp (disch := omega) only [go_sem, *] | ((with_reducible refine condT ?_ ?_) <;> intro h <;> try omega) | (refine callW_i (pc.perm (fun nm => by first | rfl | (simp only [findB, findB_setB]; done) | (simp only [findB, findB_setB]; (repeat' split) <;> first | rfl | omega))) ?_) | (refine app_own rfl (by intro h; cases h) ho (by simp only [List.length_map]; omega) (by simp only [List.length_map]; omega) ?_)
  rw [HT.out]
  change AW _ _ _ _ _
  refine runW_sound ?_
  repeat' first | simp (disch := omega) only [go_sem, *, wrap_i64] | ((with_reducible refine condT ?_ ?_) <;> intro h <;> try omega)
  exact ⟨k + 1, [(1, 6)], by omega, by omega, by simp⟩
 ·obtain rfl : k = p.defs.length := by omega
  refine runW_sound ?_
  rw [show allK p p.defs.length = allO p by unfold allK allO; rw [List.take_of_length_le (Nat.le_refl _)]]
  repeat' first | simp (disch := omega) only [go_sem, *] | ((with_reducible refine condT ?_ ?_) <;> intro h <;> try omega)
  all_goals rfl
noncomputable def accS (p : Prg) : List Obl := if (validS p).2 ≠ 0 then [] else allO p
theorem allO_len {p : Prg} (h : alOk p) : (allO p).length ≤ 1440000000 := by
 have h1 := allK_len h p.defs.length
 have h2 := h.1
 rw [show allK p p.defs.length = allO p by unfold allK allO; rw [List.take_of_length_le (Nat.le_refl _)]] at h1
 omega
theorem bounds_Accesses_abs {p : Prg} (hf : fewP p) (h64 : prg64 p) (hcp : (validS p).2 = 0 → cqOk p) (hal : (validS p).2 = 0 → alOk p) : PCalls Tryz.prog n_bounds_Accesses [aPrg p] (aSl a5 (accS p)) := by
 refine PCalls.of is_bounds_Accesses (by simp) fun hb => runW_sound ?_
 conv in c_bounds_Accesses => cbv
 have pv := program_Validate_abs hf h64
 by_cases h0 : (validS p).2 = 0
 ·have pc := program_Copy_abs (hcp h0)
  have pa := bounds_all_abs hf (hal h0)
  have hl := allO_len (hal h0)
  rw [accS, if_neg (not_not_intro h0)]
  rw [h0] at pv
  clear hcp hal h0
  repeat' first | simp (disch := omega) only [go_sem, *] | ((with_reducible refine condT ?_ ?_) <;> intro h <;> try omega) | (with_reducible refine bothW_intro ?_ ?_) | (with_reducible refine nilW_intro (fun h => ?_) ?_) | (refine w_L pv rfl rfl ?_) | (refine w_R pc rfl rfl ?_) | (refine w_R pa rfl rfl ?_)
  generalize allO p = l at *
  refine AW_adopt 5 39 5 rfl (by decide) ?_
  refine AW_loop (fun k : Nat => ⟨[(19, I k), (18, I l.length), (17, aSl a6 l), (5, .c (.ref 1))], [(1, .arr 39 5 ((l.take k).map a5))], 2, 0⟩) (fun k => k ≤ l.length) (fun k => l.length - k) ⟨0, [], by omega, by simp⟩ ?_
  clear pv pc pa h64 hb
  intro k hk
  refine runW_sound ?_
  by_cases hlt : k < l.length
  ·have g1 : (l.map a6)[k]? = some [pI l[k].1, pI l[k].2.1, pI l[k].2.2.1.1.1, pMonos l[k].2.2.1.1.2, pB l[k].2.2.1.2, pSl cP l[k].2.2.2] := map_get (f := a6) hlt
   have e1 : (l.take (k + 1)).map a5 = (l.take k).map a5 ++ [[pI l[k].1, pI l[k].2.1, pI l[k].2.2.1.1.1, pMonos l[k].2.2.1.1.2, pB l[k].2.2.1.2]] := by
    rw [List.take_succ_eq_append_getElem hlt, List.map_append]
    rfl
   have hlen : ((l.take k).map a5).length ≤ 1440000000 := by simp; omega
   have HT := Lib.hid e1.symm
   clear e1
   repeat' first | simp (disch := omega) only [go_sem, *, g1, wrap_i64] | ((with_reducible refine condT ?_ ?_) <;> intro h <;> try omega) | (refine app_own rfl (by intro h; cases h) (rowsOk_one rfl) (by simp only [List.length_cons, List.length_nil]; omega) (by simp only [List.length_cons, List.length_nil]; omega) ?_)
   rw [HT.out]
   exact ⟨k + 1, [(1, 3)], by omega, by omega, by simp⟩
  ·repeat' first | simp (disch := omega) only [go_sem, *] | ((with_reducible refine condT ?_ ?_) <;> intro h <;> try omega)
   rw [List.take_of_length_le (by omega)]
 ·rw [accS, if_pos h0]
  clear hcp hal
  repeat' first | simp (disch := omega) only [go_sem, *, h0] | ((with_reducible refine condT ?_ ?_) <;> intro h <;> try omega) | (refine w_L pv rfl rfl ?_)
  all_goals rfl
end Go.Proofs.YtbblkakcadonjaaGreatDoor
