/- Walks: package expr, whole expressions. -/
import Derived.Test.YtbblkakcadonjaaGreatDoorVWalk
import Derived.Test.YtbblkakcadonjaaGreatDoorVLex
set_option linter.unusedVariables false
set_option linter.unusedSimpArgs false
set_option maxRecDepth 20000
set_option maxHeartbeats 4000000
set_option maxRecDepth 1000000
namespace Go.Proofs.YtbblkakcadonjaaGreatDoor
open Go.Abs Go.RowKit

theorem expr_depth_abs (e : Ex) : ∀ n : Nat, 1 ≤ n → n ≤ 1000000 → PCalls Tryz.prog n_expr_depth [aEx e, I n] (I (min e.dep n : Nat)) := by
 refine Ex.ind (p := fun e => ∀ n : Nat, 1 ≤ n → n ≤ 1000000 → PCalls Tryz.prog n_expr_depth [aEx e, I n] (I (min e.dep n : Nat))) (fun e ih n h1 h2 => ?_) e
 refine PCalls.of is_expr_depth (by simp) fun hb => runW_sound ?_
 have hl := (bnd_args hb).1
 conv in c_expr_depth => cbv
 have hd0 := Ex.dep_pos e
 by_cases hn : n = 1
 ·subst hn
  repeat' first | simp (disch := omega) only [go_sem, *] | ((with_reducible refine condT ?_ ?_) <;> intro h <;> try omega)
  rw [Nat.min_eq_right hd0]
 ·rw [Ex.dep_eq]
  have hn1 : ¬ (n : Int) ≤ 1 := by omega
  repeat' first | simp (disch := omega) only [go_sem, *, hn1] | ((with_reducible refine condT ?_ ?_) <;> intro h <;> try omega)
  refine AW_loop (fun k : Nat => ⟨[(14, I k), (13, I e.args.length), (12, .c (.pure (.slice (e.args.map Ex.row)))), (5, I (min (1 + Ex.deps (e.args.take k)) n : Nat)), (1, I n)], [], 0, 0⟩) (fun k => k ≤ e.args.length) (fun k => e.args.length - k) ⟨0, [], by omega, by simp [Ex.deps, Nat.min_eq_left h1]⟩ ?_
  rintro k hk
  refine runW_sound ?_
  by_cases hlt : k < e.args.length
  ·have hih := ih _ (List.getElem_mem hlt) (n - 1) (by omega) (by omega)
   rw [show ((n - 1 : Nat) : Int) = (n : Int) - 1 by omega] at hih
   have hd := Ex.deps_take hlt
   clear ih
   repeat' first | simp (disch := omega) only [go_sem, *, map_get hlt, Ex.row_eq, wrap_i64] | ((with_reducible refine condT ?_ ?_) <;> intro h <;> try omega) | (refine w_L hih rfl rfl ?_)
   have he : max ((min (1 + Ex.deps (e.args.take k)) n : Nat) : Int) (1 + ((min e.args[k].dep (n - 1) : Nat) : Int)) = ((min (1 + Ex.deps (e.args.take (k + 1))) n : Nat) : Int) := by rw [hd]; omega
   rw [he]
   exact ⟨k + 1, [], by omega, by omega, by simp⟩
  ·repeat' first | simp (disch := omega) only [go_sem, *] | ((with_reducible refine condT ?_ ?_) <;> intro h <;> try omega)
   rw [List.take_of_length_le (by omega)]
theorem expr_Depth_abs (e : Ex) : PCalls Tryz.prog n_expr_Depth [aEx e] (I (min e.dep 41 : Nat)) := by
 refine PCalls.of is_expr_Depth (by simp) fun hb => runW_sound ?_
 conv in c_expr_Depth => cbv
 repeat' first | simp (disch := omega) only [go_sem, *] | ((with_reducible refine condT ?_ ?_) <;> intro h <;> try omega) | (refine w_L (expr_depth_abs e 41 (by omega) (by omega)) rfl rfl ?_)
theorem expr_Size_abs (e : Ex) : PCalls Tryz.prog n_expr_Size [aEx e] (I (min e.sz 2001 : Nat)) := by
 refine PCalls.of is_expr_Size (by simp) fun hb => runW_sound ?_
 conv in c_expr_Size => cbv
 repeat' first | simp (disch := omega) only [go_sem, *] | ((with_reducible refine condT ?_ ?_) <;> intro h <;> try omega) | (refine w_R (expr_Walk_abs e) rfl rfl ?_)
 have hlen : (e.pre.map fun a => [aEx a]).length = e.sz := by rw [List.length_map, Ex.pre_length]
 refine AW_rangeR 2 [(3, .c (.ptr 1 0))] (fun k (_ : Unit) => ([(1, .var [.pure (pI k)]), (0, bEx e)], 2)) (fun k _ => k ≤ 2000) rfl rfl rfl (expr_Walk_1_y e) ?_ ⟨by simp, by simp⟩ (by simp [wkY, wkF, renV, renA, renC, rn, yv, purV, purVs, purA, purC, purPs, purP, purQ, look_cons, findB, clV, clA, clAs]) ⟨(), [], by omega, by simp⟩ ?_ ?_
 ·intro x hx
  obtain ⟨a, _, rfl⟩ := List.mem_map.1 hx
  rfl
 ·intro k x t hx hk
  obtain ⟨a, ha, rfl⟩ : ∃ a, e.pre[k]? = some a ∧ [aEx a] = x := by
   rw [List.getElem?_map] at hx
   exact Option.map_eq_some_iff.1 hx
  have hk1 : k < e.sz := by rw [← Ex.pre_length]; exact (List.getElem?_eq_some_iff.1 ha).1
  clear hx ha
  repeat' first | simp (disch := omega) only [go_sem, *, wrap_i64] | ((with_reducible refine condT ?_ ?_) <;> intro h <;> try omega)
  ·rw [show (k : Int) + 1 = ((min e.sz 2001 : Nat) : Int) by omega]
  ·exact ⟨(), [], by omega, by simp⟩
 ·intro t hk
  rw [hlen] at hk ⊢
  repeat' first | simp (disch := omega) only [go_sem, *] | ((with_reducible refine condT ?_ ?_) <;> intro h <;> try omega)
  rw [Nat.min_eq_left (by omega)]
theorem expr_names_1_abs : FnIx n_expr_names_1 (fun x => ¬ (x.2.1 ≠ ⟨⟨[]⟩⟩ → idOk x.2.1)) := by
 intro x
 refine PCalls.of is_expr_names_1 (by simp) fun hb => runW_sound ?_
 conv in c_expr_names_1 => cbv
 repeat' first | simp (disch := omega) only [go_sem, *] | ((with_reducible refine condT ?_ ?_) <;> intro h <;> try omega) | (refine w_L (lexer_IsName_abs _) rfl rfl ?_)
 all_goals (refine BC ?_; clear hb; simp only [Bool.not_eq_true', decI, decN, reduceCtorEq, false_iff, true_iff, not_exists, not_and, Classical.not_not, decide_eq_true_iff, decide_eq_false_iff_not]; first | done | grind [])
theorem expr_names_abs (e : Ex) : PCalls Tryz.prog n_expr_names [aEx e] (Go.Abs.B (decide (namOk e))) := by
 refine PCalls.of is_expr_names (by simp) fun hb => runW_sound ?_
 conv in c_expr_names => cbv
 repeat' first | simp (disch := omega) only [go_sem, *] | ((with_reducible refine condT ?_ ?_) <;> intro h <;> try omega) | (refine w_L (lexer_IsName_abs _) rfl rfl ?_) | (refine w_L (slices_ContainsFunc_Ix_abs expr_names_1_abs e.idx) rfl rfl ?_)
 all_goals (refine BD ?_; clear hb; simp only [Bool.not_eq_true', decI, decN, reduceCtorEq, false_iff, true_iff, not_exists, not_and, Classical.not_not, decide_eq_true_iff, decide_eq_false_iff_not]; first | done | grind [namOk])
theorem nodeErr_forms {e : Ex} (h1 : synOk e) (h2 : namOk e) (h3 : rnkOk e) (h4 : typdOk e) (h5 : e.op = 1 → valOk e.ty e.val) : ((∀ l ∈ e.forms, linOk l.2) → nodeErr e = 0) ∧ ((¬ ∀ l ∈ e.forms, linOk l.2) → nodeErr e = 1) := by
 unfold nodeErr
 rw [if_neg (not_not_intro h1), if_neg (not_not_intro h2), if_neg (not_not_intro h3), if_neg (not_not_intro h4)]
 exact ⟨fun hf => if_neg (not_not_intro ⟨h5, hf⟩), fun hf => if_pos fun h => hf h.2⟩
set_option maxHeartbeats 1000000 in
theorem expr_validNode_abs {e : Ex} (hv : frIn e.val) : PCalls Tryz.prog n_expr_validNode [aEx e] (I (nodeErr e)) := by
 refine PCalls.of is_expr_validNode (by simp) fun hb => runW_sound ?_
 conv in c_expr_validNode => cbv
 by_cases h1 : synOk e
 ·by_cases h2 : namOk e
  ·by_cases h3 : rnkOk e
   ·by_cases h4 : typdOk e
    ·have hvt := fun h => value_Valid_ty (h4.1 (.inl h)) hv
     by_cases h5 : e.op = 1 → valOk e.ty e.val
     ·obtain ⟨n0, n1⟩ := nodeErr_forms h1 h2 h3 h4 h5
      have hY := expr_forms_1_y e h3.2.2 h3.2.1
      have c1 := expr_syntax_abs e
      have c2 := expr_names_abs e
      have c3 := expr_rank_abs e
      have c4 := expr_types_abs e
      have c5 := expr_forms_abs e
      have hlen : (e.forms.map fun a : Lin => [aLin a.1 a.2]).length = e.forms.length := List.length_map _
      have hget : ∀ (k : Nat) x, (e.forms.map fun a : Lin => [aLin a.1 a.2])[k]? = some x → ∃ h : k < e.forms.length, x = [aLin e.forms[k].1 e.forms[k].2] := fun k x hx => by
       rw [List.getElem?_map] at hx
       obtain ⟨a, ha, rfl⟩ := Option.map_eq_some_iff.1 hx
       obtain ⟨hk, rfl⟩ := List.getElem?_eq_some_iff.1 ha
       exact ⟨hk, rfl⟩
      have h1d : ∀ x ∈ e.forms.map fun a : Lin => [aLin a.1 a.2], x.length = 1 := fun x hx => by
       obtain ⟨a, _, rfl⟩ := List.mem_map.1 hx
       rfl
      have hmem : ∀ k (h : k < e.forms.length), e.forms[k] ∈ e.forms := fun k h => List.getElem_mem h
      generalize nodeErr e = E at *
      by_cases hop : e.op = 1
      ·have hvt' := hvt hop
       have h5' := h5 hop
       obtain ⟨op, name, val, ty, lin, idx, args⟩ := e
       simp only [Ex.op] at hop
       subst hop
       generalize (Ex.mk 1 name val ty lin idx args).forms = fs at *
       have N0 := Lib.hid n0
       have N1 := Lib.hid n1
       have HY := Lib.hid hY
       have HG := Lib.hid hget
       have HL := Lib.hid hlen
       have HD := Lib.hid h1d
       clear n0 n1 hvt h5 hb hmem hget hlen h1d hY
       repeat' first | simp (disch := omega) only [go_sem, *, h1, h2, h3, h4, h5', Ex.op] | ((with_reducible refine condT ?_ ?_) <;> intro h <;> try omega) | (refine w_L c1 rfl rfl ?_) | (refine w_L c2 rfl rfl ?_) | (refine w_L c3 rfl rfl ?_) | (refine w_L c4 rfl rfl ?_) | (refine w_L hvt' rfl rfl ?_) | (refine w_R c5 rfl rfl ?_)
       have n0 := N0.out
       have n1 := N1.out
       have hY := HY.out
       have hget := HG.out
       have hlen := HL.out
       have h1d := HD.out
       clear N0 N1 HY HG HL HD
       refine AW_rangeR 2 [(2, .c (.ptr 1 0))] (fun k (_ : Unit) => ([(1, .var [.pure (pI 0)]), (0, bEx (Ex.mk 1 name val ty lin idx args))], 2)) (fun k _ => upTo (fun i => ∀ h : i < fs.length, linOk fs[i].2) k) rfl rfl rfl hY h1d ⟨by simp, by simp⟩ (by simp [wkY, wkF, renV, renA, renC, rn, yv, purV, purVs, purA, purC, purPs, purP, purQ, look_cons, findB, clV, clA, clAs]) ⟨(), [], .zero, by simp [Ex.op]⟩ ?_ ?_
       ·intro k x t hx hk
        obtain ⟨hlt, rfl⟩ := hget k x hx
        clear hx hlen hget h1d hY
        by_cases hok : linOk fs[k].2
        ·clear n1
         repeat' first | simp (disch := omega) only [go_sem, *, hok, Ex.op] | ((with_reducible refine condT ?_ ?_) <;> intro h <;> try omega) | (refine w_L (lin_Validate_abs _ _) rfl rfl ?_)
         exact ⟨(), [], hk.succ fun _ => hok, by simp [Ex.op]⟩
        ·have hE := n1 fun h => hok (h _ (List.getElem_mem hlt))
         subst hE
         clear n0 n1 hk
         repeat' first | simp (disch := omega) only [go_sem, *, hok, Ex.op] | ((with_reducible refine condT ?_ ?_) <;> intro h <;> try omega) | (refine w_L (lin_Validate_abs _ _) rfl rfl ?_)
       ·intro t hk
        rw [hlen] at hk
        have hE := n0 fun l hl => by
         obtain ⟨i, hi, rfl⟩ := List.mem_iff_getElem.1 hl
         exact hk i hi hi
        subst hE
        clear n0 n1 hk hlen hget h1d hY
        repeat' first | simp (disch := omega) only [go_sem, *, Ex.op] | ((with_reducible refine condT ?_ ?_) <;> intro h <;> try omega)
      ·have hvt' := trivial
       generalize e.forms = fs at *
       have N0 := Lib.hid n0
       have N1 := Lib.hid n1
       have HY := Lib.hid hY
       have HG := Lib.hid hget
       have HL := Lib.hid hlen
       have HD := Lib.hid h1d
       clear n0 n1 hvt h5 hb hmem hget hlen h1d hY
       repeat' first | simp (disch := omega) only [go_sem, *, h1, h2, h3, h4, hop] | ((with_reducible refine condT ?_ ?_) <;> intro h <;> try omega) | (refine w_L c1 rfl rfl ?_) | (refine w_L c2 rfl rfl ?_) | (refine w_L c3 rfl rfl ?_) | (refine w_L c4 rfl rfl ?_) | (refine w_L hvt' rfl rfl ?_) | (refine w_R c5 rfl rfl ?_)
       have n0 := N0.out
       have n1 := N1.out
       have hY := HY.out
       have hget := HG.out
       have hlen := HL.out
       have h1d := HD.out
       clear N0 N1 HY HG HL HD
       refine AW_rangeR 2 [(2, .c (.ptr 1 0))] (fun k (_ : Unit) => ([(1, .var [.pure (pI 0)]), (0, bEx e)], 2)) (fun k _ => upTo (fun i => ∀ h : i < fs.length, linOk fs[i].2) k) rfl rfl rfl hY h1d ⟨by simp, by simp⟩ (by simp [wkY, wkF, renV, renA, renC, rn, yv, purV, purVs, purA, purC, purPs, purP, purQ, look_cons, findB, clV, clA, clAs]) ⟨(), [], .zero, by simp [Ex.op]⟩ ?_ ?_
       ·intro k x t hx hk
        obtain ⟨hlt, rfl⟩ := hget k x hx
        clear hx hlen hget h1d hY
        by_cases hok : linOk fs[k].2
        ·clear n1
         repeat' first | simp (disch := omega) only [go_sem, *, hok, Ex.op] | ((with_reducible refine condT ?_ ?_) <;> intro h <;> try omega) | (refine w_L (lin_Validate_abs _ _) rfl rfl ?_)
         exact ⟨(), [], hk.succ fun _ => hok, by simp [Ex.op]⟩
        ·have hE := n1 fun h => hok (h _ (List.getElem_mem hlt))
         subst hE
         clear n0 n1 hk
         repeat' first | simp (disch := omega) only [go_sem, *, hok, Ex.op] | ((with_reducible refine condT ?_ ?_) <;> intro h <;> try omega) | (refine w_L (lin_Validate_abs _ _) rfl rfl ?_)
       ·intro t hk
        rw [hlen] at hk
        have hE := n0 fun l hl => by
         obtain ⟨i, hi, rfl⟩ := List.mem_iff_getElem.1 hl
         exact hk i hi hi
        subst hE
        clear n0 n1 hk hlen hget h1d hY
        repeat' first | simp (disch := omega) only [go_sem, *, Ex.op] | ((with_reducible refine condT ?_ ?_) <;> intro h <;> try omega)
     ·have hop : e.op = 1 := Classical.byContradiction fun h => h5 fun h' => absurd h' h
      have hnv : ¬ valOk e.ty e.val := fun h => h5 fun _ => h
      have hE : nodeErr e = 1 := by
       unfold nodeErr
       rw [if_neg (not_not_intro h1), if_neg (not_not_intro h2), if_neg (not_not_intro h3), if_neg (not_not_intro h4)]
       exact if_pos fun h => h5 h.1
      have hvt' := hvt hop
      have c1 := expr_syntax_abs e
      have c2 := expr_names_abs e
      have c3 := expr_rank_abs e
      have c4 := expr_types_abs e
      rw [hE]
      clear hE h5 hvt
      obtain ⟨op, name, val, ty, lin, idx, args⟩ := e
      simp only [Ex.op] at hop
      subst hop
      repeat' first | simp (disch := omega) only [go_sem, *, h1, h2, h3, h4, hnv, Ex.op] | ((with_reducible refine condT ?_ ?_) <;> intro h <;> try omega) | (refine w_L c1 rfl rfl ?_) | (refine w_L c2 rfl rfl ?_) | (refine w_L c3 rfl rfl ?_) | (refine w_L c4 rfl rfl ?_) | (refine w_L hvt' rfl rfl ?_)
    ·have hn : nodeErr e = 10 := by simp [nodeErr, h1, h2, h3, h4]
     rw [hn]
     clear hn
     repeat' first | simp (disch := omega) only [go_sem, *, h1, h2, h3, h4] | ((with_reducible refine condT ?_ ?_) <;> intro h <;> try omega) | (refine w_L (expr_syntax_abs e) rfl rfl ?_) | (refine w_L (expr_names_abs e) rfl rfl ?_) | (refine w_L (expr_rank_abs e) rfl rfl ?_) | (refine w_L (expr_types_abs e) rfl rfl ?_)
   ·have hn : nodeErr e = 11 := by simp [nodeErr, h1, h2, h3]
    rw [hn]
    clear hn
    repeat' first | simp (disch := omega) only [go_sem, *, h1, h2, h3] | ((with_reducible refine condT ?_ ?_) <;> intro h <;> try omega) | (refine w_L (expr_syntax_abs e) rfl rfl ?_) | (refine w_L (expr_names_abs e) rfl rfl ?_) | (refine w_L (expr_rank_abs e) rfl rfl ?_)
  ·have hn : nodeErr e = 7 := by simp [nodeErr, h1, h2]
   rw [hn]
   clear hn
   repeat' first | simp (disch := omega) only [go_sem, *, h1, h2] | ((with_reducible refine condT ?_ ?_) <;> intro h <;> try omega) | (refine w_L (expr_syntax_abs e) rfl rfl ?_) | (refine w_L (expr_names_abs e) rfl rfl ?_)
 ·have hn : nodeErr e = 5 := by simp [nodeErr, h1]
  rw [hn]
  clear hn
  repeat' first | simp (disch := omega) only [go_sem, *, h1] | ((with_reducible refine condT ?_ ?_) <;> intro h <;> try omega) | (refine w_L (expr_syntax_abs e) rfl rfl ?_)
theorem expr_Validate_abs {e : Ex} (h64 : ∀ a ∈ e.pre, frIn a.val) : PCalls Tryz.prog n_expr_Validate [aEx e] (I (exErr e)) := by
 refine PCalls.of is_expr_Validate (by simp) fun hb => runW_sound ?_
 conv in c_expr_Validate => cbv
 by_cases h1 : 40 < e.dep
 ·have hE : exErr e = 13 := if_pos h1
  rw [hE]
  clear hE h64
  repeat' first | simp (disch := omega) only [go_sem, show ((min e.dep 41 : Nat) : Int) = 41 by omega] | ((with_reducible refine condT ?_ ?_) <;> intro h <;> try first | omega | simp (disch := omega) only [go_sem, *, show ((min e.dep 41 : Nat) : Int) = 41 by omega]) | (refine w_L (expr_Depth_abs e) rfl rfl ?_)
 ·by_cases h2 : 2000 < e.sz
  ·have hE : exErr e = 2 := by unfold exErr; rw [if_neg h1, if_pos h2]
   rw [hE]
   clear hE h64
   repeat' first | simp (disch := omega) only [go_sem, show ((min e.dep 41 : Nat) : Int) = e.dep by omega, show ((min e.sz 2001 : Nat) : Int) = 2001 by omega, show ¬ (e.dep : Int) > 40 by omega] | ((with_reducible refine condT ?_ ?_) <;> intro h <;> try first | omega | simp (disch := omega) only [go_sem, *, show ((min e.dep 41 : Nat) : Int) = e.dep by omega, show ((min e.sz 2001 : Nat) : Int) = 2001 by omega, show ¬ (e.dep : Int) > 40 by omega]) | (refine w_L (expr_Depth_abs e) rfl rfl ?_) | (refine w_L (expr_Size_abs e) rfl rfl ?_)
  ·have hE : exErr e = fstE (e.pre.map nodeErr) := by unfold exErr; rw [if_neg h1, if_neg h2]; rfl
   rw [hE]
   have hY := expr_Walk_1_y e
   have hlen : (e.pre.map fun a => [aEx a]).length = e.pre.length := List.length_map _
   have hget : ∀ (k : Nat) x, (e.pre.map fun a => [aEx a])[k]? = some x → ∃ h : k < e.pre.length, x = [aEx e.pre[k]] := fun k x hx => by
    rw [List.getElem?_map] at hx
    obtain ⟨a, ha, rfl⟩ := Option.map_eq_some_iff.1 hx
    obtain ⟨hk, rfl⟩ := List.getElem?_eq_some_iff.1 ha
    exact ⟨hk, rfl⟩
   have h1d : ∀ x ∈ e.pre.map fun a => [aEx a], x.length = 1 := fun x hx => by
    obtain ⟨a, _, rfl⟩ := List.mem_map.1 hx
    rfl
   generalize e.pre = fs at *
   have HY := Lib.hid hY
   have HG := Lib.hid hget
   have HL := Lib.hid hlen
   have HD := Lib.hid h1d
   have H64 := Lib.hid h64
   clear hget hlen h1d hY h64 hE
   repeat' first | simp (disch := omega) only [go_sem, show ((min e.dep 41 : Nat) : Int) = e.dep by omega, show ((min e.sz 2001 : Nat) : Int) = e.sz by omega, show ¬ (e.dep : Int) > 40 by omega, show ¬ (e.sz : Int) > 2000 by omega] | ((with_reducible refine condT ?_ ?_) <;> intro h <;> try first | omega | simp (disch := omega) only [go_sem, *, show ((min e.dep 41 : Nat) : Int) = e.dep by omega, show ((min e.sz 2001 : Nat) : Int) = e.sz by omega, show ¬ (e.dep : Int) > 40 by omega, show ¬ (e.sz : Int) > 2000 by omega]) | (refine w_L (expr_Depth_abs e) rfl rfl ?_) | (refine w_L (expr_Size_abs e) rfl rfl ?_) | (refine w_R (expr_Walk_abs e) rfl rfl ?_)
   refine AW_rangeR 2 [(2, .c (.ptr 1 0))] (fun k (_ : Unit) => ([(1, .var [.pure (pI 0)]), (0, bEx e)], 2)) (fun k _ => Hid (fstE ((fs.map nodeErr).take k) = 0)) rfl rfl rfl HY.out HD.out ⟨by simp, by simp⟩ (by simp [wkY, wkF, renV, renA, renC, rn, yv, purV, purVs, purA, purC, purPs, purP, purQ, look_cons, findB, clV, clA, clAs]) ⟨(), [], by show _ = _; simp [fstE], by simp⟩ ?_ ?_
   ·intro k x t hx hk
    obtain ⟨hlt, rfl⟩ := HG.out k x hx
    have hvn := expr_validNode_abs (H64.out _ (List.getElem_mem hlt))
    have hlm : k < (fs.map nodeErr).length := by simpa using hlt
    have h3 := fstE_takeN hlm hk.out
    have h4 := fstE_hit hlm hk.out
    rw [List.getElem_map] at h3 h4
    clear hx HG HL HD HY H64 hk
    by_cases hp : nodeErr fs[k] = 0
    ·have H3 := Lib.hid (h3.trans hp)
     clear h3 h4
     repeat' first | simp (disch := omega) only [go_sem, hp] | ((with_reducible refine condT ?_ ?_) <;> intro h <;> try first | omega | simp (disch := omega) only [go_sem, *, hp]) | (refine w_L hvn rfl rfl ?_)
     exact ⟨(), [], H3, by simp⟩
    ·have h5 := h4 hp
     rw [h5]
     clear h3 h4 h5
     repeat' first | simp (disch := omega) only [go_sem, hp] | ((with_reducible refine condT ?_ ?_) <;> intro h <;> try first | omega | simp (disch := omega) only [go_sem, *, hp]) | (refine w_L hvn rfl rfl ?_)
   ·intro t hk
    have hk' := hk.out
    rw [HL.out, List.take_of_length_le (by simp)] at hk'
    rw [hk']
    clear hk hk' HG HL HD HY H64
    repeat' first | simp (disch := omega) only [go_sem] | ((with_reducible refine condT ?_ ?_) <;> intro h <;> try first | omega | simp (disch := omega) only [go_sem, *])
end Go.Proofs.YtbblkakcadonjaaGreatDoor
