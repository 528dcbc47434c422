/- Walks: all obligations of a program, by the reference; the law of the accesses. -/
import Derived.Test.YtbblkakcadonjaaGreatDoorV18u
import Derived.Test.YtbblkakcadonjaaGreatDoorV17x
import Derived.Test.YtbblkakcadonjaaGreatDoorV18p
import Derived.Test.YtbblkakcadonjaaGreatDoorInY
set_option linter.unusedVariables false
set_option linter.unusedSimpArgs false
set_option maxRecDepth 20000
set_option maxHeartbeats 4000000
set_option maxRecDepth 1000000
namespace Go.Proofs.YtbblkakcadonjaaGreatDoor
open Go.Abs Go.RowKit

theorem ref18_Goals_abs {p : Prg} (hf : fewP p) (h64 : prg64 p) (hal : (validS p).2 = 0 → alOk p) : PCalls Tryz.prog n_ref18_Goals [aPrg p] (aSl a6 (accS p)) := by
 refine PCalls.of is_ref18_Goals (by simp) fun hb => runW_sound ?_
 conv in c_ref18_Goals => cbv
 have pv := ref17_Validate_abs hf h64
 by_cases h0 : (validS p).2 = 0
 ·have h := hal h0
  have hdl := h.1
  rw [accS, if_neg (not_not_intro h0)]
  rw [h0] at pv
  clear hal h0
  repeat' first | simp (disch := omega) only [go_sem, *] | ((with_reducible refine condT ?_ ?_) <;> intro h <;> try omega) | (refine w_L pv rfl rfl ?_)
  refine AW_adopt 3 56 6 rfl (by decide) ?_
  refine AW_loop (fun k : Nat => ⟨[(1, .c (.ptr 0 0)), (3, .c (.ref 1)), (6, I k)], [(1, .arr 56 6 ((allK p k).map a6)), (0, bPrg p)], 2, 0⟩) (fun k => k ≤ p.defs.length) (fun k => p.defs.length - k) ⟨0, [], by omega, by simp [allK]⟩ ?_
  clear pv
  intro k hk
  refine runW_sound ?_
  by_cases hlt : k < p.defs.length
  ·have hd := h.2 _ (List.getElem_mem hlt)
   have hL := allK_len h k
   have pe := ref18_goals_c (d := k) hf p.defs[k].body hd.1 [] ((allK p k).map a6) [] 1 2 [(0, bPrg p)] (by have := hd.2; simp; omega) (by simp; omega) (by have := hd.2; simp; omega) (by omega) ⟨by omega, rfl, by simp [notIn], trivial⟩
   have hrw := defO_rows p p.defs[k] k
   have hs := allK_succ hlt
   have e0 : ((allK p k).map a6) ++ rowsO k [] = (allK p k).map a6 := List.append_nil _
   have e1 : ((allK p k).map a6) ++ rowsO k ([] ++ obS p p.defs[k].body []) = (allK p (k + 1)).map a6 := by rw [List.nil_append, ← hrw, hs, List.map_append]
   rw [gArr, gArr, e0, e1, List.length_map] at pe
   have pc := ICalls.nil4 pe
   have g1 := map_get (f := defP) hlt
   clear pe hrw hs e0 e1 hd
   repeat' first | simp (disch := omega) only [go_sem, *, g1, defP, wrap_i64] | ((with_reducible refine condT ?_ ?_) <;> intro h <;> try omega) | (with_reducible refine bothW_intro ?_ ?_) | (with_reducible refine nilW_intro (fun h => ?_) ?_) | (refine callW_i (pc.perm (fun nm => by first | rfl | (simp only [findB, findB_setB]; done) | (simp only [findB, findB_setB]; (repeat' split) <;> first | rfl | omega))) ?_)
   exact ⟨k + 1, [(1, 2)], by omega, by omega, by simp⟩
  ·obtain rfl : k = p.defs.length := by omega
   rw [show allK p p.defs.length = allO p by unfold allK allO; rw [List.take_of_length_le (Nat.le_refl _)]]
   repeat' first | simp (disch := omega) only [go_sem, *] | ((with_reducible refine condT ?_ ?_) <;> intro h <;> try omega)
   all_goals rfl
 ·rw [accS, if_pos h0]
  clear hal
  repeat' first | simp (disch := omega) only [go_sem, *, h0] | ((with_reducible refine condT ?_ ?_) <;> intro h <;> try omega) | (refine w_L pv rfl rfl ?_)
  all_goals rfl
theorem ref18_Accesses_abs {p : Prg} (hf : fewP p) (h64 : prg64 p) (hal : (validS p).2 = 0 → alOk p) : PCalls Tryz.prog n_ref18_Accesses [aPrg p] (aSl a5 (accS p)) := by
 have hl : (accS p).length ≤ 1440000000 := by
  unfold accS
  split
  ·simp
  ·rename_i h; exact allO_len (hal (Classical.not_not.1 h))
 have pg := ref18_Goals_abs hf h64 hal
 refine PCalls.of is_ref18_Accesses (by simp) fun hb => runW_sound ?_
 conv in c_ref18_Accesses => cbv
 generalize accS p = l at *
 repeat' first | simp (disch := omega) only [go_sem, *] | ((with_reducible refine condT ?_ ?_) <;> intro h <;> try omega) | (refine w_R pg rfl rfl ?_)
 refine AW_adopt 3 39 5 rfl (by decide) ?_
 refine AW_loop (fun k : Nat => ⟨[(3, .c (.ref 1)), (4, aSl a6 l), (5, I k)], [(1, .arr 39 5 ((l.take k).map a5))], 2, 0⟩) (fun k => k ≤ l.length) (fun k => l.length - k) ⟨0, [], by omega, by simp⟩ ?_
 clear pg hal h64 hb
 intro k hk
 refine runW_sound ?_
 by_cases hlt : k < l.length
 ·have g1 : (l.map a6)[k]? = some [pI l[k].1, pI l[k].2.1, pI l[k].2.2.1.1.1, pMonos l[k].2.2.1.1.2, pB l[k].2.2.1.2, pSl cP l[k].2.2.2] := map_get (f := a6) hlt
  have e1 : (l.take (k + 1)).map a5 = (l.take k).map a5 ++ [[pI l[k].1, pI l[k].2.1, pI l[k].2.2.1.1.1, pMonos l[k].2.2.1.1.2, pB l[k].2.2.1.2]] := by
   rw [List.take_succ_eq_append_getElem hlt, List.map_append]
   rfl
  have hlen : ((l.take k).map a5).length ≤ 1440000000 := by simp; omega
  have HT := Lib.hid e1.symm
  clear e1
  repeat' first | simp (disch := omega) only [go_sem, *, g1, wrap_i64] | ((with_reducible refine condT ?_ ?_) <;> intro h <;> try omega) | (refine app_own rfl (by intro h; cases h) (rowsOk_one rfl) (by simp only [List.length_cons, List.length_nil]; omega) (by simp only [List.length_cons, List.length_nil]; omega) ?_)
  rw [HT.out]
  exact ⟨k + 1, [(1, 2)], by omega, by omega, by simp⟩
 ·repeat' first | simp (disch := omega) only [go_sem, *] | ((with_reducible refine condT ?_ ?_) <;> intro h <;> try omega)
  rw [List.take_of_length_le (by omega)]
abbrev aAcc (x : Obl) : AV := .agg [.pure (pI x.1), .pure (pI x.2.1), .pure (pI x.2.2.1.1.1), .pure (pMonos x.2.2.1.1.2), .pure (pB x.2.2.1.2)]
theorem ref18_Same_abs (x : Obl) : PCalls Tryz.prog n_ref18_SameAccess [aAcc x, aAcc x] (Go.Abs.B true) := by
 refine PCalls.of is_ref18_SameAccess (by simp) fun hb => runW_sound ?_
 conv in c_ref18_SameAccess => cbv
 have pc := base_Con_abs x.2.2.1 x.2.2.1
 rw [decide_eq_true rfl] at pc
 repeat' first | simp (disch := omega) only [go_sem, *] | ((with_reducible refine condT ?_ ?_) <;> intro h <;> try omega) | (with_reducible refine bothW_intro ?_ ?_) | (with_reducible refine nilW_intro (fun h => ?_) ?_) | (refine w_R pc rfl rfl ?_) | (refine w_L pc rfl rfl ?_)
 all_goals rfl
theorem law18_Accesses_abs (ha : PCalls Tryz.prog n_law18_alive [] (Go.Abs.B true)) {p : Prg} (h64 : prg64 p) (hl64 : prgL p) : PCalls Tryz.prog n_law18_BoundsAccesses [aPrg p] (Go.Abs.B true) := by
 refine PCalls.of is_law18_BoundsAccesses (by simp) fun _ => runW_sound ?_
 conv in c_law18_BoundsAccesses => cbv
 have ps := ref18_Small_abs p
 by_cases hs : p.defs.length ≤ 8 ∧ ¬ longS p
 ·rw [decide_eq_true hs] at ps
  have hf := few_of hs.2
  have hal : (validS p).2 = 0 → alOk p := fun h => ⟨by omega, fun d hd => by
   obtain ⟨k, hk, rfl⟩ := List.mem_iff_getElem.1 hd
   obtain ⟨g1, g2⟩ := valid_ex hs.2 h64 hl64 h hk
   exact ⟨g1, by omega⟩⟩
  have p1 := bounds_Accesses_abs hf h64 (valid_cq hs.2) hal
  have p2 := ref18_Accesses_abs hf h64 hal
  have hl : (accS p).length ≤ 1440000000 := by
   unfold accS
   split
   ·simp
   ·rename_i h; exact allO_len (hal (Classical.not_not.1 h))
  generalize accS p = l at *
  clear hs hf hal h64 hl64
  repeat' first | simp (disch := omega) only [go_sem, *] | ((with_reducible refine condT ?_ ?_) <;> intro h <;> try omega) | (with_reducible refine bothW_intro ?_ ?_) | (with_reducible refine nilW_intro (fun h => ?_) ?_) | (refine w_R ps rfl rfl ?_) | (refine w_R p1 rfl rfl ?_) | (refine w_R p2 rfl rfl ?_)
  refine AW_loop (fun k : Nat => ⟨[(3, aSl a5 l), (4, aSl a5 l), (5, I k)], [], 0, 0⟩) (fun k => k ≤ l.length) (fun k => l.length - k) ⟨0, [], by omega, by simp⟩ ?_
  clear ps p1 p2
  intro k hk
  refine runW_sound ?_
  by_cases hlt : k < l.length
  ·have g1 : (l.map a5)[k]? = some [pI l[k].1, pI l[k].2.1, pI l[k].2.2.1.1.1, pMonos l[k].2.2.1.1.2, pB l[k].2.2.1.2] := map_get (f := a5) hlt
   have pc := ref18_Same_abs l[k]
   repeat' first | simp (disch := omega) only [go_sem, *, g1, wrap_i64] | ((with_reducible refine condT ?_ ?_) <;> intro h <;> try omega) | (with_reducible refine bothW_intro ?_ ?_) | (with_reducible refine nilW_intro (fun h => ?_) ?_) | (refine w_R pc rfl rfl ?_) | (refine w_L pc rfl rfl ?_)
   exact ⟨k + 1, [], by omega, by omega, by simp⟩
  ·repeat' first | simp (disch := omega) only [go_sem, *] | ((with_reducible refine condT ?_ ?_) <;> intro h <;> try omega) | (with_reducible refine bothW_intro ?_ ?_) | (with_reducible refine nilW_intro (fun h => ?_) ?_) | (refine w_L ha rfl rfl ?_) | (refine w_R ha rfl rfl ?_)
   all_goals rfl
 ·rw [decide_eq_false hs] at ps
  clear hs h64 hl64
  repeat' first | simp (disch := omega) only [go_sem, *] | ((with_reducible refine condT ?_ ?_) <;> intro h <;> try omega) | (with_reducible refine bothW_intro ?_ ?_) | (with_reducible refine nilW_intro (fun h => ?_) ?_) | (refine w_R ps rfl rfl ?_) | (refine w_L ha rfl rfl ?_) | (refine w_R ha rfl rfl ?_)
  all_goals rfl
end Go.Proofs.YtbblkakcadonjaaGreatDoor
set_option linter.unusedVariables false
set_option linter.unusedSimpArgs false
namespace Go.Proofs.YtbblkakcadonjaaGreatDoor
open Go.Abs Go.RowKit

theorem BoundsAccesses_abs {ps : List PC} (h : OkEs lPrg ps) : PCalls Tryz.prog 3 [.agg (ps.map .pure)] (Go.Abs.B true) := by
 obtain ⟨p, rfl, h64, hL⟩ := okPrg h
 exact law18_Accesses_abs law18_alive_abs h64 hL
end Go.Proofs.YtbblkakcadonjaaGreatDoor
