/- Walks by the abstract machine: the reference of Scatter. -/
import Derived.Test.YtcnbccmmhcoanaaVScat2
set_option linter.unusedVariables false
set_option linter.unusedSimpArgs false
set_option maxRecDepth 20000
namespace Go.Proofs.Ytcnbccmmhcoanaa
open Go.Abs Go.RowKit

theorem allP_good {ls : List Int} (h : Good ls) : bcount ls = prod ls := by
 have h1 := h.take_le ls.length
 rw [List.take_of_length_le (Nat.le_refl _)] at h1
 exact bcount_ok (bval_of (by have := h.len; omega) ⟨h.pos, by omega⟩)
theorem block_take {ds ls os : List Int} {T : List Fr} {k : Nat} (hk : k < (prod ls).toNat) : (block ds ls os T).take (k + 1) = (block ds ls os T).take k ++ [T[(blkAt ds ls os k).toNat]?.getD (0, 0)] := by
 rw [List.take_succ_eq_append_getElem (by rw [block_len]; exact hk)]
 simp [block]

set_option maxHeartbeats 8000000 in
theorem ref52_Scatter_abs {ms ss : List Int} {x : Tn} (hv : ∀ a ∈ x.2.2, frIn a) : PCalls Try.prog n_ref52_Scatter [aMesh ms, aTn x, aInts ss] (.tup [aSl tnP (scat ms x ss).1, I (scat ms x ss).2]) := by
 refine PCalls.of is_ref52_Scatter (by simp) fun hb => runW_sound ?_
 have p1 := ref12_Validate_abs hv
 have p2 := ref52_LocalShape_abs ms x.2.1 ss
 have p3 := ref51_Devices_abs ms
 simp only [c_ref52_Scatter]
 by_cases h1 : tnErr x = 0
 ·rw [h1] at p1
  by_cases h2 : vspc ms x.2.1 ss = 0
  ·have hsc : scat ms x ss = (scatL ms x ss, 0) := by rw [scat, if_neg (not_not_intro h1), if_neg (not_not_intro h2)]
   rw [hsc]
   clear hsc
   rw [lshape, if_pos h2] at p2
   obtain ⟨v1, v2, v3, v4⟩ := tnErr_ok h1
   obtain ⟨g1, g2, g3, g4⟩ := vspc_ok h2
   have hmp := mesh_prod g1
   rw [devices_yes g1] at p3
   have hgl := good_loc h2
   have pA := ref09_All_abs (locL ms x.2.1 ss)
   have hal := allP_len (locL ms x.2.1 ss)
   rw [allP_good hgl] at hal
   have hll : (locL ms x.2.1 ss).length ≤ 6 := hgl.len
   have hpl := hgl.take_le (locL ms x.2.1 ss).length
   rw [List.take_of_length_le (Nat.le_refl _)] at hpl
   have hdl := (good_of_vld g2).len
   have hgd := good_of_vld g2
   have H2 := Lib.hid h2
   have hblk : ∀ d, blk ms x ss d = (x.1, locL ms x.2.1 ss, block x.2.1 (locL ms x.2.1 ss) (origL ms x.2.1 ss (pointOf ms d)) x.2.2) := fun d => rfl
   have hB : ∀ d : Nat, (d : Int) < prod ms → BlkOk x.2.1 (locL ms x.2.1 ss) (origL ms x.2.1 ss (pointOf ms d)) := fun d hd => blkOk_of h2 (pointOf_in (fun y hy => (g1.2.2.1 y hy).1) d)
   have HB := Lib.hid hB
   have HK := Lib.hid hblk
   have V3 := Lib.hid v3
   have HG := Lib.hid hgd
   obtain ⟨t, ds, T⟩ := x
   simp only at *
   clear h1 h2 hv v1 v2 v4 g1 g2 g3 g4 hgl hB hblk v3 hgd
   repeat' first | simp (disch := omega) only [go_sem, ↓reduceIte, Nat.reduceEqDiff, reduceCtorEq, Int.reduceEq] | ((with_reducible first | refine condD ?_ ?_ | refine condX ?_ ?_ | refine condW_intro ?_ ?_) <;> intro h <;> first | (exfalso; omega) | simp (disch := omega) only [go_sem, ↓reduceIte, Nat.reduceEqDiff, reduceCtorEq, Int.reduceEq, *] | skip) | (refine callW_of p1 rfl (.inl rfl) ?_) | (refine callW_of p2 rfl (.inr rfl) ?_) | (refine callW_of pA rfl (.inr rfl) ?_)
   refine AW_adopt 11 32 7 rfl (by decide) ?_
   refine AW_loop (fun k : Nat => ⟨[(2, aInts ss), (3, .c (.ptr 0 0)), (4, .c (.ptr 1 0)), (9, aInts (locL ms ds ss)), (11, .c (.ref 2)), (12, aPts (allP (locL ms ds ss))), (13, I k)], [(2, .arr 32 7 (((scatL ms (t, ds, T) ss).take k).map tnP)), (1, tnV (t, ds, T)), (0, .var [.pure (pInts ms)])], 3, 0⟩) (fun k => k ≤ (prod ms).toNat) (fun k => (prod ms).toNat - k) ⟨0, [], Nat.zero_le _, by simp [Wk, wkF, wkM, wkL, look_cons, renV, renA, renC, renB, rn, clV, clA, clAs, clB, notIn, findB, findB_setB, clA.go]⟩ ?_
   rintro k hk
   refine runW_sound ?_
   by_cases hlt : k < (prod ms).toNat
   ·have p4 := ref52_Origin_abs ms ds ss (d := (k : Int)) ⟨by omega, by omega⟩
    rw [origin_in H2.out ⟨by omega, by omega⟩] at p4
    have hb := Lib.hid (HB.out k (by omega))
    have hkI : (k : Int) < prod ms := by omega
    have L : Hid ((((scatL ms (t, ds, T) ss).take k).map tnP).length = k) := by
     show _ = _
     rw [List.length_map, List.length_take, scatL_len]; omega
    have hck := HK.out k
    have E : Hid (((scatL ms (t, ds, T) ss).take (k + 1)).map tnP = ((scatL ms (t, ds, T) ss).take k).map tnP ++ [tnP (t, locL ms ds ss, block ds (locL ms ds ss) (origL ms ds ss (pointOf ms k)) T)]) := by
     show _ = _
     rw [scatL_take hlt, List.map_append, hck]
     rfl
    clear hck
    generalize origL ms ds ss (pointOf ms k) = os at *
    generalize hLS : locL ms ds ss = LS at *
    generalize ((scatL ms (t, ds, T) ss).take k).map tnP = OO at *
    clear hLS
    repeat' first | simp (disch := omega) only [go_sem, ↓reduceIte, Nat.reduceEqDiff, reduceCtorEq, Int.reduceEq] | ((with_reducible first | refine condD ?_ ?_ | refine condX ?_ ?_ | refine condW_intro ?_ ?_) <;> intro h <;> first | (exfalso; omega) | simp (disch := omega) only [go_sem, ↓reduceIte, Nat.reduceEqDiff, reduceCtorEq, Int.reduceEq, *] | skip) | (refine callW_of p3 rfl (.inl rfl) ?_) | (refine callW_of p4 rfl (.inr rfl) ?_)
    refine AW_adoptM 3 6 62 2 _ rfl rfl (by decide) ?_
    refine AW_loop (fun j : Nat => ⟨[(2, aInts ss), (3, .c (.ptr 0 0)), (4, .c (.ptr 1 0)), (9, aInts LS), (11, .c (.ref 2)), (12, aPts (allP LS)), (13, I k), (14, aInts os), (16, .c (.ptr 3 0)), (17, I j)], [(4, vA ((block ds LS os T).take j)), (3, .var [.pure (pI t.1), .pure (pI t.2.1), .pure (pI t.2.2.1), .pure (pI t.2.2.2.1), .pure (pI t.2.2.2.2), .pure (pInts LS), .ref 4]), (2, .arr 32 7 OO), (1, tnV (t, ds, T)), (0, .var [.pure (pInts ms)])], 5, 0⟩) (fun j => j ≤ (allP LS).length) (fun j => (allP LS).length - j) ⟨0, [], Nat.zero_le _, by simp [Wk, wkF, wkM, wkL, look_cons, renV, renA, renC, renB, rn, clV, clA, clAs, clB, notIn, findB, findB_setB, clA.go]⟩ ?_
    rintro j hj
    refine runW_sound ?_
    by_cases hjt : j < (allP LS).length
    ·have hget := map_get (f := fun p => [pInts p]) hjt
     rw [allP_get hjt] at hget
     have hbo := hb.out
     have hInB := hbo.inB (j : Int)
     have hW := hbo.bd (j : Int)
     have hlo := hbo.l2
     have hl1 := hbo.l1
     have hpp : os.length = (pointOf LS (j : Int)).length := by rw [length_pointOf, hlo, hl1]
     have pp := ref52_plus_abs (a := os) (b := pointOf LS (j : Int)) hpp (by omega) (fun i h h' => by
      have hid : i < ds.length := by omega
      have g1 := hInB.2 i hid
      rw [addL_get h, List.getElem?_eq_getElem h, List.getElem?_eq_getElem h', Option.getD_some, Option.getD_some] at g1
      have g2 := (HG.out.get hid).2
      unfold in64
      omega)
     have pO := ref11_Offset_abs ds (addL os (pointOf LS (j : Int)))
     rw [offset_in hbo.vd hInB] at pO
     have hWe : rank ds (addL os (pointOf LS (j : Int))) = ((blkAt ds LS os j).toNat : Int) := by show blkAt ds LS os j = _; omega
     simp only [hWe] at pO
     have hTl := V3.out
     have hWT : (blkAt ds LS os j).toNat < T.length := by omega
     have hbt := block_take (ds := ds) (os := os) (T := T) (show j < (prod LS).toNat by omega)
     rw [List.getElem?_eq_getElem hWT, Option.getD_some] at hbt
     have hTg := map_get (f := frP) hWT
     have hLj : Hid ((((block ds LS os T).take j).map frP).length = j) := by
      show _ = _
      rw [List.length_map, List.length_take, block_len]; omega
     have hbE : Hid (((block ds LS os T).take (j + 1)).map frP = ((block ds LS os T).take j).map frP ++ [frP T[(blkAt ds LS os j).toNat]]) := by
      show _ = _
      rw [hbt, List.map_append]
      rfl
     clear hbo hInB hW hpp hWe hTl hbt hlo hl1
     generalize hZ : T[(blkAt ds LS os j).toNat] = Z at *
     generalize (blkAt ds LS os j).toNat = W at *
     generalize addL os (pointOf LS (j : Int)) = sm at *
     generalize pointOf LS (j : Int) = pt at *
     clear hZ
     repeat' first | simp (disch := omega) only [go_sem, ↓reduceIte, Nat.reduceEqDiff, reduceCtorEq, Int.reduceEq, hget, hTg, wrap_i64] | ((with_reducible first | refine condD ?_ ?_ | refine condX ?_ ?_ | refine condW_intro ?_ ?_) <;> intro h <;> first | (exfalso; omega) | simp (disch := omega) only [go_sem, ↓reduceIte, Nat.reduceEqDiff, reduceCtorEq, Int.reduceEq, *, hget, hTg, wrap_i64] | skip) | (with_reducible refine bothW_intro ?_ ?_) | (with_reducible refine nilW_intro (fun h => ?_) ?_) | (refine callW_of pp rfl (.inr rfl) ?_) | (refine callW_of pO rfl (.inl rfl) ?_) | (refine app_own rfl (by intro h; cases h) (rowsOk_one rfl) (by rw [hLj.out]; simp; omega) (by rw [hLj.out]; simp; omega) ?_)
     all_goals
      refine ⟨j + 1, [(4, 5)], hjt, by omega, ?_⟩
      simp [Wk, wkF, wkM, wkL, look_cons, renV, renA, renC, renB, rn, clV, clA, clAs, clB, notIn, findB, findB_setB, clA.go, hbE.out]
    ·have e : (block ds LS os T).take j = block ds LS os T := List.take_of_length_le (by rw [block_len]; omega)
     rw [e]
     have hjI : ¬ (j : Int) < (allP LS).length := by omega
     repeat' first | simp (disch := omega) only [go_sem, ↓reduceIte, Nat.reduceEqDiff, reduceCtorEq, Int.reduceEq, wrap_i64] | ((with_reducible first | refine condD ?_ ?_ | refine condX ?_ ?_ | refine condW_intro ?_ ?_) <;> intro h <;> first | (exfalso; omega) | simp (disch := omega) only [go_sem, ↓reduceIte, Nat.reduceEqDiff, reduceCtorEq, Int.reduceEq, *, wrap_i64] | skip) | (refine app_own rfl (by intro h; cases h) (rowsOk_one rfl) (by rw [L.out]; simp; omega) (by rw [L.out]; simp; omega) ?_)
     refine ⟨k + 1, [(2, 5)], hlt, by omega, ?_⟩
     rw [E.out]
     simp [Wk, wkF, wkM, wkL, look_cons, renV, renA, renC, renB, rn, clV, clA, clAs, clB, notIn, findB, findB_setB, clA.go]
   ·have e : (scatL ms (t, ds, T) ss).take k = scatL ms (t, ds, T) ss := List.take_of_length_le (by rw [scatL_len]; omega)
    rw [e]
    have hkI : ¬ (k : Int) < prod ms := by omega
    repeat' first | simp (disch := omega) only [go_sem, ↓reduceIte, Nat.reduceEqDiff, reduceCtorEq, Int.reduceEq] | ((with_reducible first | refine condD ?_ ?_ | refine condX ?_ ?_ | refine condW_intro ?_ ?_) <;> intro h <;> first | (exfalso; omega) | simp (disch := omega) only [go_sem, ↓reduceIte, Nat.reduceEqDiff, reduceCtorEq, Int.reduceEq, *] | skip) | (refine callW_of p3 rfl (.inl rfl) ?_)
  ·rw [lshape, if_neg h2] at p2
   have hsc : scat ms x ss = ([], vspc ms x.2.1 ss) := by rw [scat, if_neg (not_not_intro h1), if_pos h2]
   rw [hsc]
   repeat' first | simp (disch := omega) only [go_sem, ↓reduceIte, Nat.reduceEqDiff, reduceCtorEq, Int.reduceEq, h2] | ((with_reducible first | refine condD ?_ ?_ | refine condX ?_ ?_ | refine condW_intro ?_ ?_) <;> intro h <;> first | (exfalso; omega) | simp (disch := omega) only [go_sem, ↓reduceIte, Nat.reduceEqDiff, reduceCtorEq, Int.reduceEq, *, h2] | skip) | (refine callW_of p1 rfl (.inl rfl) ?_) | (refine callW_of p2 rfl (.inr rfl) ?_)
   all_goals rfl
 ·have hsc : scat ms x ss = ([], tnErr x) := by rw [scat, if_pos h1]
  rw [hsc]
  repeat' first | simp (disch := omega) only [go_sem, ↓reduceIte, Nat.reduceEqDiff, reduceCtorEq, Int.reduceEq, h1] | ((with_reducible first | refine condD ?_ ?_ | refine condX ?_ ?_ | refine condW_intro ?_ ?_) <;> intro h <;> first | (exfalso; omega) | simp (disch := omega) only [go_sem, ↓reduceIte, Nat.reduceEqDiff, reduceCtorEq, Int.reduceEq, *, h1] | skip) | (refine callW_of p1 rfl (.inl rfl) ?_)
  all_goals rfl
end Go.Proofs.Ytcnbccmmhcoanaa
