/- Walks by the abstract machine: the reference of Gather. -/
import Derived.Test.YtcnbccmmhcoanaaPlain52h
set_option linter.unusedVariables false
set_option linter.unusedSimpArgs false
set_option maxRecDepth 20000
namespace Go.Proofs.Ytcnbccmmhcoanaa
open Go.Abs Go.RowKit

/-- Which elements are set. -/
abbrev seenR (l : List Fr) : List (List PC) := l.map fun a => [pB (decide (a.2 ≠ 0))]
abbrev zB : Box := .var [.pure (pI 0), .pure (pI 0), .pure (pI 0), .pure (pI 0), .pure (pI 0), .nils, .nils]
theorem fz_get {l : List Fr} {i : Nat} (h : i < l.length) : fz l i = l[i] := by simp [fz, h]

set_option maxHeartbeats 16000000 in
theorem ref52_Gather_abs {ms ds ss : List Int} {xs : List Tn} (hv : ∀ x ∈ xs, ∀ a ∈ x.2.2, frIn a) : PCalls Try.prog n_ref52_Gather [aMesh ms, aInts ds, aInts ss, aTns xs] (.tup [aTn (gath ms ds ss xs).1, I (gath ms ds ss xs).2]) := by
 refine PCalls.of is_ref52_Gather (by simp) fun hb => runW_sound ?_
 have hx : xs.length ≤ 9223372036854775807 := by simpa [bndVs, bndV, bndA] using hb.2.2.2.1
 have p1 := ref52_LocalShape_abs ms ds ss
 have p3 := ref51_Devices_abs ms
 have pS := ref11_Size_abs ds
 have pA := ref09_All_abs (locL ms ds ss)
 clear hb
 simp only [c_ref52_Gather]
 by_cases h1 : vspc ms ds ss = 0
 ·rw [lshape, if_pos h1] at p1
  have hga : gath ms ds ss xs = if chk ms (locL ms ds ss) xs ≠ 0 then (zT, chk ms (locL ms ds ss) xs) else gOut (headTy xs) ds (rDev ms ds ss xs xs.length) := by
   by_cases h2 : chk ms (locL ms ds ss) xs = 0
   ·rw [gath_eq h1 h2, if_neg (not_not_intro h2)]
   ·rw [gath, if_neg (not_not_intro h1), if_pos h2, if_pos h2]
  rw [hga]
  clear hga
  by_cases h2 : (xs.length : Int) = devices ms
  ·have hch : chk ms (locL ms ds ss) xs = if fErr xs ≠ 0 then fErr xs else fMis (headTy xs) (locL ms ds ss) xs := by rw [chk, if_neg (not_not_intro h2)]
   have HCH := Lib.hid hch
   have H1 := Lib.hid h1
   have HD := Lib.hid h2
   obtain ⟨C, hC⟩ : ∃ C, C = chk ms (locL ms ds ss) xs := ⟨_, rfl⟩
   rw [← hC]
   have HC := Lib.hid hC
   have HE : Hid (fErr xs = fErr (xs.drop 0)) := rfl
   have HV := Lib.hid hv
   generalize hLS : locL ms ds ss = LS at *
   have h2' := h2.symm
   clear hch h1 hC h2 hv
   repeat' first | simp (disch := omega) only [go_sem, ↓reduceIte, Nat.reduceEqDiff, reduceCtorEq, Int.reduceEq, h2'] | ((with_reducible first | refine condD ?_ ?_ | refine condX ?_ ?_ | refine condW_intro ?_ ?_) <;> intro h <;> first | (exfalso; omega) | simp (disch := omega) only [go_sem, ↓reduceIte, Nat.reduceEqDiff, reduceCtorEq, Int.reduceEq, *, h2'] | skip) | (refine callW_of p1 rfl (.inr rfl) ?_) | (refine callW_of p3 rfl (.inl rfl) ?_)
   refine AW_loop (fun k : Nat => ⟨[(1, aInts ds), (2, aInts ss), (3, aTns xs), (4, .c (.ptr 0 0)), (8, .c (.ptr 1 0)), (10, aInts LS), (12, I k)], [(1, zB), (0, .var [.pure (pInts ms)])], 2, 0⟩) (fun k => k ≤ xs.length ∧ Hid (fErr xs = fErr (xs.drop k))) (fun k => xs.length - k) ⟨0, [], ⟨Nat.zero_le _, HE⟩, by simp [Wk, wkF, wkM, wkL, look_cons, renV, renA, renC, renB, rn, clV, clA, clAs, clB, notIn, findB, findB_setB, clA.go]⟩ ?_
   rintro k ⟨hk, hE⟩
   clear h2'
   refine runW_sound ?_
   by_cases hlt : k < xs.length
   ·have p2 := ref12_Validate_abs (HV.out _ (List.getElem_mem hlt))
    have hg := map_get (f := tnP) hlt
    have hE' : Hid (fErr xs = if tnErr xs[k] ≠ 0 then tnErr xs[k] else fErr (xs.drop (k + 1))) := by
     show _ = _
     have := hE.out
     rwa [List.drop_eq_getElem_cons hlt, fErr] at this
    by_cases h : tnErr xs[k] = 0
    ·have hE2 : Hid (fErr xs = fErr (xs.drop (k + 1))) := by
      show _ = _
      have := hE'.out
      rwa [if_neg (not_not_intro h)] at this
     rw [h] at p2
     clear hE' hE
     generalize xs[k] = z at *
     repeat' first | simp (disch := omega) only [go_sem, ↓reduceIte, Nat.reduceEqDiff, reduceCtorEq, Int.reduceEq, hg, wrap_i64] | ((with_reducible first | refine condD ?_ ?_ | refine condX ?_ ?_ | refine condW_intro ?_ ?_) <;> intro h <;> first | (exfalso; omega) | simp (disch := omega) only [go_sem, ↓reduceIte, Nat.reduceEqDiff, reduceCtorEq, Int.reduceEq, *, hg, wrap_i64] | skip) | (refine callW_of p2 rfl (.inl rfl) ?_)
     exact ⟨k + 1, [], ⟨hlt, hE2⟩, by omega, by simp [Wk, wkF, wkM, wkL, look_cons, renV, renA, renC, renB, rn, clV, clA, clAs, clB, notIn, findB, findB_setB, clA.go]⟩
    ·have e : C = tnErr xs[k] := by
      have := hE'.out
      rw [if_pos h] at this
      rw [HC.out, HCH.out, this, if_pos h]
     rw [e, if_pos h, zT]
     clear hE' hE e HE HC
     generalize xs[k] = z at *
     repeat' first | simp (disch := omega) only [go_sem, ↓reduceIte, Nat.reduceEqDiff, reduceCtorEq, Int.reduceEq, hg, wrap_i64, h] | ((with_reducible first | refine condD ?_ ?_ | refine condX ?_ ?_ | refine condW_intro ?_ ?_) <;> intro h <;> first | (exfalso; omega) | simp (disch := omega) only [go_sem, ↓reduceIte, Nat.reduceEqDiff, reduceCtorEq, Int.reduceEq, *, hg, wrap_i64, h] | skip) | (refine callW_of p2 rfl (.inl rfl) ?_)
     all_goals rfl
   ·have e : fErr xs = 0 := by
     have := hE.out
     rwa [List.drop_eq_nil_of_le (by omega), fErr] at this
    have hC2 : Hid (C = fMis (headTy xs) LS xs) := by
     show _ = _
     rw [HC.out, HCH.out, if_neg (not_not_intro e)]
    have hkI : ¬ (k : Int) < xs.length := by omega
    clear e HE hE
    repeat' first | simp (disch := omega) only [go_sem, ↓reduceIte, Nat.reduceEqDiff, reduceCtorEq, Int.reduceEq] | ((with_reducible first | refine condD ?_ ?_ | refine condX ?_ ?_ | refine condW_intro ?_ ?_) <;> intro h <;> first | (exfalso; omega) | simp (disch := omega) only [go_sem, ↓reduceIte, Nat.reduceEqDiff, reduceCtorEq, Int.reduceEq, *] | skip)
    clear hkI hk hlt
    refine AW_loop (fun k : Nat => ⟨[(1, aInts ds), (2, aInts ss), (3, aTns xs), (4, .c (.ptr 0 0)), (8, .c (.ptr 1 0)), (10, aInts LS), (14, I k)], [(1, zB), (0, .var [.pure (pInts ms)])], 2, 0⟩) (fun k => k ≤ xs.length ∧ Hid (C = fMis (headTy xs) LS (xs.drop k))) (fun k => xs.length - k) ⟨0, [], ⟨Nat.zero_le _, hC2⟩, by simp [Wk, wkF, wkM, wkL, look_cons, renV, renA, renC, renB, rn, clV, clA, clAs, clB, notIn, findB, findB_setB, clA.go]⟩ ?_
    rintro k ⟨hk, hM⟩
    refine runW_sound ?_
    by_cases hlt : k < xs.length
    ·have hM3 : Hid (C = if xs[k].1 ≠ headTy xs then 10 else if xs[k].2.1 ≠ LS then 15 else fMis (headTy xs) LS (xs.drop (k + 1))) := by
      show _ = _
      have := hM.out
      rwa [List.drop_eq_getElem_cons hlt, fMis] at this
     have h0 : 0 < xs.length := by omega
     have p2 := base_Ints_abs xs[k].2.1 LS
     have hg := map_get (f := tnP) hlt
     have hg0 := map_get (f := tnP) h0
     have HT := Lib.hid (headTy_get h0)
     clear hM
     by_cases h : tyEq xs[k].1 xs[0].1
     ·by_cases h2 : xs[k].2.1 = LS
      ·have hM2 : Hid (C = fMis (headTy xs) LS (xs.drop (k + 1))) := by
        show _ = _
        have := hM3.out
        rwa [HT.out, if_neg (not_not_intro (ty_ext.2 h)), if_neg (not_not_intro h2), ← HT.out] at this
       rw [decide_eq_true h2] at p2
       clear hM3 hC2
       generalize xs[k] = z at *
       generalize xs[0] = y at *
       obtain ⟨⟨a1, a2, a3, a4, a5⟩, zd, zl⟩ := z
       obtain ⟨⟨b1, b2, b3, b4, b5⟩, yd, yl⟩ := y
       simp only at h h2
       obtain ⟨rfl, rfl, rfl, rfl, rfl⟩ := h
       clear h2
       repeat' first | simp (disch := omega) only [go_sem, ↓reduceIte, Nat.reduceEqDiff, reduceCtorEq, Int.reduceEq, hg, hg0, wrap_i64, Int.toNat_zero] | ((with_reducible first | refine condD ?_ ?_ | refine condX ?_ ?_ | refine condW_intro ?_ ?_) <;> intro h <;> first | (exfalso; omega) | simp (disch := omega) only [go_sem, ↓reduceIte, Nat.reduceEqDiff, reduceCtorEq, Int.reduceEq, *, hg, hg0, wrap_i64, Int.toNat_zero] | skip) | (with_reducible refine bothW_intro ?_ ?_) | (with_reducible refine nilW_intro (fun h => ?_) ?_) | (refine callW_of p2 rfl (.inl rfl) ?_)
       exact ⟨k + 1, [], ⟨hlt, hM2⟩, by omega, by simp [Wk, wkF, wkM, wkL, look_cons, renV, renA, renC, renB, rn, clV, clA, clAs, clB, notIn, findB, findB_setB, clA.go]⟩
      ·have e : C = 15 := by
        have := hM3.out
        rwa [HT.out, if_neg (not_not_intro (ty_ext.2 h)), if_pos h2] at this
       rw [if_pos (show C ≠ 0 by rw [e]; decide), e, zT]
       rw [decide_eq_false h2] at p2
       clear hM3 e hC2 HC
       generalize xs[k] = z at *
       generalize xs[0] = y at *
       obtain ⟨⟨a1, a2, a3, a4, a5⟩, zd, zl⟩ := z
       obtain ⟨⟨b1, b2, b3, b4, b5⟩, yd, yl⟩ := y
       simp only at h h2
       obtain ⟨rfl, rfl, rfl, rfl, rfl⟩ := h
       clear h2
       repeat' first | simp (disch := omega) only [go_sem, ↓reduceIte, Nat.reduceEqDiff, reduceCtorEq, Int.reduceEq, hg, hg0, wrap_i64, Int.toNat_zero] | ((with_reducible first | refine condD ?_ ?_ | refine condX ?_ ?_ | refine condW_intro ?_ ?_) <;> intro h <;> first | (exfalso; omega) | simp (disch := omega) only [go_sem, ↓reduceIte, Nat.reduceEqDiff, reduceCtorEq, Int.reduceEq, *, hg, hg0, wrap_i64, Int.toNat_zero] | skip) | (with_reducible refine bothW_intro ?_ ?_) | (with_reducible refine nilW_intro (fun h => ?_) ?_) | (refine callW_of p2 rfl (.inl rfl) ?_)
       all_goals rfl
     ·have e : C = 10 := by
       have := hM3.out
       rwa [HT.out, if_pos fun hc => h (ty_ext.1 hc)] at this
      rw [if_pos (show C ≠ 0 by rw [e]; decide), e, zT]
      clear hM3 e hC2 HC
      generalize xs[k] = z at *
      generalize xs[0] = y at *
      obtain ⟨⟨a1, a2, a3, a4, a5⟩, zd, zl⟩ := z
      obtain ⟨⟨b1, b2, b3, b4, b5⟩, yd, yl⟩ := y
      simp only [tyEq] at h
      have H := Lib.hid h
      clear h
      repeat' first | simp (disch := omega) only [go_sem, ↓reduceIte, Nat.reduceEqDiff, reduceCtorEq, Int.reduceEq, hg, hg0, wrap_i64, Int.toNat_zero] | ((with_reducible first | refine condD ?_ ?_ | refine condX ?_ ?_ | refine condW_intro ?_ ?_) <;> intro h <;> first | (exfalso; omega) | simp (disch := omega) only [go_sem, ↓reduceIte, Nat.reduceEqDiff, reduceCtorEq, Int.reduceEq, *, hg, hg0, wrap_i64, Int.toNat_zero] | skip) | (with_reducible refine bothW_intro ?_ ?_) | (with_reducible refine nilW_intro (fun h => ?_) ?_) | (refine callW_of p2 rfl (.inl rfl) ?_)
      all_goals first | exact absurd ‹_› H.out | rfl
    ·have e : C = 0 := by
      have := hM.out
      rwa [List.drop_eq_nil_of_le (by omega), fMis] at this
     rw [if_neg (not_not_intro e)]
     have hkI : ¬ (k : Int) < xs.length := by omega
     have HC0 : Hid (chk ms LS xs = 0) := by
      show _ = _
      rw [← HC.out, e]
     clear e hM hC2 HC HCH
     obtain ⟨g1, g2, g3, g4⟩ := vspc_ok H1.out
     have hmp := mesh_prod g1
     have hd2 := HD.out
     rw [devices_yes g1] at hd2
     rw [size, if_pos g2] at pS
     have hgd := good_of_vld g2
     have hd6 := hgd.len
     have hpl := hgd.take_le ds.length
     rw [List.take_of_length_le (Nat.le_refl _)] at hpl
     have hal := allP_len LS
     have hgl : Good LS := by rw [← hLS]; exact good_loc H1.out
     rw [allP_good hgl] at hal
     have hll := hgl.len
     have hpll := hgl.take_le LS.length
     rw [List.take_of_length_le (Nat.le_refl _)] at hpll
     have h0 : 0 < xs.length := by omega
     have hx16 : xs.length ≤ 16 := by omega
     have hg0 := map_get (f := tnP) h0
     have ht0 := headTy_get h0
     rw [ht0]
     generalize hy : xs[0] = y at *
     obtain ⟨t, yd, yl⟩ := y
     have HR0 : Hid (rDev ms ds ss xs 0 = some (List.replicate (prod ds).toNat (0, 0))) := rfl
     have hrep : List.replicate (prod ds).toNat ([pI 0, pI 0] : List PC) = (List.replicate (prod ds).toNat ((0 : Int), (0 : Int))).map frP := by rw [List.map_replicate]
     have hrepB : List.replicate (prod ds).toNat ([pB false] : List PC) = seenR (List.replicate (prod ds).toNat ((0 : Int), (0 : Int))) := by rw [seenR, List.map_replicate]; rfl
     have HLS := Lib.hid hLS
     have HG := Lib.hid hgd
     have G1 := Lib.hid g1
     have D2 := Lib.hid hd2
     clear g1 g2 g3 g4 hmp hd2 hgd hLS hy ht0 hgl HD p1 p3 hk hlt
     repeat' first | simp (disch := omega) only [go_sem, ↓reduceIte, Nat.reduceEqDiff, reduceCtorEq, Int.reduceEq, hg0, Int.toNat_zero, hrep, hrepB] | ((with_reducible first | refine condD ?_ ?_ | refine condX ?_ ?_ | refine condW_intro ?_ ?_) <;> intro h <;> first | (exfalso; omega) | simp (disch := omega) only [go_sem, ↓reduceIte, Nat.reduceEqDiff, reduceCtorEq, Int.reduceEq, *, hg0, Int.toNat_zero, hrep, hrepB] | skip) | (with_reducible refine bothW_intro ?_ ?_) | (with_reducible refine nilW_intro (fun h => ?_) ?_) | (refine callW_of pS rfl (.inl rfl) ?_) | (refine callW_of pA rfl (.inr rfl) ?_)
     all_goals
      refine AW_loop (fun s : Nat × List Fr => ⟨[(1, aInts ds), (2, aInts ss), (3, aTns xs), (4, .c (.ptr 0 0)), (8, .c (.ptr 1 0)), (16, .c (.ptr 3 0)), (17, .c (.ref 4)), (18, aPts (allP LS)), (19, I s.1)],
       [(4, .arr 4 1 (seenR s.2)), (3, .var [.pure (pI t.1), .pure (pI t.2.1), .pure (pI t.2.2.1), .pure (pI t.2.2.2.1), .pure (pI t.2.2.2.2), .pure (pInts ds), .ref 2]), (2, vA s.2), (1, zB), (0, .var [.pure (pInts ms)])], 5, 0⟩)
       (fun s => s.1 ≤ xs.length ∧ Hid (rDev ms ds ss xs s.1 = some s.2)) (fun s => xs.length - s.1) ?_ ?_
      ·first | (refine ⟨(0, List.replicate (prod ds).toNat (0, 0)), [(2, 2), (3, 3)], ⟨Nat.zero_le _, HR0⟩, ?_⟩; simp [Wk, wkF, wkM, wkL, look_cons, renV, renA, renC, renB, rn, clV, clA, clAs, clB, notIn, findB, findB_setB, clA.go]; done) | (refine ⟨(0, List.replicate (prod ds).toNat (0, 0)), [(2, 3), (3, 2)], ⟨Nat.zero_le _, HR0⟩, ?_⟩; simp [Wk, wkF, wkM, wkL, look_cons, renV, renA, renC, renB, rn, clV, clA, clAs, clB, notIn, findB, findB_setB, clA.go]; done)
      rintro ⟨d, l⟩ ⟨hd, hr⟩
      simp only at hd hr
      refine runW_sound ?_
      by_cases hdt : d < xs.length
      ·have hd2 := D2.out
       have p4 := ref52_Origin_abs ms ds ss (d := (d : Int)) ⟨by omega, by omega⟩
       rw [origin_in H1.out ⟨by omega, by omega⟩] at p4
       have hgdd := map_get (f := tnP) hdt
       have hck := chk_get HC0.out hdt
       have hpt : InB ms (pointOf ms (d : Int)) := pointOf_in (fun y hy => (G1.out.2.2.1 y hy).1) (d : Int)
       have hB := blkOk_of H1.out hpt
       rw [HLS.out] at hB
       have hxd : (xs[d]?.map (·.2.2)).getD [] = xs[d].2.2 := by rw [List.getElem?_eq_getElem hdt]; rfl
       have hrs : rDev ms ds ss xs (d + 1) = rIt ds LS (origL ms ds ss (pointOf ms d)) xs[d].2.2 (some l) (prod LS).toNat := by rw [rDev, hxd, hr.out, HLS.out]
       have HB := Lib.hid hB
       have HRS := Lib.hid hrs
       have hTl := Lib.hid hck.2.2.1
       have hTv : Hid (∀ a ∈ xs[d].2.2, a.2 ≠ 0) := fun a ha => by have := valOk_pos (hck.2.2.2.2 a ha); omega
       have hLl := Lib.hid (rDev_len _ _ hr.out)
       clear hck hpt hB hxd hrs hd2
       generalize origL ms ds ss (pointOf ms d) = os at *
       generalize xs[d] = z at *
       obtain ⟨zt, zd, T⟩ := z
       simp only at HRS hTl hTv hgdd
       repeat' first | simp (disch := omega) only [go_sem, ↓reduceIte, Nat.reduceEqDiff, reduceCtorEq, Int.reduceEq, hgdd, wrap_i64] | ((with_reducible first | refine condD ?_ ?_ | refine condX ?_ ?_ | refine condW_intro ?_ ?_) <;> intro h <;> first | (exfalso; omega) | simp (disch := omega) only [go_sem, ↓reduceIte, Nat.reduceEqDiff, reduceCtorEq, Int.reduceEq, *, hgdd, wrap_i64] | skip) | (refine callW_of p4 rfl (.inr rfl) ?_)
       refine AW_loop (fun s : Nat × List Fr => ⟨[(1, aInts ds), (2, aInts ss), (3, aTns xs), (4, .c (.ptr 0 0)), (8, .c (.ptr 1 0)), (16, .c (.ptr 3 0)), (17, .c (.ref 4)), (18, aPts (allP LS)), (19, I d), (20, aInts os), (22, I s.1)],
        [(4, .arr 4 1 (seenR s.2)), (3, .var [.pure (pI t.1), .pure (pI t.2.1), .pure (pI t.2.2.1), .pure (pI t.2.2.2.1), .pure (pI t.2.2.2.2), .pure (pInts ds), .ref 2]), (2, vA s.2), (1, zB), (0, .var [.pure (pInts ms)])], 5, 0⟩)
        (fun s => s.1 ≤ (allP LS).length ∧ s.2.length = (prod ds).toNat ∧ Hid (rIt ds LS os T (some l) s.1 = some s.2)) (fun s => (allP LS).length - s.1) ⟨(0, l), [], ⟨Nat.zero_le _, hLl.out, rfl⟩, by simp [Wk, wkF, wkM, wkL, look_cons, renV, renA, renC, renB, rn, clV, clA, clAs, clB, notIn, findB, findB_setB, clA.go]⟩ ?_
       rintro ⟨k, m⟩ ⟨hk, hml, hri⟩
       simp only at hk hml hri
       refine runW_sound ?_
       by_cases hkt : k < (allP LS).length
       ·have hget := map_get (f := fun p => [pInts p]) hkt
        rw [allP_get hkt] at hget
        have hbo := HB.out
        have hInB := hbo.inB (k : Int)
        have hW := hbo.bd (k : Int)
        have hlo := hbo.l2
        have hl1 := hbo.l1
        have hpp : os.length = (pointOf LS (k : Int)).length := by rw [length_pointOf, hlo, hl1]
        have pp := ref52_plus_abs (a := os) (b := pointOf LS (k : Int)) hpp (by omega) (fun i h h' => by
         have hid : i < ds.length := by omega
         have g1 := hInB.2 i hid
         rw [addL_get h, List.getElem?_eq_getElem h, List.getElem?_eq_getElem h', Option.getD_some, Option.getD_some] at g1
         have g2 := (HG.out.get hid).2
         unfold in64
         omega)
        have pO := ref11_Offset_abs ds (addL os (pointOf LS (k : Int)))
        rw [offset_in hbo.vd hInB] at pO
        have hWe : rank ds (addL os (pointOf LS (k : Int))) = ((blkAt ds LS os k).toNat : Int) := by show blkAt ds LS os k = _; omega
        simp only [hWe] at pO
        have hWm : (blkAt ds LS os k).toNat < m.length := by omega
        have hkT : k < T.length := by have := hTl.out; omega
        have hTg := map_get (f := frP) hkT
        have hmg := map_get (f := frP) hWm
        have hsg := map_get (f := fun a : Fr => [pB (decide (a.2 ≠ 0))]) hWm
        have hTv2 := hTv.out _ (List.getElem_mem hkT)
        have hstep : Hid (rIt ds LS os T (some l) (k + 1) = if m[(blkAt ds LS os k).toNat].2 ≠ 0 ∧ m[(blkAt ds LS os k).toNat] ≠ T[k] then none else some (m.set (blkAt ds LS os k).toNat T[k])) := by
         show _ = _
         rw [rIt, hri.out, Option.bind_some, rEl, fz_get hWm, fz_get hkT]
        have hset1 : Hid ((m.map frP).set (blkAt ds LS os k).toNat (frP T[k]) = (m.set (blkAt ds LS os k).toNat T[k]).map frP) := by
         show _ = _
         rw [List.map_set]
        have hset2 : Hid ((seenR m).set (blkAt ds LS os k).toNat [pB true] = seenR (m.set (blkAt ds LS os k).toNat T[k])) := by
         show _ = _
         rw [seenR, seenR, List.map_set]
         simp [hTv2]
        have hlen2 : (m.set (blkAt ds LS os k).toNat T[k]).length = (prod ds).toNat := by rw [List.length_set]; exact hml
        clear hbo hInB hW hpp hWe hlo hl1 hTv2
        generalize hZ : m.set (blkAt ds LS os k).toNat T[k] = m' at *
        generalize m[(blkAt ds LS os k).toNat] = u at *
        generalize T[k] = v at *
        generalize hWW : (blkAt ds LS os k).toNat = W at *
        generalize addL os (pointOf LS (k : Int)) = sm at *
        generalize pointOf LS (k : Int) = pt at *
        clear hZ hWW
        by_cases hs : u.2 = 0
        ·have hn : Hid (rIt ds LS os T (some l) (k + 1) = some m') := by
          show _ = _
          rw [hstep.out, if_neg (fun h => h.1 hs)]
         have hdc : decide (u.2 ≠ 0) = false := by simp [hs]
         rw [hdc] at hsg
         clear hs hdc hstep
         repeat' first | simp (disch := omega) only [go_sem, ↓reduceIte, Nat.reduceEqDiff, reduceCtorEq, Int.reduceEq, hget, hTg, hmg, hsg, hgdd, wrap_i64, hset1.out, hset2.out] | ((with_reducible first | refine condD ?_ ?_ | refine condX ?_ ?_ | refine condW_intro ?_ ?_) <;> intro h <;> first | (exfalso; omega) | simp (disch := omega) only [go_sem, ↓reduceIte, Nat.reduceEqDiff, reduceCtorEq, Int.reduceEq, *, hget, hTg, hmg, hsg, hgdd, wrap_i64, hset1.out, hset2.out] | skip) | (with_reducible refine bothW_intro ?_ ?_) | (with_reducible refine nilW_intro (fun h => ?_) ?_) | (refine callW_of pp rfl (.inr rfl) ?_) | (refine callW_of pO rfl (.inl rfl) ?_)
         all_goals
          refine ⟨(k + 1, m'), [], ⟨hkt, hlen2, hn⟩, by show _ - _ < _ - _; omega, ?_⟩
          simp [Wk, wkF, wkM, wkL, look_cons, renV, renA, renC, renB, rn, clV, clA, clAs, clB, notIn, findB, findB_setB, clA.go]
        ·have hdc : decide (u.2 ≠ 0) = true := by simp [hs]
         rw [hdc] at hsg
         by_cases he : u = v
         ·have hn : Hid (rIt ds LS os T (some l) (k + 1) = some m') := by
           show _ = _
           rw [hstep.out, if_neg (fun h => h.2 he)]
          subst he
          clear hs hdc hstep
          repeat' first | simp (disch := omega) only [go_sem, ↓reduceIte, Nat.reduceEqDiff, reduceCtorEq, Int.reduceEq, hget, hTg, hmg, hsg, hgdd, wrap_i64, hset1.out, hset2.out] | ((with_reducible first | refine condD ?_ ?_ | refine condX ?_ ?_ | refine condW_intro ?_ ?_) <;> intro h <;> first | (exfalso; omega) | simp (disch := omega) only [go_sem, ↓reduceIte, Nat.reduceEqDiff, reduceCtorEq, Int.reduceEq, *, hget, hTg, hmg, hsg, hgdd, wrap_i64, hset1.out, hset2.out] | skip) | (with_reducible refine bothW_intro ?_ ?_) | (with_reducible refine nilW_intro (fun h => ?_) ?_) | (refine callW_of pp rfl (.inr rfl) ?_) | (refine callW_of pO rfl (.inl rfl) ?_)
          all_goals
           refine ⟨(k + 1, m'), [], ⟨hkt, hlen2, hn⟩, by show _ - _ < _ - _; omega, ?_⟩
           simp [Wk, wkF, wkM, wkL, look_cons, renV, renA, renC, renB, rn, clV, clA, clAs, clB, notIn, findB, findB_setB, clA.go]
         ·have hn : rIt ds LS os T (some l) (k + 1) = none := by rw [hstep.out, if_pos ⟨hs, he⟩]
          have hnn : rDev ms ds ss xs xs.length = none := by
           have hst := rIt_stay hn ((prod LS).toNat - (k + 1))
           rw [show k + 1 + ((prod LS).toNat - (k + 1)) = (prod LS).toNat by omega] at hst
           have hst2 := rDev_stay (ms := ms) (ds := ds) (ss := ss) (xs := xs) (d := d + 1) (by rw [HRS.out, hst]) (xs.length - (d + 1))
           rwa [show d + 1 + (xs.length - (d + 1)) = xs.length by omega] at hst2
          rw [hnn, gOut, zT]
          have he' : ¬ (u.1 = v.1 ∧ u.2 = v.2) := fun h => he (Prod.ext h.1 h.2)
          clear hn hnn hs hdc hstep he
          repeat' first | simp (disch := omega) only [go_sem, ↓reduceIte, Nat.reduceEqDiff, reduceCtorEq, Int.reduceEq, hget, hTg, hmg, hsg, hgdd, wrap_i64, hset1.out, hset2.out] | ((with_reducible first | refine condD ?_ ?_ | refine condX ?_ ?_ | refine condW_intro ?_ ?_) <;> intro h <;> first | (exfalso; omega) | simp (disch := omega) only [go_sem, ↓reduceIte, Nat.reduceEqDiff, reduceCtorEq, Int.reduceEq, *, hget, hTg, hmg, hsg, hgdd, wrap_i64, hset1.out, hset2.out] | skip) | (with_reducible refine bothW_intro ?_ ?_) | (with_reducible refine nilW_intro (fun h => ?_) ?_) | (refine callW_of pp rfl (.inr rfl) ?_) | (refine callW_of pO rfl (.inl rfl) ?_)
          all_goals first | exact absurd ‹_› he' | rfl
       ·have hke : k = (prod LS).toNat := by omega
        have hn : Hid (rDev ms ds ss xs (d + 1) = some m) := by
         show _ = _
         rw [HRS.out, ← hke, hri.out]
        have hkI : ¬ (k : Int) < (allP LS).length := by omega
        clear hke
        repeat' first | simp (disch := omega) only [go_sem, ↓reduceIte, Nat.reduceEqDiff, reduceCtorEq, Int.reduceEq, wrap_i64] | ((with_reducible first | refine condD ?_ ?_ | refine condX ?_ ?_ | refine condW_intro ?_ ?_) <;> intro h <;> first | (exfalso; omega) | simp (disch := omega) only [go_sem, ↓reduceIte, Nat.reduceEqDiff, reduceCtorEq, Int.reduceEq, *, wrap_i64] | skip)
        refine ⟨(d + 1, m), [], ⟨hdt, hn⟩, by show _ - _ < _ - _; omega, ?_⟩
        simp [Wk, wkF, wkM, wkL, look_cons, renV, renA, renC, renB, rn, clV, clA, clAs, clB, notIn, findB, findB_setB, clA.go]
      ·have hde : d = xs.length := by omega
       have hfin : rDev ms ds ss xs xs.length = some l := by rw [← hde]; exact hr.out
       rw [hfin, gOut]
       have hkI : ¬ (d : Int) < xs.length := by omega
       clear hde hfin
       repeat' first | simp (disch := omega) only [go_sem, ↓reduceIte, Nat.reduceEqDiff, reduceCtorEq, Int.reduceEq] | ((with_reducible first | refine condD ?_ ?_ | refine condX ?_ ?_ | refine condW_intro ?_ ?_) <;> intro h <;> first | (exfalso; omega) | simp (disch := omega) only [go_sem, ↓reduceIte, Nat.reduceEqDiff, reduceCtorEq, Int.reduceEq, *] | skip)
  ·have hch : chk ms (locL ms ds ss) xs = 1 := by rw [chk, if_pos h2]
   rw [if_pos (show chk ms (locL ms ds ss) xs ≠ 0 by rw [hch]; decide), hch, zT]
   have h2' : ¬ devices ms = (xs.length : Int) := fun e => h2 e.symm
   clear hch h1
   repeat' first | simp (disch := omega) only [go_sem, ↓reduceIte, Nat.reduceEqDiff, reduceCtorEq, Int.reduceEq, h2, h2'] | ((with_reducible first | refine condD ?_ ?_ | refine condX ?_ ?_ | refine condW_intro ?_ ?_) <;> intro h <;> first | (exfalso; omega) | simp (disch := omega) only [go_sem, ↓reduceIte, Nat.reduceEqDiff, reduceCtorEq, Int.reduceEq, *, h2, h2'] | skip) | (refine callW_of p1 rfl (.inr rfl) ?_) | (refine callW_of p3 rfl (.inl rfl) ?_)
   all_goals rfl
 ·have hga : gath ms ds ss xs = (zT, vspc ms ds ss) := by rw [gath, if_pos h1]
  rw [lshape, if_neg h1] at p1
  rw [hga, zT]
  repeat' first | simp (disch := omega) only [go_sem, ↓reduceIte, Nat.reduceEqDiff, reduceCtorEq, Int.reduceEq, h1] | ((with_reducible first | refine condD ?_ ?_ | refine condX ?_ ?_ | refine condW_intro ?_ ?_) <;> intro h <;> first | (exfalso; omega) | simp (disch := omega) only [go_sem, ↓reduceIte, Nat.reduceEqDiff, reduceCtorEq, Int.reduceEq, *, h1] | skip) | (refine callW_of p1 rfl (.inr rfl) ?_)
  all_goals rfl
end Go.Proofs.Ytcnbccmmhcoanaa
