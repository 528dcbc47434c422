/- Walks by the abstract machine: shard.Gather. -/
import Derived.Test.YtcnbccmmhcoanaaVGath3
set_option linter.unusedVariables false
set_option linter.unusedSimpArgs false
set_option maxRecDepth 20000
namespace Go.Proofs.Ytcnbccmmhcoanaa
open Go.Abs Go.RowKit

/-- What is there after the blocks of the devices below d, and whether they agree. -/
noncomputable def gDev (ms ds ss : List Int) (xs : List Tn) : Nat → List Fr × Bool
 | 0 => (List.replicate (prod ds).toNat (0, 0), true)
 | d + 1 => gIt ds (locL ms ds ss) (origL ms ds ss (pointOf ms d)) ((xs[d]?.map (·.2.2)).getD []) (gDev ms ds ss xs d) (nRows (locL ms ds ss))
def zT : Tn := ((0, 0, 0, 0, 0), [], [])
/-- What Gather answers. -/
noncomputable def gath (ms ds ss : List Int) (xs : List Tn) : Tn × Int :=
 if vspc ms ds ss ≠ 0 then (zT, vspc ms ds ss) else if chk ms (locL ms ds ss) xs ≠ 0 then (zT, chk ms (locL ms ds ss) xs) else
 if (gDev ms ds ss xs (prod ms).toNat).2 = true then ((headTy xs, ds, (gDev ms ds ss xs (prod ms).toNat).1), 0) else (zT, 1)
theorem fErr_ok : ∀ {xs : List Tn}, fErr xs = 0 → ∀ x ∈ xs, tnErr x = 0
 | [], _, x, hx => by cases hx
 |y :: r, h, x, hx => by
  rw [fErr] at h
  split at h
  ·rename_i h1; exact absurd h h1
  ·rename_i h1
   rcases List.mem_cons.1 hx with rfl | hx
   ·exact Decidable.not_not.1 h1
   ·exact fErr_ok h x hx
theorem fMis_ok {t : Ty} {ls : List Int} : ∀ {xs : List Tn}, fMis t ls xs = 0 → ∀ x ∈ xs, x.1 = t ∧ x.2.1 = ls
 | [], _, x, hx => by cases hx
 |y :: r, h, x, hx => by
  rw [fMis] at h
  split at h
  ·cases h
  ·rename_i h1
   split at h
   ·cases h
   ·rename_i h2
    rcases List.mem_cons.1 hx with rfl | hx
    ·exact ⟨Decidable.not_not.1 h1, Decidable.not_not.1 h2⟩
    ·exact fMis_ok h x hx
theorem chk_ok {ms ls : List Int} {xs : List Tn} (h : chk ms ls xs = 0) : (xs.length : Int) = devices ms ∧ ∀ x ∈ xs, tnErr x = 0 ∧ x.1 = headTy xs ∧ x.2.1 = ls := by
 unfold chk at h
 split at h
 ·cases h
 ·rename_i h1
  split at h
  ·rename_i h2; exact absurd h h2
  ·rename_i h2
   exact ⟨Decidable.not_not.1 h1, fun x hx => ⟨fErr_ok (Decidable.not_not.1 h2) x hx, fMis_ok h x hx⟩⟩
/-- What a block of the list is. -/
theorem chk_get {ms ls : List Int} {xs : List Tn} (h : chk ms ls xs = 0) {k : Nat} (hk : k < xs.length) : xs[k].1 = headTy xs ∧ xs[k].2.1 = ls ∧ (xs[k].2.2.length : Int) = prod ls ∧ tyOk xs[k].1 ∧ ∀ a ∈ xs[k].2.2, valOk xs[k].1 a := by
 obtain ⟨h1, h2, h3⟩ := (chk_ok h).2 _ (List.getElem_mem hk)
 obtain ⟨v1, v2, v3, v4⟩ := tnErr_ok h1
 exact ⟨h2, h3, by rw [← h3]; exact v3, v1, v4⟩
theorem gDev_len {ms ds ss : List Int} {xs : List Tn} (h : vspc ms ds ss = 0) : ∀ d, ((gDev ms ds ss xs d).1.length : Int) = prod ds
 |0 => by
  have hg := (good_of_vld (vspc_ok h).2.1).take_le ds.length
  rw [List.take_of_length_le (Nat.le_refl _)] at hg
  rw [gDev, List.length_replicate]
  omega
 |d + 1 => by
  have ih := gDev_len (xs := xs) h d
  have hB := blkOk_of h (pointOf_in (fun y hy => ((vspc_ok h).1.2.2.1 y hy).1) (d : Int))
  rw [gDev, show gDev ms ds ss xs d = ((gDev ms ds ss xs d).1, (gDev ms ds ss xs d).2) from rfl, gIt_len hB ih (Nat.le_refl _)]
  exact ih

set_option maxHeartbeats 16000000 in
theorem shard_Gather_abs {ms ds ss : List Int} {xs : List Tn} (hv : ∀ x ∈ xs, ∀ a ∈ x.2.2, frIn a) : PCalls Try.prog n_shard_Gather [aMesh ms, aInts ds, aInts ss, aTns xs] (.tup [aTn (gath ms ds ss xs).1, I (gath ms ds ss xs).2]) := by
 refine PCalls.of is_shard_Gather (by simp) fun hb => runW_sound ?_
 have p1 := shard_LocalShape_abs ms ds ss
 have p2 := shard_check_abs (ms := ms) (ls := locL ms ds ss) hv
 have pS := shape_Size_abs ds
 simp only [c_shard_Gather]
 by_cases h1 : vspc ms ds ss = 0
 ·rw [lshape, if_pos h1] at p1
  by_cases h2 : chk ms (locL ms ds ss) xs = 0
  ·rw [h2] at p2
   have hga : gath ms ds ss xs = if (gDev ms ds ss xs (prod ms).toNat).2 = true then ((headTy xs, ds, (gDev ms ds ss xs (prod ms).toNat).1), 0) else (zT, 1) := by rw [gath, if_neg (not_not_intro h1), if_neg (not_not_intro h2)]
   rw [hga]
   clear hga
   obtain ⟨c1, c2⟩ := chk_ok h2
   obtain ⟨g1, g2, g3, g4⟩ := vspc_ok h1
   have hmp := mesh_prod g1
   rw [devices_yes g1] at c1
   rw [size, if_pos g2] at pS
   have hgd := good_of_vld g2
   have hd6 := hgd.len
   have hpl := hgd.take_le ds.length
   rw [List.take_of_length_le (Nat.le_refl _)] at hpl
   have h0 : 0 < xs.length := by omega
   have hg0 := map_get (f := tnP) h0
   have ht0 := headTy_get h0
   have hxl : (prod ms).toNat = xs.length := by omega
   rw [hxl]
   have H1 := Lib.hid h1
   have H2 := Lib.hid h2
   have G1 := Lib.hid g1
   have C1 := Lib.hid c1
   have hz : gDev ms ds ss xs 0 = (List.replicate (prod ds).toNat (0, 0), true) := rfl
   have HZ := Lib.hid hz
   have hrep : List.replicate (prod ds).toNat ([pI 0, pI 0] : List PC) = (List.replicate (prod ds).toNat ((0 : Int), (0 : Int))).map frP := by rw [List.map_replicate]
   rw [ht0]
   have HT0 := Lib.hid ht0
   generalize hy : xs[0] = y at *
   obtain ⟨t, yd, yl⟩ := y
   simp only at *
   clear h1 h2 hv c1 c2 g1 g2 g3 g4 hgd hxl ht0 hz hy hb
   repeat' first | simp (disch := omega) only [go_sem, ↓reduceIte, Nat.reduceEqDiff, reduceCtorEq, Int.reduceEq, hg0, Int.toNat_zero, hrep] | ((with_reducible first | refine condD ?_ ?_ | refine condX ?_ ?_ | refine condW_intro ?_ ?_) <;> intro h <;> first | (exfalso; omega) | simp (disch := omega) only [go_sem, ↓reduceIte, Nat.reduceEqDiff, reduceCtorEq, Int.reduceEq, *, hg0, Int.toNat_zero, hrep] | skip) | (with_reducible refine bothW_intro ?_ ?_) | (with_reducible refine nilW_intro (fun h => ?_) ?_) | (refine callW_of p1 rfl (.inr rfl) ?_) | (refine callW_of p2 rfl (.inl rfl) ?_) | (refine callW_i (Clone_own ds _ _ (by omega)) ?_) | (refine callW_of pS rfl (.inl rfl) ?_)
   all_goals
    refine AW_loop (fun k : Nat => ⟨[(1, aInts ds), (2, aInts ss), (4, .c (.ptr 0 0)), (8, .c (.ptr 1 0)), (10, aInts (locL ms ds ss)), (13, .c (.ptr 4 0)), (14, .c (.ptr 5 0)), (48, aTns xs), (49, I xs.length), (50, I k)],
     [(5, .var [.pure (pB (gDev ms ds ss xs k).2)]), (4, tnB t 2 3), (3, vA (gDev ms ds ss xs k).1), (2, iA ds), (1, .var [.pure (pI 0), .pure (pI 0), .pure (pI 0), .pure (pI 0), .pure (pI 0), .nils, .nils]), (0, .var [.pure (pInts ms)])], 6, 0⟩) (fun k => k ≤ xs.length) (fun k => xs.length - k) ?_ ?_
    ·first | (refine ⟨0, [(4, 2), (3, 3), (2, 4)], Nat.zero_le _, ?_⟩; simp [Wk, wkF, wkM, wkL, look_cons, renV, renA, renC, renB, rn, clV, clA, clAs, clB, notIn, findB, findB_setB, clA.go, HZ.out]; done) | (refine ⟨0, [(4, 2), (3, 4), (2, 3)], Nat.zero_le _, ?_⟩; simp [Wk, wkF, wkM, wkL, look_cons, renV, renA, renC, renB, rn, clV, clA, clAs, clB, notIn, findB, findB_setB, clA.go, HZ.out]; done) | (refine ⟨0, [(4, 3), (3, 2), (2, 4)], Nat.zero_le _, ?_⟩; simp [Wk, wkF, wkM, wkL, look_cons, renV, renA, renC, renB, rn, clV, clA, clAs, clB, notIn, findB, findB_setB, clA.go, HZ.out]; done) | (refine ⟨0, [(4, 3), (3, 4), (2, 2)], Nat.zero_le _, ?_⟩; simp [Wk, wkF, wkM, wkL, look_cons, renV, renA, renC, renB, rn, clV, clA, clAs, clB, notIn, findB, findB_setB, clA.go, HZ.out]; done) | (refine ⟨0, [(4, 4), (3, 2), (2, 3)], Nat.zero_le _, ?_⟩; simp [Wk, wkF, wkM, wkL, look_cons, renV, renA, renC, renB, rn, clV, clA, clAs, clB, notIn, findB, findB_setB, clA.go, HZ.out]; done) | (refine ⟨0, [(4, 4), (3, 3), (2, 2)], Nat.zero_le _, ?_⟩; simp [Wk, wkF, wkM, wkL, look_cons, renV, renA, renC, renB, rn, clV, clA, clAs, clB, notIn, findB, findB_setB, clA.go, HZ.out]; done)
    rintro k hk
    refine runW_sound ?_
    by_cases hlt : k < xs.length
    ·have c1 := C1.out
     have p4 := shard_Origin_abs ms ds ss (d := (k : Int)) ⟨by omega, by omega⟩
     rw [origin_in H1.out ⟨by omega, by omega⟩] at p4
     have hgk := map_get (f := tnP) hlt
     have hck := chk_get H2.out hlt
     have hxk : (xs[k]?.map (·.2.2)).getD [] = xs[k].2.2 := by rw [List.getElem?_eq_getElem hlt]; rfl
     have hB := blkOk_of H1.out (pointOf_in (fun y hy => (G1.out.2.2.1 y hy).1) (k : Int))
     have hDl := gDev_len (xs := xs) H1.out k
     have hgs : gDev ms ds ss xs (k + 1) = gIt ds (locL ms ds ss) (origL ms ds ss (pointOf ms k)) xs[k].2.2 ((gDev ms ds ss xs k).1, (gDev ms ds ss xs k).2) (nRows (locL ms ds ss)) := by rw [gDev, hxk]
     have rs : ∀ (mem2 : List (Nat × Box)), (∀ nm, findB mem2 nm = findB (corG 4 3 2 5 t ds (gDev ms ds ss xs k).1 (gDev ms ds ss xs k).2 [(6, tnV xs[k]), (1, .var [.pure (pI 0), .pure (pI 0), .pure (pI 0), .pure (pI 0), .pure (pI 0), .nils, .nils]), (0, .var [.pure (pInts ms)])]) nm) →
       ICalls Try.prog n_shard_rows [aInts ds, aInts (locL ms ds ss), aInts (origL ms ds ss (pointOf ms k)), .c (.clo 32 [.ptr 4 0, .ptr 6 0, .ptr 5 0])] mem2 7 (packV [])
        (corG 4 3 2 5 t ds (gDev ms ds ss xs (k + 1)).1 (gDev ms ds ss xs (k + 1)).2 [(6, tnV xs[k]), (1, .var [.pure (pI 0), .pure (pI 0), .pure (pI 0), .pure (pI 0), .pure (pI 0), .nils, .nils]), (0, .var [.pure (pInts ms)])]) 7 := fun mem2 hm => by
      rw [hgs]
      refine ICalls.perm (rows_gather (tx := xs[k].1) (dx := xs[k].2.1) hB hck.2.2.1 hDl ?_ rfl (by omega) (by omega) (by omega) (by omega) (by omega) (by omega) (by omega) (by omega) (by omega) (by omega) (by omega) (by omega) (by omega) (by omega) (by omega)) hm
      simp [Go.Abs.frOk, flatX, flatC, notIn]
     have hk16 : (k : Int) ≤ 16 := by omega
     clear hgs hDl hB hxk hck c1
     obtain ⟨Y, hY⟩ : ∃ Y, Y = gDev ms ds ss xs (k + 1) := ⟨_, rfl⟩
     rw [← hY] at rs
     have HY := Lib.hid hY
     clear hY
     generalize gDev ms ds ss xs k = X at *
     generalize origL ms ds ss (pointOf ms k) = os at *
     generalize xs[k] = z at *
     obtain ⟨Y1, Y2⟩ := Y
     obtain ⟨X1, X2⟩ := X
     obtain ⟨zt, zd, zl⟩ := z
     simp only at *
     have rs1 := rs ((6, tnV (zt, zd, zl)) :: (5, .var [.pure (pB X2)]) :: (4, tnB t 2 3) :: (3, vA X1) :: (2, iA ds) :: (1, .var [.pure (pI 0), .pure (pI 0), .pure (pI 0), .pure (pI 0), .pure (pI 0), .nils, .nils]) :: [(0, .var [.pure (pInts ms)])]) (fun nm => by first | rfl | (simp only [findB, findB_setB]; done) | (simp only [findB, findB_setB]; (repeat' split) <;> first | rfl | omega))
     clear rs
     repeat' first | simp (disch := omega) only [go_sem, ↓reduceIte, Nat.reduceEqDiff, reduceCtorEq, Int.reduceEq, hgk, wrap_i64] | ((with_reducible first | refine condD ?_ ?_ | refine condX ?_ ?_ | refine condW_intro ?_ ?_) <;> intro h <;> first | (exfalso; omega) | simp (disch := omega) only [go_sem, ↓reduceIte, Nat.reduceEqDiff, reduceCtorEq, Int.reduceEq, *, hgk, wrap_i64] | skip) | (refine callW_of p4 rfl (.inr rfl) ?_) | (refine callW_i rs1 ?_)
     refine ⟨k + 1, [], hlt, by omega, ?_⟩
     rw [← HY.out]
     simp [Wk, wkF, wkM, wkL, look_cons, renV, renA, renC, renB, rn, clV, clA, clAs, clB, notIn, findB, findB_setB, clA.go]
    ·have hke : k = xs.length := by omega
     rw [hke]
     generalize gDev ms ds ss xs xs.length = X at *
     obtain ⟨X1, X2⟩ := X
     have hkI : ¬ (xs.length : Int) < xs.length := by omega
     clear hke
     cases X2 with
     | true =>
      repeat' first | simp (disch := omega) only [go_sem, ↓reduceIte, Nat.reduceEqDiff, reduceCtorEq, Int.reduceEq, ↓reduceIte] | ((with_reducible first | refine condD ?_ ?_ | refine condX ?_ ?_ | refine condW_intro ?_ ?_) <;> intro h <;> first | (exfalso; omega) | simp (disch := omega) only [go_sem, ↓reduceIte, Nat.reduceEqDiff, reduceCtorEq, Int.reduceEq, *, ↓reduceIte] | skip)
     | false =>
      repeat' first | simp (disch := omega) only [go_sem, ↓reduceIte, Nat.reduceEqDiff, reduceCtorEq, Int.reduceEq, ↓reduceIte] | ((with_reducible first | refine condD ?_ ?_ | refine condX ?_ ?_ | refine condW_intro ?_ ?_) <;> intro h <;> first | (exfalso; omega) | simp (disch := omega) only [go_sem, ↓reduceIte, Nat.reduceEqDiff, reduceCtorEq, Int.reduceEq, *, ↓reduceIte] | skip)
      rfl
  ·have hga : gath ms ds ss xs = (zT, chk ms (locL ms ds ss) xs) := by rw [gath, if_neg (not_not_intro h1), if_pos h2]
   rw [hga, zT]
   clear h1
   repeat' first | simp (disch := omega) only [go_sem, ↓reduceIte, Nat.reduceEqDiff, reduceCtorEq, Int.reduceEq, h2] | ((with_reducible first | refine condD ?_ ?_ | refine condX ?_ ?_ | refine condW_intro ?_ ?_) <;> intro h <;> first | (exfalso; omega) | simp (disch := omega) only [go_sem, ↓reduceIte, Nat.reduceEqDiff, reduceCtorEq, Int.reduceEq, *, h2] | skip) | (refine callW_of p1 rfl (.inr rfl) ?_) | (refine callW_of p2 rfl (.inl rfl) ?_)
   all_goals rfl
 ·have hga : gath ms ds ss xs = (zT, vspc ms ds ss) := by rw [gath, if_pos h1]
  rw [lshape, if_neg h1] at p1
  rw [hga, zT]
  repeat' first | simp (disch := omega) only [go_sem, ↓reduceIte, Nat.reduceEqDiff, reduceCtorEq, Int.reduceEq, h1] | ((with_reducible first | refine condD ?_ ?_ | refine condX ?_ ?_ | refine condW_intro ?_ ?_) <;> intro h <;> first | (exfalso; omega) | simp (disch := omega) only [go_sem, ↓reduceIte, Nat.reduceEqDiff, reduceCtorEq, Int.reduceEq, *, h1] | skip) | (refine callW_of p1 rfl (.inr rfl) ?_)
  all_goals rfl
end Go.Proofs.Ytcnbccmmhcoanaa
