/- Walks by the abstract machine: shard.Scatter and its reference. -/
import Derived.Test.YtcnbccmmhcoanaaVScat
import Derived.Test.YtcnbccmmhcoanaaPlain52t
set_option linter.unusedVariables false
set_option linter.unusedSimpArgs false
set_option maxRecDepth 20000
namespace Go.Proofs.Ytcnbccmmhcoanaa
open Go.Abs Go.RowKit

theorem mesh_Devices_abs (ms : List Int) : PCalls Try.prog n_mesh_Devices [aMesh ms] (I (devices ms)) := by
 refine PCalls.of is_mesh_Devices (by simp) fun hb => runW_sound ?_
 have p1 := mesh_Validate_abs ms
 have p2 := box_Count_abs ms
 simp only [c_mesh_Devices]
 by_cases h : MeshOk ms
 ·rw [vmesh_yes h] at p1
  rw [devices_yes h]
  rw [h.count] at p2
  repeat' first | simp (disch := omega) only [go_sem, ↓reduceIte, Nat.reduceEqDiff, reduceCtorEq, Int.reduceEq] | ((with_reducible first | refine condD ?_ ?_ | refine condX ?_ ?_ | refine condW_intro ?_ ?_) <;> intro h <;> first | (exfalso; omega) | simp (disch := omega) only [go_sem, ↓reduceIte, Nat.reduceEqDiff, reduceCtorEq, Int.reduceEq, *] | skip) | (refine callW_of p1 rfl (.inl rfl) ?_) | (refine callW_of p2 rfl (.inl rfl) ?_)
 ·rw [vmesh_no h] at p1
  rw [devices_no h]
  repeat' first | simp (disch := omega) only [go_sem, ↓reduceIte, Nat.reduceEqDiff, reduceCtorEq, Int.reduceEq] | ((with_reducible first | refine condD ?_ ?_ | refine condX ?_ ?_ | refine condW_intro ?_ ?_) <;> intro h <;> first | (exfalso; omega) | simp (disch := omega) only [go_sem, ↓reduceIte, Nat.reduceEqDiff, reduceCtorEq, Int.reduceEq, *] | skip) | (refine callW_of p1 rfl (.inl rfl) ?_)

/-- The blocks of all devices. -/
def blk (ms : List Int) (x : Tn) (ss : List Int) (d : Nat) : Tn := (x.1, locL ms x.2.1 ss, block x.2.1 (locL ms x.2.1 ss) (origL ms x.2.1 ss (pointOf ms d)) x.2.2)
def scatL (ms : List Int) (x : Tn) (ss : List Int) : List Tn := (List.range (prod ms).toNat).map (blk ms x ss)
noncomputable def scat (ms : List Int) (x : Tn) (ss : List Int) : List Tn × Int := if tnErr x ≠ 0 then ([], tnErr x) else if vspc ms x.2.1 ss ≠ 0 then ([], vspc ms x.2.1 ss) else (scatL ms x ss, 0)
abbrev tnP (x : Tn) : List PC := [pI x.1.1, pI x.1.2.1, pI x.1.2.2.1, pI x.1.2.2.2.1, pI x.1.2.2.2.2, pInts x.2.1, pSl frP x.2.2]
theorem scatL_len (ms : List Int) (x : Tn) (ss : List Int) : (scatL ms x ss).length = (prod ms).toNat := by simp [scatL]
theorem scatL_take {ms : List Int} {x : Tn} {ss : List Int} {k : Nat} (hk : k < (prod ms).toNat) : (scatL ms x ss).take (k + 1) = (scatL ms x ss).take k ++ [blk ms x ss k] := by
 rw [List.take_succ_eq_append_getElem (by rw [scatL_len]; exact hk)]
 simp [scatL]
theorem origin_in {ms ds ss : List Int} (h : vspc ms ds ss = 0) {d : Int} (hd : 0 ≤ d ∧ d < prod ms) : origin ms ds ss d = (origL ms ds ss (pointOf ms d), 0) := by
 have hdv : 0 ≤ d ∧ d < devices ms := by rw [devices_yes (vspc_ok h).1]; exact hd
 rw [origin, if_neg (not_not_intro h), coords_in hdv, if_pos rfl]
theorem mesh_prod {ms : List Int} (h : MeshOk ms) : 1 ≤ prod ms ∧ prod ms ≤ 16 := ⟨prod_pos ms fun x hx => (h.2.2.1 x hx).1, h.2.2.2⟩

set_option maxHeartbeats 8000000 in
theorem shard_Scatter_abs {ms ss : List Int} {x : Tn} (hv : ∀ a ∈ x.2.2, frIn a) : PCalls Try.prog n_shard_Scatter [aMesh ms, aTn x, aInts ss] (.tup [aSl tnP (scat ms x ss).1, I (scat ms x ss).2]) := by
 refine PCalls.of is_shard_Scatter (by simp) fun hb => runW_sound ?_
 have p1 := tensor_Validate_abs hv
 have p2 := shard_LocalShape_abs ms x.2.1 ss
 have p3 := mesh_Devices_abs ms
 simp only [c_shard_Scatter]
 by_cases h1 : tnErr x = 0
 ·rw [h1] at p1
  by_cases h2 : vspc ms x.2.1 ss = 0
  ·have hsc : scat ms x ss = (scatL ms x ss, 0) := by rw [scat, if_neg (not_not_intro h1), if_neg (not_not_intro h2)]
   rw [hsc]
   clear hsc
   rw [lshape, if_pos h2] at p2
   obtain ⟨v1, v2, v3, v4⟩ := tnErr_ok h1
   obtain ⟨g1, g2, g3, g4⟩ := vspc_ok h2
   have hmp := mesh_prod g1
   rw [devices_yes g1] at p3
   have hgl := good_loc h2
   have pS := shape_Size_abs (locL ms x.2.1 ss)
   rw [size, if_pos (vld_of_good hgl)] at pS
   have hll : (locL ms x.2.1 ss).length ≤ 6 := hgl.len
   have hpl := hgl.take_le (locL ms x.2.1 ss).length
   rw [List.take_of_length_le (Nat.le_refl _)] at hpl
   have H2 := Lib.hid h2
   have hblk : ∀ d, blk ms x ss d = (x.1, locL ms x.2.1 ss, block x.2.1 (locL ms x.2.1 ss) (origL ms x.2.1 ss (pointOf ms d)) x.2.2) := fun d => rfl
   have hB : ∀ d : Nat, (d : Int) < prod ms → BlkOk x.2.1 (locL ms x.2.1 ss) (origL ms x.2.1 ss (pointOf ms d)) := fun d hd => blkOk_of h2 (pointOf_in (fun y hy => (g1.2.2.1 y hy).1) d)
   have HB := Lib.hid hB
   have HK := Lib.hid hblk
   have V3 := Lib.hid v3
   obtain ⟨t, ds, T⟩ := x
   simp only at *
   clear h1 h2 hv v1 v2 v4 g1 g2 g3 g4 hgl hB hblk v3
   repeat' first | simp (disch := omega) only [go_sem, ↓reduceIte, Nat.reduceEqDiff, reduceCtorEq, Int.reduceEq] | ((with_reducible first | refine condD ?_ ?_ | refine condX ?_ ?_ | refine condW_intro ?_ ?_) <;> intro h <;> first | (exfalso; omega) | simp (disch := omega) only [go_sem, ↓reduceIte, Nat.reduceEqDiff, reduceCtorEq, Int.reduceEq, *] | skip) | (refine callW_of p1 rfl (.inl rfl) ?_) | (refine callW_of p2 rfl (.inr rfl) ?_) | (refine callW_of p3 rfl (.inl rfl) ?_)
   refine AW_adopt 11 32 7 rfl (by decide) ?_
   refine AW_loop (fun k : Nat => ⟨[(2, aInts ss), (3, .c (.ptr 0 0)), (4, .c (.ptr 1 0)), (9, aInts (locL ms ds ss)), (11, .c (.ref 2)), (33, I (prod ms)), (34, I k)], [(2, .arr 32 7 (((scatL ms (t, ds, T) ss).take k).map tnP)), (1, tnV (t, ds, T)), (0, .var [.pure (pInts ms)])], 3, 0⟩) (fun k => k ≤ (prod ms).toNat) (fun k => (prod ms).toNat - k) ⟨0, [], Nat.zero_le _, by simp [Wk, wkF, wkM, wkL, look_cons, renV, renA, renC, renB, rn, clV, clA, clAs, clB, notIn, findB, findB_setB, clA.go]⟩ ?_
   rintro k hk
   refine runW_sound ?_
   by_cases hlt : k < (prod ms).toNat
   ·have p4 := shard_Origin_abs ms ds ss (d := (k : Int)) ⟨by omega, by omega⟩
    rw [origin_in H2.out ⟨by omega, by omega⟩] at p4
    have hb := HB.out k (by omega)
    have hkI : (k : Int) < prod ms := by omega
    have L : Hid ((((scatL ms (t, ds, T) ss).take k).map tnP).length = k) := by
     show _ = _
     rw [List.length_map, List.length_take, scatL_len]; omega
    have hck := HK.out k
    have E : Hid (((scatL ms (t, ds, T) ss).take (k + 1)).map tnP = ((scatL ms (t, ds, T) ss).take k).map tnP ++ [tnP (t, locL ms ds ss, block ds (locL ms ds ss) (origL ms ds ss (pointOf ms k)) T)]) := by
     show _ = _
     rw [scatL_take hlt, List.map_append, hck]
     rfl
    clear hck
    have rs : ∀ (O : List (List PC)) (nb nv nc : Nat) (mem2 : List (Nat × Box)), (2 < nb ∧ nb < 6 ∧ 2 < nv ∧ nv < 6 ∧ 2 < nc ∧ nc < 6 ∧ nb ≠ nv ∧ nb ≠ nc ∧ nv ≠ nc) →
      (∀ nm, findB mem2 nm = findB (corS nb nv nc 2 t (locL ms ds ss) (List.replicate (prod (locL ms ds ss)).toNat (0, 0)) O [(1, tnV (t, ds, T)), (0, .var [.pure (pInts ms)])]) nm) →
      ICalls Try.prog n_shard_rows [aInts ds, aInts (locL ms ds ss), aInts (origL ms ds ss (pointOf ms k)), .c (.clo 25 [.ptr nb 0, .ptr 1 0])] mem2 6 (packV [])
       (corS nb nv nc 2 t (locL ms ds ss) (block ds (locL ms ds ss) (origL ms ds ss (pointOf ms k)) T) O [(1, tnV (t, ds, T)), (0, .var [.pure (pInts ms)])]) 6 := fun O nb nv nc mem2 hn hm => by
     refine ICalls.perm (rows_scatter (tx := t) hb V3.out ?_ rfl (by omega) (by omega) (by omega) (by omega) (by omega) (by omega) (by omega) (by omega) (by omega) (by omega) (by omega) (by omega) (by omega) (by omega) (by omega)) hm
     simp [Go.Abs.frOk, flatX, flatC, notIn]
     omega
    have RS := Lib.hid rs
    clear rs hb
    generalize origL ms ds ss (pointOf ms k) = os at *
    generalize block ds (locL ms ds ss) os T = BB at *
    generalize hLS : locL ms ds ss = LS at *
    have hrep : List.replicate (prod LS).toNat ([pI 0, pI 0] : List PC) = (List.replicate (prod LS).toNat ((0 : Int), (0 : Int))).map frP := by rw [List.map_replicate]
    clear hLS
    have r0 := fun O => RS.out O 3 4 5 ((5, iA LS) :: (4, vA (List.replicate (prod LS).toNat (0, 0))) :: (3, tnB t 5 4) :: (2, .arr 32 7 O) :: [(1, tnV (t, ds, T)), (0, .var [.pure (pInts ms)])]) (by omega) (fun nm => by first | rfl | (simp only [findB, findB_setB]; done) | (simp only [findB, findB_setB]; (repeat' split) <;> first | rfl | omega))
    have r1 := fun O => RS.out O 3 5 4 ((5, vA (List.replicate (prod LS).toNat (0, 0))) :: (4, iA LS) :: (3, tnB t 4 5) :: (2, .arr 32 7 O) :: [(1, tnV (t, ds, T)), (0, .var [.pure (pInts ms)])]) (by omega) (fun nm => by first | rfl | (simp only [findB, findB_setB]; done) | (simp only [findB, findB_setB]; (repeat' split) <;> first | rfl | omega))
    have r2 := fun O => RS.out O 4 3 5 ((5, iA LS) :: (4, tnB t 5 3) :: (3, vA (List.replicate (prod LS).toNat (0, 0))) :: (2, .arr 32 7 O) :: [(1, tnV (t, ds, T)), (0, .var [.pure (pInts ms)])]) (by omega) (fun nm => by first | rfl | (simp only [findB, findB_setB]; done) | (simp only [findB, findB_setB]; (repeat' split) <;> first | rfl | omega))
    have r3 := fun O => RS.out O 4 5 3 ((5, vA (List.replicate (prod LS).toNat (0, 0))) :: (4, tnB t 3 5) :: (3, iA LS) :: (2, .arr 32 7 O) :: [(1, tnV (t, ds, T)), (0, .var [.pure (pInts ms)])]) (by omega) (fun nm => by first | rfl | (simp only [findB, findB_setB]; done) | (simp only [findB, findB_setB]; (repeat' split) <;> first | rfl | omega))
    have r4 := fun O => RS.out O 5 3 4 ((5, tnB t 4 3) :: (4, iA LS) :: (3, vA (List.replicate (prod LS).toNat (0, 0))) :: (2, .arr 32 7 O) :: [(1, tnV (t, ds, T)), (0, .var [.pure (pInts ms)])]) (by omega) (fun nm => by first | rfl | (simp only [findB, findB_setB]; done) | (simp only [findB, findB_setB]; (repeat' split) <;> first | rfl | omega))
    have r5 := fun O => RS.out O 5 4 3 ((5, tnB t 3 4) :: (4, vA (List.replicate (prod LS).toNat (0, 0))) :: (3, iA LS) :: (2, .arr 32 7 O) :: [(1, tnV (t, ds, T)), (0, .var [.pure (pInts ms)])]) (by omega) (fun nm => by first | rfl | (simp only [findB, findB_setB]; done) | (simp only [findB, findB_setB]; (repeat' split) <;> first | rfl | omega))
    clear RS
    repeat' first | simp (disch := omega) only [go_sem, ↓reduceIte, Nat.reduceEqDiff, reduceCtorEq, Int.reduceEq, wrap_i64, hrep] | ((with_reducible first | refine condD ?_ ?_ | refine condX ?_ ?_ | refine condW_intro ?_ ?_) <;> intro h <;> first | (exfalso; omega) | simp (disch := omega) only [go_sem, ↓reduceIte, Nat.reduceEqDiff, reduceCtorEq, Int.reduceEq, *, wrap_i64, hrep] | skip) | (with_reducible refine bothW_intro ?_ ?_) | (with_reducible refine nilW_intro (fun h => ?_) ?_) | (refine callW_of p4 rfl (.inr rfl) ?_) | (refine callW_i (Clone_own LS _ _ (by omega)) ?_) | (refine callW_of pS rfl (.inl rfl) ?_) | (refine callW_i (r0 _) ?_) | (refine callW_i (r1 _) ?_) | (refine callW_i (r2 _) ?_) | (refine callW_i (r3 _) ?_) | (refine callW_i (r4 _) ?_) | (refine callW_i (r5 _) ?_) | (refine app_own rfl (by intro h; cases h) (rowsOk_one rfl) (by rw [L.out]; simp; omega) (by rw [L.out]; simp; omega) ?_)
    all_goals
     refine ⟨k + 1, [(2, 6)], hlt, by omega, ?_⟩
     rw [E.out]
     simp [Wk, wkF, wkM, wkL, look_cons, renV, renA, renC, renB, rn, clV, clA, clAs, clB, notIn, findB, findB_setB, clA.go]
   ·have e : (scatL ms (t, ds, T) ss).take k = scatL ms (t, ds, T) ss := List.take_of_length_le (by rw [scatL_len]; omega)
    rw [e]
    have hkI : ¬ (k : Int) < prod ms := by omega
    repeat' first | simp (disch := omega) only [go_sem, ↓reduceIte, Nat.reduceEqDiff, reduceCtorEq, Int.reduceEq] | ((with_reducible first | refine condD ?_ ?_ | refine condX ?_ ?_ | refine condW_intro ?_ ?_) <;> intro h <;> first | (exfalso; omega) | simp (disch := omega) only [go_sem, ↓reduceIte, Nat.reduceEqDiff, reduceCtorEq, Int.reduceEq, *] | skip)
  ·rw [lshape, if_neg h2] at p2
   have hsc : scat ms x ss = ([], vspc ms x.2.1 ss) := by rw [scat, if_neg (not_not_intro h1), if_pos h2]
   rw [hsc]
   repeat' first | simp (disch := omega) only [go_sem, ↓reduceIte, Nat.reduceEqDiff, reduceCtorEq, Int.reduceEq, h2] | ((with_reducible first | refine condD ?_ ?_ | refine condX ?_ ?_ | refine condW_intro ?_ ?_) <;> intro h <;> first | (exfalso; omega) | simp (disch := omega) only [go_sem, ↓reduceIte, Nat.reduceEqDiff, reduceCtorEq, Int.reduceEq, *, h2] | skip) | (refine callW_of p1 rfl (.inl rfl) ?_) | (refine callW_of p2 rfl (.inr rfl) ?_) | (refine callW_of p3 rfl (.inl rfl) ?_)
   all_goals rfl
 ·have hsc : scat ms x ss = ([], tnErr x) := by rw [scat, if_pos h1]
  rw [hsc]
  repeat' first | simp (disch := omega) only [go_sem, ↓reduceIte, Nat.reduceEqDiff, reduceCtorEq, Int.reduceEq, h1] | ((with_reducible first | refine condD ?_ ?_ | refine condX ?_ ?_ | refine condW_intro ?_ ?_) <;> intro h <;> first | (exfalso; omega) | simp (disch := omega) only [go_sem, ↓reduceIte, Nat.reduceEqDiff, reduceCtorEq, Int.reduceEq, *, h1] | skip) | (refine callW_of p1 rfl (.inl rfl) ?_)
  all_goals rfl
end Go.Proofs.Ytcnbccmmhcoanaa
