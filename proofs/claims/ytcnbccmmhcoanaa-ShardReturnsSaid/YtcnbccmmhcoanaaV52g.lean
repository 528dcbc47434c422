/- Walks by the abstract machine: the first index of a block; the law ShardOrigins. -/
import Derived.Test.YtcnbccmmhcoanaaV52f
import Derived.Test.YtcnbccmmhcoanaaV09p
set_option linter.unusedVariables false
set_option linter.unusedSimpArgs false
set_option maxRecDepth 20000
namespace Go.Proofs.Ytcnbccmmhcoanaa
open Go.Abs Go.RowKit

theorem coords_point {ms : List Int} (h : MeshOk ms) (d : Int) : coords ms d = bpoint ms d := by
 rw [coords, bpoint, devices_yes h, h.count]
theorem mesh_Coordinates_abs (ms : List Int) {d : Int} (hd : in64 d) : PCalls Try.prog n_mesh_Coordinates [aMesh ms, I d] (.tup [aInts (coords ms d).1, Go.Abs.B (coords ms d).2]) := by
 refine PCalls.of is_mesh_Coordinates (by simp) fun hb => runW_sound ?_
 have p1 := mesh_Validate_abs ms
 simp only [c_mesh_Coordinates]
 by_cases h : MeshOk ms
 ·rw [vmesh_yes h] at p1
  have p2 := box_Point_abs ms hd
  rw [coords_point h]
  repeat' first | simp (disch := omega) only [go_sem, ↓reduceIte, Nat.reduceEqDiff, reduceCtorEq, Int.reduceEq] | ((with_reducible first | refine condD ?_ ?_ | refine condX ?_ ?_ | refine condW_intro ?_ ?_) <;> intro h <;> first | (exfalso; omega) | simp (disch := omega) only [go_sem, ↓reduceIte, Nat.reduceEqDiff, reduceCtorEq, Int.reduceEq, *] | skip) | (refine callW_of p1 rfl (.inl rfl) ?_) | (refine callW_of p2 rfl (.inr rfl) ?_)
 ·rw [vmesh_no h] at p1
  rw [coords_out (by rw [devices_no h]; omega)]
  repeat' first | simp (disch := omega) only [go_sem, ↓reduceIte, Nat.reduceEqDiff, reduceCtorEq, Int.reduceEq] | ((with_reducible first | refine condD ?_ ?_ | refine condX ?_ ?_ | refine condW_intro ?_ ?_) <;> intro h <;> first | (exfalso; omega) | simp (disch := omega) only [go_sem, ↓reduceIte, Nat.reduceEqDiff, reduceCtorEq, Int.reduceEq, *] | skip) | (refine callW_of p1 rfl (.inl rfl) ?_)
  all_goals rfl
theorem ref51_Devices_abs (ms : List Int) : PCalls Try.prog n_ref51_Devices [aMesh ms] (I (devices ms)) := by
 refine PCalls.of is_ref51_Devices (by simp) fun hb => runW_sound ?_
 have p1 := ref51_Validate_abs ms
 simp only [c_ref51_Devices]
 by_cases h : MeshOk ms
 ·rw [vmesh_yes h] at p1
  rw [devices_yes h]
  repeat' first | simp (disch := omega) only [go_sem, ↓reduceIte, Nat.reduceEqDiff, reduceCtorEq, Int.reduceEq] | ((with_reducible first | refine condD ?_ ?_ | refine condX ?_ ?_ | refine condW_intro ?_ ?_) <;> intro h <;> first | (exfalso; omega) | simp (disch := omega) only [go_sem, ↓reduceIte, Nat.reduceEqDiff, reduceCtorEq, Int.reduceEq, *] | skip) | (refine callW_of p1 rfl (.inl rfl) ?_)
  refine AW_loop (fun k : Nat => ⟨[(1, .c (.ptr 0 0)), (3, I (prod (ms.take k))), (4, I k)], [(0, .var [.pure (pInts ms)])], 1, 0⟩) (fun k => k ≤ ms.length) (fun k => ms.length - k) ⟨0, [], Nat.zero_le _, by simp [Wk, wkF, wkM, wkL, look_cons, renV, renA, renC, renB, rn, clV, clA, clAs, clB, notIn, findB, findB_setB, clA.go, prod]⟩ ?_
  rintro k hk
  refine runW_sound ?_
  have h3 := h.2.1
  by_cases hlt : k < ms.length
  ·have hps := prod_small (xs := ms) (k := k + 1) hlt fun i _ hi => mesh_get h hi
   have hpw : (16 : Int) ^ (k + 1) ≤ 4096 := by
    have : k = 0 ∨ k = 1 ∨ k = 2 := by omega
    rcases this with rfl | rfl | rfl <;> decide
   rw [prod_succ hlt] at hps
   have hw : IntKind.wrap .i64 (prod (ms.take k) * ms[k]) = prod (ms.take k) * ms[k] := wrap_i64 (by omega)
   clear hps hpw
   repeat' first | simp (disch := omega) only [go_sem, ↓reduceIte, Nat.reduceEqDiff, reduceCtorEq, Int.reduceEq, map_get hlt, wrap_i64, hw] | ((with_reducible first | refine condD ?_ ?_ | refine condX ?_ ?_ | refine condW_intro ?_ ?_) <;> intro h <;> first | (exfalso; omega) | simp (disch := omega) only [go_sem, ↓reduceIte, Nat.reduceEqDiff, reduceCtorEq, Int.reduceEq, *, map_get hlt, wrap_i64, hw] | skip)
   exact ⟨k + 1, [], hlt, by omega, by simp [Wk, wkF, wkM, wkL, look_cons, renV, renA, renC, renB, rn, clV, clA, clAs, clB, notIn, findB, findB_setB, clA.go, prod_succ hlt]⟩
  ·have e : ms.take k = ms := List.take_of_length_le (by omega)
   rw [e]
   repeat' first | simp (disch := omega) only [go_sem, ↓reduceIte, Nat.reduceEqDiff, reduceCtorEq, Int.reduceEq] | ((with_reducible first | refine condD ?_ ?_ | refine condX ?_ ?_ | refine condW_intro ?_ ?_) <;> intro h <;> first | (exfalso; omega) | simp (disch := omega) only [go_sem, ↓reduceIte, Nat.reduceEqDiff, reduceCtorEq, Int.reduceEq, *] | skip)
 ·rw [vmesh_no h] at p1
  rw [devices_no h]
  repeat' first | simp (disch := omega) only [go_sem, ↓reduceIte, Nat.reduceEqDiff, reduceCtorEq, Int.reduceEq] | ((with_reducible first | refine condD ?_ ?_ | refine condX ?_ ?_ | refine condW_intro ?_ ?_) <;> intro h <;> first | (exfalso; omega) | simp (disch := omega) only [go_sem, ↓reduceIte, Nat.reduceEqDiff, reduceCtorEq, Int.reduceEq, *] | skip) | (refine callW_of p1 rfl (.inl rfl) ?_)
theorem ref51_Coordinates_abs (xs : List Int) {at' : Int} (hat : in64 at') : PCalls Try.prog n_ref51_Coordinates [aMesh xs, I at'] (.tup [aInts (coords xs at').1, Go.Abs.B (coords xs at').2]) := by
 refine PCalls.of is_ref51_Coordinates (by simp) fun hb => runW_sound ?_
 have hx : xs.length ≤ 9223372036854775807 := bnd_mesh hb.1
 obtain ⟨hat1, hat2⟩ := hat
 have pd := ref51_Devices_abs xs
 by_cases hin : 0 ≤ at' ∧ at' < devices xs
 ·have hsc := devices_pos hin
  have hg := hsc.1.posB'
  have h6 : xs.length ≤ 16 := by have := hsc.1.2.1; omega
  obtain ⟨h0, h1⟩ := hin
  rw [coords_in ⟨h0, h1⟩]
  clear hsc
  simp only [c_ref51_Coordinates]
  repeat' first | simp (disch := omega) only [go_sem, ↓reduceIte, Nat.reduceEqDiff, reduceCtorEq, Int.reduceEq] | ((with_reducible first | refine condD ?_ ?_ | refine condX ?_ ?_ | refine condW_intro ?_ ?_) <;> intro h <;> first | (exfalso; omega) | simp (disch := omega) only [go_sem, ↓reduceIte, Nat.reduceEqDiff, reduceCtorEq, Int.reduceEq, *] | skip) | (refine callW_of pd rfl (.inl rfl) ?_)
  refine AW_loop (fun x : Nat × Int => ⟨[(1, I x.2), (2, .c (.ptr 0 0)), (6, .c (.ref 1)), (7, I ((x.1 : Int) - 1))], [(0, .var [.pure (pInts xs)]), (1, .arr 3 1 ((List.replicate x.1 0 ++ (pointOf xs at').drop x.1).map fun n => [pI n]))], 2, 0⟩)
   (fun x => x.1 ≤ xs.length ∧ 0 ≤ x.2 ∧ x.2 ≤ 9223372036854775807 ∧ x.2 = at' / prod (xs.drop x.1)) (fun x => x.1) ⟨(xs.length, at'), [], ⟨Nat.le_refl _, h0, hat2, ?_⟩, ?_⟩ ?_
  ·rw [List.drop_eq_nil_of_le (Nat.le_refl _), prod, Int.ediv_one]
  ·have e1 : (pointOf xs at').drop xs.length = [] := List.drop_eq_nil_of_le (by rw [length_pointOf]; exact Nat.le_refl _)
   simp [Wk, wkF, wkM, wkL, look_cons, renV, renA, renC, renB, rn, clV, clA, clAs, clB, notIn, findB, findB_setB, clA.go, e1, wrap_i64 (show -9223372036854775808 ≤ (xs.length : Int) - 1 ∧ (xs.length : Int) - 1 ≤ 9223372036854775807 by omega)]
  ·rintro ⟨k, z⟩ ⟨hk, hz0, hz1, hz⟩
   refine runW_sound ?_
   cases k with
   | zero =>
    repeat' first | simp (disch := omega) only [go_sem, ↓reduceIte, Nat.reduceEqDiff, reduceCtorEq, Int.reduceEq] | ((with_reducible first | refine condD ?_ ?_ | refine condX ?_ ?_ | refine condW_intro ?_ ?_) <;> intro h <;> first | (exfalso; omega) | simp (disch := omega) only [go_sem, ↓reduceIte, Nat.reduceEqDiff, reduceCtorEq, Int.reduceEq, *] | skip)
    all_goals simp
   | succ k =>
    have hlt : k < xs.length := hk
    have e1 : (((k + 1 : Nat) : Int) - 1) = (k : Int) := by omega
    have hx1 := (hg.get hlt).1
    have hget : xs[k]?.getD 0 = xs[k] := by simp [hlt]
    rw [hget] at hx1
    have hne : xs[k] ≠ 0 := by omega
    have hq0 : 0 ≤ z / xs[k] := Int.ediv_nonneg hz0 (by omega)
    have hq1 : z / xs[k] ≤ z := Int.ediv_le_self _ hz0
    have eq1 : z.tdiv xs[k] = z / xs[k] := Int.tdiv_eq_ediv_of_nonneg hz0
    have eq2 : z.tmod xs[k] = z % xs[k] := Int.tmod_eq_emod_of_nonneg hz0
    have hrow : ((List.replicate (k + 1) (0 : Int) ++ (pointOf xs at').drop (k + 1)).map fun n => [pI n])[k]? = some [pI 0] := by
     rw [List.getElem?_map, List.getElem?_append_left (by simp), List.getElem?_replicate, if_pos (by omega)]
     rfl
    have hlen : k < (List.replicate (k + 1) (0 : Int) ++ (pointOf xs at').drop (k + 1)).length := by simp; omega
    simp only [e1]
    repeat' first | simp (disch := omega) only [go_sem, ↓reduceIte, Nat.reduceEqDiff, reduceCtorEq, Int.reduceEq, map_get hlt, hrow, wrap_i64, eq1, eq2, hne, ne_eq] | ((with_reducible first | refine condD ?_ ?_ | refine condX ?_ ?_ | refine condW_intro ?_ ?_) <;> intro h <;> first | (exfalso; omega) | simp (disch := omega) only [go_sem, ↓reduceIte, Nat.reduceEqDiff, reduceCtorEq, Int.reduceEq, *, map_get hlt, hrow, wrap_i64, eq1, eq2, hne, ne_eq] | skip)
    have hz' : z = at' / prod (xs.drop (k + 1)) := hz
    have hset : (((List.replicate (k + 1) (0 : Int) ++ (pointOf xs at').drop (k + 1)).map fun n => [pI n]).set k [PC.val (.int .i64 (z % xs[k]))]) = (List.replicate k 0 ++ (pointOf xs at').drop k).map fun n => [pI n] := by
     have h2 := set_fill k (0 : Int) (z % xs[k]?.getD 0) ((pointOf xs at').drop (k + 1))
     rw [hget] at h2
     rw [← List.map_set (f := fun n : Int => [pI n]) (a := z % xs[k])]
     rw [h2, pointOf_drop hlt, ← coord_div hz', hget]
    rw [hset]
    refine ⟨(k, z / xs[k]), [], ⟨by omega, hq0, by show z / xs[k] ≤ _; omega, ?_⟩, Nat.lt_succ_self _, by simp [Wk, wkF, wkM, wkL, look_cons, renV, renA, renC, renB, rn, clV, clA, clAs, clB, notIn, findB, findB_setB, clA.go]⟩
    show z / xs[k] = at' / prod (xs.drop k)
    rw [div_drop hg.pos at' hlt, ← hz', hget]
 ·rw [coords_out hin]
  simp only [c_ref51_Coordinates]
  repeat' first | simp (disch := omega) only [go_sem, ↓reduceIte, Nat.reduceEqDiff, reduceCtorEq, Int.reduceEq] | ((with_reducible first | refine condD ?_ ?_ | refine condX ?_ ?_ | refine condW_intro ?_ ?_) <;> intro h <;> first | (exfalso; omega) | simp (disch := omega) only [go_sem, ↓reduceIte, Nat.reduceEqDiff, reduceCtorEq, Int.reduceEq, *] | skip) | (refine callW_of pd rfl (.inl rfl) ?_)
  all_goals rfl

def origAt (ms ds ss p : List Int) (i : Nat) : Int := if 0 ≤ ss[i]?.getD 0 then p[(ss[i]?.getD 0).toNat]?.getD 0 * locAt ms ds ss i else 0
def origL (ms ds ss p : List Int) : List Int := (List.range ds.length).map (origAt ms ds ss p)
theorem origL_len (ms ds ss p : List Int) : (origL ms ds ss p).length = ds.length := by simp [origL]
theorem origL_take {ms ds ss p : List Int} {k : Nat} (hk : k < ds.length) : (origL ms ds ss p).take (k + 1) = (origL ms ds ss p).take k ++ [origAt ms ds ss p k] := by
 rw [List.take_succ_eq_append_getElem (by rw [origL_len]; exact hk)]
 simp [origL]
noncomputable def origin (ms ds ss : List Int) (d : Int) : List Int × Int :=
 if vspc ms ds ss ≠ 0 then ([], vspc ms ds ss) else if (coords ms d).2 = true then (origL ms ds ss (coords ms d).1, 0) else ([], 12)
theorem shard_Origin_abs (ms ds ss : List Int) {d : Int} (hd : in64 d) : PCalls Try.prog n_shard_Origin [aMesh ms, aInts ds, aInts ss, I d] (.tup [aInts (origin ms ds ss d).1, I (origin ms ds ss d).2]) := by
 refine PCalls.of is_shard_Origin (by simp) fun hb => runW_sound ?_
 have hx : ss.length ≤ 9223372036854775807 := by simpa [bndVs, bndV, bndA] using hb.2.2.1
 have p1 := shard_LocalShape_abs ms ds ss
 have p2 := mesh_Coordinates_abs ms hd
 simp only [c_shard_Origin]
 by_cases h : vspc ms ds ss = 0
 ·rw [origin, if_neg (not_not_intro h)]
  rw [lshape, if_pos h] at p1
  by_cases hin : 0 ≤ d ∧ d < devices ms
  ·rw [coords_in hin] at p2 ⊢
   obtain ⟨g1, g2, g3, g4⟩ := vspc_ok h
   have hd6 := (good_of_vld g2).len
   have hpin := pointOf_in (fun x hx => (g1.2.2.1 x hx).1) d
   have hpl := length_pointOf ms d
   have hmsz := g1
   obtain ⟨p, hp⟩ : ∃ p, p = pointOf ms d := ⟨_, rfl⟩
   rw [← hp] at p2 hpin hpl ⊢
   have G3 := Lib.hid g3
   have H := Lib.hid h
   have PL := Lib.hid hpl
   have G4 := Lib.hid g4
   clear g3 g4 g2 g1 h hp hpl hin
   rw [if_pos rfl]
   repeat' first | simp (disch := omega) only [go_sem, ↓reduceIte, Nat.reduceEqDiff, reduceCtorEq, Int.reduceEq] | ((with_reducible first | refine condD ?_ ?_ | refine condX ?_ ?_ | refine condW_intro ?_ ?_) <;> intro h <;> first | (exfalso; omega) | simp (disch := omega) only [go_sem, ↓reduceIte, Nat.reduceEqDiff, reduceCtorEq, Int.reduceEq, *] | skip) | (refine callW_of p1 rfl (.inr rfl) ?_) | (refine callW_of p2 rfl (.inr rfl) ?_)
   refine AW_loop (fun k : Nat => ⟨[(10, aInts (locL ms ds ss)), (12, aInts p), (14, .c (.ref 1)), (38, aInts ss), (39, I ss.length), (40, I k)], [(1, .arr 3 1 (((origL ms ds ss p).take k ++ List.replicate (ds.length - k) 0).map fun n => [pI n]))], 2, 0⟩) (fun k => k ≤ ss.length) (fun k => ss.length - k) ⟨0, [], Nat.zero_le _, by simp [Wk, wkF, wkM, wkL, look_cons, renV, renA, renC, renB, rn, clV, clA, clAs, clB, notIn, findB, findB_setB, clA.go, List.map_replicate]⟩ ?_
   rintro k hk
   refine runW_sound ?_
   by_cases hlt0 : k < ss.length
   ·have hltd : k < ds.length := by have := G3.out; omega
    have hlt : k < ss.length := by have := G3.out; omega
    have hltl : k < (locL ms ds ss).length := by rw [locL_len]; exact hltd
    have hlen : ((origL ms ds ss p).take k).length = k := by rw [List.length_take, origL_len]; omega
    have hlen2 : ((origL ms ds ss p).take k ++ List.replicate (ds.length - k) 0).length = ds.length := by rw [List.length_append, hlen, List.length_replicate]; omega
    have hrow : (((origL ms ds ss p).take k ++ List.replicate (ds.length - k) 0).map fun n => [pI n])[k]? = some [pI 0] := by
     rw [List.getElem?_map, List.getElem?_append_right (by omega), hlen, Nat.sub_self, List.getElem?_replicate, if_pos (by omega)]
     rfl
    have hsetd : ∀ y, ((((origL ms ds ss p).take k ++ List.replicate (ds.length - k) 0).map fun n => [pI n]).set k [PC.val (.int .i64 y)]) = ((origL ms ds ss p).take k ++ y :: List.replicate (ds.length - (k + 1)) 0).map fun n => [pI n] := by
     intro y
     have e : ds.length - k = (ds.length - (k + 1)) + 1 := by omega
     rw [← List.map_set (f := fun n : Int => [pI n]) (a := y), List.set_append_right _ _ (by omega), hlen, Nat.sub_self, e, List.replicate_succ]
     rfl
    by_cases h0 : 0 ≤ ss[k]
    ·obtain ⟨hm, f1, f2, f3, f4, f5, f6⟩ := loc_facts H.out hltd hlt h0
     have hmp : ss[k].toNat < p.length := by rw [PL.out]; exact hm
     have hpv := hpin.2 _ hm
     have hpg : p[ss[k].toNat]?.getD 0 = p[ss[k].toNat] := by simp [hmp]
     have hmg : ms[ss[k].toNat]?.getD 0 = ms[ss[k].toNat] := by simp [hm]
     have hm16 := (mesh_get hmsz hm).2
     have hloc : (locL ms ds ss)[k] = ds[k] / ms[ss[k].toNat] := by simp [locL, f4]
     have hll : ((locL ms ds ss).map fun n => [pI n])[k]? = some [pI (ds[k] / ms[ss[k].toNat])] := by rw [map_get hltl, hloc]
     rw [hpg, hmg] at hpv
     have hpr : 0 ≤ p[ss[k].toNat] * (ds[k] / ms[ss[k].toNat]) ∧ p[ss[k].toNat] * (ds[k] / ms[ss[k].toNat]) ≤ 16 * 4096 := by
      refine ⟨Int.mul_nonneg hpv.1 f5, Int.mul_le_mul (by omega) f6 f5 (by decide)⟩
     have hw : IntKind.wrap .i64 (p[ss[k].toNat] * (ds[k] / ms[ss[k].toNat])) = p[ss[k].toNat] * (ds[k] / ms[ss[k].toNat]) := wrap_i64 (by omega)
     have ea : origAt ms ds ss p k = p[ss[k].toNat] * (ds[k] / ms[ss[k].toNat]) := by
      rw [origAt, f4]
      simp [hlt, h0, hmp]
     have EA := Lib.hid ea
     clear ea f4 hloc hlen
     repeat' first | simp (disch := omega) only [go_sem, ↓reduceIte, Nat.reduceEqDiff, reduceCtorEq, Int.reduceEq, map_get hlt, map_get hmp, hll, hrow, hsetd, hlen2, wrap_i64, hw] | ((with_reducible first | refine condD ?_ ?_ | refine condX ?_ ?_ | refine condW_intro ?_ ?_) <;> intro h <;> first | (exfalso; omega) | simp (disch := omega) only [go_sem, ↓reduceIte, Nat.reduceEqDiff, reduceCtorEq, Int.reduceEq, *, map_get hlt, map_get hmp, hll, hrow, hsetd, hlen2, wrap_i64, hw] | skip)
     refine ⟨k + 1, [], hlt0, by omega, ?_⟩
     rw [origL_take hltd, EA.out, List.append_assoc]
     simp [Wk, wkF, wkM, wkL, look_cons, renV, renA, renC, renB, rn, clV, clA, clAs, clB, notIn, findB, findB_setB, clA.go]
    ·have e : (origL ms ds ss p).take (k + 1) ++ List.replicate (ds.length - (k + 1)) 0 = (origL ms ds ss p).take k ++ List.replicate (ds.length - k) 0 := by
      have e1 : ds.length - k = (ds.length - (k + 1)) + 1 := by omega
      rw [origL_take hltd, e1, List.replicate_succ, List.append_assoc, origAt]
      simp [hlt, h0]
     have E := Lib.hid e
     clear e hlen hlen2
     repeat' first | simp (disch := omega) only [go_sem, ↓reduceIte, Nat.reduceEqDiff, reduceCtorEq, Int.reduceEq, map_get hlt, wrap_i64] | ((with_reducible first | refine condD ?_ ?_ | refine condX ?_ ?_ | refine condW_intro ?_ ?_) <;> intro h <;> first | (exfalso; omega) | simp (disch := omega) only [go_sem, ↓reduceIte, Nat.reduceEqDiff, reduceCtorEq, Int.reduceEq, *, map_get hlt, wrap_i64] | skip)
     refine ⟨k + 1, [], hlt0, by omega, ?_⟩
     rw [E.out]
     simp [Wk, wkF, wkM, wkL, look_cons, renV, renA, renC, renB, rn, clV, clA, clAs, clB, notIn, findB, findB_setB, clA.go]
   ·have e : (origL ms ds ss p).take k ++ List.replicate (ds.length - k) 0 = origL ms ds ss p := by
     rw [List.take_of_length_le (by rw [origL_len]; have := G3.out; omega), show ds.length - k = 0 by have := G3.out; omega]
     simp
    rw [e]
    repeat' first | simp (disch := omega) only [go_sem, ↓reduceIte, Nat.reduceEqDiff, reduceCtorEq, Int.reduceEq] | ((with_reducible first | refine condD ?_ ?_ | refine condX ?_ ?_ | refine condW_intro ?_ ?_) <;> intro h <;> first | (exfalso; omega) | simp (disch := omega) only [go_sem, ↓reduceIte, Nat.reduceEqDiff, reduceCtorEq, Int.reduceEq, *] | skip)
  ·rw [coords_out hin] at p2 ⊢
   rw [if_neg (by decide)]
   repeat' first | simp (disch := omega) only [go_sem, ↓reduceIte, Nat.reduceEqDiff, reduceCtorEq, Int.reduceEq] | ((with_reducible first | refine condD ?_ ?_ | refine condX ?_ ?_ | refine condW_intro ?_ ?_) <;> intro h <;> first | (exfalso; omega) | simp (disch := omega) only [go_sem, ↓reduceIte, Nat.reduceEqDiff, reduceCtorEq, Int.reduceEq, *] | skip) | (refine callW_of p1 rfl (.inr rfl) ?_) | (refine callW_of p2 rfl (.inr rfl) ?_)
   all_goals rfl
 ·rw [lshape, if_neg h] at p1
  rw [origin, if_pos h]
  repeat' first | simp (disch := omega) only [go_sem, ↓reduceIte, Nat.reduceEqDiff, reduceCtorEq, Int.reduceEq, h] | ((with_reducible first | refine condD ?_ ?_ | refine condX ?_ ?_ | refine condW_intro ?_ ?_) <;> intro h <;> first | (exfalso; omega) | simp (disch := omega) only [go_sem, ↓reduceIte, Nat.reduceEqDiff, reduceCtorEq, Int.reduceEq, *, h] | skip) | (refine callW_of p1 rfl (.inr rfl) ?_)
  all_goals rfl
theorem ref52_Origin_abs (ms ds ss : List Int) {d : Int} (hd : in64 d) : PCalls Try.prog n_ref52_Origin [aMesh ms, aInts ds, aInts ss, I d] (.tup [aInts (origin ms ds ss d).1, I (origin ms ds ss d).2]) := by
 refine PCalls.of is_ref52_Origin (by simp) fun hb => runW_sound ?_
 have hx : ss.length ≤ 9223372036854775807 := by simpa [bndVs, bndV, bndA] using hb.2.2.1
 have p1 := ref52_LocalShape_abs ms ds ss
 have p2 := ref51_Coordinates_abs ms hd
 simp only [c_ref52_Origin]
 by_cases h : vspc ms ds ss = 0
 ·rw [origin, if_neg (not_not_intro h)]
  rw [lshape, if_pos h] at p1
  by_cases hin : 0 ≤ d ∧ d < devices ms
  ·rw [coords_in hin] at p2 ⊢
   obtain ⟨g1, g2, g3, g4⟩ := vspc_ok h
   have hd6 := (good_of_vld g2).len
   have hpin := pointOf_in (fun x hx => (g1.2.2.1 x hx).1) d
   have hpl := length_pointOf ms d
   have hmsz := g1
   obtain ⟨p, hp⟩ : ∃ p, p = pointOf ms d := ⟨_, rfl⟩
   rw [← hp] at p2 hpin hpl ⊢
   have G3 := Lib.hid g3
   have H := Lib.hid h
   have PL := Lib.hid hpl
   have G4 := Lib.hid g4
   clear g3 g4 g2 g1 h hp hpl hin
   rw [if_pos rfl]
   repeat' first | simp (disch := omega) only [go_sem, ↓reduceIte, Nat.reduceEqDiff, reduceCtorEq, Int.reduceEq] | ((with_reducible first | refine condD ?_ ?_ | refine condX ?_ ?_ | refine condW_intro ?_ ?_) <;> intro h <;> first | (exfalso; omega) | simp (disch := omega) only [go_sem, ↓reduceIte, Nat.reduceEqDiff, reduceCtorEq, Int.reduceEq, *] | skip) | (refine callW_of p1 rfl (.inr rfl) ?_) | (refine callW_of p2 rfl (.inr rfl) ?_)
   refine AW_loop (fun k : Nat => ⟨[(1, aInts ds), (2, aInts ss), (10, aInts (locL ms ds ss)), (12, aInts p), (14, .c (.ref 1)), (15, I k)], [(1, .arr 3 1 (((origL ms ds ss p).take k ++ List.replicate (ds.length - k) 0).map fun n => [pI n]))], 2, 0⟩) (fun k => k ≤ ds.length) (fun k => ds.length - k) ⟨0, [], Nat.zero_le _, by simp [Wk, wkF, wkM, wkL, look_cons, renV, renA, renC, renB, rn, clV, clA, clAs, clB, notIn, findB, findB_setB, clA.go, List.map_replicate]⟩ ?_
   rintro k hk
   refine runW_sound ?_
   by_cases hlt0 : k < ds.length
   ·have hltd : k < ds.length := by have := G3.out; omega
    have hlt : k < ss.length := by have := G3.out; omega
    have hltl : k < (locL ms ds ss).length := by rw [locL_len]; exact hltd
    have hlen : ((origL ms ds ss p).take k).length = k := by rw [List.length_take, origL_len]; omega
    have hlen2 : ((origL ms ds ss p).take k ++ List.replicate (ds.length - k) 0).length = ds.length := by rw [List.length_append, hlen, List.length_replicate]; omega
    have hrow : (((origL ms ds ss p).take k ++ List.replicate (ds.length - k) 0).map fun n => [pI n])[k]? = some [pI 0] := by
     rw [List.getElem?_map, List.getElem?_append_right (by omega), hlen, Nat.sub_self, List.getElem?_replicate, if_pos (by omega)]
     rfl
    have hsetd : ∀ y, ((((origL ms ds ss p).take k ++ List.replicate (ds.length - k) 0).map fun n => [pI n]).set k [PC.val (.int .i64 y)]) = ((origL ms ds ss p).take k ++ y :: List.replicate (ds.length - (k + 1)) 0).map fun n => [pI n] := by
     intro y
     have e : ds.length - k = (ds.length - (k + 1)) + 1 := by omega
     rw [← List.map_set (f := fun n : Int => [pI n]) (a := y), List.set_append_right _ _ (by omega), hlen, Nat.sub_self, e, List.replicate_succ]
     rfl
    by_cases h0 : 0 ≤ ss[k]
    ·obtain ⟨hm, f1, f2, f3, f4, f5, f6⟩ := loc_facts H.out hltd hlt h0
     have hmp : ss[k].toNat < p.length := by rw [PL.out]; exact hm
     have hpv := hpin.2 _ hm
     have hpg : p[ss[k].toNat]?.getD 0 = p[ss[k].toNat] := by simp [hmp]
     have hmg : ms[ss[k].toNat]?.getD 0 = ms[ss[k].toNat] := by simp [hm]
     have hm16 := (mesh_get hmsz hm).2
     have hloc : (locL ms ds ss)[k] = ds[k] / ms[ss[k].toNat] := by simp [locL, f4]
     have hll : ((locL ms ds ss).map fun n => [pI n])[k]? = some [pI (ds[k] / ms[ss[k].toNat])] := by rw [map_get hltl, hloc]
     rw [hpg, hmg] at hpv
     have hpr : 0 ≤ p[ss[k].toNat] * (ds[k] / ms[ss[k].toNat]) ∧ p[ss[k].toNat] * (ds[k] / ms[ss[k].toNat]) ≤ 16 * 4096 := by
      refine ⟨Int.mul_nonneg hpv.1 f5, Int.mul_le_mul (by omega) f6 f5 (by decide)⟩
     have hw : IntKind.wrap .i64 (p[ss[k].toNat] * (ds[k] / ms[ss[k].toNat])) = p[ss[k].toNat] * (ds[k] / ms[ss[k].toNat]) := wrap_i64 (by omega)
     have ea : origAt ms ds ss p k = p[ss[k].toNat] * (ds[k] / ms[ss[k].toNat]) := by
      rw [origAt, f4]
      simp [hlt, h0, hmp]
     have EA := Lib.hid ea
     clear ea f4 hloc hlen
     repeat' first | simp (disch := omega) only [go_sem, ↓reduceIte, Nat.reduceEqDiff, reduceCtorEq, Int.reduceEq, map_get hlt, map_get hmp, hll, hrow, hsetd, hlen2, wrap_i64, hw] | ((with_reducible first | refine condD ?_ ?_ | refine condX ?_ ?_ | refine condW_intro ?_ ?_) <;> intro h <;> first | (exfalso; omega) | simp (disch := omega) only [go_sem, ↓reduceIte, Nat.reduceEqDiff, reduceCtorEq, Int.reduceEq, *, map_get hlt, map_get hmp, hll, hrow, hsetd, hlen2, wrap_i64, hw] | skip)
     refine ⟨k + 1, [], hlt0, by omega, ?_⟩
     rw [origL_take hltd, EA.out, List.append_assoc]
     simp [Wk, wkF, wkM, wkL, look_cons, renV, renA, renC, renB, rn, clV, clA, clAs, clB, notIn, findB, findB_setB, clA.go]
    ·have e : (origL ms ds ss p).take (k + 1) ++ List.replicate (ds.length - (k + 1)) 0 = (origL ms ds ss p).take k ++ List.replicate (ds.length - k) 0 := by
      have e1 : ds.length - k = (ds.length - (k + 1)) + 1 := by omega
      rw [origL_take hltd, e1, List.replicate_succ, List.append_assoc, origAt]
      simp [hlt, h0]
     have E := Lib.hid e
     clear e hlen hlen2
     repeat' first | simp (disch := omega) only [go_sem, ↓reduceIte, Nat.reduceEqDiff, reduceCtorEq, Int.reduceEq, map_get hlt, wrap_i64] | ((with_reducible first | refine condD ?_ ?_ | refine condX ?_ ?_ | refine condW_intro ?_ ?_) <;> intro h <;> first | (exfalso; omega) | simp (disch := omega) only [go_sem, ↓reduceIte, Nat.reduceEqDiff, reduceCtorEq, Int.reduceEq, *, map_get hlt, wrap_i64] | skip)
     refine ⟨k + 1, [], hlt0, by omega, ?_⟩
     rw [E.out]
     simp [Wk, wkF, wkM, wkL, look_cons, renV, renA, renC, renB, rn, clV, clA, clAs, clB, notIn, findB, findB_setB, clA.go]
   ·have e : (origL ms ds ss p).take k ++ List.replicate (ds.length - k) 0 = origL ms ds ss p := by
     rw [List.take_of_length_le (by rw [origL_len]; have := G3.out; omega), show ds.length - k = 0 by have := G3.out; omega]
     simp
    rw [e]
    repeat' first | simp (disch := omega) only [go_sem, ↓reduceIte, Nat.reduceEqDiff, reduceCtorEq, Int.reduceEq] | ((with_reducible first | refine condD ?_ ?_ | refine condX ?_ ?_ | refine condW_intro ?_ ?_) <;> intro h <;> first | (exfalso; omega) | simp (disch := omega) only [go_sem, ↓reduceIte, Nat.reduceEqDiff, reduceCtorEq, Int.reduceEq, *] | skip)
  ·rw [coords_out hin] at p2 ⊢
   rw [if_neg (by decide)]
   repeat' first | simp (disch := omega) only [go_sem, ↓reduceIte, Nat.reduceEqDiff, reduceCtorEq, Int.reduceEq] | ((with_reducible first | refine condD ?_ ?_ | refine condX ?_ ?_ | refine condW_intro ?_ ?_) <;> intro h <;> first | (exfalso; omega) | simp (disch := omega) only [go_sem, ↓reduceIte, Nat.reduceEqDiff, reduceCtorEq, Int.reduceEq, *] | skip) | (refine callW_of p1 rfl (.inr rfl) ?_) | (refine callW_of p2 rfl (.inr rfl) ?_)
   all_goals rfl
 ·rw [lshape, if_neg h] at p1
  rw [origin, if_pos h]
  repeat' first | simp (disch := omega) only [go_sem, ↓reduceIte, Nat.reduceEqDiff, reduceCtorEq, Int.reduceEq, h] | ((with_reducible first | refine condD ?_ ?_ | refine condX ?_ ?_ | refine condW_intro ?_ ?_) <;> intro h <;> first | (exfalso; omega) | simp (disch := omega) only [go_sem, ↓reduceIte, Nat.reduceEqDiff, reduceCtorEq, Int.reduceEq, *, h] | skip) | (refine callW_of p1 rfl (.inr rfl) ?_)
  all_goals rfl

end Go.Proofs.Ytcnbccmmhcoanaa
