/- Walks by the abstract machine: the shapes of blocks. -/
import Derived.Test.YtcnbccmmhcoanaaV52c
import Derived.Test.YtcnbccmmhcoanaaVClone
set_option linter.unusedVariables false
set_option linter.unusedSimpArgs false
set_option maxRecDepth 20000
namespace Go.Proofs.Ytcnbccmmhcoanaa
open Go.Abs Go.RowKit

def locAt (ms ds ss : List Int) (i : Nat) : Int := if 0 ≤ ss[i]?.getD 0 then ds[i]?.getD 0 / ms[(ss[i]?.getD 0).toNat]?.getD 0 else ds[i]?.getD 0
def locL (ms ds ss : List Int) : List Int := (List.range ds.length).map (locAt ms ds ss)
theorem locL_len (ms ds ss : List Int) : (locL ms ds ss).length = ds.length := by simp [locL]
theorem locL_take {ms ds ss : List Int} {k : Nat} (hk : k < ds.length) : (locL ms ds ss).take (k + 1) = (locL ms ds ss).take k ++ [locAt ms ds ss k] := by
 rw [List.take_succ_eq_append_getElem (by rw [locL_len]; exact hk)]
 simp [locL]
noncomputable def lshape (ms ds ss : List Int) : List Int × Int := if vspc ms ds ss = 0 then (locL ms ds ss, 0) else ([], vspc ms ds ss)
theorem vspc_ok {ms ds ss : List Int} (h : vspc ms ds ss = 0) : MeshOk ms ∧ vld ds = 0 ∧ ss.length = ds.length ∧ entOk ms.length ss := by
 unfold vspc at h
 split at h
 ·cases h
 ·rename_i h1
  split at h
  ·rename_i h2; exact absurd h h2
  ·rename_i h2
   split at h
   ·cases h
   ·rename_i h3
    exact ⟨Decidable.not_not.1 h1, Decidable.not_not.1 h2, Decidable.not_not.1 h3⟩
/-- What a block's extent needs. -/
theorem loc_facts {ms ds ss : List Int} (h : vspc ms ds ss = 0) {k : Nat} (hk : k < ds.length) (hk' : k < ss.length) (h0 : 0 ≤ ss[k]) : ∃ hm : ss[k].toNat < ms.length, 1 ≤ ds[k] ∧ ds[k] ≤ 4096 ∧ 1 ≤ ms[ss[k].toNat] ∧ locAt ms ds ss k = ds[k] / ms[ss[k].toNat] ∧ 0 ≤ ds[k] / ms[ss[k].toNat] ∧ ds[k] / ms[ss[k].toNat] ≤ 4096 := by
 obtain ⟨g1, g2, g3, g4⟩ := vspc_ok h
 have he := g4 k hk' hk'
 have hm : ss[k].toNat < ms.length := by omega
 have hgood := good_of_vld g2
 have hd := hgood.pos _ (List.getElem_mem hk)
 have hd2 : ds[k] ≤ 4096 := by
  have e1 := prod_take_drop ds k
  rw [List.drop_eq_getElem_cons hk, prod] at e1
  have p1 := prod_pos (ds.take k) fun x hx => hgood.pos x (List.mem_of_mem_take hx)
  have p2 := prod_pos (ds.drop (k + 1)) fun x hx => hgood.pos x (List.mem_of_mem_drop hx)
  have l1 := Int.mul_le_mul (Int.le_refl ds[k]) p2 (by omega) (by omega)
  have l2 := Int.mul_le_mul p1 (Int.le_refl (ds[k] * prod (ds.drop (k + 1)))) (by omega) (by omega)
  have := hgood.le
  omega
 have hmg := mesh_get g1 hm
 have hq0 : 0 ≤ ds[k] / ms[ss[k].toNat] := Int.ediv_nonneg (by omega) (by omega)
 have hq1 : ds[k] / ms[ss[k].toNat] ≤ ds[k] := Int.ediv_le_self _ (by omega)
 refine ⟨hm, hd, hd2, hmg.1, ?_, hq0, by omega⟩
 rw [locAt]
 simp [hk', hk, hm, h0]

theorem shard_LocalShape_abs (ms ds ss : List Int) : PCalls Try.prog n_shard_LocalShape [aMesh ms, aInts ds, aInts ss] (.tup [aInts (lshape ms ds ss).1, I (lshape ms ds ss).2]) := by
 refine PCalls.of is_shard_LocalShape (by simp) fun hb => runW_sound ?_
 have hx : ss.length ≤ 9223372036854775807 := by simpa [bndVs, bndV, bndA] using hb.2.2.1
 have p1 := shard_Validate_abs ms ds ss
 simp only [c_shard_LocalShape]
 by_cases h : vspc ms ds ss = 0
 ·rw [lshape, if_pos h]
  rw [h] at p1
  obtain ⟨g1, g2, g3, g4⟩ := vspc_ok h
  have hd6 := (good_of_vld g2).len
  have G3 := Lib.hid g3
  have H := Lib.hid h
  clear g3 g4 g2 g1 h
  repeat' first | simp (disch := omega) only [go_sem, ↓reduceIte, Nat.reduceEqDiff, reduceCtorEq, Int.reduceEq] | ((with_reducible first | refine condD ?_ ?_ | refine condX ?_ ?_ | refine condW_intro ?_ ?_) <;> intro h <;> first | (exfalso; omega) | simp (disch := omega) only [go_sem, ↓reduceIte, Nat.reduceEqDiff, reduceCtorEq, Int.reduceEq, *] | skip) | (refine callW_of p1 rfl (.inl rfl) ?_) | (refine callW_i (Clone_own ds _ _ (by omega)) ?_)
  refine AW_loop (fun k : Nat => ⟨[(3, .c (.ptr 0 0)), (9, .c (.ref 1)), (21, aInts ss), (22, I ss.length), (23, I k)], [(0, .var [.pure (pInts ms)]), (1, .arr 3 1 (((locL ms ds ss).take k ++ ds.drop k).map fun n => [pI n]))], 2, 0⟩) (fun k => k ≤ ss.length) (fun k => ss.length - k) ⟨0, [], Nat.zero_le _, by simp [Wk, wkF, wkM, wkL, look_cons, renV, renA, renC, renB, rn, clV, clA, clAs, clB, notIn, findB, findB_setB, clA.go]⟩ ?_
  rintro k hk
  refine runW_sound ?_
  by_cases hlt : k < ss.length
  ·have hltd : k < ds.length := by have := G3.out; omega
   have hlen : ((locL ms ds ss).take k).length = k := by rw [List.length_take, locL_len]; omega
   have hlen2 : ((locL ms ds ss).take k ++ ds.drop k).length = ds.length := by rw [List.length_append, hlen, List.length_drop]; omega
   have hrow : (((locL ms ds ss).take k ++ ds.drop k).map fun n => [pI n])[k]? = some [pI ds[k]] := by
    rw [List.getElem?_map, List.getElem?_append_right (by omega), hlen, Nat.sub_self, List.getElem?_drop]
    simp [hltd]
   have hsetd : ∀ y, ((((locL ms ds ss).take k ++ ds.drop k).map fun n => [pI n]).set k [PC.val (.int .i64 y)]) = ((locL ms ds ss).take k ++ y :: ds.drop (k + 1)).map fun n => [pI n] := by
    intro y
    rw [← List.map_set (f := fun n : Int => [pI n]) (a := y), List.set_append_right _ _ (by omega), hlen, Nat.sub_self, List.drop_eq_getElem_cons hltd]
    rfl
   by_cases h0 : 0 ≤ ss[k]
   ·obtain ⟨hm, f1, f2, f3, f4, f5, f6⟩ := loc_facts H.out hltd hlt h0
    have et : Int.tdiv ds[k] ms[ss[k].toNat] = ds[k] / ms[ss[k].toNat] := Int.tdiv_eq_ediv_of_nonneg (by omega)
    have hne : ms[ss[k].toNat] ≠ 0 := by omega
    have F4 := Lib.hid f4
    have L2 := Lib.hid hlen
    clear f4 hlen
    repeat' first | simp (disch := omega) only [go_sem, ↓reduceIte, Nat.reduceEqDiff, reduceCtorEq, Int.reduceEq, map_get hlt, map_get hm, hrow, hsetd, hlen2, wrap_i64, et, hne, ne_eq] | ((with_reducible first | refine condD ?_ ?_ | refine condX ?_ ?_ | refine condW_intro ?_ ?_) <;> intro h <;> first | (exfalso; omega) | simp (disch := omega) only [go_sem, ↓reduceIte, Nat.reduceEqDiff, reduceCtorEq, Int.reduceEq, *, map_get hlt, map_get hm, hrow, hsetd, hlen2, wrap_i64, et, hne, ne_eq] | skip)
    refine ⟨k + 1, [], hlt, by omega, ?_⟩
    have e : (locL ms ds ss).take (k + 1) ++ ds.drop (k + 1) = (locL ms ds ss).take k ++ (ds[k] / ms[ss[k].toNat]) :: ds.drop (k + 1) := by
     rw [locL_take hltd, F4.out, List.append_assoc]; rfl
    rw [e]
    simp [Wk, wkF, wkM, wkL, look_cons, renV, renA, renC, renB, rn, clV, clA, clAs, clB, notIn, findB, findB_setB, clA.go]
   ·have e : (locL ms ds ss).take (k + 1) ++ ds.drop (k + 1) = (locL ms ds ss).take k ++ ds.drop k := by
     rw [locL_take hltd, List.drop_eq_getElem_cons hltd, List.append_assoc]
     congr 1
     rw [locAt]
     simp [hlt, hltd, h0]
    have E := Lib.hid e
    clear e hlen hlen2
    repeat' first | simp (disch := omega) only [go_sem, ↓reduceIte, Nat.reduceEqDiff, reduceCtorEq, Int.reduceEq, map_get hlt, wrap_i64] | ((with_reducible first | refine condD ?_ ?_ | refine condX ?_ ?_ | refine condW_intro ?_ ?_) <;> intro h <;> first | (exfalso; omega) | simp (disch := omega) only [go_sem, ↓reduceIte, Nat.reduceEqDiff, reduceCtorEq, Int.reduceEq, *, map_get hlt, wrap_i64] | skip)
    refine ⟨k + 1, [], hlt, by omega, ?_⟩
    rw [E.out]
    simp [Wk, wkF, wkM, wkL, look_cons, renV, renA, renC, renB, rn, clV, clA, clAs, clB, notIn, findB, findB_setB, clA.go]
  ·have e : (locL ms ds ss).take k ++ ds.drop k = locL ms ds ss := by
    rw [List.take_of_length_le (by rw [locL_len]; have := G3.out; omega), List.drop_eq_nil_of_le (by have := G3.out; omega), List.append_nil]
   rw [e]
   repeat' first | simp (disch := omega) only [go_sem, ↓reduceIte, Nat.reduceEqDiff, reduceCtorEq, Int.reduceEq] | ((with_reducible first | refine condD ?_ ?_ | refine condX ?_ ?_ | refine condW_intro ?_ ?_) <;> intro h <;> first | (exfalso; omega) | simp (disch := omega) only [go_sem, ↓reduceIte, Nat.reduceEqDiff, reduceCtorEq, Int.reduceEq, *] | skip)
 ·rw [lshape, if_neg h]
  repeat' first | simp (disch := omega) only [go_sem, ↓reduceIte, Nat.reduceEqDiff, reduceCtorEq, Int.reduceEq, h] | ((with_reducible first | refine condD ?_ ?_ | refine condX ?_ ?_ | refine condW_intro ?_ ?_) <;> intro h <;> first | (exfalso; omega) | simp (disch := omega) only [go_sem, ↓reduceIte, Nat.reduceEqDiff, reduceCtorEq, Int.reduceEq, *, h] | skip) | (refine callW_of p1 rfl (.inl rfl) ?_)
  all_goals rfl

theorem ref52_LocalShape_abs (ms ds ss : List Int) : PCalls Try.prog n_ref52_LocalShape [aMesh ms, aInts ds, aInts ss] (.tup [aInts (lshape ms ds ss).1, I (lshape ms ds ss).2]) := by
 refine PCalls.of is_ref52_LocalShape (by simp) fun hb => runW_sound ?_
 have hx : ss.length ≤ 9223372036854775807 := by simpa [bndVs, bndV, bndA] using hb.2.2.1
 have p1 := ref52_Validate_abs ms ds ss
 simp only [c_ref52_LocalShape]
 by_cases h : vspc ms ds ss = 0
 ·rw [lshape, if_pos h]
  rw [h] at p1
  obtain ⟨g1, g2, g3, g4⟩ := vspc_ok h
  have hd6 := (good_of_vld g2).len
  have G3 := Lib.hid g3
  have H := Lib.hid h
  clear g3 g4 g2 g1 h
  repeat' first | simp (disch := omega) only [go_sem, ↓reduceIte, Nat.reduceEqDiff, reduceCtorEq, Int.reduceEq] | ((with_reducible first | refine condD ?_ ?_ | refine condX ?_ ?_ | refine condW_intro ?_ ?_) <;> intro h <;> first | (exfalso; omega) | simp (disch := omega) only [go_sem, ↓reduceIte, Nat.reduceEqDiff, reduceCtorEq, Int.reduceEq, *] | skip) | (refine callW_of p1 rfl (.inl rfl) ?_)
  refine AW_adopt 9 3 1 rfl (by decide) ?_
  refine AW_loop (fun k : Nat => ⟨[(1, aInts ds), (2, aInts ss), (3, .c (.ptr 0 0)), (9, .c (.ref 1)), (10, I k)], [(0, .var [.pure (pInts ms)]), (1, .arr 3 1 (((locL ms ds ss).take k).map fun n => [pI n]))], 2, 0⟩) (fun k => k ≤ ds.length) (fun k => ds.length - k) ⟨0, [], Nat.zero_le _, by simp [Wk, wkF, wkM, wkL, look_cons, renV, renA, renC, renB, rn, clV, clA, clAs, clB, notIn, findB, findB_setB, clA.go]⟩ ?_
  rintro k hk
  refine runW_sound ?_
  by_cases hltd : k < ds.length
  ·have hlt : k < ss.length := by have := G3.out; omega
   have hlen : (((locL ms ds ss).take k).map fun n => [pI n]).length = k := by rw [List.length_map, List.length_take, locL_len]; omega
   by_cases h0 : 0 ≤ ss[k]
   ·obtain ⟨hm, f1, f2, f3, f4, f5, f6⟩ := loc_facts H.out hltd hlt h0
    have et : Int.tdiv ds[k] ms[ss[k].toNat] = ds[k] / ms[ss[k].toNat] := Int.tdiv_eq_ediv_of_nonneg (by omega)
    have hne : ms[ss[k].toNat] ≠ 0 := by omega
    have F4 := Lib.hid f4
    have L := Lib.hid hlen
    clear f4 hlen
    repeat' first | simp (disch := omega) only [go_sem, ↓reduceIte, Nat.reduceEqDiff, reduceCtorEq, Int.reduceEq, map_get hlt, map_get hltd, map_get hm, wrap_i64, et, hne, ne_eq] | ((with_reducible first | refine condD ?_ ?_ | refine condX ?_ ?_ | refine condW_intro ?_ ?_) <;> intro h <;> first | (exfalso; omega) | simp (disch := omega) only [go_sem, ↓reduceIte, Nat.reduceEqDiff, reduceCtorEq, Int.reduceEq, *, map_get hlt, map_get hltd, map_get hm, wrap_i64, et, hne, ne_eq] | skip) | (refine app_own rfl (by intro h; cases h) (rowsOk_one rfl) (by rw [L.out]; simp; omega) (by rw [L.out]; simp; omega) ?_)
    refine ⟨k + 1, [(1, 2)], hltd, by omega, ?_⟩
    rw [locL_take hltd, F4.out, List.map_append]
    simp [Wk, wkF, wkM, wkL, look_cons, renV, renA, renC, renB, rn, clV, clA, clAs, clB, notIn, findB, findB_setB, clA.go]
   ·have e : locAt ms ds ss k = ds[k] := by
     rw [locAt]
     simp [hlt, hltd, h0]
    have E := Lib.hid e
    have L := Lib.hid hlen
    clear e hlen
    repeat' first | simp (disch := omega) only [go_sem, ↓reduceIte, Nat.reduceEqDiff, reduceCtorEq, Int.reduceEq, map_get hlt, map_get hltd, wrap_i64] | ((with_reducible first | refine condD ?_ ?_ | refine condX ?_ ?_ | refine condW_intro ?_ ?_) <;> intro h <;> first | (exfalso; omega) | simp (disch := omega) only [go_sem, ↓reduceIte, Nat.reduceEqDiff, reduceCtorEq, Int.reduceEq, *, map_get hlt, map_get hltd, wrap_i64] | skip) | (refine app_own rfl (by intro h; cases h) (rowsOk_one rfl) (by rw [L.out]; simp; omega) (by rw [L.out]; simp; omega) ?_)
    refine ⟨k + 1, [(1, 2)], hltd, by omega, ?_⟩
    rw [locL_take hltd, E.out, List.map_append]
    simp [Wk, wkF, wkM, wkL, look_cons, renV, renA, renC, renB, rn, clV, clA, clAs, clB, notIn, findB, findB_setB, clA.go]
  ·have e : (locL ms ds ss).take k = locL ms ds ss := List.take_of_length_le (by rw [locL_len]; omega)
   rw [e]
   repeat' first | simp (disch := omega) only [go_sem, ↓reduceIte, Nat.reduceEqDiff, reduceCtorEq, Int.reduceEq] | ((with_reducible first | refine condD ?_ ?_ | refine condX ?_ ?_ | refine condW_intro ?_ ?_) <;> intro h <;> first | (exfalso; omega) | simp (disch := omega) only [go_sem, ↓reduceIte, Nat.reduceEqDiff, reduceCtorEq, Int.reduceEq, *] | skip)
 ·rw [lshape, if_neg h]
  repeat' first | simp (disch := omega) only [go_sem, ↓reduceIte, Nat.reduceEqDiff, reduceCtorEq, Int.reduceEq, h] | ((with_reducible first | refine condD ?_ ?_ | refine condX ?_ ?_ | refine condW_intro ?_ ?_) <;> intro h <;> first | (exfalso; omega) | simp (disch := omega) only [go_sem, ↓reduceIte, Nat.reduceEqDiff, reduceCtorEq, Int.reduceEq, *, h] | skip) | (refine callW_of p1 rfl (.inl rfl) ?_)
  all_goals rfl
end Go.Proofs.Ytcnbccmmhcoanaa
