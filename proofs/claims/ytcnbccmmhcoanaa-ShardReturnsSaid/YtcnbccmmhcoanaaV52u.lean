/- The law ShardReturns by the abstract machine. -/
import Derived.Test.YtcnbccmmhcoanaaPlain52r
import Derived.Test.YtcnbccmmhcoanaaV52t
set_option linter.unusedVariables false
set_option linter.unusedSimpArgs false
set_option maxRecDepth 20000
namespace Go.Proofs.Ytcnbccmmhcoanaa
open Go.Abs Go.RowKit

theorem scat_in {ms ss : List Int} {x : Tn} (h0 : tnErr x = 0) (h : vspc ms x.2.1 ss = 0) (hv : ∀ a ∈ x.2.2, frIn a) : ∀ y ∈ scatL ms x ss, ∀ a ∈ y.2.2, frIn a := by
 intro y hy a ha
 obtain ⟨d, rfl⟩ := scatL_mem hy
 obtain ⟨v1, v2, v3, v4⟩ := tnErr_ok h0
 obtain ⟨k, hk, rfl⟩ := List.mem_map.1 ha
 have hb := (blk_of h d).bd (k : Int)
 have hlt : (blkAt x.2.1 (locL ms x.2.1 ss) (origL ms x.2.1 ss (pointOf ms d)) (k : Int)).toNat < x.2.2.length := by omega
 rw [List.getElem?_eq_getElem hlt, Option.getD_some]
 exact hv _ (List.getElem_mem hlt)
set_option maxHeartbeats 4000000 in
theorem ShardReturns_abs (ps0 ps1 : List PC) (h0 : OkPs [.slice [.int .i64], .slice [.int .i64]] ps0) (h1 : OkPs [.int .i64, .int .i64, .int .i64, .int .i64, .int .i64, .slice [.int .i64], .slice [.int .i64, .int .i64]] ps1) : PCalls Try.prog 5 [argV true ps0, argV true ps1] (Go.Abs.B true) := by
 obtain ⟨_, _, rfl, k0, k1⟩ := okCons h0
 obtain ⟨_, rfl, k2⟩ := okOne k1
 obtain ⟨ms, rfl, _, _⟩ := okInts k0
 obtain ⟨ss, rfl, _, _⟩ := okInts k2
 obtain ⟨x, rfl, hv⟩ := okTn h1
 clear h0 h1 k0 k1 k2
 show PCalls _ n_law52_ShardReturns [.agg [.pure (pInts ms), .pure (pInts ss)], aTn x] _
 refine PCalls.of is_law52_ShardReturns (by simp) fun hb => runW_sound ?_
 clear hb
 have q0 := ref52_Small_abs ms x.2.1 ss
 have qv := ref12_Validate_abs hv
 have qs := ref52_Validate_abs ms x.2.1 ss
 simp only [c_law52_ShardReturns]
 by_cases hT : tnErr x = 0
 ·rw [hT] at qv
  by_cases hV : vspc ms x.2.1 ss = 0
  ·rw [hV] at qs
   obtain ⟨g1, g2, g3, g4⟩ := vspc_ok hV
   obtain ⟨v1, v2, v3, v4⟩ := tnErr_ok hT
   have hmp := mesh_prod g1
   have q1 := shard_Scatter_abs (ms := ms) (ss := ss) hv
   have hsc : scat ms x ss = (scatL ms x ss, 0) := by rw [scat, if_neg (not_not_intro hT), if_neg (not_not_intro hV)]
   rw [hsc] at q1
   have q2 := shard_Gather_abs (ms := ms) (ds := x.2.1) (ss := ss) (scat_in hT hV hv)
   rw [gath_scat hT hV] at q2
   have q3 := base_Tensor_same x
   have q4 := base_Tensors_same (scatL ms x ss)
   have q5 := ref51_Devices_abs ms
   rw [devices_yes g1] at q5
   have q6 := shard_Replicas_abs ms ss
   rw [reps, if_pos ⟨g1, g4⟩] at q6
   have hrep := repL_64 (ss := ss) g1 (Nat.le_refl _)
   have hadd := sizes_add hV
   have hll := scatL_len ms x ss
   have hgl := (good_loc hV).take_le (locL ms x.2.1 ss).length
   rw [List.take_of_length_le (Nat.le_refl _)] at hgl
   have hgd := (good_of_vld g2).take_le x.2.1.length
   rw [List.take_of_length_le (Nat.le_refl _)] at hgd
   have hblk : ∀ (k : Nat) (hk : k < (scatL ms x ss).length), ((scatL ms x ss)[k].2.2.length : Int) = prod (locL ms x.2.1 ss) := fun k hk => by
    obtain ⟨d, hd⟩ := scatL_mem (List.getElem_mem hk)
    rw [hd]
    show ((block _ _ _ _).length : Int) = _
    rw [block_len]
    show ((prod (locL ms x.2.1 ss)).toNat : Int) = prod (locL ms x.2.1 ss)
    omega
   have HBLK := Lib.hid hblk
   generalize prod (locL ms x.2.1 ss) = P at *
   generalize scatL ms x ss = L at *
   generalize repL ms ss ms.length = Rp at *
   have hLI : (L.length : Int) = prod ms := by omega
   rw [← hLI, ← v3] at hadd
   rw [← hLI] at q5
   have HADD := Lib.hid hadd
   have hL16 : L.length ≤ 16 := by omega
   have hT4 : (x.2.2.length : Int) ≤ 4096 := by omega
   have hmul : 0 ≤ (x.2.2.length : Int) * Rp ∧ (x.2.2.length : Int) * Rp ≤ 4096 * 4096 := ⟨Int.mul_nonneg (by omega) (by omega), Int.mul_le_mul hT4 hrep.2 (by omega) (by decide)⟩
   have hw : IntKind.wrap .i64 ((x.2.2.length : Int) * Rp) = (x.2.2.length : Int) * Rp := wrap_i64 (by omega)
   have hPb : ∀ k : Nat, k ≤ 16 → 0 ≤ (k : Int) * P ∧ (k : Int) * P ≤ 16 * 4096 := fun k hk => ⟨Int.mul_nonneg (by omega) (by omega), Int.mul_le_mul (by omega) hgl.2 (by omega) (by decide)⟩
   have HPB := Lib.hid hPb
   obtain ⟨t, ds, T⟩ := x
   simp only at *
   clear hT hV g1 g2 g3 g4 v1 v2 v3 v4 hsc hadd hll hblk hLI hmul hPb hv hmp
   repeat' first | simp (disch := omega) only [go_sem, ↓reduceIte, Nat.reduceEqDiff, reduceCtorEq, Int.reduceEq] | ((with_reducible first | refine condD ?_ ?_ | refine condX ?_ ?_ | refine condW_intro ?_ ?_) <;> intro h <;> first | (exfalso; omega) | simp (disch := omega) only [go_sem, ↓reduceIte, Nat.reduceEqDiff, reduceCtorEq, Int.reduceEq, *] | skip) | (refine callW_of q0 rfl (.inl rfl) ?_) | (refine callW_of qv rfl (.inl rfl) ?_) | (refine callW_of qs rfl (.inl rfl) ?_) | (refine callW_of law52_alive_abs rfl (.inl rfl) ?_) | (refine callW_of q1 rfl (.inr rfl) ?_) | (refine callW_of q5 rfl (.inl rfl) ?_)
   refine AW_loop (fun k : Nat => ⟨[(2, .c (.ptr 0 0)), (3, .c (.ptr 1 0)), (5, aTns L), (7, I ((k : Int) * P)), (8, I k)], [(1, tnV (t, ds, T)), (0, .var [.pure (pInts ms), .pure (pInts ss)])], 2, 0⟩) (fun k => k ≤ L.length) (fun k => L.length - k) ⟨0, [], Nat.zero_le _, by simp [Wk, wkF, wkM, wkL, look_cons, renV, renA, renC, renB, rn, clV, clA, clAs, clB, notIn, findB, findB_setB, clA.go, Int.zero_mul]⟩ ?_
   rintro k hk
   refine runW_sound ?_
   by_cases hlt : k < L.length
   ·have hg := map_get (f := tnP) hlt
    have hbl := HBLK.out k hlt
    have hb1 := HPB.out k (by omega)
    have hb2 := HPB.out (k + 1) (by omega)
    have e1 : ((k + 1 : Nat) : Int) * P = (k : Int) * P + P := by rw [Int.natCast_add, Int.add_mul]; simp
    rw [e1] at hb2
    have hw2 : IntKind.wrap .i64 ((k : Int) * P + P) = (k : Int) * P + P := wrap_i64 (by omega)
    have E1 := Lib.hid e1
    generalize L[k] = z at *
    obtain ⟨zt, zd, zl⟩ := z
    simp only at hbl
    clear e1 hb1 hb2
    repeat' first | simp (disch := omega) only [go_sem, ↓reduceIte, Nat.reduceEqDiff, reduceCtorEq, Int.reduceEq, hg, hbl, wrap_i64, hw2] | ((with_reducible first | refine condD ?_ ?_ | refine condX ?_ ?_ | refine condW_intro ?_ ?_) <;> intro h <;> first | (exfalso; omega) | simp (disch := omega) only [go_sem, ↓reduceIte, Nat.reduceEqDiff, reduceCtorEq, Int.reduceEq, *, hg, hbl, wrap_i64, hw2] | skip)
    refine ⟨k + 1, [], hlt, by omega, ?_⟩
    rw [E1.out]
    simp [Wk, wkF, wkM, wkL, look_cons, renV, renA, renC, renB, rn, clV, clA, clAs, clB, notIn, findB, findB_setB, clA.go]
   ·have hke : k = L.length := by omega
    have hkI : ¬ (k : Int) < L.length := by omega
    have hkP : (k : Int) * P = (T.length : Int) * Rp := by rw [hke]; exact HADD.out
    rw [hkP]
    clear hkP hke
    repeat' first | simp (disch := omega) only [go_sem, ↓reduceIte, Nat.reduceEqDiff, reduceCtorEq, Int.reduceEq, hw] | ((with_reducible first | refine condD ?_ ?_ | refine condX ?_ ?_ | refine condW_intro ?_ ?_) <;> intro h <;> first | (exfalso; omega) | simp (disch := omega) only [go_sem, ↓reduceIte, Nat.reduceEqDiff, reduceCtorEq, Int.reduceEq, *, hw] | skip) | (refine callW_of q2 rfl (.inr rfl) ?_) | (refine callW_of q3 rfl (.inl rfl) ?_) | (refine callW_of q6 rfl (.inl rfl) ?_) | (refine callW_of q1 rfl (.inr rfl) ?_) | (refine callW_of q4 rfl (.inl rfl) ?_) | (refine callW_of law52_alive_abs rfl (.inl rfl) ?_)
  ·repeat' first | simp (disch := omega) only [go_sem, ↓reduceIte, Nat.reduceEqDiff, reduceCtorEq, Int.reduceEq, hV] | ((with_reducible first | refine condD ?_ ?_ | refine condX ?_ ?_ | refine condW_intro ?_ ?_) <;> intro h <;> first | (exfalso; omega) | simp (disch := omega) only [go_sem, ↓reduceIte, Nat.reduceEqDiff, reduceCtorEq, Int.reduceEq, *, hV] | skip) | (refine callW_of q0 rfl (.inl rfl) ?_) | (refine callW_of qv rfl (.inl rfl) ?_) | (refine callW_of qs rfl (.inl rfl) ?_) | (refine callW_of law52_alive_abs rfl (.inl rfl) ?_)
 ·repeat' first | simp (disch := omega) only [go_sem, ↓reduceIte, Nat.reduceEqDiff, reduceCtorEq, Int.reduceEq, hT] | ((with_reducible first | refine condD ?_ ?_ | refine condX ?_ ?_ | refine condW_intro ?_ ?_) <;> intro h <;> first | (exfalso; omega) | simp (disch := omega) only [go_sem, ↓reduceIte, Nat.reduceEqDiff, reduceCtorEq, Int.reduceEq, *, hT] | skip) | (refine callW_of q0 rfl (.inl rfl) ?_) | (refine callW_of qv rfl (.inl rfl) ?_) | (refine callW_of qs rfl (.inl rfl) ?_) | (refine callW_of law52_alive_abs rfl (.inl rfl) ?_)
end Go.Proofs.Ytcnbccmmhcoanaa
