/- Walks by the abstract machine: specs. -/
import Derived.Test.YtcnbccmmhcoanaaV52b
set_option linter.unusedVariables false
set_option linter.unusedSimpArgs false
set_option maxRecDepth 20000
namespace Go.Proofs.Ytcnbccmmhcoanaa
open Go.Abs Go.RowKit

/-- Entry i of a spec is right. -/
def entAt (n : Nat) (ss : List Int) (i : Nat) : Prop := ∀ h : i < ss.length, -1 ≤ ss[i] ∧ ss[i] < n ∧ (0 ≤ ss[i] → ¬ ss[i] ∈ ss.take i)
def entOk (n : Nat) (ss : List Int) : Prop := upTo (entAt n ss) ss.length
noncomputable instance (n : Nat) (ss : List Int) : Decidable (entOk n ss) := Classical.propDecidable _
def fitAt (ms ds ss : List Int) (i : Nat) : Prop := ∀ h : i < ss.length, 0 ≤ ss[i] → ds[i]?.getD 0 % ms[ss[i].toNat]?.getD 0 = 0
def fitOk (ms ds ss : List Int) : Prop := upTo (fitAt ms ds ss) ss.length
noncomputable instance (ms ds ss : List Int) : Decidable (fitOk ms ds ss) := Classical.propDecidable _
/-- What Validate answers. -/
noncomputable def vspc (ms ds ss : List Int) : Int :=
 if ¬ MeshOk ms then 23 else if vld ds ≠ 0 then vld ds else if ¬ (ss.length = ds.length ∧ entOk ms.length ss) then 24 else if fitOk ms ds ss then 0 else 15

theorem shard_entries_abs (ms ss : List Int) : PCalls Try.prog n_shard_entries [aMesh ms, aInts ss] (Go.Abs.B (decide (entOk ms.length ss))) := by
 refine PCalls.of is_shard_entries (by simp) fun hb => runW_sound ?_
 have hl := bnd_mesh hb.1
 have hx : ss.length ≤ 9223372036854775807 := by simpa [bndVs, bndV, bndA] using hb.2.1
 simp only [c_shard_entries]
 repeat' first | simp (disch := omega) only [go_sem, ↓reduceIte, Nat.reduceEqDiff, reduceCtorEq, Int.reduceEq] | ((with_reducible first | refine condD ?_ ?_ | refine condX ?_ ?_ | refine condW_intro ?_ ?_) <;> intro h <;> first | (exfalso; omega) | simp (disch := omega) only [go_sem, ↓reduceIte, Nat.reduceEqDiff, reduceCtorEq, Int.reduceEq, *] | skip)
 refine AW_loop (fun k : Nat => ⟨[(1, aInts ss), (2, .c (.ptr 0 0)), (7, aInts ss), (8, I ss.length), (9, I k)], [(0, .var [.pure (pInts ms)])], 1, 0⟩) (fun k => k ≤ ss.length ∧ upTo (entAt ms.length ss) k) (fun k => ss.length - k) ⟨0, [], ⟨by omega, .zero⟩, by simp [Wk, wkF, wkM, wkL, look_cons, renV, renA, renC, renB, rn, clV, clA, clAs, clB, notIn, findB, findB_setB, clA.go]⟩ ?_
 rintro k ⟨hk, hall⟩
 refine runW_sound ?_
 by_cases hlt : k < ss.length
 ·have hok : rowsOk 1 (ss.map fun n => [pI n]) := rowsOk_map fun _ => rfl
  have ht : (ss.map fun n => [pI n]).take k = (ss.take k).map fun n => [pI n] := (List.map_take).symm
  have cn : PCalls Try.prog n_slices_Contains_api_Spec_int [aInts (ss.take k), I ss[k]] _ := slices_Contains_abs (ss.take k) ss[k]
  by_cases hm : ss[k] ∈ ss.take k
  ·rw [decide_eq_true hm] at cn
   repeat' first | simp (disch := omega) only [go_sem, ↓reduceIte, Nat.reduceEqDiff, reduceCtorEq, Int.reduceEq, map_get hlt, wrap_i64, hok, ht, Option.getD_none, Option.getD_some, Option.isSome_none, false_and, Int.toNat_zero] | ((with_reducible first | refine condD ?_ ?_ | refine condX ?_ ?_ | refine condW_intro ?_ ?_) <;> intro h <;> first | (exfalso; omega) | simp (disch := omega) only [go_sem, ↓reduceIte, Nat.reduceEqDiff, reduceCtorEq, Int.reduceEq, *, map_get hlt, wrap_i64, hok, ht, Option.getD_none, Option.getD_some, Option.isSome_none, false_and, Int.toNat_zero] | skip) | (refine callW_of cn rfl (.inl rfl) ?_)
   all_goals first
    | (rw [decide_eq_false]; intro hc; have := hc k hlt hlt; omega)
    | (rw [decide_eq_false]; intro hc; exact (hc k hlt hlt).2.2 (by omega) hm)
    | (refine ⟨k + 1, [], ⟨by omega, hall.succ fun _ => ⟨by omega, by omega, fun h => by omega⟩⟩, by omega, ?_⟩; simp [Wk, wkF, wkM, wkL, look_cons, renV, renA, renC, renB, rn, clV, clA, clAs, clB, notIn, findB, findB_setB, clA.go])
  ·rw [decide_eq_false hm] at cn
   repeat' first | simp (disch := omega) only [go_sem, ↓reduceIte, Nat.reduceEqDiff, reduceCtorEq, Int.reduceEq, map_get hlt, wrap_i64, hok, ht, Option.getD_none, Option.getD_some, Option.isSome_none, false_and, Int.toNat_zero] | ((with_reducible first | refine condD ?_ ?_ | refine condX ?_ ?_ | refine condW_intro ?_ ?_) <;> intro h <;> first | (exfalso; omega) | simp (disch := omega) only [go_sem, ↓reduceIte, Nat.reduceEqDiff, reduceCtorEq, Int.reduceEq, *, map_get hlt, wrap_i64, hok, ht, Option.getD_none, Option.getD_some, Option.isSome_none, false_and, Int.toNat_zero] | skip) | (refine callW_of cn rfl (.inl rfl) ?_)
   all_goals first
    | (rw [decide_eq_false]; intro hc; have := hc k hlt hlt; omega)
    | (refine ⟨k + 1, [], ⟨by omega, hall.succ fun _ => ⟨by omega, by omega, fun _ => hm⟩⟩, by omega, ?_⟩; simp [Wk, wkF, wkM, wkL, look_cons, renV, renA, renC, renB, rn, clV, clA, clAs, clB, notIn, findB, findB_setB, clA.go])
 ·repeat' first | simp (disch := omega) only [go_sem, ↓reduceIte, Nat.reduceEqDiff, reduceCtorEq, Int.reduceEq] | ((with_reducible first | refine condD ?_ ?_ | refine condX ?_ ?_ | refine condW_intro ?_ ?_) <;> intro h <;> first | (exfalso; omega) | simp (disch := omega) only [go_sem, ↓reduceIte, Nat.reduceEqDiff, reduceCtorEq, Int.reduceEq, *] | skip)
  rw [decide_eq_true]
  have : k = ss.length := by omega
  rw [this] at hall
  exact hall

def sepAt (ss : List Int) (k i : Nat) : Prop := ∀ (h : i < ss.length) (h' : k < ss.length), 0 ≤ ss[k] → ss[i] ≠ ss[k]
theorem ref52_entries_abs (ms ss : List Int) : PCalls Try.prog n_ref52_entries [aMesh ms, aInts ss] (Go.Abs.B (decide (entOk ms.length ss))) := by
 refine PCalls.of is_ref52_entries (by simp) fun hb => runW_sound ?_
 have hl := bnd_mesh hb.1
 have hx : ss.length ≤ 9223372036854775807 := by simpa [bndVs, bndV, bndA] using hb.2.1
 simp only [c_ref52_entries]
 repeat' first | simp (disch := omega) only [go_sem, ↓reduceIte, Nat.reduceEqDiff, reduceCtorEq, Int.reduceEq] | ((with_reducible first | refine condD ?_ ?_ | refine condX ?_ ?_ | refine condW_intro ?_ ?_) <;> intro h <;> first | (exfalso; omega) | simp (disch := omega) only [go_sem, ↓reduceIte, Nat.reduceEqDiff, reduceCtorEq, Int.reduceEq, *] | skip)
 refine AW_loop (fun k : Nat => ⟨[(1, aInts ss), (2, .c (.ptr 0 0)), (5, I k)], [(0, .var [.pure (pInts ms)])], 1, 0⟩) (fun k => k ≤ ss.length ∧ upTo (entAt ms.length ss) k) (fun k => ss.length - k) ⟨0, [], ⟨by omega, .zero⟩, by simp [Wk, wkF, wkM, wkL, look_cons, renV, renA, renC, renB, rn, clV, clA, clAs, clB, notIn, findB, findB_setB, clA.go]⟩ ?_
 rintro k ⟨hk, hall⟩
 refine runW_sound ?_
 by_cases hlt : k < ss.length
 ·repeat' first | simp (disch := omega) only [go_sem, ↓reduceIte, Nat.reduceEqDiff, reduceCtorEq, Int.reduceEq, map_get hlt, wrap_i64] | ((with_reducible first | refine condD ?_ ?_ | refine condX ?_ ?_ | refine condW_intro ?_ ?_) <;> intro h <;> first | (exfalso; omega) | simp (disch := omega) only [go_sem, ↓reduceIte, Nat.reduceEqDiff, reduceCtorEq, Int.reduceEq, *, map_get hlt, wrap_i64] | skip)
  ·rw [decide_eq_false]; intro hc; have := hc k hlt hlt; omega
  ·rw [decide_eq_false]; intro hc; have := hc k hlt hlt; omega
  ·refine AW_loop (fun j : Nat => ⟨[(1, aInts ss), (2, .c (.ptr 0 0)), (5, I k), (6, I j)], [(0, .var [.pure (pInts ms)])], 1, 0⟩) (fun j => j ≤ k ∧ upTo (sepAt ss k) j) (fun j => k - j) ⟨0, [], ⟨by omega, .zero⟩, by simp [Wk, wkF, wkM, wkL, look_cons, renV, renA, renC, renB, rn, clV, clA, clAs, clB, notIn, findB, findB_setB, clA.go]⟩ ?_
   rintro j ⟨hj, hin⟩
   refine runW_sound ?_
   by_cases hjt : j < k
   ·have hjs : j < ss.length := by omega
    repeat' first | simp (disch := omega) only [go_sem, ↓reduceIte, Nat.reduceEqDiff, reduceCtorEq, Int.reduceEq, map_get hlt, map_get hjs, wrap_i64] | ((with_reducible first | refine condD ?_ ?_ | refine condX ?_ ?_ | refine condW_intro ?_ ?_) <;> intro h <;> first | (exfalso; omega) | simp (disch := omega) only [go_sem, ↓reduceIte, Nat.reduceEqDiff, reduceCtorEq, Int.reduceEq, *, map_get hlt, map_get hjs, wrap_i64] | skip)
    ·rw [decide_eq_false]
     intro hc
     refine (hc k hlt hlt).2.2 (by omega) ?_
     rw [← h]
     exact List.mem_take_iff_getElem.2 ⟨j, by omega, rfl⟩
    ·exact ⟨j + 1, [], ⟨by omega, hin.succ fun _ _ _ => h⟩, by omega, by simp [Wk, wkF, wkM, wkL, look_cons, renV, renA, renC, renB, rn, clV, clA, clAs, clB, notIn, findB, findB_setB, clA.go]⟩
    ·exact ⟨j + 1, [], ⟨by omega, hin.succ fun _ _ h0 => absurd h0 (by omega)⟩, by omega, by simp [Wk, wkF, wkM, wkL, look_cons, renV, renA, renC, renB, rn, clV, clA, clAs, clB, notIn, findB, findB_setB, clA.go]⟩
   ·repeat' first | simp (disch := omega) only [go_sem, ↓reduceIte, Nat.reduceEqDiff, reduceCtorEq, Int.reduceEq, wrap_i64] | ((with_reducible first | refine condD ?_ ?_ | refine condX ?_ ?_ | refine condW_intro ?_ ?_) <;> intro h <;> first | (exfalso; omega) | simp (disch := omega) only [go_sem, ↓reduceIte, Nat.reduceEqDiff, reduceCtorEq, Int.reduceEq, *, wrap_i64] | skip)
    refine ⟨k + 1, [], ⟨by omega, hall.succ fun _ => ⟨by omega, by omega, fun h0 hm => ?_⟩⟩, by omega, by simp [Wk, wkF, wkM, wkL, look_cons, renV, renA, renC, renB, rn, clV, clA, clAs, clB, notIn, findB, findB_setB, clA.go]⟩
    obtain ⟨i, hi, e⟩ := List.mem_take_iff_getElem.1 hm
    exact hin i (by omega) (by omega) hlt h0 e
 ·repeat' first | simp (disch := omega) only [go_sem, ↓reduceIte, Nat.reduceEqDiff, reduceCtorEq, Int.reduceEq] | ((with_reducible first | refine condD ?_ ?_ | refine condX ?_ ?_ | refine condW_intro ?_ ?_) <;> intro h <;> first | (exfalso; omega) | simp (disch := omega) only [go_sem, ↓reduceIte, Nat.reduceEqDiff, reduceCtorEq, Int.reduceEq, *] | skip)
  rw [decide_eq_true]
  have : k = ss.length := by omega
  rw [this] at hall
  exact hall

theorem mesh_get {ms : List Int} (h : MeshOk ms) {i : Nat} (hi : i < ms.length) : 1 ≤ ms[i] ∧ ms[i] ≤ 16 := h.2.2.1 _ (List.getElem_mem hi)
theorem shard_Validate_abs (ms ds ss : List Int) : PCalls Try.prog n_shard_Validate [aMesh ms, aInts ds, aInts ss] (I (vspc ms ds ss)) := by
 refine PCalls.of is_shard_Validate (by simp) fun hb => runW_sound ?_
 have hx : ss.length ≤ 9223372036854775807 := by simpa [bndVs, bndV, bndA] using hb.2.2.1
 simp only [c_shard_Validate]
 by_cases h1 : MeshOk ms
 ·have p1 := mesh_Validate_abs ms
  rw [vmesh_yes h1] at p1
  have p2 := shape_Validate_abs ds
  by_cases h2 : vld ds = 0
  ·rw [h2] at p2
   have p3 := shard_entries_abs ms ss
   by_cases h3 : ss.length = ds.length
   ·by_cases h4 : entOk ms.length ss
    ·rw [decide_eq_true h4] at p3
     have hgood := good_of_vld h2
     rw [vspc, if_neg (not_not_intro h1), if_neg (not_not_intro h2), if_neg (not_not_intro ⟨h3, h4⟩)]
     have h3' : (ss.length : Int) = ds.length := by omega
     have H3 := Lib.hid h3
     clear h3
     repeat' first | simp (disch := omega) only [go_sem, ↓reduceIte, Nat.reduceEqDiff, reduceCtorEq, Int.reduceEq, h3'] | ((with_reducible first | refine condD ?_ ?_ | refine condX ?_ ?_ | refine condW_intro ?_ ?_) <;> intro h <;> first | (exfalso; omega) | simp (disch := omega) only [go_sem, ↓reduceIte, Nat.reduceEqDiff, reduceCtorEq, Int.reduceEq, *, h3'] | skip) | (refine callW_of p1 rfl (.inl rfl) ?_) | (refine callW_of p2 rfl (.inl rfl) ?_) | (refine callW_of p3 rfl (.inl rfl) ?_)
     refine AW_loop (fun k : Nat => ⟨[(1, aInts ds), (3, .c (.ptr 0 0)), (32, aInts ss), (33, I ss.length), (34, I k)], [(0, .var [.pure (pInts ms)])], 1, 0⟩) (fun k => k ≤ ss.length ∧ upTo (fitAt ms ds ss) k) (fun k => ss.length - k) ⟨0, [], ⟨by omega, .zero⟩, by simp [Wk, wkF, wkM, wkL, look_cons, renV, renA, renC, renB, rn, clV, clA, clAs, clB, notIn, findB, findB_setB, clA.go, h3']⟩ ?_
     rintro k ⟨hk, hall⟩
     refine runW_sound ?_
     clear h3'
     by_cases hlt : k < ss.length
     ·have hltd : k < ds.length := by have := H3.out; omega
      have he := h4 k hlt hlt
      have hdget : ds[k]?.getD 0 = ds[k] := by simp [hltd]
      by_cases h0 : 0 ≤ ss[k]
      ·have hms : ss[k].toNat < ms.length := by omega
       have hmg := mesh_get h1 hms
       have hmget : ms[ss[k].toNat]?.getD 0 = ms[ss[k].toNat] := by simp [hms]
       have hd1 := hgood.pos _ (List.getElem_mem hltd)
       have et : Int.tmod ds[k] ms[ss[k].toNat] = ds[k] % ms[ss[k].toNat] := Int.tmod_eq_emod_of_nonneg (by omega)
       have hne : ms[ss[k].toNat] ≠ 0 := by omega
       by_cases hf : ds[k] % ms[ss[k].toNat] = 0
       ·have hft : fitAt ms ds ss k := fun _ _ => by rw [hdget, hmget]; exact hf
        have HF := Lib.hid hft
        clear hft
        repeat' first | simp (disch := omega) only [go_sem, ↓reduceIte, Nat.reduceEqDiff, reduceCtorEq, Int.reduceEq, map_get hlt, map_get hltd, map_get hms, wrap_i64, et, hne, ne_eq, hf] | ((with_reducible first | refine condD ?_ ?_ | refine condX ?_ ?_ | refine condW_intro ?_ ?_) <;> intro h <;> first | (exfalso; omega) | simp (disch := omega) only [go_sem, ↓reduceIte, Nat.reduceEqDiff, reduceCtorEq, Int.reduceEq, *, map_get hlt, map_get hltd, map_get hms, wrap_i64, et, hne, ne_eq, hf] | skip)
        exact ⟨k + 1, [], ⟨by omega, hall.succ HF.out⟩, by omega, by simp [Wk, wkF, wkM, wkL, look_cons, renV, renA, renC, renB, rn, clV, clA, clAs, clB, notIn, findB, findB_setB, clA.go]⟩
       ·have hno : ¬ fitOk ms ds ss := fun hc => hf (by have := hc k hlt hlt h0; rwa [hdget, hmget] at this)
        rw [if_neg hno]
        repeat' first | simp (disch := omega) only [go_sem, ↓reduceIte, Nat.reduceEqDiff, reduceCtorEq, Int.reduceEq, map_get hlt, map_get hltd, map_get hms, wrap_i64, et, hne, ne_eq, hf] | ((with_reducible first | refine condD ?_ ?_ | refine condX ?_ ?_ | refine condW_intro ?_ ?_) <;> intro h <;> first | (exfalso; omega) | simp (disch := omega) only [go_sem, ↓reduceIte, Nat.reduceEqDiff, reduceCtorEq, Int.reduceEq, *, map_get hlt, map_get hltd, map_get hms, wrap_i64, et, hne, ne_eq, hf] | skip)
      ·repeat' first | simp (disch := omega) only [go_sem, ↓reduceIte, Nat.reduceEqDiff, reduceCtorEq, Int.reduceEq, map_get hlt, wrap_i64] | ((with_reducible first | refine condD ?_ ?_ | refine condX ?_ ?_ | refine condW_intro ?_ ?_) <;> intro h <;> first | (exfalso; omega) | simp (disch := omega) only [go_sem, ↓reduceIte, Nat.reduceEqDiff, reduceCtorEq, Int.reduceEq, *, map_get hlt, wrap_i64] | skip)
       exact ⟨k + 1, [], ⟨by omega, hall.succ fun _ hc => absurd hc h0⟩, by omega, by simp [Wk, wkF, wkM, wkL, look_cons, renV, renA, renC, renB, rn, clV, clA, clAs, clB, notIn, findB, findB_setB, clA.go]⟩
     ·have e : k = ss.length := by omega
      rw [e] at hall
      rw [if_pos (show fitOk ms ds ss from hall)]
      repeat' first | simp (disch := omega) only [go_sem, ↓reduceIte, Nat.reduceEqDiff, reduceCtorEq, Int.reduceEq] | ((with_reducible first | refine condD ?_ ?_ | refine condX ?_ ?_ | refine condW_intro ?_ ?_) <;> intro h <;> first | (exfalso; omega) | simp (disch := omega) only [go_sem, ↓reduceIte, Nat.reduceEqDiff, reduceCtorEq, Int.reduceEq, *] | skip)
    ·rw [decide_eq_false h4] at p3
     rw [vspc, if_neg (not_not_intro h1), if_neg (not_not_intro h2), if_pos fun h => h4 h.2]
     repeat' first | simp (disch := omega) only [go_sem, ↓reduceIte, Nat.reduceEqDiff, reduceCtorEq, Int.reduceEq] | ((with_reducible first | refine condD ?_ ?_ | refine condX ?_ ?_ | refine condW_intro ?_ ?_) <;> intro h <;> first | (exfalso; omega) | simp (disch := omega) only [go_sem, ↓reduceIte, Nat.reduceEqDiff, reduceCtorEq, Int.reduceEq, *] | skip) | (refine callW_of p1 rfl (.inl rfl) ?_) | (refine callW_of p2 rfl (.inl rfl) ?_) | (refine callW_of p3 rfl (.inl rfl) ?_)
   ·have h3' : ¬ (ss.length : Int) = ds.length := by omega
    rw [vspc, if_neg (not_not_intro h1), if_neg (not_not_intro h2), if_pos fun h => h3 h.1]
    repeat' first | simp (disch := omega) only [go_sem, ↓reduceIte, Nat.reduceEqDiff, reduceCtorEq, Int.reduceEq, h3'] | ((with_reducible first | refine condD ?_ ?_ | refine condX ?_ ?_ | refine condW_intro ?_ ?_) <;> intro h <;> first | (exfalso; omega) | simp (disch := omega) only [go_sem, ↓reduceIte, Nat.reduceEqDiff, reduceCtorEq, Int.reduceEq, *, h3'] | skip) | (refine callW_of p1 rfl (.inl rfl) ?_) | (refine callW_of p2 rfl (.inl rfl) ?_) | (refine callW_of p3 rfl (.inl rfl) ?_)
  ·rw [vspc, if_neg (not_not_intro h1), if_pos h2]
   repeat' first | simp (disch := omega) only [go_sem, ↓reduceIte, Nat.reduceEqDiff, reduceCtorEq, Int.reduceEq] | ((with_reducible first | refine condD ?_ ?_ | refine condX ?_ ?_ | refine condW_intro ?_ ?_) <;> intro h <;> first | (exfalso; omega) | simp (disch := omega) only [go_sem, ↓reduceIte, Nat.reduceEqDiff, reduceCtorEq, Int.reduceEq, *] | skip) | (refine callW_of p1 rfl (.inl rfl) ?_) | (refine callW_of p2 rfl (.inl rfl) ?_)
 ·have p1 := mesh_Validate_abs ms
  rw [vmesh_no h1] at p1
  rw [vspc, if_pos h1]
  repeat' first | simp (disch := omega) only [go_sem, ↓reduceIte, Nat.reduceEqDiff, reduceCtorEq, Int.reduceEq] | ((with_reducible first | refine condD ?_ ?_ | refine condX ?_ ?_ | refine condW_intro ?_ ?_) <;> intro h <;> first | (exfalso; omega) | simp (disch := omega) only [go_sem, ↓reduceIte, Nat.reduceEqDiff, reduceCtorEq, Int.reduceEq, *] | skip) | (refine callW_of p1 rfl (.inl rfl) ?_)
theorem ref52_Validate_abs (ms ds ss : List Int) : PCalls Try.prog n_ref52_Validate [aMesh ms, aInts ds, aInts ss] (I (vspc ms ds ss)) := by
 refine PCalls.of is_ref52_Validate (by simp) fun hb => runW_sound ?_
 have hx : ss.length ≤ 9223372036854775807 := by simpa [bndVs, bndV, bndA] using hb.2.2.1
 simp only [c_ref52_Validate]
 by_cases h1 : MeshOk ms
 ·have p1 := ref51_Validate_abs ms
  rw [vmesh_yes h1] at p1
  have p2 := ref11_Validate_abs ds
  by_cases h2 : vld ds = 0
  ·rw [h2] at p2
   have p3 := ref52_entries_abs ms ss
   by_cases h3 : ss.length = ds.length
   ·by_cases h4 : entOk ms.length ss
    ·rw [decide_eq_true h4] at p3
     have hgood := good_of_vld h2
     rw [vspc, if_neg (not_not_intro h1), if_neg (not_not_intro h2), if_neg (not_not_intro ⟨h3, h4⟩)]
     have h3' : (ss.length : Int) = ds.length := by omega
     have H3 := Lib.hid h3
     clear h3
     repeat' first | simp (disch := omega) only [go_sem, ↓reduceIte, Nat.reduceEqDiff, reduceCtorEq, Int.reduceEq, h3'] | ((with_reducible first | refine condD ?_ ?_ | refine condX ?_ ?_ | refine condW_intro ?_ ?_) <;> intro h <;> first | (exfalso; omega) | simp (disch := omega) only [go_sem, ↓reduceIte, Nat.reduceEqDiff, reduceCtorEq, Int.reduceEq, *, h3'] | skip) | (refine callW_of p1 rfl (.inl rfl) ?_) | (refine callW_of p2 rfl (.inl rfl) ?_) | (refine callW_of p3 rfl (.inl rfl) ?_)
     refine AW_loop (fun k : Nat => ⟨[(1, aInts ds), (2, aInts ss), (3, .c (.ptr 0 0)), (9, I k)], [(0, .var [.pure (pInts ms)])], 1, 0⟩) (fun k => k ≤ ss.length ∧ upTo (fitAt ms ds ss) k) (fun k => ss.length - k) ⟨0, [], ⟨by omega, .zero⟩, by simp [Wk, wkF, wkM, wkL, look_cons, renV, renA, renC, renB, rn, clV, clA, clAs, clB, notIn, findB, findB_setB, clA.go, h3']⟩ ?_
     rintro k ⟨hk, hall⟩
     refine runW_sound ?_
     clear h3'
     by_cases hlt : k < ss.length
     ·have hltd : k < ds.length := by have := H3.out; omega
      have he := h4 k hlt hlt
      have hdget : ds[k]?.getD 0 = ds[k] := by simp [hltd]
      by_cases h0 : 0 ≤ ss[k]
      ·have hms : ss[k].toNat < ms.length := by omega
       have hmg := mesh_get h1 hms
       have hmget : ms[ss[k].toNat]?.getD 0 = ms[ss[k].toNat] := by simp [hms]
       have hd1 := hgood.pos _ (List.getElem_mem hltd)
       have et : Int.tmod ds[k] ms[ss[k].toNat] = ds[k] % ms[ss[k].toNat] := Int.tmod_eq_emod_of_nonneg (by omega)
       have hne : ms[ss[k].toNat] ≠ 0 := by omega
       by_cases hf : ds[k] % ms[ss[k].toNat] = 0
       ·have hft : fitAt ms ds ss k := fun _ _ => by rw [hdget, hmget]; exact hf
        have HF := Lib.hid hft
        clear hft
        repeat' first | simp (disch := omega) only [go_sem, ↓reduceIte, Nat.reduceEqDiff, reduceCtorEq, Int.reduceEq, map_get hlt, map_get hltd, map_get hms, wrap_i64, et, hne, ne_eq, hf] | ((with_reducible first | refine condD ?_ ?_ | refine condX ?_ ?_ | refine condW_intro ?_ ?_) <;> intro h <;> first | (exfalso; omega) | simp (disch := omega) only [go_sem, ↓reduceIte, Nat.reduceEqDiff, reduceCtorEq, Int.reduceEq, *, map_get hlt, map_get hltd, map_get hms, wrap_i64, et, hne, ne_eq, hf] | skip)
        exact ⟨k + 1, [], ⟨by omega, hall.succ HF.out⟩, by omega, by simp [Wk, wkF, wkM, wkL, look_cons, renV, renA, renC, renB, rn, clV, clA, clAs, clB, notIn, findB, findB_setB, clA.go]⟩
       ·have hno : ¬ fitOk ms ds ss := fun hc => hf (by have := hc k hlt hlt h0; rwa [hdget, hmget] at this)
        rw [if_neg hno]
        repeat' first | simp (disch := omega) only [go_sem, ↓reduceIte, Nat.reduceEqDiff, reduceCtorEq, Int.reduceEq, map_get hlt, map_get hltd, map_get hms, wrap_i64, et, hne, ne_eq, hf] | ((with_reducible first | refine condD ?_ ?_ | refine condX ?_ ?_ | refine condW_intro ?_ ?_) <;> intro h <;> first | (exfalso; omega) | simp (disch := omega) only [go_sem, ↓reduceIte, Nat.reduceEqDiff, reduceCtorEq, Int.reduceEq, *, map_get hlt, map_get hltd, map_get hms, wrap_i64, et, hne, ne_eq, hf] | skip)
      ·repeat' first | simp (disch := omega) only [go_sem, ↓reduceIte, Nat.reduceEqDiff, reduceCtorEq, Int.reduceEq, map_get hlt, wrap_i64] | ((with_reducible first | refine condD ?_ ?_ | refine condX ?_ ?_ | refine condW_intro ?_ ?_) <;> intro h <;> first | (exfalso; omega) | simp (disch := omega) only [go_sem, ↓reduceIte, Nat.reduceEqDiff, reduceCtorEq, Int.reduceEq, *, map_get hlt, wrap_i64] | skip)
       exact ⟨k + 1, [], ⟨by omega, hall.succ fun _ hc => absurd hc h0⟩, by omega, by simp [Wk, wkF, wkM, wkL, look_cons, renV, renA, renC, renB, rn, clV, clA, clAs, clB, notIn, findB, findB_setB, clA.go]⟩
     ·have e : k = ss.length := by omega
      rw [e] at hall
      rw [if_pos (show fitOk ms ds ss from hall)]
      repeat' first | simp (disch := omega) only [go_sem, ↓reduceIte, Nat.reduceEqDiff, reduceCtorEq, Int.reduceEq] | ((with_reducible first | refine condD ?_ ?_ | refine condX ?_ ?_ | refine condW_intro ?_ ?_) <;> intro h <;> first | (exfalso; omega) | simp (disch := omega) only [go_sem, ↓reduceIte, Nat.reduceEqDiff, reduceCtorEq, Int.reduceEq, *] | skip)
    ·rw [decide_eq_false h4] at p3
     rw [vspc, if_neg (not_not_intro h1), if_neg (not_not_intro h2), if_pos fun h => h4 h.2]
     repeat' first | simp (disch := omega) only [go_sem, ↓reduceIte, Nat.reduceEqDiff, reduceCtorEq, Int.reduceEq] | ((with_reducible first | refine condD ?_ ?_ | refine condX ?_ ?_ | refine condW_intro ?_ ?_) <;> intro h <;> first | (exfalso; omega) | simp (disch := omega) only [go_sem, ↓reduceIte, Nat.reduceEqDiff, reduceCtorEq, Int.reduceEq, *] | skip) | (refine callW_of p1 rfl (.inl rfl) ?_) | (refine callW_of p2 rfl (.inl rfl) ?_) | (refine callW_of p3 rfl (.inl rfl) ?_)
   ·have h3' : ¬ (ss.length : Int) = ds.length := by omega
    rw [vspc, if_neg (not_not_intro h1), if_neg (not_not_intro h2), if_pos fun h => h3 h.1]
    repeat' first | simp (disch := omega) only [go_sem, ↓reduceIte, Nat.reduceEqDiff, reduceCtorEq, Int.reduceEq, h3'] | ((with_reducible first | refine condD ?_ ?_ | refine condX ?_ ?_ | refine condW_intro ?_ ?_) <;> intro h <;> first | (exfalso; omega) | simp (disch := omega) only [go_sem, ↓reduceIte, Nat.reduceEqDiff, reduceCtorEq, Int.reduceEq, *, h3'] | skip) | (refine callW_of p1 rfl (.inl rfl) ?_) | (refine callW_of p2 rfl (.inl rfl) ?_) | (refine callW_of p3 rfl (.inl rfl) ?_)
  ·rw [vspc, if_neg (not_not_intro h1), if_pos h2]
   repeat' first | simp (disch := omega) only [go_sem, ↓reduceIte, Nat.reduceEqDiff, reduceCtorEq, Int.reduceEq] | ((with_reducible first | refine condD ?_ ?_ | refine condX ?_ ?_ | refine condW_intro ?_ ?_) <;> intro h <;> first | (exfalso; omega) | simp (disch := omega) only [go_sem, ↓reduceIte, Nat.reduceEqDiff, reduceCtorEq, Int.reduceEq, *] | skip) | (refine callW_of p1 rfl (.inl rfl) ?_) | (refine callW_of p2 rfl (.inl rfl) ?_)
 ·have p1 := ref51_Validate_abs ms
  rw [vmesh_no h1] at p1
  rw [vspc, if_pos h1]
  repeat' first | simp (disch := omega) only [go_sem, ↓reduceIte, Nat.reduceEqDiff, reduceCtorEq, Int.reduceEq] | ((with_reducible first | refine condD ?_ ?_ | refine condX ?_ ?_ | refine condW_intro ?_ ?_) <;> intro h <;> first | (exfalso; omega) | simp (disch := omega) only [go_sem, ↓reduceIte, Nat.reduceEqDiff, reduceCtorEq, Int.reduceEq, *] | skip) | (refine callW_of p1 rfl (.inl rfl) ?_)
end Go.Proofs.Ytcnbccmmhcoanaa
