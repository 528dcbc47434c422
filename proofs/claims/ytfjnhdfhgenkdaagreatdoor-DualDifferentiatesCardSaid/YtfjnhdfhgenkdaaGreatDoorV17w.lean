/- Walks: weights of expressions. -/
import Derived.Test.YtfjnhdfhgenkdaaGreatDoorP17w
import Derived.Test.YtfjnhdfhgenkdaaGreatDoorV14d
import Derived.Test.YtfjnhdfhgenkdaaGreatDoorV17c
set_option linter.unusedVariables false
set_option linter.unusedSimpArgs false
set_option maxRecDepth 20000
namespace Go.Proofs.YtfjnhdfhgenkdaaGreatDoor
open Go.Abs Go.RowKit

set_option maxHeartbeats 2000000 in
theorem base_Weigh_abs (e : Ex) : ∀ m : Int, PCalls Tryz.prog n_base_Weigh [aEx e, I m] (I (weigh e m)) := by
 refine Ex.ind (p := fun e => ∀ m : Int, PCalls Tryz.prog n_base_Weigh [aEx e, I m] (I (weigh e m))) (fun e ih m => ?_) e
 refine PCalls.of is_base_Weigh (by simp) fun hb => runW_sound ?_
 obtain ⟨hla, hli⟩ := bnd_args hb
 have hR : wArgs e.args m (wIdx m e.idx (w0 e)) = weigh e m := (weigh_eq e m).symm
 generalize weigh e m = R at *
 have HR := Lib.hid hR
 clear hR
 simp only [c_base_Weigh]
 repeat' first | simp (disch := omega) only [go_sem] | ((with_reducible first | refine condD ?_ ?_ | refine condX ?_ ?_ | refine condW_intro ?_ ?_) <;> intro h <;> first | (exfalso; omega) | simp (disch := omega) only [go_sem, *] | skip)
 refine AW_loop (fun s : Nat × Int => ⟨[(6, I s.1), (5, I s.2), (2, .c (.ptr 0 0)), (1, I m)], [(0, bEx e)], 1, 0⟩) (fun s => s.1 ≤ e.idx.length ∧ Hid (wIdx m (e.idx.drop s.1) s.2 = wIdx m e.idx (w0 e))) (fun s => e.idx.length - s.1) ⟨(0, w0 e), [], ⟨by omega, rfl⟩, by simp [Wk, wkF, wkM, wkL, look_cons, renV, renA, renC, renB, rn, clV, clA, clAs, clB, notIn, findB, findB_setB, clA.go, w0]⟩ ?_
 rintro ⟨k, n⟩ ⟨hk, hall⟩
 refine runW_sound ?_
 simp only at hk hall
 by_cases hgo : k < e.idx.length ∧ n ≤ m
 ·obtain ⟨hlt, hn⟩ := hgo
  have hs := (wIdx_go hlt hn).symm.trans hall.out
  have HS := Lib.hid hs
  clear hall hs
  repeat' first | simp (disch := omega) only [go_sem, map_get hlt, ixP, wrap_i64, hn] | ((with_reducible first | refine condD ?_ ?_ | refine condX ?_ ?_ | refine condW_intro ?_ ?_) <;> intro h <;> first | (exfalso; omega) | simp (disch := omega) only [go_sem, *, map_get hlt, ixP, wrap_i64, hn] | skip)
  refine AW_bnd 45 fun hbd => ?_
  have hla2 : e.idx[k].2.2.length ≤ 9223372036854775807 := by simpa [look_cons, bndV, bndA] using hbd
  clear hbd
  generalize hB : IntKind.wrap .i64 (IntKind.wrap .i64 (n + e.idx[k].1.2.length) + e.idx[k].2.2.length) = n1 at *
  obtain ⟨N2, hN2⟩ : ∃ N2, wAt m e.idx[k].2.2 n1 = N2 := ⟨_, rfl⟩
  rw [hN2] at HS
  have H2 := Lib.hid hN2
  clear hN2 hB hn
  refine AW_loop (fun s : Nat × Int => ⟨[(7, I s.1), (6, I k), (5, I s.2), (2, .c (.ptr 0 0)), (1, I m)], [(0, bEx e)], 1, 0⟩) (fun s => s.1 ≤ e.idx[k].2.2.length ∧ Hid (wAt m (e.idx[k].2.2.drop s.1) s.2 = N2)) (fun s => e.idx[k].2.2.length - s.1) ⟨(0, n1), [], ⟨by omega, H2⟩, by simp [Wk, wkF, wkM, wkL, look_cons, renV, renA, renC, renB, rn, clV, clA, clAs, clB, notIn, findB, findB_setB, clA.go]⟩ ?_
  clear H2
  rintro ⟨j, n2⟩ ⟨hj, hall2⟩
  refine runW_sound ?_
  simp only at hj hall2
  by_cases hgo2 : j < e.idx[k].2.2.length ∧ n2 ≤ m
  ·obtain ⟨hlt2, hn2⟩ := hgo2
   have hs2 := (wAt_go hlt2 hn2).symm.trans hall2.out
   have HS2 := Lib.hid hs2
   clear hall2 hs2
   repeat' first | simp (disch := omega) only [go_sem, map_get hlt, map_get hlt2, ixP, linP, wrap_i64, hn2] | ((with_reducible first | refine condD ?_ ?_ | refine condX ?_ ?_ | refine condW_intro ?_ ?_) <;> intro h <;> first | (exfalso; omega) | simp (disch := omega) only [go_sem, *, map_get hlt, map_get hlt2, ixP, linP, wrap_i64, hn2] | skip)
   exact ⟨(j + 1, IntKind.wrap .i64 (n2 + e.idx[k].2.2[j].2.length)), [], ⟨by omega, HS2⟩, by show _ - _ < _ - _; omega, by simp [Wk, wkF, wkM, wkL, look_cons, renV, renA, renC, renB, rn, clV, clA, clAs, clB, notIn, findB, findB_setB, clA.go]⟩
  ·have hs2 := (wAt_stop hgo2).symm.trans hall2.out
   subst hs2
   clear hall2
   by_cases hlt2 : j < e.idx[k].2.2.length
   ·have hn2 : ¬ n2 ≤ m := fun h => hgo2 ⟨hlt2, h⟩
    clear hgo2
    repeat' first | simp (disch := omega) only [go_sem, map_get hlt, ixP, wrap_i64, hn2] | ((with_reducible first | refine condD ?_ ?_ | refine condX ?_ ?_ | refine condW_intro ?_ ?_) <;> intro h <;> first | (exfalso; omega) | simp (disch := omega) only [go_sem, *, map_get hlt, ixP, wrap_i64, hn2] | skip)
    exact ⟨(k + 1, n2), [], ⟨by omega, HS⟩, by show _ - _ < _ - _; omega, by simp [Wk, wkF, wkM, wkL, look_cons, renV, renA, renC, renB, rn, clV, clA, clAs, clB, notIn, findB, findB_setB, clA.go]⟩
   ·clear hgo2
    repeat' first | simp (disch := omega) only [go_sem, map_get hlt, ixP, wrap_i64] | ((with_reducible first | refine condD ?_ ?_ | refine condX ?_ ?_ | refine condW_intro ?_ ?_) <;> intro h <;> first | (exfalso; omega) | simp (disch := omega) only [go_sem, *, map_get hlt, ixP, wrap_i64] | skip)
    exact ⟨(k + 1, n2), [], ⟨by omega, HS⟩, by show _ - _ < _ - _; omega, by simp [Wk, wkF, wkM, wkL, look_cons, renV, renA, renC, renB, rn, clV, clA, clAs, clB, notIn, findB, findB_setB, clA.go]⟩
 ·have hs := (wIdx_stop hgo).symm.trans hall.out
  clear hall
  rw [← hs] at HR
  have fin : ∀ (P : Prop), P → P := fun _ h => h
  clear hs
  have hcase : (k < e.idx.length ∧ ¬ n ≤ m) ∨ ¬ k < e.idx.length := by
   by_cases h : k < e.idx.length
   ·exact .inl ⟨h, fun hh => hgo ⟨h, hh⟩⟩
   ·exact .inr h
  clear hgo fin
  rcases hcase with ⟨hlt, hn⟩ | hlt
  all_goals
   repeat' first | simp (disch := omega) only [go_sem, wrap_i64] | ((with_reducible first | refine condD ?_ ?_ | refine condX ?_ ?_ | refine condW_intro ?_ ?_) <;> intro h <;> first | (exfalso; omega) | simp (disch := omega) only [go_sem, *, wrap_i64] | skip)
   repeat clear hn
   refine AW_loop (fun s : Nat × Int => ⟨[(8, I s.1), (5, I s.2), (2, .c (.ptr 0 0)), (1, I m)], [(0, bEx e)], 1, 0⟩) (fun s => s.1 ≤ e.args.length ∧ Hid (wArgs (e.args.drop s.1) m s.2 = R)) (fun s => e.args.length - s.1) ⟨(0, n), [], ⟨by omega, HR⟩, by simp [Wk, wkF, wkM, wkL, look_cons, renV, renA, renC, renB, rn, clV, clA, clAs, clB, notIn, findB, findB_setB, clA.go]⟩ ?_
   clear HR
   repeat clear hlt
   rintro ⟨j, n2⟩ ⟨hj, hall2⟩
   refine runW_sound ?_
   simp only at hj hall2
   by_cases hlt2 : j < e.args.length
   ·by_cases hn2 : n2 ≤ m
    ·have hs2 := (wArgs_go hlt2 hn2).symm.trans hall2.out
     have HS2 := Lib.hid hs2
     have cW := ih _ (List.getElem_mem hlt2) (IntKind.wrap .i64 (m - n2))
     clear hall2 hs2 ih
     repeat' first | simp (disch := omega) only [go_sem, map_get hlt2, Ex.row_eq, wrap_i64, hn2] | ((with_reducible first | refine condD ?_ ?_ | refine condX ?_ ?_ | refine condW_intro ?_ ?_) <;> intro h <;> first | (exfalso; omega) | simp (disch := omega) only [go_sem, *, map_get hlt2, Ex.row_eq, wrap_i64, hn2] | skip) | (refine callW_of cW rfl (.inl rfl) ?_)
     exact ⟨(j + 1, IntKind.wrap .i64 (n2 + weigh e.args[j] (IntKind.wrap .i64 (m - n2)))), [], ⟨by omega, HS2⟩, by show _ - _ < _ - _; omega, by simp [Wk, wkF, wkM, wkL, look_cons, renV, renA, renC, renB, rn, clV, clA, clAs, clB, notIn, findB, findB_setB, clA.go]⟩
    ·have hs2 := (wArgs_stop (l := e.args) (k := j) fun h => hn2 h.2).symm.trans hall2.out
     rw [← hs2]
     clear hall2 hs2 ih
     repeat' first | simp (disch := omega) only [go_sem, hn2] | ((with_reducible first | refine condD ?_ ?_ | refine condX ?_ ?_ | refine condW_intro ?_ ?_) <;> intro h <;> first | (exfalso; omega) | simp (disch := omega) only [go_sem, *, hn2] | skip)
   ·have hs2 := (wArgs_stop (m := m) (n := n2) (l := e.args) (k := j) fun h => hlt2 h.1).symm.trans hall2.out
    rw [← hs2]
    clear hall2 hs2 ih
    repeat' first | simp (disch := omega) only [go_sem] | ((with_reducible first | refine condD ?_ ?_ | refine condX ?_ ?_ | refine condW_intro ?_ ?_) <;> intro h <;> first | (exfalso; omega) | simp (disch := omega) only [go_sem, *] | skip)
end Go.Proofs.YtfjnhdfhgenkdaaGreatDoor
