/- The laws ElimEliminates and ElimSound as contracts of the abstract machine. -/
import Derived.Test.YtkdgmbakhkdegaaR07
import Derived.Test.YtkdgmbakhkdegaaPlain07ij
import Derived.Test.YtkdgmbakhkdegaaN07a
import Derived.Test.YtkdgmbakhkdegaaIn7
import Derived.Test.YtkdgmbakhkdegaaCodesLB
set_option linter.unusedVariables false
set_option linter.unusedSimpArgs false
set_option maxRecDepth 20000
namespace Go.Proofs.Ytkdgmbakhkdegaa
open Go.Abs Go.RowKit

theorem base_Int64s_abs (a b : List Int) : PCalls Try.prog n_base_Int64s [aInts a, aInts b] (Go.Abs.B (decide (a = b))) := by
 refine PCalls.of is_base_Int64s (by simp) fun hb => runW_sound ?_
 have hba : a.length ≤ 9223372036854775807 := by have := hb.1; simpa [bndV, bndA] using this
 clear hb
 simp only [c_base_Int64s]
 by_cases hl : a.length = b.length
 ·have hli : (a.length : Int) = (b.length : Int) := by omega
  obtain ⟨R, hR⟩ : ∃ R, R = decide (a = b) := ⟨_, rfl⟩
  rw [← hR]
  have HR := Lib.hid hR
  clear hR
  have HL := Lib.hid hl
  clear hl
  repeat' first | simp (disch := omega) only [go_sem, ↓reduceIte, Nat.reduceEqDiff, reduceCtorEq, Int.reduceEq, hli] | ((with_reducible first | refine condD ?_ ?_ | refine condX ?_ ?_ | refine condW_intro ?_ ?_) <;> intro h <;> first | (exfalso; omega) | simp (disch := omega) only [go_sem, ↓reduceIte, Nat.reduceEqDiff, reduceCtorEq, Int.reduceEq, *, hli] | skip)
  refine AW_loop (fun k : Nat => ⟨[(0, aInts a), (1, aInts b), (5, I k)], [], 0, 0⟩) (fun k => k ≤ b.length ∧ Hid (a.take k = b.take k)) (fun k => b.length - k) ⟨0, [], ⟨Nat.zero_le _, Lib.hid rfl⟩, by simp [Wk, wkF, wkM, wkL, look_cons, renV, renA, renC, renB, rn, clV, clA, clAs, clB, notIn, findB, findB_setB, clA.go]⟩ ?_
  rintro k ⟨hk, HT⟩
  refine runW_sound ?_
  have hl := HL.out
  by_cases hlt : k < b.length
  ·have hlta : k < a.length := by omega
   have g1 := map_get (f := fun n => [pI n]) hlta
   have g2 := map_get (f := fun n => [pI n]) hlt
   by_cases he : a[k] = b[k]
   ·have HT' : Hid (a.take (k + 1) = b.take (k + 1)) := Lib.hid (by rw [List.take_succ_eq_append_getElem hlta, List.take_succ_eq_append_getElem hlt, HT.out, he])
    rw [he] at g1
    clear HT he hl
    generalize b[k] = x at *
    repeat' first | simp (disch := omega) only [go_sem, ↓reduceIte, Nat.reduceEqDiff, reduceCtorEq, Int.reduceEq, hli, g1, g2, wrap_i64] | ((with_reducible first | refine condD ?_ ?_ | refine condX ?_ ?_ | refine condW_intro ?_ ?_) <;> intro h <;> first | (exfalso; omega) | simp (disch := omega) only [go_sem, ↓reduceIte, Nat.reduceEqDiff, reduceCtorEq, Int.reduceEq, *, hli, g1, g2, wrap_i64] | skip)
    exact ⟨k + 1, [], ⟨hlt, HT'⟩, by omega, by simp [Wk, wkF, wkM, wkL, look_cons, renV, renA, renC, renB, rn, clV, clA, clAs, clB, notIn, findB, findB_setB, clA.go]⟩
   ·have hR : R = false := by
     rw [HR.out]
     exact decide_eq_false fun h => he (by subst h; rfl)
    subst hR
    clear HT hl HR HL
    generalize a[k] = x at *
    generalize b[k] = y at *
    repeat' first | simp (disch := omega) only [go_sem, ↓reduceIte, Nat.reduceEqDiff, reduceCtorEq, Int.reduceEq, hli, g1, g2, he, wrap_i64] | ((with_reducible first | refine condD ?_ ?_ | refine condX ?_ ?_ | refine condW_intro ?_ ?_) <;> intro h <;> first | (exfalso; omega) | simp (disch := omega) only [go_sem, ↓reduceIte, Nat.reduceEqDiff, reduceCtorEq, Int.reduceEq, *, hli, g1, g2, he, wrap_i64] | skip)
    all_goals rfl
  ·have hR : R = true := by
    rw [HR.out]
    have h := HT.out
    rw [List.take_of_length_le (by omega), List.take_of_length_le (by omega)] at h
    exact decide_eq_true h
   subst hR
   clear HT HL HR hl
   repeat' first | simp (disch := omega) only [go_sem, ↓reduceIte, Nat.reduceEqDiff, reduceCtorEq, Int.reduceEq, hli] | ((with_reducible first | refine condD ?_ ?_ | refine condX ?_ ?_ | refine condW_intro ?_ ?_) <;> intro h <;> first | (exfalso; omega) | simp (disch := omega) only [go_sem, ↓reduceIte, Nat.reduceEqDiff, reduceCtorEq, Int.reduceEq, *, hli] | skip)
   all_goals rfl
 ·have e : decide (a = b) = false := decide_eq_false fun h => hl (by rw [h])
  rw [e]
  have hli : ¬ (a.length : Int) = (b.length : Int) := by omega
  repeat' first | simp (disch := omega) only [go_sem, ↓reduceIte, Nat.reduceEqDiff, reduceCtorEq, Int.reduceEq, hli] | ((with_reducible first | refine condD ?_ ?_ | refine condX ?_ ?_ | refine condW_intro ?_ ?_) <;> intro h <;> first | (exfalso; omega) | simp (disch := omega) only [go_sem, ↓reduceIte, Nat.reduceEqDiff, reduceCtorEq, Int.reduceEq, *, hli] | skip)
  all_goals rfl
theorem law07_same_abs (a : List Row) : PCalls Try.prog n_law07_same [aRows a, aRows a] (Go.Abs.B true) := by
 refine PCalls.of is_law07_same (by simp) fun hb => runW_sound ?_
 have hba : a.length ≤ 9223372036854775807 := by have := hb.1; simpa [bndV, bndA] using this
 clear hb
 simp only [c_law07_same]
 repeat' first | simp (disch := omega) only [go_sem, ↓reduceIte, Nat.reduceEqDiff, reduceCtorEq, Int.reduceEq] | ((with_reducible first | refine condD ?_ ?_ | refine condX ?_ ?_ | refine condW_intro ?_ ?_) <;> intro h <;> first | (exfalso; omega) | simp (disch := omega) only [go_sem, ↓reduceIte, Nat.reduceEqDiff, reduceCtorEq, Int.reduceEq, *] | skip)
 refine AW_loop (fun k : Nat => ⟨[(0, aRows a), (1, aRows a), (5, I k)], [], 0, 0⟩) (fun k => k ≤ a.length) (fun k => a.length - k) ⟨0, [], Nat.zero_le _, by simp [Wk, wkF, wkM, wkL, look_cons, renV, renA, renC, renB, rn, clV, clA, clAs, clB, notIn, findB, findB_setB, clA.go]⟩ ?_
 intro k hk
 refine runW_sound ?_
 by_cases hlt : k < a.length
 ·have g1 := map_get (f := rCells) hlt
  generalize a[k] = z at *
  obtain ⟨⟨⟨K, l⟩, q⟩, b⟩ := z
  simp only [rCells] at g1
  have p1 := base_Con_abs ((K, l), q) ((K, l), q)
  have p2 := base_Int64s_abs b b
  rw [decide_eq_true rfl] at p1 p2
  repeat' first | simp (disch := omega) only [go_sem, ↓reduceIte, Nat.reduceEqDiff, reduceCtorEq, Int.reduceEq, g1, wrap_i64] | ((with_reducible first | refine condD ?_ ?_ | refine condX ?_ ?_ | refine condW_intro ?_ ?_) <;> intro h <;> first | (exfalso; omega) | simp (disch := omega) only [go_sem, ↓reduceIte, Nat.reduceEqDiff, reduceCtorEq, Int.reduceEq, *, g1, wrap_i64] | skip) | (refine callW_of p1 rfl (.inl rfl) ?_) | (refine callW_of p2 rfl (.inl rfl) ?_)
  exact ⟨k + 1, [], hlt, by omega, by simp [Wk, wkF, wkM, wkL, look_cons, renV, renA, renC, renB, rn, clV, clA, clAs, clB, notIn, findB, findB_setB, clA.go]⟩
 ·repeat' first | simp (disch := omega) only [go_sem, ↓reduceIte, Nat.reduceEqDiff, reduceCtorEq, Int.reduceEq] | ((with_reducible first | refine condD ?_ ?_ | refine condX ?_ ?_ | refine condW_intro ?_ ?_) <;> intro h <;> first | (exfalso; omega) | simp (disch := omega) only [go_sem, ↓reduceIte, Nat.reduceEqDiff, reduceCtorEq, Int.reduceEq, *] | skip)
  all_goals rfl
theorem ElimEliminates_abs (ps0 ps1 : List PC) (h0 : OkPs [.slice [.int .i64, .slice [.str, .int .i64], .bool]] ps0) (h1 : OkPs [.str] ps1) :
  PCalls Try.prog 10 [argV false ps0, argV false ps1] (Go.Abs.B true) := by
 obtain ⟨l, rfl, hl, _⟩ := okConsL h0
 obtain ⟨_, rfl, k1⟩ := okOne h1
 obtain ⟨n, rfl, _⟩ := okStr k1
 clear h0 h1 k1
 show PCalls _ n_law07_ElimEliminates [aCons l, S n] _
 refine PCalls.of is_law07_ElimEliminates (by simp) fun _ => runW_sound ?_
 have pf := law07_few_abs l 40
 simp only [c_law07_ElimEliminates]
 by_cases hf : fewP l 40
 ·have ht := few_tot hf.2
  have hl40 := hf.1
  have q1 := elim_Eliminate_abs (n := n) hl (by omega)
  have q2 := ref07_Eliminate_abs (n := n) hl (by omega)
  have q3 := law07_same_abs (elimS l n).1
  rw [decide_eq_true hf] at pf
  clear hf hl ht hl40
  generalize elimS l n = R at *
  obtain ⟨R, e⟩ := R
  by_cases hn : (n.size : Int) > 100
  ·repeat' first | simp (disch := omega) only [go_sem, ↓reduceIte, Nat.reduceEqDiff, reduceCtorEq, Int.reduceEq, hn] | ((with_reducible first | refine condD ?_ ?_ | refine condX ?_ ?_ | refine condW_intro ?_ ?_) <;> intro h <;> first | (exfalso; omega) | simp (disch := omega) only [go_sem, ↓reduceIte, Nat.reduceEqDiff, reduceCtorEq, Int.reduceEq, *, hn] | skip) | (refine callW_of pf rfl (.inl rfl) ?_) | (refine callW_of law07_examples_abs rfl (.inl rfl) ?_)
  ·repeat' first | simp (disch := omega) only [go_sem, ↓reduceIte, Nat.reduceEqDiff, reduceCtorEq, Int.reduceEq, hn] | ((with_reducible first | refine condD ?_ ?_ | refine condX ?_ ?_ | refine condW_intro ?_ ?_) <;> intro h <;> first | (exfalso; omega) | simp (disch := omega) only [go_sem, ↓reduceIte, Nat.reduceEqDiff, reduceCtorEq, Int.reduceEq, *, hn] | skip) | (refine callW_of pf rfl (.inl rfl) ?_) | (refine callW_of q1 rfl (.inr rfl) ?_) | (refine callW_of q2 rfl (.inr rfl) ?_) | (refine callW_of q3 rfl (.inl rfl) ?_) | (refine callW_of law07_examples_abs rfl (.inl rfl) ?_)
 ·rw [decide_eq_false hf] at pf
  clear hf hl
  repeat' first | simp (disch := omega) only [go_sem, ↓reduceIte, Nat.reduceEqDiff, reduceCtorEq, Int.reduceEq] | ((with_reducible first | refine condD ?_ ?_ | refine condX ?_ ?_ | refine condW_intro ?_ ?_) <;> intro h <;> first | (exfalso; omega) | simp (disch := omega) only [go_sem, ↓reduceIte, Nat.reduceEqDiff, reduceCtorEq, Int.reduceEq, *] | skip) | (refine callW_of pf rfl (.inl rfl) ?_) | (refine callW_of law07_examples_abs rfl (.inl rfl) ?_)

/-! ElimSound. -/
theorem comb_short {l : List Con} {b : List Int} {c : Con} (h : conCombine l b = (c, 0)) : c.1.2.length ≤ tot l := by
 obtain ⟨_, _, h3, _, h5, _⟩ := conCombine_spec h
 obtain ⟨h1, h2⟩ := linOk_iff.1 h3
 have hn : (c.1.2.map (·.1)).Nodup := by
  refine List.pairwise_map.2 (h1.imp fun {a b} hab e => ?_)
  rw [e] at hab
  exact sless_irrefl _ hab
 have := nodup_le hn (m := l.flatMap fun c => c.1.2.map (·.1)) fun x hx => by
  obtain ⟨m, hm, rfl⟩ := List.mem_map.1 hx
  have hc : dotC m.1 (l.zip b) ≠ 0 := by
   rw [← h5, cf_mem h1 hm]
   exact (h2 m hm).2
  obtain ⟨p, hp, h0⟩ := dotC_in hc
  obtain ⟨z, hz, h3, _⟩ := cf_in h0
  exact List.mem_flatMap.2 ⟨p.1, (List.of_mem_zip hp).1, List.mem_map.2 ⟨z, hz, h3⟩⟩
 rw [tot_flat, List.length_map] at this
 exact this
noncomputable def allH (env : List Mono) (l : List Con) : Bool := decide (∀ c ∈ l, holdsE env c)
set_option maxHeartbeats 2000000 in
theorem ElimSound_abs (ps0 ps1 ps2 : List PC) (h0 : OkPs [.slice [.int .i64, .slice [.str, .int .i64], .bool]] ps0) (h1 : OkPs [.str] ps1) (h2 : OkPs [.slice [.str, .int .i64]] ps2) :
  PCalls Try.prog 12 [argV false ps0, argV false ps1, argV false ps2] (Go.Abs.B true) := by
 obtain ⟨l, rfl, hl, _⟩ := okConsL h0
 obtain ⟨_, rfl, k1⟩ := okOne h1
 obtain ⟨n, rfl, _⟩ := okStr k1
 obtain ⟨_, rfl, k2⟩ := okOne h2
 obtain ⟨env, rfl, henv, _⟩ := okMonos k2
 clear h0 h1 h2 k1 k2
 show PCalls _ n_law07_ElimSound [aCons l, S n, aSl mP env] _
 refine PCalls.of is_law07_ElimSound (by simp) fun _ => runW_sound ?_
 have pf := law07_few_abs l 12
 have pm := law07_small_abs env
 simp only [c_law07_ElimSound]
 by_cases hf : fewP l 12
 ·have pw := ref07_Within_abs hl (fun c hc => by have := hf.2 c hc; omega) 1000 12
  rw [decide_eq_true hf] at pf
  by_cases hw : withinP l (1000 : Nat) 12
  ·rw [decide_eq_true hw] at pw
   by_cases hm : smallP env
   ·rw [decide_eq_true hm] at pm
    by_cases hn : (n.size : Int) > 100
    ·clear hw hm hf
     repeat' first | simp (disch := omega) only [go_sem, ↓reduceIte, Nat.reduceEqDiff, reduceCtorEq, Int.reduceEq, hn] | ((with_reducible first | refine condD ?_ ?_ | refine condX ?_ ?_ | refine condW_intro ?_ ?_) <;> intro h <;> first | (exfalso; omega) | simp (disch := omega) only [go_sem, ↓reduceIte, Nat.reduceEqDiff, reduceCtorEq, Int.reduceEq, *, hn] | skip) | (refine callW_of pf rfl (.inl rfl) ?_) | (refine callW_of pw rfl (.inl rfl) ?_) | (refine callW_of pm rfl (.inl rfl) ?_) | (refine callW_of law07_examples_abs rfl (.inl rfl) ?_)
    ·have ht := few_tot hf.2
     have hl12 := hf.1
     have q1 := elim_Eliminate_abs (n := n) hl (by omega)
     by_cases he : (elimS l n).2 = 0
     ·have hB : ∀ d ∈ l, d.1.1.natAbs ≤ 1000 ∧ ∀ m ∈ d.1.2, m.2.natAbs ≤ 1000 := fun d hd => by
       obtain ⟨h1, _, h3⟩ := hw d hd
       exact ⟨by omega, fun m hm => by have := h3 m hm; omega⟩
      have hout := elimS_out (l := l) (n := n) (M := 1000) (by decide) (fun c hc => cf_natAbs (hB c hc).2 n) he
      have hR : ∀ r ∈ (elimS l n).1, conCombine l r.2 = (r.1, 0) ∧ cf r.1.1.2 n = 0 ∧ (∀ b ∈ r.2, in64 b) ∧
        PCalls Try.prog n_ref07_Holds [aCon r.1, aSl mP env] (Go.Abs.B (decide (holdsE env r.1))) ∧ ((∀ c ∈ l, holdsE env c) → holdsE env r.1) := fun r hr => by
       have ho := hout r hr
       obtain ⟨c1, c2⟩ := comb_abs ho.comb hB ho.small
       have c3 := comb_short ho.comb
       have hlen : l.length * (1000 * 1000) ≤ 12 * (1000 * 1000) := Nat.mul_le_mul_right _ (by omega)
       refine ⟨ho.comb, ho.gone, fun b hb => by have := ho.small b hb; unfold in64; omega, ref07_Holds_abs (by unfold absLe; omega) (fun m hm => by have := c2 m hm; unfold absLe; omega) hm.1 (by omega), fun h => conCombine_holds ho.comb h⟩
      have ph := fun (c : Con) (hc : c ∈ l) => ref07_Holds_abs (c := c) (env := env) (by have := (within_lin hw hc).1; unfold absLe at *; omega) (fun m hm => by have := (within_lin hw hc).2.2 m hm; unfold absLe at *; omega) hm.1 (by have := (within_lin hw hc).2.1; omega)
      have pcc := fun (b : List Int) (hb : ∀ x ∈ b, in64 x) => constraint_Combine_abs (b := b) hl hb (by omega)
      clear hout hB hw hm hf ht henv hl
      generalize elimS l n = D at *
      obtain ⟨D, e⟩ := D
      simp only at he hR
      subst he
      have HRR := Lib.hid hR
      have PH := Lib.hid ph
      have PCC := Lib.hid pcc
      clear hR ph pcc
      repeat' first | simp (disch := omega) only [go_sem, ↓reduceIte, Nat.reduceEqDiff, reduceCtorEq, Int.reduceEq, hn] | ((with_reducible first | refine condD ?_ ?_ | refine condX ?_ ?_ | refine condW_intro ?_ ?_) <;> intro h <;> first | (exfalso; omega) | simp (disch := omega) only [go_sem, ↓reduceIte, Nat.reduceEqDiff, reduceCtorEq, Int.reduceEq, *, hn] | skip) | (refine callW_of pf rfl (.inl rfl) ?_) | (refine callW_of pw rfl (.inl rfl) ?_) | (refine callW_of pm rfl (.inl rfl) ?_) | (refine callW_of q1 rfl (.inr rfl) ?_)
      clear q1 pf pw pm
      refine AW_loop (fun k : Nat => ⟨[(0, aCons l), (1, S n), (2, aSl mP env), (7, aRows D), (9, Go.Abs.B (allH env (l.take k))), (10, I k)], [], 0, 0⟩) (fun k => k ≤ l.length) (fun k => l.length - k) ⟨0, [], Nat.zero_le _, by simp [Wk, wkF, wkM, wkL, look_cons, renV, renA, renC, renB, rn, clV, clA, clAs, clB, notIn, findB, findB_setB, clA.go, allH]⟩ ?_
      intro k hk
      refine runW_sound ?_
      by_cases hlt : k < l.length
      ·have g1 := map_get (f := cP) hlt
       have ph := PH.out _ (List.getElem_mem hlt)
       have ea : allH env (l.take (k + 1)) = (allH env (l.take k) && decide (holdsE env l[k])) := by
        rw [List.take_succ_eq_append_getElem hlt, allH, allH, Bool.eq_iff_iff]
        simp only [decide_eq_true_eq, Bool.and_eq_true, List.mem_append, List.mem_singleton]
        exact ⟨fun h => ⟨fun c hc => h c (.inl hc), h _ (.inr rfl)⟩, fun h c hc => hc.elim (h.1 c) fun e => e ▸ h.2⟩
       generalize decide (holdsE env l[k]) = hh at *
       generalize allH env (l.take k) = ak at *
       generalize l[k] = c at *
       obtain ⟨⟨ck, cl⟩, q⟩ := c
       simp only [cP] at g1
       cases ak
       all_goals
        repeat' first | simp (disch := omega) only [go_sem, ↓reduceIte, Nat.reduceEqDiff, reduceCtorEq, Int.reduceEq, g1, wrap_i64] | ((with_reducible first | refine condD ?_ ?_ | refine condX ?_ ?_ | refine condW_intro ?_ ?_) <;> intro h <;> first | (exfalso; omega) | simp (disch := omega) only [go_sem, ↓reduceIte, Nat.reduceEqDiff, reduceCtorEq, Int.reduceEq, *, g1, wrap_i64] | skip) | (refine callW_of ph rfl (.inl rfl) ?_)
        exact ⟨k + 1, [], hlt, by omega, by simp [Wk, wkF, wkM, wkL, look_cons, renV, renA, renC, renB, rn, clV, clA, clAs, clB, notIn, findB, findB_setB, clA.go, ea]⟩
      ·rw [List.take_of_length_le (by omega)]
       have HA : Hid (allH env l = true → ∀ c ∈ l, holdsE env c) := Lib.hid fun h => of_decide_eq_true h
       generalize allH env l = al at *
       clear PH
       repeat' first | simp (disch := omega) only [go_sem, ↓reduceIte, Nat.reduceEqDiff, reduceCtorEq, Int.reduceEq] | ((with_reducible first | refine condD ?_ ?_ | refine condX ?_ ?_ | refine condW_intro ?_ ?_) <;> intro h <;> first | (exfalso; omega) | simp (disch := omega) only [go_sem, ↓reduceIte, Nat.reduceEqDiff, reduceCtorEq, Int.reduceEq, *] | skip)
       refine AW_bnd 7 fun hbd => ?_
       have hDl : D.length ≤ 9223372036854775807 := by simpa [look_cons, bndV, bndA] using hbd
       clear hbd
       refine AW_loop (fun j : Nat => ⟨[(0, aCons l), (1, S n), (2, aSl mP env), (7, aRows D), (9, Go.Abs.B al), (11, I j)], [], 0, 0⟩) (fun j => j ≤ D.length) (fun j => D.length - j) ⟨0, [], Nat.zero_le _, by simp [Wk, wkF, wkM, wkL, look_cons, renV, renA, renC, renB, rn, clV, clA, clAs, clB, notIn, findB, findB_setB, clA.go]⟩ ?_
       intro j hj
       refine runW_sound ?_
       by_cases hlj : j < D.length
       ·have g1 := map_get (f := rCells) hlj
        obtain ⟨r1, r2, r3, r4, r5⟩ := HRR.out _ (List.getElem_mem hlj)
        generalize D[j] = z at *
        obtain ⟨⟨⟨K, m⟩, q⟩, b⟩ := z
        simp only [rCells] at g1
        simp only at r1 r2 r3 r4 r5
        have pc := PCC.out b r3
        rw [r1] at pc
        have pe := base_Con_abs ((K, m), q) ((K, m), q)
        rw [decide_eq_true rfl] at pe
        have pco := lin_Coeff_abs K m n
        rw [r2] at pco
        clear r1 r2 r3
        cases al
        ·clear r5 r4
         repeat' first | simp (disch := omega) only [go_sem, ↓reduceIte, Nat.reduceEqDiff, reduceCtorEq, Int.reduceEq, g1, wrap_i64] | ((with_reducible first | refine condD ?_ ?_ | refine condX ?_ ?_ | refine condW_intro ?_ ?_) <;> intro h <;> first | (exfalso; omega) | simp (disch := omega) only [go_sem, ↓reduceIte, Nat.reduceEqDiff, reduceCtorEq, Int.reduceEq, *, g1, wrap_i64] | skip) | (refine callW_of pc rfl (.inr rfl) ?_) | (refine callW_of pe rfl (.inl rfl) ?_) | (refine callW_of pco rfl (.inl rfl) ?_)
         exact ⟨j + 1, [], hlj, by omega, by simp [Wk, wkF, wkM, wkL, look_cons, renV, renA, renC, renB, rn, clV, clA, clAs, clB, notIn, findB, findB_setB, clA.go]⟩
        ·have hh := r5 (HA.out rfl)
         rw [decide_eq_true hh] at r4
         clear r5 hh
         repeat' first | simp (disch := omega) only [go_sem, ↓reduceIte, Nat.reduceEqDiff, reduceCtorEq, Int.reduceEq, g1, wrap_i64] | ((with_reducible first | refine condD ?_ ?_ | refine condX ?_ ?_ | refine condW_intro ?_ ?_) <;> intro h <;> first | (exfalso; omega) | simp (disch := omega) only [go_sem, ↓reduceIte, Nat.reduceEqDiff, reduceCtorEq, Int.reduceEq, *, g1, wrap_i64] | skip) | (refine callW_of pc rfl (.inr rfl) ?_) | (refine callW_of pe rfl (.inl rfl) ?_) | (refine callW_of pco rfl (.inl rfl) ?_) | (refine callW_of r4 rfl (.inl rfl) ?_)
         exact ⟨j + 1, [], hlj, by omega, by simp [Wk, wkF, wkM, wkL, look_cons, renV, renA, renC, renB, rn, clV, clA, clAs, clB, notIn, findB, findB_setB, clA.go]⟩
       ·clear HRR PCC HA
        repeat' first | simp (disch := omega) only [go_sem, ↓reduceIte, Nat.reduceEqDiff, reduceCtorEq, Int.reduceEq] | ((with_reducible first | refine condD ?_ ?_ | refine condX ?_ ?_ | refine condW_intro ?_ ?_) <;> intro h <;> first | (exfalso; omega) | simp (disch := omega) only [go_sem, ↓reduceIte, Nat.reduceEqDiff, reduceCtorEq, Int.reduceEq, *] | skip) | (refine callW_of law07_examples_abs rfl (.inl rfl) ?_)
        all_goals rfl
     ·have hz := elimS_err he
      clear hw hm hf ht henv hl
      generalize elimS l n = D at *
      obtain ⟨D, e⟩ := D
      simp only at he hz
      subst hz
      repeat' first | simp (disch := omega) only [go_sem, ↓reduceIte, Nat.reduceEqDiff, reduceCtorEq, Int.reduceEq, hn, he] | ((with_reducible first | refine condD ?_ ?_ | refine condX ?_ ?_ | refine condW_intro ?_ ?_) <;> intro h <;> first | (exfalso; omega) | simp (disch := omega) only [go_sem, ↓reduceIte, Nat.reduceEqDiff, reduceCtorEq, Int.reduceEq, *, hn, he] | skip) | (refine callW_of pf rfl (.inl rfl) ?_) | (refine callW_of pw rfl (.inl rfl) ?_) | (refine callW_of pm rfl (.inl rfl) ?_) | (refine callW_of q1 rfl (.inr rfl) ?_) | (refine callW_of law07_examples_abs rfl (.inl rfl) ?_)
      all_goals rfl
   ·rw [decide_eq_false hm] at pm
    clear hw hm hf
    repeat' first | simp (disch := omega) only [go_sem, ↓reduceIte, Nat.reduceEqDiff, reduceCtorEq, Int.reduceEq] | ((with_reducible first | refine condD ?_ ?_ | refine condX ?_ ?_ | refine condW_intro ?_ ?_) <;> intro h <;> first | (exfalso; omega) | simp (disch := omega) only [go_sem, ↓reduceIte, Nat.reduceEqDiff, reduceCtorEq, Int.reduceEq, *] | skip) | (refine callW_of pf rfl (.inl rfl) ?_) | (refine callW_of pw rfl (.inl rfl) ?_) | (refine callW_of pm rfl (.inl rfl) ?_) | (refine callW_of law07_examples_abs rfl (.inl rfl) ?_)
  ·rw [decide_eq_false hw] at pw
   clear hw hf
   repeat' first | simp (disch := omega) only [go_sem, ↓reduceIte, Nat.reduceEqDiff, reduceCtorEq, Int.reduceEq] | ((with_reducible first | refine condD ?_ ?_ | refine condX ?_ ?_ | refine condW_intro ?_ ?_) <;> intro h <;> first | (exfalso; omega) | simp (disch := omega) only [go_sem, ↓reduceIte, Nat.reduceEqDiff, reduceCtorEq, Int.reduceEq, *] | skip) | (refine callW_of pf rfl (.inl rfl) ?_) | (refine callW_of pw rfl (.inl rfl) ?_) | (refine callW_of pm rfl (.inl rfl) ?_) | (refine callW_of law07_examples_abs rfl (.inl rfl) ?_)
 ·rw [decide_eq_false hf] at pf
  clear hf
  repeat' first | simp (disch := omega) only [go_sem, ↓reduceIte, Nat.reduceEqDiff, reduceCtorEq, Int.reduceEq] | ((with_reducible first | refine condD ?_ ?_ | refine condX ?_ ?_ | refine condW_intro ?_ ?_) <;> intro h <;> first | (exfalso; omega) | simp (disch := omega) only [go_sem, ↓reduceIte, Nat.reduceEqDiff, reduceCtorEq, Int.reduceEq, *] | skip) | (refine callW_of pf rfl (.inl rfl) ?_) | (refine callW_of law07_examples_abs rfl (.inl rfl) ?_)
end Go.Proofs.Ytkdgmbakhkdegaa
