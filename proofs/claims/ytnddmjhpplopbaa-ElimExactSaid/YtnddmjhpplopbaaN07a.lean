/- Walks by the abstract machine: values of forms, small constraints; the law ElimNever. -/
import Derived.Test.YtnddmjhpplopbaaV07yl
set_option linter.unusedVariables false
set_option linter.unusedSimpArgs false
set_option maxRecDepth 20000
namespace Go.Proofs.Ytnddmjhpplopbaa
open Go.Abs Go.RowKit

def absLe (x M : Int) : Prop := -M ≤ x ∧ x ≤ M
theorem evI_append {x : ByteArray → Int} : ∀ {l m : List Mono}, evI x (l ++ m) = evI x l + evI x m
 | [], m => by simp [evI]
 |a :: l, m => by
  rw [List.cons_append, evI, evI, evI_append]
  omega
theorem evI_take {x : ByteArray → Int} {l : List Mono} {k : Nat} (h : k < l.length) : evI x (l.take (k + 1)) = evI x (l.take k) + l[k].2 * x l[k].1 := by
 rw [List.take_succ_eq_append_getElem h, evI_append, evI, evI]
 omega
theorem cf_abs {M : Int} (hM : 0 ≤ M) {env : List Mono} (h : ∀ b ∈ env, absLe b.2 M) (n : ByteArray) : absLe (cf env n) M := by
 by_cases h0 : cf env n = 0
 ·rw [h0]; unfold absLe; omega
 ·obtain ⟨b, h1, _, h2⟩ := cf_in h0
  rw [← h2]
  exact h b h1
theorem mul_absLe {x y M N : Int} (hx : absLe x M) (hy : absLe y N) : absLe (x * y) (M * N) := by
 obtain ⟨h1, h2⟩ := hx
 obtain ⟨h3, h4⟩ := hy
 have h : (x * y).natAbs ≤ M.natAbs * N.natAbs := by
  rw [Int.natAbs_mul]
  exact Nat.mul_le_mul (by omega) (by omega)
 have hM : (M.natAbs : Int) = M := by omega
 have hN : (N.natAbs : Int) = N := by omega
 have h' : ((x * y).natAbs : Int) ≤ M * N := by
  rw [← hM, ← hN, ← Int.natCast_mul]
  exact_mod_cast h
 unfold absLe
 omega
theorem evI_abs {M N : Int} {x : ByteArray → Int} (hx : ∀ n, absLe (x n) N) : ∀ {l : List Mono}, (∀ m ∈ l, absLe m.2 M) → absLe (evI x l) (M * N * l.length)
 | [], _ => by simp [evI, absLe]
 |m :: l, h => by
  have h1 := evI_abs hx fun y hy => h y (List.mem_cons_of_mem _ hy)
  have h2 := mul_absLe (h m List.mem_cons_self) (hx m.1)
  have e : M * N * ((m :: l).length : Int) = M * N * l.length + M * N := by
   rw [List.length_cons, Int.natCast_add, Int.mul_add]
   simp
  rw [evI, e]
  unfold absLe at *
  omega
theorem ref07_Value_abs {k : Int} {l env : List Mono} (hk : absLe k 1000000000000) (hl : ∀ m ∈ l, absLe m.2 1000000000) (he : ∀ b ∈ env, absLe b.2 1000) (hs : l.length ≤ 10000) :
  PCalls Try.prog n_ref07_Value [aLin k l, aSl mP env] (I (k + evI (cf env) l)) := by
 refine PCalls.of is_ref07_Value (by simp) fun hb => runW_sound ?_
 have hbe : env.length ≤ 9223372036854775807 := by have := hb.2.1; simpa [bndV, bndA] using this
 clear hb
 simp only [c_ref07_Value]
 have hc := fun n => cf_abs (M := 1000) (by decide) he n
 repeat' first | simp (disch := omega) only [go_sem, ↓reduceIte, Nat.reduceEqDiff, reduceCtorEq, Int.reduceEq] | ((with_reducible first | refine condD ?_ ?_ | refine condX ?_ ?_ | refine condW_intro ?_ ?_) <;> intro h <;> first | (exfalso; omega) | simp (disch := omega) only [go_sem, ↓reduceIte, Nat.reduceEqDiff, reduceCtorEq, Int.reduceEq, *] | skip)
 refine AW_loop (fun i : Nat => ⟨[(1, aSl mP env), (2, .c (.ptr 0 0)), (5, I (k + evI (cf env) (l.take i))), (6, I i)], [(0, .var [.pure (pI k), .pure (pMonos l)])], 1, 0⟩) (fun i => i ≤ l.length) (fun i => l.length - i) ⟨0, [], Nat.zero_le _, by simp [Wk, wkF, wkM, wkL, look_cons, renV, renA, renC, renB, rn, clV, clA, clAs, clB, notIn, findB, findB_setB, clA.go, evI]⟩ ?_
 intro i hi
 refine runW_sound ?_
 by_cases hlt : i < l.length
 ·have g1 := map_get (f := mP) hlt
  have et := evI_take (x := cf env) hlt
  have hx := hl _ (List.getElem_mem hlt)
  have hb1 : absLe (evI (cf env) (l.take i)) 10000000000000000 := by
   have := evI_abs (x := cf env) hc (l := l.take i) (fun m hm => hl m (List.mem_of_mem_take hm))
   rw [List.length_take] at this
   unfold absLe at *
   omega
  have hcn := hc l[i].1
  generalize l[i] = m at *
  obtain ⟨n, x⟩ := m
  simp only [mP] at g1
  simp only at et hx hcn
  have hm := mul_absLe hx hcn
  obtain ⟨V, hV⟩ : ∃ V, V = cf env n := ⟨_, rfl⟩
  rw [← hV] at et hm
  have HV : Hid (V = cf (env.drop 0) n) := Lib.hid hV
  have hw : IntKind.wrap .i64 (x * V) = x * V := wrap_i64 (by unfold absLe at hm; omega)
  have hw2 : IntKind.wrap .i64 (k + evI (cf env) (l.take i) + x * V) = k + (evI (cf env) (l.take i) + x * V) := by
   unfold absLe at *
   rw [wrap_i64 (by omega)]
   omega
  clear hV hm hb1 hcn hx
  generalize evI (cf env) (l.take i) = E at *
  repeat' first | simp (disch := omega) only [go_sem, ↓reduceIte, Nat.reduceEqDiff, reduceCtorEq, Int.reduceEq, g1] | ((with_reducible first | refine condD ?_ ?_ | refine condX ?_ ?_ | refine condW_intro ?_ ?_) <;> intro h <;> first | (exfalso; omega) | simp (disch := omega) only [go_sem, ↓reduceIte, Nat.reduceEqDiff, reduceCtorEq, Int.reduceEq, *, g1] | skip)
  refine AW_loop (fun j : Nat => ⟨[(1, aSl mP env), (2, .c (.ptr 0 0)), (5, I (k + E)), (6, I i), (7, I j)], [(0, .var [.pure (pI k), .pure (pMonos l)])], 1, 0⟩) (fun j => j ≤ env.length ∧ Hid (V = cf (env.drop j) n)) (fun j => env.length - j) ⟨0, [], ⟨Nat.zero_le _, HV⟩, by simp [Wk, wkF, wkM, wkL, look_cons, renV, renA, renC, renB, rn, clV, clA, clAs, clB, notIn, findB, findB_setB, clA.go]⟩ ?_
  clear HV
  rintro j ⟨hj, HV⟩
  refine runW_sound ?_
  by_cases hlj : j < env.length
  ·have g2 := map_get (f := mP) hlj
   have h2 := HV.out
   rw [List.drop_eq_getElem_cons hlj, cf] at h2
   clear HV
   generalize env[j] = b at *
   obtain ⟨n', v⟩ := b
   simp only [mP] at g2
   simp only at h2
   by_cases hn : n' = n
   ·rw [if_pos hn] at h2
    subst h2
    subst hn
    repeat' first | simp (disch := omega) only [go_sem, ↓reduceIte, Nat.reduceEqDiff, reduceCtorEq, Int.reduceEq, g1, g2, hw, hw2, wrap_i64] | ((with_reducible first | refine condD ?_ ?_ | refine condX ?_ ?_ | refine condW_intro ?_ ?_) <;> intro h <;> first | (exfalso; omega) | simp (disch := omega) only [go_sem, ↓reduceIte, Nat.reduceEqDiff, reduceCtorEq, Int.reduceEq, *, g1, g2, hw, hw2, wrap_i64] | skip)
    exact ⟨i + 1, [], hlt, by omega, by simp [Wk, wkF, wkM, wkL, look_cons, renV, renA, renC, renB, rn, clV, clA, clAs, clB, notIn, findB, findB_setB, clA.go, et]⟩
   ·rw [if_neg hn] at h2
    have HV := Lib.hid h2
    clear h2 hw hw2
    repeat' first | simp (disch := omega) only [go_sem, ↓reduceIte, Nat.reduceEqDiff, reduceCtorEq, Int.reduceEq, g1, g2, hn, wrap_i64] | ((with_reducible first | refine condD ?_ ?_ | refine condX ?_ ?_ | refine condW_intro ?_ ?_) <;> intro h <;> first | (exfalso; omega) | simp (disch := omega) only [go_sem, ↓reduceIte, Nat.reduceEqDiff, reduceCtorEq, Int.reduceEq, *, g1, g2, hn, wrap_i64] | skip)
    exact ⟨j + 1, [], ⟨hlj, HV⟩, by omega, by simp [Wk, wkF, wkM, wkL, look_cons, renV, renA, renC, renB, rn, clV, clA, clAs, clB, notIn, findB, findB_setB, clA.go]⟩
  ·have h2 := HV.out
   rw [List.drop_eq_nil_of_le (by omega), cf] at h2
   subst h2
   rw [Int.mul_zero, Int.add_zero] at et
   clear HV hw hw2
   repeat' first | simp (disch := omega) only [go_sem, ↓reduceIte, Nat.reduceEqDiff, reduceCtorEq, Int.reduceEq, wrap_i64] | ((with_reducible first | refine condD ?_ ?_ | refine condX ?_ ?_ | refine condW_intro ?_ ?_) <;> intro h <;> first | (exfalso; omega) | simp (disch := omega) only [go_sem, ↓reduceIte, Nat.reduceEqDiff, reduceCtorEq, Int.reduceEq, *, wrap_i64] | skip)
   exact ⟨i + 1, [], hlt, by omega, by simp [Wk, wkF, wkM, wkL, look_cons, renV, renA, renC, renB, rn, clV, clA, clAs, clB, notIn, findB, findB_setB, clA.go, et]⟩
 ·obtain rfl : i = l.length := by omega
  rw [List.take_of_length_le (Nat.le_refl _)]
  repeat' first | simp (disch := omega) only [go_sem, ↓reduceIte, Nat.reduceEqDiff, reduceCtorEq, Int.reduceEq] | ((with_reducible first | refine condD ?_ ?_ | refine condX ?_ ?_ | refine condW_intro ?_ ?_) <;> intro h <;> first | (exfalso; omega) | simp (disch := omega) only [go_sem, ↓reduceIte, Nat.reduceEqDiff, reduceCtorEq, Int.reduceEq, *] | skip)
/-- The constraint holds in the environment. -/
def holdsE (env : List Mono) (c : Con) : Prop := holds (castX (cf env)) c
noncomputable instance (env : List Mono) (c : Con) : Decidable (holdsE env c) := Classical.propDecidable _
theorem ref07_Holds_abs {c : Con} {env : List Mono} (hk : absLe c.1.1 1000000000000) (hl : ∀ m ∈ c.1.2, absLe m.2 1000000000) (he : ∀ b ∈ env, absLe b.2 1000) (hs : c.1.2.length ≤ 10000) :
  PCalls Try.prog n_ref07_Holds [aCon c, aSl mP env] (Go.Abs.B (decide (holdsE env c))) := by
 refine PCalls.of is_ref07_Holds (by simp) fun _ => runW_sound ?_
 simp only [c_ref07_Holds]
 obtain ⟨⟨k, l⟩, q⟩ := c
 have pv := ref07_Value_abs hk hl he hs
 simp only at pv
 have e : decide (holdsE env ((k, l), q)) = (decide (k + evI (cf env) l = 0) || (decide (0 < k + evI (cf env) l) && !q)) := by
  rw [Bool.eq_iff_iff]
  simp only [decide_eq_true_eq, Bool.or_eq_true, Bool.and_eq_true, Bool.not_eq_true', holdsE, holds_cast]
  cases q
  ·simp; omega
  ·simp; omega
 rw [e]
 clear e
 generalize k + evI (cf env) l = V at *
 by_cases h0 : V = 0
 ·subst h0
  cases q
  all_goals
   repeat' first | simp (disch := omega) only [go_sem, ↓reduceIte, Nat.reduceEqDiff, reduceCtorEq, Int.reduceEq] | ((with_reducible first | refine condD ?_ ?_ | refine condX ?_ ?_ | refine condW_intro ?_ ?_) <;> intro h <;> first | (exfalso; omega) | simp (disch := omega) only [go_sem, ↓reduceIte, Nat.reduceEqDiff, reduceCtorEq, Int.reduceEq, *] | skip) | (refine callW_of pv rfl (.inl rfl) ?_)
   all_goals rfl
 ·by_cases h1 : 0 < V
  ·cases q
   all_goals
    repeat' first | simp (disch := omega) only [go_sem, ↓reduceIte, Nat.reduceEqDiff, reduceCtorEq, Int.reduceEq, h0, h1] | ((with_reducible first | refine condD ?_ ?_ | refine condX ?_ ?_ | refine condW_intro ?_ ?_) <;> intro h <;> first | (exfalso; omega) | simp (disch := omega) only [go_sem, ↓reduceIte, Nat.reduceEqDiff, reduceCtorEq, Int.reduceEq, *, h0, h1] | skip) | (refine callW_of pv rfl (.inl rfl) ?_)
    all_goals simp [h0, h1]
  ·cases q
   all_goals
    repeat' first | simp (disch := omega) only [go_sem, ↓reduceIte, Nat.reduceEqDiff, reduceCtorEq, Int.reduceEq, h0, h1] | ((with_reducible first | refine condD ?_ ?_ | refine condX ?_ ?_ | refine condW_intro ?_ ?_) <;> intro h <;> first | (exfalso; omega) | simp (disch := omega) only [go_sem, ↓reduceIte, Nat.reduceEqDiff, reduceCtorEq, Int.reduceEq, *, h0, h1] | skip) | (refine callW_of pv rfl (.inl rfl) ?_)
    all_goals simp [h0, h1]
/-- Numbers up to M, n monomials at most. -/
def withinP (l : List Con) (M n : Int) : Prop := ∀ c ∈ l, (c.1.1.natAbs : Int) ≤ M ∧ (c.1.2.length : Int) ≤ n ∧ ∀ m ∈ c.1.2, (m.2.natAbs : Int) ≤ M
noncomputable instance (l : List Con) (M n : Int) : Decidable (withinP l M n) := Classical.propDecidable _
theorem ref07_Within_abs {l : List Con} (h64 : ∀ c ∈ l, con64 c) (hs : ∀ c ∈ l, c.1.2.length ≤ 1000000000) (M : Nat) (n : Int) : PCalls Try.prog n_ref07_Within [aCons l, U M, I n] (Go.Abs.B (decide (withinP l M n))) := by
 refine PCalls.of is_ref07_Within (by simp) fun hb => runW_sound ?_
 have hbl : l.length ≤ 9223372036854775807 := by have := hb.1; simpa [bndV, bndA] using this
 clear hb
 simp only [c_ref07_Within]
 obtain ⟨R, hR⟩ : ∃ R, R = decide (withinP l M n) := ⟨_, rfl⟩
 rw [← hR]
 have HR := Lib.hid hR
 clear hR
 repeat' first | simp (disch := omega) only [go_sem, ↓reduceIte, Nat.reduceEqDiff, reduceCtorEq, Int.reduceEq] | ((with_reducible first | refine condD ?_ ?_ | refine condX ?_ ?_ | refine condW_intro ?_ ?_) <;> intro h <;> first | (exfalso; omega) | simp (disch := omega) only [go_sem, ↓reduceIte, Nat.reduceEqDiff, reduceCtorEq, Int.reduceEq, *] | skip)
 refine AW_loop (fun k : Nat => ⟨[(0, aCons l), (1, U M), (2, I n), (7, I k)], [], 0, 0⟩) (fun k => k ≤ l.length ∧ Hid (withinP (l.take k) M n)) (fun k => l.length - k) ⟨0, [], ⟨Nat.zero_le _, Lib.hid (by simp [withinP])⟩, by simp [Wk, wkF, wkM, wkL, look_cons, renV, renA, renC, renB, rn, clV, clA, clAs, clB, notIn, findB, findB_setB, clA.go]⟩ ?_
 rintro k ⟨hk, HT⟩
 refine runW_sound ?_
 by_cases hlt : k < l.length
 ·have g1 := map_get (f := cP) hlt
  have hc := h64 _ (List.getElem_mem hlt)
  have hsl := hs _ (List.getElem_mem hlt)
  have hno : ¬ ((l[k].1.1.natAbs : Int) ≤ M ∧ (l[k].1.2.length : Int) ≤ n ∧ ∀ m ∈ l[k].1.2, (m.2.natAbs : Int) ≤ M) → R = false := fun h => by
   rw [HR.out]
   exact decide_eq_false fun hw => h (hw _ (List.getElem_mem hlt))
  have hyes : ((l[k].1.1.natAbs : Int) ≤ M ∧ (l[k].1.2.length : Int) ≤ n ∧ ∀ m ∈ l[k].1.2, (m.2.natAbs : Int) ≤ M) → Hid (withinP (l.take (k + 1)) M n) := fun h => Lib.hid (by
   rw [List.take_succ_eq_append_getElem hlt]
   intro c hcm
   rcases List.mem_append.1 hcm with h' | h'
   ·exact HT.out c h'
   ·rw [List.mem_singleton.1 h']; exact h)
  have HY := Lib.hid hyes
  have HN := Lib.hid hno
  clear HT hyes hno
  generalize l[k] = c at *
  obtain ⟨⟨ck, cl⟩, q⟩ := c
  simp only [cP] at g1
  have ps := ref07_size_abs hc.1
  have hcl := hc.2
  simp only at HY HN ps hcl hsl
  by_cases h1 : (ck.natAbs : Int) > M
  ·have hR := HN.out fun h => by omega
   subst hR
   clear HY HN
   generalize ck.natAbs = CK at *
   repeat' first | simp (disch := omega) only [go_sem, ↓reduceIte, Nat.reduceEqDiff, reduceCtorEq, Int.reduceEq, g1, h1, wrap_i64] | ((with_reducible first | refine condD ?_ ?_ | refine condX ?_ ?_ | refine condW_intro ?_ ?_) <;> intro h <;> first | (exfalso; omega) | simp (disch := omega) only [go_sem, ↓reduceIte, Nat.reduceEqDiff, reduceCtorEq, Int.reduceEq, *, g1, h1, wrap_i64] | skip) | (refine callW_of ps rfl (.inl rfl) ?_)
   all_goals rfl
  ·by_cases h2 : (cl.length : Int) > n
   ·have hR := HN.out fun h => by omega
    subst hR
    clear HY HN
    generalize ck.natAbs = CK at *
    repeat' first | simp (disch := omega) only [go_sem, ↓reduceIte, Nat.reduceEqDiff, reduceCtorEq, Int.reduceEq, g1, h1, h2, wrap_i64] | ((with_reducible first | refine condD ?_ ?_ | refine condX ?_ ?_ | refine condW_intro ?_ ?_) <;> intro h <;> first | (exfalso; omega) | simp (disch := omega) only [go_sem, ↓reduceIte, Nat.reduceEqDiff, reduceCtorEq, Int.reduceEq, *, g1, h1, h2, wrap_i64] | skip) | (refine callW_of ps rfl (.inl rfl) ?_)
    all_goals rfl
   ·have HY2 : Hid ((∀ m ∈ cl, (m.2.natAbs : Int) ≤ M) → Hid (withinP (l.take (k + 1)) M n)) := Lib.hid fun h => HY.out ⟨by omega, by omega, h⟩
    have HN2 : Hid ((∃ m ∈ cl, (m.2.natAbs : Int) > M) → R = false) := Lib.hid fun ⟨m, hm, h⟩ => HN.out fun h' => by have := h'.2.2 m hm; omega
    clear HY HN
    generalize ck.natAbs = CK at *
    repeat' first | simp (disch := omega) only [go_sem, ↓reduceIte, Nat.reduceEqDiff, reduceCtorEq, Int.reduceEq, g1, h1, h2, wrap_i64] | ((with_reducible first | refine condD ?_ ?_ | refine condX ?_ ?_ | refine condW_intro ?_ ?_) <;> intro h <;> first | (exfalso; omega) | simp (disch := omega) only [go_sem, ↓reduceIte, Nat.reduceEqDiff, reduceCtorEq, Int.reduceEq, *, g1, h1, h2, wrap_i64] | skip) | (refine callW_of ps rfl (.inl rfl) ?_)
    refine AW_loop (fun j : Nat => ⟨[(0, aCons l), (1, U M), (2, I n), (7, I k), (8, I j)], [], 0, 0⟩) (fun j => j ≤ cl.length ∧ Hid (∀ m ∈ cl.take j, (m.2.natAbs : Int) ≤ M)) (fun j => cl.length - j) ⟨0, [], ⟨Nat.zero_le _, Lib.hid (by simp)⟩, by simp [Wk, wkF, wkM, wkL, look_cons, renV, renA, renC, renB, rn, clV, clA, clAs, clB, notIn, findB, findB_setB, clA.go]⟩ ?_
    clear ps
    rintro j ⟨hj, HJ⟩
    refine runW_sound ?_
    by_cases hlj : j < cl.length
    ·have g2 := map_get (f := mP) hlj
     have hx := hcl _ (List.getElem_mem hlj)
     have ps := ref07_size_abs hx
     by_cases h3 : ((cl[j].2.natAbs : Nat) : Int) > M
     ·have hR := HN2.out ⟨_, List.getElem_mem hlj, h3⟩
      subst hR
      clear HJ HY2 HN2
      generalize cl[j] = m at *
      obtain ⟨mn, mx⟩ := m
      simp only [mP] at g2
      simp only at h3 ps
      generalize mx.natAbs = MX at *
      repeat' first | simp (disch := omega) only [go_sem, ↓reduceIte, Nat.reduceEqDiff, reduceCtorEq, Int.reduceEq, g1, g2, h3, wrap_i64] | ((with_reducible first | refine condD ?_ ?_ | refine condX ?_ ?_ | refine condW_intro ?_ ?_) <;> intro h <;> first | (exfalso; omega) | simp (disch := omega) only [go_sem, ↓reduceIte, Nat.reduceEqDiff, reduceCtorEq, Int.reduceEq, *, g1, g2, h3, wrap_i64] | skip) | (refine callW_of ps rfl (.inl rfl) ?_)
      all_goals rfl
     ·have HJ' : Hid (∀ m ∈ cl.take (j + 1), (m.2.natAbs : Int) ≤ M) := Lib.hid (by
       rw [List.take_succ_eq_append_getElem hlj]
       intro m hm
       rcases List.mem_append.1 hm with h' | h'
       ·exact HJ.out m h'
       ·rw [List.mem_singleton.1 h']; omega)
      clear HJ
      generalize cl[j] = m at *
      obtain ⟨mn, mx⟩ := m
      simp only [mP] at g2
      simp only at h3 ps
      generalize mx.natAbs = MX at *
      repeat' first | simp (disch := omega) only [go_sem, ↓reduceIte, Nat.reduceEqDiff, reduceCtorEq, Int.reduceEq, g1, g2, h3, wrap_i64] | ((with_reducible first | refine condD ?_ ?_ | refine condX ?_ ?_ | refine condW_intro ?_ ?_) <;> intro h <;> first | (exfalso; omega) | simp (disch := omega) only [go_sem, ↓reduceIte, Nat.reduceEqDiff, reduceCtorEq, Int.reduceEq, *, g1, g2, h3, wrap_i64] | skip) | (refine callW_of ps rfl (.inl rfl) ?_)
      exact ⟨j + 1, [], ⟨hlj, HJ'⟩, by omega, by simp [Wk, wkF, wkM, wkL, look_cons, renV, renA, renC, renB, rn, clV, clA, clAs, clB, notIn, findB, findB_setB, clA.go]⟩
    ·have hall := HJ.out
     rw [List.take_of_length_le (by omega)] at hall
     have HT' := HY2.out hall
     clear HJ hall HY2 HN2
     repeat' first | simp (disch := omega) only [go_sem, ↓reduceIte, Nat.reduceEqDiff, reduceCtorEq, Int.reduceEq, g1, wrap_i64] | ((with_reducible first | refine condD ?_ ?_ | refine condX ?_ ?_ | refine condW_intro ?_ ?_) <;> intro h <;> first | (exfalso; omega) | simp (disch := omega) only [go_sem, ↓reduceIte, Nat.reduceEqDiff, reduceCtorEq, Int.reduceEq, *, g1, wrap_i64] | skip)
     exact ⟨k + 1, [], ⟨hlt, HT'⟩, by omega, by simp [Wk, wkF, wkM, wkL, look_cons, renV, renA, renC, renB, rn, clV, clA, clAs, clB, notIn, findB, findB_setB, clA.go]⟩
 ·have hR : R = true := by
   rw [HR.out]
   have h := HT.out
   rw [List.take_of_length_le (by omega)] at h
   exact decide_eq_true h
  subst hR
  clear HT HR
  repeat' first | simp (disch := omega) only [go_sem, ↓reduceIte, Nat.reduceEqDiff, reduceCtorEq, Int.reduceEq] | ((with_reducible first | refine condD ?_ ?_ | refine condX ?_ ?_ | refine condW_intro ?_ ?_) <;> intro h <;> first | (exfalso; omega) | simp (disch := omega) only [go_sem, ↓reduceIte, Nat.reduceEqDiff, reduceCtorEq, Int.reduceEq, *] | skip)
  all_goals rfl
/-- Few names bound to small numbers. -/
def smallP (env : List Mono) : Prop := (∀ b ∈ env, absLe b.2 1000) ∧ env.length ≤ 12
noncomputable instance (env : List Mono) : Decidable (smallP env) := Classical.propDecidable _
theorem law07_small_abs (env : List Mono) : PCalls Try.prog n_law07_small [aSl mP env] (Go.Abs.B (decide (smallP env))) := by
 refine PCalls.of is_law07_small (by simp) fun hb => runW_sound ?_
 have hbl : env.length ≤ 9223372036854775807 := by have := hb.1; simpa [bndV, bndA] using this
 clear hb
 simp only [c_law07_small]
 obtain ⟨R, hR⟩ : ∃ R, R = decide (smallP env) := ⟨_, rfl⟩
 rw [← hR]
 have HR := Lib.hid hR
 clear hR
 repeat' first | simp (disch := omega) only [go_sem, ↓reduceIte, Nat.reduceEqDiff, reduceCtorEq, Int.reduceEq] | ((with_reducible first | refine condD ?_ ?_ | refine condX ?_ ?_ | refine condW_intro ?_ ?_) <;> intro h <;> first | (exfalso; omega) | simp (disch := omega) only [go_sem, ↓reduceIte, Nat.reduceEqDiff, reduceCtorEq, Int.reduceEq, *] | skip)
 refine AW_loop (fun k : Nat => ⟨[(0, aSl mP env), (3, I k)], [], 0, 0⟩) (fun k => k ≤ env.length ∧ Hid (∀ b ∈ env.take k, absLe b.2 1000)) (fun k => env.length - k) ⟨0, [], ⟨Nat.zero_le _, Lib.hid (by simp)⟩, by simp [Wk, wkF, wkM, wkL, look_cons, renV, renA, renC, renB, rn, clV, clA, clAs, clB, notIn, findB, findB_setB, clA.go]⟩ ?_
 rintro k ⟨hk, HT⟩
 refine runW_sound ?_
 by_cases hlt : k < env.length
 ·have g1 := map_get (f := mP) hlt
  by_cases hc : absLe env[k].2 1000
  ·have HT' : Hid (∀ b ∈ env.take (k + 1), absLe b.2 1000) := Lib.hid (by
    rw [List.take_succ_eq_append_getElem hlt]
    intro b hb
    rcases List.mem_append.1 hb with h' | h'
    ·exact HT.out b h'
    ·rw [List.mem_singleton.1 h']; exact hc)
   clear HT
   generalize env[k] = b at *
   obtain ⟨bn, bv⟩ := b
   simp only [mP] at g1
   unfold absLe at hc
   simp only at hc
   have n1 : ¬ bv > 1000 := by omega
   have n2 : ¬ bv < -1000 := by omega
   clear hc
   repeat' first | simp (disch := omega) only [go_sem, ↓reduceIte, Nat.reduceEqDiff, reduceCtorEq, Int.reduceEq, g1, n1, n2, wrap_i64] | ((with_reducible first | refine condD ?_ ?_ | refine condX ?_ ?_ | refine condW_intro ?_ ?_) <;> intro h <;> first | (exfalso; omega) | simp (disch := omega) only [go_sem, ↓reduceIte, Nat.reduceEqDiff, reduceCtorEq, Int.reduceEq, *, g1, n1, n2, wrap_i64] | skip)
   exact ⟨k + 1, [], ⟨hlt, HT'⟩, by omega, by simp [Wk, wkF, wkM, wkL, look_cons, renV, renA, renC, renB, rn, clV, clA, clAs, clB, notIn, findB, findB_setB, clA.go]⟩
  ·have hR : R = false := by
    rw [HR.out]
    exact decide_eq_false fun h => hc (h.1 _ (List.getElem_mem hlt))
   subst hR
   clear HT HR
   generalize env[k] = b at *
   obtain ⟨bn, bv⟩ := b
   simp only [mP] at g1
   unfold absLe at hc
   simp only at hc
   have hc : bv > 1000 ∨ (¬ bv > 1000 ∧ bv < -1000) := by omega
   rcases hc with n1 | ⟨n1, n2⟩
   ·repeat' first | simp (disch := omega) only [go_sem, ↓reduceIte, Nat.reduceEqDiff, reduceCtorEq, Int.reduceEq, g1, n1, wrap_i64] | ((with_reducible first | refine condD ?_ ?_ | refine condX ?_ ?_ | refine condW_intro ?_ ?_) <;> intro h <;> first | (exfalso; omega) | simp (disch := omega) only [go_sem, ↓reduceIte, Nat.reduceEqDiff, reduceCtorEq, Int.reduceEq, *, g1, n1, wrap_i64] | skip)
    all_goals rfl
   ·repeat' first | simp (disch := omega) only [go_sem, ↓reduceIte, Nat.reduceEqDiff, reduceCtorEq, Int.reduceEq, g1, n1, n2, wrap_i64] | ((with_reducible first | refine condD ?_ ?_ | refine condX ?_ ?_ | refine condW_intro ?_ ?_) <;> intro h <;> first | (exfalso; omega) | simp (disch := omega) only [go_sem, ↓reduceIte, Nat.reduceEqDiff, reduceCtorEq, Int.reduceEq, *, g1, n1, n2, wrap_i64] | skip)
    all_goals rfl
 ·have h := HT.out
  rw [List.take_of_length_le (by omega)] at h
  have hR : R = decide ((env.length : Int) ≤ 12) := by
   rw [HR.out, Bool.eq_iff_iff, decide_eq_true_iff, decide_eq_true_iff]
   exact ⟨fun h => by have := h.2; omega, fun h' => ⟨h, by omega⟩⟩
  subst hR
  clear HT HR h
  repeat' first | simp (disch := omega) only [go_sem, ↓reduceIte, Nat.reduceEqDiff, reduceCtorEq, Int.reduceEq] | ((with_reducible first | refine condD ?_ ?_ | refine condX ?_ ?_ | refine condW_intro ?_ ?_) <;> intro h <;> first | (exfalso; omega) | simp (disch := omega) only [go_sem, ↓reduceIte, Nat.reduceEqDiff, reduceCtorEq, Int.reduceEq, *] | skip)
  all_goals rfl
theorem within_lin {l : List Con} {M : Nat} {n : Int} (h : withinP l M n) {c : Con} (hc : c ∈ l) : absLe c.1.1 M ∧ (c.1.2.length : Int) ≤ n ∧ ∀ m ∈ c.1.2, absLe m.2 M := by
 obtain ⟨h1, h2, h3⟩ := h c hc
 refine ⟨by unfold absLe; omega, h2, fun m hm => ?_⟩
 have := h3 m hm
 unfold absLe
 omega
end Go.Proofs.Ytnddmjhpplopbaa
