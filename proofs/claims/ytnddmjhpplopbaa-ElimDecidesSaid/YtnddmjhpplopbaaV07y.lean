/- Walks by the abstract machine: the reference's certificates, comparisons, the functions of the laws. -/
import Derived.Test.YtnddmjhpplopbaaV07x
import Derived.Test.YtnddmjhpplopbaaV07n
import Derived.Test.YtnddmjhpplopbaaPlain07h
import Derived.Test.YtnddmjhpplopbaaIn0
set_option linter.unusedVariables false
set_option linter.unusedSimpArgs false
set_option maxRecDepth 20000
namespace Go.Proofs.Ytnddmjhpplopbaa
open Go.Abs Go.RowKit

theorem ref07_tights_abs {l : List Con} (h64 : ∀ c ∈ l, con64 c) (hs : ∀ c ∈ l, c.1.2.length ≤ 1000000000) : PCalls Try.prog n_ref07_tights [aCons l] (aConsE (tightL l)) := by
 refine PCalls.of is_ref07_tights (by simp) fun _ => runW_sound ?_
 simp only [c_ref07_tights]
 unfold tightL
 by_cases hl : 256 < l.length
 ·rw [if_pos hl]
  repeat' first | simp (disch := omega) only [go_sem, ↓reduceIte, Nat.reduceEqDiff, reduceCtorEq, Int.reduceEq] | ((with_reducible first | refine condD ?_ ?_ | refine condX ?_ ?_ | refine condW_intro ?_ ?_) <;> intro h <;> first | (exfalso; omega) | simp (disch := omega) only [go_sem, ↓reduceIte, Nat.reduceEqDiff, reduceCtorEq, Int.reduceEq, *] | skip)
  all_goals rfl
 ·rw [if_neg hl]
  obtain ⟨R, hR⟩ : ∃ R, R = tightG [] (l.drop 0) := ⟨_, rfl⟩
  have hR0 : tightG [] l = R := hR.symm
  rw [hR0]
  have HR := Lib.hid hR
  clear hR hR0
  repeat' first | simp (disch := omega) only [go_sem, ↓reduceIte, Nat.reduceEqDiff, reduceCtorEq, Int.reduceEq] | ((with_reducible first | refine condD ?_ ?_ | refine condX ?_ ?_ | refine condW_intro ?_ ?_) <;> intro h <;> first | (exfalso; omega) | simp (disch := omega) only [go_sem, ↓reduceIte, Nat.reduceEqDiff, reduceCtorEq, Int.reduceEq, *] | skip)
  refine AW_adopt 4 36 3 rfl (by decide) ?_
  refine AW_loop (fun s : Nat × List Con => ⟨[(0, aCons l), (4, .c (.ref 0)), (5, I s.1)], [(0, .arr 36 3 (s.2.map cP))], 1, 0⟩) (fun s => s.1 ≤ l.length ∧ s.2.length ≤ s.1 ∧ Hid (R = tightG s.2 (l.drop s.1))) (fun s => l.length - s.1) ⟨(0, []), [], ⟨Nat.zero_le _, Nat.le_refl _, HR⟩, by simp [Wk, wkF, wkM, wkL, look_cons, renV, renA, renC, renB, rn, clV, clA, clAs, clB, notIn, findB, findB_setB, clA.go]⟩ ?_
  clear HR
  rintro ⟨j, acc⟩ ⟨hj, hacc, HR⟩
  refine runW_sound ?_
  simp only at hj hacc HR
  by_cases hlt : j < l.length
  ·have g1 := map_get (f := cP) hlt
   have pT := ref07_Tight_abs (h64 _ (List.getElem_mem hlt)) (hs _ (List.getElem_mem hlt))
   have h2 := HR.out
   rw [List.drop_eq_getElem_cons hlt, tightG] at h2
   clear HR
   generalize tightS l[j] = T at *
   generalize l[j] = c at *
   obtain ⟨⟨ck, cl⟩, q⟩ := c
   obtain ⟨⟨⟨tk, tl⟩, tq⟩, tt, te⟩ := T
   simp only [cP] at g1
   simp only at h2 pT
   by_cases he : te = 0
   ·subst he
    rw [if_neg (by simp)] at h2
    have HR := Lib.hid h2
    clear h2
    repeat' first | simp (disch := omega) only [go_sem, ↓reduceIte, Nat.reduceEqDiff, reduceCtorEq, Int.reduceEq, g1, wrap_i64] | ((with_reducible first | refine condD ?_ ?_ | refine condX ?_ ?_ | refine condW_intro ?_ ?_) <;> intro h <;> first | (exfalso; omega) | simp (disch := omega) only [go_sem, ↓reduceIte, Nat.reduceEqDiff, reduceCtorEq, Int.reduceEq, *, g1, wrap_i64] | skip) | (refine callW_of pT rfl (.inr rfl) ?_) | (refine app_own rfl (by intro h; cases h) (rowsOk_one rfl) (by simp; omega) (by simp; omega) ?_)
    exact ⟨(j + 1, acc ++ [((tk, tl), tq)]), [(0, 2)], ⟨hlt, by simp; omega, HR⟩, by show _ - _ < _ - _; omega, by simp [Wk, wkF, wkM, wkL, look_cons, renV, renA, renC, renB, rn, clV, clA, clAs, clB, notIn, findB, findB_setB, clA.go, cP]⟩
   ·rw [if_pos he] at h2
    subst h2
    repeat' first | simp (disch := omega) only [go_sem, ↓reduceIte, Nat.reduceEqDiff, reduceCtorEq, Int.reduceEq, g1, he, wrap_i64] | ((with_reducible first | refine condD ?_ ?_ | refine condX ?_ ?_ | refine condW_intro ?_ ?_) <;> intro h <;> first | (exfalso; omega) | simp (disch := omega) only [go_sem, ↓reduceIte, Nat.reduceEqDiff, reduceCtorEq, Int.reduceEq, *, g1, he, wrap_i64] | skip) | (refine callW_of pT rfl (.inr rfl) ?_)
    all_goals rfl
  ·have h2 := HR.out
   rw [List.drop_eq_nil_of_le (by omega), tightG] at h2
   clear HR
   subst h2
   repeat' first | simp (disch := omega) only [go_sem, ↓reduceIte, Nat.reduceEqDiff, reduceCtorEq, Int.reduceEq] | ((with_reducible first | refine condD ?_ ?_ | refine condX ?_ ?_ | refine condW_intro ?_ ?_) <;> intro h <;> first | (exfalso; omega) | simp (disch := omega) only [go_sem, ↓reduceIte, Nat.reduceEqDiff, reduceCtorEq, Int.reduceEq, *] | skip)
   all_goals rfl
theorem ref07_Asked_abs {l : List Con} {fuel : Int} (h64 : ∀ c ∈ l, con64 c) (hs : tot l ≤ 400000000) : PCalls Try.prog n_ref07_Asked [aCons l, I fuel] (I (askedS l fuel)) := by
 refine PCalls.of is_ref07_Asked (by simp) fun _ => runW_sound ?_
 simp only [c_ref07_Asked]
 have pt := ref07_tights_abs h64 (fun c hc => by have := tot_mem hc; omega)
 unfold askedS
 generalize tightL l = X at *
 obtain ⟨t, e⟩ := X
 simp only
 by_cases h0 : e = 0
 ·subst h0
  rw [if_neg (by simp)]
  by_cases h1 : fuel < 0 ∨ 1048576 < fuel
  ·rw [if_pos h1]
   rcases h1 with h1 | h1
   ·repeat' first | simp (disch := omega) only [go_sem, ↓reduceIte, Nat.reduceEqDiff, reduceCtorEq, Int.reduceEq, h1] | ((with_reducible first | refine condD ?_ ?_ | refine condX ?_ ?_ | refine condW_intro ?_ ?_) <;> intro h <;> first | (exfalso; omega) | simp (disch := omega) only [go_sem, ↓reduceIte, Nat.reduceEqDiff, reduceCtorEq, Int.reduceEq, *, h1] | skip) | (refine callW_of pt rfl (.inr rfl) ?_)
    all_goals rfl
   ·repeat' first | simp (disch := omega) only [go_sem, ↓reduceIte, Nat.reduceEqDiff, reduceCtorEq, Int.reduceEq, h1] | ((with_reducible first | refine condD ?_ ?_ | refine condX ?_ ?_ | refine condW_intro ?_ ?_) <;> intro h <;> first | (exfalso; omega) | simp (disch := omega) only [go_sem, ↓reduceIte, Nat.reduceEqDiff, reduceCtorEq, Int.reduceEq, *, h1] | skip) | (refine callW_of pt rfl (.inr rfl) ?_)
    all_goals rfl
  ·rw [if_neg h1]
   have f1 : ¬ fuel < 0 := fun h => h1 (.inl h)
   have f2 : ¬ fuel > 1048576 := fun h => h1 (.inr h)
   clear h1
   repeat' first | simp (disch := omega) only [go_sem, ↓reduceIte, Nat.reduceEqDiff, reduceCtorEq, Int.reduceEq, f1, f2] | ((with_reducible first | refine condD ?_ ?_ | refine condX ?_ ?_ | refine condW_intro ?_ ?_) <;> intro h <;> first | (exfalso; omega) | simp (disch := omega) only [go_sem, ↓reduceIte, Nat.reduceEqDiff, reduceCtorEq, Int.reduceEq, *, f1, f2] | skip) | (refine callW_of pt rfl (.inr rfl) ?_)
   all_goals rfl
 ·rw [if_pos h0]
  repeat' first | simp (disch := omega) only [go_sem, ↓reduceIte, Nat.reduceEqDiff, reduceCtorEq, Int.reduceEq, h0] | ((with_reducible first | refine condD ?_ ?_ | refine condX ?_ ?_ | refine condW_intro ?_ ?_) <;> intro h <;> first | (exfalso; omega) | simp (disch := omega) only [go_sem, ↓reduceIte, Nat.reduceEqDiff, reduceCtorEq, Int.reduceEq, *, h0] | skip) | (refine callW_of pt rfl (.inr rfl) ?_)
  all_goals rfl
theorem base_Lin_abs (a b : Lin) : PCalls Try.prog n_base_Lin [aLin a.1 a.2, aLin b.1 b.2] (Go.Abs.B (decide (a = b))) := by
 refine PCalls.of is_base_Lin (by simp) fun hb => runW_sound ?_
 obtain ⟨ka, a⟩ := a
 obtain ⟨kb, b⟩ := b
 have hba : a.length ≤ 9223372036854775807 := by have := hb.1; simpa [bndV, bndA, bndAs] using this
 clear hb
 simp only [c_base_Lin]
 by_cases hk : ka = kb
 ·subst hk
  have e0 : decide ((ka, a) = (ka, b)) = decide (a = b) := by
   rw [Bool.eq_iff_iff]
   simp
  rw [e0]
  clear e0
  by_cases hl : a.length = b.length
  ·have hli : (a.length : Int) = (b.length : Int) := by omega
   obtain ⟨R, hR⟩ : ∃ R, R = decide (a = b) := ⟨_, rfl⟩
   rw [← hR]
   have HR := Lib.hid hR
   clear hR
   have HL := Lib.hid hl
   clear hl
   repeat' first | simp (disch := omega) only [go_sem, ↓reduceIte, Nat.reduceEqDiff, reduceCtorEq, Int.reduceEq, hli] | ((with_reducible first | refine condD ?_ ?_ | refine condX ?_ ?_ | refine condW_intro ?_ ?_) <;> intro h <;> first | (exfalso; omega) | simp (disch := omega) only [go_sem, ↓reduceIte, Nat.reduceEqDiff, reduceCtorEq, Int.reduceEq, *, hli] | skip)
   refine AW_loop (fun k : Nat => ⟨[(2, .c (.ptr 0 0)), (3, .c (.ptr 1 0)), (5, I k)], [(1, .var [.pure (pI ka), .pure (pMonos b)]), (0, .var [.pure (pI ka), .pure (pMonos a)])], 2, 0⟩) (fun k => k ≤ b.length ∧ Hid (a.take k = b.take k)) (fun k => b.length - k) ⟨0, [], ⟨Nat.zero_le _, Lib.hid rfl⟩, by simp [Wk, wkF, wkM, wkL, look_cons, renV, renA, renC, renB, rn, clV, clA, clAs, clB, notIn, findB, findB_setB, clA.go]⟩ ?_
   rintro k ⟨hk, HT⟩
   refine runW_sound ?_
   have hl := HL.out
   by_cases hlt : k < b.length
   ·have hlta : k < a.length := by omega
    have g1 := map_get (f := mP) hlta
    have g2 := map_get (f := mP) hlt
    by_cases he : a[k] = b[k]
    ·have HT' : Hid (a.take (k + 1) = b.take (k + 1)) := Lib.hid (by rw [List.take_succ_eq_append_getElem hlta, List.take_succ_eq_append_getElem hlt, HT.out, he])
     rw [he] at g1
     clear HT he hl
     generalize b[k] = m at *
     obtain ⟨n, x⟩ := m
     simp only [mP] at g1 g2
     repeat' first | simp (disch := omega) only [go_sem, ↓reduceIte, Nat.reduceEqDiff, reduceCtorEq, Int.reduceEq, hli, g1, g2, eqOk, eqP, and_self, decT, wrap_i64] | ((with_reducible first | refine condD ?_ ?_ | refine condX ?_ ?_ | refine condW_intro ?_ ?_) <;> intro h <;> first | (exfalso; omega) | simp (disch := omega) only [go_sem, ↓reduceIte, Nat.reduceEqDiff, reduceCtorEq, Int.reduceEq, *, hli, g1, g2, eqOk, eqP, and_self, decT, wrap_i64] | skip)
     exact ⟨k + 1, [], ⟨hlt, HT'⟩, by omega, by simp [Wk, wkF, wkM, wkL, look_cons, renV, renA, renC, renB, rn, clV, clA, clAs, clB, notIn, findB, findB_setB, clA.go]⟩
    ·have hR : R = false := by
      rw [HR.out]
      exact decide_eq_false fun h => he (by subst h; rfl)
     subst hR
     have hne : ¬ (a[k].1 = b[k].1 ∧ a[k].2 = b[k].2) := fun h => he (Prod.ext h.1 h.2)
     clear HT he hl HR HL
     generalize a[k] = m at *
     generalize b[k] = m' at *
     obtain ⟨n, x⟩ := m
     obtain ⟨n', x'⟩ := m'
     simp only [mP] at g1 g2 hne
     repeat' first | simp (disch := omega) only [go_sem, ↓reduceIte, Nat.reduceEqDiff, reduceCtorEq, Int.reduceEq, hli, g1, g2, eqOk, eqP, and_true, hne, decF, wrap_i64] | ((with_reducible first | refine condD ?_ ?_ | refine condX ?_ ?_ | refine condW_intro ?_ ?_) <;> intro h <;> first | (exfalso; omega) | simp (disch := omega) only [go_sem, ↓reduceIte, Nat.reduceEqDiff, reduceCtorEq, Int.reduceEq, *, hli, g1, g2, eqOk, eqP, and_true, hne, decF, wrap_i64] | skip)
     all_goals rfl
   ·have hR : R = true := by
     rw [HR.out]
     have h := HT.out
     rw [List.take_of_length_le (by omega), List.take_of_length_le (by omega)] at h
     exact decide_eq_true h
    subst hR
    clear HT HL HR hl
    repeat' first | simp (disch := omega) only [go_sem, ↓reduceIte, Nat.reduceEqDiff, reduceCtorEq, Int.reduceEq, hli] | ((with_reducible first | refine condD ?_ ?_ | refine condX ?_ ?_ | refine condW_intro ?_ ?_) <;> intro h <;> first | (exfalso; omega) | simp (disch := omega) only [go_sem, ↓reduceIte, Nat.reduceEqDiff, reduceCtorEq, Int.reduceEq, *, hli] | skip)
    all_goals rfl
  ·have e : decide (a = b) = false := decide_eq_false fun h => hl (by rw [h])
   rw [e]
   have hli : ¬ (a.length : Int) = (b.length : Int) := by omega
   repeat' first | simp (disch := omega) only [go_sem, ↓reduceIte, Nat.reduceEqDiff, reduceCtorEq, Int.reduceEq, hli] | ((with_reducible first | refine condD ?_ ?_ | refine condX ?_ ?_ | refine condW_intro ?_ ?_) <;> intro h <;> first | (exfalso; omega) | simp (disch := omega) only [go_sem, ↓reduceIte, Nat.reduceEqDiff, reduceCtorEq, Int.reduceEq, *, hli] | skip)
   all_goals rfl
 ·have e : decide ((ka, a) = (kb, b)) = false := decide_eq_false fun h => hk (congrArg Prod.fst h)
  rw [e]
  clear e
  repeat' first | simp (disch := omega) only [go_sem, ↓reduceIte, Nat.reduceEqDiff, reduceCtorEq, Int.reduceEq, hk] | ((with_reducible first | refine condD ?_ ?_ | refine condX ?_ ?_ | refine condW_intro ?_ ?_) <;> intro h <;> first | (exfalso; omega) | simp (disch := omega) only [go_sem, ↓reduceIte, Nat.reduceEqDiff, reduceCtorEq, Int.reduceEq, *, hk] | skip)
  all_goals rfl
theorem base_Con_abs (a b : Con) : PCalls Try.prog n_base_Con [aCon a, aCon b] (Go.Abs.B (decide (a = b))) := by
 refine PCalls.of is_base_Con (by simp) fun hb => runW_sound ?_
 obtain ⟨⟨ka, a⟩, qa⟩ := a
 obtain ⟨⟨kb, b⟩, qb⟩ := b
 have pl := base_Lin_abs (ka, a) (kb, b)
 simp only at pl
 simp only [c_base_Con]
 have e : decide (((ka, a), qa) = ((kb, b), qb)) = (if qa = qb then decide ((ka, a) = (kb, b)) else false) := by
  cases qa <;> cases qb <;> simp
 rw [e]
 clear e
 generalize decide ((ka, a) = (kb, b)) = d at *
 cases qa
 all_goals
  cases qb
  all_goals
   repeat' first | simp (disch := omega) only [go_sem, ↓reduceIte, Nat.reduceEqDiff, reduceCtorEq, Int.reduceEq] | ((with_reducible first | refine condD ?_ ?_ | refine condX ?_ ?_ | refine condW_intro ?_ ?_) <;> intro h <;> first | (exfalso; omega) | simp (disch := omega) only [go_sem, ↓reduceIte, Nat.reduceEqDiff, reduceCtorEq, Int.reduceEq, *] | skip) | (refine callW_of pl rfl (.inl rfl) ?_)
   all_goals rfl
end Go.Proofs.Ytnddmjhpplopbaa
