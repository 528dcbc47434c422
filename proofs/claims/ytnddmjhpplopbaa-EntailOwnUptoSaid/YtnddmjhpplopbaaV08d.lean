/- Walks by the abstract machine: the functions of the laws of layer 8, certificates. -/
import Derived.Test.YtnddmjhpplopbaaV08v
import Derived.Test.YtnddmjhpplopbaaPlain08a
set_option linter.unusedVariables false
set_option linter.unusedSimpArgs false
set_option maxRecDepth 20000
namespace Go.Proofs.Ytnddmjhpplopbaa
open Go.Abs Go.RowKit

theorem base_Int64s_abs (a b : List Int) : PCalls Try.prog n_base_Int64s [aInts a, aInts b] (Go.Abs.B (decide (a = b))) := by
 refine PCalls.of is_base_Int64s (by simp) fun hb => runW_sound ?_
 have hba : a.length ≤ 9223372036854775807 := by have := hb.1; simpa [bndV, bndA] using this
 clear hb
 simp only [c_base_Int64s]
 by_cases hl : a.length = b.length
 ·have hli : (a.length : Int) = (b.length : Int) := by omega
  obtain ⟨R, hR⟩ : ∃ R, R = decide (a = b) := ⟨_, rfl⟩
  rw [← hR]
  have HR := Lib.hid hR
  clear hR
  have HL := Lib.hid hl
  clear hl
  repeat' first | simp (disch := omega) only [go_sem, ↓reduceIte, Nat.reduceEqDiff, reduceCtorEq, Int.reduceEq, hli] | ((with_reducible first | refine condD ?_ ?_ | refine condX ?_ ?_ | refine condW_intro ?_ ?_) <;> intro h <;> first | (exfalso; omega) | simp (disch := omega) only [go_sem, ↓reduceIte, Nat.reduceEqDiff, reduceCtorEq, Int.reduceEq, *, hli] | skip)
  refine AW_loop (fun k : Nat => ⟨[(0, aInts a), (1, aInts b), (5, I k)], [], 0, 0⟩) (fun k => k ≤ b.length ∧ Hid (a.take k = b.take k)) (fun k => b.length - k) ⟨0, [], ⟨Nat.zero_le _, Lib.hid rfl⟩, by simp [Wk, wkF, wkM, wkL, look_cons, renV, renA, renC, renB, rn, clV, clA, clAs, clB, notIn, findB, findB_setB, clA.go]⟩ ?_
  rintro k ⟨hk, HT⟩
  refine runW_sound ?_
  have hl := HL.out
  by_cases hlt : k < b.length
  ·have hlta : k < a.length := by omega
   have g1 := map_get (f := fun n => [pI n]) hlta
   have g2 := map_get (f := fun n => [pI n]) hlt
   by_cases he : a[k] = b[k]
   ·have HT' : Hid (a.take (k + 1) = b.take (k + 1)) := Lib.hid (by rw [List.take_succ_eq_append_getElem hlta, List.take_succ_eq_append_getElem hlt, HT.out, he])
    rw [he] at g1
    clear HT he hl
    generalize b[k] = x at *
    repeat' first | simp (disch := omega) only [go_sem, ↓reduceIte, Nat.reduceEqDiff, reduceCtorEq, Int.reduceEq, hli, g1, g2, wrap_i64] | ((with_reducible first | refine condD ?_ ?_ | refine condX ?_ ?_ | refine condW_intro ?_ ?_) <;> intro h <;> first | (exfalso; omega) | simp (disch := omega) only [go_sem, ↓reduceIte, Nat.reduceEqDiff, reduceCtorEq, Int.reduceEq, *, hli, g1, g2, wrap_i64] | skip)
    exact ⟨k + 1, [], ⟨hlt, HT'⟩, by omega, by simp [Wk, wkF, wkM, wkL, look_cons, renV, renA, renC, renB, rn, clV, clA, clAs, clB, notIn, findB, findB_setB, clA.go]⟩
   ·have hR : R = false := by
     rw [HR.out]
     exact decide_eq_false fun h => he (by subst h; rfl)
    subst hR
    clear HT hl HR HL
    generalize a[k] = x at *
    generalize b[k] = y at *
    repeat' first | simp (disch := omega) only [go_sem, ↓reduceIte, Nat.reduceEqDiff, reduceCtorEq, Int.reduceEq, hli, g1, g2, he, wrap_i64] | ((with_reducible first | refine condD ?_ ?_ | refine condX ?_ ?_ | refine condW_intro ?_ ?_) <;> intro h <;> first | (exfalso; omega) | simp (disch := omega) only [go_sem, ↓reduceIte, Nat.reduceEqDiff, reduceCtorEq, Int.reduceEq, *, hli, g1, g2, he, wrap_i64] | skip)
    all_goals rfl
  ·have hR : R = true := by
    rw [HR.out]
    have h := HT.out
    rw [List.take_of_length_le (by omega), List.take_of_length_le (by omega)] at h
    exact decide_eq_true h
   subst hR
   clear HT HL HR hl
   repeat' first | simp (disch := omega) only [go_sem, ↓reduceIte, Nat.reduceEqDiff, reduceCtorEq, Int.reduceEq, hli] | ((with_reducible first | refine condD ?_ ?_ | refine condX ?_ ?_ | refine condW_intro ?_ ?_) <;> intro h <;> first | (exfalso; omega) | simp (disch := omega) only [go_sem, ↓reduceIte, Nat.reduceEqDiff, reduceCtorEq, Int.reduceEq, *, hli] | skip)
   all_goals rfl
 ·have e : decide (a = b) = false := decide_eq_false fun h => hl (by rw [h])
  rw [e]
  have hli : ¬ (a.length : Int) = (b.length : Int) := by omega
  repeat' first | simp (disch := omega) only [go_sem, ↓reduceIte, Nat.reduceEqDiff, reduceCtorEq, Int.reduceEq, hli] | ((with_reducible first | refine condD ?_ ?_ | refine condX ?_ ?_ | refine condW_intro ?_ ?_) <;> intro h <;> first | (exfalso; omega) | simp (disch := omega) only [go_sem, ↓reduceIte, Nat.reduceEqDiff, reduceCtorEq, Int.reduceEq, *, hli] | skip)
  all_goals rfl
/-- Few monomials with short names. -/
def smF (l : List Mono) : Prop := l.length ≤ 40 ∧ ∀ m ∈ l, m.1.size ≤ 40
noncomputable instance (l : List Mono) : Decidable (smF l) := Classical.propDecidable _
def smL (l : List Con) (n : Int) : Prop := (l.length : Int) ≤ n ∧ ∀ c ∈ l, c.1.2.length ≤ 20 ∧ smF c.1.2
noncomputable instance (l : List Con) (n : Int) : Decidable (smL l n) := Classical.propDecidable _
def fewQ (l : List Con) (n fuel : Int) : Prop := smL l n ∧ fuel ≤ 3000
noncomputable instance (l : List Con) (n fuel : Int) : Decidable (fewQ l n fuel) := Classical.propDecidable _
theorem ref05_Small_abs (k : Int) (l : List Mono) : PCalls Try.prog n_ref05_Small [aLin k l] (Go.Abs.B (decide (smF l))) := by
 refine PCalls.of is_ref05_Small (by simp) fun hb => runW_sound ?_
 have hbl : l.length ≤ 9223372036854775807 := by have := hb.1; simpa [bndV, bndA, bndAs] using this
 clear hb
 simp only [c_ref05_Small]
 by_cases h0 : (l.length : Int) > 40
 ·rw [decide_eq_false (fun h => by have := h.1; omega)]
  repeat' first | simp (disch := omega) only [go_sem, ↓reduceIte, Nat.reduceEqDiff, reduceCtorEq, Int.reduceEq, h0] | ((with_reducible first | refine condD ?_ ?_ | refine condX ?_ ?_ | refine condW_intro ?_ ?_) <;> intro h <;> first | (exfalso; omega) | simp (disch := omega) only [go_sem, ↓reduceIte, Nat.reduceEqDiff, reduceCtorEq, Int.reduceEq, *, h0] | skip)
  all_goals rfl
 ·obtain ⟨R, hR⟩ : ∃ R, R = decide (smF l) := ⟨_, rfl⟩
  rw [← hR]
  have HR := Lib.hid hR
  clear hR
  repeat' first | simp (disch := omega) only [go_sem, ↓reduceIte, Nat.reduceEqDiff, reduceCtorEq, Int.reduceEq, h0] | ((with_reducible first | refine condD ?_ ?_ | refine condX ?_ ?_ | refine condW_intro ?_ ?_) <;> intro h <;> first | (exfalso; omega) | simp (disch := omega) only [go_sem, ↓reduceIte, Nat.reduceEqDiff, reduceCtorEq, Int.reduceEq, *, h0] | skip)
  refine AW_loop (fun j : Nat => ⟨[(1, .c (.ptr 0 0)), (3, I j)], [(0, .var [.pure (pI k), .pure (pMonos l)])], 1, 0⟩) (fun j => j ≤ l.length ∧ Hid (∀ m ∈ l.take j, m.1.size ≤ 40)) (fun j => l.length - j) ⟨0, [], ⟨Nat.zero_le _, Lib.hid (by simp)⟩, by simp [Wk, wkF, wkM, wkL, look_cons, renV, renA, renC, renB, rn, clV, clA, clAs, clB, notIn, findB, findB_setB, clA.go]⟩ ?_
  rintro j ⟨hj, HT⟩
  refine runW_sound ?_
  by_cases hlt : j < l.length
  ·have g1 := map_get (f := mP) hlt
   by_cases hc : l[j].1.size ≤ 40
   ·have HT' : Hid (∀ m ∈ l.take (j + 1), m.1.size ≤ 40) := Lib.hid (by
     rw [List.take_succ_eq_append_getElem hlt]
     intro m hm
     rcases List.mem_append.1 hm with h | h
     ·exact HT.out m h
     ·rw [List.mem_singleton.1 h]; exact hc)
    clear HT
    generalize l[j] = m at *
    obtain ⟨n, x⟩ := m
    simp only [mP] at g1
    simp only at hc
    have hc' : ¬ (n.size : Int) > 40 := by omega
    repeat' first | simp (disch := omega) only [go_sem, ↓reduceIte, Nat.reduceEqDiff, reduceCtorEq, Int.reduceEq, g1, hc', wrap_i64] | ((with_reducible first | refine condD ?_ ?_ | refine condX ?_ ?_ | refine condW_intro ?_ ?_) <;> intro h <;> first | (exfalso; omega) | simp (disch := omega) only [go_sem, ↓reduceIte, Nat.reduceEqDiff, reduceCtorEq, Int.reduceEq, *, g1, hc', wrap_i64] | skip)
    exact ⟨j + 1, [], ⟨hlt, HT'⟩, by omega, by simp [Wk, wkF, wkM, wkL, look_cons, renV, renA, renC, renB, rn, clV, clA, clAs, clB, notIn, findB, findB_setB, clA.go]⟩
   ·have hR : R = false := by
     rw [HR.out]
     exact decide_eq_false fun h => hc (h.2 _ (List.getElem_mem hlt))
    subst hR
    clear HT HR
    generalize l[j] = m at *
    obtain ⟨n, x⟩ := m
    simp only [mP] at g1
    simp only at hc
    have hc' : (n.size : Int) > 40 := by omega
    repeat' first | simp (disch := omega) only [go_sem, ↓reduceIte, Nat.reduceEqDiff, reduceCtorEq, Int.reduceEq, g1, hc', wrap_i64] | ((with_reducible first | refine condD ?_ ?_ | refine condX ?_ ?_ | refine condW_intro ?_ ?_) <;> intro h <;> first | (exfalso; omega) | simp (disch := omega) only [go_sem, ↓reduceIte, Nat.reduceEqDiff, reduceCtorEq, Int.reduceEq, *, g1, hc', wrap_i64] | skip)
    all_goals rfl
  ·have hR : R = true := by
    rw [HR.out]
    have h := HT.out
    rw [List.take_of_length_le (by omega)] at h
    exact decide_eq_true ⟨by omega, h⟩
   subst hR
   clear HT HR
   repeat' first | simp (disch := omega) only [go_sem, ↓reduceIte, Nat.reduceEqDiff, reduceCtorEq, Int.reduceEq] | ((with_reducible first | refine condD ?_ ?_ | refine condX ?_ ?_ | refine condW_intro ?_ ?_) <;> intro h <;> first | (exfalso; omega) | simp (disch := omega) only [go_sem, ↓reduceIte, Nat.reduceEqDiff, reduceCtorEq, Int.reduceEq, *] | skip)
   all_goals rfl
theorem ref08_Small_abs (l : List Con) (n : Int) : PCalls Try.prog n_ref08_Small [aCons l, I n] (Go.Abs.B (decide (smL l n))) := by
 refine PCalls.of is_ref08_Small (by simp) fun hb => runW_sound ?_
 have hbl : l.length ≤ 9223372036854775807 := by have := hb.1; simpa [bndV, bndA] using this
 clear hb
 simp only [c_ref08_Small]
 by_cases h0 : (l.length : Int) > n
 ·rw [decide_eq_false (fun h => by have := h.1; omega)]
  repeat' first | simp (disch := omega) only [go_sem, ↓reduceIte, Nat.reduceEqDiff, reduceCtorEq, Int.reduceEq, h0] | ((with_reducible first | refine condD ?_ ?_ | refine condX ?_ ?_ | refine condW_intro ?_ ?_) <;> intro h <;> first | (exfalso; omega) | simp (disch := omega) only [go_sem, ↓reduceIte, Nat.reduceEqDiff, reduceCtorEq, Int.reduceEq, *, h0] | skip)
  all_goals rfl
 ·obtain ⟨R, hR⟩ : ∃ R, R = decide (smL l n) := ⟨_, rfl⟩
  rw [← hR]
  have HR := Lib.hid hR
  clear hR
  repeat' first | simp (disch := omega) only [go_sem, ↓reduceIte, Nat.reduceEqDiff, reduceCtorEq, Int.reduceEq, h0] | ((with_reducible first | refine condD ?_ ?_ | refine condX ?_ ?_ | refine condW_intro ?_ ?_) <;> intro h <;> first | (exfalso; omega) | simp (disch := omega) only [go_sem, ↓reduceIte, Nat.reduceEqDiff, reduceCtorEq, Int.reduceEq, *, h0] | skip)
  refine AW_loop (fun k : Nat => ⟨[(0, aCons l), (5, I k)], [], 0, 0⟩) (fun k => k ≤ l.length ∧ Hid (∀ c ∈ l.take k, c.1.2.length ≤ 20 ∧ smF c.1.2)) (fun k => l.length - k) ⟨0, [], ⟨Nat.zero_le _, Lib.hid (by simp)⟩, by simp [Wk, wkF, wkM, wkL, look_cons, renV, renA, renC, renB, rn, clV, clA, clAs, clB, notIn, findB, findB_setB, clA.go]⟩ ?_
  rintro k ⟨hk, HT⟩
  refine runW_sound ?_
  by_cases hlt : k < l.length
  ·have g1 := map_get (f := cP) hlt
   have ps := ref05_Small_abs l[k].1.1 l[k].1.2
   by_cases hc : l[k].1.2.length ≤ 20
   ·by_cases hd : smF l[k].1.2
    ·have HT' : Hid (∀ c ∈ l.take (k + 1), c.1.2.length ≤ 20 ∧ smF c.1.2) := Lib.hid (by
      rw [List.take_succ_eq_append_getElem hlt]
      intro c hcm
      rcases List.mem_append.1 hcm with h | h
      ·exact HT.out c h
      ·rw [List.mem_singleton.1 h]; exact ⟨hc, hd⟩)
     rw [decide_eq_true hd] at ps
     clear HT hd
     generalize l[k] = c at *
     obtain ⟨⟨ck, cl⟩, q⟩ := c
     simp only [cP] at g1
     simp only at hc ps
     repeat' first | simp (disch := omega) only [go_sem, ↓reduceIte, Nat.reduceEqDiff, reduceCtorEq, Int.reduceEq, g1, wrap_i64] | ((with_reducible first | refine condD ?_ ?_ | refine condX ?_ ?_ | refine condW_intro ?_ ?_) <;> intro h <;> first | (exfalso; omega) | simp (disch := omega) only [go_sem, ↓reduceIte, Nat.reduceEqDiff, reduceCtorEq, Int.reduceEq, *, g1, wrap_i64] | skip) | (refine callW_of ps rfl (.inl rfl) ?_)
     exact ⟨k + 1, [], ⟨hlt, HT'⟩, by omega, by simp [Wk, wkF, wkM, wkL, look_cons, renV, renA, renC, renB, rn, clV, clA, clAs, clB, notIn, findB, findB_setB, clA.go]⟩
    ·have hR : R = false := by
      rw [HR.out]
      exact decide_eq_false fun h => hd (h.2 _ (List.getElem_mem hlt)).2
     subst hR
     rw [decide_eq_false hd] at ps
     clear HT HR hd
     generalize l[k] = c at *
     obtain ⟨⟨ck, cl⟩, q⟩ := c
     simp only [cP] at g1
     simp only at hc ps
     repeat' first | simp (disch := omega) only [go_sem, ↓reduceIte, Nat.reduceEqDiff, reduceCtorEq, Int.reduceEq, g1, wrap_i64] | ((with_reducible first | refine condD ?_ ?_ | refine condX ?_ ?_ | refine condW_intro ?_ ?_) <;> intro h <;> first | (exfalso; omega) | simp (disch := omega) only [go_sem, ↓reduceIte, Nat.reduceEqDiff, reduceCtorEq, Int.reduceEq, *, g1, wrap_i64] | skip) | (refine callW_of ps rfl (.inl rfl) ?_)
     all_goals rfl
   ·have hR : R = false := by
     rw [HR.out]
     exact decide_eq_false fun h => hc (h.2 _ (List.getElem_mem hlt)).1
    subst hR
    clear HT HR ps
    generalize l[k] = c at *
    obtain ⟨⟨ck, cl⟩, q⟩ := c
    simp only [cP] at g1
    simp only at hc
    have hc' : (cl.length : Int) > 20 := by omega
    repeat' first | simp (disch := omega) only [go_sem, ↓reduceIte, Nat.reduceEqDiff, reduceCtorEq, Int.reduceEq, g1, hc', wrap_i64] | ((with_reducible first | refine condD ?_ ?_ | refine condX ?_ ?_ | refine condW_intro ?_ ?_) <;> intro h <;> first | (exfalso; omega) | simp (disch := omega) only [go_sem, ↓reduceIte, Nat.reduceEqDiff, reduceCtorEq, Int.reduceEq, *, g1, hc', wrap_i64] | skip)
    all_goals rfl
  ·have hR : R = true := by
    rw [HR.out]
    have h := HT.out
    rw [List.take_of_length_le (by omega)] at h
    exact decide_eq_true ⟨by omega, h⟩
   subst hR
   clear HT HR
   repeat' first | simp (disch := omega) only [go_sem, ↓reduceIte, Nat.reduceEqDiff, reduceCtorEq, Int.reduceEq] | ((with_reducible first | refine condD ?_ ?_ | refine condX ?_ ?_ | refine condW_intro ?_ ?_) <;> intro h <;> first | (exfalso; omega) | simp (disch := omega) only [go_sem, ↓reduceIte, Nat.reduceEqDiff, reduceCtorEq, Int.reduceEq, *] | skip)
   all_goals rfl
theorem law08_few_abs (l : List Con) (n fuel : Int) : PCalls Try.prog n_law08_few [aCons l, I n, I fuel] (Go.Abs.B (decide (fewQ l n fuel))) := by
 refine PCalls.of is_law08_few (by simp) fun hb => runW_sound ?_
 simp only [c_law08_few]
 have ps := ref08_Small_abs l n
 by_cases h0 : smL l n
 ·rw [decide_eq_true h0] at ps
  by_cases h1 : fuel ≤ 3000
  ·rw [decide_eq_true ⟨h0, h1⟩]
   clear h0
   repeat' first | simp (disch := omega) only [go_sem, ↓reduceIte, Nat.reduceEqDiff, reduceCtorEq, Int.reduceEq, h1] | ((with_reducible first | refine condD ?_ ?_ | refine condX ?_ ?_ | refine condW_intro ?_ ?_) <;> intro h <;> first | (exfalso; omega) | simp (disch := omega) only [go_sem, ↓reduceIte, Nat.reduceEqDiff, reduceCtorEq, Int.reduceEq, *, h1] | skip) | (refine callW_of ps rfl (.inl rfl) ?_)
   all_goals first | rfl | simp [h1]
  ·rw [decide_eq_false (fun h => h1 h.2)]
   clear h0
   repeat' first | simp (disch := omega) only [go_sem, ↓reduceIte, Nat.reduceEqDiff, reduceCtorEq, Int.reduceEq, h1] | ((with_reducible first | refine condD ?_ ?_ | refine condX ?_ ?_ | refine condW_intro ?_ ?_) <;> intro h <;> first | (exfalso; omega) | simp (disch := omega) only [go_sem, ↓reduceIte, Nat.reduceEqDiff, reduceCtorEq, Int.reduceEq, *, h1] | skip) | (refine callW_of ps rfl (.inl rfl) ?_)
   all_goals first | rfl | simp [h1]
 ·rw [decide_eq_false h0] at ps
  rw [decide_eq_false (fun h => h0 h.1)]
  clear h0
  repeat' first | simp (disch := omega) only [go_sem, ↓reduceIte, Nat.reduceEqDiff, reduceCtorEq, Int.reduceEq] | ((with_reducible first | refine condD ?_ ?_ | refine condX ?_ ?_ | refine condW_intro ?_ ?_) <;> intro h <;> first | (exfalso; omega) | simp (disch := omega) only [go_sem, ↓reduceIte, Nat.reduceEqDiff, reduceCtorEq, Int.reduceEq, *] | skip) | (refine callW_of ps rfl (.inl rfl) ?_)
  all_goals rfl
set_option maxHeartbeats 2000000 in
theorem entail_CheckCertificate_abs {l : List Con} {c : Con} {b : List Int} (h64 : ∀ d ∈ l, con64 d) (hc : con64 c) (hl : l.length ≤ 1000) (ht : tot l + c.1.2.length ≤ 1000000) (hb : ∀ x ∈ b, in64 x) :
  PCalls Try.prog n_entail_CheckCertificate [aCons l, aCon c, aInts b] (I (chkS l c b)) := by
 refine PCalls.of is_entail_CheckCertificate (by simp) fun hbd => runW_sound ?_
 have hbl : b.length ≤ 9223372036854775807 := by have := hbd.2.2.1; simpa [bndV, bndA] using this
 clear hbd
 simp only [c_entail_CheckCertificate]
 have pn := entail_negation_abs (l := l) hc (by unfold short; omega)
 have hn64 := negaS_64 (l := l) hc
 have hntot := fun d (hd : d ∈ (negaS l c).1) => negaS_tot hd
 have hn2 := negaS_two l c
 unfold chkS
 generalize negaS l c = X at *
 obtain ⟨P, e⟩ := X
 obtain ⟨⟨K, m⟩, q⟩ := c
 simp only at pn hn64 hntot hn2 ht ⊢
 by_cases h0 : e = 0
 ·subst h0
  rw [if_neg (by simp)]
  have hp : P.length = 0 ∨ P.length = 1 ∨ P.length = 2 := by omega
  have wl : IntKind.wrap .i64 ((l.length : Int) + 1) = (l.length : Int) + 1 := wrap_i64 (by omega)
  have wm : IntKind.wrap .i64 ((P.length : Int) * ((l.length : Int) + 1)) = (P.length : Int) * ((l.length : Int) + 1) := by
   rcases hp with h | h | h <;> rw [h] <;> exact wrap_i64 (by omega)
  by_cases hbn : b.length = P.length * (l.length + 1)
  ·rw [if_neg (not_not_intro hbn)]
   have hbi : (b.length : Int) = (P.length : Int) * ((l.length : Int) + 1) := by rw [hbn, Int.natCast_mul, Int.natCast_add]; rfl
   obtain ⟨R, hR⟩ : ∃ R, R = chkG l b 0 (P.drop 0) := ⟨_, rfl⟩
   have hR0 : chkG l b 0 P = R := hR.symm
   rw [hR0]
   have HR := Lib.hid hR
   clear hR hR0
   repeat' first | simp (disch := omega) only [go_sem, ↓reduceIte, Nat.reduceEqDiff, reduceCtorEq, Int.reduceEq, wl, wm, hbi] | ((with_reducible first | refine condD ?_ ?_ | refine condX ?_ ?_ | refine condW_intro ?_ ?_) <;> intro h <;> first | (exfalso; omega) | simp (disch := omega) only [go_sem, ↓reduceIte, Nat.reduceEqDiff, reduceCtorEq, Int.reduceEq, *, wl, wm, hbi] | skip) | (refine callW_of pn rfl (.inr rfl) ?_)
   refine AW_loop (fun i : Nat => ⟨[(0, aCons l), (2, aInts b), (9, I (l.length + 1)), (32, aCons P), (33, I P.length), (34, I i)], [], 0, 0⟩)
    (fun i => i ≤ P.length ∧ Hid (R = chkG l b i (P.drop i))) (fun i => P.length - i) ⟨0, [], ⟨Nat.zero_le _, HR⟩, by simp [Wk, wkF, wkM, wkL, look_cons, renV, renA, renC, renB, rn, clV, clA, clAs, clB, notIn, findB, findB_setB, clA.go, wl]⟩ ?_
   clear HR pn wm wl
   rintro i ⟨hi, HR⟩
   refine runW_sound ?_
   by_cases hlt : i < P.length
   ·have g1 := map_get (f := cP) hlt
    have h2 := HR.out
    rw [chkG_drop hlt] at h2
    have hp2 := hn64 _ (List.getElem_mem hlt)
    have hpt := hntot _ (List.getElem_mem hlt)
    have pw := entail_with_abs (l := l) P[i] (by omega)
    have hi01 : i = 0 ∨ i = 1 := by omega
    have hlen : (i + 1) * (l.length + 1) ≤ b.length := by
     rw [hbn]; exact Nat.mul_le_mul_right _ hlt
    have hsub : (i + 1) * (l.length + 1) = i * (l.length + 1) + (l.length + 1) := Nat.succ_mul _ _
    have hwl : ((b.take ((i + 1) * (l.length + 1))).drop (i * (l.length + 1))).length ≤ 1000000000 := by
     rw [List.length_drop, List.length_take]; omega
    have pcl := slices_Clone_ints hwl
    have pk := elim_CheckCertificate_abs (l := l ++ [P[i]]) (b := (b.take ((i + 1) * (l.length + 1))).drop (i * (l.length + 1))) (app_64 h64 hp2) (by rw [tot_one]; omega) (fun x hx => hb x (List.mem_of_mem_take (List.mem_of_mem_drop hx)))
    have w1 : IntKind.wrap .i64 ((i : Int) * ((l.length : Int) + 1)) = ((i * (l.length + 1) : Nat) : Int) := by
     rcases hi01 with h | h <;> subst h
     ·rw [wrap_i64 (by omega)]; omega
     ·rw [wrap_i64 (by omega)]; omega
    have w2 : IntKind.wrap .i64 (((i : Int) + 1) * ((l.length : Int) + 1)) = (((i + 1) * (l.length + 1) : Nat) : Int) := by
     rcases hi01 with h | h <;> subst h
     ·rw [wrap_i64 (by omega)]; omega
     ·rw [wrap_i64 (by omega)]; omega
    clear HR hp2 hpt hn64 hntot hbn hbi hwl
    generalize checkS (l ++ [P[i]]) ((b.take ((i + 1) * (l.length + 1))).drop (i * (l.length + 1))) = CK at *
    generalize (i + 1) * (l.length + 1) = HI at *
    generalize i * (l.length + 1) = LO at *
    generalize P[i] = p at *
    obtain ⟨⟨pk', pl⟩, pq⟩ := p
    simp only [cP] at g1
    try simp only at pw pk
    have ew : ((b.map fun n => [pI n]).take HI).drop LO = ((b.take HI).drop LO).map fun n => [pI n] := by rw [List.map_drop, List.map_take]
    have hro : rowsOk 1 (b.map fun n => [pI n]) := rowsOk_map fun _ => rfl
    have tk : (b.map fun n => [pI n]).take b.length = b.map fun n => [pI n] := List.take_of_length_le (by simp)
    by_cases he : CK = 0
    ·subst he
     rw [if_neg (by simp)] at h2
     have HR := Lib.hid h2
     clear h2
     repeat' first | simp (disch := omega) only [go_sem, ↓reduceIte, Nat.reduceEqDiff, reduceCtorEq, Int.reduceEq, g1, w1, w2, wrap_i64, hro, ew, tk, Int.toNat_natCast, Option.getD_some, Option.getD_none, List.length_map] | ((with_reducible first | refine condD ?_ ?_ | refine condX ?_ ?_ | refine condW_intro ?_ ?_) <;> intro h <;> first | (exfalso; omega) | simp (disch := omega) only [go_sem, ↓reduceIte, Nat.reduceEqDiff, reduceCtorEq, Int.reduceEq, *, g1, w1, w2, wrap_i64, hro, ew, tk, Int.toNat_natCast, Option.getD_some, Option.getD_none, List.length_map] | skip) | (with_reducible refine bothW_intro ?_ ?_) | (with_reducible refine nilW_intro (fun h => ?_) ?_) | (refine callW_of pw rfl (.inr rfl) ?_) | (refine callW_of pcl rfl (.inr rfl) ?_) | (refine callW_of pk rfl (.inr rfl) ?_)
     all_goals exact ⟨i + 1, [], ⟨hlt, HR⟩, by omega, by simp [Wk, wkF, wkM, wkL, look_cons, renV, renA, renC, renB, rn, clV, clA, clAs, clB, notIn, findB, findB_setB, clA.go]⟩
    ·rw [if_pos he] at h2
     subst h2
     repeat' first | simp (disch := omega) only [go_sem, ↓reduceIte, Nat.reduceEqDiff, reduceCtorEq, Int.reduceEq, g1, w1, w2, he, wrap_i64, hro, ew, tk, Int.toNat_natCast, Option.getD_some, Option.getD_none, List.length_map] | ((with_reducible first | refine condD ?_ ?_ | refine condX ?_ ?_ | refine condW_intro ?_ ?_) <;> intro h <;> first | (exfalso; omega) | simp (disch := omega) only [go_sem, ↓reduceIte, Nat.reduceEqDiff, reduceCtorEq, Int.reduceEq, *, g1, w1, w2, he, wrap_i64, hro, ew, tk, Int.toNat_natCast, Option.getD_some, Option.getD_none, List.length_map] | skip) | (with_reducible refine bothW_intro ?_ ?_) | (with_reducible refine nilW_intro (fun h => ?_) ?_) | (refine callW_of pw rfl (.inr rfl) ?_) | (refine callW_of pcl rfl (.inr rfl) ?_) | (refine callW_of pk rfl (.inr rfl) ?_)
     all_goals rfl
   ·have h2 := HR.out
    rw [List.drop_eq_nil_of_le (by omega), chkG] at h2
    subst h2
    clear HR hn64 hntot
    repeat' first | simp (disch := omega) only [go_sem, ↓reduceIte, Nat.reduceEqDiff, reduceCtorEq, Int.reduceEq] | ((with_reducible first | refine condD ?_ ?_ | refine condX ?_ ?_ | refine condW_intro ?_ ?_) <;> intro h <;> first | (exfalso; omega) | simp (disch := omega) only [go_sem, ↓reduceIte, Nat.reduceEqDiff, reduceCtorEq, Int.reduceEq, *] | skip)
    all_goals rfl
  ·rw [if_pos hbn]
   have hbi : ¬ (b.length : Int) = (P.length : Int) * ((l.length : Int) + 1) := fun h => hbn (by
    have h3 : ((P.length * (l.length + 1) : Nat) : Int) = (P.length : Int) * ((l.length : Int) + 1) := by rw [Int.natCast_mul, Int.natCast_add]; rfl
    omega)
   repeat' first | simp (disch := omega) only [go_sem, ↓reduceIte, Nat.reduceEqDiff, reduceCtorEq, Int.reduceEq, wl, wm, hbi] | ((with_reducible first | refine condD ?_ ?_ | refine condX ?_ ?_ | refine condW_intro ?_ ?_) <;> intro h <;> first | (exfalso; omega) | simp (disch := omega) only [go_sem, ↓reduceIte, Nat.reduceEqDiff, reduceCtorEq, Int.reduceEq, *, wl, wm, hbi] | skip) | (refine callW_of pn rfl (.inr rfl) ?_)
   all_goals rfl
 ·rw [if_pos h0]
  repeat' first | simp (disch := omega) only [go_sem, ↓reduceIte, Nat.reduceEqDiff, reduceCtorEq, Int.reduceEq, h0] | ((with_reducible first | refine condD ?_ ?_ | refine condX ?_ ?_ | refine condW_intro ?_ ?_) <;> intro h <;> first | (exfalso; omega) | simp (disch := omega) only [go_sem, ↓reduceIte, Nat.reduceEqDiff, reduceCtorEq, Int.reduceEq, *, h0] | skip) | (refine callW_of pn rfl (.inr rfl) ?_)
  all_goals rfl
end Go.Proofs.Ytnddmjhpplopbaa
