/- Walks by the abstract machine: the reference's negation and questions, the law's proof. -/
import Derived.Test.YtnddmjhpplopbaaGreatV08b
set_option linter.unusedVariables false
set_option linter.unusedSimpArgs false
set_option maxRecDepth 20000
namespace Go.Proofs.YtnddmjhpplopbaaGreat
open Go.Abs Go.RowKit

theorem ref06_Validate_abs (c : Con) : PCalls Tryz.prog n_ref06_Validate [aCon c] (I (if linOk c.1.2 then 0 else 1)) := by
 refine PCalls.of is_ref06_Validate (by simp) fun _ => runW_sound ?_
 simp only [c_ref06_Validate]
 have pv := base_LinRight_abs c.1.1 c.1.2
 obtain ⟨⟨k, l⟩, q⟩ := c
 try simp only at pv ⊢
 by_cases h : linOk l
 ·rw [decide_eq_true h] at pv
  rw [if_pos h]
  clear h
  repeat' first | simp (disch := omega) only [go_sem, ↓reduceIte, Nat.reduceEqDiff, reduceCtorEq, Int.reduceEq] | ((with_reducible first | refine condD ?_ ?_ | refine condX ?_ ?_ | refine condW_intro ?_ ?_) <;> intro h <;> first | (exfalso; omega) | simp (disch := omega) only [go_sem, ↓reduceIte, Nat.reduceEqDiff, reduceCtorEq, Int.reduceEq, *] | skip) | (refine callW_of pv rfl (.inl rfl) ?_)
  all_goals rfl
 ·rw [decide_eq_false h] at pv
  rw [if_neg h]
  clear h
  repeat' first | simp (disch := omega) only [go_sem, ↓reduceIte, Nat.reduceEqDiff, reduceCtorEq, Int.reduceEq] | ((with_reducible first | refine condD ?_ ?_ | refine condX ?_ ?_ | refine condW_intro ?_ ?_) <;> intro h <;> first | (exfalso; omega) | simp (disch := omega) only [go_sem, ↓reduceIte, Nat.reduceEqDiff, reduceCtorEq, Int.reduceEq, *] | skip) | (refine callW_of pv rfl (.inl rfl) ?_)
  all_goals rfl
theorem ref08_Valid_abs (l : List Con) : PCalls Tryz.prog n_ref08_Valid [aCons l] (Go.Abs.B (decide (okL l))) := by
 refine PCalls.of is_ref08_Valid (by simp) fun hb => runW_sound ?_
 have hbl : l.length ≤ 9223372036854775807 := by have := hb.1; simpa [bndV, bndA] using this
 clear hb
 simp only [c_ref08_Valid]
 obtain ⟨R, hR⟩ : ∃ R, R = decide (okL l) := ⟨_, rfl⟩
 rw [← hR]
 have HR := Lib.hid hR
 clear hR
 repeat' first | simp (disch := omega) only [go_sem, ↓reduceIte, Nat.reduceEqDiff, reduceCtorEq, Int.reduceEq] | ((with_reducible first | refine condD ?_ ?_ | refine condX ?_ ?_ | refine condW_intro ?_ ?_) <;> intro h <;> first | (exfalso; omega) | simp (disch := omega) only [go_sem, ↓reduceIte, Nat.reduceEqDiff, reduceCtorEq, Int.reduceEq, *] | skip)
 refine AW_loop (fun k : Nat => ⟨[(0, aCons l), (3, I k)], [], 0, 0⟩) (fun k => k ≤ l.length ∧ Hid (∀ c ∈ l.take k, linOk c.1.2)) (fun k => l.length - k) ⟨0, [], ⟨Nat.zero_le _, Lib.hid (by simp)⟩, by simp [Wk, wkF, wkM, wkL, look_cons, renV, renA, renC, renB, rn, clV, clA, clAs, clB, notIn, findB, findB_setB, clA.go]⟩ ?_
 rintro k ⟨hk, HT⟩
 refine runW_sound ?_
 by_cases hlt : k < l.length
 ·have g1 := map_get (f := cP) hlt
  have pv := ref06_Validate_abs l[k]
  by_cases hc : linOk l[k].1.2
  ·have HT' : Hid (∀ c ∈ l.take (k + 1), linOk c.1.2) := Lib.hid (by
    rw [List.take_succ_eq_append_getElem hlt]
    intro c hcm
    rcases List.mem_append.1 hcm with h | h
    ·exact HT.out c h
    ·rw [List.mem_singleton.1 h]; exact hc)
   rw [if_pos hc] at pv
   clear HT hc
   generalize l[k] = c at *
   obtain ⟨⟨ck, cl⟩, q⟩ := c
   simp only [cP] at g1
   try simp only at pv
   repeat' first | simp (disch := omega) only [go_sem, ↓reduceIte, Nat.reduceEqDiff, reduceCtorEq, Int.reduceEq, g1, wrap_i64] | ((with_reducible first | refine condD ?_ ?_ | refine condX ?_ ?_ | refine condW_intro ?_ ?_) <;> intro h <;> first | (exfalso; omega) | simp (disch := omega) only [go_sem, ↓reduceIte, Nat.reduceEqDiff, reduceCtorEq, Int.reduceEq, *, g1, wrap_i64] | skip) | (refine callW_of pv rfl (.inl rfl) ?_)
   exact ⟨k + 1, [], ⟨hlt, HT'⟩, by omega, by simp [Wk, wkF, wkM, wkL, look_cons, renV, renA, renC, renB, rn, clV, clA, clAs, clB, notIn, findB, findB_setB, clA.go]⟩
  ·have hR : R = false := by
    rw [HR.out]
    exact decide_eq_false fun h => hc (h _ (List.getElem_mem hlt))
   subst hR
   rw [if_neg hc] at pv
   clear HT HR hc
   generalize l[k] = c at *
   obtain ⟨⟨ck, cl⟩, q⟩ := c
   simp only [cP] at g1
   try simp only at pv
   repeat' first | simp (disch := omega) only [go_sem, ↓reduceIte, Nat.reduceEqDiff, reduceCtorEq, Int.reduceEq, g1, wrap_i64] | ((with_reducible first | refine condD ?_ ?_ | refine condX ?_ ?_ | refine condW_intro ?_ ?_) <;> intro h <;> first | (exfalso; omega) | simp (disch := omega) only [go_sem, ↓reduceIte, Nat.reduceEqDiff, reduceCtorEq, Int.reduceEq, *, g1, wrap_i64] | skip) | (refine callW_of pv rfl (.inl rfl) ?_)
   all_goals rfl
 ·have hR : R = true := by
   rw [HR.out]
   have h := HT.out
   rw [List.take_of_length_le (by omega)] at h
   exact decide_eq_true h
  subst hR
  clear HT HR
  repeat' first | simp (disch := omega) only [go_sem, ↓reduceIte, Nat.reduceEqDiff, reduceCtorEq, Int.reduceEq] | ((with_reducible first | refine condD ?_ ?_ | refine condX ?_ ?_ | refine condW_intro ?_ ?_) <;> intro h <;> first | (exfalso; omega) | simp (disch := omega) only [go_sem, ↓reduceIte, Nat.reduceEqDiff, reduceCtorEq, Int.reduceEq, *] | skip)
  all_goals rfl
theorem wrap_not {K : Int} (h : in64 K) : IntKind.wrap .i64 (((BitVec.ofInt 64 (if IntKind.signed .i64 = true then -1 else 9223372036854775807) ^^^ BitVec.ofInt 64 K).toNat : Nat) : Int) = -1 - K := by
 have e : BitVec.ofInt 64 (if IntKind.signed .i64 = true then (-1) else 9223372036854775807) = BitVec.allOnes 64 := by decide
 rw [e, BitVec.allOnes_xor, BitVec.toNat_not, BitVec.toNat_ofInt, IntKind.wrap_i64]
 unfold in64 at h
 have h1 : ((2 ^ 64 : Nat) : Int) = 18446744073709551616 := by decide
 have h2 : (2 ^ 64 : Nat) = 18446744073709551616 := by decide
 rw [h1, h2]
 omega
set_option maxHeartbeats 2000000 in
theorem ref06_Negate_abs {c : Con} (h64 : con64 c) (hs : short c.1.2) : PCalls Tryz.prog n_ref06_Negate [aCon c] (aConsE (negS c)) := by
 refine PCalls.of is_ref06_Negate (by simp) fun _ => runW_sound ?_
 simp only [c_ref06_Negate]
 have pv := ref06_Validate_abs c
 by_cases hok : linOk c.1.2
 ·rw [oppS_neg hok]
  rw [if_pos hok] at pv
  obtain ⟨hK, hl⟩ := h64
  obtain ⟨⟨K, l⟩, q⟩ := c
  unfold short at hs
  try simp only at pv hs hK hl ⊢
  clear hok
  have wk := wrap_not hK
  obtain ⟨R, hR⟩ : ∃ R, R = oppS (K, l) := ⟨_, rfl⟩
  rw [← hR]
  have HR := Lib.hid hR
  clear hR
  repeat' first | simp (disch := omega) only [go_sem, ↓reduceIte, Nat.reduceEqDiff, reduceCtorEq, Int.reduceEq, wk] | ((with_reducible first | refine condD ?_ ?_ | refine condX ?_ ?_ | refine condW_intro ?_ ?_) <;> intro h <;> first | (exfalso; omega) | simp (disch := omega) only [go_sem, ↓reduceIte, Nat.reduceEqDiff, reduceCtorEq, Int.reduceEq, *, wk] | skip) | (refine callW_of pv rfl (.inl rfl) ?_)
  refine AW_adoptM 1 1 52 2 _ rfl rfl (by decide) ?_
  refine AW_loop (fun j : Nat => ⟨[(1, .c (.ptr 0 0)), (5, .c (.ptr 1 0)), (6, I j)],
   [(0, .var [.pure (pI K), .pure (pMonos l), .pure (pB q)]), (1, .var [.pure (pI (-1 - K)), .ref 2, .pure (pB false)]), (2, .arr 52 2 ((negL (l.take j)).map mP))], 3, 0⟩) (fun j => j ≤ l.length ∧ Hid (¬ minAt (l.take j))) (fun j => l.length - j) ⟨0, [], ⟨Nat.zero_le _, Lib.hid (by simp [minAt])⟩, by (simp [Wk, wkF, wkM, wkL, look_cons, renV, renA, renC, renB, rn, clV, clA, clAs, clB, notIn, findB, findB_setB, clA.go, negL]; exact wk)⟩ ?_
  rintro j ⟨hj, HM⟩
  refine runW_sound ?_
  by_cases hlt : j < l.length
  ·have e1 := negL_take hlt
   have g1 := map_get (f := mP) hlt
   have hlen : (negL (l.take j)).length ≤ 1000000000 := by simp [negL]; omega
   have hx := hl _ (List.getElem_mem hlt)
   by_cases hm : l[j].2 = -9223372036854775808
   ·have h2 : R = ((0, []), 3) := by rw [HR.out, oppS, if_pos ⟨_, List.getElem_mem hlt, hm⟩]
    subst h2
    rw [if_pos (by decide)]
    clear HR HM
    generalize l[j] = m at *
    obtain ⟨n, x⟩ := m
    simp only [mP] at g1 e1
    simp only at hm hx
    subst hm
    repeat' first | simp (disch := omega) only [go_sem, ↓reduceIte, Nat.reduceEqDiff, reduceCtorEq, Int.reduceEq, g1, wrap_i64] | ((with_reducible first | refine condD ?_ ?_ | refine condX ?_ ?_ | refine condW_intro ?_ ?_) <;> intro h <;> first | (exfalso; omega) | simp (disch := omega) only [go_sem, ↓reduceIte, Nat.reduceEqDiff, reduceCtorEq, Int.reduceEq, *, g1, wrap_i64] | skip)
    all_goals rfl
   ·have HM' : Hid (¬ minAt (l.take (j + 1))) := Lib.hid (minAt_take hlt HM.out hm)
    clear HM
    generalize l[j] = m at *
    obtain ⟨n, x⟩ := m
    simp only [mP] at g1 e1
    simp only at hm hx
    have wx : IntKind.wrap .i64 (-x) = -x := wrap_i64 (by unfold in64 at hx; omega)
    generalize negL (l.take j) = D0 at *
    repeat' first | simp (disch := omega) only [go_sem, ↓reduceIte, Nat.reduceEqDiff, reduceCtorEq, Int.reduceEq, g1, wrap_i64, hm, wx] | ((with_reducible first | refine condD ?_ ?_ | refine condX ?_ ?_ | refine condW_intro ?_ ?_) <;> intro h <;> first | (exfalso; omega) | simp (disch := omega) only [go_sem, ↓reduceIte, Nat.reduceEqDiff, reduceCtorEq, Int.reduceEq, *, g1, wrap_i64, hm, wx] | skip) | (refine app_own rfl (by intro h; cases h) (rowsOk_one rfl) (by simp; omega) (by simp; omega) ?_)
    exact ⟨j + 1, [(2, 3)], ⟨hlt, HM'⟩, by omega, by simp [Wk, wkF, wkM, wkL, look_cons, renV, renA, renC, renB, rn, clV, clA, clAs, clB, notIn, findB, findB_setB, clA.go, e1, wx]⟩
  ·obtain rfl : j = l.length := by omega
   have hM := HM.out
   rw [List.take_of_length_le (Nat.le_refl _)] at hM
   have h2 : R = ((-1 - K, negL l), 0) := by rw [HR.out, oppS, if_neg hM]
   subst h2
   rw [if_neg (by simp)]
   clear HR HM hM
   rw [List.take_of_length_le (Nat.le_refl _)]
   cases q
   ·rw [if_pos rfl]
    repeat' first | simp (disch := omega) only [go_sem, ↓reduceIte, Nat.reduceEqDiff, reduceCtorEq, Int.reduceEq] | ((with_reducible first | refine condD ?_ ?_ | refine condX ?_ ?_ | refine condW_intro ?_ ?_) <;> intro h <;> first | (exfalso; omega) | simp (disch := omega) only [go_sem, ↓reduceIte, Nat.reduceEqDiff, reduceCtorEq, Int.reduceEq, *] | skip)
    all_goals rfl
   ·rw [if_neg (by simp)]
    by_cases h1 : K = -9223372036854775808
    ·rw [if_pos h1]
     subst h1
     repeat' first | simp (disch := omega) only [go_sem, ↓reduceIte, Nat.reduceEqDiff, reduceCtorEq, Int.reduceEq] | ((with_reducible first | refine condD ?_ ?_ | refine condX ?_ ?_ | refine condW_intro ?_ ?_) <;> intro h <;> first | (exfalso; omega) | simp (disch := omega) only [go_sem, ↓reduceIte, Nat.reduceEqDiff, reduceCtorEq, Int.reduceEq, *] | skip)
     all_goals rfl
    ·rw [if_neg h1]
     have wk2 : IntKind.wrap .i64 (K - 1) = K - 1 := wrap_i64 (by unfold in64 at hK; omega)
     repeat' first | simp (disch := omega) only [go_sem, ↓reduceIte, Nat.reduceEqDiff, reduceCtorEq, Int.reduceEq, h1, wk2] | ((with_reducible first | refine condD ?_ ?_ | refine condX ?_ ?_ | refine condW_intro ?_ ?_) <;> intro h <;> first | (exfalso; omega) | simp (disch := omega) only [go_sem, ↓reduceIte, Nat.reduceEqDiff, reduceCtorEq, Int.reduceEq, *, h1, wk2] | skip)
     refine AW_adoptM 3 1 52 2 _ rfl rfl (by decide) ?_
     refine AW_loop (fun j : Nat => ⟨[(1, .c (.ptr 0 0)), (5, .c (.ptr 1 0)), (7, .c (.ptr 3 0)), (8, I j)],
      [(0, .var [.pure (pI K), .pure (pMonos l), .pure (pB true)]), (1, .var [.pure (pI (-1 - K)), .ref 2, .pure (pB false)]), (2, .arr 52 2 ((negL l).map mP)), (3, .var [.pure (pI (K - 1)), .ref 4, .pure (pB false)]), (4, .arr 52 2 ((l.take j).map mP))], 5, 0⟩) (fun j => j ≤ l.length) (fun j => l.length - j) ⟨0, [], Nat.zero_le _, by simp [Wk, wkF, wkM, wkL, look_cons, renV, renA, renC, renB, rn, clV, clA, clAs, clB, notIn, findB, findB_setB, clA.go]⟩ ?_
     intro j hj
     refine runW_sound ?_
     by_cases hlt : j < l.length
     ·have g1 := map_get (f := mP) hlt
      have e1 : (l.take (j + 1)).map mP = (l.take j).map mP ++ [mP l[j]] := by rw [List.take_succ_eq_append_getElem hlt, List.map_append]; rfl
      have hlen : (l.take j).length ≤ 1000000000 := by simp; omega
      generalize l[j] = m at *
      obtain ⟨n, x⟩ := m
      simp only [mP] at g1 e1
      generalize l.take j = D0 at *
      repeat' first | simp (disch := omega) only [go_sem, ↓reduceIte, Nat.reduceEqDiff, reduceCtorEq, Int.reduceEq, g1, wrap_i64] | ((with_reducible first | refine condD ?_ ?_ | refine condX ?_ ?_ | refine condW_intro ?_ ?_) <;> intro h <;> first | (exfalso; omega) | simp (disch := omega) only [go_sem, ↓reduceIte, Nat.reduceEqDiff, reduceCtorEq, Int.reduceEq, *, g1, wrap_i64] | skip) | (refine app_own rfl (by intro h; cases h) (rowsOk_one rfl) (by simp; omega) (by simp; omega) ?_)
      exact ⟨j + 1, [(4, 5)], hlt, by omega, by simp [Wk, wkF, wkM, wkL, look_cons, renV, renA, renC, renB, rn, clV, clA, clAs, clB, notIn, findB, findB_setB, clA.go, e1]⟩
     ·obtain rfl : j = l.length := by omega
      rw [List.take_of_length_le (Nat.le_refl _)]
      repeat' first | simp (disch := omega) only [go_sem, ↓reduceIte, Nat.reduceEqDiff, reduceCtorEq, Int.reduceEq] | ((with_reducible first | refine condD ?_ ?_ | refine condX ?_ ?_ | refine condW_intro ?_ ?_) <;> intro h <;> first | (exfalso; omega) | simp (disch := omega) only [go_sem, ↓reduceIte, Nat.reduceEqDiff, reduceCtorEq, Int.reduceEq, *] | skip)
      all_goals rfl
 ·rw [if_neg hok] at pv
  rw [negS, if_pos hok]
  obtain ⟨⟨K, l⟩, q⟩ := c
  try simp only at pv ⊢
  clear hok
  repeat' first | simp (disch := omega) only [go_sem, ↓reduceIte, Nat.reduceEqDiff, reduceCtorEq, Int.reduceEq] | ((with_reducible first | refine condD ?_ ?_ | refine condX ?_ ?_ | refine condW_intro ?_ ?_) <;> intro h <;> first | (exfalso; omega) | simp (disch := omega) only [go_sem, ↓reduceIte, Nat.reduceEqDiff, reduceCtorEq, Int.reduceEq, *] | skip) | (refine callW_of pv rfl (.inl rfl) ?_)
  all_goals rfl
abbrev aQs (l : List (List Con)) : AV := aSl (fun q => [pSl cP q]) l
def qsR (l P : List Con) : List (List PC) := (P.map fun p => l ++ [p]).map fun q => [pSl cP q]
set_option maxHeartbeats 2000000 in
theorem ref08_Questions_abs {l : List Con} {c : Con} (h64 : con64 c) (hs : short c.1.2) (hl : l.length ≤ 1000) : PCalls Tryz.prog n_ref08_Questions [aCons l, aCon c] (.tup [aQs (questS l c).1, I (questS l c).2]) := by
 refine PCalls.of is_ref08_Questions (by simp) fun _ => runW_sound ?_
 simp only [c_ref08_Questions]
 have p1 := ref08_Valid_abs l
 have p2 := ref06_Validate_abs c
 have p3 := ref06_Negate_abs h64 hs
 have hn2 := negS_two c
 rw [questS]
 by_cases h1 : okL l
 ·rw [decide_eq_true h1] at p1
  by_cases h2 : linOk c.1.2
  ·rw [if_pos h2] at p2
   have en : negaS l c = negS c := by rw [negaS, if_neg (by rintro (h | h); exact h h1; exact h h2)]
   rw [en]
   clear en
   clear h1 h2 h64 hs
   obtain ⟨⟨K, m⟩, q⟩ := c
   try simp only at p2 p3 hn2
   generalize negS ((K, m), q) = X at *
   obtain ⟨P, e⟩ := X
   try simp only at p3 hn2 ⊢
   by_cases h0 : e = 0
   ·subst h0
    rw [if_neg (by simp)]
    have hok := rowsOk_map (f := cP) (sz := 3) (xs := l) fun _ => rfl
    repeat' first | simp (disch := omega) only [go_sem, ↓reduceIte, Nat.reduceEqDiff, reduceCtorEq, Int.reduceEq] | ((with_reducible first | refine condD ?_ ?_ | refine condX ?_ ?_ | refine condW_intro ?_ ?_) <;> intro h <;> first | (exfalso; omega) | simp (disch := omega) only [go_sem, ↓reduceIte, Nat.reduceEqDiff, reduceCtorEq, Int.reduceEq, *] | skip) | (refine callW_of p1 rfl (.inl rfl) ?_) | (refine callW_of p2 rfl (.inl rfl) ?_) | (refine callW_of p3 rfl (.inr rfl) ?_)
    refine AW_adopt 8 22 1 rfl (by decide) ?_
    refine AW_loop (fun i : Nat => ⟨[(0, aCons l), (6, aCons P), (8, .c (.ref 1)), (9, I i)], [(1, .arr 22 1 (qsR l (P.take i)))], 2, 0⟩)
     (fun i => i ≤ P.length) (fun i => P.length - i) ⟨0, [], Nat.zero_le _, by simp [Wk, wkF, wkM, wkL, look_cons, renV, renA, renC, renB, rn, clV, clA, clAs, clB, notIn, findB, findB_setB, clA.go, qsR]⟩ ?_
    clear p1 p2 p3
    intro i hi
    refine runW_sound ?_
    by_cases hlt : i < P.length
    ·have g1 := map_get (f := cP) hlt
     have e1 : qsR l (P.take (i + 1)) = qsR l (P.take i) ++ [[pSl cP (l ++ [P[i]])]] := by
      rw [List.take_succ_eq_append_getElem hlt, qsR, qsR, List.map_append, List.map_append]; rfl
     have hlen : (qsR l (P.take i)).length ≤ 2 := by simp [qsR]; omega
     generalize P[i] = p at *
     obtain ⟨⟨pk, pl⟩, pq⟩ := p
     simp only [cP] at g1
     rw [pSl, List.map_append] at e1
     generalize qsR l (P.take i) = D0 at *
     repeat' first | simp (disch := omega) only [go_sem, ↓reduceIte, Nat.reduceEqDiff, reduceCtorEq, Int.reduceEq, g1, wrap_i64] | ((with_reducible first | refine condD ?_ ?_ | refine condX ?_ ?_ | refine condW_intro ?_ ?_) <;> intro h <;> first | (exfalso; omega) | simp (disch := omega) only [go_sem, ↓reduceIte, Nat.reduceEqDiff, reduceCtorEq, Int.reduceEq, *, g1, wrap_i64] | skip) | (refine app_nil hok (by simp; omega) (by simp; omega) ?_) | (refine app_own rfl (by intro h; cases h) (rowsOk_one rfl) (by simp; omega) (by simp; omega) ?_)
     exact ⟨i + 1, [(1, 4)], hlt, by omega, by simp [Wk, wkF, wkM, wkL, look_cons, renV, renA, renC, renB, rn, clV, clA, clAs, clB, notIn, findB, findB_setB, clA.go, e1, cP]⟩
    ·obtain rfl : i = P.length := by omega
     rw [List.take_of_length_le (Nat.le_refl _)]
     repeat' first | simp (disch := omega) only [go_sem, ↓reduceIte, Nat.reduceEqDiff, reduceCtorEq, Int.reduceEq] | ((with_reducible first | refine condD ?_ ?_ | refine condX ?_ ?_ | refine condW_intro ?_ ?_) <;> intro h <;> first | (exfalso; omega) | simp (disch := omega) only [go_sem, ↓reduceIte, Nat.reduceEqDiff, reduceCtorEq, Int.reduceEq, *] | skip)
     all_goals rfl
   ·rw [if_pos h0]
    repeat' first | simp (disch := omega) only [go_sem, ↓reduceIte, Nat.reduceEqDiff, reduceCtorEq, Int.reduceEq, h0] | ((with_reducible first | refine condD ?_ ?_ | refine condX ?_ ?_ | refine condW_intro ?_ ?_) <;> intro h <;> first | (exfalso; omega) | simp (disch := omega) only [go_sem, ↓reduceIte, Nat.reduceEqDiff, reduceCtorEq, Int.reduceEq, *, h0] | skip) | (refine callW_of p1 rfl (.inl rfl) ?_) | (refine callW_of p2 rfl (.inl rfl) ?_) | (refine callW_of p3 rfl (.inr rfl) ?_)
    all_goals rfl
  ·rw [if_neg h2] at p2
   have en : negaS l c = ([], 1) := by rw [negaS, if_pos (.inr h2)]
   rw [en, if_pos (show (1 : Int) ≠ 0 by decide)]
   clear en
   clear h1 h2 h64 hs p3 hn2
   obtain ⟨⟨K, m⟩, q⟩ := c
   try simp only at p2
   repeat' first | simp (disch := omega) only [go_sem, ↓reduceIte, Nat.reduceEqDiff, reduceCtorEq, Int.reduceEq] | ((with_reducible first | refine condD ?_ ?_ | refine condX ?_ ?_ | refine condW_intro ?_ ?_) <;> intro h <;> first | (exfalso; omega) | simp (disch := omega) only [go_sem, ↓reduceIte, Nat.reduceEqDiff, reduceCtorEq, Int.reduceEq, *] | skip) | (refine callW_of p1 rfl (.inl rfl) ?_) | (refine callW_of p2 rfl (.inl rfl) ?_)
   all_goals rfl
 ·rw [decide_eq_false h1] at p1
  have en : negaS l c = ([], 1) := by rw [negaS, if_pos (.inl h1)]
  rw [en, if_pos (show (1 : Int) ≠ 0 by decide)]
  clear en
  clear h1 h64 hs p3 p2 hn2
  obtain ⟨⟨K, m⟩, q⟩ := c
  repeat' first | simp (disch := omega) only [go_sem, ↓reduceIte, Nat.reduceEqDiff, reduceCtorEq, Int.reduceEq] | ((with_reducible first | refine condD ?_ ?_ | refine condX ?_ ?_ | refine condW_intro ?_ ?_) <;> intro h <;> first | (exfalso; omega) | simp (disch := omega) only [go_sem, ↓reduceIte, Nat.reduceEqDiff, reduceCtorEq, Int.reduceEq, *] | skip) | (refine callW_of p1 rfl (.inl rfl) ?_)
  all_goals rfl
set_option maxHeartbeats 2000000 in
theorem law08_prove_abs {l : List Con} {c : Con} {fuel : Int} (h64 : ∀ d ∈ l, con64 d) (hc : con64 c) (hl : l.length ≤ 1000) (ht : tot l + c.1.2.length ≤ 1000000) (hf : in64 fuel) :
  PCalls Tryz.prog n_law08_prove [aCons l, aCon c, I fuel] (aInf (implS l c fuel)) := by
 refine PCalls.of is_law08_prove (by simp) fun _ => runW_sound ?_
 simp only [c_law08_prove]
 have pn := ref08_Questions_abs (l := l) hc (by unfold short; omega) hl
 have hn64 := negaS_64 (l := l) hc
 have hntot := fun d (hd : d ∈ (negaS l c).1) => negaS_tot hd
 have hn2 := negaS_two l c
 unfold questS at pn
 unfold implS
 generalize negaS l c = X at *
 obtain ⟨P, e⟩ := X
 obtain ⟨⟨K, m⟩, q⟩ := c
 try simp only at pn hn64 hntot hn2 ht ⊢
 by_cases h0 : e = 0
 ·subst h0
  rw [if_neg (by simp)] at pn ⊢
  obtain ⟨R, hR⟩ : ∃ R, R = implG l fuel (P.drop 0) [] := ⟨_, rfl⟩
  have hR0 : implG l fuel P [] = R := hR.symm
  rw [hR0]
  have HR := Lib.hid hR
  clear hR hR0
  repeat' first | simp (disch := omega) only [go_sem, ↓reduceIte, Nat.reduceEqDiff, reduceCtorEq, Int.reduceEq] | ((with_reducible first | refine condD ?_ ?_ | refine condX ?_ ?_ | refine condW_intro ?_ ?_) <;> intro h <;> first | (exfalso; omega) | simp (disch := omega) only [go_sem, ↓reduceIte, Nat.reduceEqDiff, reduceCtorEq, Int.reduceEq, *] | skip) | (refine callW_of pn rfl (.inr rfl) ?_)
  refine AW_adopt 11 2 1 rfl (by decide) ?_
  refine AW_loop (fun s : Nat × List Int => ⟨[(2, I fuel), (9, aQs (P.map fun p => l ++ [p])), (11, .c (.ref 1)), (12, Go.Abs.B true), (13, I s.1)], [(1, .arr 2 1 (s.2.map fun n => [pI n]))], 2, 0⟩)
   (fun s => s.1 ≤ P.length ∧ s.2.length ≤ s.1 * 1001 ∧ Hid (R = implG l fuel (P.drop s.1) s.2)) (fun s => P.length - s.1) ⟨(0, []), [], ⟨Nat.zero_le _, by simp, HR⟩, by simp [Wk, wkF, wkM, wkL, look_cons, renV, renA, renC, renB, rn, clV, clA, clAs, clB, notIn, findB, findB_setB, clA.go]⟩ ?_
  clear HR pn
  rintro ⟨i, acc⟩ ⟨hi, ha, HR⟩
  simp only at hi ha HR
  refine runW_sound ?_
  have hml : (P.map fun p => l ++ [p]).length = P.length := by simp
  by_cases hlt : i < P.length
  ·have g1 : ((P.map fun p => l ++ [p]).map fun q => [pSl cP q])[i]? = some [pSl cP (l ++ [P[i]])] := by simp [hlt]
   have h2 := HR.out
   rw [implG_drop hlt] at h2
   have hp := hn64 _ (List.getElem_mem hlt)
   have hpt := hntot _ (List.getElem_mem hlt)
   have pi := elim_Infeasible_abs (l := l ++ [P[i]]) (fuel := fuel) (app_64 h64 hp) (by rw [tot_one]; omega) hf
   have hlen := infS_len (l := l ++ [P[i]]) (fuel := fuel) (app_64 h64 hp)
   rw [List.length_append, List.length_singleton] at hlen
   clear HR hp hpt hn64 hntot
   generalize infS (l ++ [P[i]]) fuel = Y at *
   obtain ⟨by', ok, e⟩ := Y
   simp only at h2 pi hlen
   have hok := rowsOk_map (f := fun n : Int => [pI n]) (sz := 1) (xs := by') fun _ => rfl
   by_cases he : e = 0
   ·subst he
    rw [if_neg (by simp)] at h2
    cases ok
    ·rw [if_pos rfl] at h2
     subst h2
     clear hok
     repeat' first | simp (disch := omega) only [go_sem, ↓reduceIte, Nat.reduceEqDiff, reduceCtorEq, Int.reduceEq, g1, hml, wrap_i64] | ((with_reducible first | refine condD ?_ ?_ | refine condX ?_ ?_ | refine condW_intro ?_ ?_) <;> intro h <;> first | (exfalso; omega) | simp (disch := omega) only [go_sem, ↓reduceIte, Nat.reduceEqDiff, reduceCtorEq, Int.reduceEq, *, g1, hml, wrap_i64] | skip) | (refine callW_of pi rfl (.inr rfl) ?_)
     all_goals rfl
    ·rw [if_neg (by simp)] at h2
     have HR := Lib.hid h2
     clear h2
     repeat' first | simp (disch := omega) only [go_sem, ↓reduceIte, Nat.reduceEqDiff, reduceCtorEq, Int.reduceEq, g1, hml, wrap_i64] | ((with_reducible first | refine condD ?_ ?_ | refine condX ?_ ?_ | refine condW_intro ?_ ?_) <;> intro h <;> first | (exfalso; omega) | simp (disch := omega) only [go_sem, ↓reduceIte, Nat.reduceEqDiff, reduceCtorEq, Int.reduceEq, *, g1, hml, wrap_i64] | skip) | (refine callW_of pi rfl (.inr rfl) ?_) | (refine app_own rfl (by intro h; cases h) hok (by simp; omega) (by simp; omega) ?_)
     exact ⟨(i + 1, acc ++ by'), [(1, 2)], ⟨hlt, by simp; omega, HR⟩, by show _ - _ < _ - _; omega, by simp [Wk, wkF, wkM, wkL, look_cons, renV, renA, renC, renB, rn, clV, clA, clAs, clB, notIn, findB, findB_setB, clA.go]⟩
   ·rw [if_pos he] at h2
    subst h2
    clear hok
    repeat' first | simp (disch := omega) only [go_sem, ↓reduceIte, Nat.reduceEqDiff, reduceCtorEq, Int.reduceEq, g1, hml, he, wrap_i64] | ((with_reducible first | refine condD ?_ ?_ | refine condX ?_ ?_ | refine condW_intro ?_ ?_) <;> intro h <;> first | (exfalso; omega) | simp (disch := omega) only [go_sem, ↓reduceIte, Nat.reduceEqDiff, reduceCtorEq, Int.reduceEq, *, g1, hml, he, wrap_i64] | skip) | (refine callW_of pi rfl (.inr rfl) ?_)
    all_goals rfl
  ·have h2 := HR.out
   rw [List.drop_eq_nil_of_le (by omega), implG] at h2
   subst h2
   clear HR hn64 hntot
   repeat' first | simp (disch := omega) only [go_sem, ↓reduceIte, Nat.reduceEqDiff, reduceCtorEq, Int.reduceEq, hml] | ((with_reducible first | refine condD ?_ ?_ | refine condX ?_ ?_ | refine condW_intro ?_ ?_) <;> intro h <;> first | (exfalso; omega) | simp (disch := omega) only [go_sem, ↓reduceIte, Nat.reduceEqDiff, reduceCtorEq, Int.reduceEq, *, hml] | skip)
   all_goals rfl
 ·rw [if_pos h0] at pn ⊢
  repeat' first | simp (disch := omega) only [go_sem, ↓reduceIte, Nat.reduceEqDiff, reduceCtorEq, Int.reduceEq, h0] | ((with_reducible first | refine condD ?_ ?_ | refine condX ?_ ?_ | refine condW_intro ?_ ?_) <;> intro h <;> first | (exfalso; omega) | simp (disch := omega) only [go_sem, ↓reduceIte, Nat.reduceEqDiff, reduceCtorEq, Int.reduceEq, *, h0] | skip) | (refine callW_of pn rfl (.inr rfl) ?_)
  all_goals rfl
end Go.Proofs.YtnddmjhpplopbaaGreat
