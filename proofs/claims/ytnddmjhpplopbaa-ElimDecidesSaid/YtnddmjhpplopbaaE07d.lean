/- Walks by the abstract machine: the reference's names, small constraints, Feasible; the law ElimDecides. -/
import Derived.Test.YtnddmjhpplopbaaV07yl
import Derived.Test.YtnddmjhpplopbaaR07r
import Derived.Test.YtnddmjhpplopbaaPlain07q
import Derived.Test.YtnddmjhpplopbaaIn7
import Derived.Test.YtnddmjhpplopbaaCodesLB
set_option linter.unusedVariables false
set_option linter.unusedSimpArgs false
set_option maxRecDepth 20000
namespace Go.Proofs.Ytnddmjhpplopbaa
open Go.Abs Go.RowKit

theorem nmsL_drop {l : List Con} {k : Nat} (h : k < l.length) : nmsL (l.drop k) = l[k].1.2.map (·.1) ++ nmsL (l.drop (k + 1)) := by
 rw [List.drop_eq_getElem_cons h, nmsL, List.flatMap_cons]; rfl
theorem nmsL_tot : ∀ {l : List Con}, (nmsL l).length = tot l
 | [] => rfl
 |c :: l => by
  have := nmsL_tot (l := l)
  simp only [nmsL, List.flatMap_cons, List.length_append, List.length_map, tot] at this ⊢
  omega
set_option maxHeartbeats 2000000 in
theorem ref07_Names_abs {l : List Con} (hs : tot l ≤ 1000000000) : PCalls Try.prog n_ref07_Names [aCons l] (aStrs (namesD l)) := by
 refine PCalls.of is_ref07_Names (by simp) fun hb => runW_sound ?_
 have hbl : l.length ≤ 9223372036854775807 := by have := hb.1; simpa [bndV, bndA] using this
 clear hb
 simp only [c_ref07_Names]
 obtain ⟨R, hR⟩ : ∃ R, R = (nmsL (l.drop 0)).foldl addN [] := ⟨_, rfl⟩
 have hR0 : namesD l = R := hR.symm
 rw [hR0]
 have HR := Lib.hid hR
 clear hR hR0
 rw [← nmsL_tot] at hs
 repeat' first | simp (disch := omega) only [go_sem, ↓reduceIte, Nat.reduceEqDiff, reduceCtorEq, Int.reduceEq] | ((with_reducible first | refine condD ?_ ?_ | refine condX ?_ ?_ | refine condW_intro ?_ ?_) <;> intro h <;> first | (exfalso; omega) | simp (disch := omega) only [go_sem, ↓reduceIte, Nat.reduceEqDiff, reduceCtorEq, Int.reduceEq, *] | skip)
 refine AW_adopt 3 9 1 rfl (by decide) ?_
 refine AW_loop (fun s : Nat × List ByteArray => ⟨[(0, aCons l), (3, .c (.ref 0)), (4, I s.1)], [(0, .arr 9 1 (s.2.map fun s => [pS s]))], 1, 0⟩)
  (fun s => s.1 ≤ l.length ∧ s.2.length + (nmsL (l.drop s.1)).length ≤ 1000000000 ∧ Hid (R = (nmsL (l.drop s.1)).foldl addN s.2)) (fun s => l.length - s.1) ⟨(0, []), [], ⟨Nat.zero_le _, by simpa using hs, HR⟩, by simp [Wk, wkF, wkM, wkL, look_cons, renV, renA, renC, renB, rn, clV, clA, clAs, clB, notIn, findB, findB_setB, clA.go]⟩ ?_
 clear HR hs
 rintro ⟨k, acc⟩ ⟨hk, ha, HR⟩
 simp only at hk ha HR
 refine runW_sound ?_
 by_cases hlt : k < l.length
 ·have g1 := map_get (f := cP) hlt
  have h2 := HR.out
  rw [nmsL_drop hlt, List.foldl_append] at h2
  rw [nmsL_drop hlt, List.length_append, List.length_map] at ha
  clear HR
  generalize l[k] = c at *
  obtain ⟨⟨ck, cl⟩, q⟩ := c
  simp only [cP] at g1
  simp only at h2 ha
  have HR : Hid (R = (nmsL (l.drop (k + 1))).foldl addN (((cl.drop 0).map (·.1)).foldl addN acc)) := Lib.hid h2
  clear h2
  generalize hT : (nmsL (l.drop (k + 1))).length = TL at *
  have hcl : cl.length ≤ 1000000000 := by omega
  repeat' first | simp (disch := omega) only [go_sem, ↓reduceIte, Nat.reduceEqDiff, reduceCtorEq, Int.reduceEq, g1] | ((with_reducible first | refine condD ?_ ?_ | refine condX ?_ ?_ | refine condW_intro ?_ ?_) <;> intro h <;> first | (exfalso; omega) | simp (disch := omega) only [go_sem, ↓reduceIte, Nat.reduceEqDiff, reduceCtorEq, Int.reduceEq, *, g1] | skip)
  refine AW_loop (fun s : Nat × List ByteArray => ⟨[(0, aCons l), (3, .c (.ref 0)), (4, I k), (5, I s.1)], [(0, .arr 9 1 (s.2.map fun s => [pS s]))], 1, 0⟩)
   (fun s => s.1 ≤ cl.length ∧ s.2.length + (cl.length - s.1) + TL ≤ 1000000000 ∧ Hid (R = (nmsL (l.drop (k + 1))).foldl addN (((cl.drop s.1).map (·.1)).foldl addN s.2))) (fun s => cl.length - s.1) ⟨(0, acc), [], ⟨Nat.zero_le _, by simp only; omega, HR⟩, by simp [Wk, wkF, wkM, wkL, look_cons, renV, renA, renC, renB, rn, clV, clA, clAs, clB, notIn, findB, findB_setB, clA.go]⟩ ?_
  clear HR ha
  rintro ⟨j, acc⟩ ⟨hj, ha, HR⟩
  simp only at hj ha HR
  refine runW_sound ?_
  by_cases hlj : j < cl.length
  ·have g2 := map_get (f := mP) hlj
   have h2 := HR.out
   rw [List.drop_eq_getElem_cons hlj, List.map_cons, List.foldl_cons] at h2
   clear HR
   generalize cl[j] = m at *
   obtain ⟨n, x⟩ := m
   simp only [mP] at g2
   simp only at h2
   have ph := base_Has_abs acc n
   rw [addN] at h2
   by_cases hn : n ∈ acc
   ·rw [if_pos hn] at h2
    rw [decide_eq_true hn] at ph
    have HR := Lib.hid h2
    clear h2 hn
    repeat' first | simp (disch := omega) only [go_sem, ↓reduceIte, Nat.reduceEqDiff, reduceCtorEq, Int.reduceEq, g1, g2, wrap_i64] | ((with_reducible first | refine condD ?_ ?_ | refine condX ?_ ?_ | refine condW_intro ?_ ?_) <;> intro h <;> first | (exfalso; omega) | simp (disch := omega) only [go_sem, ↓reduceIte, Nat.reduceEqDiff, reduceCtorEq, Int.reduceEq, *, g1, g2, wrap_i64] | skip) | (refine callW_of ph rfl (.inl rfl) ?_)
    exact ⟨(j + 1, acc), [], ⟨hlj, by simp only; omega, HR⟩, by show _ - _ < _ - _; omega, by simp [Wk, wkF, wkM, wkL, look_cons, renV, renA, renC, renB, rn, clV, clA, clAs, clB, notIn, findB, findB_setB, clA.go]⟩
   ·rw [if_neg hn] at h2
    rw [decide_eq_false hn] at ph
    have HR := Lib.hid h2
    clear h2 hn
    repeat' first | simp (disch := omega) only [go_sem, ↓reduceIte, Nat.reduceEqDiff, reduceCtorEq, Int.reduceEq, g1, g2, wrap_i64] | ((with_reducible first | refine condD ?_ ?_ | refine condX ?_ ?_ | refine condW_intro ?_ ?_) <;> intro h <;> first | (exfalso; omega) | simp (disch := omega) only [go_sem, ↓reduceIte, Nat.reduceEqDiff, reduceCtorEq, Int.reduceEq, *, g1, g2, wrap_i64] | skip) | (refine callW_of ph rfl (.inl rfl) ?_) | (refine app_own rfl (by intro h; cases h) (rowsOk_one rfl) (by simp; omega) (by simp; omega) ?_)
    exact ⟨(j + 1, acc ++ [n]), [(0, 1)], ⟨hlj, by simp; omega, HR⟩, by show _ - _ < _ - _; omega, by simp [Wk, wkF, wkM, wkL, look_cons, renV, renA, renC, renB, rn, clV, clA, clAs, clB, notIn, findB, findB_setB, clA.go]⟩
  ·have h2 := HR.out
   rw [List.drop_eq_nil_of_le (by omega)] at h2
   have HR : Hid (R = (nmsL (l.drop (k + 1))).foldl addN acc) := Lib.hid h2
   clear h2
   repeat' first | simp (disch := omega) only [go_sem, ↓reduceIte, Nat.reduceEqDiff, reduceCtorEq, Int.reduceEq, g1, wrap_i64] | ((with_reducible first | refine condD ?_ ?_ | refine condX ?_ ?_ | refine condW_intro ?_ ?_) <;> intro h <;> first | (exfalso; omega) | simp (disch := omega) only [go_sem, ↓reduceIte, Nat.reduceEqDiff, reduceCtorEq, Int.reduceEq, *, g1, wrap_i64] | skip)
   exact ⟨(k + 1, acc), [], ⟨hlt, by simp only [hT]; omega, HR⟩, by show _ - _ < _ - _; omega, by simp [Wk, wkF, wkM, wkL, look_cons, renV, renA, renC, renB, rn, clV, clA, clAs, clB, notIn, findB, findB_setB, clA.go]⟩
 ·have h2 := HR.out
  rw [List.drop_eq_nil_of_le (by omega)] at h2
  simp only [nmsL, List.flatMap_nil, List.foldl_nil] at h2
  subst h2
  clear HR
  repeat' first | simp (disch := omega) only [go_sem, ↓reduceIte, Nat.reduceEqDiff, reduceCtorEq, Int.reduceEq] | ((with_reducible first | refine condD ?_ ?_ | refine condX ?_ ?_ | refine condW_intro ?_ ?_) <;> intro h <;> first | (exfalso; omega) | simp (disch := omega) only [go_sem, ↓reduceIte, Nat.reduceEqDiff, reduceCtorEq, Int.reduceEq, *] | skip)
  all_goals rfl
set_option maxHeartbeats 2000000 in
theorem ref07_Small_abs {l : List Con} (h64 : ∀ c ∈ l, con64 c) (hs : tot l ≤ 1000000000) : PCalls Try.prog n_ref07_Small [aCons l] (Go.Abs.B (decide (smallL l))) := by
 refine PCalls.of is_ref07_Small (by simp) fun hb => runW_sound ?_
 have hbl : l.length ≤ 9223372036854775807 := by have := hb.1; simpa [bndV, bndA] using this
 clear hb
 simp only [c_ref07_Small]
 have pn := ref07_Names_abs hs
 by_cases h6 : (l.length : Int) > 6
 ·rw [decide_eq_false (fun h => by have := h.1; omega)]
  repeat' first | simp (disch := omega) only [go_sem, ↓reduceIte, Nat.reduceEqDiff, reduceCtorEq, Int.reduceEq, h6] | ((with_reducible first | refine condD ?_ ?_ | refine condX ?_ ?_ | refine condW_intro ?_ ?_) <;> intro h <;> first | (exfalso; omega) | simp (disch := omega) only [go_sem, ↓reduceIte, Nat.reduceEqDiff, reduceCtorEq, Int.reduceEq, *, h6] | skip)
  all_goals rfl
 ·by_cases h3 : ((namesD l).length : Int) > 3
  ·rw [decide_eq_false (fun h => by have := h.2.1; omega)]
   generalize namesD l = NL at *
   repeat' first | simp (disch := omega) only [go_sem, ↓reduceIte, Nat.reduceEqDiff, reduceCtorEq, Int.reduceEq, h6, h3] | ((with_reducible first | refine condD ?_ ?_ | refine condX ?_ ?_ | refine condW_intro ?_ ?_) <;> intro h <;> first | (exfalso; omega) | simp (disch := omega) only [go_sem, ↓reduceIte, Nat.reduceEqDiff, reduceCtorEq, Int.reduceEq, *, h6, h3] | skip) | (refine callW_of pn rfl (.inr rfl) ?_)
   all_goals rfl
  ·obtain ⟨R, hR⟩ : ∃ R, R = decide (smallL l) := ⟨_, rfl⟩
   rw [← hR]
   have HR : Hid (R = decide (∀ c ∈ l, c.1.1.natAbs ≤ 8 ∧ ∀ m ∈ c.1.2, m.2.natAbs ≤ 8)) := Lib.hid (by
    rw [hR, Bool.eq_iff_iff, decide_eq_true_eq, decide_eq_true_eq]
    exact ⟨fun h => h.2.2, fun h => ⟨by omega, by omega, h⟩⟩)
   clear hR
   generalize namesD l = NL at *
   repeat' first | simp (disch := omega) only [go_sem, ↓reduceIte, Nat.reduceEqDiff, reduceCtorEq, Int.reduceEq, h6, h3] | ((with_reducible first | refine condD ?_ ?_ | refine condX ?_ ?_ | refine condW_intro ?_ ?_) <;> intro h <;> first | (exfalso; omega) | simp (disch := omega) only [go_sem, ↓reduceIte, Nat.reduceEqDiff, reduceCtorEq, Int.reduceEq, *, h6, h3] | skip) | (refine callW_of pn rfl (.inr rfl) ?_)
   have hsl := fun c (hc : c ∈ l) => Nat.le_trans (tot_mem hc) hs
   clear pn h3 h6 hs
   refine AW_loop (fun k : Nat => ⟨[(0, aCons l), (3, I k)], [], 0, 0⟩) (fun k => k ≤ l.length ∧ Hid (∀ c ∈ l.take k, c.1.1.natAbs ≤ 8 ∧ ∀ m ∈ c.1.2, m.2.natAbs ≤ 8)) (fun k => l.length - k) ⟨0, [], ⟨Nat.zero_le _, Lib.hid (by simp)⟩, by simp [Wk, wkF, wkM, wkL, look_cons, renV, renA, renC, renB, rn, clV, clA, clAs, clB, notIn, findB, findB_setB, clA.go]⟩ ?_
   rintro k ⟨hk, HT⟩
   refine runW_sound ?_
   by_cases hlt : k < l.length
   ·have g1 := map_get (f := cP) hlt
    have hc := h64 _ (List.getElem_mem hlt)
    have hlk := hsl _ (List.getElem_mem hlt)
    have hno : ¬ (l[k].1.1.natAbs ≤ 8 ∧ ∀ m ∈ l[k].1.2, m.2.natAbs ≤ 8) → R = false := fun h => by
     rw [HR.out]
     exact decide_eq_false fun hw => h (hw _ (List.getElem_mem hlt))
    have hyes : (l[k].1.1.natAbs ≤ 8 ∧ ∀ m ∈ l[k].1.2, m.2.natAbs ≤ 8) → Hid (∀ c ∈ l.take (k + 1), c.1.1.natAbs ≤ 8 ∧ ∀ m ∈ c.1.2, m.2.natAbs ≤ 8) := fun h => Lib.hid (by
     rw [List.take_succ_eq_append_getElem hlt]
     intro c hcm
     rcases List.mem_append.1 hcm with h' | h'
     ·exact HT.out c h'
     ·rw [List.mem_singleton.1 h']; exact h)
    have HY := Lib.hid hyes
    have HN := Lib.hid hno
    clear HT hyes hno HR
    generalize l[k] = c at *
    obtain ⟨⟨ck, cl⟩, q⟩ := c
    simp only [cP] at g1
    have ps := ref07_size_abs hc.1
    have hcl := hc.2
    simp only at HY HN ps hcl hlk
    by_cases h1 : (ck.natAbs : Int) > 8
    ·have hR := HN.out fun h => by have := h.1; omega
     subst hR
     clear HY HN
     generalize ck.natAbs = CK at *
     repeat' first | simp (disch := omega) only [go_sem, ↓reduceIte, Nat.reduceEqDiff, reduceCtorEq, Int.reduceEq, g1, h1, wrap_i64] | ((with_reducible first | refine condD ?_ ?_ | refine condX ?_ ?_ | refine condW_intro ?_ ?_) <;> intro h <;> first | (exfalso; omega) | simp (disch := omega) only [go_sem, ↓reduceIte, Nat.reduceEqDiff, reduceCtorEq, Int.reduceEq, *, g1, h1, wrap_i64] | skip) | (refine callW_of ps rfl (.inl rfl) ?_)
     all_goals rfl
    ·have HY2 : Hid ((∀ m ∈ cl, m.2.natAbs ≤ 8) → Hid (∀ c ∈ l.take (k + 1), c.1.1.natAbs ≤ 8 ∧ ∀ m ∈ c.1.2, m.2.natAbs ≤ 8)) := Lib.hid fun h => HY.out ⟨by omega, h⟩
     have HN2 : Hid ((∃ m ∈ cl, (m.2.natAbs : Int) > 8) → R = false) := Lib.hid fun ⟨m, hm, h⟩ => HN.out fun h' => by have := h'.2 m hm; omega
     clear HY HN
     generalize ck.natAbs = CK at *
     repeat' first | simp (disch := omega) only [go_sem, ↓reduceIte, Nat.reduceEqDiff, reduceCtorEq, Int.reduceEq, g1, h1, wrap_i64] | ((with_reducible first | refine condD ?_ ?_ | refine condX ?_ ?_ | refine condW_intro ?_ ?_) <;> intro h <;> first | (exfalso; omega) | simp (disch := omega) only [go_sem, ↓reduceIte, Nat.reduceEqDiff, reduceCtorEq, Int.reduceEq, *, g1, h1, wrap_i64] | skip) | (refine callW_of ps rfl (.inl rfl) ?_)
     refine AW_loop (fun j : Nat => ⟨[(0, aCons l), (3, I k), (4, I j)], [], 0, 0⟩) (fun j => j ≤ cl.length ∧ Hid (∀ m ∈ cl.take j, m.2.natAbs ≤ 8)) (fun j => cl.length - j) ⟨0, [], ⟨Nat.zero_le _, Lib.hid (by simp)⟩, by simp [Wk, wkF, wkM, wkL, look_cons, renV, renA, renC, renB, rn, clV, clA, clAs, clB, notIn, findB, findB_setB, clA.go]⟩ ?_
     clear ps
     rintro j ⟨hj, HJ⟩
     refine runW_sound ?_
     by_cases hlj : j < cl.length
     ·have g2 := map_get (f := mP) hlj
      have hx := hcl _ (List.getElem_mem hlj)
      have ps := ref07_size_abs hx
      by_cases h3 : ((cl[j].2.natAbs : Nat) : Int) > 8
      ·have hR := HN2.out ⟨_, List.getElem_mem hlj, h3⟩
       subst hR
       clear HJ HY2 HN2
       generalize cl[j] = m at *
       obtain ⟨mn, mx⟩ := m
       simp only [mP] at g2
       simp only at h3 ps
       generalize mx.natAbs = MX at *
       repeat' first | simp (disch := omega) only [go_sem, ↓reduceIte, Nat.reduceEqDiff, reduceCtorEq, Int.reduceEq, g1, g2, h3, wrap_i64] | ((with_reducible first | refine condD ?_ ?_ | refine condX ?_ ?_ | refine condW_intro ?_ ?_) <;> intro h <;> first | (exfalso; omega) | simp (disch := omega) only [go_sem, ↓reduceIte, Nat.reduceEqDiff, reduceCtorEq, Int.reduceEq, *, g1, g2, h3, wrap_i64] | skip) | (refine callW_of ps rfl (.inl rfl) ?_)
       all_goals rfl
      ·have HJ' : Hid (∀ m ∈ cl.take (j + 1), m.2.natAbs ≤ 8) := Lib.hid (by
        rw [List.take_succ_eq_append_getElem hlj]
        intro m hm
        rcases List.mem_append.1 hm with h' | h'
        ·exact HJ.out m h'
        ·rw [List.mem_singleton.1 h']; omega)
       clear HJ
       generalize cl[j] = m at *
       obtain ⟨mn, mx⟩ := m
       simp only [mP] at g2
       simp only at h3 ps
       generalize mx.natAbs = MX at *
       repeat' first | simp (disch := omega) only [go_sem, ↓reduceIte, Nat.reduceEqDiff, reduceCtorEq, Int.reduceEq, g1, g2, h3, wrap_i64] | ((with_reducible first | refine condD ?_ ?_ | refine condX ?_ ?_ | refine condW_intro ?_ ?_) <;> intro h <;> first | (exfalso; omega) | simp (disch := omega) only [go_sem, ↓reduceIte, Nat.reduceEqDiff, reduceCtorEq, Int.reduceEq, *, g1, g2, h3, wrap_i64] | skip) | (refine callW_of ps rfl (.inl rfl) ?_)
       exact ⟨j + 1, [], ⟨hlj, HJ'⟩, by omega, by simp [Wk, wkF, wkM, wkL, look_cons, renV, renA, renC, renB, rn, clV, clA, clAs, clB, notIn, findB, findB_setB, clA.go]⟩
     ·have hall := HJ.out
      rw [List.take_of_length_le (by omega)] at hall
      have HT' := HY2.out hall
      clear HJ hall HY2 HN2
      repeat' first | simp (disch := omega) only [go_sem, ↓reduceIte, Nat.reduceEqDiff, reduceCtorEq, Int.reduceEq, g1, wrap_i64] | ((with_reducible first | refine condD ?_ ?_ | refine condX ?_ ?_ | refine condW_intro ?_ ?_) <;> intro h <;> first | (exfalso; omega) | simp (disch := omega) only [go_sem, ↓reduceIte, Nat.reduceEqDiff, reduceCtorEq, Int.reduceEq, *, g1, wrap_i64] | skip)
      exact ⟨k + 1, [], ⟨hlt, HT'⟩, by omega, by simp [Wk, wkF, wkM, wkL, look_cons, renV, renA, renC, renB, rn, clV, clA, clAs, clB, notIn, findB, findB_setB, clA.go]⟩
   ·have hR : R = true := by
     rw [HR.out]
     have h := HT.out
     rw [List.take_of_length_le (by omega)] at h
     exact decide_eq_true h
    subst hR
    clear HT HR
    repeat' first | simp (disch := omega) only [go_sem, ↓reduceIte, Nat.reduceEqDiff, reduceCtorEq, Int.reduceEq] | ((with_reducible first | refine condD ?_ ?_ | refine condX ?_ ?_ | refine condW_intro ?_ ?_) <;> intro h <;> first | (exfalso; omega) | simp (disch := omega) only [go_sem, ↓reduceIte, Nat.reduceEqDiff, reduceCtorEq, Int.reduceEq, *] | skip)
    all_goals rfl
theorem conB_len {N : List ByteArray} {M : Nat} {c : Con} (h : ConB N M c) : c.1.2.length ≤ N.length := by
 have h1 := nodupN_le (A := c.1.2.map (·.1)) (B := N) (by
  rw [List.Nodup, List.pairwise_map]
  exact (linOk_iff.1 h.lin).1.imp fun {a b} hab e => by rw [e] at hab; exact sless_irrefl _ hab) (fun a ha => by
  obtain ⟨m, hm, rfl⟩ := List.mem_map.1 ha
  exact h.n m hm)
 simpa using h1
theorem tot_le {n : Nat} : ∀ {t : List Con}, (∀ c ∈ t, c.1.2.length ≤ n) → tot t ≤ n * t.length
 | [], _ => by simp [tot]
 |c :: t, h => by
  have h1 := h c List.mem_cons_self
  have h2 := tot_le fun d hd => h d (List.mem_cons_of_mem _ hd)
  rw [tot, List.length_cons, Nat.mul_succ]
  omega
theorem conB_64 {N : List ByteArray} {M : Nat} {c : Con} (h : ConB N M c) (hM : M ≤ 9223372036854775807) : con64 c := ⟨in64_abs (Nat.le_trans h.k hM), fun m hm => in64_abs (Nat.le_trans (h.m m hm) hM)⟩
theorem pM_le (k : Nat) : pM k ≤ 35224100536320 ∧ tR k ≤ 100 := by
 match k with
 | 0 => decide
 | 1 => decide
 | 2 => decide
 | n + 3 => simp [pM, tR]
def consD (D : List Row) (j : Nat) : List (List PC) := ((D.take j).map (·.1)).map cP
set_option maxHeartbeats 4000000 in
theorem ref07_Feasible_abs {l : List Con} (h64 : ∀ c ∈ l, con64 c) (h0 : (tightL l).2 = 0) (hs : smallL l) (ht : tot l ≤ 1000000) : PCalls Try.prog n_ref07_Feasible [aCons l] (Go.Abs.B (decide (feasS l))) := by
 refine PCalls.of is_ref07_Feasible (by simp) fun _ => runW_sound ?_
 simp only [c_ref07_Feasible]
 have htt : tightL l = ((tightL l).1, 0) := Prod.ext rfl h0
 have p1 := ref07_tights_abs h64 (fun c hc => by have := tot_mem hc; omega)
 have p2 := ref07_Names_abs (l := (tightL l).1) (by have := tightL_tot htt; omega)
 have hN := tight_names h64 h0 hs
 have hid := tight_ids h64 h0
 have hB := tight_conB h64 h0 hs
 have h6 : (tightL l).1.length ≤ 6 := by rw [(tightL_spec htt).1]; exact hs.1
 rw [htt] at p1
 obtain ⟨R, hR⟩ : ∃ R, R = decide (feasS l) := ⟨_, rfl⟩
 rw [← hR]
 have HR : Hid (R = true ↔ ∀ c ∈ elimN ((namesD (tightL l).1).drop 0) (tightL l).1, ¬ conBad c) := Lib.hid (by rw [hR, decide_eq_true_eq]; rfl)
 clear hR htt h64 h0 hs ht
 generalize namesD (tightL l).1 = NL at *
 generalize (tightL l).1 = t at *
 repeat' first | simp (disch := omega) only [go_sem, ↓reduceIte, Nat.reduceEqDiff, reduceCtorEq, Int.reduceEq] | ((with_reducible first | refine condD ?_ ?_ | refine condX ?_ ?_ | refine condW_intro ?_ ?_) <;> intro h <;> first | (exfalso; omega) | simp (disch := omega) only [go_sem, ↓reduceIte, Nat.reduceEqDiff, reduceCtorEq, Int.reduceEq, *] | skip) | (refine callW_of p1 rfl (.inr rfl) ?_) | (refine callW_of p2 rfl (.inr rfl) ?_)
 clear p1 p2
 refine AW_loop (fun s : Nat × List Con => ⟨[(3, aCons s.2), (5, aStrs NL), (6, I s.1)], [], 0, 0⟩)
  (fun s => s.1 ≤ NL.length ∧ s.2.length ≤ tR (3 - s.1) ∧ (∀ c ∈ s.2, ConB (NL.drop s.1) (pM (3 - s.1)) c) ∧ Hid (R = true ↔ ∀ c ∈ elimN (NL.drop s.1) s.2, ¬ conBad c)) (fun s => NL.length - s.1) ⟨(0, t), [], ⟨Nat.zero_le _, h6, hB, HR⟩, by simp [Wk, wkF, wkM, wkL, look_cons, renV, renA, renC, renB, rn, clV, clA, clAs, clB, notIn, findB, findB_setB, clA.go]⟩ ?_
 clear HR hB h6 t
 rintro ⟨i, t⟩ ⟨hi, hl, hB, HR⟩
 simp only at hi hl hB HR
 refine runW_sound ?_
 by_cases hlt : i < NL.length
 ·have g1 : (NL.map fun s => [pS s])[i]? = some [pS NL[i]] := by simp [hlt]
  have hin := hid _ (List.getElem_mem hlt)
  have hk : 3 - i = (3 - (i + 1)) + 1 := by omega
  rw [hk] at hl hB
  have h2 := HR.out
  rw [List.drop_eq_getElem_cons hlt] at hB h2
  rw [elimN] at h2
  obtain ⟨e1, e2, e3, e4, e5⟩ := stage_P (k := 3 - (i + 1)) (by omega)
  have hle : t.length * (pM (3 - (i + 1) + 1) * pM (3 - (i + 1) + 1)) ≤ pM (3 - (i + 1)) := by
   refine Nat.le_trans (Nat.mul_le_mul_right _ hl) (Nat.le_of_eq e1)
  obtain ⟨f1, f2⟩ := elimS_fine (l := t) (n := NL[i]) (M := pM (3 - (i + 1) + 1)) (R := tR (3 - (i + 1))) (fun c hc => (hB c hc).lin) (fun c hc => ⟨(hB c hc).k, (hB c hc).m⟩) e2 (by omega) hin (by omega)
   (fun r a u h => grow_R (by omega) (by omega)) e4
  have hB2 := elim_conB hB e2 f1 hle
  have ht3 := tot_le (n := 3) (t := t) fun c hc => by
   have := conB_len (hB c hc)
   rw [List.length_cons, List.length_drop] at this
   omega
  have hl100 := (pM_le (3 - (i + 1) + 1)).2
  have pe := ref07_Eliminate_abs (l := t) (n := NL[i]) (fun c hc => conB_64 (hB c hc) (by have := (pM_le (3 - (i + 1) + 1)).1; omega)) (by omega)
  have hl2 := (pM_le (3 - (i + 1))).2
  clear HR hB hle e1 e2 e3 e5 ht3 hl100 hin hl hk
  generalize elimS t NL[i] = X at *
  obtain ⟨D, e⟩ := X
  simp only at f1 f2 hB2 h2 pe
  subst f1
  have HR := Lib.hid h2
  have HB := Lib.hid hB2
  have HL := Lib.hid f2
  have hD : D.length ≤ 100 := by omega
  clear h2 hB2 f2 e4 hl2
  generalize NL[i] = n at *
  repeat' first | simp (disch := omega) only [go_sem, ↓reduceIte, Nat.reduceEqDiff, reduceCtorEq, Int.reduceEq, g1, wrap_i64] | ((with_reducible first | refine condD ?_ ?_ | refine condX ?_ ?_ | refine condW_intro ?_ ?_) <;> intro h <;> first | (exfalso; omega) | simp (disch := omega) only [go_sem, ↓reduceIte, Nat.reduceEqDiff, reduceCtorEq, Int.reduceEq, *, g1, wrap_i64] | skip) | (refine callW_of pe rfl (.inr rfl) ?_)
  refine AW_adopt 3 36 3 rfl (by decide) ?_
  refine AW_loop (fun j : Nat => ⟨[(3, .c (.ref 0)), (5, aStrs NL), (6, I i), (7, aRows D), (9, I j)], [(0, .arr 36 3 (consD D j))], 1, 0⟩) (fun j => j ≤ D.length) (fun j => D.length - j) ⟨0, [], Nat.zero_le _, by simp [Wk, wkF, wkM, wkL, look_cons, renV, renA, renC, renB, rn, clV, clA, clAs, clB, notIn, findB, findB_setB, clA.go, consD]⟩ ?_
  clear pe
  intro j hj
  by_cases hlj : j < D.length
  ·refine runW_sound ?_
   have g2 := map_get (f := rCells) hlj
   have e1 : consD D (j + 1) = consD D j ++ [cP D[j].1] := by
    rw [consD, consD, List.take_succ_eq_append_getElem hlj, List.map_append, List.map_append]; rfl
   have hlen : (consD D j).length ≤ 100 := by simp [consD]; omega
   generalize D[j] = d at *
   obtain ⟨⟨⟨dk, dl⟩, dq⟩, db⟩ := d
   simp only [rCells] at g2
   simp only [cP] at e1
   generalize consD D j = A0 at *
   repeat' first | simp (disch := omega) only [go_sem, ↓reduceIte, Nat.reduceEqDiff, reduceCtorEq, Int.reduceEq, g2, wrap_i64] | ((with_reducible first | refine condD ?_ ?_ | refine condX ?_ ?_ | refine condW_intro ?_ ?_) <;> intro h <;> first | (exfalso; omega) | simp (disch := omega) only [go_sem, ↓reduceIte, Nat.reduceEqDiff, reduceCtorEq, Int.reduceEq, *, g2, wrap_i64] | skip) | (refine app_own rfl (by intro h; cases h) (rowsOk_one rfl) (by simp; omega) (by simp; omega) ?_)
   exact ⟨j + 1, [(0, 1)], hlj, by omega, by simp [Wk, wkF, wkM, wkL, look_cons, renV, renA, renC, renB, rn, clV, clA, clAs, clB, notIn, findB, findB_setB, clA.go, e1]⟩
  ·obtain rfl : j = D.length := by omega
   have e1 : consD D D.length = (D.map (·.1)).map cP := by rw [consD, List.take_of_length_le (Nat.le_refl _)]
   rw [e1]
   refine AW_frz1 0 36 3 ((D.map (·.1)).map cP) rfl ?_
   refine runW_sound ?_
   repeat' first | simp (disch := omega) only [go_sem, ↓reduceIte, Nat.reduceEqDiff, reduceCtorEq, Int.reduceEq, frzF, frzV, frz1, frzM, frzB, wrap_i64] | ((with_reducible first | refine condD ?_ ?_ | refine condX ?_ ?_ | refine condW_intro ?_ ?_) <;> intro h <;> first | (exfalso; omega) | simp (disch := omega) only [go_sem, ↓reduceIte, Nat.reduceEqDiff, reduceCtorEq, Int.reduceEq, *, frzF, frzV, frz1, frzM, frzB, wrap_i64] | skip)
   refine ⟨(i + 1, D.map (·.1)), [], ⟨hlt, by simpa using HL.out, HB.out, HR⟩, by show _ - _ < _ - _; omega, by simp [Wk, wkF, wkM, wkL, look_cons, renV, renA, renC, renB, rn, clV, clA, clAs, clB, notIn, findB, findB_setB, clA.go, frzF, frzV, frz1, frzM, frzB, wrap_i64]⟩
 ·have h2 := HR.out
  rw [List.drop_eq_nil_of_le (by omega), elimN] at h2
  have HR := Lib.hid h2
  have htl : t.length ≤ 100 := Nat.le_trans hl (pM_le _).2
  clear h2 hB hl
  repeat' first | simp (disch := omega) only [go_sem, ↓reduceIte, Nat.reduceEqDiff, reduceCtorEq, Int.reduceEq] | ((with_reducible first | refine condD ?_ ?_ | refine condX ?_ ?_ | refine condW_intro ?_ ?_) <;> intro h <;> first | (exfalso; omega) | simp (disch := omega) only [go_sem, ↓reduceIte, Nat.reduceEqDiff, reduceCtorEq, Int.reduceEq, *] | skip)
  refine AW_loop (fun j : Nat => ⟨[(3, aCons t), (10, I j)], [], 0, 0⟩) (fun j => j ≤ t.length ∧ Hid (∀ c ∈ t.take j, ¬ conBad c)) (fun j => t.length - j) ⟨0, [], ⟨Nat.zero_le _, Lib.hid (by simp)⟩, by simp [Wk, wkF, wkM, wkL, look_cons, renV, renA, renC, renB, rn, clV, clA, clAs, clB, notIn, findB, findB_setB, clA.go]⟩ ?_
  rintro j ⟨hj, HT⟩
  refine runW_sound ?_
  by_cases hlj : j < t.length
  ·have g1 := map_get (f := cP) hlj
   have pv := ref07_Contradictory_abs t[j]
   by_cases hc : conBad t[j]
   ·have hR : R = false := by
     cases hRv : R with
     | false => rfl
     | true => exact absurd hc ((HR.out.1 hRv) _ (List.getElem_mem hlj))
    subst hR
    rw [decide_eq_true hc] at pv
    clear HT HR hc
    generalize t[j] = c at *
    obtain ⟨⟨ck, cl⟩, q⟩ := c
    simp only [cP] at g1
    try simp only at pv
    repeat' first | simp (disch := omega) only [go_sem, ↓reduceIte, Nat.reduceEqDiff, reduceCtorEq, Int.reduceEq, g1, wrap_i64] | ((with_reducible first | refine condD ?_ ?_ | refine condX ?_ ?_ | refine condW_intro ?_ ?_) <;> intro h <;> first | (exfalso; omega) | simp (disch := omega) only [go_sem, ↓reduceIte, Nat.reduceEqDiff, reduceCtorEq, Int.reduceEq, *, g1, wrap_i64] | skip) | (refine callW_of pv rfl (.inl rfl) ?_)
    all_goals rfl
   ·have HT' : Hid (∀ c ∈ t.take (j + 1), ¬ conBad c) := Lib.hid (by
     rw [List.take_succ_eq_append_getElem hlj]
     intro c hcm
     rcases List.mem_append.1 hcm with h | h
     ·exact HT.out c h
     ·rw [List.mem_singleton.1 h]; exact hc)
    rw [decide_eq_false hc] at pv
    clear HT hc
    generalize t[j] = c at *
    obtain ⟨⟨ck, cl⟩, q⟩ := c
    simp only [cP] at g1
    try simp only at pv
    repeat' first | simp (disch := omega) only [go_sem, ↓reduceIte, Nat.reduceEqDiff, reduceCtorEq, Int.reduceEq, g1, wrap_i64] | ((with_reducible first | refine condD ?_ ?_ | refine condX ?_ ?_ | refine condW_intro ?_ ?_) <;> intro h <;> first | (exfalso; omega) | simp (disch := omega) only [go_sem, ↓reduceIte, Nat.reduceEqDiff, reduceCtorEq, Int.reduceEq, *, g1, wrap_i64] | skip) | (refine callW_of pv rfl (.inl rfl) ?_)
    exact ⟨j + 1, [], ⟨hlj, HT'⟩, by omega, by simp [Wk, wkF, wkM, wkL, look_cons, renV, renA, renC, renB, rn, clV, clA, clAs, clB, notIn, findB, findB_setB, clA.go]⟩
  ·have hR : R = true := by
    refine HR.out.2 ?_
    have h := HT.out
    rw [List.take_of_length_le (by omega)] at h
    exact h
   subst hR
   clear HT HR
   repeat' first | simp (disch := omega) only [go_sem, ↓reduceIte, Nat.reduceEqDiff, reduceCtorEq, Int.reduceEq] | ((with_reducible first | refine condD ?_ ?_ | refine condX ?_ ?_ | refine condW_intro ?_ ?_) <;> intro h <;> first | (exfalso; omega) | simp (disch := omega) only [go_sem, ↓reduceIte, Nat.reduceEqDiff, reduceCtorEq, Int.reduceEq, *] | skip)
   all_goals rfl
set_option maxHeartbeats 4000000 in
theorem ElimDecides_abs (ps0 : List PC) (h0 : OkPs [.slice [.int .i64, .slice [.str, .int .i64], .bool]] ps0) : PCalls Try.prog 3 [argV false ps0] (Go.Abs.B true) := by
 obtain ⟨l, rfl, hl, _⟩ := okConsL h0
 clear h0
 show PCalls _ n_law07_ElimDecides [aCons l] _
 refine PCalls.of is_law07_ElimDecides (by simp) fun _ => runW_sound ?_
 have pf := law07_few_abs l 6
 have px := law07_examples_abs
 simp only [c_law07_ElimDecides]
 by_cases hf : fewP l 6
 ·rw [decide_eq_true hf] at pf
  have ht := few_tot hf.2
  have hl6 := hf.1
  have pa := ref07_Asked_abs (fuel := 0) hl (by omega)
  by_cases hask : askedS l 0 = 0
  ·rw [hask] at pa
   have h0 : (tightL l).2 = 0 := by
    unfold askedS at hask
    split at hask
    ·exact absurd hask ‹_›
    ·rename_i h; exact Classical.not_not.1 h
   have ps := ref07_Small_abs hl (by omega)
   by_cases hsm : smallL l
   ·rw [decide_eq_true hsm] at ps
    have pi := elim_Infeasible_abs (l := l) (fuel := 1048576) hl (by omega) (by simp [in64])
    have pk := elim_CheckCertificate_abs (b := (infS l 1048576).1) hl (by omega) (infS_64 hl)
    have pfe := ref07_Feasible_abs hl h0 hsm (by omega)
    obtain ⟨k1, k2⟩ := inf_feas hl h0 hsm
    obtain ⟨w1, w2⟩ := infS_law (fuel := 1048576) hl
    have ha : askedS l 1048576 = 0 := by rw [askedS, if_neg (not_not_intro h0), if_neg (by omega)]
    have k3 := (w2 ha).2.1
    clear w1 w2 ha h0 hask hf ht hl6 hsm hl
    generalize infS l 1048576 = Y at *
    obtain ⟨b, ok, e⟩ := Y
    simp only at pi pk k1 k2 k3
    subst k1
    cases ok
    ·have hfe : feasS l := Classical.not_not.1 fun h => by cases k2.2 h
     rw [decide_eq_true hfe] at pfe
     clear hfe k2 k3 pk
     repeat' first | simp (disch := omega) only [go_sem, ↓reduceIte, Nat.reduceEqDiff, reduceCtorEq, Int.reduceEq] | ((with_reducible first | refine condD ?_ ?_ | refine condX ?_ ?_ | refine condW_intro ?_ ?_) <;> intro h <;> first | (exfalso; omega) | simp (disch := omega) only [go_sem, ↓reduceIte, Nat.reduceEqDiff, reduceCtorEq, Int.reduceEq, *] | skip) | (refine callW_of pf rfl (.inl rfl) ?_) | (refine callW_of pa rfl (.inl rfl) ?_) | (refine callW_of ps rfl (.inl rfl) ?_) | (refine callW_of pi rfl (.inr rfl) ?_) | (refine callW_of pfe rfl (.inl rfl) ?_) | (refine callW_of px rfl (.inl rfl) ?_)
     all_goals rfl
    ·have hfe : ¬ feasS l := k2.1 rfl
     rw [decide_eq_false hfe] at pfe
     rw [k3 rfl] at pk
     clear hfe k2 k3
     repeat' first | simp (disch := omega) only [go_sem, ↓reduceIte, Nat.reduceEqDiff, reduceCtorEq, Int.reduceEq] | ((with_reducible first | refine condD ?_ ?_ | refine condX ?_ ?_ | refine condW_intro ?_ ?_) <;> intro h <;> first | (exfalso; omega) | simp (disch := omega) only [go_sem, ↓reduceIte, Nat.reduceEqDiff, reduceCtorEq, Int.reduceEq, *] | skip) | (refine callW_of pf rfl (.inl rfl) ?_) | (refine callW_of pa rfl (.inl rfl) ?_) | (refine callW_of ps rfl (.inl rfl) ?_) | (refine callW_of pi rfl (.inr rfl) ?_) | (refine callW_of pfe rfl (.inl rfl) ?_) | (refine callW_of pk rfl (.inl rfl) ?_) | (refine callW_of px rfl (.inl rfl) ?_)
     all_goals rfl
   ·rw [decide_eq_false hsm] at ps
    clear hsm hf h0 hask hl
    repeat' first | simp (disch := omega) only [go_sem, ↓reduceIte, Nat.reduceEqDiff, reduceCtorEq, Int.reduceEq] | ((with_reducible first | refine condD ?_ ?_ | refine condX ?_ ?_ | refine condW_intro ?_ ?_) <;> intro h <;> first | (exfalso; omega) | simp (disch := omega) only [go_sem, ↓reduceIte, Nat.reduceEqDiff, reduceCtorEq, Int.reduceEq, *] | skip) | (refine callW_of pf rfl (.inl rfl) ?_) | (refine callW_of pa rfl (.inl rfl) ?_) | (refine callW_of ps rfl (.inl rfl) ?_) | (refine callW_of px rfl (.inl rfl) ?_)
    all_goals rfl
  ·clear hf hl
   generalize askedS l 0 = A at *
   repeat' first | simp (disch := omega) only [go_sem, ↓reduceIte, Nat.reduceEqDiff, reduceCtorEq, Int.reduceEq, hask] | ((with_reducible first | refine condD ?_ ?_ | refine condX ?_ ?_ | refine condW_intro ?_ ?_) <;> intro h <;> first | (exfalso; omega) | simp (disch := omega) only [go_sem, ↓reduceIte, Nat.reduceEqDiff, reduceCtorEq, Int.reduceEq, *, hask] | skip) | (refine callW_of pf rfl (.inl rfl) ?_) | (refine callW_of pa rfl (.inl rfl) ?_) | (refine callW_of px rfl (.inl rfl) ?_)
   all_goals rfl
 ·rw [decide_eq_false hf] at pf
  clear hf hl
  repeat' first | simp (disch := omega) only [go_sem, ↓reduceIte, Nat.reduceEqDiff, reduceCtorEq, Int.reduceEq] | ((with_reducible first | refine condD ?_ ?_ | refine condX ?_ ?_ | refine condW_intro ?_ ?_) <;> intro h <;> first | (exfalso; omega) | simp (disch := omega) only [go_sem, ↓reduceIte, Nat.reduceEqDiff, reduceCtorEq, Int.reduceEq, *] | skip) | (refine callW_of pf rfl (.inl rfl) ?_) | (refine callW_of px rfl (.inl rfl) ?_)
  all_goals rfl
end Go.Proofs.Ytnddmjhpplopbaa
