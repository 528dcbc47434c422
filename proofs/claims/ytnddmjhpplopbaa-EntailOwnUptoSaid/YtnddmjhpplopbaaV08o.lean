/- The law EntailOwn as a contract of the abstract machine. -/
import Derived.Test.YtnddmjhpplopbaaV08e
import Derived.Test.YtnddmjhpplopbaaV08n
import Derived.Test.YtnddmjhpplopbaaPlain08o
import Derived.Test.YtnddmjhpplopbaaIn7
import Derived.Test.YtnddmjhpplopbaaLawU
set_option linter.unusedVariables false
set_option linter.unusedSimpArgs false
set_option maxRecDepth 20000
namespace Go.Proofs.Ytnddmjhpplopbaa
open Go.Abs Go.RowKit

theorem foldS_mem : ∀ {s a : List ByteArray} {n : ByteArray}, n ∈ s.foldl insN a ↔ n ∈ a ∨ n ∈ s
 | [], a, n => by simp
 |b :: s, a, n => by
  rw [List.foldl_cons, foldS_mem, insN_mem]
  simp only [List.mem_cons, or_assoc]
def conNames (l : List Con) : List ByteArray := allNames (l.map (·.1))
/-- Few constraints over few names with numbers up to 7. -/
def tameP (l : List Con) : Prop := l.length ≤ 5 ∧ okL l ∧ num7 l ∧ (namesS (conNames l)).length ≤ 3
noncomputable instance (l : List Con) : Decidable (tameP l) := Classical.propDecidable _
theorem mem_conNames {l : List Con} {n : ByteArray} : n ∈ namesS (conNames l) ↔ ∃ c ∈ l, ∃ m ∈ c.1.2, m.1 = n := by
 rw [namesS, foldS_mem]
 simp [conNames, allNames, List.mem_flatMap, List.mem_map]
theorem conNames_tot : ∀ {l : List Con}, (conNames l).length = tot l
 | [] => rfl
 |c :: l => by
  have := conNames_tot (l := l)
  simp only [conNames, allNames, List.map_cons, List.flatMap_cons, List.length_append, List.length_map, tot] at this ⊢
  omega
def formT (l : List Con) (k : Nat) : List (List PC) := ((l.take k).map (·.1)).map lP
set_option maxHeartbeats 4000000 in
theorem ref08_Tame_abs {l : List Con} (hs : l.length ≤ 5 → tot l ≤ 1000000000) : PCalls Try.prog n_ref08_Tame [aCons l] (Go.Abs.B (decide (tameP l))) := by
 refine PCalls.of is_ref08_Tame (by simp) fun _ => runW_sound ?_
 simp only [c_ref08_Tame]
 have pv := ref08_Valid_abs l
 by_cases h5 : (l.length : Int) > 5
 ·rw [decide_eq_false (fun h => by have := h.1; omega)]
  repeat' first | simp (disch := omega) only [go_sem, ↓reduceIte, Nat.reduceEqDiff, reduceCtorEq, Int.reduceEq, h5] | ((with_reducible first | refine condD ?_ ?_ | refine condX ?_ ?_ | refine condW_intro ?_ ?_) <;> intro h <;> first | (exfalso; omega) | simp (disch := omega) only [go_sem, ↓reduceIte, Nat.reduceEqDiff, reduceCtorEq, Int.reduceEq, *, h5] | skip)
  all_goals rfl
 ·by_cases hok : okL l
  ·rw [decide_eq_true hok] at pv
   obtain ⟨R, hR⟩ : ∃ R, R = decide (tameP l) := ⟨_, rfl⟩
   rw [← hR]
   have HR : Hid (R = true ↔ num7 l ∧ (namesS (conNames l)).length ≤ 3) := Lib.hid (by
    rw [hR, decide_eq_true_eq]
    exact ⟨fun h => h.2.2, fun h => ⟨by omega, hok, h⟩⟩)
   have ht := hs (by omega)
   have hml := fun c (hc : c ∈ l) => Nat.le_trans (tot_mem hc) ht
   have pn := ref05_Names_abs (l := l.map (·.1)) (by rw [show allNames (l.map (·.1)) = conNames l from rfl, conNames_tot]; exact ht)
   rw [show allNames (l.map (·.1)) = conNames l from rfl] at pn
   clear hR hok hs ht
   repeat' first | simp (disch := omega) only [go_sem, ↓reduceIte, Nat.reduceEqDiff, reduceCtorEq, Int.reduceEq, h5] | ((with_reducible first | refine condD ?_ ?_ | refine condX ?_ ?_ | refine condW_intro ?_ ?_) <;> intro h <;> first | (exfalso; omega) | simp (disch := omega) only [go_sem, ↓reduceIte, Nat.reduceEqDiff, reduceCtorEq, Int.reduceEq, *, h5] | skip) | (refine callW_of pv rfl (.inl rfl) ?_)
   clear pv
   refine AW_adopt 3 34 2 rfl (by decide) ?_
   refine AW_loop (fun k : Nat => ⟨[(0, aCons l), (3, .c (.ref 0)), (4, I k)], [(0, .arr 34 2 (formT l k))], 1, 0⟩) (fun k => k ≤ l.length ∧ Hid (num7 (l.take k))) (fun k => l.length - k) ⟨0, [], ⟨Nat.zero_le _, Lib.hid (by simp [num7])⟩, by simp [Wk, wkF, wkM, wkL, look_cons, renV, renA, renC, renB, rn, clV, clA, clAs, clB, notIn, findB, findB_setB, clA.go, formT]⟩ ?_
   rintro k ⟨hk, HT⟩
   refine runW_sound ?_
   by_cases hlt : k < l.length
   ·have g1 := map_get (f := cP) hlt
    have hno : ¬ ((-7 ≤ l[k].1.1 ∧ l[k].1.1 ≤ 7) ∧ ∀ m ∈ l[k].1.2, -7 ≤ m.2 ∧ m.2 ≤ 7) → R = false := fun h => by
     cases hRv : R with
     | false => rfl
     | true => exact absurd ((HR.out.1 hRv).1 _ (List.getElem_mem hlt)) h
    have hyes : ((-7 ≤ l[k].1.1 ∧ l[k].1.1 ≤ 7) ∧ ∀ m ∈ l[k].1.2, -7 ≤ m.2 ∧ m.2 ≤ 7) → Hid (num7 (l.take (k + 1))) := fun h => Lib.hid (by
     rw [List.take_succ_eq_append_getElem hlt]
     intro c hcm
     rcases List.mem_append.1 hcm with h' | h'
     ·exact HT.out c h'
     ·rw [List.mem_singleton.1 h']; exact h)
    have HY := Lib.hid hyes
    have HN := Lib.hid hno
    have e1 : formT l (k + 1) = formT l k ++ [lP l[k].1] := by
     rw [formT, formT, List.take_succ_eq_append_getElem hlt, List.map_append, List.map_append]; rfl
    have hlen : (formT l k).length ≤ 5 := by simp [formT]; omega
    have hlk := hml _ (List.getElem_mem hlt)
    clear HT hyes hno HR pn
    generalize l[k] = c at *
    obtain ⟨⟨ck, cl⟩, q⟩ := c
    simp only [cP] at g1
    simp only [lP] at e1
    simp only at HY HN hlk
    generalize formT l k = F0 at *
    by_cases h1 : ck < -7
    ·have hR := HN.out fun h => by have := h.1; omega
     subst hR
     clear HY HN
     repeat' first | simp (disch := omega) only [go_sem, ↓reduceIte, Nat.reduceEqDiff, reduceCtorEq, Int.reduceEq, g1, h1, wrap_i64] | ((with_reducible first | refine condD ?_ ?_ | refine condX ?_ ?_ | refine condW_intro ?_ ?_) <;> intro h <;> first | (exfalso; omega) | simp (disch := omega) only [go_sem, ↓reduceIte, Nat.reduceEqDiff, reduceCtorEq, Int.reduceEq, *, g1, h1, wrap_i64] | skip) | (refine app_own rfl (by intro h; cases h) (rowsOk_one rfl) (by simp; omega) (by simp; omega) ?_)
     all_goals rfl
    ·by_cases h2 : ck > 7
     ·have hR := HN.out fun h => by have := h.1; omega
      subst hR
      clear HY HN
      repeat' first | simp (disch := omega) only [go_sem, ↓reduceIte, Nat.reduceEqDiff, reduceCtorEq, Int.reduceEq, g1, h1, h2, wrap_i64] | ((with_reducible first | refine condD ?_ ?_ | refine condX ?_ ?_ | refine condW_intro ?_ ?_) <;> intro h <;> first | (exfalso; omega) | simp (disch := omega) only [go_sem, ↓reduceIte, Nat.reduceEqDiff, reduceCtorEq, Int.reduceEq, *, g1, h1, h2, wrap_i64] | skip) | (refine app_own rfl (by intro h; cases h) (rowsOk_one rfl) (by simp; omega) (by simp; omega) ?_)
      all_goals rfl
     ·have HY2 : Hid ((∀ m ∈ cl, -7 ≤ m.2 ∧ m.2 ≤ 7) → Hid (num7 (l.take (k + 1)))) := Lib.hid fun h => HY.out ⟨by omega, h⟩
      have HN2 : Hid ((∃ m ∈ cl, ¬ (-7 ≤ m.2 ∧ m.2 ≤ 7)) → R = false) := Lib.hid fun ⟨m, hm, h⟩ => HN.out fun h' => h (h'.2 m hm)
      clear HY HN
      repeat' first | simp (disch := omega) only [go_sem, ↓reduceIte, Nat.reduceEqDiff, reduceCtorEq, Int.reduceEq, g1, h1, h2, wrap_i64] | ((with_reducible first | refine condD ?_ ?_ | refine condX ?_ ?_ | refine condW_intro ?_ ?_) <;> intro h <;> first | (exfalso; omega) | simp (disch := omega) only [go_sem, ↓reduceIte, Nat.reduceEqDiff, reduceCtorEq, Int.reduceEq, *, g1, h1, h2, wrap_i64] | skip) | (refine app_own rfl (by intro h; cases h) (rowsOk_one rfl) (by simp; omega) (by simp; omega) ?_)
      refine AW_loop (fun j : Nat => ⟨[(0, aCons l), (3, .c (.ref 0)), (4, I k), (5, I j)], [(0, .arr 34 2 (formT l (k + 1)))], 1, 0⟩) (fun j => j ≤ cl.length ∧ Hid (∀ m ∈ cl.take j, -7 ≤ m.2 ∧ m.2 ≤ 7)) (fun j => cl.length - j) ⟨0, [(0, 1)], ⟨Nat.zero_le _, Lib.hid (by simp)⟩, by simp [Wk, wkF, wkM, wkL, look_cons, renV, renA, renC, renB, rn, clV, clA, clAs, clB, notIn, findB, findB_setB, clA.go, e1]⟩ ?_
      rintro j ⟨hj, HJ⟩
      refine runW_sound ?_
      by_cases hlj : j < cl.length
      ·have g2 := map_get (f := mP) hlj
       by_cases h3 : cl[j].2 < -7
       ·have hR := HN2.out ⟨_, List.getElem_mem hlj, by omega⟩
        subst hR
        clear HJ HY2 HN2
        generalize cl[j] = m at *
        obtain ⟨mn, mx⟩ := m
        simp only [mP] at g2
        simp only at h3
        repeat' first | simp (disch := omega) only [go_sem, ↓reduceIte, Nat.reduceEqDiff, reduceCtorEq, Int.reduceEq, g1, g2, h3, wrap_i64] | ((with_reducible first | refine condD ?_ ?_ | refine condX ?_ ?_ | refine condW_intro ?_ ?_) <;> intro h <;> first | (exfalso; omega) | simp (disch := omega) only [go_sem, ↓reduceIte, Nat.reduceEqDiff, reduceCtorEq, Int.reduceEq, *, g1, g2, h3, wrap_i64] | skip)
        all_goals rfl
       ·by_cases h4 : cl[j].2 > 7
        ·have hR := HN2.out ⟨_, List.getElem_mem hlj, by omega⟩
         subst hR
         clear HJ HY2 HN2
         generalize cl[j] = m at *
         obtain ⟨mn, mx⟩ := m
         simp only [mP] at g2
         simp only at h3 h4
         repeat' first | simp (disch := omega) only [go_sem, ↓reduceIte, Nat.reduceEqDiff, reduceCtorEq, Int.reduceEq, g1, g2, h3, h4, wrap_i64] | ((with_reducible first | refine condD ?_ ?_ | refine condX ?_ ?_ | refine condW_intro ?_ ?_) <;> intro h <;> first | (exfalso; omega) | simp (disch := omega) only [go_sem, ↓reduceIte, Nat.reduceEqDiff, reduceCtorEq, Int.reduceEq, *, g1, g2, h3, h4, wrap_i64] | skip)
         all_goals rfl
        ·have HJ' : Hid (∀ m ∈ cl.take (j + 1), -7 ≤ m.2 ∧ m.2 ≤ 7) := Lib.hid (by
          rw [List.take_succ_eq_append_getElem hlj]
          intro m hm
          rcases List.mem_append.1 hm with h' | h'
          ·exact HJ.out m h'
          ·rw [List.mem_singleton.1 h']; omega)
         clear HJ
         generalize cl[j] = m at *
         obtain ⟨mn, mx⟩ := m
         simp only [mP] at g2
         simp only at h3 h4
         repeat' first | simp (disch := omega) only [go_sem, ↓reduceIte, Nat.reduceEqDiff, reduceCtorEq, Int.reduceEq, g1, g2, h3, h4, wrap_i64] | ((with_reducible first | refine condD ?_ ?_ | refine condX ?_ ?_ | refine condW_intro ?_ ?_) <;> intro h <;> first | (exfalso; omega) | simp (disch := omega) only [go_sem, ↓reduceIte, Nat.reduceEqDiff, reduceCtorEq, Int.reduceEq, *, g1, g2, h3, h4, wrap_i64] | skip)
         exact ⟨j + 1, [], ⟨hlj, HJ'⟩, by omega, by simp [Wk, wkF, wkM, wkL, look_cons, renV, renA, renC, renB, rn, clV, clA, clAs, clB, notIn, findB, findB_setB, clA.go]⟩
      ·have hall := HJ.out
       rw [List.take_of_length_le (by omega)] at hall
       have HT' := HY2.out hall
       clear HJ hall HY2 HN2 e1
       repeat' first | simp (disch := omega) only [go_sem, ↓reduceIte, Nat.reduceEqDiff, reduceCtorEq, Int.reduceEq, g1, wrap_i64] | ((with_reducible first | refine condD ?_ ?_ | refine condX ?_ ?_ | refine condW_intro ?_ ?_) <;> intro h <;> first | (exfalso; omega) | simp (disch := omega) only [go_sem, ↓reduceIte, Nat.reduceEqDiff, reduceCtorEq, Int.reduceEq, *, g1, wrap_i64] | skip)
       exact ⟨k + 1, [], ⟨hlt, HT'⟩, by omega, by simp [Wk, wkF, wkM, wkL, look_cons, renV, renA, renC, renB, rn, clV, clA, clAs, clB, notIn, findB, findB_setB, clA.go]⟩
   ·have h7 := HT.out
    rw [List.take_of_length_le (by omega)] at h7
    obtain rfl : k = l.length := by omega
    have e1 : aSl lP (l.map (·.1)) = .c (.pure (.slice (formT l l.length))) := by
     show AV.c (.pure (.slice ((l.map (·.1)).map lP))) = _
     rw [formT, List.take_of_length_le (Nat.le_refl _)]
    rw [e1] at pn
    clear HT e1 hml
    by_cases h3 : (namesS (conNames l)).length ≤ 3
    ·have hR : R = true := HR.out.2 ⟨h7, h3⟩
     subst hR
     clear HR h7
     generalize namesS (conNames l) = NN at *
     have h3' : (NN.length : Int) ≤ 3 := by omega
     repeat' first | simp (disch := omega) only [go_sem, ↓reduceIte, Nat.reduceEqDiff, reduceCtorEq, Int.reduceEq, h3'] | ((with_reducible first | refine condD ?_ ?_ | refine condX ?_ ?_ | refine condW_intro ?_ ?_) <;> intro h <;> first | (exfalso; omega) | simp (disch := omega) only [go_sem, ↓reduceIte, Nat.reduceEqDiff, reduceCtorEq, Int.reduceEq, *, h3'] | skip) | (refine callW_z1 0 34 2 (formT l l.length) pn (by simp (disch := omega) only [findB, findB_setB, ifN, eq_self, ↓reduceIte, Option.map_some] <;> rfl) (by simp [frzV, frz1, purVs, purV, purAs, purA, purC]) (.inr (by simp [frzV, frz1, norefV, norefA, norefC])) ?_)
     all_goals first | rfl | simp [h3']
    ·have hR : R = false := by
      cases hRv : R with
      | false => rfl
      | true => exact absurd (HR.out.1 hRv).2 h3
     subst hR
     clear HR h7
     generalize namesS (conNames l) = NN at *
     have h3' : ¬ (NN.length : Int) ≤ 3 := by omega
     repeat' first | simp (disch := omega) only [go_sem, ↓reduceIte, Nat.reduceEqDiff, reduceCtorEq, Int.reduceEq, h3'] | ((with_reducible first | refine condD ?_ ?_ | refine condX ?_ ?_ | refine condW_intro ?_ ?_) <;> intro h <;> first | (exfalso; omega) | simp (disch := omega) only [go_sem, ↓reduceIte, Nat.reduceEqDiff, reduceCtorEq, Int.reduceEq, *, h3'] | skip) | (refine callW_z1 0 34 2 (formT l l.length) pn (by simp (disch := omega) only [findB, findB_setB, ifN, eq_self, ↓reduceIte, Option.map_some] <;> rfl) (by simp [frzV, frz1, purVs, purV, purAs, purA, purC]) (.inr (by simp [frzV, frz1, norefV, norefA, norefC])) ?_)
     all_goals first | rfl | simp [h3']
  ·rw [decide_eq_false hok] at pv
   rw [decide_eq_false (fun h => hok h.2.1)]
   clear hok
   repeat' first | simp (disch := omega) only [go_sem, ↓reduceIte, Nat.reduceEqDiff, reduceCtorEq, Int.reduceEq, h5] | ((with_reducible first | refine condD ?_ ?_ | refine condX ?_ ?_ | refine condW_intro ?_ ?_) <;> intro h <;> first | (exfalso; omega) | simp (disch := omega) only [go_sem, ↓reduceIte, Nat.reduceEqDiff, reduceCtorEq, Int.reduceEq, *, h5] | skip) | (refine callW_of pv rfl (.inl rfl) ?_)
   all_goals rfl
theorem tot_bulk : ∀ {l : List Con}, tot l ≤ pBulkRs (l.map cP)
 | [] => by simp [tot]
 |c :: l => by
  have h1 := tot_bulk (l := l)
  have h2 : ∀ m : List Mono, m.length ≤ pBulkRs (m.map mP) := fun m => by
   induction m with
   | nil => simp
   | cons a m ih =>
    simp only [List.map_cons, List.length_cons, pBulkRs, mP, pBulks, pBulk]
    omega
  have h3 := h2 c.1.2
  simp only [tot, List.map_cons, pBulkRs, cP, pBulks, pBulk]
  omega
theorem implS_64' {l : List Con} {c : Con} {fuel : Int} (h64 : ∀ c ∈ l, con64 c) (hc : con64 c) : ∀ x ∈ (implS l c fuel).1, in64 x := by
 have key : ∀ {P : List Con} {acc : List Int}, (∀ p ∈ P, con64 p) → (∀ x ∈ acc, in64 x) → ∀ x ∈ (implG l fuel P acc).1, in64 x := by
  intro P
  induction P with
  | nil => intro acc _ ha x hx; exact ha x hx
  | cons p P ih =>
   intro acc hP ha x hx
   rw [implG] at hx
   split at hx
   ·cases hx
   ·split at hx
    ·cases hx
    ·refine ih (fun q hq => hP q (List.mem_cons_of_mem _ hq)) (fun y hy => ?_) x hx
     rcases List.mem_append.1 hy with hy | hy
     ·exact ha y hy
     ·exact infS_64 (app_64 h64 (hP p List.mem_cons_self)) y hy
 unfold implS
 split
 ·intro x hx; cases hx
 ·exact key (negaS_64 hc) (by simp)
set_option maxHeartbeats 4000000 in
theorem EntailOwn_abs (ps0 ps1 : List PC) (h0 : OkPs [.slice [.int .i64, .slice [.str, .int .i64], .bool]] ps0) (h1 : OkPs [.int .u8] ps1) (hbk : pBulks ps0 ≤ 1048576) :
  PCalls Try.prog 6 [argV false ps0, argV false ps1] (Go.Abs.B true) := by
 obtain ⟨l, rfl, hl, _⟩ := okConsL h0
 obtain ⟨_, rfl, k1⟩ := okOne h1
 obtain ⟨n, rfl, hn⟩ := okUint k1
 have hn : 0 ≤ n ∧ n ≤ 255 := by
  simp only [Lit.wf, Bool.and_eq_true, decide_eq_true_eq] at hn
  exact hn
 have htot : tot l ≤ 1048576 := by
  have := tot_bulk (l := l)
  simp only [pBulks, pBulk] at hbk
  omega
 clear h0 h1 k1 hbk
 show PCalls _ n_law08_EntailOwn [aCons l, .c (.pure (.val (.int .u8 n)))] _
 refine PCalls.of is_law08_EntailOwn (by simp) fun _ => runW_sound ?_
 have pt := ref08_Tame_abs (l := l) (fun _ => by omega)
 have pa := law08_alive_abs
 have wn : IntKind.wrap .i64 n = n := wrap_i64 (by omega)
 simp only [c_law08_EntailOwn]
 by_cases hl0 : l.length = 0
 ·have hl0' : (l.length : Int) = 0 := by omega
  repeat' first | simp (disch := omega) only [go_sem, ↓reduceIte, Nat.reduceEqDiff, reduceCtorEq, Int.reduceEq, hl0'] | ((with_reducible first | refine condD ?_ ?_ | refine condX ?_ ?_ | refine condW_intro ?_ ?_) <;> intro h <;> first | (exfalso; omega) | simp (disch := omega) only [go_sem, ↓reduceIte, Nat.reduceEqDiff, reduceCtorEq, Int.reduceEq, *, hl0'] | skip) | (refine callW_of pa rfl (.inl rfl) ?_)
  all_goals rfl
 ·have hl0' : ¬ (l.length : Int) = 0 := by omega
  by_cases ht : tameP l
  ·rw [decide_eq_true ht] at pt
   have h5 := ht.1
   have m1 := Int.tmod_nonneg (b := (l.length : Int)) hn.1
   have m2 := Int.tmod_lt_of_pos (b := (l.length : Int)) n (by omega)
   have wm : IntKind.wrap .i64 (n.tmod (l.length : Int)) = n.tmod (l.length : Int) := wrap_i64 (by omega)
   obtain ⟨k, hk⟩ : ∃ k : Nat, n.tmod (l.length : Int) = k := ⟨(n.tmod (l.length : Int)).toNat, by omega⟩
   rw [hk] at wm m1 m2
   have hlt : k < l.length := by omega
   have g1 := map_get (f := cP) hlt
   have hc64 := hl _ (List.getElem_mem hlt)
   have hcl := tot_mem (List.getElem_mem hlt)
   have hlen3 : ∀ d ∈ l, d.1.2.length ≤ 3 := fun d hd => by
    have := nodup_le (l := d.1.2.map (·.1)) (m := namesS (conNames l)) (by
     rw [List.Nodup, List.pairwise_map]
     exact (linOk_iff.1 (ht.2.1 d hd)).1.imp fun {a b} hab e => by rw [e] at hab; exact sless_irrefl _ hab) (fun a ha => by
     obtain ⟨m, hm, rfl⟩ := List.mem_map.1 ha
     exact mem_conNames.2 ⟨d, hd, m, hm, rfl⟩)
    rw [List.length_map] at this
    exact Nat.le_trans this ht.2.2.2
   have htot3 : tot l ≤ 3 * l.length := by
    have : ∀ {t : List Con}, (∀ c ∈ t, c.1.2.length ≤ 3) → tot t ≤ 3 * t.length := by
     intro t
     induction t with
     | nil => intro _; simp [tot]
     | cons c t ih =>
      intro h
      have h1 := h c List.mem_cons_self
      have h2 := ih fun d hd => h d (List.mem_cons_of_mem _ hd)
      rw [tot, List.length_cons, Nat.mul_succ]
      omega
    exact this hlen3
   have hc3 := hlen3 _ (List.getElem_mem hlt)
   have p1 := entail_Implies_abs (c := l[k]) (fuel := 1048576) hl hc64 (by omega) (by omega) (by simp [in64])
   obtain ⟨b, hb⟩ := own_law hl ht.2.1 ht.2.2.1 h5 (N := namesS (conNames l)) (fun d hd m hm => mem_conNames.2 ⟨d, hd, m, hm, rfl⟩) ht.2.2.2 (List.getElem_mem hlt)
   have hck := implS_check hl hc64 hb
   have hb64 := implS_64' (fuel := 1048576) hl hc64
   rw [hb] at p1 hb64
   have p2 := entail_CheckCertificate_abs (c := l[k]) (b := b) hl hc64 (by omega) (by omega) hb64
   rw [hck] at p2
   have tk : ((k : Int)).toNat = k := Int.toNat_natCast k
   clear ht hl hb hck hb64 hlen3 htot3 hc3 hcl hc64 htot
   generalize l[k] = c at *
   obtain ⟨⟨ck, cl⟩, q⟩ := c
   simp only [cP] at g1
   try simp only at p1 p2
   repeat' first | simp (disch := omega) only [go_sem, ↓reduceIte, Nat.reduceEqDiff, reduceCtorEq, Int.reduceEq, hl0', g1, wn, hk, wm, tk] | ((with_reducible first | refine condD ?_ ?_ | refine condX ?_ ?_ | refine condW_intro ?_ ?_) <;> intro h <;> first | (exfalso; omega) | simp (disch := omega) only [go_sem, ↓reduceIte, Nat.reduceEqDiff, reduceCtorEq, Int.reduceEq, *, hl0', g1, wn, hk, wm, tk] | skip) | (refine callW_of pt rfl (.inl rfl) ?_) | (refine callW_of pa rfl (.inl rfl) ?_) | (refine callW_of p1 rfl (.inr rfl) ?_) | (refine callW_of p2 rfl (.inl rfl) ?_)
   all_goals rfl
  ·rw [decide_eq_false ht] at pt
   clear ht hl
   repeat' first | simp (disch := omega) only [go_sem, ↓reduceIte, Nat.reduceEqDiff, reduceCtorEq, Int.reduceEq, hl0'] | ((with_reducible first | refine condD ?_ ?_ | refine condX ?_ ?_ | refine condW_intro ?_ ?_) <;> intro h <;> first | (exfalso; omega) | simp (disch := omega) only [go_sem, ↓reduceIte, Nat.reduceEqDiff, reduceCtorEq, Int.reduceEq, *, hl0'] | skip) | (refine callW_of pt rfl (.inl rfl) ?_) | (refine callW_of pa rfl (.inl rfl) ?_)
   all_goals rfl
end Go.Proofs.Ytnddmjhpplopbaa
