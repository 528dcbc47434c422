/- Walks by the abstract machine: the reference eliminates a variable. -/
import Derived.Test.YtnddmjhpplopbaaR07s
set_option linter.unusedVariables false
set_option linter.unusedSimpArgs false
set_option maxRecDepth 20000
namespace Go.Proofs.Ytnddmjhpplopbaa
open Go.Abs Go.RowKit

theorem units_rows {n i k : Nat} {x y : Int} : (((List.replicate n [pI 0]).set k [pI y]).set i [pI x]) = (units2 n i x k y).map fun z => [pI z] := by
 rw [units2, List.map_set, List.map_set, List.map_replicate]
theorem ref07_units_abs {n i k : Nat} {x y : Int} (hn : n ≤ 1000000) (hi : i < n) (hk : k < n) : PCalls Try.prog n_ref07_units [I n, I i, I x, I k, I y] (aInts (units2 n i x k y)) := by
 refine PCalls.of is_ref07_units (by simp) fun _ => runW_sound ?_
 simp only [c_ref07_units]
 have h1 : (List.replicate n [pI 0])[k]? = some [pI 0] := by rw [List.getElem?_replicate, if_pos hk]
 have h2 : ((List.replicate n [pI 0]).set k [pI y])[i]? = some (if k = i then [pI y] else [pI 0]) := by
  rw [List.getElem?_set, List.length_replicate, List.getElem?_replicate]
  by_cases e : k = i
  ·subst e; simp [hk]
  ·simp [e, hi]
 have h3 : (if k = i then [pI y] else [pI 0]) = [if k = i then pI y else pI 0] := by split <;> rfl
 rw [h3] at h2
 generalize (if k = i then pI y else pI 0) = v at *
 repeat' first | simp (disch := omega) only [go_sem, ↓reduceIte, Nat.reduceEqDiff, reduceCtorEq, Int.reduceEq, h1, h2, List.length_replicate, List.length_set] | ((with_reducible first | refine condD ?_ ?_ | refine condX ?_ ?_ | refine condW_intro ?_ ?_) <;> intro h <;> first | (exfalso; omega) | simp (disch := omega) only [go_sem, ↓reduceIte, Nat.reduceEqDiff, reduceCtorEq, Int.reduceEq, *, h1, h2, List.length_replicate, List.length_set] | skip)
 all_goals rw [units_rows]
theorem in64_units {n i k : Nat} {x y : Int} (hx : in64 x) (hy : in64 y) : ∀ z ∈ units2 n i x k y, in64 z := by
 intro z hz
 rcases List.mem_or_eq_of_mem_set hz with h | h
 ·rcases List.mem_or_eq_of_mem_set h with h | h
  ·rw [List.eq_of_mem_replicate h]; exact in64_zero
  ·rw [h]; exact hy
 ·rw [h]; exact hx
abbrev dX (x : List Row × Int) (nm : Nat) : List AV := [if x.2 = 0 then .c (.ref nm) else .c .nils, I x.2]
theorem ref07_derived_abs {l : List Con} {b : List Int} {acc : List Row} {nx nm : Nat} (hl : ∀ c ∈ l, linOk c.1.2 ∧ con64 c) (hb : ∀ x ∈ b, in64 x) (hs : tot l ≤ 400000000) (hacc : acc.length ≤ 100000) (hnm : nm < nx) :
  ICalls Try.prog n_ref07_derived [.c (.ref nm), aCons l, aInts b] [(nm, .arr 64 4 (acc.map rCells))] nx (packV (dX (stepD l b acc) nx)) [(if (stepD l b acc).2 = 0 then nx else nm, .arr 64 4 ((if (stepD l b acc).2 = 0 then (stepD l b acc).1 else acc).map rCells))] (nx + 1) := by
 refine ICalls.ofZ is_ref07_derived (by simp) fun _ => runW_sound ?_
 have pw := ref07_Weighted_abs (l := l) (b := b) (fun c hc => (hl c hc).2) hb (by omega)
 rw [weighted_eq fun c hc => (hl c hc).1] at pw
 simp only [c_ref07_derived]
 unfold stepD derS
 generalize conCombine l b = C at *
 obtain ⟨⟨⟨K, m⟩, q⟩, e⟩ := C
 simp only
 have hF : frOk nx [nm] [] := trivial
 by_cases he : e = 0
 ·subst he
  simp only [ne_eq, not_true_eq_false, if_false, if_true]
  repeat' first | simp (disch := omega) only [go_sem, ↓reduceIte, Nat.reduceEqDiff, reduceCtorEq, Int.reduceEq, ifN, ifNP] | ((with_reducible first | refine condD ?_ ?_ | refine condX ?_ ?_ | refine condW_intro ?_ ?_) <;> intro h <;> first | (exfalso; omega) | simp (disch := omega) only [go_sem, ↓reduceIte, Nat.reduceEqDiff, reduceCtorEq, Int.reduceEq, *, ifN, ifNP] | skip) | (refine callW_of pw rfl (.inr rfl) ?_) | (refine app_own (by simp (disch := omega) only [findB, findB_setB, ifN, eq_self, ↓reduceIte, Option.map_some] <;> rfl) (by intro h; cases h) (rowsOk_one rfl) (by simp; omega) (by simp; omega) ?_)
  refine ⟨[], [(nx, nx + 1)], ?_⟩
  simp (disch := omega) only [go_sem, ↓reduceIte, Nat.reduceEqDiff, reduceCtorEq, Int.reduceEq, frzLA, ifN, ifNP]
  refine Wk_intro (by simp (disch := omega) [Wk, wkF, wkM, wkL, look_cons, renV, renA, renC, renB, rn, clV, clA, clAs, clB, notIn, findB, findB_setB, clA.go, ifN]) ?_ rfl (by simp; try omega) (by simp [wkL]; try omega)
  repeat' first | exact hF.wk (by simp [wkL]; try omega) (by simp; try omega) (by intro n hn; simp (disch := omega) [rn, ifN] at hn ⊢; omega) (by intro nm bx h1 h2 h3; simp only [notIn] at h2; simp only [findB, findB_setB]; (repeat (refine (ifN (by omega)).trans ?_)); exact h3) | refine wkM_cons ?_ ?_ ?_ ?_ ?_ | (simp (disch := omega) [Wk, wkF, wkM, wkL, look_cons, renV, renA, renC, renB, rn, clV, clA, clAs, clB, notIn, findB, findB_setB, clA.go, ifN] <;> omega) | omega
 ·simp only [ne_eq, he, not_false_eq_true, if_true, if_false]
  repeat' first | simp (disch := omega) only [go_sem, ↓reduceIte, Nat.reduceEqDiff, reduceCtorEq, Int.reduceEq, ifN, ifNP, he] | ((with_reducible first | refine condD ?_ ?_ | refine condX ?_ ?_ | refine condW_intro ?_ ?_) <;> intro h <;> first | (exfalso; omega) | simp (disch := omega) only [go_sem, ↓reduceIte, Nat.reduceEqDiff, reduceCtorEq, Int.reduceEq, *, ifN, ifNP, he] | skip) | (refine callW_of pw rfl (.inr rfl) ?_)
  refine ⟨[], [], ?_⟩
  simp (disch := omega) only [go_sem, ↓reduceIte, Nat.reduceEqDiff, reduceCtorEq, Int.reduceEq, frzLA, ifN, ifNP]
  refine Wk_intro (by simp (disch := omega) [Wk, wkF, wkM, wkL, look_cons, renV, renA, renC, renB, rn, clV, clA, clAs, clB, notIn, findB, findB_setB, clA.go, ifN, he]) ?_ rfl (by simp; try omega) (by simp [wkL]; try omega)
  repeat' first | exact hF.wk (by simp [wkL]; try omega) (by simp; try omega) (by intro n hn; simp (disch := omega) [rn, ifN] at hn ⊢; omega) (by intro nm bx h1 h2 h3; simp only [notIn] at h2; simp only [findB, findB_setB]; (repeat (refine (ifN (by omega)).trans ?_)); exact h3) | refine wkM_cons ?_ ?_ ?_ ?_ ?_ | (simp (disch := omega) [Wk, wkF, wkM, wkL, look_cons, renV, renA, renC, renB, rn, clV, clA, clAs, clB, notIn, findB, findB_setB, clA.go, ifN, he] <;> omega) | omega
theorem sgnR_false (n : Nat) : sgnR n false = sgnE n false := by rw [sgnR, if_neg (by rintro ⟨_, h⟩; cases h)]
set_option maxHeartbeats 4000000 in
theorem ref07_byEquation_abs {l : List Con} {n : ByteArray} {k : Nat} (hl : ∀ c ∈ l, linOk c.1.2 ∧ con64 c) (hs : tot l ≤ 400000000) (h256 : l.length ≤ 256) (hk : k < l.length) (hq : l[k].2 = true) (hc : cf l[k].1.2 n ≠ 0) :
  PCalls Try.prog n_ref07_byEquation [aCons l, S n, I k] (aDers (solveS l n k)) := by
 refine PCalls.of is_ref07_byEquation (by simp) fun _ => runW_sound ?_
 have gk := map_get (f := cP) hk
 have hck := (hl _ (List.getElem_mem hk)).2
 have hal : allLin l := fun c h => (hl c h).1
 have hmin := fun (i : Nat) (x : Int) (hik : i ≠ k) (hc' : cf l[k].1.2 n < 0) (hx : 0 ≤ x) => der_min (i := i) (x := x) hal hk hik hq hc' hx
 have hkk := conAt_get hk
 simp only [c_ref07_byEquation]
 unfold solveS
 obtain ⟨R, hR⟩ : ∃ R, R = runE (stepQ l n k) ((List.range l.length).drop 0) [] := ⟨_, rfl⟩
 have hR0 : runE (stepQ l n k) (List.range l.length) [] = R := hR.symm
 rw [hR0]
 have HR := Lib.hid hR
 have HMIN := Lib.hid hmin
 clear hR hR0 hmin hq
 generalize l[k] = w at *
 obtain ⟨⟨Kw, lw⟩, qw⟩ := w
 simp only [cP] at gk
 simp only at hc
 have pcw := ref07_coeff_abs Kw lw n
 have hcw : in64 (cf lw n) := cf_64 hck.2 n
 have hkc : cf (conAt l k).1.2 n = cf lw n := by rw [hkk]
 generalize cf lw n = ck at *
 repeat' first | simp (disch := omega) only [go_sem, ↓reduceIte, Nat.reduceEqDiff, reduceCtorEq, Int.reduceEq, gk] | ((with_reducible first | refine condD ?_ ?_ | refine condX ?_ ?_ | refine condW_intro ?_ ?_) <;> intro h <;> first | (exfalso; omega) | simp (disch := omega) only [go_sem, ↓reduceIte, Nat.reduceEqDiff, reduceCtorEq, Int.reduceEq, *, gk] | skip) | (refine callW_of pcw rfl (.inl rfl) ?_)
 refine AW_adopt 8 64 4 rfl (by decide) ?_
 refine AW_loop (fun s : Nat × List Row => ⟨[(0, aCons l), (1, S n), (2, I k), (8, .c (.ref 0)), (9, I ck), (10, I s.1)], [(0, .arr 64 4 (s.2.map rCells))], 1, 0⟩)
  (fun s => s.1 ≤ l.length ∧ s.2.length ≤ s.1 ∧ Hid (R = runE (stepQ l n k) ((List.range l.length).drop s.1) s.2)) (fun s => l.length - s.1) ⟨(0, []), [], ⟨Nat.zero_le _, Nat.le_refl _, HR⟩, by simp [Wk, wkF, wkM, wkL, look_cons, renV, renA, renC, renB, rn, clV, clA, clAs, clB, notIn, findB, findB_setB, clA.go]⟩ ?_
 clear HR pcw gk
 rintro ⟨i, acc⟩ ⟨hi, hacc, HR⟩
 simp only at hi hacc HR
 refine runW_sound ?_
 by_cases hlt : i < l.length
 ·have g1 := map_get (f := cP) hlt
  have hci := (hl _ (List.getElem_mem hlt)).2
  have hii := conAt_get hlt
  have h2 := HR.out
  rw [range_drop hlt, runE_cons] at h2
  clear HR
  generalize l[i] = z at *
  obtain ⟨⟨Kz, lz⟩, qz⟩ := z
  simp only [cP] at g1
  have pc := ref07_coeff_abs Kz lz n
  have hcz : in64 (cf lz n) := cf_64 hci.2 n
  have hic : cf (conAt l i).1.2 n = cf lz n := by rw [hii]
  generalize cf lz n = d at *
  have pu1 := ref07_units_abs (n := l.length) (i := i) (k := i) (x := 1) (y := 1) (by omega) hlt hlt
  clear hii hkk
  by_cases hik : i = k
  ·have hs0 : stepQ l n k i acc = (acc, 0) := if_pos hik
   rw [hs0, if_neg (by simp)] at h2
   have HR := Lib.hid h2
   have hiki : ((i : Int) = (k : Int)) = True := eq_true (by omega)
   clear h2 hs0
   repeat' first | simp (disch := omega) only [go_sem, ↓reduceIte, Nat.reduceEqDiff, reduceCtorEq, Int.reduceEq, g1, hiki, wrap_i64] | ((with_reducible first | refine condD ?_ ?_ | refine condX ?_ ?_ | refine condW_intro ?_ ?_) <;> intro h <;> first | (exfalso; omega) | simp (disch := omega) only [go_sem, ↓reduceIte, Nat.reduceEqDiff, reduceCtorEq, Int.reduceEq, *, g1, hiki, wrap_i64] | skip)
   exact ⟨(i + 1, acc), [], ⟨hlt, by simp only; omega, HR⟩, by show _ - _ < _ - _; omega, by simp [Wk, wkF, wkM, wkL, look_cons, renV, renA, renC, renB, rn, clV, clA, clAs, clB, notIn, findB, findB_setB, clA.go, hik]⟩
  ·have hiki : ¬ (i : Int) = (k : Int) := by omega
   by_cases hd : d = 0
   ·have hs0 : stepQ l n k i acc = stepD l (units2 l.length i 1 i 1) acc := by rw [stepQ, if_neg hik, hic, if_pos hd]
    rw [hs0] at h2
    subst hd
    have hacc2 := stepD_len (l := l) (b := units2 l.length i 1 i 1) (acc := acc)
    have pd := ref07_derived_abs (b := units2 l.length i 1 i 1) (acc := acc) (nx := 1) (nm := 0) hl (in64_units (by simp [in64]) (by simp [in64])) hs (by omega) (by omega)
    clear hs0 hic
    generalize units2 l.length i 1 i 1 = b at *
    generalize stepD l b acc = D at *
    obtain ⟨D, e⟩ := D
    by_cases he : e = 0
    ·subst he
     rw [if_neg (by simp)] at h2
     have HR := Lib.hid h2
     clear h2
     simp only [dX, if_true] at pd
     repeat' first | simp (disch := omega) only [go_sem, ↓reduceIte, Nat.reduceEqDiff, reduceCtorEq, Int.reduceEq, g1, hiki, wrap_i64] | ((with_reducible first | refine condD ?_ ?_ | refine condX ?_ ?_ | refine condW_intro ?_ ?_) <;> intro h <;> first | (exfalso; omega) | simp (disch := omega) only [go_sem, ↓reduceIte, Nat.reduceEqDiff, reduceCtorEq, Int.reduceEq, *, g1, hiki, wrap_i64] | skip) | (refine callW_of pu1 rfl (.inr rfl) ?_) | (refine callW_of pc rfl (.inl rfl) ?_) | (refine callW_i pd ?_)
     exact ⟨(i + 1, D), [(0, 1)], ⟨hlt, by simp only at hacc2 ⊢; omega, HR⟩, by show _ - _ < _ - _; omega, by simp [Wk, wkF, wkM, wkL, look_cons, renV, renA, renC, renB, rn, clV, clA, clAs, clB, notIn, findB, findB_setB, clA.go]⟩
    ·rw [if_pos he] at h2
     subst h2
     simp only [dX, if_neg he] at pd
     repeat' first | simp (disch := omega) only [go_sem, ↓reduceIte, Nat.reduceEqDiff, reduceCtorEq, Int.reduceEq, g1, hiki, wrap_i64, he] | ((with_reducible first | refine condD ?_ ?_ | refine condX ?_ ?_ | refine condW_intro ?_ ?_) <;> intro h <;> first | (exfalso; omega) | simp (disch := omega) only [go_sem, ↓reduceIte, Nat.reduceEqDiff, reduceCtorEq, Int.reduceEq, *, g1, hiki, wrap_i64, he] | skip) | (refine callW_of pu1 rfl (.inr rfl) ?_) | (refine callW_of pc rfl (.inl rfl) ?_) | (refine callW_i pd ?_)
     all_goals rfl
   ·have pf := ref07_factors_abs hcw hcz hc
    have hs0 : stepQ l n k i acc = if (cancelX ck d).2.2 = false then ([], 3) else stepD l (units2 l.length i (cancelX ck d).1 k (cancelX ck d).2.1) acc := by rw [stepQ, if_neg hik, hic, if_neg hd, hkc]
    rw [hs0] at h2
    clear hs0
    unfold cancelX at h2
    simp only at h2
    have hmin2 : d.natAbs / Nat.gcd ck.natAbs d.natAbs = 9223372036854775808 ∧ (decide (0 < ck) == decide (0 < d)) = true → ck < 0 := by
     rintro ⟨h1, h3⟩
     have hdn : d.natAbs ≤ 9223372036854775808 := by unfold in64 at hcz; omega
     have hle : d.natAbs / Nat.gcd ck.natAbs d.natAbs ≤ d.natAbs := Nat.div_le_self _ _
     have hd1 : d.natAbs = 9223372036854775808 := by omega
     have hd2 : ¬ 0 < d := by unfold in64 at hcz; omega
     have h4 : ¬ 0 < ck := by
      intro h4
      simp [h4, hd2] at h3
     omega
    generalize ck.natAbs / Nat.gcd ck.natAbs d.natAbs = X at *
    generalize d.natAbs / Nat.gcd ck.natAbs d.natAbs = Y at *
    have ps1 := ref07_signed_abs (n := X) false
    have ps2 := ref07_signed_abs (n := Y) (decide (0 < ck) == decide (0 < d))
    rw [sgnR_false] at ps1
    have hx64 := sgnE_64 X false
    have hy64 := sgnE_64 Y (decide (0 < ck) == decide (0 < d))
    have hx0 := sgnE_pos X
    generalize hsg : (decide (0 < ck) == decide (0 < d)) = s at *
    generalize sgnE X false = EX at *
    obtain ⟨x, ox⟩ := EX
    simp only at hx64 hx0 h2
    clear hic hkc
    by_cases hY : Y = 9223372036854775808 ∧ s = true
    ·have hckn := hmin2 hY
     obtain ⟨rfl, rfl⟩ := hY
     have e1 : sgnR 9223372036854775808 true = (-9223372036854775808, true) := by rw [sgnR, if_pos ⟨rfl, rfl⟩]
     have e2 : sgnE 9223372036854775808 true = (0, false) := by rw [sgnE, if_pos (by decide)]
     rw [e1] at ps2
     rw [e2] at h2
     rw [if_pos (by simp), if_pos (by simp)] at h2
     subst h2
     have hov := HMIN.out i x hik hckn hx0
     have pu := ref07_units_abs (n := l.length) (i := i) (k := k) (x := x) (y := -9223372036854775808) (by omega) hlt hk
     have pd := ref07_derived_abs (b := units2 l.length i x k (-9223372036854775808)) (acc := acc) (nx := 1) (nm := 0) hl (in64_units hx64 (by simp [in64])) hs (by omega) (by omega)
     have e3 : stepD l (units2 l.length i x k (-9223372036854775808)) acc = ([], 3) := by rw [stepD, hov, if_pos (by decide)]
     rw [e3] at pd
     simp only [dX] at pd
     clear hmin2 hy64 hx64 hx0 hov e1 e2 e3
     generalize units2 l.length i x k (-9223372036854775808) = b at *
     cases ox
     all_goals
      repeat' first | simp (disch := omega) only [go_sem, ↓reduceIte, Nat.reduceEqDiff, reduceCtorEq, Int.reduceEq, g1, hiki, wrap_i64, hd, hsg] | ((with_reducible first | refine condD ?_ ?_ | refine condX ?_ ?_ | refine condW_intro ?_ ?_) <;> intro h <;> first | (exfalso; omega) | simp (disch := omega) only [go_sem, ↓reduceIte, Nat.reduceEqDiff, reduceCtorEq, Int.reduceEq, *, g1, hiki, wrap_i64, hd, hsg] | skip) | (refine callW_of pu1 rfl (.inr rfl) ?_) | (refine callW_of pc rfl (.inl rfl) ?_) | (refine callW_of pf rfl (.inl rfl) ?_) | (refine callW_of ps1 rfl (.inl rfl) ?_) | (refine callW_of ps2 rfl (.inl rfl) ?_) | (refine callW_of pu rfl (.inr rfl) ?_) | (refine callW_i pd ?_)
      all_goals rfl
    ·have e1 : sgnR Y s = sgnE Y s := by rw [sgnR, if_neg hY]
     rw [e1] at ps2
     clear e1 hY hmin2
     generalize sgnE Y s = EY at *
     obtain ⟨y, oy⟩ := EY
     simp only at hy64 h2
     have pu := ref07_units_abs (n := l.length) (i := i) (k := k) (x := x) (y := y) (by omega) hlt hk
     have hacc2 := stepD_len (l := l) (b := units2 l.length i x k y) (acc := acc)
     have pd := ref07_derived_abs (b := units2 l.length i x k y) (acc := acc) (nx := 1) (nm := 0) hl (in64_units hx64 hy64) hs (by omega) (by omega)
     clear hy64 hx64 hx0
     generalize units2 l.length i x k y = b at *
     generalize stepD l b acc = D at *
     obtain ⟨D, e⟩ := D
     cases ox
     ·rw [if_pos (by simp), if_pos (by simp)] at h2
      subst h2
      clear pd
      cases oy
      all_goals
       repeat' first | simp (disch := omega) only [go_sem, ↓reduceIte, Nat.reduceEqDiff, reduceCtorEq, Int.reduceEq, g1, hiki, wrap_i64, hd, hsg] | ((with_reducible first | refine condD ?_ ?_ | refine condX ?_ ?_ | refine condW_intro ?_ ?_) <;> intro h <;> first | (exfalso; omega) | simp (disch := omega) only [go_sem, ↓reduceIte, Nat.reduceEqDiff, reduceCtorEq, Int.reduceEq, *, g1, hiki, wrap_i64, hd, hsg] | skip) | (refine callW_of pu1 rfl (.inr rfl) ?_) | (refine callW_of pc rfl (.inl rfl) ?_) | (refine callW_of pf rfl (.inl rfl) ?_) | (refine callW_of ps1 rfl (.inl rfl) ?_) | (refine callW_of ps2 rfl (.inl rfl) ?_)
       all_goals rfl
     ·cases oy
      ·rw [if_pos (by simp), if_pos (by simp)] at h2
       subst h2
       clear pd
       repeat' first | simp (disch := omega) only [go_sem, ↓reduceIte, Nat.reduceEqDiff, reduceCtorEq, Int.reduceEq, g1, hiki, wrap_i64, hd, hsg] | ((with_reducible first | refine condD ?_ ?_ | refine condX ?_ ?_ | refine condW_intro ?_ ?_) <;> intro h <;> first | (exfalso; omega) | simp (disch := omega) only [go_sem, ↓reduceIte, Nat.reduceEqDiff, reduceCtorEq, Int.reduceEq, *, g1, hiki, wrap_i64, hd, hsg] | skip) | (refine callW_of pu1 rfl (.inr rfl) ?_) | (refine callW_of pc rfl (.inl rfl) ?_) | (refine callW_of pf rfl (.inl rfl) ?_) | (refine callW_of ps1 rfl (.inl rfl) ?_) | (refine callW_of ps2 rfl (.inl rfl) ?_)
       all_goals rfl
      ·have hft : ¬ (true && true) = false := by simp
       rw [if_neg hft] at h2
       clear hft
       simp only at h2
       by_cases he : e = 0
       ·subst he
        rw [if_neg (by simp)] at h2
        have HR := Lib.hid h2
        clear h2
        simp only [dX, if_true] at pd
        repeat' first | simp (disch := omega) only [go_sem, ↓reduceIte, Nat.reduceEqDiff, reduceCtorEq, Int.reduceEq, g1, hiki, wrap_i64, hd, hsg] | ((with_reducible first | refine condD ?_ ?_ | refine condX ?_ ?_ | refine condW_intro ?_ ?_) <;> intro h <;> first | (exfalso; omega) | simp (disch := omega) only [go_sem, ↓reduceIte, Nat.reduceEqDiff, reduceCtorEq, Int.reduceEq, *, g1, hiki, wrap_i64, hd, hsg] | skip) | (refine callW_of pu1 rfl (.inr rfl) ?_) | (refine callW_of pc rfl (.inl rfl) ?_) | (refine callW_of pf rfl (.inl rfl) ?_) | (refine callW_of ps1 rfl (.inl rfl) ?_) | (refine callW_of ps2 rfl (.inl rfl) ?_) | (refine callW_of pu rfl (.inr rfl) ?_) | (refine callW_i pd ?_)
        exact ⟨(i + 1, D), [(0, 1)], ⟨hlt, by simp only at hacc2 ⊢; omega, HR⟩, by show _ - _ < _ - _; omega, by simp [Wk, wkF, wkM, wkL, look_cons, renV, renA, renC, renB, rn, clV, clA, clAs, clB, notIn, findB, findB_setB, clA.go]⟩
       ·rw [if_pos he] at h2
        subst h2
        simp only [dX, if_neg he] at pd
        repeat' first | simp (disch := omega) only [go_sem, ↓reduceIte, Nat.reduceEqDiff, reduceCtorEq, Int.reduceEq, g1, hiki, wrap_i64, hd, hsg, he] | ((with_reducible first | refine condD ?_ ?_ | refine condX ?_ ?_ | refine condW_intro ?_ ?_) <;> intro h <;> first | (exfalso; omega) | simp (disch := omega) only [go_sem, ↓reduceIte, Nat.reduceEqDiff, reduceCtorEq, Int.reduceEq, *, g1, hiki, wrap_i64, hd, hsg, he] | skip) | (refine callW_of pu1 rfl (.inr rfl) ?_) | (refine callW_of pc rfl (.inl rfl) ?_) | (refine callW_of pf rfl (.inl rfl) ?_) | (refine callW_of ps1 rfl (.inl rfl) ?_) | (refine callW_of ps2 rfl (.inl rfl) ?_) | (refine callW_of pu rfl (.inr rfl) ?_) | (refine callW_i pd ?_)
        all_goals rfl
 ·have h2 := HR.out
  rw [List.drop_eq_nil_of_le (by simp; omega), runE] at h2
  subst h2
  clear HR
  repeat' first | simp (disch := omega) only [go_sem, ↓reduceIte, Nat.reduceEqDiff, reduceCtorEq, Int.reduceEq] | ((with_reducible first | refine condD ?_ ?_ | refine condX ?_ ?_ | refine condW_intro ?_ ?_) <;> intro h <;> first | (exfalso; omega) | simp (disch := omega) only [go_sem, ↓reduceIte, Nat.reduceEqDiff, reduceCtorEq, Int.reduceEq, *] | skip)
  all_goals rfl

set_option maxHeartbeats 4000000 in
theorem ref07_byPairs_abs {l : List Con} {n : ByteArray} (hl : ∀ c ∈ l, linOk c.1.2 ∧ con64 c) (hs : tot l ≤ 400000000) (h256 : l.length ≤ 256) : PCalls Try.prog n_ref07_byPairs [aCons l, S n] (aDers (pairsS l n)) := by
 refine PCalls.of is_ref07_byPairs (by simp) fun _ => runW_sound ?_
 simp only [c_ref07_byPairs]
 unfold pairsS
 repeat' first | simp (disch := omega) only [go_sem, ↓reduceIte, Nat.reduceEqDiff, reduceCtorEq, Int.reduceEq] | ((with_reducible first | refine condD ?_ ?_ | refine condX ?_ ?_ | refine condW_intro ?_ ?_) <;> intro h <;> first | (exfalso; omega) | simp (disch := omega) only [go_sem, ↓reduceIte, Nat.reduceEqDiff, reduceCtorEq, Int.reduceEq, *] | skip)
 refine AW_adopt 6 3 1 rfl (by decide) ?_
 refine AW_adopt 7 3 1 rfl (by decide) ?_
 refine AW_adopt 8 3 1 rfl (by decide) ?_
 refine AW_loop (fun i : Nat => ⟨[(0, aCons l), (1, S n), (6, .c (.ref 0)), (7, .c (.ref 1)), (8, .c (.ref 2)), (9, I i)], [(2, .arr 3 1 (natR (sgI (-1) n l i))), (1, .arr 3 1 (natR (sgI 1 n l i))), (0, .arr 3 1 (natR (sgI 0 n l i)))], 3, 0⟩)
  (fun i => i ≤ l.length) (fun i => l.length - i) ⟨0, [], Nat.zero_le _, by simp [Wk, wkF, wkM, wkL, look_cons, renV, renA, renC, renB, rn, clV, clA, clAs, clB, notIn, findB, findB_setB, clA.go, sgI]⟩ ?_
 intro i hi
 refine runW_sound ?_
 by_cases hlt : i < l.length
 ·have g1 := map_get (f := cP) hlt
  have hii := conAt_get hlt
  have e0 := sgI_succ (s := 0) (n := n) (l := l) (m := i)
  have e1 := sgI_succ (s := 1) (n := n) (l := l) (m := i)
  have e2 := sgI_succ (s := -1) (n := n) (l := l) (m := i)
  have b0 := sgI_len (s := 0) (n := n) (l := l) (m := i)
  have b1 := sgI_len (s := 1) (n := n) (l := l) (m := i)
  have b2 := sgI_len (s := -1) (n := n) (l := l) (m := i)
  generalize l[i] = z at *
  obtain ⟨⟨Kz, lz⟩, qz⟩ := z
  simp only [cP] at g1
  have pc := ref07_coeff_abs Kz lz n
  have hic : cf (conAt l i).1.2 n = cf lz n := by rw [hii]
  rw [hic] at e0 e1 e2
  clear hic hii
  generalize cf lz n = d at *
  generalize sgI 0 n l i = L0 at *
  generalize sgI 1 n l i = L1 at *
  generalize sgI (-1) n l i = L2 at *
  rcases sgn_cases d with ⟨h, h'⟩ | ⟨h, h'⟩ | ⟨h, h'⟩
  ·rw [h', if_pos rfl] at e0
   rw [h', if_neg (by decide)] at e1 e2
   clear h'
   subst h
   repeat' first | simp (disch := omega) only [go_sem, ↓reduceIte, Nat.reduceEqDiff, reduceCtorEq, Int.reduceEq, g1, wrap_i64] | ((with_reducible first | refine condD ?_ ?_ | refine condX ?_ ?_ | refine condW_intro ?_ ?_) <;> intro h <;> first | (exfalso; omega) | simp (disch := omega) only [go_sem, ↓reduceIte, Nat.reduceEqDiff, reduceCtorEq, Int.reduceEq, *, g1, wrap_i64] | skip) | (refine callW_of pc rfl (.inl rfl) ?_) | (refine app_own rfl (by intro h; cases h) (rowsOk_one rfl) (by simp; omega) (by simp; omega) ?_)
   exact ⟨i + 1, [(0, 3)], hlt, by omega, by simp [Wk, wkF, wkM, wkL, look_cons, renV, renA, renC, renB, rn, clV, clA, clAs, clB, notIn, findB, findB_setB, clA.go, e0, e1, e2]⟩
  ·rw [h', if_pos rfl] at e1
   rw [h', if_neg (by decide)] at e0 e2
   have n0 : ¬ d = 0 := by omega
   clear h'
   repeat' first | simp (disch := omega) only [go_sem, ↓reduceIte, Nat.reduceEqDiff, reduceCtorEq, Int.reduceEq, g1, n0, h, wrap_i64] | ((with_reducible first | refine condD ?_ ?_ | refine condX ?_ ?_ | refine condW_intro ?_ ?_) <;> intro h <;> first | (exfalso; omega) | simp (disch := omega) only [go_sem, ↓reduceIte, Nat.reduceEqDiff, reduceCtorEq, Int.reduceEq, *, g1, n0, h, wrap_i64] | skip) | (refine callW_of pc rfl (.inl rfl) ?_) | (refine app_own rfl (by intro h; cases h) (rowsOk_one rfl) (by simp; omega) (by simp; omega) ?_)
   exact ⟨i + 1, [(1, 3)], hlt, by omega, by simp [Wk, wkF, wkM, wkL, look_cons, renV, renA, renC, renB, rn, clV, clA, clAs, clB, notIn, findB, findB_setB, clA.go, e0, e1, e2]⟩
  ·rw [h', if_pos rfl] at e2
   rw [h', if_neg (by decide)] at e0 e1
   have n0 : ¬ d = 0 := by omega
   have n1 : ¬ d > 0 := by omega
   clear h'
   repeat' first | simp (disch := omega) only [go_sem, ↓reduceIte, Nat.reduceEqDiff, reduceCtorEq, Int.reduceEq, g1, n0, n1, wrap_i64] | ((with_reducible first | refine condD ?_ ?_ | refine condX ?_ ?_ | refine condW_intro ?_ ?_) <;> intro h <;> first | (exfalso; omega) | simp (disch := omega) only [go_sem, ↓reduceIte, Nat.reduceEqDiff, reduceCtorEq, Int.reduceEq, *, g1, n0, n1, wrap_i64] | skip) | (refine callW_of pc rfl (.inl rfl) ?_) | (refine app_own rfl (by intro h; cases h) (rowsOk_one rfl) (by simp; omega) (by simp; omega) ?_)
   exact ⟨i + 1, [(2, 3)], hlt, by omega, by simp [Wk, wkF, wkM, wkL, look_cons, renV, renA, renC, renB, rn, clV, clA, clAs, clB, notIn, findB, findB_setB, clA.go, e0, e1, e2]⟩
 ·obtain rfl : i = l.length := by omega
  have q0 : ∀ j ∈ sgI 0 n l l.length, j < l.length := fun j h => (sgI_lt h).1
  have q1 : ∀ j ∈ sgI 1 n l l.length, j < l.length ∧ (cf (conAt l j).1.2 n).sign = 1 := fun j h => sgI_lt h
  have q2 : ∀ j ∈ sgI (-1) n l l.length, j < l.length ∧ (cf (conAt l j).1.2 n).sign = -1 := fun j h => sgI_lt h
  have b0 := sgI_len (s := 0) (n := n) (l := l) (m := l.length)
  have b1 := sgI_len (s := 1) (n := n) (l := l) (m := l.length)
  have b2 := sgI_len (s := -1) (n := n) (l := l) (m := l.length)
  generalize sgI 0 n l l.length = L0 at *
  generalize sgI 1 n l l.length = L1 at *
  generalize sgI (-1) n l l.length = L2 at *
  have hm : L1.length * L2.length ≤ 65536 := Nat.le_trans (Nat.mul_le_mul (Nat.le_trans b1 h256) (Nat.le_trans b2 h256)) (by decide)
  have hmi : (L1.length : Int) * (L2.length : Int) = ((L1.length * L2.length : Nat) : Int) := by simp
  have w1 : IntKind.wrap .i64 ((L1.length : Int) * (L2.length : Int)) = ((L1.length * L2.length : Nat) : Int) := by rw [hmi]; exact wrap_small (by omega) (by omega)
  unfold pairsT
  generalize L1.length * L2.length = P at *
  have w2 : IntKind.wrap .i64 ((L0.length : Int) + (P : Int)) = ((L0.length + P : Nat) : Int) := by rw [wrap_small (by omega) (by omega)]; omega
  clear hmi hi hlt
  by_cases hbig : 256 < L0.length + P
  ·rw [if_pos hbig]
   have hb : ((L0.length + P : Nat) : Int) > 256 := by omega
   generalize L0.length + P = Z at *
   repeat' first | simp (disch := omega) only [go_sem, ↓reduceIte, Nat.reduceEqDiff, reduceCtorEq, Int.reduceEq, w1, w2, hb] | ((with_reducible first | refine condD ?_ ?_ | refine condX ?_ ?_ | refine condW_intro ?_ ?_) <;> intro h <;> first | (exfalso; omega) | simp (disch := omega) only [go_sem, ↓reduceIte, Nat.reduceEqDiff, reduceCtorEq, Int.reduceEq, *, w1, w2, hb] | skip)
   all_goals rfl
  ·rw [if_neg hbig]
   have hb : ¬ ((L0.length + P : Nat) : Int) > 256 := by omega
   generalize hZ : L0.length + P = Z at *
   obtain ⟨R1, hR1⟩ : ∃ R1, R1 = runE (fun i => stepD l (units2 l.length i 1 i 1)) (L0.drop 0) [] := ⟨_, rfl⟩
   have hR10 : runE (fun i => stepD l (units2 l.length i 1 i 1)) L0 [] = R1 := hR1.symm
   rw [hR10]
   have HR1 := Lib.hid hR1
   clear hR1 hR10
   repeat' first | simp (disch := omega) only [go_sem, ↓reduceIte, Nat.reduceEqDiff, reduceCtorEq, Int.reduceEq, w1, w2, hb] | ((with_reducible first | refine condD ?_ ?_ | refine condX ?_ ?_ | refine condW_intro ?_ ?_) <;> intro h <;> first | (exfalso; omega) | simp (disch := omega) only [go_sem, ↓reduceIte, Nat.reduceEqDiff, reduceCtorEq, Int.reduceEq, *, w1, w2, hb] | skip)
   clear w1 w2 hb
   refine AW_frz1 0 3 1 (natR L0) rfl ?_
   refine AW_frz1 1 3 1 (natR L1) rfl ?_
   refine AW_frz1 2 3 1 (natR L2) rfl ?_
   refine AW_adopt 11 64 4 rfl (by decide) ?_
   refine AW_loop (fun s : Nat × List Row => ⟨[(0, aCons l), (1, S n), (6, .c (.pure (.slice (natR L0)))), (7, .c (.pure (.slice (natR L1)))), (8, .c (.pure (.slice (natR L2)))), (11, .c (.ref 0)), (12, I s.1)], [(0, .arr 64 4 (s.2.map rCells))], 1, 0⟩)
    (fun s => s.1 ≤ L0.length ∧ s.2.length ≤ s.1 ∧ Hid (R1 = runE (fun i => stepD l (units2 l.length i 1 i 1)) (L0.drop s.1) s.2)) (fun s => L0.length - s.1) ⟨(0, []), [(0, 3)], ⟨Nat.zero_le _, Nat.le_refl _, HR1⟩, by simp [Wk, wkF, wkM, wkL, look_cons, renV, renA, renC, renB, rn, clV, clA, clAs, clB, notIn, findB, findB_setB, clA.go, frzF, frzV, frz1, frzM, frzB]⟩ ?_
   clear HR1
   rintro ⟨j, acc⟩ ⟨hj, hacc, HR1⟩
   simp only at hj hacc HR1
   refine runW_sound ?_
   by_cases hlj : j < L0.length
   ·have g0 := map_get (f := fun (i : Nat) => [pI (i : Int)]) hlj
    have hlt := q0 _ (List.getElem_mem hlj)
    have h2 := HR1.out
    rw [list_drop hlj, runE_cons] at h2
    clear HR1
    generalize L0[j] = i at *
    rw [step_unit hl hlt, if_neg (by simp)] at h2
    have g1 := map_get (f := cP) hlt
    have pu := ref07_units_abs (n := l.length) (i := i) (k := i) (x := 1) (y := 1) (by omega) hlt hlt
    generalize units2 l.length i 1 i 1 = b at *
    generalize l[i] = z at *
    obtain ⟨⟨Kz, lz⟩, qz⟩ := z
    simp only [cP] at g1
    simp only at h2
    have HR1 := Lib.hid h2
    clear h2
    repeat' first | simp (disch := omega) only [go_sem, ↓reduceIte, Nat.reduceEqDiff, reduceCtorEq, Int.reduceEq, g0, g1, wrap_i64] | ((with_reducible first | refine condD ?_ ?_ | refine condX ?_ ?_ | refine condW_intro ?_ ?_) <;> intro h <;> first | (exfalso; omega) | simp (disch := omega) only [go_sem, ↓reduceIte, Nat.reduceEqDiff, reduceCtorEq, Int.reduceEq, *, g0, g1, wrap_i64] | skip) | (refine callW_of pu rfl (.inr rfl) ?_) | (refine app_own rfl (by intro h; cases h) (rowsOk_one rfl) (by simp; omega) (by simp; omega) ?_)
    exact ⟨(j + 1, acc ++ [(((Kz, lz), qz), b)]), [(0, 1)], ⟨hlj, by simp; omega, HR1⟩, by show _ - _ < _ - _; omega, by simp [Wk, wkF, wkM, wkL, look_cons, renV, renA, renC, renB, rn, clV, clA, clAs, clB, notIn, findB, findB_setB, clA.go]⟩
   ·have h2 := HR1.out
    rw [List.drop_eq_nil_of_le (by omega), runE] at h2
    subst h2
    clear HR1
    rw [if_neg (by simp)]
    simp only
    obtain ⟨R, hR⟩ : ∃ R, R = runE (fun i => runE (fun k => stepU l n i k) L2) (L1.drop 0) acc := ⟨_, rfl⟩
    have hR0 : runE (fun i => runE (fun k => stepU l n i k) L2) L1 acc = R := hR.symm
    rw [hR0]
    have HR := Lib.hid hR
    clear hR hR0
    have hacc0 : acc.length ≤ 256 := by omega
    repeat' first | simp (disch := omega) only [go_sem, ↓reduceIte, Nat.reduceEqDiff, reduceCtorEq, Int.reduceEq] | ((with_reducible first | refine condD ?_ ?_ | refine condX ?_ ?_ | refine condW_intro ?_ ?_) <;> intro h <;> first | (exfalso; omega) | simp (disch := omega) only [go_sem, ↓reduceIte, Nat.reduceEqDiff, reduceCtorEq, Int.reduceEq, *] | skip)
    clear hj hacc hlj
    refine AW_loop (fun s : Nat × List Row => ⟨[(0, aCons l), (1, S n), (7, .c (.pure (.slice (natR L1)))), (8, .c (.pure (.slice (natR L2)))), (11, .c (.ref 0)), (13, I s.1)], [(0, .arr 64 4 (s.2.map rCells))], 1, 0⟩)
     (fun s => s.1 ≤ L1.length ∧ s.2.length ≤ 256 + s.1 * 256 ∧ Hid (R = runE (fun i => runE (fun k => stepU l n i k) L2) (L1.drop s.1) s.2)) (fun s => L1.length - s.1) ⟨(0, acc), [], ⟨Nat.zero_le _, by simp only; omega, HR⟩, by simp [Wk, wkF, wkM, wkL, look_cons, renV, renA, renC, renB, rn, clV, clA, clAs, clB, notIn, findB, findB_setB, clA.go]⟩ ?_
    clear HR hacc0
    rintro ⟨j, acc⟩ ⟨hj, hacc, HR⟩
    simp only at hj hacc HR
    refine runW_sound ?_
    by_cases hlj : j < L1.length
    ·have gj := map_get (f := fun (i : Nat) => [pI (i : Int)]) hlj
     obtain ⟨hlt, hsg⟩ := q1 _ (List.getElem_mem hlj)
     have h2 := HR.out
     rw [list_drop hlj, runE_cons] at h2
     clear HR
     generalize L1[j] = i at *
     obtain ⟨E, hE⟩ : ∃ E, E = runE (fun k => stepU l n i k) (L2.drop 0) acc := ⟨_, rfl⟩
     have hE0 : runE (fun k => stepU l n i k) L2 acc = E := hE.symm
     rw [hE0] at h2
     have HE := Lib.hid hE
     have HR := Lib.hid h2
     clear hE hE0 h2
     have g1 := map_get (f := cP) hlt
     have hii := conAt_get hlt
     have hci := (hl _ (List.getElem_mem hlt)).2
     generalize l[i] = z at *
     obtain ⟨⟨Ki, li⟩, qi⟩ := z
     simp only [cP] at g1
     have pci := ref07_coeff_abs Ki li n
     have hpi : in64 (cf li n) := cf_64 hci.2 n
     have hici : cf (conAt l i).1.2 n = cf li n := by rw [hii]
     rw [hici] at hsg
     generalize cf li n = ca at *
     clear hii
     have hca : ca ≠ 0 := by intro h; rw [h] at hsg; cases hsg
     repeat' first | simp (disch := omega) only [go_sem, ↓reduceIte, Nat.reduceEqDiff, reduceCtorEq, Int.reduceEq] | ((with_reducible first | refine condD ?_ ?_ | refine condX ?_ ?_ | refine condW_intro ?_ ?_) <;> intro h <;> first | (exfalso; omega) | simp (disch := omega) only [go_sem, ↓reduceIte, Nat.reduceEqDiff, reduceCtorEq, Int.reduceEq, *] | skip)
     refine AW_loop (fun s : Nat × List Row => ⟨[(0, aCons l), (1, S n), (7, .c (.pure (.slice (natR L1)))), (8, .c (.pure (.slice (natR L2)))), (11, .c (.ref 0)), (13, I j), (14, I s.1)], [(0, .arr 64 4 (s.2.map rCells))], 1, 0⟩)
      (fun s => s.1 ≤ L2.length ∧ s.2.length ≤ 256 + j * 256 + s.1 ∧ Hid (E = runE (fun k => stepU l n i k) (L2.drop s.1) s.2)) (fun s => L2.length - s.1) ⟨(0, acc), [], ⟨Nat.zero_le _, by simp only; omega, HE⟩, by simp [Wk, wkF, wkM, wkL, look_cons, renV, renA, renC, renB, rn, clV, clA, clAs, clB, notIn, findB, findB_setB, clA.go]⟩ ?_
     clear HE hacc
     rintro ⟨k, acc⟩ ⟨hk, hacc, HE⟩
     simp only at hk hacc HE
     refine runW_sound ?_
     by_cases hlk : k < L2.length
     ·have gk := map_get (f := fun (i : Nat) => [pI (i : Int)]) hlk
      obtain ⟨hlt2, hsg2⟩ := q2 _ (List.getElem_mem hlk)
      have h2 := HE.out
      rw [list_drop hlk, runE_cons] at h2
      clear HE
      generalize L2[k] = i2 at *
      have g2 := map_get (f := cP) hlt2
      have hii2 := conAt_get hlt2
      have hci2 := (hl _ (List.getElem_mem hlt2)).2
      generalize l[i2] = z at *
      obtain ⟨⟨K2, l2⟩, qq2⟩ := z
      simp only [cP] at g2
      have pc2 := ref07_coeff_abs K2 l2 n
      have hp2 : in64 (cf l2 n) := cf_64 hci2.2 n
      have hici2 : cf (conAt l i2).1.2 n = cf l2 n := by rw [hii2]
      generalize cf l2 n = cb at *
      clear hii2 hsg2
      have pf := ref07_factors_abs hpi hp2 hca
      have hs0 : stepU l n i i2 acc = if (factorsX ca cb).2.2 = false then ([], 3) else stepD l (units2 l.length i (factorsX ca cb).1 i2 (factorsX ca cb).2.1) acc := by rw [stepU, hici, hici2]
      rw [hs0] at h2
      clear hs0 hici2
      unfold factorsX at h2
      simp only at h2
      generalize cb.natAbs / Nat.gcd ca.natAbs cb.natAbs = X at *
      generalize ca.natAbs / Nat.gcd ca.natAbs cb.natAbs = Y at *
      have ps1 := ref07_signed_abs (n := X) false
      have ps2 := ref07_signed_abs (n := Y) false
      rw [sgnR_false] at ps1 ps2
      have hx64 := sgnE_64 X false
      have hy64 := sgnE_64 Y false
      generalize sgnE X false = EX at *
      generalize sgnE Y false = EY at *
      obtain ⟨x, ox⟩ := EX
      obtain ⟨y, oy⟩ := EY
      simp only at hx64 hy64 h2
      have pu := ref07_units_abs (n := l.length) (i := i) (k := i2) (x := x) (y := y) (by omega) hlt hlt2
      have hj256 : j ≤ 256 := by omega
      have pd := ref07_derived_abs (b := units2 l.length i x i2 y) (acc := acc) (nx := 1) (nm := 0) hl (in64_units hx64 hy64) hs (by omega) (by omega)
      have hacc2 := stepD_len (l := l) (b := units2 l.length i x i2 y) (acc := acc)
      clear hx64 hy64 hci hci2
      generalize units2 l.length i x i2 y = b at *
      generalize stepD l b acc = D at *
      obtain ⟨D, e⟩ := D
      by_cases hok : (ox && oy) = false
      ·rw [if_pos hok, if_pos (by simp)] at h2
       subst h2
       have h3 := HR.out
       rw [if_pos (by simp)] at h3
       subst h3
       clear HR pd
       cases ox
       ·repeat' first | simp (disch := omega) only [go_sem, ↓reduceIte, Nat.reduceEqDiff, reduceCtorEq, Int.reduceEq, gj, g1, gk, g2, wrap_i64] | ((with_reducible first | refine condD ?_ ?_ | refine condX ?_ ?_ | refine condW_intro ?_ ?_) <;> intro h <;> first | (exfalso; omega) | simp (disch := omega) only [go_sem, ↓reduceIte, Nat.reduceEqDiff, reduceCtorEq, Int.reduceEq, *, gj, g1, gk, g2, wrap_i64] | skip) | (refine callW_of pci rfl (.inl rfl) ?_) | (refine callW_of pc2 rfl (.inl rfl) ?_) | (refine callW_of pf rfl (.inl rfl) ?_) | (refine callW_of ps1 rfl (.inl rfl) ?_) | (refine callW_of ps2 rfl (.inl rfl) ?_)
        all_goals rfl
       ·cases oy
        ·repeat' first | simp (disch := omega) only [go_sem, ↓reduceIte, Nat.reduceEqDiff, reduceCtorEq, Int.reduceEq, gj, g1, gk, g2, wrap_i64] | ((with_reducible first | refine condD ?_ ?_ | refine condX ?_ ?_ | refine condW_intro ?_ ?_) <;> intro h <;> first | (exfalso; omega) | simp (disch := omega) only [go_sem, ↓reduceIte, Nat.reduceEqDiff, reduceCtorEq, Int.reduceEq, *, gj, g1, gk, g2, wrap_i64] | skip) | (refine callW_of pci rfl (.inl rfl) ?_) | (refine callW_of pc2 rfl (.inl rfl) ?_) | (refine callW_of pf rfl (.inl rfl) ?_) | (refine callW_of ps1 rfl (.inl rfl) ?_) | (refine callW_of ps2 rfl (.inl rfl) ?_)
         all_goals rfl
        ·exact absurd hok (by simp)
      ·rw [if_neg hok] at h2
       have hox : ox = true := by cases ox <;> simp_all
       have hoy : oy = true := by cases oy <;> simp_all
       subst hox
       subst hoy
       clear hok
       simp only at h2 hacc2
       by_cases he : e = 0
       ·subst he
        rw [if_neg (by simp)] at h2
        have HE := Lib.hid h2
        clear h2
        simp only [dX, if_true] at pd
        repeat' first | simp (disch := omega) only [go_sem, ↓reduceIte, Nat.reduceEqDiff, reduceCtorEq, Int.reduceEq, gj, g1, gk, g2, wrap_i64] | ((with_reducible first | refine condD ?_ ?_ | refine condX ?_ ?_ | refine condW_intro ?_ ?_) <;> intro h <;> first | (exfalso; omega) | simp (disch := omega) only [go_sem, ↓reduceIte, Nat.reduceEqDiff, reduceCtorEq, Int.reduceEq, *, gj, g1, gk, g2, wrap_i64] | skip) | (refine callW_of pci rfl (.inl rfl) ?_) | (refine callW_of pc2 rfl (.inl rfl) ?_) | (refine callW_of pf rfl (.inl rfl) ?_) | (refine callW_of ps1 rfl (.inl rfl) ?_) | (refine callW_of ps2 rfl (.inl rfl) ?_) | (refine callW_of pu rfl (.inr rfl) ?_) | (refine callW_i pd ?_)
        exact ⟨(k + 1, D), [(0, 1)], ⟨hlk, by simp only; omega, HE⟩, by show _ - _ < _ - _; omega, by simp [Wk, wkF, wkM, wkL, look_cons, renV, renA, renC, renB, rn, clV, clA, clAs, clB, notIn, findB, findB_setB, clA.go]⟩
       ·rw [if_pos he] at h2
        subst h2
        have h3 := HR.out
        rw [if_pos he] at h3
        subst h3
        clear HR
        simp only [dX, if_neg he] at pd
        repeat' first | simp (disch := omega) only [go_sem, ↓reduceIte, Nat.reduceEqDiff, reduceCtorEq, Int.reduceEq, gj, g1, gk, g2, wrap_i64, he] | ((with_reducible first | refine condD ?_ ?_ | refine condX ?_ ?_ | refine condW_intro ?_ ?_) <;> intro h <;> first | (exfalso; omega) | simp (disch := omega) only [go_sem, ↓reduceIte, Nat.reduceEqDiff, reduceCtorEq, Int.reduceEq, *, gj, g1, gk, g2, wrap_i64, he] | skip) | (refine callW_of pci rfl (.inl rfl) ?_) | (refine callW_of pc2 rfl (.inl rfl) ?_) | (refine callW_of pf rfl (.inl rfl) ?_) | (refine callW_of ps1 rfl (.inl rfl) ?_) | (refine callW_of ps2 rfl (.inl rfl) ?_) | (refine callW_of pu rfl (.inr rfl) ?_) | (refine callW_i pd ?_)
        all_goals rfl
     ·have h2 := HE.out
      rw [List.drop_eq_nil_of_le (by omega), runE] at h2
      subst h2
      have h3 := HR.out
      rw [if_neg (by simp)] at h3
      have HR := Lib.hid h3
      clear HE h3
      repeat' first | simp (disch := omega) only [go_sem, ↓reduceIte, Nat.reduceEqDiff, reduceCtorEq, Int.reduceEq, wrap_i64] | ((with_reducible first | refine condD ?_ ?_ | refine condX ?_ ?_ | refine condW_intro ?_ ?_) <;> intro h <;> first | (exfalso; omega) | simp (disch := omega) only [go_sem, ↓reduceIte, Nat.reduceEqDiff, reduceCtorEq, Int.reduceEq, *, wrap_i64] | skip)
      exact ⟨(j + 1, acc), [], ⟨hlj, by simp only; omega, HR⟩, by show _ - _ < _ - _; omega, by simp [Wk, wkF, wkM, wkL, look_cons, renV, renA, renC, renB, rn, clV, clA, clAs, clB, notIn, findB, findB_setB, clA.go]⟩
    ·have h2 := HR.out
     rw [List.drop_eq_nil_of_le (by omega), runE] at h2
     subst h2
     clear HR
     repeat' first | simp (disch := omega) only [go_sem, ↓reduceIte, Nat.reduceEqDiff, reduceCtorEq, Int.reduceEq] | ((with_reducible first | refine condD ?_ ?_ | refine condX ?_ ?_ | refine condW_intro ?_ ?_) <;> intro h <;> first | (exfalso; omega) | simp (disch := omega) only [go_sem, ↓reduceIte, Nat.reduceEqDiff, reduceCtorEq, Int.reduceEq, *] | skip)
     all_goals rfl

set_option maxHeartbeats 2000000 in
theorem ref07_Eliminate_abs {l : List Con} {n : ByteArray} (hl : ∀ c ∈ l, con64 c) (hs : tot l ≤ 400000000) : PCalls Try.prog n_ref07_Eliminate [aCons l, S n] (aDers (elimS l n)) := by
 refine PCalls.of is_ref07_Eliminate (by simp) fun _ => runW_sound ?_
 simp only [c_ref07_Eliminate]
 unfold elimS
 by_cases h256 : 256 < l.length
 ·rw [if_pos h256]
  have hb : (l.length : Int) > 256 := by omega
  repeat' first | simp (disch := omega) only [go_sem, ↓reduceIte, Nat.reduceEqDiff, reduceCtorEq, Int.reduceEq, hb] | ((with_reducible first | refine condD ?_ ?_ | refine condX ?_ ?_ | refine condW_intro ?_ ?_) <;> intro h <;> first | (exfalso; omega) | simp (disch := omega) only [go_sem, ↓reduceIte, Nat.reduceEqDiff, reduceCtorEq, Int.reduceEq, *, hb] | skip)
  all_goals rfl
 ·rw [if_neg h256]
  have hb : ¬ (l.length : Int) > 256 := by omega
  have pi := base_Name_abs n
  obtain ⟨R, hR⟩ : ∃ R, R = elimT l n := ⟨_, rfl⟩
  rw [← hR]
  have HR := Lib.hid hR
  clear hR
  repeat' first | simp (disch := omega) only [go_sem, ↓reduceIte, Nat.reduceEqDiff, reduceCtorEq, Int.reduceEq, hb] | ((with_reducible first | refine condD ?_ ?_ | refine condX ?_ ?_ | refine condW_intro ?_ ?_) <;> intro h <;> first | (exfalso; omega) | simp (disch := omega) only [go_sem, ↓reduceIte, Nat.reduceEqDiff, reduceCtorEq, Int.reduceEq, *, hb] | skip)
  refine AW_loop (fun i : Nat => ⟨[(0, aCons l), (1, S n), (6, I i)], [], 0, 0⟩) (fun i => i ≤ l.length ∧ Hid (∀ c ∈ l.take i, linOk c.1.2)) (fun i => l.length - i) ⟨0, [], ⟨Nat.zero_le _, Lib.hid (by simp)⟩, by simp [Wk, wkF, wkM, wkL, look_cons, renV, renA, renC, renB, rn, clV, clA, clAs, clB, notIn, findB, findB_setB, clA.go]⟩ ?_
  rintro i ⟨hi, HA⟩
  refine runW_sound ?_
  by_cases hlt : i < l.length
  ·have g1 := map_get (f := cP) hlt
   have pv := base_LinRight_abs l[i].1.1 l[i].1.2
   by_cases hok : linOk l[i].1.2
   ·rw [decide_eq_true hok] at pv
    have HA' : Hid (∀ c ∈ l.take (i + 1), linOk c.1.2) := Lib.hid (by
     rw [List.take_succ_eq_append_getElem hlt]
     intro c hc
     rcases List.mem_append.1 hc with h | h
     ·exact HA.out c h
     ·rw [List.mem_singleton.1 h]; exact hok)
    clear HA hok
    generalize l[i] = z at *
    obtain ⟨⟨Kz, lz⟩, qz⟩ := z
    simp only [cP] at g1
    simp only at pv
    repeat' first | simp (disch := omega) only [go_sem, ↓reduceIte, Nat.reduceEqDiff, reduceCtorEq, Int.reduceEq, g1, wrap_i64] | ((with_reducible first | refine condD ?_ ?_ | refine condX ?_ ?_ | refine condW_intro ?_ ?_) <;> intro h <;> first | (exfalso; omega) | simp (disch := omega) only [go_sem, ↓reduceIte, Nat.reduceEqDiff, reduceCtorEq, Int.reduceEq, *, g1, wrap_i64] | skip) | (refine callW_of pv rfl (.inl rfl) ?_)
    exact ⟨i + 1, [], ⟨hlt, HA'⟩, by omega, by simp [Wk, wkF, wkM, wkL, look_cons, renV, renA, renC, renB, rn, clV, clA, clAs, clB, notIn, findB, findB_setB, clA.go]⟩
   ·rw [decide_eq_false hok] at pv
    have h2 := HR.out
    rw [elimT, if_pos (.inl fun h => hok (h _ (List.getElem_mem hlt)))] at h2
    subst h2
    clear HA HR hok
    generalize l[i] = z at *
    obtain ⟨⟨Kz, lz⟩, qz⟩ := z
    simp only [cP] at g1
    simp only at pv
    repeat' first | simp (disch := omega) only [go_sem, ↓reduceIte, Nat.reduceEqDiff, reduceCtorEq, Int.reduceEq, g1, wrap_i64] | ((with_reducible first | refine condD ?_ ?_ | refine condX ?_ ?_ | refine condW_intro ?_ ?_) <;> intro h <;> first | (exfalso; omega) | simp (disch := omega) only [go_sem, ↓reduceIte, Nat.reduceEqDiff, reduceCtorEq, Int.reduceEq, *, g1, wrap_i64] | skip) | (refine callW_of pv rfl (.inl rfl) ?_)
    all_goals rfl
  ·have hall := HA.out
   rw [List.take_of_length_le (by omega)] at hall
   clear HA
   by_cases hn : idOk n
   ·have h3 := HR.out
    rw [elimT] at h3
    clear HR
    rw [decide_eq_true hn] at pi
    rw [if_neg (by rintro (h | h); exact h hall; exact h hn)] at h3
    have hlc : ∀ c ∈ l, linOk c.1.2 ∧ con64 c := fun c hc => ⟨hall c hc, hl c hc⟩
    have H3 := Lib.hid h3
    have HLC := Lib.hid hlc
    clear h3 hlc hall hn hl
    repeat' first | simp (disch := omega) only [go_sem, ↓reduceIte, Nat.reduceEqDiff, reduceCtorEq, Int.reduceEq] | ((with_reducible first | refine condD ?_ ?_ | refine condX ?_ ?_ | refine condW_intro ?_ ?_) <;> intro h <;> first | (exfalso; omega) | simp (disch := omega) only [go_sem, ↓reduceIte, Nat.reduceEqDiff, reduceCtorEq, Int.reduceEq, *] | skip) | (refine callW_of pi rfl (.inl rfl) ?_)
    clear pi hlt hi
    refine AW_loop (fun i : Nat => ⟨[(0, aCons l), (1, S n), (7, I i)], [], 0, 0⟩) (fun i => i ≤ l.length ∧ Hid (eqIx n 0 l = eqIx n i (l.drop i))) (fun i => l.length - i) ⟨0, [], ⟨Nat.zero_le _, Lib.hid rfl⟩, by simp [Wk, wkF, wkM, wkL, look_cons, renV, renA, renC, renB, rn, clV, clA, clAs, clB, notIn, findB, findB_setB, clA.go]⟩ ?_
    rintro i ⟨hi, HE⟩
    refine runW_sound ?_
    by_cases hlt : i < l.length
    ·have g1 := map_get (f := cP) hlt
     have h2 := HE.out
     rw [eqIx_drop hlt] at h2
     by_cases hc : l[i].2 = true ∧ cf l[i].1.2 n ≠ 0
     ·rw [if_pos hc] at h2
      have h3 := H3.out
      rw [h2] at h3
      simp only at h3
      have ps := ref07_byEquation_abs (n := n) HLC.out hs (by omega) hlt hc.1 hc.2
      subst h3
      clear h2 HE H3 HLC
      generalize solveS l n i = D at *
      generalize l[i] = z at *
      obtain ⟨⟨Kz, lz⟩, qz⟩ := z
      simp only [cP] at g1
      have pc := ref07_coeff_abs Kz lz n
      obtain ⟨hq, hd⟩ := hc
      simp only at hq hd
      subst hq
      generalize cf lz n = d at *
      repeat' first | simp (disch := omega) only [go_sem, ↓reduceIte, Nat.reduceEqDiff, reduceCtorEq, Int.reduceEq, g1, hd, wrap_i64] | ((with_reducible first | refine condD ?_ ?_ | refine condX ?_ ?_ | refine condW_intro ?_ ?_) <;> intro h <;> first | (exfalso; omega) | simp (disch := omega) only [go_sem, ↓reduceIte, Nat.reduceEqDiff, reduceCtorEq, Int.reduceEq, *, g1, hd, wrap_i64] | skip) | (refine callW_of pc rfl (.inl rfl) ?_) | (refine callW_of ps rfl (.inr rfl) ?_)
      all_goals rfl
     ·rw [if_neg hc] at h2
      have HE := Lib.hid h2
      clear h2
      generalize l[i] = z at *
      obtain ⟨⟨Kz, lz⟩, qz⟩ := z
      simp only [cP] at g1
      have pc := ref07_coeff_abs Kz lz n
      simp only at hc
      cases qz
      ·clear pc hc
       repeat' first | simp (disch := omega) only [go_sem, ↓reduceIte, Nat.reduceEqDiff, reduceCtorEq, Int.reduceEq, g1, wrap_i64] | ((with_reducible first | refine condD ?_ ?_ | refine condX ?_ ?_ | refine condW_intro ?_ ?_) <;> intro h <;> first | (exfalso; omega) | simp (disch := omega) only [go_sem, ↓reduceIte, Nat.reduceEqDiff, reduceCtorEq, Int.reduceEq, *, g1, wrap_i64] | skip)
       exact ⟨i + 1, [], ⟨hlt, HE⟩, by omega, by simp [Wk, wkF, wkM, wkL, look_cons, renV, renA, renC, renB, rn, clV, clA, clAs, clB, notIn, findB, findB_setB, clA.go]⟩
      ·have hd : cf lz n = 0 := Classical.byContradiction fun h => hc ⟨rfl, h⟩
       rw [hd] at pc
       clear hc hd
       repeat' first | simp (disch := omega) only [go_sem, ↓reduceIte, Nat.reduceEqDiff, reduceCtorEq, Int.reduceEq, g1, wrap_i64] | ((with_reducible first | refine condD ?_ ?_ | refine condX ?_ ?_ | refine condW_intro ?_ ?_) <;> intro h <;> first | (exfalso; omega) | simp (disch := omega) only [go_sem, ↓reduceIte, Nat.reduceEqDiff, reduceCtorEq, Int.reduceEq, *, g1, wrap_i64] | skip) | (refine callW_of pc rfl (.inl rfl) ?_)
       exact ⟨i + 1, [], ⟨hlt, HE⟩, by omega, by simp [Wk, wkF, wkM, wkL, look_cons, renV, renA, renC, renB, rn, clV, clA, clAs, clB, notIn, findB, findB_setB, clA.go]⟩
    ·have h2 := HE.out
     rw [List.drop_eq_nil_of_le (by omega), eqIx] at h2
     have h3 := H3.out
     rw [h2] at h3
     simp only at h3
     have ps := ref07_byPairs_abs (n := n) HLC.out hs (by omega)
     subst h3
     clear h2 HE H3 HLC
     generalize pairsS l n = D at *
     repeat' first | simp (disch := omega) only [go_sem, ↓reduceIte, Nat.reduceEqDiff, reduceCtorEq, Int.reduceEq] | ((with_reducible first | refine condD ?_ ?_ | refine condX ?_ ?_ | refine condW_intro ?_ ?_) <;> intro h <;> first | (exfalso; omega) | simp (disch := omega) only [go_sem, ↓reduceIte, Nat.reduceEqDiff, reduceCtorEq, Int.reduceEq, *] | skip) | (refine callW_of ps rfl (.inr rfl) ?_)
     all_goals rfl
   ·have h3 := HR.out
    rw [elimT] at h3
    clear HR
    rw [decide_eq_false hn] at pi
    rw [if_pos (.inr hn)] at h3
    subst h3
    clear hall hn
    repeat' first | simp (disch := omega) only [go_sem, ↓reduceIte, Nat.reduceEqDiff, reduceCtorEq, Int.reduceEq] | ((with_reducible first | refine condD ?_ ?_ | refine condX ?_ ?_ | refine condW_intro ?_ ?_) <;> intro h <;> first | (exfalso; omega) | simp (disch := omega) only [go_sem, ↓reduceIte, Nat.reduceEqDiff, reduceCtorEq, Int.reduceEq, *] | skip) | (refine callW_of pi rfl (.inl rfl) ?_)
    all_goals rfl
end Go.Proofs.Ytnddmjhpplopbaa
