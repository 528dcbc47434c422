/- Walks by the abstract machine: a variable is eliminated by pairs. -/
import Derived.Test.YtnddmjhpplopbaaV07u
set_option linter.unusedVariables false
set_option linter.unusedSimpArgs false
set_option maxRecDepth 20000
namespace Go.Proofs.Ytnddmjhpplopbaa
open Go.Abs Go.RowKit

set_option maxHeartbeats 4000000 in
theorem elim_combine_abs {T : List Con} {n : ByteArray} {fuel : Int} {r nx : Nat} {rows : List Row} {F : List (Nat × Box)} (hT : ∀ z ∈ rows, RowT T z) (ht : tot T ≤ 400000000) (hTl : T.length ≤ 1000000000) (hrl : rows.length ≤ 256)
  (hf0 : 0 ≤ fuel) (hf1 : fuel ≤ 2000000) (hr : 0 < r) (hrn : r < nx) (hF : frOk nx [0, r] F) :
  ICalls Try.prog n_elim_system_combine [.c (.ptr 0 0), S n] (sysM r rows fuel F) nx (packV [I (combS2 n rows fuel).2.2]) (sysM nx (combS2 n rows fuel).1 (combS2 n rows fuel).2.1 F) (nx + 1) := by
 refine ICalls.ofZ is_elim_system_combine (by simp) fun _ => runW_sound ?_
 have h0n : 0 < nx := by omega
 simp only [c_elim_system_combine]
 unfold combS2
 obtain ⟨R, hR⟩ : ∃ R, R = runF (stepR n) (rows.drop 0) [] fuel := ⟨_, rfl⟩
 have hR0 : runF (stepR n) rows [] fuel = R := hR.symm
 rw [hR0]
 have HR := Lib.hid hR
 clear hR hR0
 repeat' first | simp (disch := omega) only [go_sem, ↓reduceIte, Nat.reduceEqDiff, reduceCtorEq, Int.reduceEq, ifN, ifNP] | ((with_reducible first | refine condD ?_ ?_ | refine condX ?_ ?_ | refine condW_intro ?_ ?_) <;> intro h <;> first | (exfalso; omega) | simp (disch := omega) only [go_sem, ↓reduceIte, Nat.reduceEqDiff, reduceCtorEq, Int.reduceEq, *, ifN, ifNP] | skip)
 refine AW_adoptM 0 0 64 4 [.nils, .pure (pI fuel)] (by simp (disch := omega) [findB, ifN]) rfl (by decide) ?_
 refine AW_frz1 r 64 4 (rows.map rCells) (by simp (disch := omega) [findB, findB_setB, ifN]) ?_
 have hfz := hF.frz (n := r) (rows := rows.map rCells) (.inl (by simp))
 refine AW_mem (mem' := sysM nx [] fuel F) (by simp (disch := omega) [frzM, frzB, frz1, setB, ifN, hfz]) ?_
 refine AW_loop (fun s : Nat × List Row => ⟨[(0, .c (.ptr 0 0)), (1, S n), (5, aRows rows), (28, aRows rows), (29, I rows.length), (30, I s.1)], sysM nx s.2 fuel F, nx + 1, nx⟩)
  (fun s => s.1 ≤ rows.length ∧ (∀ z ∈ s.2, RowT T z) ∧ s.2.length ≤ 256 ∧ Hid (R = runF (stepR n) (rows.drop s.1) s.2 fuel)) (fun s => rows.length - s.1) ⟨(0, []), [], ⟨Nat.zero_le _, by simp, by simp, HR⟩, ?_⟩ ?_
 ·refine Wk_intro (by simp (disch := omega) [Wk, wkF, wkM, wkL, look_cons, renV, renA, renC, renB, rn, clV, clA, clAs, clB, notIn, findB, findB_setB, clA.go, ifN, frzF, frzV, frz1]) ?_ rfl (by simp; try omega) (by simp [wkL]; try omega)
  repeat' first | exact hF.wk (by simp [wkL]; try omega) (by simp; try omega) (by intro n hn; simp (disch := omega) [rn, ifN] at hn ⊢; omega) (by intro nm bx h1 h2 h3; simp only [notIn] at h2; simp only [findB, findB_setB]; (repeat (refine (ifN (by omega)).trans ?_)); exact h3) | refine wkM_cons ?_ ?_ ?_ ?_ ?_ | (simp (disch := omega) [Wk, wkF, wkM, wkL, look_cons, renV, renA, renC, renB, rn, clV, clA, clAs, clB, notIn, findB, findB_setB, clA.go, ifN, frzF, frzV, frz1] <;> omega) | omega
 clear HR
 rintro ⟨k, acc⟩ ⟨hk, hacc, hal, HR⟩
 simp only at hk hacc hal HR
 refine runW_sound ?_
 by_cases hlt : k < rows.length
 ·have g1 := map_get (f := rCells) hlt
  have hz := hT _ (List.getElem_mem hlt)
  have h2 := HR.out
  rw [List.drop_eq_getElem_cons hlt, runF_cons] at h2
  have hst := stepR_ok (n := n) hz acc fuel hacc hal
  clear HR
  generalize rows[k] = z at *
  obtain ⟨⟨⟨K', l'⟩, q'⟩, b'⟩ := z
  simp only [rCells] at g1
  have pc := elim_coefficient_abs ((K', l'), q') n
  simp only at pc
  by_cases h0 : cf l' n = 0
  ·have hs : stepR n (((K', l'), q'), b') acc fuel = ((addS2 acc (((K', l'), q'), b')).1, fuel, (addS2 acc (((K', l'), q'), b')).2) := by rw [stepR, if_pos h0]
   rw [hs] at h2 hst
   rw [h0] at pc
   have pa := elim_add_abs (d := (((K', l'), q'), b')) (fuel := fuel) (r := nx) (nx := nx + 2) (rows := acc) (F := (nx + 1, .var (rowC (((K', l'), q'), b'))) :: F) hal (by omega) (by omega) (fr_cons hF (by omega) (by omega) (by omega) rfl (.inr (Nat.le_refl _)) (by omega))
   clear hs h0
   generalize addS2 acc (((K', l'), q'), b') = A at *
   obtain ⟨A, ae⟩ := A
   simp only at pa h2 hst
   by_cases hae : ae = 0
   ·subst hae
    rw [if_neg (by simp)] at h2
    have HR := Lib.hid h2
    have hA1 := hst.all
    have hA2 := hst.len
    clear h2 hst hacc
    simp only at hA1 hA2
    repeat' first | simp (disch := omega) only [go_sem, ↓reduceIte, Nat.reduceEqDiff, reduceCtorEq, Int.reduceEq, g1, ifN, ifNP, wrap_i64] | ((with_reducible first | refine condD ?_ ?_ | refine condX ?_ ?_ | refine condW_intro ?_ ?_) <;> intro h <;> first | (exfalso; omega) | simp (disch := omega) only [go_sem, ↓reduceIte, Nat.reduceEqDiff, reduceCtorEq, Int.reduceEq, *, g1, ifN, ifNP, wrap_i64] | skip) | (refine callW_of pc rfl (.inl rfl) ?_) | (refine callW_i (pa.perm (fun nm => by first | rfl | (simp only [findB, findB_setB]; done) | (simp only [findB, findB_setB]; (repeat' split) <;> first | rfl | omega))) ?_)
    refine ⟨(k + 1, A), [(nx, nx + 2)], ⟨hlt, hA1, hA2, HR⟩, by show _ - _ < _ - _; omega, ?_⟩
    refine Wk_intro (by simp (disch := omega) [Wk, wkF, wkM, wkL, look_cons, renV, renA, renC, renB, rn, clV, clA, clAs, clB, notIn, findB, findB_setB, clA.go, ifN, h0n]) ?_ rfl (by simp; try omega) (by simp [wkL]; try omega)
    repeat' first | exact hF.wk (by simp [wkL]; try omega) (by simp; try omega) (by intro n hn; simp (disch := omega) [rn, ifN] at hn ⊢; omega) (by intro nm bx h1 h2 h3; simp only [notIn] at h2; simp only [findB, findB_setB]; (repeat (refine (ifN (by omega)).trans ?_)); exact h3) | refine wkM_cons ?_ ?_ ?_ ?_ ?_ | (simp (disch := omega) [Wk, wkF, wkM, wkL, look_cons, renV, renA, renC, renB, rn, clV, clA, clAs, clB, notIn, findB, findB_setB, clA.go, ifN, h0n] <;> omega) | omega
   ·rw [if_pos hae] at h2
    subst h2
    rw [if_pos hae]
    clear hst hacc
    repeat' first | simp (disch := omega) only [go_sem, ↓reduceIte, Nat.reduceEqDiff, reduceCtorEq, Int.reduceEq, g1, ifN, ifNP, wrap_i64, hae] | ((with_reducible first | refine condD ?_ ?_ | refine condX ?_ ?_ | refine condW_intro ?_ ?_) <;> intro h <;> first | (exfalso; omega) | simp (disch := omega) only [go_sem, ↓reduceIte, Nat.reduceEqDiff, reduceCtorEq, Int.reduceEq, *, g1, ifN, ifNP, wrap_i64, hae] | skip) | (refine callW_of pc rfl (.inl rfl) ?_) | (refine callW_i (pa.perm (fun nm => by first | rfl | (simp only [findB, findB_setB]; done) | (simp only [findB, findB_setB]; (repeat' split) <;> first | rfl | omega))) ?_)
    refine ⟨[], [(nx, nx + 2)], ?_⟩
    simp (disch := omega) only [go_sem, ↓reduceIte, Nat.reduceEqDiff, reduceCtorEq, Int.reduceEq, frzLA, ifN, ifNP]
    refine Wk_intro (by simp (disch := omega) [Wk, wkF, wkM, wkL, look_cons, renV, renA, renC, renB, rn, clV, clA, clAs, clB, notIn, findB, findB_setB, clA.go, ifN, h0n]) ?_ rfl (by simp; try omega) (by simp [wkL]; try omega)
    repeat' first | exact hF.wk (by simp [wkL]; try omega) (by simp; try omega) (by intro n hn; simp (disch := omega) [rn, ifN] at hn ⊢; omega) (by intro nm bx h1 h2 h3; simp only [notIn] at h2; simp only [findB, findB_setB]; (repeat (refine (ifN (by omega)).trans ?_)); exact h3) | refine wkM_cons ?_ ?_ ?_ ?_ ?_ | (simp (disch := omega) [Wk, wkF, wkM, wkL, look_cons, renV, renA, renC, renB, rn, clV, clA, clAs, clB, notIn, findB, findB_setB, clA.go, ifN, h0n] <;> omega) | omega
  ·have hs : stepR n (((K', l'), q'), b') acc fuel = (acc, fuel, 0) := by rw [stepR, if_neg h0]
   rw [hs] at h2
   rw [if_neg (by simp)] at h2
   have HR := Lib.hid h2
   clear h2 hs hst
   generalize cf l' n = d at *
   repeat' first | simp (disch := omega) only [go_sem, ↓reduceIte, Nat.reduceEqDiff, reduceCtorEq, Int.reduceEq, g1, ifN, ifNP, wrap_i64, h0] | ((with_reducible first | refine condD ?_ ?_ | refine condX ?_ ?_ | refine condW_intro ?_ ?_) <;> intro h <;> first | (exfalso; omega) | simp (disch := omega) only [go_sem, ↓reduceIte, Nat.reduceEqDiff, reduceCtorEq, Int.reduceEq, *, g1, ifN, ifNP, wrap_i64, h0] | skip) | (refine callW_of pc rfl (.inl rfl) ?_)
   refine ⟨(k + 1, acc), [], ⟨hlt, hacc, hal, HR⟩, by show _ - _ < _ - _; omega, ?_⟩
   refine Wk_intro (by simp (disch := omega) [Wk, wkF, wkM, wkL, look_cons, renV, renA, renC, renB, rn, clV, clA, clAs, clB, notIn, findB, findB_setB, clA.go, ifN, h0n]) ?_ rfl (by simp; try omega) (by simp [wkL]; try omega)
   repeat' first | exact hF.wk (by simp [wkL]; try omega) (by simp; try omega) (by intro n hn; simp (disch := omega) [rn, ifN] at hn ⊢; omega) (by intro nm bx h1 h2 h3; simp only [notIn] at h2; simp only [findB, findB_setB]; (repeat (refine (ifN (by omega)).trans ?_)); exact h3) | refine wkM_cons ?_ ?_ ?_ ?_ ?_ | (simp (disch := omega) [Wk, wkF, wkM, wkL, look_cons, renV, renA, renC, renB, rn, clV, clA, clAs, clB, notIn, findB, findB_setB, clA.go, ifN, h0n] <;> omega) | omega
 ·have h2 := HR.out
  rw [List.drop_eq_nil_of_le (by omega)] at h2
  simp only [runF] at h2
  subst h2
  rw [if_neg (by simp)]
  simp only
  clear HR
  obtain ⟨R, hR⟩ : ∃ R, R = runF (fun a => runF (stepP n a) rows) (rows.drop 0) acc fuel := ⟨_, rfl⟩
  have hR0 : runF (fun a => runF (stepP n a) rows) rows acc fuel = R := hR.symm
  rw [hR0]
  have HR := Lib.hid hR
  clear hR hR0
  repeat' first | simp (disch := omega) only [go_sem, ↓reduceIte, Nat.reduceEqDiff, reduceCtorEq, Int.reduceEq, ifN, ifNP] | ((with_reducible first | refine condD ?_ ?_ | refine condX ?_ ?_ | refine condW_intro ?_ ?_) <;> intro h <;> first | (exfalso; omega) | simp (disch := omega) only [go_sem, ↓reduceIte, Nat.reduceEqDiff, reduceCtorEq, Int.reduceEq, *, ifN, ifNP] | skip)
  clear hk hlt
  refine AW_loop (fun s : Nat × List Row × Int => ⟨[(0, .c (.ptr 0 0)), (1, S n), (5, aRows rows), (46, aRows rows), (47, I rows.length), (48, I s.1)], sysM nx s.2.1 s.2.2 F, nx + 1, nx⟩)
   (fun s => s.1 ≤ rows.length ∧ (∀ z ∈ s.2.1, RowT T z) ∧ s.2.1.length ≤ 256 ∧ 0 ≤ s.2.2 ∧ s.2.2 ≤ fuel ∧ Hid (R = runF (fun a => runF (stepP n a) rows) (rows.drop s.1) s.2.1 s.2.2)) (fun s => rows.length - s.1) ⟨(0, acc, fuel), [], ⟨Nat.zero_le _, hacc, hal, hf0, Int.le_refl _, HR⟩, ?_⟩ ?_
  ·refine Wk_intro (by simp (disch := omega) [Wk, wkF, wkM, wkL, look_cons, renV, renA, renC, renB, rn, clV, clA, clAs, clB, notIn, findB, findB_setB, clA.go, ifN, h0n]) ?_ rfl (by simp; try omega) (by simp [wkL]; try omega)
   repeat' first | exact hF.wk (by simp [wkL]; try omega) (by simp; try omega) (by intro n hn; simp (disch := omega) [rn, ifN] at hn ⊢; omega) (by intro nm bx h1 h2 h3; simp only [notIn] at h2; simp only [findB, findB_setB]; (repeat (refine (ifN (by omega)).trans ?_)); exact h3) | refine wkM_cons ?_ ?_ ?_ ?_ ?_ | (simp (disch := omega) [Wk, wkF, wkM, wkL, look_cons, renV, renA, renC, renB, rn, clV, clA, clAs, clB, notIn, findB, findB_setB, clA.go, ifN, h0n] <;> omega) | omega
  clear HR hacc hal
  rintro ⟨k, acc, fu⟩ ⟨hk, hacc, hal, hfu0, hfu1, HR⟩
  simp only at hk hacc hal hfu0 hfu1 HR
  refine runW_sound ?_
  by_cases hlt : k < rows.length
  ·have ga := map_get (f := rCells) hlt
   have hTa := hT _ (List.getElem_mem hlt)
   have h2 := HR.out
   rw [List.drop_eq_getElem_cons hlt, runF_cons] at h2
   have hsa := hTa.short
   clear HR
   generalize rows[k] = a at *
   obtain ⟨⟨⟨Ka, la⟩, qa⟩, ba⟩ := a
   simp only [rCells] at ga
   have pca := elim_coefficient_abs ((Ka, la), qa) n
   have hca : in64 (cf la n) := cf_64 hTa.r64.1.2 n
   simp only at pca hsa
   obtain ⟨E, hE⟩ : ∃ E, E = runF (stepP n (((Ka, la), qa), ba)) (rows.drop 0) acc fu := ⟨_, rfl⟩
   have hE0 : runF (stepP n (((Ka, la), qa), ba)) rows acc fu = E := hE.symm
   rw [hE0] at h2
   have HE := Lib.hid hE
   have HR := Lib.hid h2
   clear hE hE0 h2
   repeat' first | simp (disch := omega) only [go_sem, ↓reduceIte, Nat.reduceEqDiff, reduceCtorEq, Int.reduceEq, ga, ifN, ifNP] | ((with_reducible first | refine condD ?_ ?_ | refine condX ?_ ?_ | refine condW_intro ?_ ?_) <;> intro h <;> first | (exfalso; omega) | simp (disch := omega) only [go_sem, ↓reduceIte, Nat.reduceEqDiff, reduceCtorEq, Int.reduceEq, *, ga, ifN, ifNP] | skip)
   refine AW_loop (fun s : Nat × List Row × Int => ⟨[(0, .c (.ptr 0 0)), (1, S n), (5, aRows rows), (10, .c (.ptr (nx + 1) 0)), (46, aRows rows), (47, I rows.length), (48, I k), (52, aRows rows), (53, I rows.length), (54, I s.1)], (nx, .arr 64 4 (s.2.1.map rCells)) :: (0, .var [.ref nx, .pure (pI s.2.2)]) :: (nx + 1, .var (rowC (((Ka, la), qa), ba))) :: F, nx + 2, nx⟩)
    (fun s => s.1 ≤ rows.length ∧ (∀ z ∈ s.2.1, RowT T z) ∧ s.2.1.length ≤ 256 ∧ 0 ≤ s.2.2 ∧ s.2.2 ≤ fuel ∧ Hid (E = runF (stepP n (((Ka, la), qa), ba)) (rows.drop s.1) s.2.1 s.2.2)) (fun s => rows.length - s.1) ⟨(0, acc, fu), [], ⟨Nat.zero_le _, hacc, hal, hfu0, hfu1, HE⟩, ?_⟩ ?_
   ·refine Wk_intro (by simp (disch := omega) [Wk, wkF, wkM, wkL, look_cons, renV, renA, renC, renB, rn, clV, clA, clAs, clB, notIn, findB, findB_setB, clA.go, ifN, h0n]) ?_ rfl (by simp; try omega) (by simp [wkL]; try omega)
    repeat' first | exact hF.wk (by simp [wkL]; try omega) (by simp; try omega) (by intro n hn; simp (disch := omega) [rn, ifN] at hn ⊢; omega) (by intro nm bx h1 h2 h3; simp only [notIn] at h2; simp only [findB, findB_setB]; (repeat (refine (ifN (by omega)).trans ?_)); exact h3) | refine wkM_cons ?_ ?_ ?_ ?_ ?_ | (simp (disch := omega) [Wk, wkF, wkM, wkL, look_cons, renV, renA, renC, renB, rn, clV, clA, clAs, clB, notIn, findB, findB_setB, clA.go, ifN, h0n] <;> omega) | omega
   clear HE hacc hal hfu0 hfu1
   rintro ⟨j, acc, fu⟩ ⟨hj, hacc, hal, hfu0, hfu1, HE⟩
   simp only at hj hacc hal hfu0 hfu1 HE
   refine runW_sound ?_
   by_cases hltj : j < rows.length
   ·have g1 := map_get (f := rCells) hltj
    have hz := hT _ (List.getElem_mem hltj)
    have h2 := HE.out
    rw [List.drop_eq_getElem_cons hltj, runF_cons] at h2
    have hst := stepP_ok (n := n) hTa hz acc fu hacc hal
    have hzs := hz.short
    clear HE
    generalize rows[j] = z at *
    obtain ⟨⟨⟨K', l'⟩, q'⟩, b'⟩ := z
    simp only [rCells] at g1
    have pc := elim_coefficient_abs ((K', l'), q') n
    have hc : in64 (cf l' n) := cf_64 hz.r64.1.2 n
    simp only at pc hzs
    have hs0 : stepP n (((Ka, la), qa), ba) (((K', l'), q'), b') acc fu = if cf la n ≤ 0 ∨ 0 ≤ cf l' n then (acc, fu, 0) else
     if (factorsX (cf la n) (cf l' n)).2.2 = false then (acc, fu, 3) else
     mergeAdd (((Ka, la), qa), ba) (((K', l'), q'), b') (factorsX (cf la n) (cf l' n)).1 (factorsX (cf la n) (cf l' n)).2.1 acc fu := rfl
    rw [hs0] at h2 hst
    clear hs0
    have pk : ¬ cf la n = 0 → _ := fun h => elim_factorsX_abs hca hc h
    have hx64 : in64 (factorsX (cf la n) (cf l' n)).1 := sgnE_64 _ _
    have hy64 : in64 (factorsX (cf la n) (cf l' n)).2.1 := sgnE_64 _ _
    generalize factorsX (cf la n) (cf l' n) = X at *
    obtain ⟨x, y, ok⟩ := X
    generalize cf la n = ca at *
    generalize cf l' n = cb at *
    simp only at h2 hst hx64 hy64 pk
    by_cases h0 : ca ≤ 0 ∨ 0 ≤ cb
    ·rw [if_pos h0, if_neg (by simp)] at h2
     have HE := Lib.hid h2
     clear h2 hst pk
     rcases h0 with h0 | h0
     ·repeat' first | simp (disch := omega) only [go_sem, ↓reduceIte, Nat.reduceEqDiff, reduceCtorEq, Int.reduceEq, g1, ifN, ifNP, wrap_i64, h0] | ((with_reducible first | refine condD ?_ ?_ | refine condX ?_ ?_ | refine condW_intro ?_ ?_) <;> intro h <;> first | (exfalso; omega) | simp (disch := omega) only [go_sem, ↓reduceIte, Nat.reduceEqDiff, reduceCtorEq, Int.reduceEq, *, g1, ifN, ifNP, wrap_i64, h0] | skip) | (refine callW_of pca rfl (.inl rfl) ?_) | (refine callW_of pc rfl (.inl rfl) ?_)
      all_goals
       refine ⟨(j + 1, acc, fu), [], ⟨hltj, hacc, hal, hfu0, hfu1, HE⟩, by show _ - _ < _ - _; omega, ?_⟩
       refine Wk_intro (by simp (disch := omega) [Wk, wkF, wkM, wkL, look_cons, renV, renA, renC, renB, rn, clV, clA, clAs, clB, notIn, findB, findB_setB, clA.go, ifN, h0n]) ?_ rfl (by simp; try omega) (by simp [wkL]; try omega)
       repeat' first | exact hF.wk (by simp [wkL]; try omega) (by simp; try omega) (by intro n hn; simp (disch := omega) [rn, ifN] at hn ⊢; omega) (by intro nm bx h1 h2 h3; simp only [notIn] at h2; simp only [findB, findB_setB]; (repeat (refine (ifN (by omega)).trans ?_)); exact h3) | refine wkM_cons ?_ ?_ ?_ ?_ ?_ | (simp (disch := omega) [Wk, wkF, wkM, wkL, look_cons, renV, renA, renC, renB, rn, clV, clA, clAs, clB, notIn, findB, findB_setB, clA.go, ifN, h0n] <;> omega) | omega
     ·repeat' first | simp (disch := omega) only [go_sem, ↓reduceIte, Nat.reduceEqDiff, reduceCtorEq, Int.reduceEq, g1, ifN, ifNP, wrap_i64, h0] | ((with_reducible first | refine condD ?_ ?_ | refine condX ?_ ?_ | refine condW_intro ?_ ?_) <;> intro h <;> first | (exfalso; omega) | simp (disch := omega) only [go_sem, ↓reduceIte, Nat.reduceEqDiff, reduceCtorEq, Int.reduceEq, *, g1, ifN, ifNP, wrap_i64, h0] | skip) | (refine callW_of pca rfl (.inl rfl) ?_) | (refine callW_of pc rfl (.inl rfl) ?_)
      all_goals
       refine ⟨(j + 1, acc, fu), [], ⟨hltj, hacc, hal, hfu0, hfu1, HE⟩, by show _ - _ < _ - _; omega, ?_⟩
       refine Wk_intro (by simp (disch := omega) [Wk, wkF, wkM, wkL, look_cons, renV, renA, renC, renB, rn, clV, clA, clAs, clB, notIn, findB, findB_setB, clA.go, ifN, h0n]) ?_ rfl (by simp; try omega) (by simp [wkL]; try omega)
       repeat' first | exact hF.wk (by simp [wkL]; try omega) (by simp; try omega) (by intro n hn; simp (disch := omega) [rn, ifN] at hn ⊢; omega) (by intro nm bx h1 h2 h3; simp only [notIn] at h2; simp only [findB, findB_setB]; (repeat (refine (ifN (by omega)).trans ?_)); exact h3) | refine wkM_cons ?_ ?_ ?_ ?_ ?_ | (simp (disch := omega) [Wk, wkF, wkM, wkL, look_cons, renV, renA, renC, renB, rn, clV, clA, clAs, clB, notIn, findB, findB_setB, clA.go, ifN, h0n] <;> omega) | omega
    ·rw [if_neg h0] at h2 hst
     have n1 : ¬ ca ≤ 0 := fun h => h0 (.inl h)
     have n2 : ¬ 0 ≤ cb := fun h => h0 (.inr h)
     have pk := pk (by omega)
     clear h0
     cases ok
     ·rw [if_pos rfl, if_pos (by simp)] at h2
      subst h2
      have h3 := HR.out
      rw [if_pos (by simp)] at h3
      subst h3
      clear hst hacc HR
      repeat' first | simp (disch := omega) only [go_sem, ↓reduceIte, Nat.reduceEqDiff, reduceCtorEq, Int.reduceEq, g1, ifN, ifNP, wrap_i64, n1, n2] | ((with_reducible first | refine condD ?_ ?_ | refine condX ?_ ?_ | refine condW_intro ?_ ?_) <;> intro h <;> first | (exfalso; omega) | simp (disch := omega) only [go_sem, ↓reduceIte, Nat.reduceEqDiff, reduceCtorEq, Int.reduceEq, *, g1, ifN, ifNP, wrap_i64, n1, n2] | skip) | (refine callW_of pca rfl (.inl rfl) ?_) | (refine callW_of pc rfl (.inl rfl) ?_) | (refine callW_of pk rfl (.inl rfl) ?_)
      all_goals
       refine ⟨[], [], ?_⟩
       simp (disch := omega) only [go_sem, ↓reduceIte, Nat.reduceEqDiff, reduceCtorEq, Int.reduceEq, frzLA, ifN, ifNP]
       refine Wk_intro (by simp (disch := omega) [Wk, wkF, wkM, wkL, look_cons, renV, renA, renC, renB, rn, clV, clA, clAs, clB, notIn, findB, findB_setB, clA.go, ifN, h0n]) ?_ rfl (by simp; try omega) (by simp [wkL]; try omega)
       repeat' first | exact hF.wk (by simp [wkL]; try omega) (by simp; try omega) (by intro n hn; simp (disch := omega) [rn, ifN] at hn ⊢; omega) (by intro nm bx h1 h2 h3; simp only [notIn] at h2; simp only [findB, findB_setB]; (repeat (refine (ifN (by omega)).trans ?_)); exact h3) | refine wkM_cons ?_ ?_ ?_ ?_ ?_ | (simp (disch := omega) [Wk, wkF, wkM, wkL, look_cons, renV, renA, renC, renB, rn, clV, clA, clAs, clB, notIn, findB, findB_setB, clA.go, ifN, h0n] <;> omega) | omega
     ·have hft : ¬ (true = false) := by simp
      rw [if_neg hft] at h2 hst
      clear hft
      have hll : ba.length = b'.length := by rw [hz.len, hTa.len]
      have hlb : ba.length ≤ 1000000000 := by rw [hTa.len]; exact hTl
      have hm1 := elim_merge_abs (a := (((Ka, la), qa), ba)) (b := (((K', l'), q'), b')) (x := x) (y := y) (fuel := fu) (r := nx) (nx := nx + 3) (rows := acc) (F := (nx + 2, .var (rowC (((K', l'), q'), b'))) :: (nx + 1, .var (rowC (((Ka, la), qa), ba))) :: F)
       hTa.r64 hz.r64 hx64 hy64 hll hlb (by simp only; omega) (by simp only; omega) hfu0 (by omega) (by omega) (by omega) (fr_cons (N := nx + 2) (r := nx) (fr_cons hF (by omega) (by omega) (by omega) rfl (.inr (Nat.le_refl _)) (by omega)) (by omega) (by omega) (by omega) rfl (.inl rfl) (by omega))
      unfold mergeAdd at h2 hst
      clear hll hlb hx64 hy64
      generalize mergeS fu (((Ka, la), qa), ba) (((K', l'), q'), b') x y = M at *
      obtain ⟨⟨⟨⟨Km, lm⟩, qm⟩, bm⟩, me⟩ := M
      simp only at h2 hst
      by_cases hme : me = 0
      ·subst hme
       have hm0 : ¬ ((0 : Int) ≠ 0) := by simp
       rw [if_neg hm0] at h2 hst
       simp only [rowX, if_true] at hm1
       have pa := elim_add_abs (d := (((Km, lm), qm), bm)) (fuel := fu - 1) (r := nx) (nx := nx + 4) (rows := acc) (F := (nx + 3, .var (rowC (((Km, lm), qm), bm))) :: (nx + 2, .var (rowC (((K', l'), q'), b'))) :: (nx + 1, .var (rowC (((Ka, la), qa), ba))) :: F) hal (by omega) (by omega)
        (fr_cons (N := nx + 3) (r := nx) (fr_cons (N := nx + 2) (r := nx) (fr_cons hF (by omega) (by omega) (by omega) rfl (.inr (Nat.le_refl _)) (by omega)) (by omega) (by omega) (by omega) rfl (.inl rfl) (by omega)) (by omega) (by omega) (by omega) rfl (.inl rfl) (by omega))
       generalize addS2 acc (((Km, lm), qm), bm) = A at *
       obtain ⟨A, ae⟩ := A
       simp only at pa h2 hst
       by_cases hae : ae = 0
       ·subst hae
        rw [if_neg (by simp)] at h2
        have HE := Lib.hid h2
        have hA1 := hst.all
        have hA2 := hst.len
        have hA3 := hst.pos rfl hfu0
        clear h2 hst hacc
        simp only at hA1 hA2 hA3
        repeat' first | simp (disch := omega) only [go_sem, ↓reduceIte, Nat.reduceEqDiff, reduceCtorEq, Int.reduceEq, g1, ifN, ifNP, wrap_i64, n1, n2] | ((with_reducible first | refine condD ?_ ?_ | refine condX ?_ ?_ | refine condW_intro ?_ ?_) <;> intro h <;> first | (exfalso; omega) | simp (disch := omega) only [go_sem, ↓reduceIte, Nat.reduceEqDiff, reduceCtorEq, Int.reduceEq, *, g1, ifN, ifNP, wrap_i64, n1, n2] | skip) | (refine callW_of pca rfl (.inl rfl) ?_) | (refine callW_of pc rfl (.inl rfl) ?_) | (refine callW_of pk rfl (.inl rfl) ?_) | (refine callW_i (hm1.perm (fun nm => by first | rfl | (simp only [findB, findB_setB]; done) | (simp only [findB, findB_setB]; (repeat' split) <;> first | rfl | omega))) ?_) | (refine callW_i (pa.perm (fun nm => by first | rfl | (simp only [findB, findB_setB]; done) | (simp only [findB, findB_setB]; (repeat' split) <;> first | rfl | omega))) ?_)
        all_goals
         refine ⟨(j + 1, A, fu - 1), [(nx, nx + 4)], ⟨hltj, hA1, hA2, hA3, by simp only; omega, HE⟩, by show _ - _ < _ - _; omega, ?_⟩
         refine Wk_intro (by simp (disch := omega) [Wk, wkF, wkM, wkL, look_cons, renV, renA, renC, renB, rn, clV, clA, clAs, clB, notIn, findB, findB_setB, clA.go, ifN, h0n]) ?_ rfl (by simp; try omega) (by simp [wkL]; try omega)
         repeat' first | exact hF.wk (by simp [wkL]; try omega) (by simp; try omega) (by intro n hn; simp (disch := omega) [rn, ifN] at hn ⊢; omega) (by intro nm bx h1 h2 h3; simp only [notIn] at h2; simp only [findB, findB_setB]; (repeat (refine (ifN (by omega)).trans ?_)); exact h3) | refine wkM_cons ?_ ?_ ?_ ?_ ?_ | (simp (disch := omega) [Wk, wkF, wkM, wkL, look_cons, renV, renA, renC, renB, rn, clV, clA, clAs, clB, notIn, findB, findB_setB, clA.go, ifN, h0n] <;> omega) | omega
       ·rw [if_pos hae] at h2
        subst h2
        have h3 := HR.out
        rw [if_pos hae] at h3
        subst h3
        clear hst hacc HR
        repeat' first | simp (disch := omega) only [go_sem, ↓reduceIte, Nat.reduceEqDiff, reduceCtorEq, Int.reduceEq, g1, ifN, ifNP, wrap_i64, n1, n2, hae] | ((with_reducible first | refine condD ?_ ?_ | refine condX ?_ ?_ | refine condW_intro ?_ ?_) <;> intro h <;> first | (exfalso; omega) | simp (disch := omega) only [go_sem, ↓reduceIte, Nat.reduceEqDiff, reduceCtorEq, Int.reduceEq, *, g1, ifN, ifNP, wrap_i64, n1, n2, hae] | skip) | (refine callW_of pca rfl (.inl rfl) ?_) | (refine callW_of pc rfl (.inl rfl) ?_) | (refine callW_of pk rfl (.inl rfl) ?_) | (refine callW_i (hm1.perm (fun nm => by first | rfl | (simp only [findB, findB_setB]; done) | (simp only [findB, findB_setB]; (repeat' split) <;> first | rfl | omega))) ?_) | (refine callW_i (pa.perm (fun nm => by first | rfl | (simp only [findB, findB_setB]; done) | (simp only [findB, findB_setB]; (repeat' split) <;> first | rfl | omega))) ?_)
        all_goals
         refine ⟨[], [(nx, nx + 4)], ?_⟩
         simp (disch := omega) only [go_sem, ↓reduceIte, Nat.reduceEqDiff, reduceCtorEq, Int.reduceEq, frzLA, ifN, ifNP]
         refine Wk_intro (by simp (disch := omega) [Wk, wkF, wkM, wkL, look_cons, renV, renA, renC, renB, rn, clV, clA, clAs, clB, notIn, findB, findB_setB, clA.go, ifN, h0n]) ?_ rfl (by simp; try omega) (by simp [wkL]; try omega)
         repeat' first | exact hF.wk (by simp [wkL]; try omega) (by simp; try omega) (by intro n hn; simp (disch := omega) [rn, ifN] at hn ⊢; omega) (by intro nm bx h1 h2 h3; simp only [notIn] at h2; simp only [findB, findB_setB]; (repeat (refine (ifN (by omega)).trans ?_)); exact h3) | refine wkM_cons ?_ ?_ ?_ ?_ ?_ | (simp (disch := omega) [Wk, wkF, wkM, wkL, look_cons, renV, renA, renC, renB, rn, clV, clA, clAs, clB, notIn, findB, findB_setB, clA.go, ifN, h0n] <;> omega) | omega
      ·rw [if_pos hme] at h2
       simp only at h2
       rw [if_pos hme] at h2
       subst h2
       have h3 := HR.out
       rw [if_pos hme] at h3
       subst h3
       clear hst hacc HR
       simp only [rowX, if_neg hme] at hm1
       repeat' first | simp (disch := omega) only [go_sem, ↓reduceIte, Nat.reduceEqDiff, reduceCtorEq, Int.reduceEq, g1, ifN, ifNP, wrap_i64, n1, n2, hme] | ((with_reducible first | refine condD ?_ ?_ | refine condX ?_ ?_ | refine condW_intro ?_ ?_) <;> intro h <;> first | (exfalso; omega) | simp (disch := omega) only [go_sem, ↓reduceIte, Nat.reduceEqDiff, reduceCtorEq, Int.reduceEq, *, g1, ifN, ifNP, wrap_i64, n1, n2, hme] | skip) | (refine callW_of pca rfl (.inl rfl) ?_) | (refine callW_of pc rfl (.inl rfl) ?_) | (refine callW_of pk rfl (.inl rfl) ?_) | (refine callW_i (hm1.perm (fun nm => by first | rfl | (simp only [findB, findB_setB]; done) | (simp only [findB, findB_setB]; (repeat' split) <;> first | rfl | omega))) ?_)
       all_goals
        refine ⟨[], [], ?_⟩
        simp (disch := omega) only [go_sem, ↓reduceIte, Nat.reduceEqDiff, reduceCtorEq, Int.reduceEq, frzLA, ifN, ifNP]
        refine Wk_intro (by simp (disch := omega) [Wk, wkF, wkM, wkL, look_cons, renV, renA, renC, renB, rn, clV, clA, clAs, clB, notIn, findB, findB_setB, clA.go, ifN, h0n]) ?_ rfl (by simp; try omega) (by simp [wkL]; try omega)
        repeat' first | exact hF.wk (by simp [wkL]; try omega) (by simp; try omega) (by intro n hn; simp (disch := omega) [rn, ifN] at hn ⊢; omega) (by intro nm bx h1 h2 h3; simp only [notIn] at h2; simp only [findB, findB_setB]; (repeat (refine (ifN (by omega)).trans ?_)); exact h3) | refine wkM_cons ?_ ?_ ?_ ?_ ?_ | (simp (disch := omega) [Wk, wkF, wkM, wkL, look_cons, renV, renA, renC, renB, rn, clV, clA, clAs, clB, notIn, findB, findB_setB, clA.go, ifN, h0n] <;> omega) | omega
   ·have h2 := HE.out
    rw [List.drop_eq_nil_of_le (by omega)] at h2
    simp only [runF] at h2
    subst h2
    have h3 := HR.out
    rw [if_neg (by simp)] at h3
    have HR := Lib.hid h3
    clear HE h3
    repeat' first | simp (disch := omega) only [go_sem, ↓reduceIte, Nat.reduceEqDiff, reduceCtorEq, Int.reduceEq, ifN, ifNP, wrap_i64] | ((with_reducible first | refine condD ?_ ?_ | refine condX ?_ ?_ | refine condW_intro ?_ ?_) <;> intro h <;> first | (exfalso; omega) | simp (disch := omega) only [go_sem, ↓reduceIte, Nat.reduceEqDiff, reduceCtorEq, Int.reduceEq, *, ifN, ifNP, wrap_i64] | skip)
    refine ⟨(k + 1, acc, fu), [], ⟨hlt, hacc, hal, hfu0, hfu1, HR⟩, by show _ - _ < _ - _; omega, ?_⟩
    refine Wk_intro (by simp (disch := omega) [Wk, wkF, wkM, wkL, look_cons, renV, renA, renC, renB, rn, clV, clA, clAs, clB, notIn, findB, findB_setB, clA.go, ifN, h0n]) ?_ rfl (by simp; try omega) (by simp [wkL]; try omega)
    repeat' first | exact hF.wk (by simp [wkL]; try omega) (by simp; try omega) (by intro n hn; simp (disch := omega) [rn, ifN] at hn ⊢; omega) (by intro nm bx h1 h2 h3; simp only [notIn] at h2; simp only [findB, findB_setB]; (repeat (refine (ifN (by omega)).trans ?_)); exact h3) | refine wkM_cons ?_ ?_ ?_ ?_ ?_ | (simp (disch := omega) [Wk, wkF, wkM, wkL, look_cons, renV, renA, renC, renB, rn, clV, clA, clAs, clB, notIn, findB, findB_setB, clA.go, ifN, h0n] <;> omega) | omega
  ·have h2 := HR.out
   rw [List.drop_eq_nil_of_le (by omega)] at h2
   simp only [runF] at h2
   subst h2
   clear HR
   repeat' first | simp (disch := omega) only [go_sem, ↓reduceIte, Nat.reduceEqDiff, reduceCtorEq, Int.reduceEq, ifN, ifNP] | ((with_reducible first | refine condD ?_ ?_ | refine condX ?_ ?_ | refine condW_intro ?_ ?_) <;> intro h <;> first | (exfalso; omega) | simp (disch := omega) only [go_sem, ↓reduceIte, Nat.reduceEqDiff, reduceCtorEq, Int.reduceEq, *, ifN, ifNP] | skip)
   refine ⟨[], [], ?_⟩
   simp (disch := omega) only [go_sem, ↓reduceIte, Nat.reduceEqDiff, reduceCtorEq, Int.reduceEq, frzLA, ifN, ifNP]
   refine Wk_intro (by simp (disch := omega) [Wk, wkF, wkM, wkL, look_cons, renV, renA, renC, renB, rn, clV, clA, clAs, clB, notIn, findB, findB_setB, clA.go, ifN, h0n]) ?_ rfl (by simp; try omega) (by simp [wkL]; try omega)
   repeat' first | exact hF.wk (by simp [wkL]; try omega) (by simp; try omega) (by intro n hn; simp (disch := omega) [rn, ifN] at hn ⊢; omega) (by intro nm bx h1 h2 h3; simp only [notIn] at h2; simp only [findB, findB_setB]; (repeat (refine (ifN (by omega)).trans ?_)); exact h3) | refine wkM_cons ?_ ?_ ?_ ?_ ?_ | (simp (disch := omega) [Wk, wkF, wkM, wkL, look_cons, renV, renA, renC, renB, rn, clV, clA, clAs, clB, notIn, findB, findB_setB, clA.go, ifN, h0n] <;> omega) | omega
end Go.Proofs.Ytnddmjhpplopbaa
