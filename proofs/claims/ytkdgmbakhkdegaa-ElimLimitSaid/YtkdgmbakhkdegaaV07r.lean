/- Walks by the abstract machine: a row added to the system. -/
import Derived.Test.YtkdgmbakhkdegaaV07q
set_option linter.unusedVariables false
set_option linter.unusedSimpArgs false
set_option maxRecDepth 20000
namespace Go.Proofs.Ytkdgmbakhkdegaa
open Go.Abs Go.RowKit

theorem slices_Equal_monos (a b : List Mono) : PCalls Try.prog n_slices_Equal_api_Mono_api_Mono [.c (.pure (pMonos a)), .c (.pure (pMonos b))] (Go.Abs.B (decide (a = b))) := by
 refine PCalls.of is_slices_Equal_api_Mono_api_Mono (by simp) fun hb => runW_sound ?_
 have hba : a.length ≤ 9223372036854775807 := by have := hb.1; simpa [bndV, bndA] using this
 simp only [c_slices_Equal_api_Mono_api_Mono]
 by_cases hl : a.length = b.length
 ·have hli : (a.length : Int) = (b.length : Int) := by omega
  obtain ⟨R, hR⟩ : ∃ R, R = decide (a = b) := ⟨_, rfl⟩
  rw [← hR]
  have HR := Lib.hid hR
  clear hR
  have HL := Lib.hid hl
  clear hl
  repeat' first | simp (disch := omega) only [go_sem, ↓reduceIte, Nat.reduceEqDiff, reduceCtorEq, Int.reduceEq, hli] | ((with_reducible first | refine condD ?_ ?_ | refine condX ?_ ?_ | refine condW_intro ?_ ?_) <;> intro h <;> first | (exfalso; omega) | simp (disch := omega) only [go_sem, ↓reduceIte, Nat.reduceEqDiff, reduceCtorEq, Int.reduceEq, *, hli] | skip)
  refine AW_loop (fun k : Nat => ⟨[(0, .c (.pure (pMonos a))), (1, .c (.pure (pMonos b))), (12, I b.length), (13, I k)], [], 0, 0⟩) (fun k => k ≤ b.length ∧ Hid (a.take k = b.take k)) (fun k => b.length - k) ⟨0, [], ⟨Nat.zero_le _, Lib.hid rfl⟩, by simp [Wk, wkF, wkM, wkL, look_cons, renV, renA, renC, renB, rn, clV, clA, clAs, clB, notIn, findB, findB_setB, clA.go]⟩ ?_
  clear hli
  rintro k ⟨hk, HT⟩
  refine runW_sound ?_
  have hl := HL.out
  by_cases hlt : k < b.length
  ·have hlta : k < a.length := by omega
   have g1 := map_get (f := mP) hlta
   have g2 := map_get (f := mP) hlt
   by_cases he : a[k] = b[k]
   ·have HT' : Hid (a.take (k + 1) = b.take (k + 1)) := Lib.hid (by rw [List.take_succ_eq_append_getElem hlta, List.take_succ_eq_append_getElem hlt, HT.out, he])
    rw [he] at g1
    clear HT he hl
    generalize b[k] = m at *
    obtain ⟨n, x⟩ := m
    simp only [mP] at g1 g2
    repeat' first | simp (disch := omega) only [go_sem, ↓reduceIte, Nat.reduceEqDiff, reduceCtorEq, Int.reduceEq, g1, g2, eqOk, eqP, and_self, decT, wrap_i64] | ((with_reducible first | refine condD ?_ ?_ | refine condX ?_ ?_ | refine condW_intro ?_ ?_) <;> intro h <;> first | (exfalso; omega) | simp (disch := omega) only [go_sem, ↓reduceIte, Nat.reduceEqDiff, reduceCtorEq, Int.reduceEq, *, g1, g2, eqOk, eqP, and_self, decT, wrap_i64] | skip)
    exact ⟨k + 1, [], ⟨hlt, HT'⟩, by omega, by simp [Wk, wkF, wkM, wkL, look_cons, renV, renA, renC, renB, rn, clV, clA, clAs, clB, notIn, findB, findB_setB, clA.go]⟩
   ·have hR : R = false := by
     rw [HR.out]
     exact decide_eq_false fun h => he (by subst h; rfl)
    subst hR
    have hne : ¬ (a[k].1 = b[k].1 ∧ a[k].2 = b[k].2) := fun h => he (Prod.ext h.1 h.2)
    clear HT he hl HR HL
    generalize a[k] = m at *
    generalize b[k] = m' at *
    obtain ⟨n, x⟩ := m
    obtain ⟨n', x'⟩ := m'
    simp only [mP] at g1 g2 hne
    repeat' first | simp (disch := omega) only [go_sem, ↓reduceIte, Nat.reduceEqDiff, reduceCtorEq, Int.reduceEq, g1, g2, eqOk, eqP, and_true, hne, decF, wrap_i64] | ((with_reducible first | refine condD ?_ ?_ | refine condX ?_ ?_ | refine condW_intro ?_ ?_) <;> intro h <;> first | (exfalso; omega) | simp (disch := omega) only [go_sem, ↓reduceIte, Nat.reduceEqDiff, reduceCtorEq, Int.reduceEq, *, g1, g2, eqOk, eqP, and_true, hne, decF, wrap_i64] | skip)
    all_goals rfl
  ·have hR : R = true := by
    rw [HR.out]
    have h := HT.out
    rw [List.take_of_length_le (by omega), List.take_of_length_le (by omega)] at h
    exact decide_eq_true h
   subst hR
   clear HT HL HR hl
   repeat' first | simp (disch := omega) only [go_sem, ↓reduceIte, Nat.reduceEqDiff, reduceCtorEq, Int.reduceEq] | ((with_reducible first | refine condD ?_ ?_ | refine condX ?_ ?_ | refine condW_intro ?_ ?_) <;> intro h <;> first | (exfalso; omega) | simp (disch := omega) only [go_sem, ↓reduceIte, Nat.reduceEqDiff, reduceCtorEq, Int.reduceEq, *] | skip)
   all_goals rfl
 ·have e : decide (a = b) = false := decide_eq_false fun h => hl (by rw [h])
  rw [e]
  have hli : ¬ (a.length : Int) = (b.length : Int) := by omega
  repeat' first | simp (disch := omega) only [go_sem, ↓reduceIte, Nat.reduceEqDiff, reduceCtorEq, Int.reduceEq, hli] | ((with_reducible first | refine condD ?_ ?_ | refine condX ?_ ?_ | refine condW_intro ?_ ?_) <;> intro h <;> first | (exfalso; omega) | simp (disch := omega) only [go_sem, ↓reduceIte, Nat.reduceEqDiff, reduceCtorEq, Int.reduceEq, *, hli] | skip)
  all_goals rfl
theorem set_row {rows : List Row} {d : Row} {k : Nat} (h : k < rows.length) : (rows.map rCells).set k (rCells d) = (rows.take k ++ d :: rows.drop (k + 1)).map rCells := by
 rw [← List.map_set, List.set_eq_take_append_cons_drop, if_pos h]
theorem take_row {rows : List Row} {k : Nat} (h : k < rows.length) : rows.take k ++ rows[k] :: rows.drop (k + 1) = rows := by
 rw [← List.drop_eq_getElem_cons h, List.take_append_drop]
theorem addR_drop {rows : List Row} {d : Row} {k : Nat} (h : k < rows.length) : (addR d (rows.drop k)).map (rows.take k ++ ·) =
  if simRow rows[k] d then some (rows.take k ++ (if d.1.1.1 < rows[k].1.1.1 then d else rows[k]) :: rows.drop (k + 1)) else (addR d (rows.drop (k + 1))).map (rows.take (k + 1) ++ ·) := by
 rw [List.drop_eq_getElem_cons h, addR]
 split
 ·rfl
 ·rw [List.take_succ_eq_append_getElem h]
  cases addR d (rows.drop (k + 1)) with
  | none => rfl
  | some x =>
   show some (_ ++ _ :: x) = some ((_ ++ [_]) ++ x)
   rw [List.append_assoc]
   rfl
set_option maxHeartbeats 2000000 in
theorem elim_add_abs {d : Row} {fuel : Int} {r nx : Nat} {rows : List Row} {F : List (Nat × Box)} (hrl : rows.length ≤ 256) (hr : 0 < r) (hrn : r < nx) (hF : frOk nx [0, r] F) :
  ICalls Try.prog n_elim_system_add [.c (.ptr 0 0), aRow d] (sysM r rows fuel F) nx (packV [I (addS2 rows d).2]) (sysM nx (addS2 rows d).1 fuel F) (nx + 1) := by
 refine ICalls.ofZ is_elim_system_add (by simp) fun _ => runW_sound ?_
 have pc := elim_contradictory_abs d.1
 have hdl := hF.del (n := r) (.inl (by simp))
 obtain ⟨⟨⟨K, l⟩, q⟩, by'⟩ := d
 simp only [c_elim_system_add]
 unfold addS2
 simp only at pc ⊢
 by_cases h0 : l = [] ∧ ¬ conBad ((K, l), q)
 ·rw [if_pos h0]
  obtain ⟨rfl, hb⟩ := h0
  rw [decide_eq_false hb] at pc
  clear hb
  repeat' first | simp (disch := omega) only [go_sem, ↓reduceIte, Nat.reduceEqDiff, reduceCtorEq, Int.reduceEq, ifN, ifNP] | ((with_reducible first | refine condD ?_ ?_ | refine condX ?_ ?_ | refine condW_intro ?_ ?_) <;> intro h <;> first | (exfalso; omega) | simp (disch := omega) only [go_sem, ↓reduceIte, Nat.reduceEqDiff, reduceCtorEq, Int.reduceEq, *, ifN, ifNP] | skip) | (refine callW_of pc rfl (.inl rfl) ?_)
  refine ⟨[], [(nx, r)], ?_⟩
  simp (disch := omega) only [go_sem, ↓reduceIte, Nat.reduceEqDiff, reduceCtorEq, Int.reduceEq, frzLA, ifN, ifNP]
  refine Wk_intro (by simp (disch := omega) [Wk, wkF, wkM, wkL, look_cons, renV, renA, renC, renB, rn, clV, clA, clAs, clB, notIn, findB, findB_setB, clA.go, ifN]) ?_ rfl (by simp; try omega) (by simp [wkL]; try omega)
  repeat' first | exact hF.wk (by simp [wkL]; try omega) (by simp; try omega) (by intro n hn; simp (disch := omega) [rn, ifN] at hn ⊢; omega) (by intro nm bx h1 h2 h3; simp only [notIn] at h2; simp only [findB, findB_setB]; (repeat (refine (ifN (by omega)).trans ?_)); exact h3) | refine wkM_cons ?_ ?_ ?_ ?_ ?_ | (simp (disch := omega) [Wk, wkF, wkM, wkL, look_cons, renV, renA, renC, renB, rn, clV, clA, clAs, clB, notIn, findB, findB_setB, clA.go, ifN] <;> omega) | omega
 ·rw [if_neg h0]
  obtain ⟨R, hR⟩ : ∃ R, R = (addR (((K, l), q), by') (rows.drop 0)).map (rows.take 0 ++ ·) := ⟨_, rfl⟩
  have hR0 : addR (((K, l), q), by') rows = R := by rw [hR]; simp
  rw [hR0]
  have HR := Lib.hid hR
  clear hR hR0
  obtain ⟨bb, hbb⟩ : ∃ bb, bb = decide (conBad ((K, l), q)) := ⟨_, rfl⟩
  rw [← hbb] at pc
  have hcond : (((l.length : Nat) : Int) = 0 ∧ bb = true) ∨ ¬ ((l.length : Nat) : Int) = 0 := by
   by_cases hl : l.length = 0
   ·exact .inl ⟨by omega, by rw [hbb]; exact decide_eq_true (Classical.byContradiction fun h => h0 ⟨List.eq_nil_of_length_eq_zero hl, h⟩)⟩
   ·exact .inr (by omega)
  clear h0 hbb
  rcases hcond with ⟨hll, rfl⟩ | hll
  all_goals
   repeat' first | simp (disch := omega) only [go_sem, ↓reduceIte, Nat.reduceEqDiff, reduceCtorEq, Int.reduceEq, ifN, ifNP, hll] | ((with_reducible first | refine condD ?_ ?_ | refine condX ?_ ?_ | refine condW_intro ?_ ?_) <;> intro h <;> first | (exfalso; omega) | simp (disch := omega) only [go_sem, ↓reduceIte, Nat.reduceEqDiff, reduceCtorEq, Int.reduceEq, *, ifN, ifNP, hll] | skip) | (refine callW_of pc rfl (.inl rfl) ?_)
   clear hll pc
   refine AW_loop (fun k : Nat => ⟨[(0, .c (.ptr 0 0)), (3, .c (.ptr nx 0)), (5, .c (.ptr (nx + 1) 0)), (23, .c (.ref r)), (24, I rows.length), (25, I k)],
    (nx, .var [.pure (pI K), .pure (pMonos l), .pure (pB q), .pure (pInts by')]) :: (nx + 1, .var [.pure (pI K), .pure (pMonos l), .pure (pB q)]) :: sysM r rows fuel F, nx + 2, nx⟩)
    (fun k => k ≤ rows.length ∧ Hid (R = (addR (((K, l), q), by') (rows.drop k)).map (rows.take k ++ ·))) (fun k => rows.length - k) ⟨0, [], ⟨Nat.zero_le _, HR⟩, ?_⟩ ?_
   ·have hr2 : r < nx + 2 := by omega
    refine Wk_intro (by simp (disch := omega) [Wk, wkF, wkM, wkL, look_cons, renV, renA, renC, renB, rn, clV, clA, clAs, clB, notIn, findB, findB_setB, clA.go, ifN, hr2]) ?_ rfl (by simp; try omega) (by simp [wkL]; try omega)
    repeat' first | exact hF.wk (by simp [wkL]; try omega) (by simp; try omega) (by intro n hn; simp (disch := omega) [rn, ifN] at hn ⊢; omega) (by intro nm bx h1 h2 h3; simp only [notIn] at h2; simp only [findB, findB_setB]; (repeat (refine (ifN (by omega)).trans ?_)); exact h3) | refine wkM_cons ?_ ?_ ?_ ?_ ?_ | (simp (disch := omega) [Wk, wkF, wkM, wkL, look_cons, renV, renA, renC, renB, rn, clV, clA, clAs, clB, notIn, findB, findB_setB, clA.go, ifN, hr2] <;> omega) | omega
   clear HR
   rintro k ⟨hk, HR⟩
   refine runW_sound ?_
   by_cases hlt : k < rows.length
   ·have g1 := map_get (f := rCells) hlt
    have h2 := HR.out
    rw [addR_drop hlt] at h2
    have hset := set_row (d := (((K, l), q), by')) hlt
    have htk := take_row hlt
    clear HR
    generalize hz : rows[k] = z at *
    have htk' : rows.take k ++ z :: rows.drop (k + 1) = rows := htk
    obtain ⟨⟨⟨K', l'⟩, q'⟩, b'⟩ := z
    simp only [rCells] at g1 hset
    have pe := slices_Equal_monos l' l
    by_cases hs : simRow (((K', l'), q'), b') (((K, l), q), by')
    ·rw [if_pos hs] at h2
     obtain ⟨hs1, hs2, hs3⟩ := hs
     simp only at hs1 hs2 hs3 h2
     subst hs1
     subst hs2
     rw [decide_eq_true rfl] at pe
     clear hz htk
     by_cases hK : K < K'
     ·rw [if_pos hK] at h2
      subst h2
      have hq : q' = false := hs3.resolve_right (by omega)
      subst hq
      clear hs3
      repeat' first | simp (disch := omega) only [go_sem, ↓reduceIte, Nat.reduceEqDiff, reduceCtorEq, Int.reduceEq, g1, ifN, ifNP, hK] | ((with_reducible first | refine condD ?_ ?_ | refine condX ?_ ?_ | refine condW_intro ?_ ?_) <;> intro h <;> first | (exfalso; omega) | simp (disch := omega) only [go_sem, ↓reduceIte, Nat.reduceEqDiff, reduceCtorEq, Int.reduceEq, *, g1, ifN, ifNP, hK] | skip) | (refine callW_of pe rfl (.inl rfl) ?_)
      refine ⟨[], [(nx, r)], ?_⟩
      simp (disch := omega) only [go_sem, ↓reduceIte, Nat.reduceEqDiff, reduceCtorEq, Int.reduceEq, frzLA, ifN, ifNP]
      refine Wk_intro (by simp (disch := omega) [Wk, wkF, wkM, wkL, look_cons, renV, renA, renC, renB, rn, clV, clA, clAs, clB, notIn, findB, findB_setB, clA.go, ifN, hset]) ?_ rfl (by simp; try omega) (by simp [wkL]; try omega)
      repeat' first | exact hF.wk (by simp [wkL]; try omega) (by simp; try omega) (by intro n hn; simp (disch := omega) [rn, ifN] at hn ⊢; omega) (by intro nm bx h1 h2 h3; simp only [notIn] at h2; simp only [findB, findB_setB]; (repeat (refine (ifN (by omega)).trans ?_)); exact h3) | refine wkM_cons ?_ ?_ ?_ ?_ ?_ | (simp (disch := omega) [Wk, wkF, wkM, wkL, look_cons, renV, renA, renC, renB, rn, clV, clA, clAs, clB, notIn, findB, findB_setB, clA.go, ifN, hset] <;> omega) | omega
     ·rw [if_neg hK, htk'] at h2
      subst h2
      clear hset
      have hcq : q' = false ∨ (q' = true ∧ K' = K) := by cases q' <;> simp_all
      clear hs3
      rcases hcq with rfl | ⟨rfl, rfl⟩
      ·repeat' first | simp (disch := omega) only [go_sem, ↓reduceIte, Nat.reduceEqDiff, reduceCtorEq, Int.reduceEq, g1, ifN, ifNP, hK] | ((with_reducible first | refine condD ?_ ?_ | refine condX ?_ ?_ | refine condW_intro ?_ ?_) <;> intro h <;> first | (exfalso; omega) | simp (disch := omega) only [go_sem, ↓reduceIte, Nat.reduceEqDiff, reduceCtorEq, Int.reduceEq, *, g1, ifN, ifNP, hK] | skip) | (refine callW_of pe rfl (.inl rfl) ?_)
       refine ⟨[], [(nx, r)], ?_⟩
       simp (disch := omega) only [go_sem, ↓reduceIte, Nat.reduceEqDiff, reduceCtorEq, Int.reduceEq, frzLA, ifN, ifNP]
       refine Wk_intro (by simp (disch := omega) [Wk, wkF, wkM, wkL, look_cons, renV, renA, renC, renB, rn, clV, clA, clAs, clB, notIn, findB, findB_setB, clA.go, ifN]) ?_ rfl (by simp; try omega) (by simp [wkL]; try omega)
       repeat' first | exact hF.wk (by simp [wkL]; try omega) (by simp; try omega) (by intro n hn; simp (disch := omega) [rn, ifN] at hn ⊢; omega) (by intro nm bx h1 h2 h3; simp only [notIn] at h2; simp only [findB, findB_setB]; (repeat (refine (ifN (by omega)).trans ?_)); exact h3) | refine wkM_cons ?_ ?_ ?_ ?_ ?_ | (simp (disch := omega) [Wk, wkF, wkM, wkL, look_cons, renV, renA, renC, renB, rn, clV, clA, clAs, clB, notIn, findB, findB_setB, clA.go, ifN] <;> omega) | omega
      ·repeat' first | simp (disch := omega) only [go_sem, ↓reduceIte, Nat.reduceEqDiff, reduceCtorEq, Int.reduceEq, g1, ifN, ifNP, hK] | ((with_reducible first | refine condD ?_ ?_ | refine condX ?_ ?_ | refine condW_intro ?_ ?_) <;> intro h <;> first | (exfalso; omega) | simp (disch := omega) only [go_sem, ↓reduceIte, Nat.reduceEqDiff, reduceCtorEq, Int.reduceEq, *, g1, ifN, ifNP, hK] | skip) | (refine callW_of pe rfl (.inl rfl) ?_)
       refine ⟨[], [(nx, r)], ?_⟩
       simp (disch := omega) only [go_sem, ↓reduceIte, Nat.reduceEqDiff, reduceCtorEq, Int.reduceEq, frzLA, ifN, ifNP]
       refine Wk_intro (by simp (disch := omega) [Wk, wkF, wkM, wkL, look_cons, renV, renA, renC, renB, rn, clV, clA, clAs, clB, notIn, findB, findB_setB, clA.go, ifN]) ?_ rfl (by simp; try omega) (by simp [wkL]; try omega)
       repeat' first | exact hF.wk (by simp [wkL]; try omega) (by simp; try omega) (by intro n hn; simp (disch := omega) [rn, ifN] at hn ⊢; omega) (by intro nm bx h1 h2 h3; simp only [notIn] at h2; simp only [findB, findB_setB]; (repeat (refine (ifN (by omega)).trans ?_)); exact h3) | refine wkM_cons ?_ ?_ ?_ ?_ ?_ | (simp (disch := omega) [Wk, wkF, wkM, wkL, look_cons, renV, renA, renC, renB, rn, clV, clA, clAs, clB, notIn, findB, findB_setB, clA.go, ifN] <;> omega) | omega
    ·rw [if_neg hs] at h2
     have HR := Lib.hid h2
     have hs' : ¬ (q' = q ∧ l' = l ∧ (q = false ∨ K' = K)) := hs
     clear h2 hs hset htk hz
     have hr2 : r < nx + 2 := by omega
     by_cases hq : q' = q
     ·subst hq
      by_cases hl : l' = l
      ·subst hl
       rw [decide_eq_true rfl] at pe
       have hK : ¬ K' = K := fun h => hs' ⟨rfl, rfl, .inr h⟩
       have hq : q' = true := by
        cases q'
        ·exact absurd ⟨rfl, rfl, .inl rfl⟩ hs'
        ·rfl
       subst hq
       clear hs'
       repeat' first | simp (disch := omega) only [go_sem, ↓reduceIte, Nat.reduceEqDiff, reduceCtorEq, Int.reduceEq, g1, ifN, ifNP, hK, wrap_i64] | ((with_reducible first | refine condD ?_ ?_ | refine condX ?_ ?_ | refine condW_intro ?_ ?_) <;> intro h <;> first | (exfalso; omega) | simp (disch := omega) only [go_sem, ↓reduceIte, Nat.reduceEqDiff, reduceCtorEq, Int.reduceEq, *, g1, ifN, ifNP, hK, wrap_i64] | skip) | (refine callW_of pe rfl (.inl rfl) ?_)
       refine ⟨k + 1, [], ⟨hlt, HR⟩, by omega, ?_⟩
       refine Wk_intro (by simp (disch := omega) [Wk, wkF, wkM, wkL, look_cons, renV, renA, renC, renB, rn, clV, clA, clAs, clB, notIn, findB, findB_setB, clA.go, ifN, hr2]) ?_ rfl (by simp; try omega) (by simp [wkL]; try omega)
       repeat' first | exact hF.wk (by simp [wkL]; try omega) (by simp; try omega) (by intro n hn; simp (disch := omega) [rn, ifN] at hn ⊢; omega) (by intro nm bx h1 h2 h3; simp only [notIn] at h2; simp only [findB, findB_setB]; (repeat (refine (ifN (by omega)).trans ?_)); exact h3) | refine wkM_cons ?_ ?_ ?_ ?_ ?_ | (simp (disch := omega) [Wk, wkF, wkM, wkL, look_cons, renV, renA, renC, renB, rn, clV, clA, clAs, clB, notIn, findB, findB_setB, clA.go, ifN, hr2] <;> omega) | omega
      ·rw [decide_eq_false hl] at pe
       clear hs' hl
       cases q'
       all_goals
        repeat' first | simp (disch := omega) only [go_sem, ↓reduceIte, Nat.reduceEqDiff, reduceCtorEq, Int.reduceEq, g1, ifN, ifNP, wrap_i64] | ((with_reducible first | refine condD ?_ ?_ | refine condX ?_ ?_ | refine condW_intro ?_ ?_) <;> intro h <;> first | (exfalso; omega) | simp (disch := omega) only [go_sem, ↓reduceIte, Nat.reduceEqDiff, reduceCtorEq, Int.reduceEq, *, g1, ifN, ifNP, wrap_i64] | skip) | (refine callW_of pe rfl (.inl rfl) ?_)
        refine ⟨k + 1, [], ⟨hlt, HR⟩, by omega, ?_⟩
        refine Wk_intro (by simp (disch := omega) [Wk, wkF, wkM, wkL, look_cons, renV, renA, renC, renB, rn, clV, clA, clAs, clB, notIn, findB, findB_setB, clA.go, ifN, hr2]) ?_ rfl (by simp; try omega) (by simp [wkL]; try omega)
        repeat' first | exact hF.wk (by simp [wkL]; try omega) (by simp; try omega) (by intro n hn; simp (disch := omega) [rn, ifN] at hn ⊢; omega) (by intro nm bx h1 h2 h3; simp only [notIn] at h2; simp only [findB, findB_setB]; (repeat (refine (ifN (by omega)).trans ?_)); exact h3) | refine wkM_cons ?_ ?_ ?_ ?_ ?_ | (simp (disch := omega) [Wk, wkF, wkM, wkL, look_cons, renV, renA, renC, renB, rn, clV, clA, clAs, clB, notIn, findB, findB_setB, clA.go, ifN, hr2] <;> omega) | omega
     ·clear hs' pe
      cases q
      all_goals
       cases q'
       all_goals
        first
        | exact absurd rfl hq
        | clear hq
       all_goals
        repeat' first | simp (disch := omega) only [go_sem, ↓reduceIte, Nat.reduceEqDiff, reduceCtorEq, Int.reduceEq, g1, ifN, ifNP, wrap_i64] | ((with_reducible first | refine condD ?_ ?_ | refine condX ?_ ?_ | refine condW_intro ?_ ?_) <;> intro h <;> first | (exfalso; omega) | simp (disch := omega) only [go_sem, ↓reduceIte, Nat.reduceEqDiff, reduceCtorEq, Int.reduceEq, *, g1, ifN, ifNP, wrap_i64] | skip)
        refine ⟨k + 1, [], ⟨hlt, HR⟩, by omega, ?_⟩
        refine Wk_intro (by simp (disch := omega) [Wk, wkF, wkM, wkL, look_cons, renV, renA, renC, renB, rn, clV, clA, clAs, clB, notIn, findB, findB_setB, clA.go, ifN, hr2]) ?_ rfl (by simp; try omega) (by simp [wkL]; try omega)
        repeat' first | exact hF.wk (by simp [wkL]; try omega) (by simp; try omega) (by intro n hn; simp (disch := omega) [rn, ifN] at hn ⊢; omega) (by intro nm bx h1 h2 h3; simp only [notIn] at h2; simp only [findB, findB_setB]; (repeat (refine (ifN (by omega)).trans ?_)); exact h3) | refine wkM_cons ?_ ?_ ?_ ?_ ?_ | (simp (disch := omega) [Wk, wkF, wkM, wkL, look_cons, renV, renA, renC, renB, rn, clV, clA, clAs, clB, notIn, findB, findB_setB, clA.go, ifN, hr2] <;> omega) | omega
   ·have h2 := HR.out
    rw [List.drop_eq_nil_of_le (by omega), addR] at h2
    simp only [Option.map_none] at h2
    subst h2
    clear HR
    by_cases hfull : 256 ≤ rows.length
    ·rw [if_pos hfull]
     repeat' first | simp (disch := omega) only [go_sem, ↓reduceIte, Nat.reduceEqDiff, reduceCtorEq, Int.reduceEq, ifN, ifNP] | ((with_reducible first | refine condD ?_ ?_ | refine condX ?_ ?_ | refine condW_intro ?_ ?_) <;> intro h <;> first | (exfalso; omega) | simp (disch := omega) only [go_sem, ↓reduceIte, Nat.reduceEqDiff, reduceCtorEq, Int.reduceEq, *, ifN, ifNP] | skip)
     refine ⟨[], [(nx, r)], ?_⟩
     simp (disch := omega) only [go_sem, ↓reduceIte, Nat.reduceEqDiff, reduceCtorEq, Int.reduceEq, frzLA, ifN, ifNP]
     refine Wk_intro (by simp (disch := omega) [Wk, wkF, wkM, wkL, look_cons, renV, renA, renC, renB, rn, clV, clA, clAs, clB, notIn, findB, findB_setB, clA.go, ifN]) ?_ rfl (by simp; try omega) (by simp [wkL]; try omega)
     repeat' first | exact hF.wk (by simp [wkL]; try omega) (by simp; try omega) (by intro n hn; simp (disch := omega) [rn, ifN] at hn ⊢; omega) (by intro nm bx h1 h2 h3; simp only [notIn] at h2; simp only [findB, findB_setB]; (repeat (refine (ifN (by omega)).trans ?_)); exact h3) | refine wkM_cons ?_ ?_ ?_ ?_ ?_ | (simp (disch := omega) [Wk, wkF, wkM, wkL, look_cons, renV, renA, renC, renB, rn, clV, clA, clAs, clB, notIn, findB, findB_setB, clA.go, ifN] <;> omega) | omega
    ·rw [if_neg hfull]
     repeat' first | simp (disch := omega) only [go_sem, ↓reduceIte, Nat.reduceEqDiff, reduceCtorEq, Int.reduceEq, ifN, ifNP, hdl] | ((with_reducible first | refine condD ?_ ?_ | refine condX ?_ ?_ | refine condW_intro ?_ ?_) <;> intro h <;> first | (exfalso; omega) | simp (disch := omega) only [go_sem, ↓reduceIte, Nat.reduceEqDiff, reduceCtorEq, Int.reduceEq, *, ifN, ifNP, hdl] | skip) | (refine app_own (by simp (disch := omega) only [findB, findB_setB, ifN, eq_self, ↓reduceIte, Option.map_some] <;> rfl) (by intro h; cases h) (rowsOk_one rfl) (by simp; omega) (by simp; omega) ?_)
     refine ⟨[], [(nx, nx + 2)], ?_⟩
     simp (disch := omega) only [go_sem, ↓reduceIte, Nat.reduceEqDiff, reduceCtorEq, Int.reduceEq, frzLA, ifN, ifNP, hdl]
     refine Wk_intro (by simp (disch := omega) [Wk, wkF, wkM, wkL, look_cons, renV, renA, renC, renB, rn, clV, clA, clAs, clB, notIn, findB, findB_setB, clA.go, ifN]) ?_ rfl (by simp; try omega) (by simp [wkL]; try omega)
     repeat' first | exact hF.wk (by simp [wkL]; try omega) (by simp; try omega) (by intro n hn; simp (disch := omega) [rn, ifN] at hn ⊢; omega) (by intro nm bx h1 h2 h3; simp only [notIn] at h2; simp only [findB, findB_setB]; (repeat (refine (ifN (by omega)).trans ?_)); exact h3) | refine wkM_cons ?_ ?_ ?_ ?_ ?_ | (simp (disch := omega) [Wk, wkF, wkM, wkL, look_cons, renV, renA, renC, renB, rn, clV, clA, clAs, clB, notIn, findB, findB_setB, clA.go, ifN] <;> omega) | omega
end Go.Proofs.Ytkdgmbakhkdegaa
