/- Walks by the abstract machine: the system's names, and which of them is eliminated. -/
import Derived.Test.YtnddmjhpplopbaaV07q
import Derived.Test.YtnddmjhpplopbaaV07s
set_option linter.unusedVariables false
set_option linter.unusedSimpArgs false
set_option maxRecDepth 20000
namespace Go.Proofs.Ytnddmjhpplopbaa
open Go.Abs Go.RowKit

def formsOf (rows : List Row) : List Lin := rows.map fun r => r.1.1
theorem forms_nil : formsOf [] = [] := rfl
theorem names_rows (rows : List Row) : compB (sortB (allNames (formsOf rows))) = namesU rows := by
 have e : allNames (formsOf rows) = namesAll rows := by simp [allNames, formsOf, namesAll, List.flatMap_map]
 rw [e, compB, sortB, bytes_strs]
 rfl
theorem elim_names_abs {fuel : Int} {r nx : Nat} {rows : List Row} {F : List (Nat × Box)} (hrl : rows.length ≤ 256) (hn : (namesAll rows).length ≤ 1000000000) (hr : 0 < r) (hrn : r < nx) (hF : frOk nx [0, r] F) :
  ICalls Try.prog n_elim_system_names [.c (.ptr 0 0)] (sysM r rows fuel F) nx (packV [aStrs (namesU rows)]) (sysM r rows fuel F) nx := by
 refine ICalls.ofZ is_elim_system_names (by simp) fun _ => runW_sound ?_
 have e : allNames (formsOf rows) = namesAll rows := by simp [allNames, formsOf, namesAll, List.flatMap_map]
 have pn := lin_Names_abs (forms := formsOf rows) (by rw [e]; exact hn)
 rw [names_rows] at pn
 clear e hn
 simp only [c_elim_system_names]
 repeat' first | simp (disch := omega) only [go_sem, ↓reduceIte, Nat.reduceEqDiff, reduceCtorEq, Int.reduceEq, ifN, ifNP] | ((with_reducible first | refine condD ?_ ?_ | refine condX ?_ ?_ | refine condW_intro ?_ ?_) <;> intro h <;> first | (exfalso; omega) | simp (disch := omega) only [go_sem, ↓reduceIte, Nat.reduceEqDiff, reduceCtorEq, Int.reduceEq, *, ifN, ifNP] | skip)
 refine AW_adopt 3 34 2 rfl (by decide) ?_
 refine AW_loop (fun k : Nat => ⟨[(3, .c (.ref nx)), (9, .c (.ref r)), (10, I rows.length), (11, I k)], (nx, .arr 34 2 ((formsOf (rows.take k)).map lP)) :: sysM r rows fuel F, nx + 1, nx⟩) (fun k => k ≤ rows.length) (fun k => rows.length - k) ⟨0, [], Nat.zero_le _, ?_⟩ ?_
 ·have hr2 : r < nx + 1 := by omega
  refine Wk_intro (by simp (disch := omega) [Wk, wkF, wkM, wkL, look_cons, renV, renA, renC, renB, rn, clV, clA, clAs, clB, notIn, findB, findB_setB, clA.go, ifN, hr2, forms_nil]) ?_ rfl (by simp; try omega) (by simp [wkL]; try omega)
  repeat' first | exact hF.wk (by simp [wkL]; try omega) (by simp; try omega) (by intro n hn; simp (disch := omega) [rn, ifN] at hn ⊢; omega) (by intro nm bx h1 h2 h3; simp only [notIn] at h2; simp only [findB, findB_setB]; (repeat (refine (ifN (by omega)).trans ?_)); exact h3) | refine wkM_cons ?_ ?_ ?_ ?_ ?_ | (simp (disch := omega) [Wk, wkF, wkM, wkL, look_cons, renV, renA, renC, renB, rn, clV, clA, clAs, clB, notIn, findB, findB_setB, clA.go, ifN, hr2, forms_nil] <;> omega) | omega
 intro k hk
 refine runW_sound ?_
 have hdl := hF.del (n := nx) (.inr (by omega))
 have hr2 : r < nx + 1 := by omega
 by_cases hlt : k < rows.length
 ·have g1 := map_get (f := rCells) hlt
  have et : (formsOf (rows.take (k + 1))).map lP = (formsOf (rows.take k)).map lP ++ [lP rows[k].1.1] := by
   rw [List.take_succ_eq_append_getElem hlt, formsOf, List.map_append, List.map_append]
   rfl
  have hlen : ((formsOf (rows.take k)).map lP).length ≤ 256 := by simp [formsOf]; omega
  generalize (formsOf (rows.take k)).map lP = D at *
  generalize rows[k] = z at *
  obtain ⟨⟨⟨K', l'⟩, q'⟩, b'⟩ := z
  simp only [rCells] at g1
  simp only [lP] at et
  repeat' first | simp (disch := omega) only [go_sem, ↓reduceIte, Nat.reduceEqDiff, reduceCtorEq, Int.reduceEq, g1, ifN, ifNP, hdl, wrap_i64] | ((with_reducible first | refine condD ?_ ?_ | refine condX ?_ ?_ | refine condW_intro ?_ ?_) <;> intro h <;> first | (exfalso; omega) | simp (disch := omega) only [go_sem, ↓reduceIte, Nat.reduceEqDiff, reduceCtorEq, Int.reduceEq, *, g1, ifN, ifNP, hdl, wrap_i64] | skip) | (refine app_own (by simp (disch := omega) only [findB, findB_setB, ifN, eq_self, ↓reduceIte, Option.map_some] <;> rfl) (by intro h; cases h) (rowsOk_one rfl) (by simp; omega) (by simp; omega) ?_)
  refine ⟨k + 1, [(nx, nx + 2)], hlt, by omega, ?_⟩
  refine Wk_intro (by simp (disch := omega) [Wk, wkF, wkM, wkL, look_cons, renV, renA, renC, renB, rn, clV, clA, clAs, clB, notIn, findB, findB_setB, clA.go, ifN, et, hr2]) ?_ rfl (by simp; try omega) (by simp [wkL]; try omega)
  repeat' first | exact hF.wk (by simp [wkL]; try omega) (by simp; try omega) (by intro n hn; simp (disch := omega) [rn, ifN] at hn ⊢; omega) (by intro nm bx h1 h2 h3; simp only [notIn] at h2; simp only [findB, findB_setB]; (repeat (refine (ifN (by omega)).trans ?_)); exact h3) | refine wkM_cons ?_ ?_ ?_ ?_ ?_ | (simp (disch := omega) [Wk, wkF, wkM, wkL, look_cons, renV, renA, renC, renB, rn, clV, clA, clAs, clB, notIn, findB, findB_setB, clA.go, ifN, et, hr2] <;> omega) | omega
 ·obtain rfl : k = rows.length := by omega
  rw [List.take_of_length_le (Nat.le_refl _)]
  have hfz := hF.frz (n := nx) (rows := (formsOf rows).map lP) (.inr (by omega))
  repeat' first | simp (disch := omega) only [go_sem, ↓reduceIte, Nat.reduceEqDiff, reduceCtorEq, Int.reduceEq, ifN, ifNP] | ((with_reducible first | refine condD ?_ ?_ | refine condX ?_ ?_ | refine condW_intro ?_ ?_) <;> intro h <;> first | (exfalso; omega) | simp (disch := omega) only [go_sem, ↓reduceIte, Nat.reduceEqDiff, reduceCtorEq, Int.reduceEq, *, ifN, ifNP] | skip) | (refine callW_z1 nx 34 2 ((formsOf rows).map lP) pn (by simp (disch := omega) only [findB, findB_setB, ifN, eq_self, ↓reduceIte, Option.map_some] <;> rfl) (by simp [frzV, frz1, purVs, purV, purAs, purA, purC]) (.inr (by simp [frzV, frz1, norefV, norefA, norefC])) ?_)
  refine ⟨[], [], ?_⟩
  simp (disch := omega) only [go_sem, ↓reduceIte, Nat.reduceEqDiff, reduceCtorEq, Int.reduceEq, frzLA, ifN, ifNP, hfz]
  refine Wk_intro (by simp (disch := omega) [Wk, wkF, wkM, wkL, look_cons, renV, renA, renC, renB, rn, clV, clA, clAs, clB, notIn, findB, findB_setB, clA.go, ifN]) ?_ rfl (by simp; try omega) (by simp [wkL]; try omega)
  repeat' first | exact hF.wk (by simp [wkL]; try omega) (by simp; try omega) (by intro n hn; simp (disch := omega) [rn, ifN] at hn ⊢; omega) (by intro nm bx h1 h2 h3; simp only [notIn] at h2; simp only [findB, findB_setB]; (repeat (refine (ifN (by omega)).trans ?_)); exact h3) | refine wkM_cons ?_ ?_ ?_ ?_ ?_ | (simp (disch := omega) [Wk, wkF, wkM, wkL, look_cons, renV, renA, renC, renB, rn, clV, clA, clAs, clB, notIn, findB, findB_setB, clA.go, ifN] <;> omega) | omega
theorem badRow_drop {rows : List Row} {k : Nat} (h : k < rows.length) : badRow (rows.drop k) = if conBad rows[k].1 then some rows[k].2 else badRow (rows.drop (k + 1)) := by
 rw [List.drop_eq_getElem_cons h, badRow]
theorem rowsOk_map {α : Type} {f : α → List PC} {sz : Nat} {xs : List α} (h : ∀ x, (f x).length = sz) : rowsOk sz (xs.map f) := by
 intro r hr
 obtain ⟨x, _, rfl⟩ := List.mem_map.1 hr
 exact h x
theorem slices_Clone_ints {xs : List Int} (hl : xs.length ≤ 1000000000) : PCalls Try.prog n_slices_Clone_int64_int64 [aInts xs] (aInts xs) := by
 refine PCalls.of is_slices_Clone_int64_int64 (by simp) fun _ => runW_sound ?_
 simp only [c_slices_Clone_int64_int64]
 have hok : rowsOk 1 (xs.map fun n => [pI n]) := rowsOk_map fun _ => rfl
 cases xs with
 | nil =>
  repeat' first | simp (disch := omega) only [go_sem, ↓reduceIte, Nat.reduceEqDiff, reduceCtorEq, Int.reduceEq] | ((with_reducible first | refine condD ?_ ?_ | refine condX ?_ ?_ | refine condW_intro ?_ ?_) <;> intro h <;> first | (exfalso; omega) | simp (disch := omega) only [go_sem, ↓reduceIte, Nat.reduceEqDiff, reduceCtorEq, Int.reduceEq, *] | skip) | (with_reducible refine bothW_intro ?_ ?_) | (with_reducible refine nilW_intro (fun h => ?_) ?_) | (refine app_tslP (by intro r hr; cases hr) hok (by simp) (by simp) ?_)
  all_goals rfl
 | cons x r =>
  have hl' : r.length ≤ 999999999 := by simpa using hl
  repeat' first | simp (disch := omega) only [go_sem, ↓reduceIte, Nat.reduceEqDiff, reduceCtorEq, Int.reduceEq] | ((with_reducible first | refine condD ?_ ?_ | refine condX ?_ ?_ | refine condW_intro ?_ ?_) <;> intro h <;> first | (exfalso; omega) | simp (disch := omega) only [go_sem, ↓reduceIte, Nat.reduceEqDiff, reduceCtorEq, Int.reduceEq, *] | skip) | (with_reducible refine bothW_intro ?_ ?_) | (with_reducible refine nilW_intro (fun h => ?_) ?_) | (refine app_tslP (by intro r hr; cases hr) hok (by simp; omega) (by simp; omega) ?_)
  all_goals rfl
/-- What the search for a contradictory row answers. -/
def badX : Option (List Int) → List AV
 | none => [.c .nils, Go.Abs.B false]
 | some b => [aInts b, Go.Abs.B true]
theorem elim_contradiction_abs {fuel : Int} {r nx : Nat} {rows : List Row} {F : List (Nat × Box)} (hrl : rows.length ≤ 256) (hlen : ∀ z ∈ rows, z.2.length ≤ 1000000000) (hr : 0 < r) (hrn : r < nx) (hF : frOk nx [0, r] F) :
  ICalls Try.prog n_elim_system_contradiction [.c (.ptr 0 0)] (sysM r rows fuel F) nx (packV (badX (badRow rows))) (sysM r rows fuel F) nx := by
 refine ICalls.ofZ is_elim_system_contradiction (by simp) fun _ => runW_sound ?_
 simp only [c_elim_system_contradiction]
 obtain ⟨R, hR⟩ : ∃ R, R = badRow (rows.drop 0) := ⟨_, rfl⟩
 have hR0 : badRow rows = R := hR.symm
 rw [hR0]
 have HR := Lib.hid hR
 clear hR hR0
 repeat' first | simp (disch := omega) only [go_sem, ↓reduceIte, Nat.reduceEqDiff, reduceCtorEq, Int.reduceEq, ifN, ifNP] | ((with_reducible first | refine condD ?_ ?_ | refine condX ?_ ?_ | refine condW_intro ?_ ?_) <;> intro h <;> first | (exfalso; omega) | simp (disch := omega) only [go_sem, ↓reduceIte, Nat.reduceEqDiff, reduceCtorEq, Int.reduceEq, *, ifN, ifNP] | skip)
 refine AW_loop (fun k : Nat => ⟨[(9, .c (.ref r)), (10, I rows.length), (11, I k)], sysM r rows fuel F, nx, nx⟩) (fun k => k ≤ rows.length ∧ Hid (R = badRow (rows.drop k))) (fun k => rows.length - k) ⟨0, [], ⟨Nat.zero_le _, HR⟩, ?_⟩ ?_
 ·refine Wk_intro (by simp (disch := omega) [Wk, wkF, wkM, wkL, look_cons, renV, renA, renC, renB, rn, clV, clA, clAs, clB, notIn, findB, findB_setB, clA.go, ifN, hrn]) ?_ rfl (by simp; try omega) (by simp [wkL]; try omega)
  repeat' first | exact hF.wk (by simp [wkL]; try omega) (by simp; try omega) (by intro n hn; simp (disch := omega) [rn, ifN] at hn ⊢; omega) (by intro nm bx h1 h2 h3; simp only [notIn] at h2; simp only [findB, findB_setB]; (repeat (refine (ifN (by omega)).trans ?_)); exact h3) | refine wkM_cons ?_ ?_ ?_ ?_ ?_ | (simp (disch := omega) [Wk, wkF, wkM, wkL, look_cons, renV, renA, renC, renB, rn, clV, clA, clAs, clB, notIn, findB, findB_setB, clA.go, ifN, hrn] <;> omega) | omega
 clear HR
 rintro k ⟨hk, HR⟩
 refine runW_sound ?_
 have hr2 : r < nx + 1 := by omega
 by_cases hlt : k < rows.length
 ·have g1 := map_get (f := rCells) hlt
  have h2 := HR.out
  rw [badRow_drop hlt] at h2
  have hzl := hlen _ (List.getElem_mem hlt)
  clear HR
  generalize rows[k] = z at *
  obtain ⟨⟨⟨K', l'⟩, q'⟩, b'⟩ := z
  have pc := elim_contradictory_abs ((K', l'), q')
  have pl := slices_Clone_ints hzl
  simp only [rCells] at g1
  simp only at h2
  by_cases hb : conBad ((K', l'), q')
  ·rw [if_pos hb] at h2
   subst h2
   rw [decide_eq_true hb] at pc
   clear hb
   simp only [badX]
   repeat' first | simp (disch := omega) only [go_sem, ↓reduceIte, Nat.reduceEqDiff, reduceCtorEq, Int.reduceEq, g1, ifN, ifNP] | ((with_reducible first | refine condD ?_ ?_ | refine condX ?_ ?_ | refine condW_intro ?_ ?_) <;> intro h <;> first | (exfalso; omega) | simp (disch := omega) only [go_sem, ↓reduceIte, Nat.reduceEqDiff, reduceCtorEq, Int.reduceEq, *, g1, ifN, ifNP] | skip) | (refine callW_of pc rfl (.inl rfl) ?_) | (refine callW_of pl rfl (.inr rfl) ?_)
   refine ⟨[], [], ?_⟩
   simp (disch := omega) only [go_sem, ↓reduceIte, Nat.reduceEqDiff, reduceCtorEq, Int.reduceEq, frzLA, ifN, ifNP, badX]
   refine Wk_intro (by simp (disch := omega) [Wk, wkF, wkM, wkL, look_cons, renV, renA, renC, renB, rn, clV, clA, clAs, clB, notIn, findB, findB_setB, clA.go, ifN, hr2, hrn]) ?_ rfl (by simp; try omega) (by simp [wkL]; try omega)
   repeat' first | exact hF.wk (by simp [wkL]; try omega) (by simp; try omega) (by intro n hn; simp (disch := omega) [rn, ifN] at hn ⊢; omega) (by intro nm bx h1 h2 h3; simp only [notIn] at h2; simp only [findB, findB_setB]; (repeat (refine (ifN (by omega)).trans ?_)); exact h3) | refine wkM_cons ?_ ?_ ?_ ?_ ?_ | (simp (disch := omega) [Wk, wkF, wkM, wkL, look_cons, renV, renA, renC, renB, rn, clV, clA, clAs, clB, notIn, findB, findB_setB, clA.go, ifN, hr2, hrn] <;> omega) | omega
  ·rw [if_neg hb] at h2
   rw [decide_eq_false hb] at pc
   have HR := Lib.hid h2
   clear h2 hb pl
   repeat' first | simp (disch := omega) only [go_sem, ↓reduceIte, Nat.reduceEqDiff, reduceCtorEq, Int.reduceEq, g1, ifN, ifNP, wrap_i64] | ((with_reducible first | refine condD ?_ ?_ | refine condX ?_ ?_ | refine condW_intro ?_ ?_) <;> intro h <;> first | (exfalso; omega) | simp (disch := omega) only [go_sem, ↓reduceIte, Nat.reduceEqDiff, reduceCtorEq, Int.reduceEq, *, g1, ifN, ifNP, wrap_i64] | skip) | (refine callW_of pc rfl (.inl rfl) ?_)
   refine ⟨k + 1, [], ⟨hlt, HR⟩, by omega, ?_⟩
   refine Wk_intro (by simp (disch := omega) [Wk, wkF, wkM, wkL, look_cons, renV, renA, renC, renB, rn, clV, clA, clAs, clB, notIn, findB, findB_setB, clA.go, ifN, hr2, hrn]) ?_ rfl (by simp; try omega) (by simp [wkL]; try omega)
   repeat' first | exact hF.wk (by simp [wkL]; try omega) (by simp; try omega) (by intro n hn; simp (disch := omega) [rn, ifN] at hn ⊢; omega) (by intro nm bx h1 h2 h3; simp only [notIn] at h2; simp only [findB, findB_setB]; (repeat (refine (ifN (by omega)).trans ?_)); exact h3) | refine wkM_cons ?_ ?_ ?_ ?_ ?_ | (simp (disch := omega) [Wk, wkF, wkM, wkL, look_cons, renV, renA, renC, renB, rn, clV, clA, clAs, clB, notIn, findB, findB_setB, clA.go, ifN, hr2, hrn] <;> omega) | omega
 ·have h2 := HR.out
  rw [List.drop_eq_nil_of_le (by omega), badRow] at h2
  subst h2
  clear HR
  simp only [badX]
  repeat' first | simp (disch := omega) only [go_sem, ↓reduceIte, Nat.reduceEqDiff, reduceCtorEq, Int.reduceEq, ifN, ifNP] | ((with_reducible first | refine condD ?_ ?_ | refine condX ?_ ?_ | refine condW_intro ?_ ?_) <;> intro h <;> first | (exfalso; omega) | simp (disch := omega) only [go_sem, ↓reduceIte, Nat.reduceEqDiff, reduceCtorEq, Int.reduceEq, *, ifN, ifNP] | skip)
  refine ⟨[], [], ?_⟩
  simp (disch := omega) only [go_sem, ↓reduceIte, Nat.reduceEqDiff, reduceCtorEq, Int.reduceEq, frzLA, ifN, ifNP, badX]
  refine Wk_intro (by simp (disch := omega) [Wk, wkF, wkM, wkL, look_cons, renV, renA, renC, renB, rn, clV, clA, clAs, clB, notIn, findB, findB_setB, clA.go, ifN, hr2, hrn]) ?_ rfl (by simp; try omega) (by simp [wkL]; try omega)
  repeat' first | exact hF.wk (by simp [wkL]; try omega) (by simp; try omega) (by intro n hn; simp (disch := omega) [rn, ifN] at hn ⊢; omega) (by intro nm bx h1 h2 h3; simp only [notIn] at h2; simp only [findB, findB_setB]; (repeat (refine (ifN (by omega)).trans ?_)); exact h3) | refine wkM_cons ?_ ?_ ?_ ?_ ?_ | (simp (disch := omega) [Wk, wkF, wkM, wkL, look_cons, renV, renA, renC, renB, rn, clV, clA, clAs, clB, notIn, findB, findB_setB, clA.go, ifN, hr2, hrn] <;> omega) | omega
theorem eqAt_drop {n : ByteArray} {rows : List Row} {k : Nat} (h : k < rows.length) : eqAt n k (rows.drop k) = if cf rows[k].1.1.2 n ≠ 0 ∧ rows[k].1.2 = true then some k else eqAt n (k + 1) (rows.drop (k + 1)) := by
 rw [List.drop_eq_getElem_cons h, eqAt]
theorem lows_take {n : ByteArray} {rows : List Row} {k : Nat} (h : k < rows.length) : lows n (rows.take (k + 1)) = lows n (rows.take k) + if 0 < cf rows[k].1.1.2 n then 1 else 0 := by
 rw [List.take_succ_eq_append_getElem h, lows, List.filter_append, List.length_append, ← lows]
 congr 1
 by_cases h0 : 0 < cf rows[k].1.1.2 n <;> simp [h0]
theorem ups_take {n : ByteArray} {rows : List Row} {k : Nat} (h : k < rows.length) : ups n (rows.take (k + 1)) = ups n (rows.take k) + if cf rows[k].1.1.2 n < 0 then 1 else 0 := by
 rw [List.take_succ_eq_append_getElem h, ups, List.filter_append, List.length_append, ← ups]
 congr 1
 by_cases h0 : cf rows[k].1.1.2 n < 0 <;> simp [h0]
theorem lows_len (n : ByteArray) (rows : List Row) : lows n rows ≤ rows.length := List.length_filter_le _ _
theorem ups_len (n : ByteArray) (rows : List Row) : ups n rows ≤ rows.length := List.length_filter_le _ _
abbrev chR (x : ByteArray × Int × Bool) : List AV := [S x.1, I x.2.1, Go.Abs.B x.2.2]
set_option maxHeartbeats 2000000 in
theorem elim_choose_abs {fuel : Int} {r nx : Nat} {rows : List Row} {F : List (Nat × Box)} (hrl : rows.length ≤ 256) (hn : (namesAll rows).length ≤ 1000000000) (hr : 0 < r) (hrn : r < nx) (hF : frOk nx [0, r] F) :
  ICalls Try.prog n_elim_system_choose [.c (.ptr 0 0)] (sysM r rows fuel F) nx (packV (chR (chooseS rows))) (sysM r rows fuel F) nx := by
 refine ICalls.ofZ is_elim_system_choose (by simp) fun _ => runW_sound ?_
 have pn := elim_names_abs (fuel := fuel) hrl hn hr hrn hF
 simp only [c_elim_system_choose]
 unfold chooseS
 generalize namesU rows = ns at *
 have hr2 : r < nx + 1 := by omega
 have h0n : 0 < nx := by omega
 have hemp : (⟨⟨[]⟩⟩ : ByteArray) = ByteArray.empty := rfl
 obtain ⟨R, hR⟩ : ∃ R, R = chooseF rows (ns.drop 0) (-1) .empty := ⟨_, rfl⟩
 have hR0 : chooseF rows ns (-1) .empty = R := hR.symm
 rw [hR0]
 have HR := Lib.hid hR
 clear hR hR0 hn
 repeat' first | simp (disch := omega) only [go_sem, ↓reduceIte, Nat.reduceEqDiff, reduceCtorEq, Int.reduceEq, ifN, ifNP] | ((with_reducible first | refine condD ?_ ?_ | refine condX ?_ ?_ | refine condW_intro ?_ ?_) <;> intro h <;> first | (exfalso; omega) | simp (disch := omega) only [go_sem, ↓reduceIte, Nat.reduceEqDiff, reduceCtorEq, Int.reduceEq, *, ifN, ifNP] | skip) | (refine callW_i pn ?_)
 refine AW_bnd 16 fun hbl => ?_
 have hnl : ns.length ≤ 9223372036854775807 := by simpa [look_cons, bndV, bndA] using hbl
 clear hbl pn
 refine AW_loop (fun s : Nat × Int × ByteArray => ⟨[(0, .c (.ptr 0 0)), (5, I s.2.1), (6, S s.2.2), (7, I (-1)), (16, aStrs ns), (17, I ns.length), (18, I s.1)], sysM r rows fuel F, nx, nx⟩)
  (fun s => s.1 ≤ ns.length ∧ -1 ≤ s.2.1 ∧ s.2.1 ≤ 65536 ∧ Hid (R = chooseF rows (ns.drop s.1) s.2.1 s.2.2)) (fun s => ns.length - s.1) ⟨(0, -1, .empty), [], ⟨Nat.zero_le _, by simp, by simp, HR⟩, ?_⟩ ?_
 ·refine Wk_intro (by simp (disch := omega) [Wk, wkF, wkM, wkL, look_cons, renV, renA, renC, renB, rn, clV, clA, clAs, clB, notIn, findB, findB_setB, clA.go, ifN, hr2, hrn, h0n, hemp]) ?_ rfl (by simp; try omega) (by simp [wkL]; try omega)
  repeat' first | exact hF.wk (by simp [wkL]; try omega) (by simp; try omega) (by intro n hn; simp (disch := omega) [rn, ifN] at hn ⊢; omega) (by intro nm bx h1 h2 h3; simp only [notIn] at h2; simp only [findB, findB_setB]; (repeat (refine (ifN (by omega)).trans ?_)); exact h3) | refine wkM_cons ?_ ?_ ?_ ?_ ?_ | (simp (disch := omega) [Wk, wkF, wkM, wkL, look_cons, renV, renA, renC, renB, rn, clV, clA, clAs, clB, notIn, findB, findB_setB, clA.go, ifN, hr2, hrn, h0n, hemp] <;> omega) | omega
 clear HR
 rintro ⟨j, best, name⟩ ⟨hj, hb1, hb2, HR⟩
 simp only at hj hb1 hb2 HR
 refine runW_sound ?_
 by_cases hlt : j < ns.length
 ·have g1 := map_get (f := fun s => [pS s]) hlt
  have h2 := HR.out
  rw [List.drop_eq_getElem_cons hlt, chooseF] at h2
  clear HR
  generalize ns[j] = v at *
  obtain ⟨E, hE⟩ : ∃ E, E = eqAt v 0 (rows.drop 0) := ⟨_, rfl⟩
  have hE0 : eqAt v 0 rows = E := hE.symm
  rw [hE0] at h2
  have HE := Lib.hid hE
  have HR := Lib.hid h2
  clear hE hE0 h2
  repeat' first | simp (disch := omega) only [go_sem, ↓reduceIte, Nat.reduceEqDiff, reduceCtorEq, Int.reduceEq, g1, ifN, ifNP] | ((with_reducible first | refine condD ?_ ?_ | refine condX ?_ ?_ | refine condW_intro ?_ ?_) <;> intro h <;> first | (exfalso; omega) | simp (disch := omega) only [go_sem, ↓reduceIte, Nat.reduceEqDiff, reduceCtorEq, Int.reduceEq, *, g1, ifN, ifNP] | skip)
  refine AW_loop (fun i : Nat => ⟨[(0, .c (.ptr 0 0)), (5, I best), (6, S name), (7, I (-1)), (9, S v), (10, I (lows v (rows.take i))), (11, I (ups v (rows.take i))), (16, aStrs ns), (17, I ns.length), (18, I j), (25, .c (.ref r)), (26, I rows.length), (27, I i)], sysM r rows fuel F, nx, nx⟩)
   (fun i => i ≤ rows.length ∧ Hid (E = eqAt v i (rows.drop i))) (fun i => rows.length - i) ⟨0, [], ⟨Nat.zero_le _, HE⟩, ?_⟩ ?_
  ·refine Wk_intro (by simp (disch := omega) [Wk, wkF, wkM, wkL, look_cons, renV, renA, renC, renB, rn, clV, clA, clAs, clB, notIn, findB, findB_setB, clA.go, ifN, hr2, hrn, h0n, lows, ups]) ?_ rfl (by simp; try omega) (by simp [wkL]; try omega)
   repeat' first | exact hF.wk (by simp [wkL]; try omega) (by simp; try omega) (by intro n hn; simp (disch := omega) [rn, ifN] at hn ⊢; omega) (by intro nm bx h1 h2 h3; simp only [notIn] at h2; simp only [findB, findB_setB]; (repeat (refine (ifN (by omega)).trans ?_)); exact h3) | refine wkM_cons ?_ ?_ ?_ ?_ ?_ | (simp (disch := omega) [Wk, wkF, wkM, wkL, look_cons, renV, renA, renC, renB, rn, clV, clA, clAs, clB, notIn, findB, findB_setB, clA.go, ifN, hr2, hrn, h0n, lows, ups] <;> omega) | omega
  clear HE
  rintro i ⟨hi, HE⟩
  refine runW_sound ?_
  by_cases hli : i < rows.length
  ·have g2 := map_get (f := rCells) hli
   have hlo := lows_take (n := v) hli
   have hup := ups_take (n := v) hli
   have l1 := lows_len v (rows.take i)
   have l2 := ups_len v (rows.take i)
   have h2 := HE.out
   rw [eqAt_drop hli] at h2
   rw [List.length_take] at l1 l2
   clear HE
   generalize lows v (rows.take i) = L at *
   generalize ups v (rows.take i) = U' at *
   generalize rows[i] = z at *
   obtain ⟨⟨⟨K', l'⟩, q'⟩, b'⟩ := z
   have pc := elim_coefficient_abs ((K', l'), q') v
   simp only [rCells] at g2
   simp only at h2 pc hlo hup
   generalize cf l' v = c at *
   by_cases h0 : c = 0
   ·subst h0
    rw [if_neg (by simp)] at h2
    rw [if_neg (by simp), Nat.add_zero] at hlo hup
    have HE := Lib.hid h2
    clear h2
    repeat' first | simp (disch := omega) only [go_sem, ↓reduceIte, Nat.reduceEqDiff, reduceCtorEq, Int.reduceEq, g2, ifN, ifNP, wrap_i64] | ((with_reducible first | refine condD ?_ ?_ | refine condX ?_ ?_ | refine condW_intro ?_ ?_) <;> intro h <;> first | (exfalso; omega) | simp (disch := omega) only [go_sem, ↓reduceIte, Nat.reduceEqDiff, reduceCtorEq, Int.reduceEq, *, g2, ifN, ifNP, wrap_i64] | skip) | (refine callW_of pc rfl (.inl rfl) ?_)
    refine ⟨i + 1, [], ⟨hli, HE⟩, by omega, ?_⟩
    refine Wk_intro (by simp (disch := omega) [Wk, wkF, wkM, wkL, look_cons, renV, renA, renC, renB, rn, clV, clA, clAs, clB, notIn, findB, findB_setB, clA.go, ifN, hlo, hup, hr2, hrn, h0n]) ?_ rfl (by simp; try omega) (by simp [wkL]; try omega)
    repeat' first | exact hF.wk (by simp [wkL]; try omega) (by simp; try omega) (by intro n hn; simp (disch := omega) [rn, ifN] at hn ⊢; omega) (by intro nm bx h1 h2 h3; simp only [notIn] at h2; simp only [findB, findB_setB]; (repeat (refine (ifN (by omega)).trans ?_)); exact h3) | refine wkM_cons ?_ ?_ ?_ ?_ ?_ | (simp (disch := omega) [Wk, wkF, wkM, wkL, look_cons, renV, renA, renC, renB, rn, clV, clA, clAs, clB, notIn, findB, findB_setB, clA.go, ifN, hlo, hup, hr2, hrn, h0n] <;> omega) | omega
   ·cases q'
    ·rw [if_neg (by simp)] at h2
     have HE := Lib.hid h2
     clear h2
     by_cases hp : 0 < c
     ·have hn : ¬ c < 0 := by omega
      rw [if_pos hp] at hlo
      rw [if_neg hn, Nat.add_zero] at hup
      repeat' first | simp (disch := omega) only [go_sem, ↓reduceIte, Nat.reduceEqDiff, reduceCtorEq, Int.reduceEq, g2, ifN, ifNP, wrap_i64, h0, hp, hn] | ((with_reducible first | refine condD ?_ ?_ | refine condX ?_ ?_ | refine condW_intro ?_ ?_) <;> intro h <;> first | (exfalso; omega) | simp (disch := omega) only [go_sem, ↓reduceIte, Nat.reduceEqDiff, reduceCtorEq, Int.reduceEq, *, g2, ifN, ifNP, wrap_i64, h0, hp, hn] | skip) | (refine callW_of pc rfl (.inl rfl) ?_)
      refine ⟨i + 1, [], ⟨hli, HE⟩, by omega, ?_⟩
      refine Wk_intro (by simp (disch := omega) [Wk, wkF, wkM, wkL, look_cons, renV, renA, renC, renB, rn, clV, clA, clAs, clB, notIn, findB, findB_setB, clA.go, ifN, hlo, hup, hr2, hrn, h0n]) ?_ rfl (by simp; try omega) (by simp [wkL]; try omega)
      repeat' first | exact hF.wk (by simp [wkL]; try omega) (by simp; try omega) (by intro n hn; simp (disch := omega) [rn, ifN] at hn ⊢; omega) (by intro nm bx h1 h2 h3; simp only [notIn] at h2; simp only [findB, findB_setB]; (repeat (refine (ifN (by omega)).trans ?_)); exact h3) | refine wkM_cons ?_ ?_ ?_ ?_ ?_ | (simp (disch := omega) [Wk, wkF, wkM, wkL, look_cons, renV, renA, renC, renB, rn, clV, clA, clAs, clB, notIn, findB, findB_setB, clA.go, ifN, hlo, hup, hr2, hrn, h0n] <;> omega) | omega
     ·have hn : c < 0 := by omega
      rw [if_neg hp, Nat.add_zero] at hlo
      rw [if_pos hn] at hup
      repeat' first | simp (disch := omega) only [go_sem, ↓reduceIte, Nat.reduceEqDiff, reduceCtorEq, Int.reduceEq, g2, ifN, ifNP, wrap_i64, h0, hp, hn] | ((with_reducible first | refine condD ?_ ?_ | refine condX ?_ ?_ | refine condW_intro ?_ ?_) <;> intro h <;> first | (exfalso; omega) | simp (disch := omega) only [go_sem, ↓reduceIte, Nat.reduceEqDiff, reduceCtorEq, Int.reduceEq, *, g2, ifN, ifNP, wrap_i64, h0, hp, hn] | skip) | (refine callW_of pc rfl (.inl rfl) ?_)
      refine ⟨i + 1, [], ⟨hli, HE⟩, by omega, ?_⟩
      refine Wk_intro (by simp (disch := omega) [Wk, wkF, wkM, wkL, look_cons, renV, renA, renC, renB, rn, clV, clA, clAs, clB, notIn, findB, findB_setB, clA.go, ifN, hlo, hup, hr2, hrn, h0n]) ?_ rfl (by simp; try omega) (by simp [wkL]; try omega)
      repeat' first | exact hF.wk (by simp [wkL]; try omega) (by simp; try omega) (by intro n hn; simp (disch := omega) [rn, ifN] at hn ⊢; omega) (by intro nm bx h1 h2 h3; simp only [notIn] at h2; simp only [findB, findB_setB]; (repeat (refine (ifN (by omega)).trans ?_)); exact h3) | refine wkM_cons ?_ ?_ ?_ ?_ ?_ | (simp (disch := omega) [Wk, wkF, wkM, wkL, look_cons, renV, renA, renC, renB, rn, clV, clA, clAs, clB, notIn, findB, findB_setB, clA.go, ifN, hlo, hup, hr2, hrn, h0n] <;> omega) | omega
    ·rw [if_pos ⟨h0, rfl⟩] at h2
     subst h2
     have h3 := HR.out
     simp only at h3
     subst h3
     clear HR hlo hup
     repeat' first | simp (disch := omega) only [go_sem, ↓reduceIte, Nat.reduceEqDiff, reduceCtorEq, Int.reduceEq, g2, ifN, ifNP, wrap_i64, h0] | ((with_reducible first | refine condD ?_ ?_ | refine condX ?_ ?_ | refine condW_intro ?_ ?_) <;> intro h <;> first | (exfalso; omega) | simp (disch := omega) only [go_sem, ↓reduceIte, Nat.reduceEqDiff, reduceCtorEq, Int.reduceEq, *, g2, ifN, ifNP, wrap_i64, h0] | skip) | (refine callW_of pc rfl (.inl rfl) ?_)
     refine ⟨[], [], ?_⟩
     simp (disch := omega) only [go_sem, ↓reduceIte, Nat.reduceEqDiff, reduceCtorEq, Int.reduceEq, frzLA, ifN, ifNP]
     refine Wk_intro (by simp (disch := omega) [Wk, wkF, wkM, wkL, look_cons, renV, renA, renC, renB, rn, clV, clA, clAs, clB, notIn, findB, findB_setB, clA.go, ifN, hr2, hrn, h0n, hemp]) ?_ rfl (by simp; try omega) (by simp [wkL]; try omega)
     repeat' first | exact hF.wk (by simp [wkL]; try omega) (by simp; try omega) (by intro n hn; simp (disch := omega) [rn, ifN] at hn ⊢; omega) (by intro nm bx h1 h2 h3; simp only [notIn] at h2; simp only [findB, findB_setB]; (repeat (refine (ifN (by omega)).trans ?_)); exact h3) | refine wkM_cons ?_ ?_ ?_ ?_ ?_ | (simp (disch := omega) [Wk, wkF, wkM, wkL, look_cons, renV, renA, renC, renB, rn, clV, clA, clAs, clB, notIn, findB, findB_setB, clA.go, ifN, hr2, hrn, h0n, hemp] <;> omega) | omega
  ·obtain rfl : i = rows.length := by omega
   have h2 := HE.out
   rw [List.drop_eq_nil_of_le (by omega), eqAt] at h2
   subst h2
   have h3 := HR.out
   simp only at h3
   rw [List.take_of_length_le (Nat.le_refl _)]
   have l1 := lows_len v rows
   have l2 := ups_len v rows
   clear HR HE
   generalize lows v rows = L at *
   generalize ups v rows = U' at *
   have hm : L * U' ≤ 65536 := Nat.le_trans (Nat.mul_le_mul (Nat.le_trans l1 hrl) (Nat.le_trans l2 hrl)) (by decide)
   have hmi : (L : Int) * (U' : Int) = ((L * U' : Nat) : Int) := by simp
   rw [← hmi] at h3
   have hm0 : 0 ≤ (L : Int) * (U' : Int) := by rw [hmi]; omega
   have hm1 : (L : Int) * (U' : Int) ≤ 65536 := by rw [hmi]; omega
   obtain ⟨M, hM⟩ : ∃ M, M = (L : Int) * (U' : Int) := ⟨_, rfl⟩
   rw [← hM] at h3 hm0 hm1
   have hw : IntKind.wrap .i64 ((L : Int) * (U' : Int)) = M := by rw [← hM]; exact wrap_i64 ⟨by omega, by omega⟩
   clear hm hmi l1 l2 hM
   by_cases hb : best < 0 ∨ M < best
   ·rw [if_pos hb] at h3
    have HR := Lib.hid h3
    clear h3
    rcases hb with hb | hb
    ·repeat' first | simp (disch := omega) only [go_sem, ↓reduceIte, Nat.reduceEqDiff, reduceCtorEq, Int.reduceEq, ifN, ifNP, hw, hb, wrap_i64] | ((with_reducible first | refine condD ?_ ?_ | refine condX ?_ ?_ | refine condW_intro ?_ ?_) <;> intro h <;> first | (exfalso; omega) | simp (disch := omega) only [go_sem, ↓reduceIte, Nat.reduceEqDiff, reduceCtorEq, Int.reduceEq, *, ifN, ifNP, hw, hb, wrap_i64] | skip)
     refine ⟨(j + 1, M, v), [], ⟨hlt, by simp only; omega, hm1, HR⟩, by show _ - _ < _ - _; omega, ?_⟩
     refine Wk_intro (by simp (disch := omega) [Wk, wkF, wkM, wkL, look_cons, renV, renA, renC, renB, rn, clV, clA, clAs, clB, notIn, findB, findB_setB, clA.go, ifN, hr2, hrn, h0n, hemp]) ?_ rfl (by simp; try omega) (by simp [wkL]; try omega)
     repeat' first | exact hF.wk (by simp [wkL]; try omega) (by simp; try omega) (by intro n hn; simp (disch := omega) [rn, ifN] at hn ⊢; omega) (by intro nm bx h1 h2 h3; simp only [notIn] at h2; simp only [findB, findB_setB]; (repeat (refine (ifN (by omega)).trans ?_)); exact h3) | refine wkM_cons ?_ ?_ ?_ ?_ ?_ | (simp (disch := omega) [Wk, wkF, wkM, wkL, look_cons, renV, renA, renC, renB, rn, clV, clA, clAs, clB, notIn, findB, findB_setB, clA.go, ifN, hr2, hrn, h0n, hemp] <;> omega) | omega
    ·repeat' first | simp (disch := omega) only [go_sem, ↓reduceIte, Nat.reduceEqDiff, reduceCtorEq, Int.reduceEq, ifN, ifNP, hw, hb, wrap_i64] | ((with_reducible first | refine condD ?_ ?_ | refine condX ?_ ?_ | refine condW_intro ?_ ?_) <;> intro h <;> first | (exfalso; omega) | simp (disch := omega) only [go_sem, ↓reduceIte, Nat.reduceEqDiff, reduceCtorEq, Int.reduceEq, *, ifN, ifNP, hw, hb, wrap_i64] | skip)
     refine ⟨(j + 1, M, v), [], ⟨hlt, by simp only; omega, hm1, HR⟩, by show _ - _ < _ - _; omega, ?_⟩
     refine Wk_intro (by simp (disch := omega) [Wk, wkF, wkM, wkL, look_cons, renV, renA, renC, renB, rn, clV, clA, clAs, clB, notIn, findB, findB_setB, clA.go, ifN, hr2, hrn, h0n, hemp]) ?_ rfl (by simp; try omega) (by simp [wkL]; try omega)
     repeat' first | exact hF.wk (by simp [wkL]; try omega) (by simp; try omega) (by intro n hn; simp (disch := omega) [rn, ifN] at hn ⊢; omega) (by intro nm bx h1 h2 h3; simp only [notIn] at h2; simp only [findB, findB_setB]; (repeat (refine (ifN (by omega)).trans ?_)); exact h3) | refine wkM_cons ?_ ?_ ?_ ?_ ?_ | (simp (disch := omega) [Wk, wkF, wkM, wkL, look_cons, renV, renA, renC, renB, rn, clV, clA, clAs, clB, notIn, findB, findB_setB, clA.go, ifN, hr2, hrn, h0n, hemp] <;> omega) | omega
   ·rw [if_neg hb] at h3
    have HR := Lib.hid h3
    clear h3
    have n1 : ¬ best < 0 := by omega
    have n2 : ¬ M < best := by omega
    clear hb
    repeat' first | simp (disch := omega) only [go_sem, ↓reduceIte, Nat.reduceEqDiff, reduceCtorEq, Int.reduceEq, ifN, ifNP, hw, n1, n2, wrap_i64] | ((with_reducible first | refine condD ?_ ?_ | refine condX ?_ ?_ | refine condW_intro ?_ ?_) <;> intro h <;> first | (exfalso; omega) | simp (disch := omega) only [go_sem, ↓reduceIte, Nat.reduceEqDiff, reduceCtorEq, Int.reduceEq, *, ifN, ifNP, hw, n1, n2, wrap_i64] | skip)
    refine ⟨(j + 1, best, name), [], ⟨hlt, hb1, hb2, HR⟩, by show _ - _ < _ - _; omega, ?_⟩
    refine Wk_intro (by simp (disch := omega) [Wk, wkF, wkM, wkL, look_cons, renV, renA, renC, renB, rn, clV, clA, clAs, clB, notIn, findB, findB_setB, clA.go, ifN, hr2, hrn, h0n, hemp]) ?_ rfl (by simp; try omega) (by simp [wkL]; try omega)
    repeat' first | exact hF.wk (by simp [wkL]; try omega) (by simp; try omega) (by intro n hn; simp (disch := omega) [rn, ifN] at hn ⊢; omega) (by intro nm bx h1 h2 h3; simp only [notIn] at h2; simp only [findB, findB_setB]; (repeat (refine (ifN (by omega)).trans ?_)); exact h3) | refine wkM_cons ?_ ?_ ?_ ?_ ?_ | (simp (disch := omega) [Wk, wkF, wkM, wkL, look_cons, renV, renA, renC, renB, rn, clV, clA, clAs, clB, notIn, findB, findB_setB, clA.go, ifN, hr2, hrn, h0n, hemp] <;> omega) | omega
 ·have h2 := HR.out
  rw [List.drop_eq_nil_of_le (by omega), chooseF] at h2
  subst h2
  clear HR
  repeat' first | simp (disch := omega) only [go_sem, ↓reduceIte, Nat.reduceEqDiff, reduceCtorEq, Int.reduceEq, ifN, ifNP] | ((with_reducible first | refine condD ?_ ?_ | refine condX ?_ ?_ | refine condW_intro ?_ ?_) <;> intro h <;> first | (exfalso; omega) | simp (disch := omega) only [go_sem, ↓reduceIte, Nat.reduceEqDiff, reduceCtorEq, Int.reduceEq, *, ifN, ifNP] | skip)
  refine ⟨[], [], ?_⟩
  simp (disch := omega) only [go_sem, ↓reduceIte, Nat.reduceEqDiff, reduceCtorEq, Int.reduceEq, frzLA, ifN, ifNP]
  refine Wk_intro (by simp (disch := omega) [Wk, wkF, wkM, wkL, look_cons, renV, renA, renC, renB, rn, clV, clA, clAs, clB, notIn, findB, findB_setB, clA.go, ifN, hr2, hrn, h0n, hemp]) ?_ rfl (by simp; try omega) (by simp [wkL]; try omega)
  repeat' first | exact hF.wk (by simp [wkL]; try omega) (by simp; try omega) (by intro n hn; simp (disch := omega) [rn, ifN] at hn ⊢; omega) (by intro nm bx h1 h2 h3; simp only [notIn] at h2; simp only [findB, findB_setB]; (repeat (refine (ifN (by omega)).trans ?_)); exact h3) | refine wkM_cons ?_ ?_ ?_ ?_ ?_ | (simp (disch := omega) [Wk, wkF, wkM, wkL, look_cons, renV, renA, renC, renB, rn, clV, clA, clAs, clB, notIn, findB, findB_setB, clA.go, ifN, hr2, hrn, h0n, hemp] <;> omega) | omega
end Go.Proofs.Ytnddmjhpplopbaa
