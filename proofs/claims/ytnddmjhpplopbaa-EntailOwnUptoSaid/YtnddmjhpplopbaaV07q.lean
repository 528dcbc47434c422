/- Walks by the abstract machine: rows added with multipliers. Walks by the abstract machine: a row added to the system. -/
import Derived.Test.YtnddmjhpplopbaaV07p
import Derived.Test.YtnddmjhpplopbaaAbs23
set_option linter.unusedVariables false
set_option linter.unusedSimpArgs false
set_option maxRecDepth 20000
namespace Go.Proofs.Ytnddmjhpplopbaa
open Go.Abs Go.RowKit

abbrev sysM (r : Nat) (rows : List Row) (fuel : Int) (F : List (Nat × Box)) : List (Nat × Box) := (r, .arr 64 4 (rows.map rCells)) :: (0, .var [.ref r, .pure (pI fuel)]) :: F
abbrev aRowN : AV := .agg [.pure (pI 0), .nils, .pure (pB false), .nils]
abbrev rowX (x : Row × Int) : List AV := [if x.2 = 0 then aRow x.1 else aRowN, I x.2]
theorem sumsF_none {x y : Int} {l : List (Int × Int)} {k : Nat} (h : k < l.length) (hb : sumOk x y l[k] = false) : sumsF x y (l.drop k) = none := by
 rw [List.drop_eq_getElem_cons h, sumsF, hb]
 rfl
theorem sumsF_some {x y : Int} {l : List (Int × Int)} {k : Nat} (h : k < l.length) (hb : sumOk x y l[k] = true) : sumsF x y (l.drop k) = (sumsF x y (l.drop (k + 1))).map ((l[k].1 * x + l[k].2 * y) :: ·) := by
 rw [List.drop_eq_getElem_cons h, sumsF, hb]
 rfl
theorem ovf {U V : Int} (hU : in64 U) (hV : in64 V) (h : ¬ in64 (U + V)) : (U < 0 ∧ V < 0 ∧ ¬ IntKind.wrap .i64 (U + V) < 0) ∨ (¬ U < 0 ∧ ¬ V < 0 ∧ IntKind.wrap .i64 (U + V) < 0) := by
 rw [IntKind.wrap_i64]
 unfold in64 at *
 omega
theorem sumOk_iff {x y : Int} {p : Int × Int} : sumOk x y p = true ↔ in64 (p.1 * x) ∧ in64 (p.2 * y) ∧ in64 (p.1 * x + p.2 * y) := by simp [sumOk]
set_option maxHeartbeats 2000000 in
theorem elim_merge_abs {a b : Row} {x y fuel : Int} {r nx : Nat} {rows : List Row} {F : List (Nat × Box)} (ha : row64 a) (hb : row64 b) (hx : in64 x) (hy : in64 y) (hab : a.2.length = b.2.length) (hal : a.2.length ≤ 1000000000)
  (hla : a.1.1.2.length ≤ 400000000) (hlb : b.1.1.2.length ≤ 400000000) (hf0 : 0 ≤ fuel) (hf1 : fuel ≤ 2000000) (hr : 0 < r) (hrn : r < nx) (hF : frOk nx [0, r] F) :
  ICalls Try.prog n_elim_system_merge [.c (.ptr 0 0), aRow a, aRow b, I x, I y] (sysM r rows fuel F) nx (packV (rowX (mergeS fuel a b x y))) (sysM r rows (fuel - 1) F) nx := by
 refine ICalls.ofZ is_elim_system_merge (by simp) fun _ => runW_sound ?_
 have pc := constraint_Combine_abs (l := [a.1, b.1]) (b := [x, y]) (by simp; exact ⟨ha.1, hb.1⟩) (by simp; exact ⟨hx, hy⟩) (by simp [tot]; omega)
 simp only [c_elim_system_merge]
 have ef : IntKind.wrap .i64 (fuel - 1) = fuel - 1 := wrap_i64 (by omega)
 by_cases h0 : fuel ≤ 0
 ·rw [mergeS, if_pos h0]
  repeat' first | simp (disch := omega) only [go_sem, ↓reduceIte, Nat.reduceEqDiff, reduceCtorEq, Int.reduceEq, ifN, ifNP, ef] | ((with_reducible first | refine condD ?_ ?_ | refine condX ?_ ?_ | refine condW_intro ?_ ?_) <;> intro h <;> first | (exfalso; omega) | simp (disch := omega) only [go_sem, ↓reduceIte, Nat.reduceEqDiff, reduceCtorEq, Int.reduceEq, *, ifN, ifNP, ef] | skip)
  refine ⟨[], [], ?_⟩
  simp (disch := omega) only [go_sem, ↓reduceIte, Nat.reduceEqDiff, reduceCtorEq, Int.reduceEq, frzLA, ifN, ifNP, ef]
  refine Wk_intro (by simp (disch := omega) [Wk, wkF, wkM, wkL, look_cons, renV, renA, renC, renB, rn, clV, clA, clAs, clB, notIn, findB, findB_setB, clA.go, ifN]) ?_ rfl (by simp; try omega) (by simp [wkL]; try omega)
  repeat' first | exact hF.wk (by simp [wkL]; try omega) (by simp; try omega) (by intro n hn; simp (disch := omega) [rn, ifN] at hn ⊢; omega) (by intro nm bx h1 h2 h3; simp only [notIn] at h2; simp only [findB, findB_setB]; (repeat (refine (ifN (by omega)).trans ?_)); exact h3) | refine wkM_cons ?_ ?_ ?_ ?_ ?_ | (simp (disch := omega) [Wk, wkF, wkM, wkL, look_cons, renV, renA, renC, renB, rn, clV, clA, clAs, clB, notIn, findB, findB_setB, clA.go, ifN] <;> omega) | omega
 ·rw [mergeS, if_neg h0]
  obtain ⟨C, hC⟩ : ∃ C, C = conCombine [a.1, b.1] [x, y] := ⟨_, rfl⟩
  have hc64 := conCombine_64 [a.1, b.1] [x, y]
  have hcl := conCombine2_len a.1 b.1 x y
  rw [← hC] at pc hc64 hcl ⊢
  clear hC
  obtain ⟨⟨⟨K, l⟩, q⟩, e⟩ := C
  by_cases he : e = 0
  ·subst he
   rw [if_neg (by simp)]
   obtain ⟨R, hR⟩ : ∃ R, R = (sumsF x y ((a.2.zip b.2).drop 0)).map (([] : List Int) ++ ·) := ⟨_, rfl⟩
   have hR0 : sumsF x y (a.2.zip b.2) = R := by rw [hR]; simp
   rw [hR0]
   have HR := Lib.hid hR
   clear hR hR0
   repeat' first | simp (disch := omega) only [go_sem, ↓reduceIte, Nat.reduceEqDiff, reduceCtorEq, Int.reduceEq, ifN, ifNP, ef] | ((with_reducible first | refine condD ?_ ?_ | refine condX ?_ ?_ | refine condW_intro ?_ ?_) <;> intro h <;> first | (exfalso; omega) | simp (disch := omega) only [go_sem, ↓reduceIte, Nat.reduceEqDiff, reduceCtorEq, Int.reduceEq, *, ifN, ifNP, ef] | skip) | (refine callW_of pc rfl (.inr rfl) ?_)
   refine AW_adoptM (nx + 4) 3 2 1 [.pure (pI K), .pure (pMonos l), .pure (pB q), .nils] (by simp [findB]) rfl (by decide) ?_
   refine AW_loop (fun s : Nat × List Int => ⟨[(3, I x), (4, I y), (6, .c (.ptr nx 0)), (7, .c (.ptr (nx + 1) 0)), (10, .c (.ptr (nx + 2) 0)), (14, .c (.ptr (nx + 4) 0)), (54, I a.2.length), (55, I s.1)],
    (nx, .var [.pure (pI a.1.1.1), .pure (pMonos a.1.1.2), .pure (pB a.1.2), .pure (pInts a.2)]) :: (nx + 1, .var [.pure (pI b.1.1.1), .pure (pMonos b.1.1.2), .pure (pB b.1.2), .pure (pInts b.2)]) ::
    (nx + 2, .var [.pure (pI 0), .nils, .pure (pB false), .nils]) :: (nx + 4, .var [.pure (pI K), .pure (pMonos l), .pure (pB q), .ref (nx + 5)]) :: (nx + 5, .arr 2 1 (s.2.map fun n => [pI n])) :: sysM r rows (fuel - 1) F, nx + 6, nx⟩)
    (fun s => s.1 ≤ a.2.length ∧ s.2.length ≤ s.1 ∧ (∀ n ∈ s.2, in64 n) ∧ Hid (R = (sumsF x y ((a.2.zip b.2).drop s.1)).map (s.2 ++ ·))) (fun s => a.2.length - s.1) ⟨(0, []), [], ⟨Nat.zero_le _, Nat.le_refl _, (by simp), HR⟩, ?_⟩ ?_
   ·refine Wk_intro (by simp (disch := omega) [Wk, wkF, wkM, wkL, look_cons, renV, renA, renC, renB, rn, clV, clA, clAs, clB, notIn, findB, findB_setB, clA.go, ifN]) ?_ rfl (by simp; try omega) (by simp [wkL]; try omega)
    repeat' first | exact hF.wk (by simp [wkL]; try omega) (by simp; try omega) (by intro n hn; simp (disch := omega) [rn, ifN] at hn ⊢; omega) (by intro nm bx h1 h2 h3; simp only [notIn] at h2; simp only [findB, findB_setB]; (repeat (refine (ifN (by omega)).trans ?_)); exact h3) | refine wkM_cons ?_ ?_ ?_ ?_ ?_ | (simp (disch := omega) [Wk, wkF, wkM, wkL, look_cons, renV, renA, renC, renB, rn, clV, clA, clAs, clB, notIn, findB, findB_setB, clA.go, ifN] <;> omega) | omega
   rintro ⟨j, acc⟩ ⟨hj, hacc, h64, HR⟩
   simp only at hj hacc h64 HR
   refine runW_sound ?_
   by_cases hlt : j < a.2.length
   ·have hltb : j < b.2.length := by omega
    have hz : j < (a.2.zip b.2).length := by simp; omega
    have ez : (a.2.zip b.2)[j] = (a.2[j], b.2[j]) := List.getElem_zip
    have g1 := map_get (f := fun n => [pI n]) hlt
    have g2 := map_get (f := fun n => [pI n]) hltb
    have p1 := elim_product_abs (ha.2 _ (List.getElem_mem hlt)) hx
    have p2 := elim_product_abs (hb.2 _ (List.getElem_mem hltb)) hy
    have h2 := HR.out
    clear HR pc hab
    by_cases hs : sumOk x y (a.2[j], b.2[j]) = true
    ·rw [sumsF_some hz (by rw [ez]; exact hs), ez] at h2
     obtain ⟨s1, s2, s3⟩ := sumOk_iff.1 hs
     rw [decide_eq_true s1, wrap_i64 s1] at p1
     rw [decide_eq_true s2, wrap_i64 s2] at p2
     have ew := wrap_i64 s3
     simp only at h2 ew s1 s2 s3
     clear hs ez hz
     generalize a.2[j] * x = P at *
     generalize b.2[j] * y = Q at *
     generalize a.2[j] = a0 at *
     generalize b.2[j] = b0 at *
     have HR : Hid (R = (sumsF x y ((a.2.zip b.2).drop (j + 1))).map ((acc ++ [P + Q]) ++ ·)) := Lib.hid (by
      rw [h2]
      cases sumsF x y ((a.2.zip b.2).drop (j + 1)) <;> simp)
     clear h2
     have hacc2 : (acc.map fun n => [pI n]).length ≤ 1000000000 := by simp; omega
     have h64' : ∀ n ∈ acc ++ [P + Q], in64 n := by
      intro n hn
      rcases List.mem_append.1 hn with hn | hn
      ·exact h64 n hn
      ·rw [List.mem_singleton.1 hn]; exact s3
     have hlen' : (acc ++ [P + Q]).length ≤ j + 1 := by simp; omega
     have hmap : (acc ++ [P + Q]).map (fun n => [pI n]) = acc.map (fun n => [pI n]) ++ [[pI (P + Q)]] := by simp
     clear h64
     generalize hD : acc.map (fun n => [pI n]) = D at *
     have hsg : (P < 0 ∧ Q < 0 ∧ P + Q < 0) ∨ (¬ P < 0 ∧ ¬ Q < 0 ∧ ¬ P + Q < 0) ∨ (P < 0 ∧ ¬ Q < 0) ∨ (¬ P < 0 ∧ Q < 0) := by omega
     have hdl := hF.del (n := nx + 5) (.inr (by omega))
     rcases hsg with ⟨hu, hv, hw⟩ | ⟨hu, hv, hw⟩ | ⟨hu, hv⟩ | ⟨hu, hv⟩
     ·repeat' first | simp (disch := omega) only [go_sem, ↓reduceIte, Nat.reduceEqDiff, reduceCtorEq, Int.reduceEq, g1, g2, ifN, ifNP, hdl, ew, hu, hv, hw, wrap_i64] | ((with_reducible first | refine condD ?_ ?_ | refine condX ?_ ?_ | refine condW_intro ?_ ?_) <;> intro h <;> first | (exfalso; omega) | simp (disch := omega) only [go_sem, ↓reduceIte, Nat.reduceEqDiff, reduceCtorEq, Int.reduceEq, *, g1, g2, ifN, ifNP, hdl, ew, hu, hv, hw, wrap_i64] | skip) | (refine callW_of p1 rfl (.inl rfl) ?_) | (refine callW_of p2 rfl (.inl rfl) ?_) | (refine app_own (by simp (disch := omega) only [findB, findB_setB, ifN, eq_self, ↓reduceIte, Option.map_some] <;> rfl) (by intro h; cases h) (rowsOk_one rfl) (by simp; omega) (by simp; omega) ?_)
      refine ⟨(j + 1, acc ++ [P + Q]), [(nx + 5, nx + 6)], ⟨hlt, hlen', h64', HR⟩, by show _ - _ < _ - _; omega, ?_⟩
      refine Wk_intro (by simp (disch := omega) [Wk, wkF, wkM, wkL, look_cons, renV, renA, renC, renB, rn, clV, clA, clAs, clB, notIn, findB, findB_setB, clA.go, ifN, hmap]) ?_ rfl (by simp; try omega) (by simp [wkL]; try omega)
      repeat' first | exact hF.wk (by simp [wkL]; try omega) (by simp; try omega) (by intro n hn; simp (disch := omega) [rn, ifN] at hn ⊢; omega) (by intro nm bx h1 h2 h3; simp only [notIn] at h2; simp only [findB, findB_setB]; (repeat (refine (ifN (by omega)).trans ?_)); exact h3) | refine wkM_cons ?_ ?_ ?_ ?_ ?_ | (simp (disch := omega) [Wk, wkF, wkM, wkL, look_cons, renV, renA, renC, renB, rn, clV, clA, clAs, clB, notIn, findB, findB_setB, clA.go, ifN, hmap] <;> omega) | omega
     ·repeat' first | simp (disch := omega) only [go_sem, ↓reduceIte, Nat.reduceEqDiff, reduceCtorEq, Int.reduceEq, g1, g2, ifN, ifNP, hdl, ew, hu, hv, hw, wrap_i64] | ((with_reducible first | refine condD ?_ ?_ | refine condX ?_ ?_ | refine condW_intro ?_ ?_) <;> intro h <;> first | (exfalso; omega) | simp (disch := omega) only [go_sem, ↓reduceIte, Nat.reduceEqDiff, reduceCtorEq, Int.reduceEq, *, g1, g2, ifN, ifNP, hdl, ew, hu, hv, hw, wrap_i64] | skip) | (refine callW_of p1 rfl (.inl rfl) ?_) | (refine callW_of p2 rfl (.inl rfl) ?_) | (refine app_own (by simp (disch := omega) only [findB, findB_setB, ifN, eq_self, ↓reduceIte, Option.map_some] <;> rfl) (by intro h; cases h) (rowsOk_one rfl) (by simp; omega) (by simp; omega) ?_)
      refine ⟨(j + 1, acc ++ [P + Q]), [(nx + 5, nx + 6)], ⟨hlt, hlen', h64', HR⟩, by show _ - _ < _ - _; omega, ?_⟩
      refine Wk_intro (by simp (disch := omega) [Wk, wkF, wkM, wkL, look_cons, renV, renA, renC, renB, rn, clV, clA, clAs, clB, notIn, findB, findB_setB, clA.go, ifN, hmap]) ?_ rfl (by simp; try omega) (by simp [wkL]; try omega)
      repeat' first | exact hF.wk (by simp [wkL]; try omega) (by simp; try omega) (by intro n hn; simp (disch := omega) [rn, ifN] at hn ⊢; omega) (by intro nm bx h1 h2 h3; simp only [notIn] at h2; simp only [findB, findB_setB]; (repeat (refine (ifN (by omega)).trans ?_)); exact h3) | refine wkM_cons ?_ ?_ ?_ ?_ ?_ | (simp (disch := omega) [Wk, wkF, wkM, wkL, look_cons, renV, renA, renC, renB, rn, clV, clA, clAs, clB, notIn, findB, findB_setB, clA.go, ifN, hmap] <;> omega) | omega
     ·repeat' first | simp (disch := omega) only [go_sem, ↓reduceIte, Nat.reduceEqDiff, reduceCtorEq, Int.reduceEq, g1, g2, ifN, ifNP, hdl, ew, hu, hv, wrap_i64] | ((with_reducible first | refine condD ?_ ?_ | refine condX ?_ ?_ | refine condW_intro ?_ ?_) <;> intro h <;> first | (exfalso; omega) | simp (disch := omega) only [go_sem, ↓reduceIte, Nat.reduceEqDiff, reduceCtorEq, Int.reduceEq, *, g1, g2, ifN, ifNP, hdl, ew, hu, hv, wrap_i64] | skip) | (refine callW_of p1 rfl (.inl rfl) ?_) | (refine callW_of p2 rfl (.inl rfl) ?_) | (refine app_own (by simp (disch := omega) only [findB, findB_setB, ifN, eq_self, ↓reduceIte, Option.map_some] <;> rfl) (by intro h; cases h) (rowsOk_one rfl) (by simp; omega) (by simp; omega) ?_)
      refine ⟨(j + 1, acc ++ [P + Q]), [(nx + 5, nx + 6)], ⟨hlt, hlen', h64', HR⟩, by show _ - _ < _ - _; omega, ?_⟩
      refine Wk_intro (by simp (disch := omega) [Wk, wkF, wkM, wkL, look_cons, renV, renA, renC, renB, rn, clV, clA, clAs, clB, notIn, findB, findB_setB, clA.go, ifN, hmap]) ?_ rfl (by simp; try omega) (by simp [wkL]; try omega)
      repeat' first | exact hF.wk (by simp [wkL]; try omega) (by simp; try omega) (by intro n hn; simp (disch := omega) [rn, ifN] at hn ⊢; omega) (by intro nm bx h1 h2 h3; simp only [notIn] at h2; simp only [findB, findB_setB]; (repeat (refine (ifN (by omega)).trans ?_)); exact h3) | refine wkM_cons ?_ ?_ ?_ ?_ ?_ | (simp (disch := omega) [Wk, wkF, wkM, wkL, look_cons, renV, renA, renC, renB, rn, clV, clA, clAs, clB, notIn, findB, findB_setB, clA.go, ifN, hmap] <;> omega) | omega
     ·repeat' first | simp (disch := omega) only [go_sem, ↓reduceIte, Nat.reduceEqDiff, reduceCtorEq, Int.reduceEq, g1, g2, ifN, ifNP, hdl, ew, hu, hv, wrap_i64] | ((with_reducible first | refine condD ?_ ?_ | refine condX ?_ ?_ | refine condW_intro ?_ ?_) <;> intro h <;> first | (exfalso; omega) | simp (disch := omega) only [go_sem, ↓reduceIte, Nat.reduceEqDiff, reduceCtorEq, Int.reduceEq, *, g1, g2, ifN, ifNP, hdl, ew, hu, hv, wrap_i64] | skip) | (refine callW_of p1 rfl (.inl rfl) ?_) | (refine callW_of p2 rfl (.inl rfl) ?_) | (refine app_own (by simp (disch := omega) only [findB, findB_setB, ifN, eq_self, ↓reduceIte, Option.map_some] <;> rfl) (by intro h; cases h) (rowsOk_one rfl) (by simp; omega) (by simp; omega) ?_)
      refine ⟨(j + 1, acc ++ [P + Q]), [(nx + 5, nx + 6)], ⟨hlt, hlen', h64', HR⟩, by show _ - _ < _ - _; omega, ?_⟩
      refine Wk_intro (by simp (disch := omega) [Wk, wkF, wkM, wkL, look_cons, renV, renA, renC, renB, rn, clV, clA, clAs, clB, notIn, findB, findB_setB, clA.go, ifN, hmap]) ?_ rfl (by simp; try omega) (by simp [wkL]; try omega)
      repeat' first | exact hF.wk (by simp [wkL]; try omega) (by simp; try omega) (by intro n hn; simp (disch := omega) [rn, ifN] at hn ⊢; omega) (by intro nm bx h1 h2 h3; simp only [notIn] at h2; simp only [findB, findB_setB]; (repeat (refine (ifN (by omega)).trans ?_)); exact h3) | refine wkM_cons ?_ ?_ ?_ ?_ ?_ | (simp (disch := omega) [Wk, wkF, wkM, wkL, look_cons, renV, renA, renC, renB, rn, clV, clA, clAs, clB, notIn, findB, findB_setB, clA.go, ifN, hmap] <;> omega) | omega
    ·have hs0 : sumOk x y (a.2[j], b.2[j]) = false := by simpa using hs
     rw [sumsF_none hz (by rw [ez]; exact hs0)] at h2
     simp only [Option.map_none] at h2
     subst h2
     have hs' : ¬ (in64 (a.2[j] * x) ∧ in64 (b.2[j] * y) ∧ in64 (a.2[j] * x + b.2[j] * y)) := fun h => hs (sumOk_iff.2 h)
     clear hs hs0 ez hz h64
     by_cases s1 : in64 (a.2[j] * x)
     ·rw [decide_eq_true s1, wrap_i64 s1] at p1
      by_cases s2 : in64 (b.2[j] * y)
      ·rw [decide_eq_true s2, wrap_i64 s2] at p2
       have ov := ovf s1 s2 (fun h => hs' ⟨s1, s2, h⟩)
       clear hs'
       generalize a.2[j] * x = P at *
       generalize b.2[j] * y = Q at *
       generalize a.2[j] = a0 at *
       generalize b.2[j] = b0 at *
       rcases ov with ⟨hu, hv, hw⟩ | ⟨hu, hv, hw⟩
       ·repeat' first | simp (disch := omega) only [go_sem, ↓reduceIte, Nat.reduceEqDiff, reduceCtorEq, Int.reduceEq, g1, g2, ifN, ifNP, hu, hv, hw, wrap_i64] | ((with_reducible first | refine condD ?_ ?_ | refine condX ?_ ?_ | refine condW_intro ?_ ?_) <;> intro h <;> first | (exfalso; omega) | simp (disch := omega) only [go_sem, ↓reduceIte, Nat.reduceEqDiff, reduceCtorEq, Int.reduceEq, *, g1, g2, ifN, ifNP, hu, hv, hw, wrap_i64] | skip) | (refine callW_of p1 rfl (.inl rfl) ?_) | (refine callW_of p2 rfl (.inl rfl) ?_)
        refine ⟨[], [], ?_⟩
        simp (disch := omega) only [go_sem, ↓reduceIte, Nat.reduceEqDiff, reduceCtorEq, Int.reduceEq, frzLA, ifN, ifNP]
        refine Wk_intro (by simp (disch := omega) [Wk, wkF, wkM, wkL, look_cons, renV, renA, renC, renB, rn, clV, clA, clAs, clB, notIn, findB, findB_setB, clA.go, ifN]) ?_ rfl (by simp; try omega) (by simp [wkL]; try omega)
        repeat' first | exact hF.wk (by simp [wkL]; try omega) (by simp; try omega) (by intro n hn; simp (disch := omega) [rn, ifN] at hn ⊢; omega) (by intro nm bx h1 h2 h3; simp only [notIn] at h2; simp only [findB, findB_setB]; (repeat (refine (ifN (by omega)).trans ?_)); exact h3) | refine wkM_cons ?_ ?_ ?_ ?_ ?_ | (simp (disch := omega) [Wk, wkF, wkM, wkL, look_cons, renV, renA, renC, renB, rn, clV, clA, clAs, clB, notIn, findB, findB_setB, clA.go, ifN] <;> omega) | omega
       ·repeat' first | simp (disch := omega) only [go_sem, ↓reduceIte, Nat.reduceEqDiff, reduceCtorEq, Int.reduceEq, g1, g2, ifN, ifNP, hu, hv, hw, wrap_i64] | ((with_reducible first | refine condD ?_ ?_ | refine condX ?_ ?_ | refine condW_intro ?_ ?_) <;> intro h <;> first | (exfalso; omega) | simp (disch := omega) only [go_sem, ↓reduceIte, Nat.reduceEqDiff, reduceCtorEq, Int.reduceEq, *, g1, g2, ifN, ifNP, hu, hv, hw, wrap_i64] | skip) | (refine callW_of p1 rfl (.inl rfl) ?_) | (refine callW_of p2 rfl (.inl rfl) ?_)
        refine ⟨[], [], ?_⟩
        simp (disch := omega) only [go_sem, ↓reduceIte, Nat.reduceEqDiff, reduceCtorEq, Int.reduceEq, frzLA, ifN, ifNP]
        refine Wk_intro (by simp (disch := omega) [Wk, wkF, wkM, wkL, look_cons, renV, renA, renC, renB, rn, clV, clA, clAs, clB, notIn, findB, findB_setB, clA.go, ifN]) ?_ rfl (by simp; try omega) (by simp [wkL]; try omega)
        repeat' first | exact hF.wk (by simp [wkL]; try omega) (by simp; try omega) (by intro n hn; simp (disch := omega) [rn, ifN] at hn ⊢; omega) (by intro nm bx h1 h2 h3; simp only [notIn] at h2; simp only [findB, findB_setB]; (repeat (refine (ifN (by omega)).trans ?_)); exact h3) | refine wkM_cons ?_ ?_ ?_ ?_ ?_ | (simp (disch := omega) [Wk, wkF, wkM, wkL, look_cons, renV, renA, renC, renB, rn, clV, clA, clAs, clB, notIn, findB, findB_setB, clA.go, ifN] <;> omega) | omega
      ·rw [decide_eq_false s2] at p2
       clear hs'
       generalize a.2[j] * x = P at *
       generalize IntKind.wrap .i64 (b.2[j] * y) = Q at *
       generalize a.2[j] = a0 at *
       generalize b.2[j] = b0 at *
       repeat' first | simp (disch := omega) only [go_sem, ↓reduceIte, Nat.reduceEqDiff, reduceCtorEq, Int.reduceEq, g1, g2, ifN, ifNP, wrap_i64] | ((with_reducible first | refine condD ?_ ?_ | refine condX ?_ ?_ | refine condW_intro ?_ ?_) <;> intro h <;> first | (exfalso; omega) | simp (disch := omega) only [go_sem, ↓reduceIte, Nat.reduceEqDiff, reduceCtorEq, Int.reduceEq, *, g1, g2, ifN, ifNP, wrap_i64] | skip) | (refine callW_of p1 rfl (.inl rfl) ?_) | (refine callW_of p2 rfl (.inl rfl) ?_)
       all_goals
        refine ⟨[], [], ?_⟩
        simp (disch := omega) only [go_sem, ↓reduceIte, Nat.reduceEqDiff, reduceCtorEq, Int.reduceEq, frzLA, ifN, ifNP]
        refine Wk_intro (by simp (disch := omega) [Wk, wkF, wkM, wkL, look_cons, renV, renA, renC, renB, rn, clV, clA, clAs, clB, notIn, findB, findB_setB, clA.go, ifN]) ?_ rfl (by simp; try omega) (by simp [wkL]; try omega)
        repeat' first | exact hF.wk (by simp [wkL]; try omega) (by simp; try omega) (by intro n hn; simp (disch := omega) [rn, ifN] at hn ⊢; omega) (by intro nm bx h1 h2 h3; simp only [notIn] at h2; simp only [findB, findB_setB]; (repeat (refine (ifN (by omega)).trans ?_)); exact h3) | refine wkM_cons ?_ ?_ ?_ ?_ ?_ | (simp (disch := omega) [Wk, wkF, wkM, wkL, look_cons, renV, renA, renC, renB, rn, clV, clA, clAs, clB, notIn, findB, findB_setB, clA.go, ifN] <;> omega) | omega
     ·rw [decide_eq_false s1] at p1
      clear hs'
      generalize decide (in64 (b.2[j] * y)) = d2 at *
      generalize IntKind.wrap .i64 (a.2[j] * x) = P at *
      generalize IntKind.wrap .i64 (b.2[j] * y) = Q at *
      generalize a.2[j] = a0 at *
      generalize b.2[j] = b0 at *
      cases d2
      all_goals
       repeat' first | simp (disch := omega) only [go_sem, ↓reduceIte, Nat.reduceEqDiff, reduceCtorEq, Int.reduceEq, g1, g2, ifN, ifNP, wrap_i64] | ((with_reducible first | refine condD ?_ ?_ | refine condX ?_ ?_ | refine condW_intro ?_ ?_) <;> intro h <;> first | (exfalso; omega) | simp (disch := omega) only [go_sem, ↓reduceIte, Nat.reduceEqDiff, reduceCtorEq, Int.reduceEq, *, g1, g2, ifN, ifNP, wrap_i64] | skip) | (refine callW_of p1 rfl (.inl rfl) ?_) | (refine callW_of p2 rfl (.inl rfl) ?_)
       all_goals
        refine ⟨[], [], ?_⟩
        simp (disch := omega) only [go_sem, ↓reduceIte, Nat.reduceEqDiff, reduceCtorEq, Int.reduceEq, frzLA, ifN, ifNP]
        refine Wk_intro (by simp (disch := omega) [Wk, wkF, wkM, wkL, look_cons, renV, renA, renC, renB, rn, clV, clA, clAs, clB, notIn, findB, findB_setB, clA.go, ifN]) ?_ rfl (by simp; try omega) (by simp [wkL]; try omega)
        repeat' first | exact hF.wk (by simp [wkL]; try omega) (by simp; try omega) (by intro n hn; simp (disch := omega) [rn, ifN] at hn ⊢; omega) (by intro nm bx h1 h2 h3; simp only [notIn] at h2; simp only [findB, findB_setB]; (repeat (refine (ifN (by omega)).trans ?_)); exact h3) | refine wkM_cons ?_ ?_ ?_ ?_ ?_ | (simp (disch := omega) [Wk, wkF, wkM, wkL, look_cons, renV, renA, renC, renB, rn, clV, clA, clAs, clB, notIn, findB, findB_setB, clA.go, ifN] <;> omega) | omega
   ·have h2 := HR.out
    have hz : (a.2.zip b.2).length ≤ j := by simp; omega
    rw [List.drop_eq_nil_of_le hz, sumsF] at h2
    simp only [Option.map_some, List.append_nil] at h2
    subst h2
    clear HR hz
    have hrow : row64 (((K, l), q), acc) := ⟨hc64, h64⟩
    have pr := elim_reduced_abs (d := (((K, l), q), acc)) hrow (by simp only at hcl ⊢; omega) (by simp only; omega)
    have hfz := hF.frz (n := nx + 5) (rows := acc.map fun n => [pI n]) (.inr (by omega))
    clear pc
    repeat' first | simp (disch := omega) only [go_sem, ↓reduceIte, Nat.reduceEqDiff, reduceCtorEq, Int.reduceEq, ifN, ifNP] | ((with_reducible first | refine condD ?_ ?_ | refine condX ?_ ?_ | refine condW_intro ?_ ?_) <;> intro h <;> first | (exfalso; omega) | simp (disch := omega) only [go_sem, ↓reduceIte, Nat.reduceEqDiff, reduceCtorEq, Int.reduceEq, *, ifN, ifNP] | skip) | (refine callW_z1 (nx + 5) 2 1 (acc.map fun n => [pI n]) pr (by simp (disch := omega) only [findB, findB_setB, ifN, eq_self, ↓reduceIte, Option.map_some] <;> rfl) (by simp [frzV, frz1, purVs, purV, purAs, purA, purC]) (.inr (by simp [frzV, frz1, norefV, norefA, norefC])) ?_)
    refine ⟨[], [], ?_⟩
    simp (disch := omega) only [go_sem, ↓reduceIte, Nat.reduceEqDiff, reduceCtorEq, Int.reduceEq, frzLA, ifN, ifNP, hfz]
    refine Wk_intro (by simp (disch := omega) [Wk, wkF, wkM, wkL, look_cons, renV, renA, renC, renB, rn, clV, clA, clAs, clB, notIn, findB, findB_setB, clA.go, ifN]) ?_ rfl (by simp; try omega) (by simp [wkL]; try omega)
    repeat' first | exact hF.wk (by simp [wkL]; try omega) (by simp; try omega) (by intro n hn; simp (disch := omega) [rn, ifN] at hn ⊢; omega) (by intro nm bx h1 h2 h3; simp only [notIn] at h2; simp only [findB, findB_setB]; (repeat (refine (ifN (by omega)).trans ?_)); exact h3) | refine wkM_cons ?_ ?_ ?_ ?_ ?_ | (simp (disch := omega) [Wk, wkF, wkM, wkL, look_cons, renV, renA, renC, renB, rn, clV, clA, clAs, clB, notIn, findB, findB_setB, clA.go, ifN] <;> omega) | omega
  ·rw [if_pos he]
   repeat' first | simp (disch := omega) only [go_sem, ↓reduceIte, Nat.reduceEqDiff, reduceCtorEq, Int.reduceEq, ifN, ifNP, ef, he] | ((with_reducible first | refine condD ?_ ?_ | refine condX ?_ ?_ | refine condW_intro ?_ ?_) <;> intro h <;> first | (exfalso; omega) | simp (disch := omega) only [go_sem, ↓reduceIte, Nat.reduceEqDiff, reduceCtorEq, Int.reduceEq, *, ifN, ifNP, ef, he] | skip) | (refine callW_of pc rfl (.inr rfl) ?_)
   refine ⟨[], [], ?_⟩
   simp (disch := omega) only [go_sem, ↓reduceIte, Nat.reduceEqDiff, reduceCtorEq, Int.reduceEq, frzLA, ifN, ifNP, ef]
   refine Wk_intro (by simp (disch := omega) [Wk, wkF, wkM, wkL, look_cons, renV, renA, renC, renB, rn, clV, clA, clAs, clB, notIn, findB, findB_setB, clA.go, ifN, he]) ?_ rfl (by simp; try omega) (by simp [wkL]; try omega)
   repeat' first | exact hF.wk (by simp [wkL]; try omega) (by simp; try omega) (by intro n hn; simp (disch := omega) [rn, ifN] at hn ⊢; omega) (by intro nm bx h1 h2 h3; simp only [notIn] at h2; simp only [findB, findB_setB]; (repeat (refine (ifN (by omega)).trans ?_)); exact h3) | refine wkM_cons ?_ ?_ ?_ ?_ ?_ | (simp (disch := omega) [Wk, wkF, wkM, wkL, look_cons, renV, renA, renC, renB, rn, clV, clA, clAs, clB, notIn, findB, findB_setB, clA.go, ifN, he] <;> omega) | omega

theorem slices_Equal_monos (a b : List Mono) : PCalls Try.prog n_slices_Equal_api_Mono_api_Mono [.c (.pure (pMonos a)), .c (.pure (pMonos b))] (Go.Abs.B (decide (a = b))) := by
 refine PCalls.of is_slices_Equal_api_Mono_api_Mono (by simp) fun hb => runW_sound ?_
 have hba : a.length ≤ 9223372036854775807 := by have := hb.1; simpa [bndV, bndA] using this
 simp only [c_slices_Equal_api_Mono_api_Mono]
 by_cases hl : a.length = b.length
 ·have hli : (a.length : Int) = (b.length : Int) := by omega
  obtain ⟨R, hR⟩ : ∃ R, R = decide (a = b) := ⟨_, rfl⟩
  rw [← hR]
  have HR := Lib.hid hR
  clear hR
  have HL := Lib.hid hl
  clear hl
  repeat' first | simp (disch := omega) only [go_sem, ↓reduceIte, Nat.reduceEqDiff, reduceCtorEq, Int.reduceEq, hli] | ((with_reducible first | refine condD ?_ ?_ | refine condX ?_ ?_ | refine condW_intro ?_ ?_) <;> intro h <;> first | (exfalso; omega) | simp (disch := omega) only [go_sem, ↓reduceIte, Nat.reduceEqDiff, reduceCtorEq, Int.reduceEq, *, hli] | skip)
  refine AW_loop (fun k : Nat => ⟨[(0, .c (.pure (pMonos a))), (1, .c (.pure (pMonos b))), (12, I b.length), (13, I k)], [], 0, 0⟩) (fun k => k ≤ b.length ∧ Hid (a.take k = b.take k)) (fun k => b.length - k) ⟨0, [], ⟨Nat.zero_le _, Lib.hid rfl⟩, by simp [Wk, wkF, wkM, wkL, look_cons, renV, renA, renC, renB, rn, clV, clA, clAs, clB, notIn, findB, findB_setB, clA.go]⟩ ?_
  clear hli
  rintro k ⟨hk, HT⟩
  refine runW_sound ?_
  have hl := HL.out
  by_cases hlt : k < b.length
  ·have hlta : k < a.length := by omega
   have g1 := map_get (f := mP) hlta
   have g2 := map_get (f := mP) hlt
   by_cases he : a[k] = b[k]
   ·have HT' : Hid (a.take (k + 1) = b.take (k + 1)) := Lib.hid (by rw [List.take_succ_eq_append_getElem hlta, List.take_succ_eq_append_getElem hlt, HT.out, he])
    rw [he] at g1
    clear HT he hl
    generalize b[k] = m at *
    obtain ⟨n, x⟩ := m
    simp only [mP] at g1 g2
    repeat' first | simp (disch := omega) only [go_sem, ↓reduceIte, Nat.reduceEqDiff, reduceCtorEq, Int.reduceEq, g1, g2, eqOk, eqP, and_self, decT, wrap_i64] | ((with_reducible first | refine condD ?_ ?_ | refine condX ?_ ?_ | refine condW_intro ?_ ?_) <;> intro h <;> first | (exfalso; omega) | simp (disch := omega) only [go_sem, ↓reduceIte, Nat.reduceEqDiff, reduceCtorEq, Int.reduceEq, *, g1, g2, eqOk, eqP, and_self, decT, wrap_i64] | skip)
    exact ⟨k + 1, [], ⟨hlt, HT'⟩, by omega, by simp [Wk, wkF, wkM, wkL, look_cons, renV, renA, renC, renB, rn, clV, clA, clAs, clB, notIn, findB, findB_setB, clA.go]⟩
   ·have hR : R = false := by
     rw [HR.out]
     exact decide_eq_false fun h => he (by subst h; rfl)
    subst hR
    have hne : ¬ (a[k].1 = b[k].1 ∧ a[k].2 = b[k].2) := fun h => he (Prod.ext h.1 h.2)
    clear HT he hl HR HL
    generalize a[k] = m at *
    generalize b[k] = m' at *
    obtain ⟨n, x⟩ := m
    obtain ⟨n', x'⟩ := m'
    simp only [mP] at g1 g2 hne
    repeat' first | simp (disch := omega) only [go_sem, ↓reduceIte, Nat.reduceEqDiff, reduceCtorEq, Int.reduceEq, g1, g2, eqOk, eqP, and_true, hne, decF, wrap_i64] | ((with_reducible first | refine condD ?_ ?_ | refine condX ?_ ?_ | refine condW_intro ?_ ?_) <;> intro h <;> first | (exfalso; omega) | simp (disch := omega) only [go_sem, ↓reduceIte, Nat.reduceEqDiff, reduceCtorEq, Int.reduceEq, *, g1, g2, eqOk, eqP, and_true, hne, decF, wrap_i64] | skip)
    all_goals rfl
  ·have hR : R = true := by
    rw [HR.out]
    have h := HT.out
    rw [List.take_of_length_le (by omega), List.take_of_length_le (by omega)] at h
    exact decide_eq_true h
   subst hR
   clear HT HL HR hl
   repeat' first | simp (disch := omega) only [go_sem, ↓reduceIte, Nat.reduceEqDiff, reduceCtorEq, Int.reduceEq] | ((with_reducible first | refine condD ?_ ?_ | refine condX ?_ ?_ | refine condW_intro ?_ ?_) <;> intro h <;> first | (exfalso; omega) | simp (disch := omega) only [go_sem, ↓reduceIte, Nat.reduceEqDiff, reduceCtorEq, Int.reduceEq, *] | skip)
   all_goals rfl
 ·have e : decide (a = b) = false := decide_eq_false fun h => hl (by rw [h])
  rw [e]
  have hli : ¬ (a.length : Int) = (b.length : Int) := by omega
  repeat' first | simp (disch := omega) only [go_sem, ↓reduceIte, Nat.reduceEqDiff, reduceCtorEq, Int.reduceEq, hli] | ((with_reducible first | refine condD ?_ ?_ | refine condX ?_ ?_ | refine condW_intro ?_ ?_) <;> intro h <;> first | (exfalso; omega) | simp (disch := omega) only [go_sem, ↓reduceIte, Nat.reduceEqDiff, reduceCtorEq, Int.reduceEq, *, hli] | skip)
  all_goals rfl
theorem set_row {rows : List Row} {d : Row} {k : Nat} (h : k < rows.length) : (rows.map rCells).set k (rCells d) = (rows.take k ++ d :: rows.drop (k + 1)).map rCells := by
 rw [← List.map_set, List.set_eq_take_append_cons_drop, if_pos h]
theorem take_row {rows : List Row} {k : Nat} (h : k < rows.length) : rows.take k ++ rows[k] :: rows.drop (k + 1) = rows := by
 rw [← List.drop_eq_getElem_cons h, List.take_append_drop]
theorem addR_drop {rows : List Row} {d : Row} {k : Nat} (h : k < rows.length) : (addR d (rows.drop k)).map (rows.take k ++ ·) =
  if simRow rows[k] d then some (rows.take k ++ (if d.1.1.1 < rows[k].1.1.1 then d else rows[k]) :: rows.drop (k + 1)) else (addR d (rows.drop (k + 1))).map (rows.take (k + 1) ++ ·) := by
 rw [List.drop_eq_getElem_cons h, addR]
 split
 ·rfl
 ·rw [List.take_succ_eq_append_getElem h]
  cases addR d (rows.drop (k + 1)) with
  | none => rfl
  | some x =>
   show some (_ ++ _ :: x) = some ((_ ++ [_]) ++ x)
   rw [List.append_assoc]
   rfl
set_option maxHeartbeats 2000000 in
theorem elim_add_abs {d : Row} {fuel : Int} {r nx : Nat} {rows : List Row} {F : List (Nat × Box)} (hrl : rows.length ≤ 256) (hr : 0 < r) (hrn : r < nx) (hF : frOk nx [0, r] F) :
  ICalls Try.prog n_elim_system_add [.c (.ptr 0 0), aRow d] (sysM r rows fuel F) nx (packV [I (addS2 rows d).2]) (sysM nx (addS2 rows d).1 fuel F) (nx + 1) := by
 refine ICalls.ofZ is_elim_system_add (by simp) fun _ => runW_sound ?_
 have pc := elim_contradictory_abs d.1
 have hdl := hF.del (n := r) (.inl (by simp))
 obtain ⟨⟨⟨K, l⟩, q⟩, by'⟩ := d
 simp only [c_elim_system_add]
 unfold addS2
 simp only at pc ⊢
 by_cases h0 : l = [] ∧ ¬ conBad ((K, l), q)
 ·rw [if_pos h0]
  obtain ⟨rfl, hb⟩ := h0
  rw [decide_eq_false hb] at pc
  clear hb
  repeat' first | simp (disch := omega) only [go_sem, ↓reduceIte, Nat.reduceEqDiff, reduceCtorEq, Int.reduceEq, ifN, ifNP] | ((with_reducible first | refine condD ?_ ?_ | refine condX ?_ ?_ | refine condW_intro ?_ ?_) <;> intro h <;> first | (exfalso; omega) | simp (disch := omega) only [go_sem, ↓reduceIte, Nat.reduceEqDiff, reduceCtorEq, Int.reduceEq, *, ifN, ifNP] | skip) | (refine callW_of pc rfl (.inl rfl) ?_)
  refine ⟨[], [(nx, r)], ?_⟩
  simp (disch := omega) only [go_sem, ↓reduceIte, Nat.reduceEqDiff, reduceCtorEq, Int.reduceEq, frzLA, ifN, ifNP]
  refine Wk_intro (by simp (disch := omega) [Wk, wkF, wkM, wkL, look_cons, renV, renA, renC, renB, rn, clV, clA, clAs, clB, notIn, findB, findB_setB, clA.go, ifN]) ?_ rfl (by simp; try omega) (by simp [wkL]; try omega)
  repeat' first | exact hF.wk (by simp [wkL]; try omega) (by simp; try omega) (by intro n hn; simp (disch := omega) [rn, ifN] at hn ⊢; omega) (by intro nm bx h1 h2 h3; simp only [notIn] at h2; simp only [findB, findB_setB]; (repeat (refine (ifN (by omega)).trans ?_)); exact h3) | refine wkM_cons ?_ ?_ ?_ ?_ ?_ | (simp (disch := omega) [Wk, wkF, wkM, wkL, look_cons, renV, renA, renC, renB, rn, clV, clA, clAs, clB, notIn, findB, findB_setB, clA.go, ifN] <;> omega) | omega
 ·rw [if_neg h0]
  obtain ⟨R, hR⟩ : ∃ R, R = (addR (((K, l), q), by') (rows.drop 0)).map (rows.take 0 ++ ·) := ⟨_, rfl⟩
  have hR0 : addR (((K, l), q), by') rows = R := by rw [hR]; simp
  rw [hR0]
  have HR := Lib.hid hR
  clear hR hR0
  obtain ⟨bb, hbb⟩ : ∃ bb, bb = decide (conBad ((K, l), q)) := ⟨_, rfl⟩
  rw [← hbb] at pc
  have hcond : (((l.length : Nat) : Int) = 0 ∧ bb = true) ∨ ¬ ((l.length : Nat) : Int) = 0 := by
   by_cases hl : l.length = 0
   ·exact .inl ⟨by omega, by rw [hbb]; exact decide_eq_true (Classical.byContradiction fun h => h0 ⟨List.eq_nil_of_length_eq_zero hl, h⟩)⟩
   ·exact .inr (by omega)
  clear h0 hbb
  rcases hcond with ⟨hll, rfl⟩ | hll
  all_goals
   repeat' first | simp (disch := omega) only [go_sem, ↓reduceIte, Nat.reduceEqDiff, reduceCtorEq, Int.reduceEq, ifN, ifNP, hll] | ((with_reducible first | refine condD ?_ ?_ | refine condX ?_ ?_ | refine condW_intro ?_ ?_) <;> intro h <;> first | (exfalso; omega) | simp (disch := omega) only [go_sem, ↓reduceIte, Nat.reduceEqDiff, reduceCtorEq, Int.reduceEq, *, ifN, ifNP, hll] | skip) | (refine callW_of pc rfl (.inl rfl) ?_)
   clear hll pc
   refine AW_loop (fun k : Nat => ⟨[(0, .c (.ptr 0 0)), (3, .c (.ptr nx 0)), (5, .c (.ptr (nx + 1) 0)), (23, .c (.ref r)), (24, I rows.length), (25, I k)],
    (nx, .var [.pure (pI K), .pure (pMonos l), .pure (pB q), .pure (pInts by')]) :: (nx + 1, .var [.pure (pI K), .pure (pMonos l), .pure (pB q)]) :: sysM r rows fuel F, nx + 2, nx⟩)
    (fun k => k ≤ rows.length ∧ Hid (R = (addR (((K, l), q), by') (rows.drop k)).map (rows.take k ++ ·))) (fun k => rows.length - k) ⟨0, [], ⟨Nat.zero_le _, HR⟩, ?_⟩ ?_
   ·have hr2 : r < nx + 2 := by omega
    refine Wk_intro (by simp (disch := omega) [Wk, wkF, wkM, wkL, look_cons, renV, renA, renC, renB, rn, clV, clA, clAs, clB, notIn, findB, findB_setB, clA.go, ifN, hr2]) ?_ rfl (by simp; try omega) (by simp [wkL]; try omega)
    repeat' first | exact hF.wk (by simp [wkL]; try omega) (by simp; try omega) (by intro n hn; simp (disch := omega) [rn, ifN] at hn ⊢; omega) (by intro nm bx h1 h2 h3; simp only [notIn] at h2; simp only [findB, findB_setB]; (repeat (refine (ifN (by omega)).trans ?_)); exact h3) | refine wkM_cons ?_ ?_ ?_ ?_ ?_ | (simp (disch := omega) [Wk, wkF, wkM, wkL, look_cons, renV, renA, renC, renB, rn, clV, clA, clAs, clB, notIn, findB, findB_setB, clA.go, ifN, hr2] <;> omega) | omega
   clear HR
   rintro k ⟨hk, HR⟩
   refine runW_sound ?_
   by_cases hlt : k < rows.length
   ·have g1 := map_get (f := rCells) hlt
    have h2 := HR.out
    rw [addR_drop hlt] at h2
    have hset := set_row (d := (((K, l), q), by')) hlt
    have htk := take_row hlt
    clear HR
    generalize hz : rows[k] = z at *
    have htk' : rows.take k ++ z :: rows.drop (k + 1) = rows := htk
    obtain ⟨⟨⟨K', l'⟩, q'⟩, b'⟩ := z
    simp only [rCells] at g1 hset
    have pe := slices_Equal_monos l' l
    by_cases hs : simRow (((K', l'), q'), b') (((K, l), q), by')
    ·rw [if_pos hs] at h2
     obtain ⟨hs1, hs2, hs3⟩ := hs
     simp only at hs1 hs2 hs3 h2
     subst hs1
     subst hs2
     rw [decide_eq_true rfl] at pe
     clear hz htk
     by_cases hK : K < K'
     ·rw [if_pos hK] at h2
      subst h2
      have hq : q' = false := hs3.resolve_right (by omega)
      subst hq
      clear hs3
      repeat' first | simp (disch := omega) only [go_sem, ↓reduceIte, Nat.reduceEqDiff, reduceCtorEq, Int.reduceEq, g1, ifN, ifNP, hK] | ((with_reducible first | refine condD ?_ ?_ | refine condX ?_ ?_ | refine condW_intro ?_ ?_) <;> intro h <;> first | (exfalso; omega) | simp (disch := omega) only [go_sem, ↓reduceIte, Nat.reduceEqDiff, reduceCtorEq, Int.reduceEq, *, g1, ifN, ifNP, hK] | skip) | (refine callW_of pe rfl (.inl rfl) ?_)
      refine ⟨[], [(nx, r)], ?_⟩
      simp (disch := omega) only [go_sem, ↓reduceIte, Nat.reduceEqDiff, reduceCtorEq, Int.reduceEq, frzLA, ifN, ifNP]
      refine Wk_intro (by simp (disch := omega) [Wk, wkF, wkM, wkL, look_cons, renV, renA, renC, renB, rn, clV, clA, clAs, clB, notIn, findB, findB_setB, clA.go, ifN, hset]) ?_ rfl (by simp; try omega) (by simp [wkL]; try omega)
      repeat' first | exact hF.wk (by simp [wkL]; try omega) (by simp; try omega) (by intro n hn; simp (disch := omega) [rn, ifN] at hn ⊢; omega) (by intro nm bx h1 h2 h3; simp only [notIn] at h2; simp only [findB, findB_setB]; (repeat (refine (ifN (by omega)).trans ?_)); exact h3) | refine wkM_cons ?_ ?_ ?_ ?_ ?_ | (simp (disch := omega) [Wk, wkF, wkM, wkL, look_cons, renV, renA, renC, renB, rn, clV, clA, clAs, clB, notIn, findB, findB_setB, clA.go, ifN, hset] <;> omega) | omega
     ·rw [if_neg hK, htk'] at h2
      subst h2
      clear hset
      have hcq : q' = false ∨ (q' = true ∧ K' = K) := by cases q' <;> simp_all
      clear hs3
      rcases hcq with rfl | ⟨rfl, rfl⟩
      ·repeat' first | simp (disch := omega) only [go_sem, ↓reduceIte, Nat.reduceEqDiff, reduceCtorEq, Int.reduceEq, g1, ifN, ifNP, hK] | ((with_reducible first | refine condD ?_ ?_ | refine condX ?_ ?_ | refine condW_intro ?_ ?_) <;> intro h <;> first | (exfalso; omega) | simp (disch := omega) only [go_sem, ↓reduceIte, Nat.reduceEqDiff, reduceCtorEq, Int.reduceEq, *, g1, ifN, ifNP, hK] | skip) | (refine callW_of pe rfl (.inl rfl) ?_)
       refine ⟨[], [(nx, r)], ?_⟩
       simp (disch := omega) only [go_sem, ↓reduceIte, Nat.reduceEqDiff, reduceCtorEq, Int.reduceEq, frzLA, ifN, ifNP]
       refine Wk_intro (by simp (disch := omega) [Wk, wkF, wkM, wkL, look_cons, renV, renA, renC, renB, rn, clV, clA, clAs, clB, notIn, findB, findB_setB, clA.go, ifN]) ?_ rfl (by simp; try omega) (by simp [wkL]; try omega)
       repeat' first | exact hF.wk (by simp [wkL]; try omega) (by simp; try omega) (by intro n hn; simp (disch := omega) [rn, ifN] at hn ⊢; omega) (by intro nm bx h1 h2 h3; simp only [notIn] at h2; simp only [findB, findB_setB]; (repeat (refine (ifN (by omega)).trans ?_)); exact h3) | refine wkM_cons ?_ ?_ ?_ ?_ ?_ | (simp (disch := omega) [Wk, wkF, wkM, wkL, look_cons, renV, renA, renC, renB, rn, clV, clA, clAs, clB, notIn, findB, findB_setB, clA.go, ifN] <;> omega) | omega
      ·repeat' first | simp (disch := omega) only [go_sem, ↓reduceIte, Nat.reduceEqDiff, reduceCtorEq, Int.reduceEq, g1, ifN, ifNP, hK] | ((with_reducible first | refine condD ?_ ?_ | refine condX ?_ ?_ | refine condW_intro ?_ ?_) <;> intro h <;> first | (exfalso; omega) | simp (disch := omega) only [go_sem, ↓reduceIte, Nat.reduceEqDiff, reduceCtorEq, Int.reduceEq, *, g1, ifN, ifNP, hK] | skip) | (refine callW_of pe rfl (.inl rfl) ?_)
       refine ⟨[], [(nx, r)], ?_⟩
       simp (disch := omega) only [go_sem, ↓reduceIte, Nat.reduceEqDiff, reduceCtorEq, Int.reduceEq, frzLA, ifN, ifNP]
       refine Wk_intro (by simp (disch := omega) [Wk, wkF, wkM, wkL, look_cons, renV, renA, renC, renB, rn, clV, clA, clAs, clB, notIn, findB, findB_setB, clA.go, ifN]) ?_ rfl (by simp; try omega) (by simp [wkL]; try omega)
       repeat' first | exact hF.wk (by simp [wkL]; try omega) (by simp; try omega) (by intro n hn; simp (disch := omega) [rn, ifN] at hn ⊢; omega) (by intro nm bx h1 h2 h3; simp only [notIn] at h2; simp only [findB, findB_setB]; (repeat (refine (ifN (by omega)).trans ?_)); exact h3) | refine wkM_cons ?_ ?_ ?_ ?_ ?_ | (simp (disch := omega) [Wk, wkF, wkM, wkL, look_cons, renV, renA, renC, renB, rn, clV, clA, clAs, clB, notIn, findB, findB_setB, clA.go, ifN] <;> omega) | omega
    ·rw [if_neg hs] at h2
     have HR := Lib.hid h2
     have hs' : ¬ (q' = q ∧ l' = l ∧ (q = false ∨ K' = K)) := hs
     clear h2 hs hset htk hz
     have hr2 : r < nx + 2 := by omega
     by_cases hq : q' = q
     ·subst hq
      by_cases hl : l' = l
      ·subst hl
       rw [decide_eq_true rfl] at pe
       have hK : ¬ K' = K := fun h => hs' ⟨rfl, rfl, .inr h⟩
       have hq : q' = true := by
        cases q'
        ·exact absurd ⟨rfl, rfl, .inl rfl⟩ hs'
        ·rfl
       subst hq
       clear hs'
       repeat' first | simp (disch := omega) only [go_sem, ↓reduceIte, Nat.reduceEqDiff, reduceCtorEq, Int.reduceEq, g1, ifN, ifNP, hK, wrap_i64] | ((with_reducible first | refine condD ?_ ?_ | refine condX ?_ ?_ | refine condW_intro ?_ ?_) <;> intro h <;> first | (exfalso; omega) | simp (disch := omega) only [go_sem, ↓reduceIte, Nat.reduceEqDiff, reduceCtorEq, Int.reduceEq, *, g1, ifN, ifNP, hK, wrap_i64] | skip) | (refine callW_of pe rfl (.inl rfl) ?_)
       refine ⟨k + 1, [], ⟨hlt, HR⟩, by omega, ?_⟩
       refine Wk_intro (by simp (disch := omega) [Wk, wkF, wkM, wkL, look_cons, renV, renA, renC, renB, rn, clV, clA, clAs, clB, notIn, findB, findB_setB, clA.go, ifN, hr2]) ?_ rfl (by simp; try omega) (by simp [wkL]; try omega)
       repeat' first | exact hF.wk (by simp [wkL]; try omega) (by simp; try omega) (by intro n hn; simp (disch := omega) [rn, ifN] at hn ⊢; omega) (by intro nm bx h1 h2 h3; simp only [notIn] at h2; simp only [findB, findB_setB]; (repeat (refine (ifN (by omega)).trans ?_)); exact h3) | refine wkM_cons ?_ ?_ ?_ ?_ ?_ | (simp (disch := omega) [Wk, wkF, wkM, wkL, look_cons, renV, renA, renC, renB, rn, clV, clA, clAs, clB, notIn, findB, findB_setB, clA.go, ifN, hr2] <;> omega) | omega
      ·rw [decide_eq_false hl] at pe
       clear hs' hl
       cases q'
       all_goals
        repeat' first | simp (disch := omega) only [go_sem, ↓reduceIte, Nat.reduceEqDiff, reduceCtorEq, Int.reduceEq, g1, ifN, ifNP, wrap_i64] | ((with_reducible first | refine condD ?_ ?_ | refine condX ?_ ?_ | refine condW_intro ?_ ?_) <;> intro h <;> first | (exfalso; omega) | simp (disch := omega) only [go_sem, ↓reduceIte, Nat.reduceEqDiff, reduceCtorEq, Int.reduceEq, *, g1, ifN, ifNP, wrap_i64] | skip) | (refine callW_of pe rfl (.inl rfl) ?_)
        refine ⟨k + 1, [], ⟨hlt, HR⟩, by omega, ?_⟩
        refine Wk_intro (by simp (disch := omega) [Wk, wkF, wkM, wkL, look_cons, renV, renA, renC, renB, rn, clV, clA, clAs, clB, notIn, findB, findB_setB, clA.go, ifN, hr2]) ?_ rfl (by simp; try omega) (by simp [wkL]; try omega)
        repeat' first | exact hF.wk (by simp [wkL]; try omega) (by simp; try omega) (by intro n hn; simp (disch := omega) [rn, ifN] at hn ⊢; omega) (by intro nm bx h1 h2 h3; simp only [notIn] at h2; simp only [findB, findB_setB]; (repeat (refine (ifN (by omega)).trans ?_)); exact h3) | refine wkM_cons ?_ ?_ ?_ ?_ ?_ | (simp (disch := omega) [Wk, wkF, wkM, wkL, look_cons, renV, renA, renC, renB, rn, clV, clA, clAs, clB, notIn, findB, findB_setB, clA.go, ifN, hr2] <;> omega) | omega
     ·clear hs' pe
      cases q
      all_goals
       cases q'
       all_goals
        first
        | exact absurd rfl hq
        | clear hq
       all_goals
        repeat' first | simp (disch := omega) only [go_sem, ↓reduceIte, Nat.reduceEqDiff, reduceCtorEq, Int.reduceEq, g1, ifN, ifNP, wrap_i64] | ((with_reducible first | refine condD ?_ ?_ | refine condX ?_ ?_ | refine condW_intro ?_ ?_) <;> intro h <;> first | (exfalso; omega) | simp (disch := omega) only [go_sem, ↓reduceIte, Nat.reduceEqDiff, reduceCtorEq, Int.reduceEq, *, g1, ifN, ifNP, wrap_i64] | skip)
        refine ⟨k + 1, [], ⟨hlt, HR⟩, by omega, ?_⟩
        refine Wk_intro (by simp (disch := omega) [Wk, wkF, wkM, wkL, look_cons, renV, renA, renC, renB, rn, clV, clA, clAs, clB, notIn, findB, findB_setB, clA.go, ifN, hr2]) ?_ rfl (by simp; try omega) (by simp [wkL]; try omega)
        repeat' first | exact hF.wk (by simp [wkL]; try omega) (by simp; try omega) (by intro n hn; simp (disch := omega) [rn, ifN] at hn ⊢; omega) (by intro nm bx h1 h2 h3; simp only [notIn] at h2; simp only [findB, findB_setB]; (repeat (refine (ifN (by omega)).trans ?_)); exact h3) | refine wkM_cons ?_ ?_ ?_ ?_ ?_ | (simp (disch := omega) [Wk, wkF, wkM, wkL, look_cons, renV, renA, renC, renB, rn, clV, clA, clAs, clB, notIn, findB, findB_setB, clA.go, ifN, hr2] <;> omega) | omega
   ·have h2 := HR.out
    rw [List.drop_eq_nil_of_le (by omega), addR] at h2
    simp only [Option.map_none] at h2
    subst h2
    clear HR
    by_cases hfull : 256 ≤ rows.length
    ·rw [if_pos hfull]
     repeat' first | simp (disch := omega) only [go_sem, ↓reduceIte, Nat.reduceEqDiff, reduceCtorEq, Int.reduceEq, ifN, ifNP] | ((with_reducible first | refine condD ?_ ?_ | refine condX ?_ ?_ | refine condW_intro ?_ ?_) <;> intro h <;> first | (exfalso; omega) | simp (disch := omega) only [go_sem, ↓reduceIte, Nat.reduceEqDiff, reduceCtorEq, Int.reduceEq, *, ifN, ifNP] | skip)
     refine ⟨[], [(nx, r)], ?_⟩
     simp (disch := omega) only [go_sem, ↓reduceIte, Nat.reduceEqDiff, reduceCtorEq, Int.reduceEq, frzLA, ifN, ifNP]
     refine Wk_intro (by simp (disch := omega) [Wk, wkF, wkM, wkL, look_cons, renV, renA, renC, renB, rn, clV, clA, clAs, clB, notIn, findB, findB_setB, clA.go, ifN]) ?_ rfl (by simp; try omega) (by simp [wkL]; try omega)
     repeat' first | exact hF.wk (by simp [wkL]; try omega) (by simp; try omega) (by intro n hn; simp (disch := omega) [rn, ifN] at hn ⊢; omega) (by intro nm bx h1 h2 h3; simp only [notIn] at h2; simp only [findB, findB_setB]; (repeat (refine (ifN (by omega)).trans ?_)); exact h3) | refine wkM_cons ?_ ?_ ?_ ?_ ?_ | (simp (disch := omega) [Wk, wkF, wkM, wkL, look_cons, renV, renA, renC, renB, rn, clV, clA, clAs, clB, notIn, findB, findB_setB, clA.go, ifN] <;> omega) | omega
    ·rw [if_neg hfull]
     repeat' first | simp (disch := omega) only [go_sem, ↓reduceIte, Nat.reduceEqDiff, reduceCtorEq, Int.reduceEq, ifN, ifNP, hdl] | ((with_reducible first | refine condD ?_ ?_ | refine condX ?_ ?_ | refine condW_intro ?_ ?_) <;> intro h <;> first | (exfalso; omega) | simp (disch := omega) only [go_sem, ↓reduceIte, Nat.reduceEqDiff, reduceCtorEq, Int.reduceEq, *, ifN, ifNP, hdl] | skip) | (refine app_own (by simp (disch := omega) only [findB, findB_setB, ifN, eq_self, ↓reduceIte, Option.map_some] <;> rfl) (by intro h; cases h) (rowsOk_one rfl) (by simp; omega) (by simp; omega) ?_)
     refine ⟨[], [(nx, nx + 2)], ?_⟩
     simp (disch := omega) only [go_sem, ↓reduceIte, Nat.reduceEqDiff, reduceCtorEq, Int.reduceEq, frzLA, ifN, ifNP, hdl]
     refine Wk_intro (by simp (disch := omega) [Wk, wkF, wkM, wkL, look_cons, renV, renA, renC, renB, rn, clV, clA, clAs, clB, notIn, findB, findB_setB, clA.go, ifN]) ?_ rfl (by simp; try omega) (by simp [wkL]; try omega)
     repeat' first | exact hF.wk (by simp [wkL]; try omega) (by simp; try omega) (by intro n hn; simp (disch := omega) [rn, ifN] at hn ⊢; omega) (by intro nm bx h1 h2 h3; simp only [notIn] at h2; simp only [findB, findB_setB]; (repeat (refine (ifN (by omega)).trans ?_)); exact h3) | refine wkM_cons ?_ ?_ ?_ ?_ ?_ | (simp (disch := omega) [Wk, wkF, wkM, wkL, look_cons, renV, renA, renC, renB, rn, clV, clA, clAs, clB, notIn, findB, findB_setB, clA.go, ifN] <;> omega) | omega
end Go.Proofs.Ytnddmjhpplopbaa
