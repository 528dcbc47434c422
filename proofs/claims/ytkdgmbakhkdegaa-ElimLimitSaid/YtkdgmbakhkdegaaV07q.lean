/- Walks by the abstract machine: rows added with multipliers. -/
import Derived.Test.YtkdgmbakhkdegaaV07p
import Derived.Test.YtkdgmbakhkdegaaAbs24
set_option linter.unusedVariables false
set_option linter.unusedSimpArgs false
set_option maxRecDepth 20000
namespace Go.Proofs.Ytkdgmbakhkdegaa
open Go.Abs Go.RowKit

abbrev sysM (r : Nat) (rows : List Row) (fuel : Int) (F : List (Nat × Box)) : List (Nat × Box) := (r, .arr 71 4 (rows.map rCells)) :: (0, .var [.ref r, .pure (pI fuel)]) :: F
abbrev aRowN : AV := .agg [.pure (pI 0), .nils, .pure (pB false), .nils]
abbrev rowX (x : Row × Int) : List AV := [if x.2 = 0 then aRow x.1 else aRowN, I x.2]
theorem sumsF_none {x y : Int} {l : List (Int × Int)} {k : Nat} (h : k < l.length) (hb : sumOk x y l[k] = false) : sumsF x y (l.drop k) = none := by
 rw [List.drop_eq_getElem_cons h, sumsF, hb]
 rfl
theorem sumsF_some {x y : Int} {l : List (Int × Int)} {k : Nat} (h : k < l.length) (hb : sumOk x y l[k] = true) : sumsF x y (l.drop k) = (sumsF x y (l.drop (k + 1))).map ((l[k].1 * x + l[k].2 * y) :: ·) := by
 rw [List.drop_eq_getElem_cons h, sumsF, hb]
 rfl
theorem ovf {U V : Int} (hU : in64 U) (hV : in64 V) (h : ¬ in64 (U + V)) : (U < 0 ∧ V < 0 ∧ ¬ IntKind.wrap .i64 (U + V) < 0) ∨ (¬ U < 0 ∧ ¬ V < 0 ∧ IntKind.wrap .i64 (U + V) < 0) := by
 rw [IntKind.wrap_i64]
 unfold in64 at *
 omega
theorem sumOk_iff {x y : Int} {p : Int × Int} : sumOk x y p = true ↔ in64 (p.1 * x) ∧ in64 (p.2 * y) ∧ in64 (p.1 * x + p.2 * y) := by simp [sumOk]
set_option maxHeartbeats 2000000 in
theorem elim_merge_abs {a b : Row} {x y fuel : Int} {r nx : Nat} {rows : List Row} {F : List (Nat × Box)} (ha : row64 a) (hb : row64 b) (hx : in64 x) (hy : in64 y) (hab : a.2.length = b.2.length) (hal : a.2.length ≤ 1000000000)
  (hla : a.1.1.2.length ≤ 400000000) (hlb : b.1.1.2.length ≤ 400000000) (hf0 : 0 ≤ fuel) (hf1 : fuel ≤ 2000000) (hr : 0 < r) (hrn : r < nx) (hF : frOk nx [0, r] F) :
  ICalls Try.prog n_elim_system_merge [.c (.ptr 0 0), aRow a, aRow b, I x, I y] (sysM r rows fuel F) nx (packV (rowX (mergeS fuel a b x y))) (sysM r rows (fuel - 1) F) nx := by
 refine ICalls.ofZ is_elim_system_merge (by simp) fun _ => runW_sound ?_
 have pc := constraint_Combine_abs (l := [a.1, b.1]) (b := [x, y]) (by simp; exact ⟨ha.1, hb.1⟩) (by simp; exact ⟨hx, hy⟩) (by simp [tot]; omega)
 simp only [c_elim_system_merge]
 have ef : IntKind.wrap .i64 (fuel - 1) = fuel - 1 := wrap_i64 (by omega)
 by_cases h0 : fuel ≤ 0
 ·rw [mergeS, if_pos h0]
  repeat' first | simp (disch := omega) only [go_sem, ↓reduceIte, Nat.reduceEqDiff, reduceCtorEq, Int.reduceEq, ifN, ifNP, ef] | ((with_reducible first | refine condD ?_ ?_ | refine condX ?_ ?_ | refine condW_intro ?_ ?_) <;> intro h <;> first | (exfalso; omega) | simp (disch := omega) only [go_sem, ↓reduceIte, Nat.reduceEqDiff, reduceCtorEq, Int.reduceEq, *, ifN, ifNP, ef] | skip)
  refine ⟨[], [], ?_⟩
  simp (disch := omega) only [go_sem, ↓reduceIte, Nat.reduceEqDiff, reduceCtorEq, Int.reduceEq, frzLA, ifN, ifNP, ef]
  refine Wk_intro (by simp (disch := omega) [Wk, wkF, wkM, wkL, look_cons, renV, renA, renC, renB, rn, clV, clA, clAs, clB, notIn, findB, findB_setB, clA.go, ifN]) ?_ rfl (by simp; try omega) (by simp [wkL]; try omega)
  repeat' first | exact hF.wk (by simp [wkL]; try omega) (by simp; try omega) (by intro n hn; simp (disch := omega) [rn, ifN] at hn ⊢; omega) (by intro nm bx h1 h2 h3; simp only [notIn] at h2; simp only [findB, findB_setB]; (repeat (refine (ifN (by omega)).trans ?_)); exact h3) | refine wkM_cons ?_ ?_ ?_ ?_ ?_ | (simp (disch := omega) [Wk, wkF, wkM, wkL, look_cons, renV, renA, renC, renB, rn, clV, clA, clAs, clB, notIn, findB, findB_setB, clA.go, ifN] <;> omega) | omega
 ·rw [mergeS, if_neg h0]
  obtain ⟨C, hC⟩ : ∃ C, C = conCombine [a.1, b.1] [x, y] := ⟨_, rfl⟩
  have hc64 := conCombine_64 [a.1, b.1] [x, y]
  have hcl := conCombine2_len a.1 b.1 x y
  rw [← hC] at pc hc64 hcl ⊢
  clear hC
  obtain ⟨⟨⟨K, l⟩, q⟩, e⟩ := C
  by_cases he : e = 0
  ·subst he
   rw [if_neg (by simp)]
   obtain ⟨R, hR⟩ : ∃ R, R = (sumsF x y ((a.2.zip b.2).drop 0)).map (([] : List Int) ++ ·) := ⟨_, rfl⟩
   have hR0 : sumsF x y (a.2.zip b.2) = R := by rw [hR]; simp
   rw [hR0]
   have HR := Lib.hid hR
   clear hR hR0
   repeat' first | simp (disch := omega) only [go_sem, ↓reduceIte, Nat.reduceEqDiff, reduceCtorEq, Int.reduceEq, ifN, ifNP, ef] | ((with_reducible first | refine condD ?_ ?_ | refine condX ?_ ?_ | refine condW_intro ?_ ?_) <;> intro h <;> first | (exfalso; omega) | simp (disch := omega) only [go_sem, ↓reduceIte, Nat.reduceEqDiff, reduceCtorEq, Int.reduceEq, *, ifN, ifNP, ef] | skip) | (refine callW_of pc rfl (.inr rfl) ?_)
   refine AW_adoptM (nx + 4) 3 2 1 [.pure (pI K), .pure (pMonos l), .pure (pB q), .nils] (by simp [findB]) rfl (by decide) ?_
   refine AW_loop (fun s : Nat × List Int => ⟨[(3, I x), (4, I y), (6, .c (.ptr nx 0)), (7, .c (.ptr (nx + 1) 0)), (10, .c (.ptr (nx + 2) 0)), (14, .c (.ptr (nx + 4) 0)), (54, I a.2.length), (55, I s.1)],
    (nx, .var [.pure (pI a.1.1.1), .pure (pMonos a.1.1.2), .pure (pB a.1.2), .pure (pInts a.2)]) :: (nx + 1, .var [.pure (pI b.1.1.1), .pure (pMonos b.1.1.2), .pure (pB b.1.2), .pure (pInts b.2)]) ::
    (nx + 2, .var [.pure (pI 0), .nils, .pure (pB false), .nils]) :: (nx + 4, .var [.pure (pI K), .pure (pMonos l), .pure (pB q), .ref (nx + 5)]) :: (nx + 5, .arr 2 1 (s.2.map fun n => [pI n])) :: sysM r rows (fuel - 1) F, nx + 6, nx⟩)
    (fun s => s.1 ≤ a.2.length ∧ s.2.length ≤ s.1 ∧ (∀ n ∈ s.2, in64 n) ∧ Hid (R = (sumsF x y ((a.2.zip b.2).drop s.1)).map (s.2 ++ ·))) (fun s => a.2.length - s.1) ⟨(0, []), [], ⟨Nat.zero_le _, Nat.le_refl _, (by simp), HR⟩, ?_⟩ ?_
   ·refine Wk_intro (by simp (disch := omega) [Wk, wkF, wkM, wkL, look_cons, renV, renA, renC, renB, rn, clV, clA, clAs, clB, notIn, findB, findB_setB, clA.go, ifN]) ?_ rfl (by simp; try omega) (by simp [wkL]; try omega)
    repeat' first | exact hF.wk (by simp [wkL]; try omega) (by simp; try omega) (by intro n hn; simp (disch := omega) [rn, ifN] at hn ⊢; omega) (by intro nm bx h1 h2 h3; simp only [notIn] at h2; simp only [findB, findB_setB]; (repeat (refine (ifN (by omega)).trans ?_)); exact h3) | refine wkM_cons ?_ ?_ ?_ ?_ ?_ | (simp (disch := omega) [Wk, wkF, wkM, wkL, look_cons, renV, renA, renC, renB, rn, clV, clA, clAs, clB, notIn, findB, findB_setB, clA.go, ifN] <;> omega) | omega
   rintro ⟨j, acc⟩ ⟨hj, hacc, h64, HR⟩
   simp only at hj hacc h64 HR
   refine runW_sound ?_
   by_cases hlt : j < a.2.length
   ·have hltb : j < b.2.length := by omega
    have hz : j < (a.2.zip b.2).length := by simp; omega
    have ez : (a.2.zip b.2)[j] = (a.2[j], b.2[j]) := List.getElem_zip
    have g1 := map_get (f := fun n => [pI n]) hlt
    have g2 := map_get (f := fun n => [pI n]) hltb
    have p1 := elim_product_abs (ha.2 _ (List.getElem_mem hlt)) hx
    have p2 := elim_product_abs (hb.2 _ (List.getElem_mem hltb)) hy
    have h2 := HR.out
    clear HR pc hab
    by_cases hs : sumOk x y (a.2[j], b.2[j]) = true
    ·rw [sumsF_some hz (by rw [ez]; exact hs), ez] at h2
     obtain ⟨s1, s2, s3⟩ := sumOk_iff.1 hs
     rw [decide_eq_true s1, wrap_i64 s1] at p1
     rw [decide_eq_true s2, wrap_i64 s2] at p2
     have ew := wrap_i64 s3
     simp only at h2 ew s1 s2 s3
     clear hs ez hz
     generalize a.2[j] * x = P at *
     generalize b.2[j] * y = Q at *
     generalize a.2[j] = a0 at *
     generalize b.2[j] = b0 at *
     have HR : Hid (R = (sumsF x y ((a.2.zip b.2).drop (j + 1))).map ((acc ++ [P + Q]) ++ ·)) := Lib.hid (by
      rw [h2]
      cases sumsF x y ((a.2.zip b.2).drop (j + 1)) <;> simp)
     clear h2
     have hacc2 : (acc.map fun n => [pI n]).length ≤ 1000000000 := by simp; omega
     have h64' : ∀ n ∈ acc ++ [P + Q], in64 n := by
      intro n hn
      rcases List.mem_append.1 hn with hn | hn
      ·exact h64 n hn
      ·rw [List.mem_singleton.1 hn]; exact s3
     have hlen' : (acc ++ [P + Q]).length ≤ j + 1 := by simp; omega
     have hmap : (acc ++ [P + Q]).map (fun n => [pI n]) = acc.map (fun n => [pI n]) ++ [[pI (P + Q)]] := by simp
     clear h64
     generalize hD : acc.map (fun n => [pI n]) = D at *
     have hsg : (P < 0 ∧ Q < 0 ∧ P + Q < 0) ∨ (¬ P < 0 ∧ ¬ Q < 0 ∧ ¬ P + Q < 0) ∨ (P < 0 ∧ ¬ Q < 0) ∨ (¬ P < 0 ∧ Q < 0) := by omega
     have hdl := hF.del (n := nx + 5) (.inr (by omega))
     rcases hsg with ⟨hu, hv, hw⟩ | ⟨hu, hv, hw⟩ | ⟨hu, hv⟩ | ⟨hu, hv⟩
     ·repeat' first | simp (disch := omega) only [go_sem, ↓reduceIte, Nat.reduceEqDiff, reduceCtorEq, Int.reduceEq, g1, g2, ifN, ifNP, hdl, ew, hu, hv, hw, wrap_i64] | ((with_reducible first | refine condD ?_ ?_ | refine condX ?_ ?_ | refine condW_intro ?_ ?_) <;> intro h <;> first | (exfalso; omega) | simp (disch := omega) only [go_sem, ↓reduceIte, Nat.reduceEqDiff, reduceCtorEq, Int.reduceEq, *, g1, g2, ifN, ifNP, hdl, ew, hu, hv, hw, wrap_i64] | skip) | (refine callW_of p1 rfl (.inl rfl) ?_) | (refine callW_of p2 rfl (.inl rfl) ?_) | (refine app_own (by simp (disch := omega) only [findB, findB_setB, ifN, eq_self, ↓reduceIte, Option.map_some] <;> rfl) (by intro h; cases h) (rowsOk_one rfl) (by simp; omega) (by simp; omega) ?_)
      refine ⟨(j + 1, acc ++ [P + Q]), [(nx + 5, nx + 6)], ⟨hlt, hlen', h64', HR⟩, by show _ - _ < _ - _; omega, ?_⟩
      refine Wk_intro (by simp (disch := omega) [Wk, wkF, wkM, wkL, look_cons, renV, renA, renC, renB, rn, clV, clA, clAs, clB, notIn, findB, findB_setB, clA.go, ifN, hmap]) ?_ rfl (by simp; try omega) (by simp [wkL]; try omega)
      repeat' first | exact hF.wk (by simp [wkL]; try omega) (by simp; try omega) (by intro n hn; simp (disch := omega) [rn, ifN] at hn ⊢; omega) (by intro nm bx h1 h2 h3; simp only [notIn] at h2; simp only [findB, findB_setB]; (repeat (refine (ifN (by omega)).trans ?_)); exact h3) | refine wkM_cons ?_ ?_ ?_ ?_ ?_ | (simp (disch := omega) [Wk, wkF, wkM, wkL, look_cons, renV, renA, renC, renB, rn, clV, clA, clAs, clB, notIn, findB, findB_setB, clA.go, ifN, hmap] <;> omega) | omega
     ·repeat' first | simp (disch := omega) only [go_sem, ↓reduceIte, Nat.reduceEqDiff, reduceCtorEq, Int.reduceEq, g1, g2, ifN, ifNP, hdl, ew, hu, hv, hw, wrap_i64] | ((with_reducible first | refine condD ?_ ?_ | refine condX ?_ ?_ | refine condW_intro ?_ ?_) <;> intro h <;> first | (exfalso; omega) | simp (disch := omega) only [go_sem, ↓reduceIte, Nat.reduceEqDiff, reduceCtorEq, Int.reduceEq, *, g1, g2, ifN, ifNP, hdl, ew, hu, hv, hw, wrap_i64] | skip) | (refine callW_of p1 rfl (.inl rfl) ?_) | (refine callW_of p2 rfl (.inl rfl) ?_) | (refine app_own (by simp (disch := omega) only [findB, findB_setB, ifN, eq_self, ↓reduceIte, Option.map_some] <;> rfl) (by intro h; cases h) (rowsOk_one rfl) (by simp; omega) (by simp; omega) ?_)
      refine ⟨(j + 1, acc ++ [P + Q]), [(nx + 5, nx + 6)], ⟨hlt, hlen', h64', HR⟩, by show _ - _ < _ - _; omega, ?_⟩
      refine Wk_intro (by simp (disch := omega) [Wk, wkF, wkM, wkL, look_cons, renV, renA, renC, renB, rn, clV, clA, clAs, clB, notIn, findB, findB_setB, clA.go, ifN, hmap]) ?_ rfl (by simp; try omega) (by simp [wkL]; try omega)
      repeat' first | exact hF.wk (by simp [wkL]; try omega) (by simp; try omega) (by intro n hn; simp (disch := omega) [rn, ifN] at hn ⊢; omega) (by intro nm bx h1 h2 h3; simp only [notIn] at h2; simp only [findB, findB_setB]; (repeat (refine (ifN (by omega)).trans ?_)); exact h3) | refine wkM_cons ?_ ?_ ?_ ?_ ?_ | (simp (disch := omega) [Wk, wkF, wkM, wkL, look_cons, renV, renA, renC, renB, rn, clV, clA, clAs, clB, notIn, findB, findB_setB, clA.go, ifN, hmap] <;> omega) | omega
     ·repeat' first | simp (disch := omega) only [go_sem, ↓reduceIte, Nat.reduceEqDiff, reduceCtorEq, Int.reduceEq, g1, g2, ifN, ifNP, hdl, ew, hu, hv, wrap_i64] | ((with_reducible first | refine condD ?_ ?_ | refine condX ?_ ?_ | refine condW_intro ?_ ?_) <;> intro h <;> first | (exfalso; omega) | simp (disch := omega) only [go_sem, ↓reduceIte, Nat.reduceEqDiff, reduceCtorEq, Int.reduceEq, *, g1, g2, ifN, ifNP, hdl, ew, hu, hv, wrap_i64] | skip) | (refine callW_of p1 rfl (.inl rfl) ?_) | (refine callW_of p2 rfl (.inl rfl) ?_) | (refine app_own (by simp (disch := omega) only [findB, findB_setB, ifN, eq_self, ↓reduceIte, Option.map_some] <;> rfl) (by intro h; cases h) (rowsOk_one rfl) (by simp; omega) (by simp; omega) ?_)
      refine ⟨(j + 1, acc ++ [P + Q]), [(nx + 5, nx + 6)], ⟨hlt, hlen', h64', HR⟩, by show _ - _ < _ - _; omega, ?_⟩
      refine Wk_intro (by simp (disch := omega) [Wk, wkF, wkM, wkL, look_cons, renV, renA, renC, renB, rn, clV, clA, clAs, clB, notIn, findB, findB_setB, clA.go, ifN, hmap]) ?_ rfl (by simp; try omega) (by simp [wkL]; try omega)
      repeat' first | exact hF.wk (by simp [wkL]; try omega) (by simp; try omega) (by intro n hn; simp (disch := omega) [rn, ifN] at hn ⊢; omega) (by intro nm bx h1 h2 h3; simp only [notIn] at h2; simp only [findB, findB_setB]; (repeat (refine (ifN (by omega)).trans ?_)); exact h3) | refine wkM_cons ?_ ?_ ?_ ?_ ?_ | (simp (disch := omega) [Wk, wkF, wkM, wkL, look_cons, renV, renA, renC, renB, rn, clV, clA, clAs, clB, notIn, findB, findB_setB, clA.go, ifN, hmap] <;> omega) | omega
     ·repeat' first | simp (disch := omega) only [go_sem, ↓reduceIte, Nat.reduceEqDiff, reduceCtorEq, Int.reduceEq, g1, g2, ifN, ifNP, hdl, ew, hu, hv, wrap_i64] | ((with_reducible first | refine condD ?_ ?_ | refine condX ?_ ?_ | refine condW_intro ?_ ?_) <;> intro h <;> first | (exfalso; omega) | simp (disch := omega) only [go_sem, ↓reduceIte, Nat.reduceEqDiff, reduceCtorEq, Int.reduceEq, *, g1, g2, ifN, ifNP, hdl, ew, hu, hv, wrap_i64] | skip) | (refine callW_of p1 rfl (.inl rfl) ?_) | (refine callW_of p2 rfl (.inl rfl) ?_) | (refine app_own (by simp (disch := omega) only [findB, findB_setB, ifN, eq_self, ↓reduceIte, Option.map_some] <;> rfl) (by intro h; cases h) (rowsOk_one rfl) (by simp; omega) (by simp; omega) ?_)
      refine ⟨(j + 1, acc ++ [P + Q]), [(nx + 5, nx + 6)], ⟨hlt, hlen', h64', HR⟩, by show _ - _ < _ - _; omega, ?_⟩
      refine Wk_intro (by simp (disch := omega) [Wk, wkF, wkM, wkL, look_cons, renV, renA, renC, renB, rn, clV, clA, clAs, clB, notIn, findB, findB_setB, clA.go, ifN, hmap]) ?_ rfl (by simp; try omega) (by simp [wkL]; try omega)
      repeat' first | exact hF.wk (by simp [wkL]; try omega) (by simp; try omega) (by intro n hn; simp (disch := omega) [rn, ifN] at hn ⊢; omega) (by intro nm bx h1 h2 h3; simp only [notIn] at h2; simp only [findB, findB_setB]; (repeat (refine (ifN (by omega)).trans ?_)); exact h3) | refine wkM_cons ?_ ?_ ?_ ?_ ?_ | (simp (disch := omega) [Wk, wkF, wkM, wkL, look_cons, renV, renA, renC, renB, rn, clV, clA, clAs, clB, notIn, findB, findB_setB, clA.go, ifN, hmap] <;> omega) | omega
    ·have hs0 : sumOk x y (a.2[j], b.2[j]) = false := by simpa using hs
     rw [sumsF_none hz (by rw [ez]; exact hs0)] at h2
     simp only [Option.map_none] at h2
     subst h2
     have hs' : ¬ (in64 (a.2[j] * x) ∧ in64 (b.2[j] * y) ∧ in64 (a.2[j] * x + b.2[j] * y)) := fun h => hs (sumOk_iff.2 h)
     clear hs hs0 ez hz h64
     by_cases s1 : in64 (a.2[j] * x)
     ·rw [decide_eq_true s1, wrap_i64 s1] at p1
      by_cases s2 : in64 (b.2[j] * y)
      ·rw [decide_eq_true s2, wrap_i64 s2] at p2
       have ov := ovf s1 s2 (fun h => hs' ⟨s1, s2, h⟩)
       clear hs'
       generalize a.2[j] * x = P at *
       generalize b.2[j] * y = Q at *
       generalize a.2[j] = a0 at *
       generalize b.2[j] = b0 at *
       rcases ov with ⟨hu, hv, hw⟩ | ⟨hu, hv, hw⟩
       ·repeat' first | simp (disch := omega) only [go_sem, ↓reduceIte, Nat.reduceEqDiff, reduceCtorEq, Int.reduceEq, g1, g2, ifN, ifNP, hu, hv, hw, wrap_i64] | ((with_reducible first | refine condD ?_ ?_ | refine condX ?_ ?_ | refine condW_intro ?_ ?_) <;> intro h <;> first | (exfalso; omega) | simp (disch := omega) only [go_sem, ↓reduceIte, Nat.reduceEqDiff, reduceCtorEq, Int.reduceEq, *, g1, g2, ifN, ifNP, hu, hv, hw, wrap_i64] | skip) | (refine callW_of p1 rfl (.inl rfl) ?_) | (refine callW_of p2 rfl (.inl rfl) ?_)
        refine ⟨[], [], ?_⟩
        simp (disch := omega) only [go_sem, ↓reduceIte, Nat.reduceEqDiff, reduceCtorEq, Int.reduceEq, frzLA, ifN, ifNP]
        refine Wk_intro (by simp (disch := omega) [Wk, wkF, wkM, wkL, look_cons, renV, renA, renC, renB, rn, clV, clA, clAs, clB, notIn, findB, findB_setB, clA.go, ifN]) ?_ rfl (by simp; try omega) (by simp [wkL]; try omega)
        repeat' first | exact hF.wk (by simp [wkL]; try omega) (by simp; try omega) (by intro n hn; simp (disch := omega) [rn, ifN] at hn ⊢; omega) (by intro nm bx h1 h2 h3; simp only [notIn] at h2; simp only [findB, findB_setB]; (repeat (refine (ifN (by omega)).trans ?_)); exact h3) | refine wkM_cons ?_ ?_ ?_ ?_ ?_ | (simp (disch := omega) [Wk, wkF, wkM, wkL, look_cons, renV, renA, renC, renB, rn, clV, clA, clAs, clB, notIn, findB, findB_setB, clA.go, ifN] <;> omega) | omega
       ·repeat' first | simp (disch := omega) only [go_sem, ↓reduceIte, Nat.reduceEqDiff, reduceCtorEq, Int.reduceEq, g1, g2, ifN, ifNP, hu, hv, hw, wrap_i64] | ((with_reducible first | refine condD ?_ ?_ | refine condX ?_ ?_ | refine condW_intro ?_ ?_) <;> intro h <;> first | (exfalso; omega) | simp (disch := omega) only [go_sem, ↓reduceIte, Nat.reduceEqDiff, reduceCtorEq, Int.reduceEq, *, g1, g2, ifN, ifNP, hu, hv, hw, wrap_i64] | skip) | (refine callW_of p1 rfl (.inl rfl) ?_) | (refine callW_of p2 rfl (.inl rfl) ?_)
        refine ⟨[], [], ?_⟩
        simp (disch := omega) only [go_sem, ↓reduceIte, Nat.reduceEqDiff, reduceCtorEq, Int.reduceEq, frzLA, ifN, ifNP]
        refine Wk_intro (by simp (disch := omega) [Wk, wkF, wkM, wkL, look_cons, renV, renA, renC, renB, rn, clV, clA, clAs, clB, notIn, findB, findB_setB, clA.go, ifN]) ?_ rfl (by simp; try omega) (by simp [wkL]; try omega)
        repeat' first | exact hF.wk (by simp [wkL]; try omega) (by simp; try omega) (by intro n hn; simp (disch := omega) [rn, ifN] at hn ⊢; omega) (by intro nm bx h1 h2 h3; simp only [notIn] at h2; simp only [findB, findB_setB]; (repeat (refine (ifN (by omega)).trans ?_)); exact h3) | refine wkM_cons ?_ ?_ ?_ ?_ ?_ | (simp (disch := omega) [Wk, wkF, wkM, wkL, look_cons, renV, renA, renC, renB, rn, clV, clA, clAs, clB, notIn, findB, findB_setB, clA.go, ifN] <;> omega) | omega
      ·rw [decide_eq_false s2] at p2
       clear hs'
       generalize a.2[j] * x = P at *
       generalize IntKind.wrap .i64 (b.2[j] * y) = Q at *
       generalize a.2[j] = a0 at *
       generalize b.2[j] = b0 at *
       repeat' first | simp (disch := omega) only [go_sem, ↓reduceIte, Nat.reduceEqDiff, reduceCtorEq, Int.reduceEq, g1, g2, ifN, ifNP, wrap_i64] | ((with_reducible first | refine condD ?_ ?_ | refine condX ?_ ?_ | refine condW_intro ?_ ?_) <;> intro h <;> first | (exfalso; omega) | simp (disch := omega) only [go_sem, ↓reduceIte, Nat.reduceEqDiff, reduceCtorEq, Int.reduceEq, *, g1, g2, ifN, ifNP, wrap_i64] | skip) | (refine callW_of p1 rfl (.inl rfl) ?_) | (refine callW_of p2 rfl (.inl rfl) ?_)
       all_goals
        refine ⟨[], [], ?_⟩
        simp (disch := omega) only [go_sem, ↓reduceIte, Nat.reduceEqDiff, reduceCtorEq, Int.reduceEq, frzLA, ifN, ifNP]
        refine Wk_intro (by simp (disch := omega) [Wk, wkF, wkM, wkL, look_cons, renV, renA, renC, renB, rn, clV, clA, clAs, clB, notIn, findB, findB_setB, clA.go, ifN]) ?_ rfl (by simp; try omega) (by simp [wkL]; try omega)
        repeat' first | exact hF.wk (by simp [wkL]; try omega) (by simp; try omega) (by intro n hn; simp (disch := omega) [rn, ifN] at hn ⊢; omega) (by intro nm bx h1 h2 h3; simp only [notIn] at h2; simp only [findB, findB_setB]; (repeat (refine (ifN (by omega)).trans ?_)); exact h3) | refine wkM_cons ?_ ?_ ?_ ?_ ?_ | (simp (disch := omega) [Wk, wkF, wkM, wkL, look_cons, renV, renA, renC, renB, rn, clV, clA, clAs, clB, notIn, findB, findB_setB, clA.go, ifN] <;> omega) | omega
     ·rw [decide_eq_false s1] at p1
      clear hs'
      generalize decide (in64 (b.2[j] * y)) = d2 at *
      generalize IntKind.wrap .i64 (a.2[j] * x) = P at *
      generalize IntKind.wrap .i64 (b.2[j] * y) = Q at *
      generalize a.2[j] = a0 at *
      generalize b.2[j] = b0 at *
      cases d2
      all_goals
       repeat' first | simp (disch := omega) only [go_sem, ↓reduceIte, Nat.reduceEqDiff, reduceCtorEq, Int.reduceEq, g1, g2, ifN, ifNP, wrap_i64] | ((with_reducible first | refine condD ?_ ?_ | refine condX ?_ ?_ | refine condW_intro ?_ ?_) <;> intro h <;> first | (exfalso; omega) | simp (disch := omega) only [go_sem, ↓reduceIte, Nat.reduceEqDiff, reduceCtorEq, Int.reduceEq, *, g1, g2, ifN, ifNP, wrap_i64] | skip) | (refine callW_of p1 rfl (.inl rfl) ?_) | (refine callW_of p2 rfl (.inl rfl) ?_)
       all_goals
        refine ⟨[], [], ?_⟩
        simp (disch := omega) only [go_sem, ↓reduceIte, Nat.reduceEqDiff, reduceCtorEq, Int.reduceEq, frzLA, ifN, ifNP]
        refine Wk_intro (by simp (disch := omega) [Wk, wkF, wkM, wkL, look_cons, renV, renA, renC, renB, rn, clV, clA, clAs, clB, notIn, findB, findB_setB, clA.go, ifN]) ?_ rfl (by simp; try omega) (by simp [wkL]; try omega)
        repeat' first | exact hF.wk (by simp [wkL]; try omega) (by simp; try omega) (by intro n hn; simp (disch := omega) [rn, ifN] at hn ⊢; omega) (by intro nm bx h1 h2 h3; simp only [notIn] at h2; simp only [findB, findB_setB]; (repeat (refine (ifN (by omega)).trans ?_)); exact h3) | refine wkM_cons ?_ ?_ ?_ ?_ ?_ | (simp (disch := omega) [Wk, wkF, wkM, wkL, look_cons, renV, renA, renC, renB, rn, clV, clA, clAs, clB, notIn, findB, findB_setB, clA.go, ifN] <;> omega) | omega
   ·have h2 := HR.out
    have hz : (a.2.zip b.2).length ≤ j := by simp; omega
    rw [List.drop_eq_nil_of_le hz, sumsF] at h2
    simp only [Option.map_some, List.append_nil] at h2
    subst h2
    clear HR hz
    have hrow : row64 (((K, l), q), acc) := ⟨hc64, h64⟩
    have pr := elim_reduced_abs (d := (((K, l), q), acc)) hrow (by simp only at hcl ⊢; omega) (by simp only; omega)
    have hfz := hF.frz (n := nx + 5) (rows := acc.map fun n => [pI n]) (.inr (by omega))
    clear pc
    repeat' first | simp (disch := omega) only [go_sem, ↓reduceIte, Nat.reduceEqDiff, reduceCtorEq, Int.reduceEq, ifN, ifNP] | ((with_reducible first | refine condD ?_ ?_ | refine condX ?_ ?_ | refine condW_intro ?_ ?_) <;> intro h <;> first | (exfalso; omega) | simp (disch := omega) only [go_sem, ↓reduceIte, Nat.reduceEqDiff, reduceCtorEq, Int.reduceEq, *, ifN, ifNP] | skip) | (refine callW_z1 (nx + 5) 2 1 (acc.map fun n => [pI n]) pr (by simp (disch := omega) only [findB, findB_setB, ifN, eq_self, ↓reduceIte, Option.map_some] <;> rfl) (by simp [frzV, frz1, purVs, purV, purAs, purA, purC]) (.inr (by simp [frzV, frz1, norefV, norefA, norefC])) ?_)
    refine ⟨[], [], ?_⟩
    simp (disch := omega) only [go_sem, ↓reduceIte, Nat.reduceEqDiff, reduceCtorEq, Int.reduceEq, frzLA, ifN, ifNP, hfz]
    refine Wk_intro (by simp (disch := omega) [Wk, wkF, wkM, wkL, look_cons, renV, renA, renC, renB, rn, clV, clA, clAs, clB, notIn, findB, findB_setB, clA.go, ifN]) ?_ rfl (by simp; try omega) (by simp [wkL]; try omega)
    repeat' first | exact hF.wk (by simp [wkL]; try omega) (by simp; try omega) (by intro n hn; simp (disch := omega) [rn, ifN] at hn ⊢; omega) (by intro nm bx h1 h2 h3; simp only [notIn] at h2; simp only [findB, findB_setB]; (repeat (refine (ifN (by omega)).trans ?_)); exact h3) | refine wkM_cons ?_ ?_ ?_ ?_ ?_ | (simp (disch := omega) [Wk, wkF, wkM, wkL, look_cons, renV, renA, renC, renB, rn, clV, clA, clAs, clB, notIn, findB, findB_setB, clA.go, ifN] <;> omega) | omega
  ·rw [if_pos he]
   repeat' first | simp (disch := omega) only [go_sem, ↓reduceIte, Nat.reduceEqDiff, reduceCtorEq, Int.reduceEq, ifN, ifNP, ef, he] | ((with_reducible first | refine condD ?_ ?_ | refine condX ?_ ?_ | refine condW_intro ?_ ?_) <;> intro h <;> first | (exfalso; omega) | simp (disch := omega) only [go_sem, ↓reduceIte, Nat.reduceEqDiff, reduceCtorEq, Int.reduceEq, *, ifN, ifNP, ef, he] | skip) | (refine callW_of pc rfl (.inr rfl) ?_)
   refine ⟨[], [], ?_⟩
   simp (disch := omega) only [go_sem, ↓reduceIte, Nat.reduceEqDiff, reduceCtorEq, Int.reduceEq, frzLA, ifN, ifNP, ef]
   refine Wk_intro (by simp (disch := omega) [Wk, wkF, wkM, wkL, look_cons, renV, renA, renC, renB, rn, clV, clA, clAs, clB, notIn, findB, findB_setB, clA.go, ifN, he]) ?_ rfl (by simp; try omega) (by simp [wkL]; try omega)
   repeat' first | exact hF.wk (by simp [wkL]; try omega) (by simp; try omega) (by intro n hn; simp (disch := omega) [rn, ifN] at hn ⊢; omega) (by intro nm bx h1 h2 h3; simp only [notIn] at h2; simp only [findB, findB_setB]; (repeat (refine (ifN (by omega)).trans ?_)); exact h3) | refine wkM_cons ?_ ?_ ?_ ?_ ?_ | (simp (disch := omega) [Wk, wkF, wkM, wkL, look_cons, renV, renA, renC, renB, rn, clV, clA, clAs, clB, notIn, findB, findB_setB, clA.go, ifN, he] <;> omega) | omega
end Go.Proofs.Ytkdgmbakhkdegaa
