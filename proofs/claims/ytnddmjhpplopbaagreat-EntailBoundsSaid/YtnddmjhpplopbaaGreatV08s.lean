/- The law EntailBounds as a contract of the abstract machine. -/
import Derived.Test.YtnddmjhpplopbaaGreatV08e
import Derived.Test.YtnddmjhpplopbaaGreatV08r
import Derived.Test.YtnddmjhpplopbaaGreatV08u
set_option linter.unusedVariables false
set_option linter.unusedSimpArgs false
set_option maxRecDepth 20000
namespace Go.Proofs.YtnddmjhpplopbaaGreat
open Go.Abs Go.RowKit

theorem lowS_eq {l : List Con} {f : Lin} {fuel : Int} (h1 : okL l) (h2 : linOk f.2) : lowS l f fuel = if (provS l f fuel (-1099511627776)).2 ≠ 0 ∨ (provS l f fuel (-1099511627776)).1 = false then (0, false, (provS l f fuel (-1099511627776)).2) else bisS l f fuel 2199023255553 (-1099511627776) 1099511627777 := by
 rw [lowS, if_neg (by rintro (h | h); exact h h1; exact h h2)]
set_option maxHeartbeats 4000000 in
theorem law08_bound_abs {l : List Con} {f : Lin} {fuel : Int} (h64 : ∀ d ∈ l, con64 d) (hf : lin64 f) (hl : l.length ≤ 1000) (ht : tot l + f.2.length ≤ 1000000) (hfu : in64 fuel) :
  PCalls Tryz.prog n_law08_bound [aCons l, aLin f.1 f.2, I fuel] (.tup [I (lowS l f fuel).1, Go.Abs.B (lowS l f fuel).2.1, I (lowS l f fuel).2.2]) := by
 refine PCalls.of is_law08_bound (by simp) fun _ => runW_sound ?_
 simp only [c_law08_bound]
 have p1 := ref08_Valid_abs l
 have p2 := ref05_Validate_abs f.1 f.2
 have pa := fun (b : Int) (hb : B40 b) => ref08_AtLeast_abs (f := f) (b := b) hf (by omega) hb
 have pq := fun (b : Int) => law08_prove_abs (l := l) (c := ((addE f (-b, [])).1, false)) (fuel := fuel) h64 (addE_64 f (-b, [])) hl (by have := addE_len f (-b, []); simp only [List.length_nil, Nat.add_zero] at this; simp only; omega) hfu
 clear h64 hf ht hfu hl
 by_cases h1 : okL l
 ·rw [decide_eq_true h1] at p1
  by_cases h2 : linOk f.2
  ·rw [if_pos h2] at p2
   rw [lowS_eq h1 h2]
   clear h1 h2
   obtain ⟨N0, hN0⟩ : ∃ N : Nat, N = 2199023255553 := ⟨_, rfl⟩
   rw [← hN0]
   obtain ⟨R, hR⟩ : ∃ R, R = if (provS l f fuel (-1099511627776)).2 ≠ 0 ∨ (provS l f fuel (-1099511627776)).1 = false then (0, false, (provS l f fuel (-1099511627776)).2) else bisS l f fuel N0 (-1099511627776) 1099511627777 := ⟨_, rfl⟩
   rw [← hR]
   have HR := Lib.hid hR
   have HN : Hid (N0 = 2199023255553) := Lib.hid hN0
   clear hR hN0
   obtain ⟨K, m⟩ := f
   simp only at p2 pa
   repeat' first | simp (disch := omega) only [go_sem, ↓reduceIte, Nat.reduceEqDiff, reduceCtorEq, Int.reduceEq] | ((with_reducible first | refine condD ?_ ?_ | refine condX ?_ ?_ | refine condW_intro ?_ ?_) <;> intro h <;> first | (exfalso; omega) | simp (disch := omega) only [go_sem, ↓reduceIte, Nat.reduceEqDiff, reduceCtorEq, Int.reduceEq, *] | skip) | (refine callW_of p1 rfl (.inl rfl) ?_) | (refine callW_of p2 rfl (.inl rfl) ?_)
   clear p1 p2
   refine AW_loop (fun s : Bool × Nat × Int × Int × Int => ⟨[(0, aCons l), (2, I fuel), (4, .c (.ptr 0 0)), (9, I s.2.2.1), (10, I s.2.2.2.1), (11, I s.2.2.2.2), (12, Go.Abs.B s.1)], [(0, .var [.pure (pI K), .pure (pMonos m)])], 1, 0⟩)
    (fun s => (s.1 = true ∧ s.2.2.1 = -1099511627776 ∧ s.2.2.2.1 = 1099511627777 ∧ s.2.2.2.2 = -1099511627776) ∨ (s.1 = false ∧ -1099511627776 ≤ s.2.2.1 ∧ s.2.2.1 < s.2.2.2.1 ∧ s.2.2.2.1 ≤ 1099511627777 ∧ s.2.2.2.1 - s.2.2.1 ≤ s.2.1 ∧ Hid (R = bisS l (K, m) fuel s.2.1 s.2.2.1 s.2.2.2.1)))
    (fun s => (s.2.2.2.1 - s.2.2.1).toNat + if s.1 = true then 1 else 0) ⟨(true, 0, -1099511627776, 1099511627777, -1099511627776), [], .inl ⟨rfl, rfl, rfl, rfl⟩, by simp [Wk, wkF, wkM, wkL, look_cons, renV, renA, renC, renB, rn, clV, clA, clAs, clB, notIn, findB, findB_setB, clA.go]⟩ ?_
   rintro ⟨first, N, lo, hi, at'⟩ hinv
   refine runW_sound ?_
   rcases hinv with ⟨i1, i2, i3, i4⟩ | ⟨i1, i2, i3, i4, i5, HR2⟩
   ·simp only at i1 i2 i3 i4
    subst i1
    subst i2
    subst i3
    subst i4
    have qa := pa (-1099511627776) (by decide)
    have qq := pq (-1099511627776)
    have h2 := HR.out
    have hN := HN.out
    unfold provS at h2
    clear HR HN pa pq
    generalize addE (K, m) (-(-1099511627776), []) = G at *
    obtain ⟨⟨GK, GL⟩, ge⟩ := G
    simp only at qa qq h2
    by_cases h0 : ge = 0
    ·subst h0
     rw [if_neg (show ¬ ((0 : Int) ≠ 0) by decide)] at h2
     generalize implS l ((GK, GL), false) fuel = Y at *
     obtain ⟨by', ok, e⟩ := Y
     simp only at qq h2
     by_cases he : e = 0
     ·subst he
      cases ok
      ·rw [if_pos (.inr rfl)] at h2
       subst h2
       repeat' first | simp (disch := omega) only [go_sem, ↓reduceIte, Nat.reduceEqDiff, reduceCtorEq, Int.reduceEq] | ((with_reducible first | refine condD ?_ ?_ | refine condX ?_ ?_ | refine condW_intro ?_ ?_) <;> intro h <;> first | (exfalso; omega) | simp (disch := omega) only [go_sem, ↓reduceIte, Nat.reduceEqDiff, reduceCtorEq, Int.reduceEq, *] | skip) | (with_reducible refine bothW_intro ?_ ?_) | (with_reducible refine nilW_intro (fun h => ?_) ?_) | (refine callW_of qa rfl (.inr rfl) ?_) | (refine callW_of qq rfl (.inr rfl) ?_)
       all_goals rfl
      ·rw [if_neg (by simp)] at h2
       have HR2 := Lib.hid h2
       clear h2
       repeat' first | simp (disch := omega) only [go_sem, ↓reduceIte, Nat.reduceEqDiff, reduceCtorEq, Int.reduceEq] | ((with_reducible first | refine condD ?_ ?_ | refine condX ?_ ?_ | refine condW_intro ?_ ?_) <;> intro h <;> first | (exfalso; omega) | simp (disch := omega) only [go_sem, ↓reduceIte, Nat.reduceEqDiff, reduceCtorEq, Int.reduceEq, *] | skip) | (with_reducible refine bothW_intro ?_ ?_) | (with_reducible refine nilW_intro (fun h => ?_) ?_) | (refine callW_of qa rfl (.inr rfl) ?_) | (refine callW_of qq rfl (.inr rfl) ?_)
       exact ⟨(false, N0, -1099511627776, 1099511627777, -1099511627776), [], .inr ⟨rfl, Int.le_refl _, (by decide : (-1099511627776 : Int) < 1099511627777), Int.le_refl _, by simp only; omega, HR2⟩, by simp, by simp [Wk, wkF, wkM, wkL, look_cons, renV, renA, renC, renB, rn, clV, clA, clAs, clB, notIn, findB, findB_setB, clA.go]⟩
     ·rw [if_pos (.inl he)] at h2
      subst h2
      repeat' first | simp (disch := omega) only [go_sem, ↓reduceIte, Nat.reduceEqDiff, reduceCtorEq, Int.reduceEq, he] | ((with_reducible first | refine condD ?_ ?_ | refine condX ?_ ?_ | refine condW_intro ?_ ?_) <;> intro h <;> first | (exfalso; omega) | simp (disch := omega) only [go_sem, ↓reduceIte, Nat.reduceEqDiff, reduceCtorEq, Int.reduceEq, *, he] | skip) | (with_reducible refine bothW_intro ?_ ?_) | (with_reducible refine nilW_intro (fun h => ?_) ?_) | (refine callW_of qa rfl (.inr rfl) ?_) | (refine callW_of qq rfl (.inr rfl) ?_)
      all_goals rfl
    ·rw [if_pos h0, if_pos (.inl h0)] at h2
     subst h2
     repeat' first | simp (disch := omega) only [go_sem, ↓reduceIte, Nat.reduceEqDiff, reduceCtorEq, Int.reduceEq, h0] | ((with_reducible first | refine condD ?_ ?_ | refine condX ?_ ?_ | refine condW_intro ?_ ?_) <;> intro h <;> first | (exfalso; omega) | simp (disch := omega) only [go_sem, ↓reduceIte, Nat.reduceEqDiff, reduceCtorEq, Int.reduceEq, *, h0] | skip) | (with_reducible refine bothW_intro ?_ ?_) | (with_reducible refine nilW_intro (fun h => ?_) ?_) | (refine callW_of qa rfl (.inr rfl) ?_)
     all_goals rfl
   ·simp only at i1 i2 i3 i4 i5 HR2
    subst i1
    clear HR HN
    by_cases hgo : hi > lo + 1
    ·have h2 := HR2.out
     obtain ⟨N, rfl⟩ : ∃ M, N = M + 1 := ⟨N - 1, by omega⟩
     rw [bisS, if_neg (by omega)] at h2
     have ed : lo + (hi - lo).tdiv 2 = (lo + hi) / 2 := by
      rw [Int.tdiv_eq_ediv_of_nonneg (by omega)]
      omega
     have hm1 : lo < (lo + hi) / 2 := by omega
     have hm2 : (lo + hi) / 2 < hi := by omega
     have qa := pa ((lo + hi) / 2) (by omega)
     have qq := pq ((lo + hi) / 2)
     unfold provS at h2
     clear HR2 pa pq
     have wd : IntKind.wrap .i64 ((hi - lo).tdiv 2) = (hi - lo).tdiv 2 := wrap_i64 (by rw [Int.tdiv_eq_ediv_of_nonneg (by omega)]; omega)
     have ws : IntKind.wrap .i64 (lo + (hi - lo).tdiv 2) = (lo + hi) / 2 := by rw [ed]; exact wrap_i64 (by omega)
     clear ed
     generalize (lo + hi) / 2 = mid at *
     generalize addE (K, m) (-mid, []) = G at *
     obtain ⟨⟨GK, GL⟩, ge⟩ := G
     simp only at qa qq h2
     by_cases h0 : ge = 0
     ·subst h0
      rw [if_neg (show ¬ ((0 : Int) ≠ 0) by decide)] at h2
      generalize implS l ((GK, GL), false) fuel = Y at *
      obtain ⟨by', ok, e⟩ := Y
      simp only at qq h2
      by_cases he : e = 0
      ·subst he
       rw [if_neg (by simp)] at h2
       cases ok
       ·rw [if_neg (by simp)] at h2
        have HR2 := Lib.hid h2
        clear h2
        repeat' first | simp (disch := omega) only [go_sem, ↓reduceIte, Nat.reduceEqDiff, reduceCtorEq, Int.reduceEq, hgo, wd, ws, wrap_i64] | ((with_reducible first | refine condD ?_ ?_ | refine condX ?_ ?_ | refine condW_intro ?_ ?_) <;> intro h <;> first | (exfalso; omega) | simp (disch := omega) only [go_sem, ↓reduceIte, Nat.reduceEqDiff, reduceCtorEq, Int.reduceEq, *, hgo, wd, ws, wrap_i64] | skip) | (with_reducible refine bothW_intro ?_ ?_) | (with_reducible refine nilW_intro (fun h => ?_) ?_) | (refine callW_of qa rfl (.inr rfl) ?_) | (refine callW_of qq rfl (.inr rfl) ?_)
        exact ⟨(false, N, lo, mid, mid), [], .inr ⟨rfl, i2, hm1, by simp only; omega, by simp only; omega, HR2⟩, by (simp only [Bool.false_eq_true, if_false]; omega), by simp [Wk, wkF, wkM, wkL, look_cons, renV, renA, renC, renB, rn, clV, clA, clAs, clB, notIn, findB, findB_setB, clA.go]⟩
       ·rw [if_pos rfl] at h2
        have HR2 := Lib.hid h2
        clear h2
        repeat' first | simp (disch := omega) only [go_sem, ↓reduceIte, Nat.reduceEqDiff, reduceCtorEq, Int.reduceEq, hgo, wd, ws, wrap_i64] | ((with_reducible first | refine condD ?_ ?_ | refine condX ?_ ?_ | refine condW_intro ?_ ?_) <;> intro h <;> first | (exfalso; omega) | simp (disch := omega) only [go_sem, ↓reduceIte, Nat.reduceEqDiff, reduceCtorEq, Int.reduceEq, *, hgo, wd, ws, wrap_i64] | skip) | (with_reducible refine bothW_intro ?_ ?_) | (with_reducible refine nilW_intro (fun h => ?_) ?_) | (refine callW_of qa rfl (.inr rfl) ?_) | (refine callW_of qq rfl (.inr rfl) ?_)
        exact ⟨(false, N, mid, hi, mid), [], .inr ⟨rfl, by simp only; omega, hm2, i4, by simp only; omega, HR2⟩, by (simp only [Bool.false_eq_true, if_false]; omega), by simp [Wk, wkF, wkM, wkL, look_cons, renV, renA, renC, renB, rn, clV, clA, clAs, clB, notIn, findB, findB_setB, clA.go]⟩
      ·rw [if_pos he] at h2
       subst h2
       repeat' first | simp (disch := omega) only [go_sem, ↓reduceIte, Nat.reduceEqDiff, reduceCtorEq, Int.reduceEq, hgo, wd, ws, he, wrap_i64] | ((with_reducible first | refine condD ?_ ?_ | refine condX ?_ ?_ | refine condW_intro ?_ ?_) <;> intro h <;> first | (exfalso; omega) | simp (disch := omega) only [go_sem, ↓reduceIte, Nat.reduceEqDiff, reduceCtorEq, Int.reduceEq, *, hgo, wd, ws, he, wrap_i64] | skip) | (with_reducible refine bothW_intro ?_ ?_) | (with_reducible refine nilW_intro (fun h => ?_) ?_) | (refine callW_of qa rfl (.inr rfl) ?_) | (refine callW_of qq rfl (.inr rfl) ?_)
       all_goals rfl
     ·rw [if_pos h0] at h2
      rw [if_pos h0] at h2
      subst h2
      repeat' first | simp (disch := omega) only [go_sem, ↓reduceIte, Nat.reduceEqDiff, reduceCtorEq, Int.reduceEq, hgo, wd, ws, h0, wrap_i64] | ((with_reducible first | refine condD ?_ ?_ | refine condX ?_ ?_ | refine condW_intro ?_ ?_) <;> intro h <;> first | (exfalso; omega) | simp (disch := omega) only [go_sem, ↓reduceIte, Nat.reduceEqDiff, reduceCtorEq, Int.reduceEq, *, hgo, wd, ws, h0, wrap_i64] | skip) | (with_reducible refine bothW_intro ?_ ?_) | (with_reducible refine nilW_intro (fun h => ?_) ?_) | (refine callW_of qa rfl (.inr rfl) ?_)
      all_goals rfl
    ·have h2 := HR2.out
     have e : bisS l (K, m) fuel N lo hi = (lo, true, 0) := by
      cases N with
      | zero => rw [bisS]
      | succ N => rw [bisS, if_pos (by omega)]
     rw [e] at h2
     subst h2
     clear HR2 pa pq
     repeat' first | simp (disch := omega) only [go_sem, ↓reduceIte, Nat.reduceEqDiff, reduceCtorEq, Int.reduceEq, hgo, wrap_i64] | ((with_reducible first | refine condD ?_ ?_ | refine condX ?_ ?_ | refine condW_intro ?_ ?_) <;> intro h <;> first | (exfalso; omega) | simp (disch := omega) only [go_sem, ↓reduceIte, Nat.reduceEqDiff, reduceCtorEq, Int.reduceEq, *, hgo, wrap_i64] | skip) | (with_reducible refine bothW_intro ?_ ?_) | (with_reducible refine nilW_intro (fun h => ?_) ?_)
     all_goals rfl
  ·rw [if_neg h2] at p2
   rw [lowS, if_pos (.inr h2)]
   clear h1 h2 pa pq
   obtain ⟨K, m⟩ := f
   simp only at p2
   repeat' first | simp (disch := omega) only [go_sem, ↓reduceIte, Nat.reduceEqDiff, reduceCtorEq, Int.reduceEq] | ((with_reducible first | refine condD ?_ ?_ | refine condX ?_ ?_ | refine condW_intro ?_ ?_) <;> intro h <;> first | (exfalso; omega) | simp (disch := omega) only [go_sem, ↓reduceIte, Nat.reduceEqDiff, reduceCtorEq, Int.reduceEq, *] | skip) | (refine callW_of p1 rfl (.inl rfl) ?_) | (refine callW_of p2 rfl (.inl rfl) ?_)
   all_goals rfl
 ·rw [decide_eq_false h1] at p1
  rw [lowS, if_pos (.inl h1)]
  clear h1 p2 pa pq
  obtain ⟨K, m⟩ := f
  repeat' first | simp (disch := omega) only [go_sem, ↓reduceIte, Nat.reduceEqDiff, reduceCtorEq, Int.reduceEq] | ((with_reducible first | refine condD ?_ ?_ | refine condX ?_ ?_ | refine condW_intro ?_ ?_) <;> intro h <;> first | (exfalso; omega) | simp (disch := omega) only [go_sem, ↓reduceIte, Nat.reduceEqDiff, reduceCtorEq, Int.reduceEq, *] | skip) | (refine callW_of p1 rfl (.inl rfl) ?_)
  all_goals rfl
set_option maxHeartbeats 4000000 in
theorem EntailBounds_abs (ps0 ps1 ps2 : List PC) (h0 : OkPs [.slice [.int .i64, .slice [.str, .int .i64], .bool]] ps0) (h1 : OkPs [.int .i64, .slice [.str, .int .i64]] ps1) (h2 : OkPs [.int .i64] ps2) :
  PCalls Tryz.prog 5 [argV false ps0, argV true ps1, argV false ps2] (Go.Abs.B true) := by
 obtain ⟨l, rfl, hl, _⟩ := okConsL h0
 obtain ⟨f, rfl, hf⟩ := okLin2 h1
 obtain ⟨_, rfl, k2⟩ := okOne h2
 obtain ⟨fu, rfl, hfu⟩ := okInt k2
 clear h0 h1 h2 k2
 show PCalls _ n_law08_EntailBounds [aCons l, aLin f.1 f.2, I fu] _
 refine PCalls.of is_law08_EntailBounds (by simp) fun _ => runW_sound ?_
 have pf := law08_few_abs l 3 fu
 have pc := ref05_Small_abs f.1 f.2
 have pa := law08_alive_abs
 have pv := ref08_Valid_abs l
 simp only [c_law08_EntailBounds]
 by_cases g1 : fewQ l 3 fu
 ·rw [decide_eq_true g1] at pf
  by_cases g2 : smF f.2
  ·rw [decide_eq_true g2] at pc
   have ht := smL_tot g1.1
   have hn := g1.1.1
   have hfl := g2.1
   have hsl := scaleE_len f (-1)
   have p1 := entail_LowerBound_abs (fuel := fu) hl hf (by omega) (by omega) hfu
   have p2 := law08_bound_abs (fuel := fu) hl hf (by omega) (by omega) hfu
   have p3 := entail_UpperBound_abs (fuel := fu) hl hf (by omega) (by omega) hfu
   have ps := ref05_Scale_abs (a := f) (b := -1) hf (by simp [in64]) (by unfold short; omega)
   have p4 := law08_bound_abs (l := l) (f := (scaleE f (-1)).1) (fuel := fu) hl scaleE_64 (by omega) (by omega) hfu
   have hr := lowS_range (l := l) (f := (scaleE f (-1)).1) (fuel := fu)
   clear g1 g2 ht hn hfl hl hf hsl
   unfold uppS at p3
   by_cases g4 : okL l
   ·rw [decide_eq_true g4] at pv
    rw [if_neg (not_not_intro g4)] at p3
    clear g4
    generalize lowS l (scaleE f (-1)).1 fu = Y at *
    generalize lowS l f fu = X at *
    generalize scaleE f (-1) = G at *
    obtain ⟨⟨GK, GL⟩, ge⟩ := G
    obtain ⟨r, ok, e⟩ := Y
    obtain ⟨r', ok', e'⟩ := X
    obtain ⟨K, m⟩ := f
    simp only at pc p1 p2 p3 ps p4 hr
    have wn : IntKind.wrap .i64 (0 - r) = -r := by rw [Int.zero_sub]; exact wrap_i64 (by omega)
    by_cases h0 : ge = 0
    ·subst h0
     rw [if_neg (show ¬ ((0 : Int) ≠ 0) by decide)] at p3
     cases ok' <;> cases ok
     all_goals
      repeat' first | simp (disch := omega) only [go_sem, ↓reduceIte, Nat.reduceEqDiff, reduceCtorEq, Int.reduceEq, wn] | ((with_reducible first | refine condD ?_ ?_ | refine condX ?_ ?_ | refine condW_intro ?_ ?_) <;> intro h <;> first | (exfalso; omega) | simp (disch := omega) only [go_sem, ↓reduceIte, Nat.reduceEqDiff, reduceCtorEq, Int.reduceEq, *, wn] | skip) | (refine callW_of pf rfl (.inl rfl) ?_) | (refine callW_of pc rfl (.inl rfl) ?_) | (refine callW_of pa rfl (.inl rfl) ?_) | (refine callW_of p1 rfl (.inl rfl) ?_) | (refine callW_of p2 rfl (.inl rfl) ?_) | (refine callW_of p3 rfl (.inl rfl) ?_) | (refine callW_of pv rfl (.inl rfl) ?_) | (refine callW_of ps rfl (.inr rfl) ?_) | (refine callW_of p4 rfl (.inl rfl) ?_)
      all_goals first | rfl | simp
    ·rw [if_pos h0] at p3
     cases ok'
     all_goals
      repeat' first | simp (disch := omega) only [go_sem, ↓reduceIte, Nat.reduceEqDiff, reduceCtorEq, Int.reduceEq, h0] | ((with_reducible first | refine condD ?_ ?_ | refine condX ?_ ?_ | refine condW_intro ?_ ?_) <;> intro h <;> first | (exfalso; omega) | simp (disch := omega) only [go_sem, ↓reduceIte, Nat.reduceEqDiff, reduceCtorEq, Int.reduceEq, *, h0] | skip) | (refine callW_of pf rfl (.inl rfl) ?_) | (refine callW_of pc rfl (.inl rfl) ?_) | (refine callW_of pa rfl (.inl rfl) ?_) | (refine callW_of p1 rfl (.inl rfl) ?_) | (refine callW_of p2 rfl (.inl rfl) ?_) | (refine callW_of p3 rfl (.inl rfl) ?_) | (refine callW_of pv rfl (.inl rfl) ?_) | (refine callW_of ps rfl (.inr rfl) ?_) | (refine callW_of p4 rfl (.inl rfl) ?_)
      all_goals first | rfl | simp
   ·rw [decide_eq_false g4] at pv
    rw [if_pos g4] at p3
    clear g4 hr p4 ps
    generalize lowS l f fu = X at *
    obtain ⟨r', ok', e'⟩ := X
    obtain ⟨K, m⟩ := f
    simp only at pc p1 p2 p3
    cases ok'
    all_goals
     repeat' first | simp (disch := omega) only [go_sem, ↓reduceIte, Nat.reduceEqDiff, reduceCtorEq, Int.reduceEq] | ((with_reducible first | refine condD ?_ ?_ | refine condX ?_ ?_ | refine condW_intro ?_ ?_) <;> intro h <;> first | (exfalso; omega) | simp (disch := omega) only [go_sem, ↓reduceIte, Nat.reduceEqDiff, reduceCtorEq, Int.reduceEq, *] | skip) | (refine callW_of pf rfl (.inl rfl) ?_) | (refine callW_of pc rfl (.inl rfl) ?_) | (refine callW_of pa rfl (.inl rfl) ?_) | (refine callW_of p1 rfl (.inl rfl) ?_) | (refine callW_of p2 rfl (.inl rfl) ?_) | (refine callW_of p3 rfl (.inl rfl) ?_) | (refine callW_of pv rfl (.inl rfl) ?_)
     all_goals first | rfl | simp
  ·rw [decide_eq_false g2] at pc
   clear g1 g2 hl hf pv
   obtain ⟨K, m⟩ := f
   repeat' first | simp (disch := omega) only [go_sem, ↓reduceIte, Nat.reduceEqDiff, reduceCtorEq, Int.reduceEq] | ((with_reducible first | refine condD ?_ ?_ | refine condX ?_ ?_ | refine condW_intro ?_ ?_) <;> intro h <;> first | (exfalso; omega) | simp (disch := omega) only [go_sem, ↓reduceIte, Nat.reduceEqDiff, reduceCtorEq, Int.reduceEq, *] | skip) | (refine callW_of pf rfl (.inl rfl) ?_) | (refine callW_of pc rfl (.inl rfl) ?_) | (refine callW_of pa rfl (.inl rfl) ?_)
   all_goals rfl
 ·rw [decide_eq_false g1] at pf
  clear g1 hl hf pc pv
  obtain ⟨K, m⟩ := f
  repeat' first | simp (disch := omega) only [go_sem, ↓reduceIte, Nat.reduceEqDiff, reduceCtorEq, Int.reduceEq] | ((with_reducible first | refine condD ?_ ?_ | refine condX ?_ ?_ | refine condW_intro ?_ ?_) <;> intro h <;> first | (exfalso; omega) | simp (disch := omega) only [go_sem, ↓reduceIte, Nat.reduceEqDiff, reduceCtorEq, Int.reduceEq, *] | skip) | (refine callW_of pf rfl (.inl rfl) ?_) | (refine callW_of pa rfl (.inl rfl) ?_)
  all_goals rfl
end Go.Proofs.YtnddmjhpplopbaaGreat
