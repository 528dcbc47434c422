/- The law EntailRanges as a contract of the abstract machine. -/
import Derived.Test.YtnddmjhpplopbaaGreatV08e
import Derived.Test.YtnddmjhpplopbaaGreatV08r
import Derived.Test.YtnddmjhpplopbaaGreatV08u
set_option linter.unusedVariables false
set_option linter.unusedSimpArgs false
set_option maxRecDepth 20000
namespace Go.Proofs.YtnddmjhpplopbaaGreat
open Go.Abs Go.RowKit

theorem belowS_64 {f s : Lin} : lin64 (belowS f s).1 := by
 unfold belowS
 (repeat' split)
 ·exact ⟨in64_zero, fun m hm => by cases hm⟩
 ·exact ⟨in64_zero, fun m hm => by cases hm⟩
 ·exact addE_64 _ _
theorem belowS_len {f s : Lin} : (belowS f s).1.2.length ≤ f.2.length + s.2.length := by
 unfold belowS
 (repeat' split)
 ·exact Nat.zero_le _
 ·exact Nat.zero_le _
 ·have h1 := addE_len (addE s (scaleE f (-1)).1).1 (-1, [])
  have h2 := addE_len s (scaleE f (-1)).1
  have h3 := scaleE_len f (-1)
  simp only [List.length_nil] at h1
  omega
set_option maxHeartbeats 4000000 in
theorem entail_InRange_abs {l : List Con} {f s : Lin} {fuel : Int} (h64 : ∀ d ∈ l, con64 d) (hf : lin64 f) (hs : lin64 s) (hl : l.length ≤ 1000) (ht : tot l + f.2.length + s.2.length ≤ 1000000) (hfu : in64 fuel) :
  PCalls Tryz.prog n_entail_InRange [aCons l, aLin f.1 f.2, aLin s.1 s.2, I fuel] (.tup [Go.Abs.B (rangeS l f s fuel).1, I (rangeS l f s fuel).2]) := by
 refine PCalls.of is_entail_InRange (by simp) fun _ => runW_sound ?_
 simp only [c_entail_InRange]
 have p1 := entail_valid_abs l
 have p2 := lin_Validate_abs f.1 f.2
 have p3 := lin_Validate_abs s.1 s.2
 have p4 := entail_Implies_abs (l := l) (c := (f, false)) (fuel := fuel) h64 hf hl (by simp only; omega) hfu
 have p5 := entail_below_abs hf hs (by omega) (by omega)
 have p6 := entail_Implies_abs (l := l) (c := ((belowS f s).1, false)) (fuel := fuel) h64 belowS_64 hl (by have := belowS_len (f := f) (s := s); simp only; omega) hfu
 clear h64 hl ht hfu
 unfold rangeS
 by_cases h1 : okL l
 ·rw [decide_eq_true h1] at p1
  by_cases h2 : linOk f.2
  ·rw [if_pos h2] at p2
   by_cases h3 : linOk s.2
   ·rw [if_pos h3] at p3
    rw [if_neg (by rintro (h | h | h); exact h h1; exact h h2; exact h h3)]
    clear h1 h2 h3 hf hs
    generalize implS l ((belowS f s).1, false) fuel = Y at *
    generalize implS l (f, false) fuel = X at *
    generalize belowS f s = G at *
    obtain ⟨⟨GK, GL⟩, ge⟩ := G
    obtain ⟨b1, ok1, e1⟩ := X
    obtain ⟨b2, ok2, e2⟩ := Y
    obtain ⟨K, m⟩ := f
    obtain ⟨K', m'⟩ := s
    simp only at p2 p3 p4 p5 p6 ⊢
    by_cases he : e1 = 0
    ·subst he
     cases ok1
     ·rw [if_pos (.inr rfl)]
      repeat' first | simp (disch := omega) only [go_sem, ↓reduceIte, Nat.reduceEqDiff, reduceCtorEq, Int.reduceEq] | ((with_reducible first | refine condD ?_ ?_ | refine condX ?_ ?_ | refine condW_intro ?_ ?_) <;> intro h <;> first | (exfalso; omega) | simp (disch := omega) only [go_sem, ↓reduceIte, Nat.reduceEqDiff, reduceCtorEq, Int.reduceEq, *] | skip) | (refine callW_of p1 rfl (.inl rfl) ?_) | (refine callW_of p2 rfl (.inl rfl) ?_) | (refine callW_of p3 rfl (.inl rfl) ?_) | (refine callW_of p4 rfl (.inr rfl) ?_)
      all_goals rfl
     ·rw [if_neg (by simp)]
      by_cases hg : ge = 0
      ·subst hg
       rw [if_neg (by simp)]
       repeat' first | simp (disch := omega) only [go_sem, ↓reduceIte, Nat.reduceEqDiff, reduceCtorEq, Int.reduceEq] | ((with_reducible first | refine condD ?_ ?_ | refine condX ?_ ?_ | refine condW_intro ?_ ?_) <;> intro h <;> first | (exfalso; omega) | simp (disch := omega) only [go_sem, ↓reduceIte, Nat.reduceEqDiff, reduceCtorEq, Int.reduceEq, *] | skip) | (refine callW_of p1 rfl (.inl rfl) ?_) | (refine callW_of p2 rfl (.inl rfl) ?_) | (refine callW_of p3 rfl (.inl rfl) ?_) | (refine callW_of p4 rfl (.inr rfl) ?_) | (refine callW_of p5 rfl (.inr rfl) ?_) | (refine callW_of p6 rfl (.inr rfl) ?_)
       all_goals rfl
      ·rw [if_pos hg]
       repeat' first | simp (disch := omega) only [go_sem, ↓reduceIte, Nat.reduceEqDiff, reduceCtorEq, Int.reduceEq, hg] | ((with_reducible first | refine condD ?_ ?_ | refine condX ?_ ?_ | refine condW_intro ?_ ?_) <;> intro h <;> first | (exfalso; omega) | simp (disch := omega) only [go_sem, ↓reduceIte, Nat.reduceEqDiff, reduceCtorEq, Int.reduceEq, *, hg] | skip) | (refine callW_of p1 rfl (.inl rfl) ?_) | (refine callW_of p2 rfl (.inl rfl) ?_) | (refine callW_of p3 rfl (.inl rfl) ?_) | (refine callW_of p4 rfl (.inr rfl) ?_) | (refine callW_of p5 rfl (.inr rfl) ?_)
       all_goals rfl
    ·rw [if_pos (.inl he)]
     repeat' first | simp (disch := omega) only [go_sem, ↓reduceIte, Nat.reduceEqDiff, reduceCtorEq, Int.reduceEq, he] | ((with_reducible first | refine condD ?_ ?_ | refine condX ?_ ?_ | refine condW_intro ?_ ?_) <;> intro h <;> first | (exfalso; omega) | simp (disch := omega) only [go_sem, ↓reduceIte, Nat.reduceEqDiff, reduceCtorEq, Int.reduceEq, *, he] | skip) | (refine callW_of p1 rfl (.inl rfl) ?_) | (refine callW_of p2 rfl (.inl rfl) ?_) | (refine callW_of p3 rfl (.inl rfl) ?_) | (refine callW_of p4 rfl (.inr rfl) ?_)
     all_goals rfl
   ·rw [if_neg h3] at p3
    rw [if_pos (.inr (.inr h3))]
    clear h1 h2 h3 hf hs p4 p5 p6
    obtain ⟨K, m⟩ := f
    obtain ⟨K', m'⟩ := s
    simp only at p2 p3
    repeat' first | simp (disch := omega) only [go_sem, ↓reduceIte, Nat.reduceEqDiff, reduceCtorEq, Int.reduceEq] | ((with_reducible first | refine condD ?_ ?_ | refine condX ?_ ?_ | refine condW_intro ?_ ?_) <;> intro h <;> first | (exfalso; omega) | simp (disch := omega) only [go_sem, ↓reduceIte, Nat.reduceEqDiff, reduceCtorEq, Int.reduceEq, *] | skip) | (refine callW_of p1 rfl (.inl rfl) ?_) | (refine callW_of p2 rfl (.inl rfl) ?_) | (refine callW_of p3 rfl (.inl rfl) ?_)
    all_goals rfl
  ·rw [if_neg h2] at p2
   rw [if_pos (.inr (.inl h2))]
   clear h1 h2 hf hs p4 p5 p6 p3
   obtain ⟨K, m⟩ := f
   obtain ⟨K', m'⟩ := s
   simp only at p2
   repeat' first | simp (disch := omega) only [go_sem, ↓reduceIte, Nat.reduceEqDiff, reduceCtorEq, Int.reduceEq] | ((with_reducible first | refine condD ?_ ?_ | refine condX ?_ ?_ | refine condW_intro ?_ ?_) <;> intro h <;> first | (exfalso; omega) | simp (disch := omega) only [go_sem, ↓reduceIte, Nat.reduceEqDiff, reduceCtorEq, Int.reduceEq, *] | skip) | (refine callW_of p1 rfl (.inl rfl) ?_) | (refine callW_of p2 rfl (.inl rfl) ?_)
   all_goals rfl
 ·rw [decide_eq_false h1] at p1
  rw [if_pos (.inl h1)]
  clear h1 hf hs p2 p4 p5 p6 p3
  obtain ⟨K, m⟩ := f
  obtain ⟨K', m'⟩ := s
  repeat' first | simp (disch := omega) only [go_sem, ↓reduceIte, Nat.reduceEqDiff, reduceCtorEq, Int.reduceEq] | ((with_reducible first | refine condD ?_ ?_ | refine condX ?_ ?_ | refine condW_intro ?_ ?_) <;> intro h <;> first | (exfalso; omega) | simp (disch := omega) only [go_sem, ↓reduceIte, Nat.reduceEqDiff, reduceCtorEq, Int.reduceEq, *] | skip) | (refine callW_of p1 rfl (.inl rfl) ?_)
  all_goals rfl
theorem okLin4 {ps : List PC} (h : OkPs [.int .i64, .slice [.str, .int .i64], .int .i64, .slice [.str, .int .i64]] ps) : ∃ f s : Lin, ps = [pI f.1, pMonos f.2, pI s.1, pMonos s.2] ∧ lin64 f ∧ lin64 s := by
 obtain ⟨p, r, rfl, hp, hr⟩ := okCons h
 obtain ⟨q, r2, rfl, hq, hr2⟩ := okCons hr
 obtain ⟨p', r3, rfl, hp', hr3⟩ := okCons hr2
 obtain ⟨q', rfl, hq'⟩ := okOne hr3
 obtain ⟨k, rfl, hk⟩ := okInt hp
 obtain ⟨l, rfl, h1, h2⟩ := okMonos hq
 obtain ⟨k', rfl, hk'⟩ := okInt hp'
 obtain ⟨l', rfl, h1', h2'⟩ := okMonos hq'
 exact ⟨(k, l), (k', l'), rfl, ⟨hk, h1⟩, ⟨hk', h1'⟩⟩
set_option maxHeartbeats 8000000 in
theorem EntailRanges_abs (ps0 ps1 ps2 : List PC) (h0 : OkPs [.slice [.int .i64, .slice [.str, .int .i64], .bool]] ps0) (h1 : OkPs [.int .i64, .slice [.str, .int .i64], .int .i64, .slice [.str, .int .i64]] ps1) (h2 : OkPs [.int .i64] ps2) :
  PCalls Tryz.prog 4 [argV false ps0, argV true ps1, argV false ps2] (Go.Abs.B true) := by
 obtain ⟨l, rfl, hl, _⟩ := okConsL h0
 obtain ⟨f, s, rfl, hf, hs⟩ := okLin4 h1
 obtain ⟨_, rfl, k2⟩ := okOne h2
 obtain ⟨fu, rfl, hfu⟩ := okInt k2
 clear h0 h1 h2 k2
 show PCalls _ n_law08_EntailRanges [aCons l, .agg [.pure (pI f.1), .pure (pMonos f.2), .pure (pI s.1), .pure (pMonos s.2)], I fu] _
 refine PCalls.of is_law08_EntailRanges (by simp) fun _ => runW_sound ?_
 have pf := law08_few_abs l 5 fu
 have pc := ref05_Small_abs f.1 f.2
 have pd := ref05_Small_abs s.1 s.2
 have pa := law08_alive_abs
 have pv := ref08_Valid_abs l
 have pw := ref05_Validate_abs f.1 f.2
 have px := ref05_Validate_abs s.1 s.2
 simp only [c_law08_EntailRanges]
 by_cases g1 : fewQ l 5 fu
 ·rw [decide_eq_true g1] at pf
  by_cases g2 : smF f.2
  ·rw [decide_eq_true g2] at pc
   by_cases g3 : smF s.2
   ·rw [decide_eq_true g3] at pd
    have ht := smL_tot g1.1
    have hn := g1.1.1
    have hfl := g2.1
    have hsl := g3.1
    have p1 := entail_InRange_abs (fuel := fu) hl hf hs (by omega) (by omega) hfu
    have p2 := law08_prove_abs (l := l) (c := (f, false)) (fuel := fu) hl hf (by omega) (by simp only; omega) hfu
    have p3 := ref08_Below_abs hf hs (by omega) (by omega)
    have p4 := law08_prove_abs (l := l) (c := ((belowS f s).1, false)) (fuel := fu) hl belowS_64 (by omega) (by have := belowS_len (f := f) (s := s); simp only; omega) hfu
    clear g1 g2 g3 ht hn hfl hsl hl hf hs
    unfold rangeS at p1
    by_cases h1 : okL l
    ·rw [decide_eq_true h1] at pv
     by_cases h2 : linOk f.2
     ·rw [if_pos h2] at pw
      by_cases h3 : linOk s.2
      ·rw [if_pos h3] at px
       rw [if_neg (by rintro (h | h | h); exact h h1; exact h h2; exact h h3)] at p1
       clear h1 h2 h3
       generalize implS l ((belowS f s).1, false) fu = Y at *
       generalize implS l (f, false) fu = X at *
       generalize belowS f s = G at *
       obtain ⟨⟨GK, GL⟩, ge⟩ := G
       obtain ⟨b1, ok1, e1⟩ := X
       obtain ⟨b2, ok2, e2⟩ := Y
       obtain ⟨K, m⟩ := f
       obtain ⟨K', m'⟩ := s
       simp only at pc pd pw px p1 p2 p3 p4
       by_cases he : e1 = 0
       ·subst he
        cases ok1
        ·rw [if_pos (.inr rfl)] at p1
         repeat' first | simp (disch := omega) only [go_sem, ↓reduceIte, Nat.reduceEqDiff, reduceCtorEq, Int.reduceEq, Int.reduceToNat, Int.toNat_zero, Int.toNat_one, Nat.reduceMul, Nat.zero_mul, Nat.one_mul, List.drop_zero, List.drop_succ_cons, List.length_cons, List.length_nil, Nat.reduceAdd, Nat.reduceLeDiff, List.take_succ_cons, List.take_zero] | ((with_reducible first | refine condD ?_ ?_ | refine condX ?_ ?_ | refine condW_intro ?_ ?_) <;> intro h <;> first | (exfalso; omega) | simp (disch := omega) only [go_sem, ↓reduceIte, Nat.reduceEqDiff, reduceCtorEq, Int.reduceEq, *, Int.reduceToNat, Int.toNat_zero, Int.toNat_one, Nat.reduceMul, Nat.zero_mul, Nat.one_mul, List.drop_zero, List.drop_succ_cons, List.length_cons, List.length_nil, Nat.reduceAdd, Nat.reduceLeDiff, List.take_succ_cons, List.take_zero] | skip) | (refine callW_of pf rfl (.inl rfl) ?_) | (refine callW_of pc rfl (.inl rfl) ?_) | (refine callW_of pd rfl (.inl rfl) ?_) | (refine callW_of pa rfl (.inl rfl) ?_) | (refine callW_of p1 rfl (.inl rfl) ?_) | (refine callW_of pv rfl (.inl rfl) ?_) | (refine callW_of pw rfl (.inl rfl) ?_) | (refine callW_of px rfl (.inl rfl) ?_) | (refine callW_of p2 rfl (.inr rfl) ?_)
         all_goals first | rfl | simp
        ·rw [if_neg (by simp)] at p1
         by_cases hg : ge = 0
         ·subst hg
          rw [if_neg (by simp)] at p1
          cases ok2
          all_goals
           repeat' first | simp (disch := omega) only [go_sem, ↓reduceIte, Nat.reduceEqDiff, reduceCtorEq, Int.reduceEq, Int.reduceToNat, Int.toNat_zero, Int.toNat_one, Nat.reduceMul, Nat.zero_mul, Nat.one_mul, List.drop_zero, List.drop_succ_cons, List.length_cons, List.length_nil, Nat.reduceAdd, Nat.reduceLeDiff, List.take_succ_cons, List.take_zero] | ((with_reducible first | refine condD ?_ ?_ | refine condX ?_ ?_ | refine condW_intro ?_ ?_) <;> intro h <;> first | (exfalso; omega) | simp (disch := omega) only [go_sem, ↓reduceIte, Nat.reduceEqDiff, reduceCtorEq, Int.reduceEq, *, Int.reduceToNat, Int.toNat_zero, Int.toNat_one, Nat.reduceMul, Nat.zero_mul, Nat.one_mul, List.drop_zero, List.drop_succ_cons, List.length_cons, List.length_nil, Nat.reduceAdd, Nat.reduceLeDiff, List.take_succ_cons, List.take_zero] | skip) | (refine callW_of pf rfl (.inl rfl) ?_) | (refine callW_of pc rfl (.inl rfl) ?_) | (refine callW_of pd rfl (.inl rfl) ?_) | (refine callW_of pa rfl (.inl rfl) ?_) | (refine callW_of p1 rfl (.inl rfl) ?_) | (refine callW_of pv rfl (.inl rfl) ?_) | (refine callW_of pw rfl (.inl rfl) ?_) | (refine callW_of px rfl (.inl rfl) ?_) | (refine callW_of p2 rfl (.inr rfl) ?_) | (refine callW_of p3 rfl (.inr rfl) ?_) | (refine callW_of p4 rfl (.inr rfl) ?_)
           all_goals first | rfl | simp
         ·rw [if_pos hg] at p1
          repeat' first | simp (disch := omega) only [go_sem, ↓reduceIte, Nat.reduceEqDiff, reduceCtorEq, Int.reduceEq, hg, Int.reduceToNat, Int.toNat_zero, Int.toNat_one, Nat.reduceMul, Nat.zero_mul, Nat.one_mul, List.drop_zero, List.drop_succ_cons, List.length_cons, List.length_nil, Nat.reduceAdd, Nat.reduceLeDiff, List.take_succ_cons, List.take_zero] | ((with_reducible first | refine condD ?_ ?_ | refine condX ?_ ?_ | refine condW_intro ?_ ?_) <;> intro h <;> first | (exfalso; omega) | simp (disch := omega) only [go_sem, ↓reduceIte, Nat.reduceEqDiff, reduceCtorEq, Int.reduceEq, *, hg, Int.reduceToNat, Int.toNat_zero, Int.toNat_one, Nat.reduceMul, Nat.zero_mul, Nat.one_mul, List.drop_zero, List.drop_succ_cons, List.length_cons, List.length_nil, Nat.reduceAdd, Nat.reduceLeDiff, List.take_succ_cons, List.take_zero] | skip) | (refine callW_of pf rfl (.inl rfl) ?_) | (refine callW_of pc rfl (.inl rfl) ?_) | (refine callW_of pd rfl (.inl rfl) ?_) | (refine callW_of pa rfl (.inl rfl) ?_) | (refine callW_of p1 rfl (.inl rfl) ?_) | (refine callW_of pv rfl (.inl rfl) ?_) | (refine callW_of pw rfl (.inl rfl) ?_) | (refine callW_of px rfl (.inl rfl) ?_) | (refine callW_of p2 rfl (.inr rfl) ?_) | (refine callW_of p3 rfl (.inr rfl) ?_) | (refine callW_of p4 rfl (.inr rfl) ?_)
          all_goals first | rfl | simp
       ·rw [if_pos (.inl he)] at p1
        repeat' first | simp (disch := omega) only [go_sem, ↓reduceIte, Nat.reduceEqDiff, reduceCtorEq, Int.reduceEq, he, Int.reduceToNat, Int.toNat_zero, Int.toNat_one, Nat.reduceMul, Nat.zero_mul, Nat.one_mul, List.drop_zero, List.drop_succ_cons, List.length_cons, List.length_nil, Nat.reduceAdd, Nat.reduceLeDiff, List.take_succ_cons, List.take_zero] | ((with_reducible first | refine condD ?_ ?_ | refine condX ?_ ?_ | refine condW_intro ?_ ?_) <;> intro h <;> first | (exfalso; omega) | simp (disch := omega) only [go_sem, ↓reduceIte, Nat.reduceEqDiff, reduceCtorEq, Int.reduceEq, *, he, Int.reduceToNat, Int.toNat_zero, Int.toNat_one, Nat.reduceMul, Nat.zero_mul, Nat.one_mul, List.drop_zero, List.drop_succ_cons, List.length_cons, List.length_nil, Nat.reduceAdd, Nat.reduceLeDiff, List.take_succ_cons, List.take_zero] | skip) | (refine callW_of pf rfl (.inl rfl) ?_) | (refine callW_of pc rfl (.inl rfl) ?_) | (refine callW_of pd rfl (.inl rfl) ?_) | (refine callW_of pa rfl (.inl rfl) ?_) | (refine callW_of p1 rfl (.inl rfl) ?_) | (refine callW_of pv rfl (.inl rfl) ?_) | (refine callW_of pw rfl (.inl rfl) ?_) | (refine callW_of px rfl (.inl rfl) ?_) | (refine callW_of p2 rfl (.inr rfl) ?_)
        all_goals first | rfl | simp
      ·rw [if_neg h3] at px
       rw [if_pos (.inr (.inr h3))] at p1
       clear h1 h2 h3 p2 p3 p4
       obtain ⟨K, m⟩ := f
       obtain ⟨K', m'⟩ := s
       simp only at pc pd pw px p1
       repeat' first | simp (disch := omega) only [go_sem, ↓reduceIte, Nat.reduceEqDiff, reduceCtorEq, Int.reduceEq, Int.reduceToNat, Int.toNat_zero, Int.toNat_one, Nat.reduceMul, Nat.zero_mul, Nat.one_mul, List.drop_zero, List.drop_succ_cons, List.length_cons, List.length_nil, Nat.reduceAdd, Nat.reduceLeDiff, List.take_succ_cons, List.take_zero] | ((with_reducible first | refine condD ?_ ?_ | refine condX ?_ ?_ | refine condW_intro ?_ ?_) <;> intro h <;> first | (exfalso; omega) | simp (disch := omega) only [go_sem, ↓reduceIte, Nat.reduceEqDiff, reduceCtorEq, Int.reduceEq, *, Int.reduceToNat, Int.toNat_zero, Int.toNat_one, Nat.reduceMul, Nat.zero_mul, Nat.one_mul, List.drop_zero, List.drop_succ_cons, List.length_cons, List.length_nil, Nat.reduceAdd, Nat.reduceLeDiff, List.take_succ_cons, List.take_zero] | skip) | (refine callW_of pf rfl (.inl rfl) ?_) | (refine callW_of pc rfl (.inl rfl) ?_) | (refine callW_of pd rfl (.inl rfl) ?_) | (refine callW_of pa rfl (.inl rfl) ?_) | (refine callW_of p1 rfl (.inl rfl) ?_) | (refine callW_of pv rfl (.inl rfl) ?_) | (refine callW_of pw rfl (.inl rfl) ?_) | (refine callW_of px rfl (.inl rfl) ?_)
       all_goals first | rfl | simp
     ·rw [if_neg h2] at pw
      rw [if_pos (.inr (.inl h2))] at p1
      clear h1 h2 p2 p3 p4 px
      obtain ⟨K, m⟩ := f
      obtain ⟨K', m'⟩ := s
      simp only at pc pd pw p1
      repeat' first | simp (disch := omega) only [go_sem, ↓reduceIte, Nat.reduceEqDiff, reduceCtorEq, Int.reduceEq, Int.reduceToNat, Int.toNat_zero, Int.toNat_one, Nat.reduceMul, Nat.zero_mul, Nat.one_mul, List.drop_zero, List.drop_succ_cons, List.length_cons, List.length_nil, Nat.reduceAdd, Nat.reduceLeDiff, List.take_succ_cons, List.take_zero] | ((with_reducible first | refine condD ?_ ?_ | refine condX ?_ ?_ | refine condW_intro ?_ ?_) <;> intro h <;> first | (exfalso; omega) | simp (disch := omega) only [go_sem, ↓reduceIte, Nat.reduceEqDiff, reduceCtorEq, Int.reduceEq, *, Int.reduceToNat, Int.toNat_zero, Int.toNat_one, Nat.reduceMul, Nat.zero_mul, Nat.one_mul, List.drop_zero, List.drop_succ_cons, List.length_cons, List.length_nil, Nat.reduceAdd, Nat.reduceLeDiff, List.take_succ_cons, List.take_zero] | skip) | (refine callW_of pf rfl (.inl rfl) ?_) | (refine callW_of pc rfl (.inl rfl) ?_) | (refine callW_of pd rfl (.inl rfl) ?_) | (refine callW_of pa rfl (.inl rfl) ?_) | (refine callW_of p1 rfl (.inl rfl) ?_) | (refine callW_of pv rfl (.inl rfl) ?_) | (refine callW_of pw rfl (.inl rfl) ?_)
      all_goals first | rfl | simp
    ·rw [decide_eq_false h1] at pv
     rw [if_pos (.inl h1)] at p1
     clear h1 p2 p3 p4 px pw
     obtain ⟨K, m⟩ := f
     obtain ⟨K', m'⟩ := s
     simp only at pc pd p1
     repeat' first | simp (disch := omega) only [go_sem, ↓reduceIte, Nat.reduceEqDiff, reduceCtorEq, Int.reduceEq, Int.reduceToNat, Int.toNat_zero, Int.toNat_one, Nat.reduceMul, Nat.zero_mul, Nat.one_mul, List.drop_zero, List.drop_succ_cons, List.length_cons, List.length_nil, Nat.reduceAdd, Nat.reduceLeDiff, List.take_succ_cons, List.take_zero] | ((with_reducible first | refine condD ?_ ?_ | refine condX ?_ ?_ | refine condW_intro ?_ ?_) <;> intro h <;> first | (exfalso; omega) | simp (disch := omega) only [go_sem, ↓reduceIte, Nat.reduceEqDiff, reduceCtorEq, Int.reduceEq, *, Int.reduceToNat, Int.toNat_zero, Int.toNat_one, Nat.reduceMul, Nat.zero_mul, Nat.one_mul, List.drop_zero, List.drop_succ_cons, List.length_cons, List.length_nil, Nat.reduceAdd, Nat.reduceLeDiff, List.take_succ_cons, List.take_zero] | skip) | (refine callW_of pf rfl (.inl rfl) ?_) | (refine callW_of pc rfl (.inl rfl) ?_) | (refine callW_of pd rfl (.inl rfl) ?_) | (refine callW_of pa rfl (.inl rfl) ?_) | (refine callW_of p1 rfl (.inl rfl) ?_) | (refine callW_of pv rfl (.inl rfl) ?_)
     all_goals first | rfl | simp
   ·rw [decide_eq_false g3] at pd
    clear g1 g2 g3 hl hf hs pv pw px
    obtain ⟨K, m⟩ := f
    obtain ⟨K', m'⟩ := s
    simp only at pc pd
    repeat' first | simp (disch := omega) only [go_sem, ↓reduceIte, Nat.reduceEqDiff, reduceCtorEq, Int.reduceEq, Int.reduceToNat, Int.toNat_zero, Int.toNat_one, Nat.reduceMul, Nat.zero_mul, Nat.one_mul, List.drop_zero, List.drop_succ_cons, List.length_cons, List.length_nil, Nat.reduceAdd, Nat.reduceLeDiff, List.take_succ_cons, List.take_zero] | ((with_reducible first | refine condD ?_ ?_ | refine condX ?_ ?_ | refine condW_intro ?_ ?_) <;> intro h <;> first | (exfalso; omega) | simp (disch := omega) only [go_sem, ↓reduceIte, Nat.reduceEqDiff, reduceCtorEq, Int.reduceEq, *, Int.reduceToNat, Int.toNat_zero, Int.toNat_one, Nat.reduceMul, Nat.zero_mul, Nat.one_mul, List.drop_zero, List.drop_succ_cons, List.length_cons, List.length_nil, Nat.reduceAdd, Nat.reduceLeDiff, List.take_succ_cons, List.take_zero] | skip) | (refine callW_of pf rfl (.inl rfl) ?_) | (refine callW_of pc rfl (.inl rfl) ?_) | (refine callW_of pd rfl (.inl rfl) ?_) | (refine callW_of pa rfl (.inl rfl) ?_)
    all_goals rfl
  ·rw [decide_eq_false g2] at pc
   clear g1 g2 hl hf hs pv pw px pd
   obtain ⟨K, m⟩ := f
   obtain ⟨K', m'⟩ := s
   simp only at pc
   repeat' first | simp (disch := omega) only [go_sem, ↓reduceIte, Nat.reduceEqDiff, reduceCtorEq, Int.reduceEq, Int.reduceToNat, Int.toNat_zero, Int.toNat_one, Nat.reduceMul, Nat.zero_mul, Nat.one_mul, List.drop_zero, List.drop_succ_cons, List.length_cons, List.length_nil, Nat.reduceAdd, Nat.reduceLeDiff, List.take_succ_cons, List.take_zero] | ((with_reducible first | refine condD ?_ ?_ | refine condX ?_ ?_ | refine condW_intro ?_ ?_) <;> intro h <;> first | (exfalso; omega) | simp (disch := omega) only [go_sem, ↓reduceIte, Nat.reduceEqDiff, reduceCtorEq, Int.reduceEq, *, Int.reduceToNat, Int.toNat_zero, Int.toNat_one, Nat.reduceMul, Nat.zero_mul, Nat.one_mul, List.drop_zero, List.drop_succ_cons, List.length_cons, List.length_nil, Nat.reduceAdd, Nat.reduceLeDiff, List.take_succ_cons, List.take_zero] | skip) | (refine callW_of pf rfl (.inl rfl) ?_) | (refine callW_of pc rfl (.inl rfl) ?_) | (refine callW_of pa rfl (.inl rfl) ?_)
   all_goals rfl
 ·rw [decide_eq_false g1] at pf
  clear g1 hl hf hs pv pw px pc pd
  obtain ⟨K, m⟩ := f
  obtain ⟨K', m'⟩ := s
  repeat' first | simp (disch := omega) only [go_sem, ↓reduceIte, Nat.reduceEqDiff, reduceCtorEq, Int.reduceEq, Int.reduceToNat, Int.toNat_zero, Int.toNat_one, Nat.reduceMul, Nat.zero_mul, Nat.one_mul, List.drop_zero, List.drop_succ_cons, List.length_cons, List.length_nil, Nat.reduceAdd, Nat.reduceLeDiff, List.take_succ_cons, List.take_zero] | ((with_reducible first | refine condD ?_ ?_ | refine condX ?_ ?_ | refine condW_intro ?_ ?_) <;> intro h <;> first | (exfalso; omega) | simp (disch := omega) only [go_sem, ↓reduceIte, Nat.reduceEqDiff, reduceCtorEq, Int.reduceEq, *, Int.reduceToNat, Int.toNat_zero, Int.toNat_one, Nat.reduceMul, Nat.zero_mul, Nat.one_mul, List.drop_zero, List.drop_succ_cons, List.length_cons, List.length_nil, Nat.reduceAdd, Nat.reduceLeDiff, List.take_succ_cons, List.take_zero] | skip) | (refine callW_of pf rfl (.inl rfl) ?_) | (refine callW_of pa rfl (.inl rfl) ?_)
  all_goals rfl
end Go.Proofs.YtnddmjhpplopbaaGreat
