/- Walks by the abstract machine: the upper bound. -/
import Derived.Test.YtnddmjhpplopbaaGreatV08g
import Derived.Test.YtnddmjhpplopbaaGreatIn7
set_option linter.unusedVariables false
set_option linter.unusedSimpArgs false
set_option maxRecDepth 20000
namespace Go.Proofs.YtnddmjhpplopbaaGreat
open Go.Abs Go.RowKit

theorem bisS_range {l : List Con} {f : Lin} {fuel : Int} : ∀ {N : Nat} {low high : Int}, -1099511627776 ≤ low → low < high → high ≤ 1099511627777 → -1099511627776 ≤ (bisS l f fuel N low high).1 ∧ (bisS l f fuel N low high).1 ≤ 1099511627776
 | 0, low, high, h1, h2, h3 => by rw [bisS]; simp only; omega
 |N + 1, low, high, h1, h2, h3 => by
  rw [bisS]
  split
  ·simp only; omega
  ·rename_i h4
   split
   ·simp only; omega
   ·split
    ·exact bisS_range (by omega) (by omega) h3
    ·exact bisS_range h1 (by omega) (by omega)
theorem lowS_range {l : List Con} {f : Lin} {fuel : Int} : -1099511627776 ≤ (lowS l f fuel).1 ∧ (lowS l f fuel).1 ≤ 1099511627776 := by
 unfold lowS
 split
 ·simp only; omega
 ·split
  ·simp only; omega
  ·generalize (2199023255553 : Nat) = N
   exact bisS_range (Int.le_refl _) (by decide) (Int.le_refl _)
set_option maxHeartbeats 2000000 in
theorem entail_UpperBound_abs {l : List Con} {f : Lin} {fuel : Int} (h64 : ∀ d ∈ l, con64 d) (hf : lin64 f) (hl : l.length ≤ 1000) (ht : tot l + f.2.length ≤ 1000000) (hfu : in64 fuel) :
  PCalls Tryz.prog n_entail_UpperBound [aCons l, aLin f.1 f.2, I fuel] (.tup [I (uppS l f fuel).1, Go.Abs.B (uppS l f fuel).2.1, I (uppS l f fuel).2.2]) := by
 refine PCalls.of is_entail_UpperBound (by simp) fun _ => runW_sound ?_
 simp only [c_entail_UpperBound]
 have p1 := entail_valid_abs l
 have p2 := lin_Scale_abs (a := f) (b := -1) hf (by simp [in64]) (by unfold short; omega)
 have p3 := entail_LowerBound_abs (l := l) (f := (scaleE f (-1)).1) (fuel := fuel) h64 scaleE_64 hl (by have := scaleE_len f (-1); omega) hfu
 have hr := lowS_range (l := l) (f := (scaleE f (-1)).1) (fuel := fuel)
 clear h64 hf ht hl hfu
 unfold uppS
 by_cases h1 : okL l
 ·rw [decide_eq_true h1] at p1
  rw [if_neg (not_not_intro h1)]
  clear h1
  generalize lowS l (scaleE f (-1)).1 fuel = R at *
  generalize scaleE f (-1) = G at *
  obtain ⟨⟨GK, GL⟩, ge⟩ := G
  obtain ⟨r, ok, e⟩ := R
  obtain ⟨K, m⟩ := f
  simp only at p2 p3 hr ⊢
  have wn : IntKind.wrap .i64 (0 - r) = -r := by rw [Int.zero_sub]; exact wrap_i64 (by omega)
  have wn2 : IntKind.wrap .i64 (-r) = -r := wrap_i64 (by omega)
  by_cases h0 : ge = 0
  ·subst h0
   rw [if_neg (by simp)]
   repeat' first | simp (disch := omega) only [go_sem, ↓reduceIte, Nat.reduceEqDiff, reduceCtorEq, Int.reduceEq, wn, wn2] | ((with_reducible first | refine condD ?_ ?_ | refine condX ?_ ?_ | refine condW_intro ?_ ?_) <;> intro h <;> first | (exfalso; omega) | simp (disch := omega) only [go_sem, ↓reduceIte, Nat.reduceEqDiff, reduceCtorEq, Int.reduceEq, *, wn, wn2] | skip) | (refine callW_of p1 rfl (.inl rfl) ?_) | (refine callW_of p2 rfl (.inr rfl) ?_) | (refine callW_of p3 rfl (.inl rfl) ?_)
   all_goals first | rfl | simp [wn, wn2]
  ·rw [if_pos h0]
   repeat' first | simp (disch := omega) only [go_sem, ↓reduceIte, Nat.reduceEqDiff, reduceCtorEq, Int.reduceEq, h0] | ((with_reducible first | refine condD ?_ ?_ | refine condX ?_ ?_ | refine condW_intro ?_ ?_) <;> intro h <;> first | (exfalso; omega) | simp (disch := omega) only [go_sem, ↓reduceIte, Nat.reduceEqDiff, reduceCtorEq, Int.reduceEq, *, h0] | skip) | (refine callW_of p1 rfl (.inl rfl) ?_) | (refine callW_of p2 rfl (.inr rfl) ?_)
   all_goals rfl
 ·rw [decide_eq_false h1] at p1
  rw [if_pos h1]
  clear h1 p2 p3
  obtain ⟨K, m⟩ := f
  repeat' first | simp (disch := omega) only [go_sem, ↓reduceIte, Nat.reduceEqDiff, reduceCtorEq, Int.reduceEq] | ((with_reducible first | refine condD ?_ ?_ | refine condX ?_ ?_ | refine condW_intro ?_ ?_) <;> intro h <;> first | (exfalso; omega) | simp (disch := omega) only [go_sem, ↓reduceIte, Nat.reduceEqDiff, reduceCtorEq, Int.reduceEq, *] | skip) | (refine callW_of p1 rfl (.inl rfl) ?_)
  all_goals rfl
theorem okLin2 {ps : List PC} (h : OkPs [.int .i64, .slice [.str, .int .i64]] ps) : ∃ f : Lin, ps = [pI f.1, pMonos f.2] ∧ lin64 f := by
 obtain ⟨p, r, rfl, hp, hr⟩ := okCons h
 obtain ⟨q, rfl, hq⟩ := okOne hr
 obtain ⟨k, rfl, hk⟩ := okInt hp
 obtain ⟨l, rfl, h1, h2⟩ := okMonos hq
 exact ⟨(k, l), rfl, hk, h1⟩
end Go.Proofs.YtnddmjhpplopbaaGreat
