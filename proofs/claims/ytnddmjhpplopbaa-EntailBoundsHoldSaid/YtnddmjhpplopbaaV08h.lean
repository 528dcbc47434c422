/- The law EntailBoundsHold as a contract of the abstract machine. -/
import Derived.Test.YtnddmjhpplopbaaV08f
import Derived.Test.YtnddmjhpplopbaaV08g
set_option linter.unusedVariables false
set_option linter.unusedSimpArgs false
set_option maxRecDepth 20000
namespace Go.Proofs.Ytnddmjhpplopbaa
open Go.Abs Go.RowKit

theorem addE_val {x : ByteArray → Int} {a b : Lin} (h : (addE a b).2 = 0) : (addE a b).1.1 + evI x (addE a b).1.2 = (a.1 + evI x a.2) + (b.1 + evI x b.2) := by
 have e : (addE a b).1 = addV a b := by
  unfold addE addS at h ⊢
  split at h
  ·cases h
  ·rename_i h1
   rw [if_neg h1]
   split at h
   ·rename_i h2; rw [if_pos h2]
   ·cases h
 rw [e]
 have h1 := val_add (x := castX x) a b
 rw [val_cast, val_cast, val_cast, ← Rat.intCast_add] at h1
 exact_mod_cast h1
theorem scaleE_val {x : ByteArray → Int} {a : Lin} (h : (scaleE a (-1)).2 = 0) : (scaleE a (-1)).1.1 + evI x (scaleE a (-1)).1.2 = -(a.1 + evI x a.2) := by
 have e : (scaleE a (-1)).1 = scaleV a (-1) := by
  unfold scaleE scaleS at h ⊢
  split at h
  ·cases h
  ·rename_i h1
   rw [if_neg h1]
   split at h
   ·rename_i h2; rw [if_pos h2]
   ·cases h
 rw [e]
 have h1 := val_scale (x := castX x) a (-1)
 rw [val_cast, val_cast, ← Rat.intCast_mul] at h1
 have h2 : (scaleV a (-1)).1 + evI x (scaleV a (-1)).2 = (a.1 + evI x a.2) * (-1) := by exact_mod_cast h1
 omega
theorem provS_holds {x : ByteArray → Int} {l : List Con} {f : Lin} {fuel b : Int} (h64 : ∀ c ∈ l, con64 c) (hp : (provS l f fuel b).1 = true) (hl : ∀ d ∈ l, holds (castX x) d) : b ≤ f.1 + evI x f.2 := by
 unfold provS at hp
 split at hp
 ·cases hp
 ·rename_i h0
  have hi := implS_holds (x := x) (c := ((addE f (-b, [])).1, false)) (b := (implS l ((addE f (-b, [])).1, false) fuel).1) h64 (addE_64 f (-b, [])) (Prod.ext rfl (Prod.ext hp (implS_bad hp))) hl
  rw [holds_cast] at hi
  have h1 := hi.1
  simp only at h1
  rw [addE_val (Classical.not_not.1 h0)] at h1
  simp only [evI] at h1
  omega
theorem bisS_prov {l : List Con} {f : Lin} {fuel : Int} : ∀ {N : Nat} {low high : Int}, (provS l f fuel low).1 = true → (bisS l f fuel N low high).2.1 = true → (provS l f fuel (bisS l f fuel N low high).1).1 = true
 | 0, low, high, h, _ => by rw [bisS]; exact h
 |N + 1, low, high, h, h2 => by
  rw [bisS] at h2 ⊢
  split
  ·exact h
  ·rename_i h3
   rw [if_neg h3] at h2
   split
   ·rename_i h4; rw [if_pos h4] at h2; cases h2
   ·rename_i h4
    rw [if_neg h4] at h2
    split
    ·rename_i h5
     rw [if_pos h5] at h2
     exact bisS_prov h5 h2
    ·rename_i h5
     rw [if_neg h5] at h2
     exact bisS_prov h h2
theorem lowS_holds {x : ByteArray → Int} {l : List Con} {f : Lin} {fuel : Int} (h64 : ∀ c ∈ l, con64 c) (hp : (lowS l f fuel).2.1 = true) (hl : ∀ d ∈ l, holds (castX x) d) : (lowS l f fuel).1 ≤ f.1 + evI x f.2 := by
 unfold lowS at hp ⊢
 split at hp
 ·cases hp
 ·rename_i h1
  rw [if_neg h1]
  split at hp
  ·cases hp
  ·rename_i h2
   rw [if_neg h2]
   generalize (2199023255553 : Nat) = N at *
   exact provS_holds h64 (bisS_prov (by
    cases h : (provS l f fuel (-1099511627776)).1 with
    | true => rfl
    | false => exact absurd (.inr h) h2) hp) hl
theorem bisS_range {l : List Con} {f : Lin} {fuel : Int} : ∀ {N : Nat} {low high : Int}, -1099511627776 ≤ low → low < high → high ≤ 1099511627777 → -1099511627776 ≤ (bisS l f fuel N low high).1 ∧ (bisS l f fuel N low high).1 ≤ 1099511627776
 | 0, low, high, h1, h2, h3 => by rw [bisS]; simp only; omega
 |N + 1, low, high, h1, h2, h3 => by
  rw [bisS]
  split
  ·simp only; omega
  ·rename_i h4
   split
   ·simp only; omega
   ·split
    ·exact bisS_range (by omega) (by omega) h3
    ·exact bisS_range h1 (by omega) (by omega)
theorem lowS_range {l : List Con} {f : Lin} {fuel : Int} : -1099511627776 ≤ (lowS l f fuel).1 ∧ (lowS l f fuel).1 ≤ 1099511627776 := by
 unfold lowS
 split
 ·simp only; omega
 ·split
  ·simp only; omega
  ·generalize (2199023255553 : Nat) = N
   exact bisS_range (Int.le_refl _) (by decide) (Int.le_refl _)
theorem uppS_holds {x : ByteArray → Int} {l : List Con} {f : Lin} {fuel : Int} (h64 : ∀ c ∈ l, con64 c) (hp : (uppS l f fuel).2.1 = true) (hl : ∀ d ∈ l, holds (castX x) d) : f.1 + evI x f.2 ≤ (uppS l f fuel).1 := by
 unfold uppS at hp ⊢
 split at hp
 ·cases hp
 ·rename_i h1
  rw [if_neg h1]
  split at hp
  ·cases hp
  ·rename_i h2
   rw [if_neg h2]
   have h3 := lowS_holds (x := x) h64 hp hl
   rw [scaleE_val (Classical.not_not.1 h2)] at h3
   simp only
   omega
set_option maxHeartbeats 2000000 in
theorem entail_UpperBound_abs {l : List Con} {f : Lin} {fuel : Int} (h64 : ∀ d ∈ l, con64 d) (hf : lin64 f) (hl : l.length ≤ 1000) (ht : tot l + f.2.length ≤ 1000000) (hfu : in64 fuel) :
  PCalls Try.prog n_entail_UpperBound [aCons l, aLin f.1 f.2, I fuel] (.tup [I (uppS l f fuel).1, Go.Abs.B (uppS l f fuel).2.1, I (uppS l f fuel).2.2]) := by
 refine PCalls.of is_entail_UpperBound (by simp) fun _ => runW_sound ?_
 simp only [c_entail_UpperBound]
 have p1 := entail_valid_abs l
 have p2 := lin_Scale_abs (a := f) (b := -1) hf (by simp [in64]) (by unfold short; omega)
 have p3 := entail_LowerBound_abs (l := l) (f := (scaleE f (-1)).1) (fuel := fuel) h64 scaleE_64 hl (by have := scaleE_len f (-1); omega) hfu
 have hr := lowS_range (l := l) (f := (scaleE f (-1)).1) (fuel := fuel)
 clear h64 hf ht hl hfu
 unfold uppS
 by_cases h1 : okL l
 ·rw [decide_eq_true h1] at p1
  rw [if_neg (not_not_intro h1)]
  clear h1
  generalize lowS l (scaleE f (-1)).1 fuel = R at *
  generalize scaleE f (-1) = G at *
  obtain ⟨⟨GK, GL⟩, ge⟩ := G
  obtain ⟨r, ok, e⟩ := R
  obtain ⟨K, m⟩ := f
  simp only at p2 p3 hr ⊢
  have wn : IntKind.wrap .i64 (0 - r) = -r := by rw [Int.zero_sub]; exact wrap_i64 (by omega)
  have wn2 : IntKind.wrap .i64 (-r) = -r := wrap_i64 (by omega)
  by_cases h0 : ge = 0
  ·subst h0
   rw [if_neg (by simp)]
   repeat' first | simp (disch := omega) only [go_sem, ↓reduceIte, Nat.reduceEqDiff, reduceCtorEq, Int.reduceEq, wn, wn2] | ((with_reducible first | refine condD ?_ ?_ | refine condX ?_ ?_ | refine condW_intro ?_ ?_) <;> intro h <;> first | (exfalso; omega) | simp (disch := omega) only [go_sem, ↓reduceIte, Nat.reduceEqDiff, reduceCtorEq, Int.reduceEq, *, wn, wn2] | skip) | (refine callW_of p1 rfl (.inl rfl) ?_) | (refine callW_of p2 rfl (.inr rfl) ?_) | (refine callW_of p3 rfl (.inl rfl) ?_)
   all_goals first | rfl | simp [wn, wn2]
  ·rw [if_pos h0]
   repeat' first | simp (disch := omega) only [go_sem, ↓reduceIte, Nat.reduceEqDiff, reduceCtorEq, Int.reduceEq, h0] | ((with_reducible first | refine condD ?_ ?_ | refine condX ?_ ?_ | refine condW_intro ?_ ?_) <;> intro h <;> first | (exfalso; omega) | simp (disch := omega) only [go_sem, ↓reduceIte, Nat.reduceEqDiff, reduceCtorEq, Int.reduceEq, *, h0] | skip) | (refine callW_of p1 rfl (.inl rfl) ?_) | (refine callW_of p2 rfl (.inr rfl) ?_)
   all_goals rfl
 ·rw [decide_eq_false h1] at p1
  rw [if_pos h1]
  clear h1 p2 p3
  obtain ⟨K, m⟩ := f
  repeat' first | simp (disch := omega) only [go_sem, ↓reduceIte, Nat.reduceEqDiff, reduceCtorEq, Int.reduceEq] | ((with_reducible first | refine condD ?_ ?_ | refine condX ?_ ?_ | refine condW_intro ?_ ?_) <;> intro h <;> first | (exfalso; omega) | simp (disch := omega) only [go_sem, ↓reduceIte, Nat.reduceEqDiff, reduceCtorEq, Int.reduceEq, *] | skip) | (refine callW_of p1 rfl (.inl rfl) ?_)
  all_goals rfl
theorem okLin2 {ps : List PC} (h : OkPs [.int .i64, .slice [.str, .int .i64]] ps) : ∃ f : Lin, ps = [pI f.1, pMonos f.2] ∧ lin64 f := by
 obtain ⟨p, r, rfl, hp, hr⟩ := okCons h
 obtain ⟨q, rfl, hq⟩ := okOne hr
 obtain ⟨k, rfl, hk⟩ := okInt hp
 obtain ⟨l, rfl, h1, h2⟩ := okMonos hq
 exact ⟨(k, l), rfl, hk, h1⟩
set_option maxHeartbeats 4000000 in
theorem EntailBoundsHold_abs (ps0 ps1 ps2 : List PC) (h0 : OkPs [.slice [.int .i64, .slice [.str, .int .i64], .bool], .slice [.str, .int .i64]] ps0) (h1 : OkPs [.int .i64, .slice [.str, .int .i64]] ps1) (h2 : OkPs [.int .i64] ps2) :
  PCalls Try.prog 7 [argV true ps0, argV true ps1, argV false ps2] (Go.Abs.B true) := by
 obtain ⟨l, env, rfl, hl, _, henv, _⟩ := okCase h0
 obtain ⟨f, rfl, hf⟩ := okLin2 h1
 obtain ⟨_, rfl, k2⟩ := okOne h2
 obtain ⟨fu, rfl, hfu⟩ := okInt k2
 clear h0 h1 h2 k2
 show PCalls _ n_law08_EntailBoundsHold [.agg [.pure (pSl cP l), .pure (pMonos env)], aLin f.1 f.2, I fu] _
 refine PCalls.of is_law08_EntailBoundsHold (by simp) fun _ => runW_sound ?_
 have pf := law08_few_abs l 3 fu
 have pc := ref05_Small_abs f.1 f.2
 have pa := law08_alive_abs
 have ps := ref08_Satisfies_abs hl henv
 simp only [c_law08_EntailBoundsHold]
 by_cases g1 : fewQ l 3 fu
 ·rw [decide_eq_true g1] at pf
  by_cases g2 : smF f.2
  ·rw [decide_eq_true g2] at pc
   by_cases g3 : (env.length : Int) > 20
   ·clear g1 g2 hl hf
    obtain ⟨K, m⟩ := f
    repeat' first | simp (disch := omega) only [go_sem, ↓reduceIte, Nat.reduceEqDiff, reduceCtorEq, Int.reduceEq, g3] | ((with_reducible first | refine condD ?_ ?_ | refine condX ?_ ?_ | refine condW_intro ?_ ?_) <;> intro h <;> first | (exfalso; omega) | simp (disch := omega) only [go_sem, ↓reduceIte, Nat.reduceEqDiff, reduceCtorEq, Int.reduceEq, *, g3] | skip) | (refine callW_of pf rfl (.inl rfl) ?_) | (refine callW_of pc rfl (.inl rfl) ?_) | (refine callW_of pa rfl (.inl rfl) ?_)
    all_goals rfl
   ·by_cases g4 : satP l env
    ·rw [decide_eq_true g4] at ps
     have ht := smL_tot g1.1
     have hn := g1.1.1
     have hfl := g2.1
     have pe := ref05_Eval_abs (env := env) hf.1 hf.2 henv
     have p1 := entail_LowerBound_abs (fuel := fu) hl hf (by omega) (by omega) hfu
     have p2 := entail_UpperBound_abs (fuel := fu) hl hf (by omega) (by omega) hfu
     have s1 := fun h => lowS_holds (x := valOf env) (f := f) (fuel := fu) hl h (satP_holds g4)
     have s2 := fun h => uppS_holds (x := valOf env) (f := f) (fuel := fu) hl h (satP_holds g4)
     have s3 := evl_ok (k := f.1) (l := f.2) (env := env)
     clear g1 g2 g4 ht hn hfl hl hf henv
     generalize lowS l f fu = X at *
     generalize uppS l f fu = Y at *
     generalize evl f.1 f.2 env = V at *
     generalize f.1 + evI (valOf env) f.2 = W at *
     obtain ⟨a, aok, ae⟩ := X
     obtain ⟨b, bok, be⟩ := Y
     obtain ⟨v, ve⟩ := V
     obtain ⟨K, m⟩ := f
     simp only at p1 p2 pe s1 s2 s3
     by_cases hv : ve = 0
     ·subst hv
      have s3 := s3 rfl
      subst s3
      cases aok
      ·clear s1
       cases bok
       ·clear s2
        repeat' first | simp (disch := omega) only [go_sem, ↓reduceIte, Nat.reduceEqDiff, reduceCtorEq, Int.reduceEq, g3] | ((with_reducible first | refine condD ?_ ?_ | refine condX ?_ ?_ | refine condW_intro ?_ ?_) <;> intro h <;> first | (exfalso; omega) | simp (disch := omega) only [go_sem, ↓reduceIte, Nat.reduceEqDiff, reduceCtorEq, Int.reduceEq, *, g3] | skip) | (refine callW_of pf rfl (.inl rfl) ?_) | (refine callW_of pc rfl (.inl rfl) ?_) | (refine callW_of pa rfl (.inl rfl) ?_) | (refine callW_of ps rfl (.inl rfl) ?_) | (refine callW_of pe rfl (.inl rfl) ?_) | (refine callW_of p1 rfl (.inl rfl) ?_) | (refine callW_of p2 rfl (.inl rfl) ?_)
        all_goals rfl
       ·have s2 := s2 rfl
        have s2' : b ≥ v := s2
        clear s2
        repeat' first | simp (disch := omega) only [go_sem, ↓reduceIte, Nat.reduceEqDiff, reduceCtorEq, Int.reduceEq, g3, s2'] | ((with_reducible first | refine condD ?_ ?_ | refine condX ?_ ?_ | refine condW_intro ?_ ?_) <;> intro h <;> first | (exfalso; omega) | simp (disch := omega) only [go_sem, ↓reduceIte, Nat.reduceEqDiff, reduceCtorEq, Int.reduceEq, *, g3, s2'] | skip) | (refine callW_of pf rfl (.inl rfl) ?_) | (refine callW_of pc rfl (.inl rfl) ?_) | (refine callW_of pa rfl (.inl rfl) ?_) | (refine callW_of ps rfl (.inl rfl) ?_) | (refine callW_of pe rfl (.inl rfl) ?_) | (refine callW_of p1 rfl (.inl rfl) ?_) | (refine callW_of p2 rfl (.inl rfl) ?_)
        all_goals first | rfl | simp [s2']
      ·have s1 := s1 rfl
       cases bok
       ·clear s2
        repeat' first | simp (disch := omega) only [go_sem, ↓reduceIte, Nat.reduceEqDiff, reduceCtorEq, Int.reduceEq, g3, s1] | ((with_reducible first | refine condD ?_ ?_ | refine condX ?_ ?_ | refine condW_intro ?_ ?_) <;> intro h <;> first | (exfalso; omega) | simp (disch := omega) only [go_sem, ↓reduceIte, Nat.reduceEqDiff, reduceCtorEq, Int.reduceEq, *, g3, s1] | skip) | (refine callW_of pf rfl (.inl rfl) ?_) | (refine callW_of pc rfl (.inl rfl) ?_) | (refine callW_of pa rfl (.inl rfl) ?_) | (refine callW_of ps rfl (.inl rfl) ?_) | (refine callW_of pe rfl (.inl rfl) ?_) | (refine callW_of p1 rfl (.inl rfl) ?_) | (refine callW_of p2 rfl (.inl rfl) ?_)
        all_goals first | rfl | simp [s1]
       ·have s2 := s2 rfl
        have s2' : b ≥ v := s2
        clear s2
        repeat' first | simp (disch := omega) only [go_sem, ↓reduceIte, Nat.reduceEqDiff, reduceCtorEq, Int.reduceEq, g3, s1, s2'] | ((with_reducible first | refine condD ?_ ?_ | refine condX ?_ ?_ | refine condW_intro ?_ ?_) <;> intro h <;> first | (exfalso; omega) | simp (disch := omega) only [go_sem, ↓reduceIte, Nat.reduceEqDiff, reduceCtorEq, Int.reduceEq, *, g3, s1, s2'] | skip) | (refine callW_of pf rfl (.inl rfl) ?_) | (refine callW_of pc rfl (.inl rfl) ?_) | (refine callW_of pa rfl (.inl rfl) ?_) | (refine callW_of ps rfl (.inl rfl) ?_) | (refine callW_of pe rfl (.inl rfl) ?_) | (refine callW_of p1 rfl (.inl rfl) ?_) | (refine callW_of p2 rfl (.inl rfl) ?_)
        all_goals first | rfl | simp [s1, s2']
     ·clear s1 s2 s3
      repeat' first | simp (disch := omega) only [go_sem, ↓reduceIte, Nat.reduceEqDiff, reduceCtorEq, Int.reduceEq, g3, hv] | ((with_reducible first | refine condD ?_ ?_ | refine condX ?_ ?_ | refine condW_intro ?_ ?_) <;> intro h <;> first | (exfalso; omega) | simp (disch := omega) only [go_sem, ↓reduceIte, Nat.reduceEqDiff, reduceCtorEq, Int.reduceEq, *, g3, hv] | skip) | (refine callW_of pf rfl (.inl rfl) ?_) | (refine callW_of pc rfl (.inl rfl) ?_) | (refine callW_of pa rfl (.inl rfl) ?_) | (refine callW_of ps rfl (.inl rfl) ?_) | (refine callW_of pe rfl (.inl rfl) ?_)
      all_goals rfl
    ·rw [decide_eq_false g4] at ps
     clear g1 g2 g4 hl hf
     obtain ⟨K, m⟩ := f
     repeat' first | simp (disch := omega) only [go_sem, ↓reduceIte, Nat.reduceEqDiff, reduceCtorEq, Int.reduceEq, g3] | ((with_reducible first | refine condD ?_ ?_ | refine condX ?_ ?_ | refine condW_intro ?_ ?_) <;> intro h <;> first | (exfalso; omega) | simp (disch := omega) only [go_sem, ↓reduceIte, Nat.reduceEqDiff, reduceCtorEq, Int.reduceEq, *, g3] | skip) | (refine callW_of pf rfl (.inl rfl) ?_) | (refine callW_of pc rfl (.inl rfl) ?_) | (refine callW_of pa rfl (.inl rfl) ?_) | (refine callW_of ps rfl (.inl rfl) ?_)
     all_goals rfl
  ·rw [decide_eq_false g2] at pc
   clear g1 g2 hl hf ps
   obtain ⟨K, m⟩ := f
   repeat' first | simp (disch := omega) only [go_sem, ↓reduceIte, Nat.reduceEqDiff, reduceCtorEq, Int.reduceEq] | ((with_reducible first | refine condD ?_ ?_ | refine condX ?_ ?_ | refine condW_intro ?_ ?_) <;> intro h <;> first | (exfalso; omega) | simp (disch := omega) only [go_sem, ↓reduceIte, Nat.reduceEqDiff, reduceCtorEq, Int.reduceEq, *] | skip) | (refine callW_of pf rfl (.inl rfl) ?_) | (refine callW_of pc rfl (.inl rfl) ?_) | (refine callW_of pa rfl (.inl rfl) ?_)
   all_goals rfl
 ·rw [decide_eq_false g1] at pf
  clear g1 hl hf pc ps
  obtain ⟨K, m⟩ := f
  repeat' first | simp (disch := omega) only [go_sem, ↓reduceIte, Nat.reduceEqDiff, reduceCtorEq, Int.reduceEq] | ((with_reducible first | refine condD ?_ ?_ | refine condX ?_ ?_ | refine condW_intro ?_ ?_) <;> intro h <;> first | (exfalso; omega) | simp (disch := omega) only [go_sem, ↓reduceIte, Nat.reduceEqDiff, reduceCtorEq, Int.reduceEq, *] | skip) | (refine callW_of pf rfl (.inl rfl) ?_) | (refine callW_of pa rfl (.inl rfl) ?_)
  all_goals rfl
end Go.Proofs.Ytnddmjhpplopbaa
