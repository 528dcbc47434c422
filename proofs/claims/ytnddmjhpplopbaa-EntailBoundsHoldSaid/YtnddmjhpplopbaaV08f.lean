/- Walks by the abstract machine: which assignments satisfy constraints; the law EntailSound. -/
import Derived.Test.YtnddmjhpplopbaaV08e
import Derived.Test.YtnddmjhpplopbaaV05d
set_option linter.unusedVariables false
set_option linter.unusedSimpArgs false
set_option maxRecDepth 20000
namespace Go.Proofs.Ytnddmjhpplopbaa
open Go.Abs Go.RowKit

/-- Whether a constraint holds in an environment, or the error. -/
noncomputable def holdsR (c : Con) (env : List Mono) : Bool × Int :=
 if (evl c.1.1 c.1.2 env).2 ≠ 0 then (false, (evl c.1.1 c.1.2 env).2) else (decide ((evl c.1.1 c.1.2 env).1 = 0) || (decide (0 < (evl c.1.1 c.1.2 env).1) && !c.2), 0)
def satP (l : List Con) (env : List Mono) : Prop := ∀ c ∈ l, holdsR c env = (true, 0)
noncomputable instance (l : List Con) (env : List Mono) : Decidable (satP l env) := Classical.propDecidable _
theorem lsum_evI {f : ByteArray → Int} : ∀ {l : List Mono}, lsum f l = evI f l
 | [] => rfl
 | m :: l => by rw [lsum, evI, lsum_evI]
theorem evl_ok {k : Int} {l env : List Mono} (h : (evl k l env).2 = 0) : (evl k l env).1 = k + evI (valOf env) l := by
 unfold evl at h ⊢
 split at h
 ·cases h
 ·rename_i h1
  rw [if_neg h1]
  split at h
  ·cases h
  ·rename_i h2
   rw [if_neg h2]
   split at h
   ·rename_i h3
    rw [if_pos h3, lsum_evI]
   ·cases h
theorem holdsR_iff {c : Con} {env : List Mono} (h : (holdsR c env).2 = 0) : (holdsR c env).1 = true ↔ holds (castX (valOf env)) c := by
 unfold holdsR at h ⊢
 split at h
 ·rename_i h0; exact absurd h h0
 ·rename_i h0
  rw [if_neg h0]
  have h1 := evl_ok (Classical.not_not.1 h0)
  rw [holds_cast, h1]
  generalize c.1.1 + evI (valOf env) c.1.2 = V
  simp only [Bool.or_eq_true, Bool.and_eq_true, decide_eq_true_eq, Bool.not_eq_true']
  cases c.2
  ·simp; omega
  ·simp; omega
theorem satP_holds {l : List Con} {env : List Mono} (h : satP l env) : ∀ c ∈ l, holds (castX (valOf env)) c := fun c hc => by
 have h1 := h c hc
 exact (holdsR_iff (by rw [h1])).1 (by rw [h1])
theorem ref06_Holds_abs {c : Con} {env : List Mono} (h64 : con64 c) (he : ∀ m ∈ env, in64 m.2) : PCalls Try.prog n_ref06_Holds [aCon c, aSl mP env] (.tup [Go.Abs.B (holdsR c env).1, I (holdsR c env).2]) := by
 refine PCalls.of is_ref06_Holds (by simp) fun _ => runW_sound ?_
 simp only [c_ref06_Holds]
 have pv := ref05_Eval_abs (env := env) h64.1 h64.2 he
 obtain ⟨⟨k, l⟩, q⟩ := c
 unfold holdsR
 simp only at pv ⊢
 generalize evl k l env = V at *
 obtain ⟨v, e⟩ := V
 simp only at pv ⊢
 by_cases h0 : e = 0
 ·subst h0
  rw [if_neg (by simp)]
  by_cases h1 : v = 0
  ·subst h1
   cases q
   all_goals
    repeat' first | simp (disch := omega) only [go_sem, ↓reduceIte, Nat.reduceEqDiff, reduceCtorEq, Int.reduceEq] | ((with_reducible first | refine condD ?_ ?_ | refine condX ?_ ?_ | refine condW_intro ?_ ?_) <;> intro h <;> first | (exfalso; omega) | simp (disch := omega) only [go_sem, ↓reduceIte, Nat.reduceEqDiff, reduceCtorEq, Int.reduceEq, *] | skip) | (refine callW_of pv rfl (.inl rfl) ?_)
    all_goals rfl
  ·by_cases h2 : 0 < v
   ·cases q
    all_goals
     repeat' first | simp (disch := omega) only [go_sem, ↓reduceIte, Nat.reduceEqDiff, reduceCtorEq, Int.reduceEq, h1, h2] | ((with_reducible first | refine condD ?_ ?_ | refine condX ?_ ?_ | refine condW_intro ?_ ?_) <;> intro h <;> first | (exfalso; omega) | simp (disch := omega) only [go_sem, ↓reduceIte, Nat.reduceEqDiff, reduceCtorEq, Int.reduceEq, *, h1, h2] | skip) | (refine callW_of pv rfl (.inl rfl) ?_)
     all_goals simp [h1, h2]
   ·cases q
    all_goals
     repeat' first | simp (disch := omega) only [go_sem, ↓reduceIte, Nat.reduceEqDiff, reduceCtorEq, Int.reduceEq, h1, h2] | ((with_reducible first | refine condD ?_ ?_ | refine condX ?_ ?_ | refine condW_intro ?_ ?_) <;> intro h <;> first | (exfalso; omega) | simp (disch := omega) only [go_sem, ↓reduceIte, Nat.reduceEqDiff, reduceCtorEq, Int.reduceEq, *, h1, h2] | skip) | (refine callW_of pv rfl (.inl rfl) ?_)
     all_goals simp [h1, h2]
 ·rw [if_pos h0]
  repeat' first | simp (disch := omega) only [go_sem, ↓reduceIte, Nat.reduceEqDiff, reduceCtorEq, Int.reduceEq, h0] | ((with_reducible first | refine condD ?_ ?_ | refine condX ?_ ?_ | refine condW_intro ?_ ?_) <;> intro h <;> first | (exfalso; omega) | simp (disch := omega) only [go_sem, ↓reduceIte, Nat.reduceEqDiff, reduceCtorEq, Int.reduceEq, *, h0] | skip) | (refine callW_of pv rfl (.inl rfl) ?_)
  all_goals rfl
theorem ref08_Satisfies_abs {l : List Con} {env : List Mono} (h64 : ∀ c ∈ l, con64 c) (he : ∀ m ∈ env, in64 m.2) : PCalls Try.prog n_ref08_Satisfies [aCons l, aSl mP env] (Go.Abs.B (decide (satP l env))) := by
 refine PCalls.of is_ref08_Satisfies (by simp) fun hb => runW_sound ?_
 have hbl : l.length ≤ 9223372036854775807 := by have := hb.1; simpa [bndV, bndA] using this
 clear hb
 simp only [c_ref08_Satisfies]
 obtain ⟨R, hR⟩ : ∃ R, R = decide (satP l env) := ⟨_, rfl⟩
 rw [← hR]
 have HR := Lib.hid hR
 clear hR
 repeat' first | simp (disch := omega) only [go_sem, ↓reduceIte, Nat.reduceEqDiff, reduceCtorEq, Int.reduceEq] | ((with_reducible first | refine condD ?_ ?_ | refine condX ?_ ?_ | refine condW_intro ?_ ?_) <;> intro h <;> first | (exfalso; omega) | simp (disch := omega) only [go_sem, ↓reduceIte, Nat.reduceEqDiff, reduceCtorEq, Int.reduceEq, *] | skip)
 refine AW_loop (fun k : Nat => ⟨[(0, aCons l), (1, aSl mP env), (5, I k)], [], 0, 0⟩) (fun k => k ≤ l.length ∧ Hid (∀ c ∈ l.take k, holdsR c env = (true, 0))) (fun k => l.length - k) ⟨0, [], ⟨Nat.zero_le _, Lib.hid (by simp)⟩, by simp [Wk, wkF, wkM, wkL, look_cons, renV, renA, renC, renB, rn, clV, clA, clAs, clB, notIn, findB, findB_setB, clA.go]⟩ ?_
 rintro k ⟨hk, HT⟩
 refine runW_sound ?_
 by_cases hlt : k < l.length
 ·have g1 := map_get (f := cP) hlt
  have pv := ref06_Holds_abs (env := env) (h64 _ (List.getElem_mem hlt)) he
  have hY : holdsR l[k] env = (true, 0) → Hid (∀ c ∈ l.take (k + 1), holdsR c env = (true, 0)) := fun h' => Lib.hid (by
   rw [List.take_succ_eq_append_getElem hlt]
   intro c hcm
   rcases List.mem_append.1 hcm with h | h
   ·exact HT.out c h
   ·rw [List.mem_singleton.1 h]; exact h')
  have hN : holdsR l[k] env ≠ (true, 0) → R = false := fun h' => by
   rw [HR.out]
   exact decide_eq_false fun h => h' (h _ (List.getElem_mem hlt))
  have HY := Lib.hid hY
  have HN := Lib.hid hN
  clear HT hY hN
  generalize holdsR l[k] env = H at *
  generalize l[k] = c at *
  obtain ⟨⟨ck, cl⟩, q⟩ := c
  obtain ⟨hb, he⟩ := H
  simp only [cP] at g1
  try simp only at pv
  by_cases h0 : he = 0
  ·subst h0
   cases hb
   ·have hR := HN.out (by simp)
    subst hR
    clear HY HN HR
    repeat' first | simp (disch := omega) only [go_sem, ↓reduceIte, Nat.reduceEqDiff, reduceCtorEq, Int.reduceEq, g1, wrap_i64] | ((with_reducible first | refine condD ?_ ?_ | refine condX ?_ ?_ | refine condW_intro ?_ ?_) <;> intro h <;> first | (exfalso; omega) | simp (disch := omega) only [go_sem, ↓reduceIte, Nat.reduceEqDiff, reduceCtorEq, Int.reduceEq, *, g1, wrap_i64] | skip) | (refine callW_of pv rfl (.inl rfl) ?_)
    all_goals rfl
   ·have HT' := HY.out rfl
    clear HY HN
    repeat' first | simp (disch := omega) only [go_sem, ↓reduceIte, Nat.reduceEqDiff, reduceCtorEq, Int.reduceEq, g1, wrap_i64] | ((with_reducible first | refine condD ?_ ?_ | refine condX ?_ ?_ | refine condW_intro ?_ ?_) <;> intro h <;> first | (exfalso; omega) | simp (disch := omega) only [go_sem, ↓reduceIte, Nat.reduceEqDiff, reduceCtorEq, Int.reduceEq, *, g1, wrap_i64] | skip) | (refine callW_of pv rfl (.inl rfl) ?_)
    exact ⟨k + 1, [], ⟨hlt, HT'⟩, by omega, by simp [Wk, wkF, wkM, wkL, look_cons, renV, renA, renC, renB, rn, clV, clA, clAs, clB, notIn, findB, findB_setB, clA.go]⟩
  ·have hR := HN.out (by simp [h0])
   subst hR
   clear HY HN HR
   repeat' first | simp (disch := omega) only [go_sem, ↓reduceIte, Nat.reduceEqDiff, reduceCtorEq, Int.reduceEq, g1, h0, wrap_i64] | ((with_reducible first | refine condD ?_ ?_ | refine condX ?_ ?_ | refine condW_intro ?_ ?_) <;> intro h <;> first | (exfalso; omega) | simp (disch := omega) only [go_sem, ↓reduceIte, Nat.reduceEqDiff, reduceCtorEq, Int.reduceEq, *, g1, h0, wrap_i64] | skip) | (refine callW_of pv rfl (.inl rfl) ?_)
   all_goals rfl
 ·have hR : R = true := by
   rw [HR.out]
   have h := HT.out
   rw [List.take_of_length_le (by omega)] at h
   exact decide_eq_true h
  subst hR
  clear HT HR
  repeat' first | simp (disch := omega) only [go_sem, ↓reduceIte, Nat.reduceEqDiff, reduceCtorEq, Int.reduceEq] | ((with_reducible first | refine condD ?_ ?_ | refine condX ?_ ?_ | refine condW_intro ?_ ?_) <;> intro h <;> first | (exfalso; omega) | simp (disch := omega) only [go_sem, ↓reduceIte, Nat.reduceEqDiff, reduceCtorEq, Int.reduceEq, *] | skip)
  all_goals rfl
/-- The multipliers of a derivation are numbers. -/
theorem implG_64 {l : List Con} {fuel : Int} (h64 : ∀ c ∈ l, con64 c) : ∀ {P : List Con} {acc : List Int}, (∀ p ∈ P, con64 p) → (∀ x ∈ acc, in64 x) → ∀ x ∈ (implG l fuel P acc).1, in64 x
 | [], acc, _, ha, x, hx => ha x hx
 |p :: P, acc, hP, ha, x, hx => by
  rw [implG] at hx
  split at hx
  ·cases hx
  ·split at hx
   ·cases hx
   ·refine implG_64 h64 (fun q hq => hP q (List.mem_cons_of_mem _ hq)) (fun y hy => ?_) x hx
    rcases List.mem_append.1 hy with hy | hy
    ·exact ha y hy
    ·exact infS_64 (app_64 h64 (hP p List.mem_cons_self)) y hy
theorem implS_64 {l : List Con} {c : Con} {fuel : Int} (h64 : ∀ c ∈ l, con64 c) (hc : con64 c) : ∀ x ∈ (implS l c fuel).1, in64 x := by
 unfold implS
 split
 ·intro x hx; cases hx
 ·exact implG_64 h64 (negaS_64 hc) (by simp)
theorem implS_bad {l : List Con} {c : Con} {fuel : Int} (h : (implS l c fuel).2.1 = true) : (implS l c fuel).2.2 = 0 := by
 have key : ∀ {P : List Con} {acc : List Int}, (implG l fuel P acc).2.1 = true → (implG l fuel P acc).2.2 = 0 := by
  intro P
  induction P with
  | nil => intro acc h; rfl
  | cons p P ih =>
   intro acc h
   rw [implG] at h ⊢
   split
   ·rename_i h1; rw [if_pos h1] at h; cases h
   ·rename_i h1
    rw [if_neg h1] at h
    split
    ·rfl
    ·rename_i h2
     rw [if_neg h2] at h
     exact ih h
 unfold implS at h ⊢
 split
 ·rename_i h1; rw [if_pos h1] at h; cases h
 ·rename_i h1
  rw [if_neg h1] at h
  exact key h
theorem okCase {ps : List PC} (h : OkPs [.slice [.int .i64, .slice [.str, .int .i64], .bool], .slice [.str, .int .i64]] ps) : ∃ l env, ps = [pSl cP l, pMonos env] ∧ (∀ c ∈ l, con64 c) ∧ l.length ≤ maxLen ∧ (∀ m ∈ env, in64 m.2) ∧ env.length ≤ maxLen := by
 obtain ⟨p, r, rfl, hp, hr⟩ := okCons h
 obtain ⟨q, rfl, hq⟩ := okOne hr
 obtain ⟨l, rfl, h1, h2⟩ := okRows cP con64 (fun r hr => okCon hr) hp
 obtain ⟨env, rfl, h3, h4⟩ := okMonos hq
 exact ⟨l, env, rfl, h1, h2, h3, h4⟩
set_option maxHeartbeats 4000000 in
theorem EntailSound_abs (ps0 ps1 ps2 : List PC) (h0 : OkPs [.slice [.int .i64, .slice [.str, .int .i64], .bool], .slice [.str, .int .i64]] ps0) (h1 : OkPs [.int .i64, .slice [.str, .int .i64], .bool] ps1) (h2 : OkPs [.int .i64] ps2) :
  PCalls Try.prog 5 [argV true ps0, argV true ps1, argV false ps2] (Go.Abs.B true) := by
 obtain ⟨l, env, rfl, hl, _, henv, _⟩ := okCase h0
 obtain ⟨c, rfl, hc⟩ := okCon h1
 obtain ⟨_, rfl, k2⟩ := okOne h2
 obtain ⟨fu, rfl, hf⟩ := okInt k2
 clear h0 h1 h2 k2
 show PCalls _ n_law08_EntailSound [.agg [.pure (pSl cP l), .pure (pMonos env)], aCon c, I fu] _
 refine PCalls.of is_law08_EntailSound (by simp) fun _ => runW_sound ?_
 have pf := law08_few_abs l 6 fu
 have pc := ref08_Small_abs [c] 1
 have pa := law08_alive_abs
 simp only [c_law08_EntailSound]
 by_cases g1 : fewQ l 6 fu
 ·rw [decide_eq_true g1] at pf
  by_cases g2 : smL [c] 1
  ·rw [decide_eq_true g2] at pc
   by_cases g3 : (env.length : Int) > 20
   ·clear g1 g2 hl hc
    obtain ⟨⟨K, m⟩, q⟩ := c
    repeat' first | simp (disch := omega) only [go_sem, ↓reduceIte, Nat.reduceEqDiff, reduceCtorEq, Int.reduceEq, g3] | ((with_reducible first | refine condD ?_ ?_ | refine condX ?_ ?_ | refine condW_intro ?_ ?_) <;> intro h <;> first | (exfalso; omega) | simp (disch := omega) only [go_sem, ↓reduceIte, Nat.reduceEqDiff, reduceCtorEq, Int.reduceEq, *, g3] | skip) | (refine callW_of pf rfl (.inl rfl) ?_) | (refine callW_of pc rfl (.inl rfl) ?_) | (refine callW_of pa rfl (.inl rfl) ?_)
    all_goals rfl
   ·have ht := smL_tot g1.1
    have hn := g1.1.1
    have hcl := (g2.2 c (by simp)).1
    have p1 := entail_Implies_abs (fuel := fu) hl hc (by omega) (by omega) hf
    have p2 := entail_CheckCertificate_abs (b := (implS l c fu).1) hl hc (by omega) (by omega) (implS_64 hl hc)
    have p3 := ref08_Satisfies_abs hl henv
    have p4 := ref06_Holds_abs (env := env) hc henv
    have hck : (implS l c fu).2.1 = true → chkS l c (implS l c fu).1 = 0 := fun h => implS_check (fuel := fu) hl hc (Prod.ext rfl (Prod.ext h (implS_bad h)))
    have hho : (implS l c fu).2.1 = true → satP l env → (holdsR c env).2 = 0 → (holdsR c env).1 = true := fun h h' h'' => (holdsR_iff h'').2 (implS_holds (fuel := fu) (b := (implS l c fu).1) hl hc (Prod.ext rfl (Prod.ext h (implS_bad h))) (satP_holds h'))
    have hbad := implS_bad (l := l) (c := c) (fuel := fu)
    clear g1 g2 ht hn hcl hl hc henv
    generalize implS l c fu = R at *
    generalize holdsR c env = H at *
    generalize chkS l c R.1 = CK at *
    obtain ⟨b, ok, e⟩ := R
    obtain ⟨hb, he⟩ := H
    obtain ⟨⟨K, m⟩, q⟩ := c
    simp only at p1 p2 p4 hck hho hbad
    cases ok
    ·clear hck hho hbad p2 p3 p4
     repeat' first | simp (disch := omega) only [go_sem, ↓reduceIte, Nat.reduceEqDiff, reduceCtorEq, Int.reduceEq, g3] | ((with_reducible first | refine condD ?_ ?_ | refine condX ?_ ?_ | refine condW_intro ?_ ?_) <;> intro h <;> first | (exfalso; omega) | simp (disch := omega) only [go_sem, ↓reduceIte, Nat.reduceEqDiff, reduceCtorEq, Int.reduceEq, *, g3] | skip) | (refine callW_of pf rfl (.inl rfl) ?_) | (refine callW_of pc rfl (.inl rfl) ?_) | (refine callW_of pa rfl (.inl rfl) ?_) | (refine callW_of p1 rfl (.inr rfl) ?_)
     all_goals rfl
    ·have e1 := hck rfl
     subst e1
     have e2 := hbad rfl
     subst e2
     clear hck hbad
     by_cases hs : satP l env
     ·rw [decide_eq_true hs] at p3
      by_cases h0 : he = 0
      ·subst h0
       have e3 := hho rfl hs rfl
       subst e3
       clear hho hs
       repeat' first | simp (disch := omega) only [go_sem, ↓reduceIte, Nat.reduceEqDiff, reduceCtorEq, Int.reduceEq, g3] | ((with_reducible first | refine condD ?_ ?_ | refine condX ?_ ?_ | refine condW_intro ?_ ?_) <;> intro h <;> first | (exfalso; omega) | simp (disch := omega) only [go_sem, ↓reduceIte, Nat.reduceEqDiff, reduceCtorEq, Int.reduceEq, *, g3] | skip) | (refine callW_of pf rfl (.inl rfl) ?_) | (refine callW_of pc rfl (.inl rfl) ?_) | (refine callW_of pa rfl (.inl rfl) ?_) | (refine callW_of p1 rfl (.inr rfl) ?_) | (refine callW_of p2 rfl (.inl rfl) ?_) | (refine callW_of p3 rfl (.inl rfl) ?_) | (refine callW_of p4 rfl (.inl rfl) ?_)
       all_goals rfl
      ·clear hho hs
       repeat' first | simp (disch := omega) only [go_sem, ↓reduceIte, Nat.reduceEqDiff, reduceCtorEq, Int.reduceEq, g3, h0] | ((with_reducible first | refine condD ?_ ?_ | refine condX ?_ ?_ | refine condW_intro ?_ ?_) <;> intro h <;> first | (exfalso; omega) | simp (disch := omega) only [go_sem, ↓reduceIte, Nat.reduceEqDiff, reduceCtorEq, Int.reduceEq, *, g3, h0] | skip) | (refine callW_of pf rfl (.inl rfl) ?_) | (refine callW_of pc rfl (.inl rfl) ?_) | (refine callW_of pa rfl (.inl rfl) ?_) | (refine callW_of p1 rfl (.inr rfl) ?_) | (refine callW_of p2 rfl (.inl rfl) ?_) | (refine callW_of p3 rfl (.inl rfl) ?_) | (refine callW_of p4 rfl (.inl rfl) ?_)
       all_goals rfl
     ·rw [decide_eq_false hs] at p3
      clear hho hs
      repeat' first | simp (disch := omega) only [go_sem, ↓reduceIte, Nat.reduceEqDiff, reduceCtorEq, Int.reduceEq, g3] | ((with_reducible first | refine condD ?_ ?_ | refine condX ?_ ?_ | refine condW_intro ?_ ?_) <;> intro h <;> first | (exfalso; omega) | simp (disch := omega) only [go_sem, ↓reduceIte, Nat.reduceEqDiff, reduceCtorEq, Int.reduceEq, *, g3] | skip) | (refine callW_of pf rfl (.inl rfl) ?_) | (refine callW_of pc rfl (.inl rfl) ?_) | (refine callW_of pa rfl (.inl rfl) ?_) | (refine callW_of p1 rfl (.inr rfl) ?_) | (refine callW_of p2 rfl (.inl rfl) ?_) | (refine callW_of p3 rfl (.inl rfl) ?_)
      all_goals rfl
  ·rw [decide_eq_false g2] at pc
   clear g1 g2 hl hc
   obtain ⟨⟨K, m⟩, q⟩ := c
   repeat' first | simp (disch := omega) only [go_sem, ↓reduceIte, Nat.reduceEqDiff, reduceCtorEq, Int.reduceEq] | ((with_reducible first | refine condD ?_ ?_ | refine condX ?_ ?_ | refine condW_intro ?_ ?_) <;> intro h <;> first | (exfalso; omega) | simp (disch := omega) only [go_sem, ↓reduceIte, Nat.reduceEqDiff, reduceCtorEq, Int.reduceEq, *] | skip) | (refine callW_of pf rfl (.inl rfl) ?_) | (refine callW_of pc rfl (.inl rfl) ?_) | (refine callW_of pa rfl (.inl rfl) ?_)
   all_goals rfl
 ·rw [decide_eq_false g1] at pf
  clear g1 hl hc pc
  obtain ⟨⟨K, m⟩, q⟩ := c
  repeat' first | simp (disch := omega) only [go_sem, ↓reduceIte, Nat.reduceEqDiff, reduceCtorEq, Int.reduceEq] | ((with_reducible first | refine condD ?_ ?_ | refine condX ?_ ?_ | refine condW_intro ?_ ?_) <;> intro h <;> first | (exfalso; omega) | simp (disch := omega) only [go_sem, ↓reduceIte, Nat.reduceEqDiff, reduceCtorEq, Int.reduceEq, *] | skip) | (refine callW_of pf rfl (.inl rfl) ?_) | (refine callW_of pa rfl (.inl rfl) ?_)
  all_goals rfl
end Go.Proofs.Ytnddmjhpplopbaa
