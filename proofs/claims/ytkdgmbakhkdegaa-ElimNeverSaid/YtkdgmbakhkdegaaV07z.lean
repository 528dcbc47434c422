/- The laws ElimCombine, ElimCertificates and ElimInfeasible as contracts of the abstract machine. -/
import Derived.Test.YtkdgmbakhkdegaaV07y
import Derived.Test.YtkdgmbakhkdegaaIn0
set_option linter.unusedVariables false
set_option linter.unusedSimpArgs false
set_option maxRecDepth 20000
namespace Go.Proofs.Ytkdgmbakhkdegaa
open Go.Abs Go.RowKit

theorem okMonos {p : PC} (h : OkP (.slice [.str, .int .i64]) p) : ∃ l : List Mono, p = pMonos l ∧ (∀ m ∈ l, in64 m.2) ∧ l.length ≤ maxLen :=
  okRows mP (fun m => in64 m.2) (fun r hr => by
    obtain ⟨p, r, rfl, hp, hr⟩ := okCons hr
    obtain ⟨q, rfl, hq⟩ := okOne hr
    obtain ⟨s, rfl, _⟩ := okStr hp
    obtain ⟨n, rfl, hn⟩ := okInt hq
    exact ⟨(s, n), rfl, hn⟩) h
theorem okCon {ps : List PC} (h : OkPs [.int .i64, .slice [.str, .int .i64], .bool] ps) : ∃ c : Con, ps = cP c ∧ con64 c := by
  obtain ⟨p, r, rfl, hp, hr⟩ := okCons h
  obtain ⟨p2, r2, rfl, hp2, hr2⟩ := okCons hr
  obtain ⟨p3, rfl, hp3⟩ := okOne hr2
  obtain ⟨k, rfl, hk⟩ := okInt hp
  obtain ⟨l, rfl, h1, h2⟩ := okMonos hp2
  obtain ⟨b, rfl⟩ := okBool hp3
  exact ⟨((k, l), b), rfl, hk, h1⟩
theorem okConsL {ps : List PC} (h : OkPs [.slice [.int .i64, .slice [.str, .int .i64], .bool]] ps) : ∃ l : List Con, ps = [pSl cP l] ∧ (∀ c ∈ l, con64 c) ∧ l.length ≤ maxLen := by
  obtain ⟨p, rfl, hp⟩ := okOne h
  obtain ⟨l, rfl, h1, h2⟩ := okRows cP con64 (fun r hr => okCon hr) hp
  exact ⟨l, rfl, h1, h2⟩
theorem ElimCombine_abs (ps0 ps1 ps2 : List PC) (h0 : OkPs [.int .i64, .slice [.str, .int .i64], .bool] ps0) (h1 : OkPs [.int .i64, .slice [.str, .int .i64], .bool] ps1) (h2 : OkPs [.str] ps2) :
    PCalls Try.prog 3 [argV true ps0, argV true ps1, argV false ps2] (Go.Abs.B true) := by
  obtain ⟨p, rfl, hp⟩ := okCon h0
  obtain ⟨q, rfl, hq⟩ := okCon h1
  obtain ⟨_, rfl, k2⟩ := okOne h2
  obtain ⟨n, rfl, _⟩ := okStr k2
  clear h0 h1 h2 k2
  show PCalls _ n_law07_ElimCombine [aCon p, aCon q, S n] _
  refine PCalls.of is_law07_ElimCombine (by simp) fun _ => runW_sound ?_
  have pf := law07_few_abs [p, q] 2
  simp only [c_law07_ElimCombine]
  by_cases hf : fewP [p, q] 2
  · have e1 := hf.2 p (by simp)
    have e2 := hf.2 q (by simp)
    have q1 := elim_Combine_abs (n := n) hp hq (by omega)
    have q2 := ref07_Combine_abs (n := n) hp hq (by omega)
    have q3 := base_Con_abs (cancelS p q n).1 (cancelS p q n).1
    rw [decide_eq_true rfl] at q3
    rw [decide_eq_true hf] at pf
    clear hf hp hq e1 e2
    generalize cancelS p q n = R at *
    obtain ⟨⟨pk, pl⟩, pq⟩ := p
    obtain ⟨⟨qk, ql⟩, qq⟩ := q
    obtain ⟨⟨⟨rk, rl⟩, rq⟩, re⟩ := R
    by_cases hn : (n.size : Int) > 100
    · repeat' first | simp (disch := omega) only [go_sem, ↓reduceIte, Nat.reduceEqDiff, reduceCtorEq, Int.reduceEq, hn] | ((with_reducible first | refine condD ?_ ?_ | refine condX ?_ ?_ | refine condW_intro ?_ ?_) <;> intro h <;> first | (exfalso; omega) | simp (disch := omega) only [go_sem, ↓reduceIte, Nat.reduceEqDiff, reduceCtorEq, Int.reduceEq, *, hn] | skip) | (with_reducible refine bothW_intro ?_ ?_) | (with_reducible refine nilW_intro (fun h => ?_) ?_) | (refine callW_of pf rfl (.inl rfl) ?_) | (refine callW_of law07_examples_abs rfl (.inl rfl) ?_)
    · repeat' first | simp (disch := omega) only [go_sem, ↓reduceIte, Nat.reduceEqDiff, reduceCtorEq, Int.reduceEq, hn] | ((with_reducible first | refine condD ?_ ?_ | refine condX ?_ ?_ | refine condW_intro ?_ ?_) <;> intro h <;> first | (exfalso; omega) | simp (disch := omega) only [go_sem, ↓reduceIte, Nat.reduceEqDiff, reduceCtorEq, Int.reduceEq, *, hn] | skip) | (with_reducible refine bothW_intro ?_ ?_) | (with_reducible refine nilW_intro (fun h => ?_) ?_) | (refine callW_of pf rfl (.inl rfl) ?_) | (refine callW_of q1 rfl (.inr rfl) ?_) | (refine callW_of q2 rfl (.inr rfl) ?_) | (refine callW_of q3 rfl (.inl rfl) ?_) | (refine callW_of law07_examples_abs rfl (.inl rfl) ?_)
  · rw [decide_eq_false hf] at pf
    clear hf hp hq
    obtain ⟨⟨pk, pl⟩, pq⟩ := p
    obtain ⟨⟨qk, ql⟩, qq⟩ := q
    repeat' first | simp (disch := omega) only [go_sem, ↓reduceIte, Nat.reduceEqDiff, reduceCtorEq, Int.reduceEq] | ((with_reducible first | refine condD ?_ ?_ | refine condX ?_ ?_ | refine condW_intro ?_ ?_) <;> intro h <;> first | (exfalso; omega) | simp (disch := omega) only [go_sem, ↓reduceIte, Nat.reduceEqDiff, reduceCtorEq, Int.reduceEq, *] | skip) | (with_reducible refine bothW_intro ?_ ?_) | (with_reducible refine nilW_intro (fun h => ?_) ?_) | (refine callW_of pf rfl (.inl rfl) ?_) | (refine callW_of law07_examples_abs rfl (.inl rfl) ?_)
theorem ElimCertificates_abs (ps0 ps1 : List PC) (h0 : OkPs [.slice [.int .i64, .slice [.str, .int .i64], .bool]] ps0) (h1 : OkPs [.slice [.int .i64]] ps1) :
    PCalls Try.prog 4 [argV false ps0, argV false ps1] (Go.Abs.B true) := by
  obtain ⟨l, rfl, hl, _⟩ := okConsL h0
  obtain ⟨_, rfl, k1⟩ := okOne h1
  obtain ⟨b, rfl, hb, _⟩ := okInts k1
  clear h0 h1 k1
  show PCalls _ n_law07_ElimCertificates [aCons l, aInts b] _
  refine PCalls.of is_law07_ElimCertificates (by simp) fun _ => runW_sound ?_
  have pf := law07_few_abs l 40
  simp only [c_law07_ElimCertificates]
  by_cases hf : fewP l 40
  · have ht := few_tot hf.2
    have hl40 := hf.1
    have q1 := elim_CheckCertificate_abs (b := b) hl (by omega) hb
    have q2 := ref07_CheckCertificate_abs (b := b) hl (by omega) hb
    rw [decide_eq_true hf] at pf
    clear hf hl hb ht hl40
    generalize checkS l b = e at *
    by_cases hn : (b.length : Int) > 50
    · repeat' first | simp (disch := omega) only [go_sem, ↓reduceIte, Nat.reduceEqDiff, reduceCtorEq, Int.reduceEq, hn] | ((with_reducible first | refine condD ?_ ?_ | refine condX ?_ ?_ | refine condW_intro ?_ ?_) <;> intro h <;> first | (exfalso; omega) | simp (disch := omega) only [go_sem, ↓reduceIte, Nat.reduceEqDiff, reduceCtorEq, Int.reduceEq, *, hn] | skip) | (with_reducible refine bothW_intro ?_ ?_) | (with_reducible refine nilW_intro (fun h => ?_) ?_) | (refine callW_of pf rfl (.inl rfl) ?_) | (refine callW_of law07_examples_abs rfl (.inl rfl) ?_)
    · repeat' first | simp (disch := omega) only [go_sem, ↓reduceIte, Nat.reduceEqDiff, reduceCtorEq, Int.reduceEq, hn] | ((with_reducible first | refine condD ?_ ?_ | refine condX ?_ ?_ | refine condW_intro ?_ ?_) <;> intro h <;> first | (exfalso; omega) | simp (disch := omega) only [go_sem, ↓reduceIte, Nat.reduceEqDiff, reduceCtorEq, Int.reduceEq, *, hn] | skip) | (with_reducible refine bothW_intro ?_ ?_) | (with_reducible refine nilW_intro (fun h => ?_) ?_) | (refine callW_of pf rfl (.inl rfl) ?_) | (refine callW_of q1 rfl (.inl rfl) ?_) | (refine callW_of q2 rfl (.inl rfl) ?_) | (refine callW_of law07_examples_abs rfl (.inl rfl) ?_)
  · rw [decide_eq_false hf] at pf
    clear hf hl hb
    repeat' first | simp (disch := omega) only [go_sem, ↓reduceIte, Nat.reduceEqDiff, reduceCtorEq, Int.reduceEq] | ((with_reducible first | refine condD ?_ ?_ | refine condX ?_ ?_ | refine condW_intro ?_ ?_) <;> intro h <;> first | (exfalso; omega) | simp (disch := omega) only [go_sem, ↓reduceIte, Nat.reduceEqDiff, reduceCtorEq, Int.reduceEq, *] | skip) | (with_reducible refine bothW_intro ?_ ?_) | (with_reducible refine nilW_intro (fun h => ?_) ?_) | (refine callW_of pf rfl (.inl rfl) ?_) | (refine callW_of law07_examples_abs rfl (.inl rfl) ?_)
set_option maxHeartbeats 1000000 in
theorem ElimInfeasible_abs (ps0 ps1 : List PC) (h0 : OkPs [.slice [.int .i64, .slice [.str, .int .i64], .bool]] ps0) (h1 : OkPs [.int .i64] ps1) :
    PCalls Try.prog 5 [argV false ps0, argV false ps1] (Go.Abs.B true) := by
  obtain ⟨l, rfl, hl, _⟩ := okConsL h0
  obtain ⟨_, rfl, k1⟩ := okOne h1
  obtain ⟨fu, rfl, hfu⟩ := okInt k1
  clear h0 h1 k1
  show PCalls _ n_law07_ElimInfeasible [aCons l, I fu] _
  refine PCalls.of is_law07_ElimInfeasible (by simp) fun _ => runW_sound ?_
  have pf := law07_few_abs l 12
  simp only [c_law07_ElimInfeasible]
  by_cases hf : fewP l 12
  · have ht := few_tot hf.2
    have hl12 := hf.1
    have q1 := elim_Infeasible_abs (fuel := fu) hl (by omega) hfu
    have q2 := ref07_Asked_abs (fuel := fu) hl (by omega)
    have q3 := elim_CheckCertificate_abs (b := (infS l fu).1) hl (by omega) (infS_64 hl)
    obtain ⟨w1, w2⟩ := infS_law (fuel := fu) hl
    rw [decide_eq_true hf] at pf
    clear hf hl ht hl12
    generalize infS l fu = R at *
    generalize askedS l fu = a at *
    obtain ⟨b, ok, e⟩ := R
    simp only at w1 w2 q3
    by_cases hn : fu > 5000 ∧ fu ≤ 1048576
    · obtain ⟨hn, hn2⟩ := hn
      clear w1 w2 q1 q2 q3
      repeat' first | simp (disch := omega) only [go_sem, ↓reduceIte, Nat.reduceEqDiff, reduceCtorEq, Int.reduceEq, hn, hn2] | ((with_reducible first | refine condD ?_ ?_ | refine condX ?_ ?_ | refine condW_intro ?_ ?_) <;> intro h <;> first | (exfalso; omega) | simp (disch := omega) only [go_sem, ↓reduceIte, Nat.reduceEqDiff, reduceCtorEq, Int.reduceEq, *, hn, hn2] | skip) | (with_reducible refine bothW_intro ?_ ?_) | (with_reducible refine nilW_intro (fun h => ?_) ?_) | (refine callW_of pf rfl (.inl rfl) ?_) | (refine callW_of law07_examples_abs rfl (.inl rfl) ?_)
    · have hn : ¬ fu > 5000 ∨ (fu > 5000 ∧ ¬ fu ≤ 1048576) := by omega
      by_cases ha : a = 0
      · subst ha
        obtain ⟨w3, w4, w5⟩ := w2 rfl
        clear w1 w2
        by_cases he : e = 0
        · subst he
          clear w3
          cases ok
          · have hb := w5 rfl
            subst hb
            clear w4 w5 q3
            rcases hn with hn | ⟨hn, hn2⟩
            · repeat' first | simp (disch := omega) only [go_sem, ↓reduceIte, Nat.reduceEqDiff, reduceCtorEq, Int.reduceEq, hn] | ((with_reducible first | refine condD ?_ ?_ | refine condX ?_ ?_ | refine condW_intro ?_ ?_) <;> intro h <;> first | (exfalso; omega) | simp (disch := omega) only [go_sem, ↓reduceIte, Nat.reduceEqDiff, reduceCtorEq, Int.reduceEq, *, hn] | skip) | (with_reducible refine bothW_intro ?_ ?_) | (with_reducible refine nilW_intro (fun h => ?_) ?_) | (refine callW_of pf rfl (.inl rfl) ?_) | (refine callW_of q1 rfl (.inr rfl) ?_) | (refine callW_of q2 rfl (.inl rfl) ?_) | (refine callW_of law07_examples_abs rfl (.inl rfl) ?_)
            · repeat' first | simp (disch := omega) only [go_sem, ↓reduceIte, Nat.reduceEqDiff, reduceCtorEq, Int.reduceEq, hn, hn2] | ((with_reducible first | refine condD ?_ ?_ | refine condX ?_ ?_ | refine condW_intro ?_ ?_) <;> intro h <;> first | (exfalso; omega) | simp (disch := omega) only [go_sem, ↓reduceIte, Nat.reduceEqDiff, reduceCtorEq, Int.reduceEq, *, hn, hn2] | skip) | (with_reducible refine bothW_intro ?_ ?_) | (with_reducible refine nilW_intro (fun h => ?_) ?_) | (refine callW_of pf rfl (.inl rfl) ?_) | (refine callW_of q1 rfl (.inr rfl) ?_) | (refine callW_of q2 rfl (.inl rfl) ?_) | (refine callW_of law07_examples_abs rfl (.inl rfl) ?_)
          · rw [w4 rfl] at q3
            clear w4 w5
            rcases hn with hn | ⟨hn, hn2⟩
            · repeat' first | simp (disch := omega) only [go_sem, ↓reduceIte, Nat.reduceEqDiff, reduceCtorEq, Int.reduceEq, hn] | ((with_reducible first | refine condD ?_ ?_ | refine condX ?_ ?_ | refine condW_intro ?_ ?_) <;> intro h <;> first | (exfalso; omega) | simp (disch := omega) only [go_sem, ↓reduceIte, Nat.reduceEqDiff, reduceCtorEq, Int.reduceEq, *, hn] | skip) | (with_reducible refine bothW_intro ?_ ?_) | (with_reducible refine nilW_intro (fun h => ?_) ?_) | (refine callW_of pf rfl (.inl rfl) ?_) | (refine callW_of q1 rfl (.inr rfl) ?_) | (refine callW_of q2 rfl (.inl rfl) ?_) | (refine callW_of q3 rfl (.inl rfl) ?_) | (refine callW_of law07_examples_abs rfl (.inl rfl) ?_)
            · repeat' first | simp (disch := omega) only [go_sem, ↓reduceIte, Nat.reduceEqDiff, reduceCtorEq, Int.reduceEq, hn, hn2] | ((with_reducible first | refine condD ?_ ?_ | refine condX ?_ ?_ | refine condW_intro ?_ ?_) <;> intro h <;> first | (exfalso; omega) | simp (disch := omega) only [go_sem, ↓reduceIte, Nat.reduceEqDiff, reduceCtorEq, Int.reduceEq, *, hn, hn2] | skip) | (with_reducible refine bothW_intro ?_ ?_) | (with_reducible refine nilW_intro (fun h => ?_) ?_) | (refine callW_of pf rfl (.inl rfl) ?_) | (refine callW_of q1 rfl (.inr rfl) ?_) | (refine callW_of q2 rfl (.inl rfl) ?_) | (refine callW_of q3 rfl (.inl rfl) ?_) | (refine callW_of law07_examples_abs rfl (.inl rfl) ?_)
        · obtain ⟨w6, rfl, rfl⟩ := w3 he
          clear w4 w5 w3 q3
          rcases w6 with rfl | rfl | rfl
          all_goals
            rcases hn with hn | ⟨hn, hn2⟩
            · repeat' first | simp (disch := omega) only [go_sem, ↓reduceIte, Nat.reduceEqDiff, reduceCtorEq, Int.reduceEq, hn] | ((with_reducible first | refine condD ?_ ?_ | refine condX ?_ ?_ | refine condW_intro ?_ ?_) <;> intro h <;> first | (exfalso; omega) | simp (disch := omega) only [go_sem, ↓reduceIte, Nat.reduceEqDiff, reduceCtorEq, Int.reduceEq, *, hn] | skip) | (with_reducible refine bothW_intro ?_ ?_) | (with_reducible refine nilW_intro (fun h => ?_) ?_) | (refine callW_of pf rfl (.inl rfl) ?_) | (refine callW_of q1 rfl (.inr rfl) ?_) | (refine callW_of q2 rfl (.inl rfl) ?_) | (refine callW_of law07_examples_abs rfl (.inl rfl) ?_)
            · repeat' first | simp (disch := omega) only [go_sem, ↓reduceIte, Nat.reduceEqDiff, reduceCtorEq, Int.reduceEq, hn, hn2] | ((with_reducible first | refine condD ?_ ?_ | refine condX ?_ ?_ | refine condW_intro ?_ ?_) <;> intro h <;> first | (exfalso; omega) | simp (disch := omega) only [go_sem, ↓reduceIte, Nat.reduceEqDiff, reduceCtorEq, Int.reduceEq, *, hn, hn2] | skip) | (with_reducible refine bothW_intro ?_ ?_) | (with_reducible refine nilW_intro (fun h => ?_) ?_) | (refine callW_of pf rfl (.inl rfl) ?_) | (refine callW_of q1 rfl (.inr rfl) ?_) | (refine callW_of q2 rfl (.inl rfl) ?_) | (refine callW_of law07_examples_abs rfl (.inl rfl) ?_)
      · have w3 := w1 ha
        cases w3
        clear w1 w2 q3
        rcases hn with hn | ⟨hn, hn2⟩
        · repeat' first | simp (disch := omega) only [go_sem, ↓reduceIte, Nat.reduceEqDiff, reduceCtorEq, Int.reduceEq, hn, ha] | ((with_reducible first | refine condD ?_ ?_ | refine condX ?_ ?_ | refine condW_intro ?_ ?_) <;> intro h <;> first | (exfalso; omega) | simp (disch := omega) only [go_sem, ↓reduceIte, Nat.reduceEqDiff, reduceCtorEq, Int.reduceEq, *, hn, ha] | skip) | (with_reducible refine bothW_intro ?_ ?_) | (with_reducible refine nilW_intro (fun h => ?_) ?_) | (refine callW_of pf rfl (.inl rfl) ?_) | (refine callW_of q1 rfl (.inr rfl) ?_) | (refine callW_of q2 rfl (.inl rfl) ?_) | (refine callW_of law07_examples_abs rfl (.inl rfl) ?_)
        · repeat' first | simp (disch := omega) only [go_sem, ↓reduceIte, Nat.reduceEqDiff, reduceCtorEq, Int.reduceEq, hn, hn2, ha] | ((with_reducible first | refine condD ?_ ?_ | refine condX ?_ ?_ | refine condW_intro ?_ ?_) <;> intro h <;> first | (exfalso; omega) | simp (disch := omega) only [go_sem, ↓reduceIte, Nat.reduceEqDiff, reduceCtorEq, Int.reduceEq, *, hn, hn2, ha] | skip) | (with_reducible refine bothW_intro ?_ ?_) | (with_reducible refine nilW_intro (fun h => ?_) ?_) | (refine callW_of pf rfl (.inl rfl) ?_) | (refine callW_of q1 rfl (.inr rfl) ?_) | (refine callW_of q2 rfl (.inl rfl) ?_) | (refine callW_of law07_examples_abs rfl (.inl rfl) ?_)
  · rw [decide_eq_false hf] at pf
    clear hf hl
    repeat' first | simp (disch := omega) only [go_sem, ↓reduceIte, Nat.reduceEqDiff, reduceCtorEq, Int.reduceEq] | ((with_reducible first | refine condD ?_ ?_ | refine condX ?_ ?_ | refine condW_intro ?_ ?_) <;> intro h <;> first | (exfalso; omega) | simp (disch := omega) only [go_sem, ↓reduceIte, Nat.reduceEqDiff, reduceCtorEq, Int.reduceEq, *] | skip) | (with_reducible refine bothW_intro ?_ ?_) | (with_reducible refine nilW_intro (fun h => ?_) ?_) | (refine callW_of pf rfl (.inl rfl) ?_) | (refine callW_of law07_examples_abs rfl (.inl rfl) ?_)
end Go.Proofs.Ytkdgmbakhkdegaa
