/- Walks by the abstract machine: the reference's check of a certificate. -/
import Derived.Test.YtnddmjhpplopbaaGreatV07y
set_option linter.unusedVariables false
set_option linter.unusedSimpArgs false
set_option maxRecDepth 20000
namespace Go.Proofs.YtnddmjhpplopbaaGreat
open Go.Abs Go.RowKit

theorem ref07_CheckCertificate_abs {l : List Con} {b : List Int} (h64 : ∀ c ∈ l, con64 c) (hs : tot l ≤ 400000000) (hb : ∀ x ∈ b, in64 x) : PCalls Tryz.prog n_ref07_CheckCertificate [aCons l, aInts b] (I (checkS l b)) := by
 refine PCalls.of is_ref07_CheckCertificate (by simp) fun _ => runW_sound ?_
 simp only [c_ref07_CheckCertificate]
 have pt := ref07_tights_abs h64 (fun c hc => by have := tot_mem hc; omega)
 unfold checkS
 by_cases h0 : (tightL l).2 = 0
 ·have ht : tightL l = ((tightL l).1, 0) := Prod.ext rfl h0
  have pc := ref07_Weighted_abs (l := (tightL l).1) (b := b) (fun c hc => (tightL_ok ht h64 c hc).2) hb (by have := tightL_tot ht; omega)
  rw [weighted_eq (fun c hc => (tightL_ok ht h64 c hc).1)] at pc
  rw [if_neg (not_not_intro h0)]
  clear ht h64 hs
  generalize tightL l = X at *
  obtain ⟨t, e⟩ := X
  simp only at h0 pc ⊢
  subst h0
  have pb := ref07_Contradictory_abs (conCombine t b).1
  generalize conCombine t b = C at *
  obtain ⟨⟨⟨K, m⟩, q⟩, ce⟩ := C
  simp only at pb ⊢
  by_cases hce : ce = 0
  ·subst hce
   rw [if_neg (by simp)]
   by_cases hbad : conBad ((K, m), q)
   ·rw [if_pos hbad]
    rw [decide_eq_true hbad] at pb
    clear hbad
    repeat' first | simp (disch := omega) only [go_sem, ↓reduceIte, Nat.reduceEqDiff, reduceCtorEq, Int.reduceEq] | ((with_reducible first | refine condD ?_ ?_ | refine condX ?_ ?_ | refine condW_intro ?_ ?_) <;> intro h <;> first | (exfalso; omega) | simp (disch := omega) only [go_sem, ↓reduceIte, Nat.reduceEqDiff, reduceCtorEq, Int.reduceEq, *] | skip) | (refine callW_of pt rfl (.inr rfl) ?_) | (refine callW_of pc rfl (.inr rfl) ?_) | (refine callW_of pb rfl (.inl rfl) ?_)
    all_goals rfl
   ·rw [if_neg hbad]
    rw [decide_eq_false hbad] at pb
    clear hbad
    repeat' first | simp (disch := omega) only [go_sem, ↓reduceIte, Nat.reduceEqDiff, reduceCtorEq, Int.reduceEq] | ((with_reducible first | refine condD ?_ ?_ | refine condX ?_ ?_ | refine condW_intro ?_ ?_) <;> intro h <;> first | (exfalso; omega) | simp (disch := omega) only [go_sem, ↓reduceIte, Nat.reduceEqDiff, reduceCtorEq, Int.reduceEq, *] | skip) | (refine callW_of pt rfl (.inr rfl) ?_) | (refine callW_of pc rfl (.inr rfl) ?_) | (refine callW_of pb rfl (.inl rfl) ?_)
    all_goals rfl
  ·rw [if_pos hce]
   clear pb
   repeat' first | simp (disch := omega) only [go_sem, ↓reduceIte, Nat.reduceEqDiff, reduceCtorEq, Int.reduceEq, hce] | ((with_reducible first | refine condD ?_ ?_ | refine condX ?_ ?_ | refine condW_intro ?_ ?_) <;> intro h <;> first | (exfalso; omega) | simp (disch := omega) only [go_sem, ↓reduceIte, Nat.reduceEqDiff, reduceCtorEq, Int.reduceEq, *, hce] | skip) | (refine callW_of pt rfl (.inr rfl) ?_) | (refine callW_of pc rfl (.inr rfl) ?_)
   all_goals rfl
 ·rw [if_pos h0]
  clear h64 hs
  generalize tightL l = X at *
  obtain ⟨t, e⟩ := X
  simp only at h0 ⊢
  repeat' first | simp (disch := omega) only [go_sem, ↓reduceIte, Nat.reduceEqDiff, reduceCtorEq, Int.reduceEq, h0] | ((with_reducible first | refine condD ?_ ?_ | refine condX ?_ ?_ | refine condW_intro ?_ ?_) <;> intro h <;> first | (exfalso; omega) | simp (disch := omega) only [go_sem, ↓reduceIte, Nat.reduceEqDiff, reduceCtorEq, Int.reduceEq, *, h0] | skip) | (refine callW_of pt rfl (.inr rfl) ?_)
  all_goals rfl
end Go.Proofs.YtnddmjhpplopbaaGreat
