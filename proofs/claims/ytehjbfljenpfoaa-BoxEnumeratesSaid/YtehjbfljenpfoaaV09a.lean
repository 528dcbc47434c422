/- Walks by the abstract machine: base, layer 9. -/
import Derived.Test.YtehjbfljenpfoaaV00
import Derived.Lib.Hide
set_option linter.unusedVariables false
set_option linter.unusedSimpArgs false
set_option maxRecDepth 20000
namespace Go.Proofs.Ytehjbfljenpfoaa
open Go.Abs Go.RowKit
theorem all_eq {α : Type} {l m : List α} (hl : l.length = m.length) (h : ∀ i (h1 : i < l.length) (h2 : i < m.length), l[i] = m[i]) : l = m := List.ext_getElem hl h
set_option maxHeartbeats 1000000 in
theorem base_Ints_abs (l m : List Int) : PCalls Try.prog n_base_Ints [aInts l, aInts m] (Go.Abs.B (decide (l = m))) := by
 refine PCalls.of is_base_Ints (by simp) fun hb => runW_sound ?_
 have hbl : l.length ≤ 9223372036854775807 := by simpa [bndVs, bndV, bndA] using hb.1
 have hbm : m.length ≤ 9223372036854775807 := by simpa [bndVs, bndV, bndA] using hb.2
 simp only [c_base_Ints]
 clear hb
 by_cases hl : l.length = m.length
 ·have hl' : (l.length : Int) = m.length := by omega
  repeat' first | simp (disch := omega) only [go_sem, hl'] | ((with_reducible refine condT ?_ ?_) <;> intro h <;> try first | omega | simp (disch := omega) only [go_sem, *, hl'])
  refine AW_loop (fun k : Nat => ⟨[(0, aInts l), (1, aInts m), (5, I k)], [], 0, 0⟩) (fun k => k ≤ l.length ∧ upTo (fun j => ∀ (h1 : j < l.length) (h2 : j < m.length), l[j] = m[j]) k) (fun k => l.length - k) ⟨0, [], ⟨Nat.zero_le _, .zero⟩, by simp⟩ ?_
  have HL := Lib.hid hl
  clear hl' hl
  rintro k ⟨hk, hall⟩
  refine runW_sound ?_
  by_cases hlt : k < l.length
  ·have hlm : k < m.length := by have := HL.out; omega
   have g1 := map_get (f := fun n : Int => [pI n]) hlt
   have g2 := map_get (f := fun n : Int => [pI n]) hlm
   by_cases he : l[k] = m[k]
   ·have HA := Lib.hid (hall.succ fun _ _ => he)
    rw [← he] at g2
    generalize l[k] = t at *
    clear hall he
    repeat' first | simp (disch := omega) only [go_sem, g1, g2, wrap_i64] | ((with_reducible refine condT ?_ ?_) <;> intro h <;> try first | omega | simp (disch := omega) only [go_sem, *, g1, g2, wrap_i64])
    all_goals exact ⟨k + 1, [], ⟨hlt, HA.out⟩, by omega, by simp⟩
   ·have hne : ¬ l = m := fun e => he (by subst e; rfl)
    rw [decide_eq_false hne]
    clear hall hne
    generalize l[k] = t at *
    generalize m[k] = u at *
    repeat' first | simp (disch := omega) only [go_sem, g1, g2, wrap_i64, he] | ((with_reducible refine condT ?_ ?_) <;> intro h <;> try first | omega | simp (disch := omega) only [go_sem, *, g1, g2, wrap_i64, he])
    all_goals rfl
  ·have e : l = m := all_eq HL.out fun i h1 h2 => hall i (by omega) h1 h2
   rw [decide_eq_true e]
   clear hall e
   repeat' first | simp (disch := omega) only [go_sem] | ((with_reducible refine condT ?_ ?_) <;> intro h <;> try first | omega | simp (disch := omega) only [go_sem, *])
   all_goals rfl
 ·have hne : ¬ l = m := fun e => hl (by rw [e])
  rw [decide_eq_false hne]
  have hl' : ¬ (l.length : Int) = m.length := by omega
  clear hne
  repeat' first | simp (disch := omega) only [go_sem, hl'] | ((with_reducible refine condT ?_ ?_) <;> intro h <;> try first | omega | simp (disch := omega) only [go_sem, *, hl'])
  all_goals rfl
end Go.Proofs.Ytehjbfljenpfoaa
