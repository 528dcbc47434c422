/- The law of the assumptions, for one that knows alive. -/
import Derived.Test.YtkkbffbbifkhjaaGreatDoorV18a
import Derived.Test.YtkkbffbbifkhjaaGreatDoorV17x
import Derived.Test.YtkkbffbbifkhjaaGreatDoorP18w
set_option linter.unusedVariables false
set_option linter.unusedSimpArgs false
set_option maxRecDepth 20000
namespace Go.Proofs.YtkkbffbbifkhjaaGreatDoor
open Go.Abs Go.RowKit

theorem base_Cons_abs (l : List Con) : PCalls Tryz.prog n_base_Cons [aCons l, aCons l] (Go.Abs.B true) := by
 refine PCalls.of is_base_Cons (by simp) fun hb => runW_sound ?_
 have hba : l.length ≤ 9223372036854775807 := by have := hb.1; simpa [bndV, bndA, bndAs] using this
 clear hb
 simp only [c_base_Cons]
 repeat' first | simp (disch := omega) only [go_sem] | ((with_reducible refine condT ?_ ?_) <;> intro h <;> try first | omega | simp (disch := omega) only [go_sem, *])
 refine AW_loop (fun k : Nat => ⟨[(0, aCons l), (1, aCons l), (5, I k)], [], 0, 0⟩) (fun k => k ≤ l.length) (fun k => l.length - k) ⟨0, [], Nat.zero_le _, by simp⟩ ?_
 rintro k hk
 refine runW_sound ?_
 by_cases hlt : k < l.length
 ·have g1 := map_get (f := cP) hlt
  have pc := base_Con_abs l[k] l[k]
  rw [decide_eq_true rfl] at pc
  generalize l[k] = m at *
  obtain ⟨⟨n, x⟩, q⟩ := m
  simp only [cP] at g1
  repeat' first | simp (disch := omega) only [go_sem, g1, wrap_i64] | ((with_reducible refine condT ?_ ?_) <;> intro h <;> try first | omega | simp (disch := omega) only [go_sem, *, g1, wrap_i64]) | (with_reducible refine bothW_intro ?_ ?_) | (with_reducible refine nilW_intro (fun h => ?_) ?_) | (refine callW_of pc rfl (.inr rfl) ?_) | (refine callW_of pc rfl (.inl rfl) ?_)
  all_goals exact ⟨k + 1, [], hlt, by omega, by simp⟩
 ·repeat' first | simp (disch := omega) only [go_sem] | ((with_reducible refine condT ?_ ?_) <;> intro h <;> try first | omega | simp (disch := omega) only [go_sem, *])
  all_goals rfl
theorem law18_Assumes_abs (ha : PCalls Tryz.prog n_law18_alive [] (Go.Abs.B true)) {p : Prg} {k : Int} (h64 : prg64 p) (hl64 : prgL p) : PCalls Tryz.prog n_law18_BoundsAssumes [aPrg p, I k] (Go.Abs.B true) := by
 refine PCalls.of is_law18_BoundsAssumes (by simp) fun _ => runW_sound ?_
 simp only [c_law18_BoundsAssumes]
 have ps := ref18_Small_abs p
 by_cases hs : p.defs.length ≤ 8 ∧ ¬ longS p
 ·rw [decide_eq_true hs] at ps
  have hf := few_of hs.2
  have has : (validS p).2 = 0 → ∀ (i : Nat) (h : i < p.defs.length), asmOk p p.defs[i] := fun h => valid_asm hs.2 hl64 h
  have p1 := bounds_Assumptions_abs (k := k) hf h64 (valid_cq hs.2) has
  have p2 := ref18_Assumptions_abs (k := k) hf h64 has
  generalize asmR p k = r at *
  have p3 := base_Cons_abs r
  clear hs hf has h64 hl64
  repeat' first | simp (disch := omega) only [go_sem] | ((with_reducible refine condT ?_ ?_) <;> intro h <;> try first | omega | simp (disch := omega) only [go_sem, *]) | (with_reducible refine bothW_intro ?_ ?_) | (with_reducible refine nilW_intro (fun h => ?_) ?_) | (refine callW_of ps rfl (.inr rfl) ?_) | (refine callW_of p1 rfl (.inr rfl) ?_) | (refine callW_of p2 rfl (.inr rfl) ?_) | (refine callW_of p3 rfl (.inl rfl) ?_) | (refine callW_of p3 rfl (.inr rfl) ?_) | (refine callW_of ha rfl (.inl rfl) ?_) | (refine callW_of ha rfl (.inr rfl) ?_)
  all_goals rfl
 ·rw [decide_eq_false hs] at ps
  clear hs h64 hl64
  repeat' first | simp (disch := omega) only [go_sem] | ((with_reducible refine condT ?_ ?_) <;> intro h <;> try first | omega | simp (disch := omega) only [go_sem, *]) | (with_reducible refine bothW_intro ?_ ?_) | (with_reducible refine nilW_intro (fun h => ?_) ?_) | (refine callW_of ps rfl (.inr rfl) ?_) | (refine callW_of ha rfl (.inl rfl) ?_) | (refine callW_of ha rfl (.inr rfl) ?_)
  all_goals rfl
end Go.Proofs.YtkkbffbbifkhjaaGreatDoor
