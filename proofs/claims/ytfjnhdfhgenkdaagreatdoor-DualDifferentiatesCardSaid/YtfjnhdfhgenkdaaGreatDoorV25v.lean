/- The law DualDifferentiates, on plain programs. -/
import Derived.Test.YtfjnhdfhgenkdaaGreatDoorV25u
import Derived.Test.YtfjnhdfhgenkdaaGreatDoorV17x
import Derived.Test.YtfjnhdfhgenkdaaGreatDoorV25e
import Derived.Test.YtfjnhdfhgenkdaaGreatDoorInX
set_option linter.unusedVariables false
set_option linter.unusedSimpArgs false
set_option maxRecDepth 20000
namespace Go.Proofs.YtfjnhdfhgenkdaaGreatDoor
open Go.Abs Go.RowKit

theorem DualDifferentiates_plain {p : Prg} (h64 : prg64 p) : PCalls Tryz.prog n_law25_DualDifferentiates [aPrg p] (Go.Abs.B true) := by
 refine PCalls.of is_law25_DualDifferentiates (by simp) fun hb => runW_sound ?_
 have cS := ref18_Small_abs p
 simp only [c_law25_DualDifferentiates]
 by_cases hs : p.defs.length ≤ 8 ∧ ¬ longS p
 ·rw [decide_eq_true hs] at cS
  have hf := few_of hs.2
  have cD := dual_Differentiable_abs hf h64
  have cR := ref25_Differentiable_abs hf h64
  clear hs
  generalize difS p = r at *
  repeat' first | simp (disch := omega) only [go_sem, decide_true] | ((with_reducible first | refine condD ?_ ?_ | refine condX ?_ ?_ | refine condW_intro ?_ ?_) <;> intro h <;> first | (exfalso; omega) | simp (disch := omega) only [go_sem, *, decide_true] | skip) | (refine callW_of cS rfl (.inl rfl) ?_) | (refine callW_of cD rfl (.inl rfl) ?_) | (refine callW_of cR rfl (.inl rfl) ?_) | (refine callW_of law25_alive_abs rfl (.inl rfl) ?_)
 ·rw [decide_eq_false hs] at cS
  clear hs
  repeat' first | simp (disch := omega) only [go_sem] | ((with_reducible first | refine condD ?_ ?_ | refine condX ?_ ?_ | refine condW_intro ?_ ?_) <;> intro h <;> first | (exfalso; omega) | simp (disch := omega) only [go_sem, *] | skip) | (refine callW_of cS rfl (.inl rfl) ?_) | (refine callW_of law25_alive_abs rfl (.inl rfl) ?_)
theorem DualDifferentiates_abs {ps : List PC} (h : OkEs lPrg ps) : PCalls Tryz.prog n_law25_DualDifferentiates [.agg (ps.map .pure)] (Go.Abs.B true) := by
 obtain ⟨p, rfl, h64⟩ := okPrg h
 exact DualDifferentiates_plain h64
end Go.Proofs.YtfjnhdfhgenkdaaGreatDoor
