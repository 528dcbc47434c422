/- The law ElimDecides answers true for every input, and its arguments read afterwards as before: no condition beyond those of the row. -/
import Derived.Test.YtnddmjhpplopbaaE07d
import Derived.Test.YtnddmjhpplopbaaLaw
set_option linter.unusedVariables false
set_option linter.unusedSimpArgs false
namespace Go.Proofs.Ytnddmjhpplopbaa
open Go.ChangeShapes Go.WideShapes Go.ChangeAt Go.RowKit Go.Abs

set_option maxRecDepth 100000 in
theorem ElimDecides_lifted (os : Os) (started : os.Started) (H : Type) (enc : TypeId × Value → H) :
  ReturnsInHanded {} Try.checked os 3 .any (Rows.elimDecidesSpec.pre6 enc Try.prog Try.f3 Rows.elimDecidesRow.domain false) (Rows.elimDecidesSpec.post enc Try.prog Try.f3 false true false false) := by
 refine returnsInHanded_of_change_sized (C := Try.checked) absOwn started (by kernel_rfl) Try.func3
  (ChangeSpec.witness6 (enc := enc) (C := Try.checked) false ⟨#[], #[.slice none 0 0], []⟩ 8 (by kernel_rfl) (by kernel_rfl) (by kernel_rfl) (by kernel_rfl)) ?_
 intro W base args ds gs before hval0 hW _ hsz0 _
 clear hsz0
 have hval : ∀ (j : Nat) t v, Try.f3.params[j]? = some t → args[j]? = some v → Value.okWide Try.prog W .any base t v := hval0
 have hW' := hW
 obtain ⟨p, q, hA0, hV, rfl, _, _⟩ := hW
 have hA : DataW.TrodAll enc Try.prog W 0 (fun _ => true) true Try.f3.params.toList args.toList ds p := hA0
 rw [Try.params3] at hA hval
 obtain ⟨v0, vs0, d0, ds0, p0, q0, hargs, rfl, rfl, h0, r0⟩ := trodAll_cons hA
 obtain ⟨rfl, rfl, rfl⟩ := trodAll_nil r0
 obtain rfl : args = #[v0] := by cases args; simp_all
 obtain ⟨x0, ok0, rep0⟩ := arg_rep (P := Try.prog) (sf := 9) (l := [.slice [.int .i64, .slice [.str, .int .i64], .bool]]) (by kernel_rfl) (hval 0 22 v0 rfl rfl) h0
 rw [show isRow Try.prog 22 = false by kernel_rfl] at rep0
 obtain ⟨rfl, rfl⟩ := trodVars_none hV
 clear hA0 hval0
 refine (abs_calls (ElimDecides_abs x0 ok0) (.cons rep0 .nil)).mono fun e W' ⟨he, hx⟩ => ?_
 subst he
 exact ⟨_, rfl, abs_post (by kernel_rfl) rfl rfl hW' rfl rfl rfl hx⟩

theorem ElimDecides_holds : Rows.ElimDecidesSaid :=
 OpenClaim.holds_of_wide 3 Try.f3 rfl rfl rfl rfl rfl rfl rfl ⟨rfl, rfl, rfl, rfl, rfl⟩ rfl rfl rfl rfl rfl (by kernel_rfl) Try.func3 (by kernel_rfl)
  (of_decide_eq_true (by kernel_rfl)) (by unfold Func.isWrapper; first | (rw [if_pos (by decide +kernel)]; kernel_rfl) | (rw [if_neg (by decide +kernel)]; exact ⟨rfl, rfl⟩))
  (fun os started H enc _ => ElimDecides_lifted os started H enc)
end Go.Proofs.Ytnddmjhpplopbaa
