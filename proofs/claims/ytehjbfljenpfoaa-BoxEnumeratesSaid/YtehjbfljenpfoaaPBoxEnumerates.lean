/- The law BoxEnumerates answers true for every input, and its arguments read afterwards as before: no condition beyond those of the row. -/
import Derived.Test.YtehjbfljenpfoaaVEn
import Derived.Test.YtehjbfljenpfoaaLaw
set_option linter.unusedVariables false
set_option linter.unusedSimpArgs false
namespace Go.Proofs.Ytehjbfljenpfoaa
open Go.ChangeShapes Go.WideShapes Go.ChangeAt Go.RowKit Go.Abs

set_option maxRecDepth 100000 in
theorem BoxEnumerates_lifted (os : Os) (started : os.Started) (H : Type) (enc : TypeId × Value → H) :
  ReturnsInHanded {} Try.checked os 3 .any (Rows.boxEnumeratesSpec.pre6 enc Try.prog Try.f3 Rows.boxEnumeratesRow.domain false) (Rows.boxEnumeratesSpec.post enc Try.prog Try.f3 false true false false) := by
 refine returnsInHanded_of_change_sized (C := Try.checked) absOwn started (by kernel_rfl) Try.func3
  (ChangeSpec.witness6 (enc := enc) (C := Try.checked) false ⟨#[], #[.slice none 0 0, .int .u8 0], []⟩ 8 (by kernel_rfl) (by kernel_rfl) (by kernel_rfl) (by kernel_rfl)) ?_
 intro W base args ds gs before hval0 hW _ hsz0 _
 clear hsz0
 have hval : ∀ (j : Nat) t v, Try.f3.params[j]? = some t → args[j]? = some v → Value.okWide Try.prog W .any base t v := hval0
 have hW' := hW
 obtain ⟨p, q, hA0, hV, rfl, _, _⟩ := hW
 have hA : DataW.TrodAll enc Try.prog W 0 (fun _ => true) true Try.f3.params.toList args.toList ds p := hA0
 rw [Try.params3] at hA hval
 obtain ⟨v0, vs0, d0, ds0, p0, q0, hargs, rfl, rfl, h0, r0⟩ := trodAll_cons hA
 obtain ⟨v1, vs1, d1, ds1, p1, q1, rfl, rfl, rfl, h1, r1⟩ := trodAll_cons r0
 obtain ⟨rfl, rfl, rfl⟩ := trodAll_nil r1
 obtain rfl : args = #[v0, v1] := by cases args; simp_all
 obtain ⟨x0, ok0, rep0⟩ := arg_rep (P := Try.prog) (sf := 9) (l := [.slice [.int .i64]]) (by kernel_rfl) (hval 0 22 v0 rfl rfl) h0
 rw [show isRow Try.prog 22 = false by kernel_rfl] at rep0
 obtain ⟨x1, ok1, rep1⟩ := arg_rep (P := Try.prog) (sf := 9) (l := [.int .u8]) (by kernel_rfl) (hval 1 5 v1 rfl rfl) h1
 rw [show isRow Try.prog 5 = false by kernel_rfl] at rep1
 obtain ⟨rfl, rfl⟩ := trodVars_none hV
 clear hA0 hval0
 refine (abs_calls (BoxEnumerates_abs x0 x1 ok0 ok1) (fun g h => by simp [gTab] at h) (.cons rep0 (.cons rep1 .nil))).mono fun e W' ⟨he, hx⟩ => ?_
 subst he
 exact ⟨_, rfl, abs_post (by kernel_rfl) rfl rfl hW' rfl rfl rfl hx⟩

theorem BoxEnumerates_holds : Rows.BoxEnumeratesSaid :=
 OpenClaim.holds_of_wide 3 Try.f3 rfl rfl rfl rfl rfl rfl rfl ⟨rfl, rfl, rfl, rfl, rfl⟩ rfl rfl rfl rfl rfl (by kernel_rfl) Try.func3 (by kernel_rfl)
  (of_decide_eq_true (by kernel_rfl)) (by unfold Func.isWrapper; first | (rw [if_pos (by decide +kernel)]; kernel_rfl) | (rw [if_neg (by decide +kernel)]; exact ⟨rfl, rfl⟩))
  (fun os started H enc _ => BoxEnumerates_lifted os started H enc)
end Go.Proofs.Ytehjbfljenpfoaa
