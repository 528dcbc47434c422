/- The law ShardReturns answers true for every input, and its arguments read afterwards as before: no condition beyond those of the row. -/
import Derived.Test.YtcnbccmmhcoanaaV52u
import Derived.Test.YtcnbccmmhcoanaaLaw
set_option linter.unusedVariables false
set_option linter.unusedSimpArgs false
namespace Go.Proofs.Ytcnbccmmhcoanaa
open Go.ChangeShapes Go.WideShapes Go.ChangeAt Go.RowKit Go.Abs

set_option maxRecDepth 100000 in
theorem ShardReturns_lifted (os : Os) (started : os.Started) (H : Type) (enc : TypeId × Value → H) :
  ReturnsInHanded {} Try.checked os 5 .any (Rows.shardReturnsSpec.pre6 enc Try.prog Try.f5 Rows.shardReturnsRow.domain false) (Rows.shardReturnsSpec.post enc Try.prog Try.f5 false true false false) := by
 refine returnsInHanded_of_change_sized (C := Try.checked) absOwn started (by kernel_rfl) Try.func5
  (ChangeSpec.witness6 (enc := enc) (C := Try.checked) false ⟨#[], #[.agg #[.slice none 0 0, .slice none 0 0], .agg #[.int .i64 0, .int .i64 0, .int .i64 0, .int .i64 0, .int .i64 0, .slice none 0 0, .slice none 0 0]], []⟩ 8 (by kernel_rfl) (by kernel_rfl) (by kernel_rfl) (by kernel_rfl)) ?_
 intro W base args ds gs before hval0 hW _ hsz0 _
 clear hsz0
 have hval : ∀ (j : Nat) t v, Try.f5.params[j]? = some t → args[j]? = some v → Value.okWide Try.prog W .any base t v := hval0
 have hW' := hW
 obtain ⟨p, q, hA0, hV, rfl, _, _⟩ := hW
 have hA : DataW.TrodAll enc Try.prog W 0 (fun _ => true) true Try.f5.params.toList args.toList ds p := hA0
 rw [Try.params5] at hA hval
 obtain ⟨v0, vs0, d0, ds0, p0, q0, hargs, rfl, rfl, h0, r0⟩ := trodAll_cons hA
 obtain ⟨v1, vs1, d1, ds1, p1, q1, rfl, rfl, rfl, h1, r1⟩ := trodAll_cons r0
 obtain ⟨rfl, rfl, rfl⟩ := trodAll_nil r1
 obtain rfl : args = #[v0, v1] := by cases args; simp_all
 obtain ⟨x0, ok0, rep0⟩ := arg_rep (P := Try.prog) (sf := 9) (l := [.slice [.int .i64], .slice [.int .i64]]) (by kernel_rfl) (hval 0 27 v0 rfl rfl) h0
 rw [show isRow Try.prog 27 = true by kernel_rfl] at rep0
 obtain ⟨x1, ok1, rep1⟩ := arg_rep (P := Try.prog) (sf := 9) (l := [.int .i64, .int .i64, .int .i64, .int .i64, .int .i64, .slice [.int .i64], .slice [.int .i64, .int .i64]]) (by kernel_rfl) (hval 1 32 v1 rfl rfl) h1
 rw [show isRow Try.prog 32 = true by kernel_rfl] at rep1
 obtain ⟨rfl, rfl⟩ := trodVars_none hV
 clear hA0 hval0
 refine (abs_calls (ShardReturns_abs x0 x1 ok0 ok1) (.cons rep0 (.cons rep1 .nil))).mono fun e W' ⟨he, hx⟩ => ?_
 subst he
 exact ⟨_, rfl, abs_post (by kernel_rfl) rfl rfl hW' rfl rfl rfl hx⟩

theorem ShardReturns_holds : Rows.ShardReturnsSaid :=
 OpenClaim.holds_of_wide 5 Try.f5 rfl rfl rfl rfl rfl rfl rfl ⟨rfl, rfl, rfl, rfl, rfl⟩ rfl rfl rfl rfl rfl (by kernel_rfl) Try.func5 (by kernel_rfl)
  (of_decide_eq_true (by kernel_rfl)) (by unfold Func.isWrapper; first | (rw [if_pos (by decide +kernel)]; kernel_rfl) | (rw [if_neg (by decide +kernel)]; exact ⟨rfl, rfl⟩))
  (fun os started H enc _ => ShardReturns_lifted os started H enc)
end Go.Proofs.Ytcnbccmmhcoanaa
