/- The law ShardGathers answers true for every input, and its arguments read afterwards as before: no condition beyond those of the row. -/
import Derived.Test.YtcnbccmmhcoanaaV52t
import Derived.Test.YtcnbccmmhcoanaaLaw
set_option linter.unusedVariables false
set_option linter.unusedSimpArgs false
namespace Go.Proofs.Ytcnbccmmhcoanaa
open Go.ChangeShapes Go.WideShapes Go.ChangeAt Go.RowKit Go.Abs

set_option maxRecDepth 100000 in
theorem ShardGathers_lifted (os : Os) (started : os.Started) (H : Type) (enc : TypeId × Value → H) :
  ReturnsInHanded {} Try.checked os 4 .any (Rows.shardGathersSpec.pre6 enc Try.prog Try.f4 Rows.shardGathersRow.domain false) (Rows.shardGathersSpec.post enc Try.prog Try.f4 false true false false) := by
 refine returnsInHanded_of_change_sized (C := Try.checked) absOwn started (by kernel_rfl) Try.func4
  (ChangeSpec.witness6 (enc := enc) (C := Try.checked) false ⟨#[], #[.agg #[.slice none 0 0, .slice none 0 0], .slice none 0 0, .slice none 0 0], []⟩ 8 (by kernel_rfl) (by kernel_rfl) (by kernel_rfl) (by kernel_rfl)) ?_
 intro W base args ds gs before hval0 hW _ hsz0 _
 clear hsz0
 have hval : ∀ (j : Nat) t v, Try.f4.params[j]? = some t → args[j]? = some v → Value.okWide Try.prog W .any base t v := hval0
 have hW' := hW
 obtain ⟨p, q, hA0, hV, rfl, _, _⟩ := hW
 have hA : DataW.TrodAll enc Try.prog W 0 (fun _ => true) true Try.f4.params.toList args.toList ds p := hA0
 rw [Try.params4] at hA hval
 obtain ⟨v0, vs0, d0, ds0, p0, q0, hargs, rfl, rfl, h0, r0⟩ := trodAll_cons hA
 obtain ⟨v1, vs1, d1, ds1, p1, q1, rfl, rfl, rfl, h1, r1⟩ := trodAll_cons r0
 obtain ⟨v2, vs2, d2, ds2, p2, q2, rfl, rfl, rfl, h2, r2⟩ := trodAll_cons r1
 obtain ⟨rfl, rfl, rfl⟩ := trodAll_nil r2
 obtain rfl : args = #[v0, v1, v2] := by cases args; simp_all
 obtain ⟨x0, ok0, rep0⟩ := arg_rep (P := Try.prog) (sf := 9) (l := [.slice [.int .i64], .slice [.int .i64]]) (by kernel_rfl) (hval 0 27 v0 rfl rfl) h0
 rw [show isRow Try.prog 27 = true by kernel_rfl] at rep0
 obtain ⟨x1, ok1, rep1⟩ := arg_rep (P := Try.prog) (sf := 9) (l := [.slice [.int .i64]]) (by kernel_rfl) (hval 1 22 v1 rfl rfl) h1
 rw [show isRow Try.prog 22 = false by kernel_rfl] at rep1
 obtain ⟨x2, ok2, rep2⟩ := arg_rep (P := Try.prog) (sf := 9) (l := [.slice [.int .i64, .int .i64, .int .i64, .int .i64, .int .i64, .slice [.int .i64], .slice [.int .i64, .int .i64]]]) (by kernel_rfl) (hval 2 35 v2 rfl rfl) h2
 rw [show isRow Try.prog 35 = false by kernel_rfl] at rep2
 obtain ⟨rfl, rfl⟩ := trodVars_none hV
 clear hA0 hval0
 refine (abs_calls (ShardGathers_abs x0 x1 x2 ok0 ok1 ok2) (.cons rep0 (.cons rep1 (.cons rep2 .nil)))).mono fun e W' ⟨he, hx⟩ => ?_
 subst he
 exact ⟨_, rfl, abs_post (by kernel_rfl) rfl rfl hW' rfl rfl rfl hx⟩

theorem ShardGathers_holds : Rows.ShardGathersSaid :=
 OpenClaim.holds_of_wide 4 Try.f4 rfl rfl rfl rfl rfl rfl rfl ⟨rfl, rfl, rfl, rfl, rfl⟩ rfl rfl rfl rfl rfl (by kernel_rfl) Try.func4 (by kernel_rfl)
  (of_decide_eq_true (by kernel_rfl)) (by unfold Func.isWrapper; first | (rw [if_pos (by decide +kernel)]; kernel_rfl) | (rw [if_neg (by decide +kernel)]; exact ⟨rfl, rfl⟩))
  (fun os started H enc _ => ShardGathers_lifted os started H enc)
end Go.Proofs.Ytcnbccmmhcoanaa
