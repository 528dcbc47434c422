/- The law DualDifferentiates answers true for every input, and its argument reads afterwards as before: no condition beyond those of the row. -/
import Derived.Test.YtfjnhdfhgenkdaaGreatDoorV25v
import Derived.Test.YtfjnhdfhgenkdaaGreatDoorLaw
import Derived.Test.YtfjnhdfhgenkdaaGreatDoorPDD0
import Derived.Test.YtfjnhdfhgenkdaaGreatDoorTie
import Derived.Test.YtfjnhdfhgenkdaaGreatDoorCards
import Derived.LaidMore
import Derived.Lib.LaidTab
import Derived.SevenTiedAt
set_option linter.unusedVariables false
set_option linter.unusedSimpArgs false
namespace Go.Proofs.YtfjnhdfhgenkdaaGreatDoor
open Go.ChangeShapes Go.WideShapes Go.ChangeAt Go.RowKit Go.Abs

set_option maxRecDepth 100000 in
theorem DualDifferentiates_lifted (os : Os) (started : os.Started) (H : Type) (enc : TypeId × Value → H) :
  ReturnsInHanded {} Tryz.checked os 3 .any (fun w args => (Rows.dualDifferentiatesSpec.pre enc Tryz.prog Tryz.f3 [] false w args ∧ laidMetH Tryz.prog Rows.dualDifferentiatesRow.laid w) ∧ sizedMet enc Tryz.prog Tryz.f3 (OpenSpec.ofChange Rows.dualDifferentiatesSpec) false w args)
   (Rows.dualDifferentiatesSpec.post enc Tryz.prog Tryz.f3 false true false false) := by
 refine returnsInHanded_of_change_and (C := Tryz.checked) (X := fun w _ => laidMetH Tryz.prog Rows.dualDifferentiatesRow.laid w) (fun _ _ _ hh h => h.of_heap hh) absOwn started (by kernel_rfl) Tryz.func3
  (dd_witness os enc) ?_
 intro W base args ds gs before hval0 hW _ hsz0 hL _
 clear hsz0
 have hval : ∀ (j : Nat) t v, Tryz.f3.params[j]? = some t → args[j]? = some v → Value.okWide Tryz.prog W .any base t v := hval0
 have hW' := hW
 obtain ⟨p, q, hA0, hV, rfl, _, _⟩ := hW
 have hA : DataW.TrodAll enc Tryz.prog W 0 (fun _ => true) true Tryz.f3.params.toList args.toList ds p := hA0
 rw [Tryz.params3] at hA hval
 obtain ⟨v0, vs0, d0, ds0, p0, q0, hargs, rfl, rfl, h0, r0⟩ := trodAll_cons hA
 obtain ⟨rfl, rfl, rfl⟩ := trodAll_nil r0
 obtain rfl : args = #[v0] := by cases args; simp_all
 obtain ⟨x0, ok0, rep0⟩ := argE_rep sExpr cExpr Tryz.underlying27 sProg (hval 0 27 v0 rfl rfl) h0
 obtain ⟨rfl, rfl⟩ := trodVars_none hV
 clear hA0 hval0
 refine (abs_calls (DualDifferentiates_abs ok0) (glob_of_laid hL) (.cons rep0 .nil)).mono fun e W' ⟨he, hx⟩ => ?_
 subst he
 exact ⟨_, rfl, abs_post (by kernel_rfl) rfl rfl hW' rfl rfl rfl hx⟩

theorem DualDifferentiates_row : Rows.DualDifferentiatesSaid :=
 OpenClaim.holds_of_wide 3 Tryz.f3 rfl rfl rfl rfl rfl rfl rfl ⟨rfl, rfl, rfl, rfl, rfl⟩ rfl rfl rfl rfl rfl (by kernel_rfl) Tryz.func3 (by kernel_rfl)
  (of_decide_eq_true (by kernel_rfl)) (by unfold Func.isWrapper; first | (rw [if_pos (by decide +kernel)]; kernel_rfl) | (rw [if_neg (by decide +kernel)]; exact ⟨rfl, rfl⟩))
  (fun os started H enc _ => DualDifferentiates_lifted os started H enc)
theorem DualDifferentiates_holds : Rows.DualDifferentiatesCardSaid :=
 Claim7.holds_tied_plain_at .later [] [.listed, .data] true (true, "43fe4c4d13650487cdfa954b0450271f47a68e4333357b780bff23809454945c") false
  DualDifferentiates_row (fun _ h => by cases h) (by kernel_rfl) (fun _ h => by cases h) dualDifferentiates_row_tie rfl ⟨rfl, rfl⟩ (by kernel_rfl) rfl
  (fun f fn hf hfn => by
   obtain rfl : f = 3 := Option.some.inj ((show Tryz.prog.funcNamed "brocade/brocadelaw25.DualDifferentiates" = some 3 by kernel_rfl).symm.trans hf) |>.symm
   obtain rfl : fn = Tryz.f3 := (Option.some.inj (Tryz.func3.symm.trans hfn)).symm
   exact ⟨by kernel_rfl, fun j t ht => by
    rw [Tryz.params3] at ht
    have hm : t ∈ [27] := by simpa using Array.mem_of_getElem? ht
    have hall : ([27].all fun u => !Tryz.prog.wantsStandIn u) = true := by kernel_rfl
    exact (show Tryz.prog.wantsStandIn t = false by simpa using List.all_eq_true.1 hall t hm)⟩)
  (by kernel_rfl)
end Go.Proofs.YtfjnhdfhgenkdaaGreatDoor
