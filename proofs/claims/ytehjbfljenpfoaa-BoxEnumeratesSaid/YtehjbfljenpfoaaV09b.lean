/- Contracts of the older walks as contracts of the abstract machine: layer 9. -/
import Derived.Test.YtehjbfljenpfoaaV09a
import Derived.Test.YtehjbfljenpfoaaW09d
set_option linter.unusedVariables false
set_option linter.unusedSimpArgs false
set_option maxRecDepth 20000
namespace Go.Proofs.Ytehjbfljenpfoaa
open Go.Abs Go.RowKit

theorem ints_of_rep {w : World} {U : Nat → Prop} {ι : Pl} {N : Nat} {xs : List Int} {v : Value} (h : RepV w U ι N (aInts xs) v) : IsInts w v xs := by
 cases h with
 | c h =>
  cases h with
  | pure h =>
   cases h with
   | @slice sz rows a n c g hn hc hm hr hcell hp =>
    simp only [List.length_map] at hn
    subst hn
    have cell : ∀ k, k < xs.length → ∃ b off, a = some ⟨b, off, none⟩ ∧ w.cell? ⟨b, off + k, none⟩ = some (.int .i64 (xs.getD k 0)) := by
     intro k hk
     have h1 : (xs.map fun n => [PC.val (.int .i64 n)])[k]? = some [.val (.int .i64 xs[k])] := by simp [hk]
     have hsz := hr k _ h1
     simp at hsz
     subst hsz
     obtain ⟨b, off, e, _, h2⟩ := hcell k _ 0 _ h1 rfl
     have h3 := hp k _ 0 _ h1 rfl
     refine ⟨b, off, e, ?_⟩
     generalize g k 0 = z at h2 h3
     cases h3
     simpa [hk] using h2
    refine ⟨a, c, rfl, by simpa using hc, by simpa using hm, ⟨fun k hk => ?_, fun k hk => ?_⟩⟩
    ·obtain ⟨b, off, e, _⟩ := cell k (by simpa using hk)
     exact ⟨b, off, e⟩
    ·have hk' : k < xs.length := by simpa using hk
     obtain ⟨b, off, e, h2⟩ := cell k hk'
     subst e
     rw [adr_some, h2]
     simp [hk']
theorem pcalls_of_calls {f : FuncId} {args : List AV} {z : Value} (hz : scalar z = true) (hf : ∃ fn, Try.prog.funcs[f]? = some fn ∧ fn.body.isSome = true ∧ (fn.name == "runtime.NumGoroutine") = false)
  (h : ∀ (w : World) (U : Nat → Prop) (vs : Array Value), All2 (RepV w U (fun _ => undef) 0) args vs.toList → Calls Try.prog f vs w fun e w' => e = .returned z ∧ Ext w w') : PCalls Try.prog f args (.c (.pure (.val z))) :=
 ⟨hf, fun w U vs hG hr => (h w U vs hr).mono fun e w' ⟨he, hx⟩ => ⟨z, he, .c (.pure (.val hz)), hx.below⟩⟩
theorem box_Validate_abs (xs : List Int) : PCalls Try.prog n_box_Validate [aInts xs] (I (bval xs)) := by
 refine pcalls_of_calls rfl ⟨_, Try.func18, rfl, by kernel_rfl⟩ fun w U vs hr => ?_
 obtain ⟨vs⟩ := vs
 cases hr with
 | cons h1 t =>
  cases t
  exact (box_Validate (ints_of_rep h1)).mono fun e w' ⟨he, hx⟩ => ⟨he, hx ▸ Ext.refl _⟩
theorem ref09_Validate_abs (xs : List Int) : PCalls Try.prog n_ref09_Validate [aInts xs] (I (bval xs)) := by
 refine pcalls_of_calls rfl ⟨_, Try.func9, rfl, by kernel_rfl⟩ fun w U vs hr => ?_
 obtain ⟨vs⟩ := vs
 cases hr with
 | cons h1 t =>
  cases t
  exact (ref09_Validate (ints_of_rep h1)).mono fun e w' ⟨he, hx⟩ => ⟨he, hx⟩
theorem box_Count_abs (xs : List Int) : PCalls Try.prog n_box_Count [aInts xs] (I (bcount xs)) := by
 refine pcalls_of_calls rfl ⟨_, Try.func13, rfl, by kernel_rfl⟩ fun w U vs hr => ?_
 obtain ⟨vs⟩ := vs
 cases hr with
 | cons h1 t =>
  cases t
  exact (box_Count (ints_of_rep h1)).mono fun e w' ⟨he, hx⟩ => ⟨he, hx ▸ Ext.refl _⟩
theorem ref09_Count_abs (xs : List Int) : PCalls Try.prog n_ref09_Count [aInts xs] (I (bcount xs)) := by
 refine pcalls_of_calls rfl ⟨_, Try.func4, rfl, by kernel_rfl⟩ fun w U vs hr => ?_
 obtain ⟨vs⟩ := vs
 cases hr with
 | cons h1 t =>
  cases t
  exact (ref09_Count (ints_of_rep h1)).mono fun e w' ⟨he, hx⟩ => ⟨he, hx⟩
theorem box_inside_abs (xs ps : List Int) : PCalls Try.prog n_box_inside [aInts xs, aInts ps] (Go.Abs.B (decide (Within xs ps))) := by
 refine pcalls_of_calls rfl ⟨_, Try.func16, rfl, by kernel_rfl⟩ fun w U vs hr => ?_
 obtain ⟨vs⟩ := vs
 cases hr with
 | cons h1 t =>
  cases t with
  | cons h2 t =>
   cases t
   exact (box_inside (ints_of_rep h1) (ints_of_rep h2)).mono fun e w' ⟨he, hx⟩ => ⟨he, hx ▸ Ext.refl _⟩
end Go.Proofs.Ytehjbfljenpfoaa
