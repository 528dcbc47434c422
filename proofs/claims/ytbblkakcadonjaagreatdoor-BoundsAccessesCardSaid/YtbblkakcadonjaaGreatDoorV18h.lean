/- What the laws of the bounds try: runs of copyOf, the tables for further runs. -/
import Derived.Test.YtbblkakcadonjaaGreatDoorV18o
import Derived.Test.YtbblkakcadonjaaGreatDoorP18w
import Derived.Test.YtbblkakcadonjaaGreatDoorVCq
import Derived.Test.YtbblkakcadonjaaGreatDoorV17m
set_option linter.unusedVariables false
set_option linter.unusedSimpArgs false
set_option maxRecDepth 20000
namespace Go.Proofs.YtbblkakcadonjaaGreatDoor
open Go.Abs Go.RowKit

noncomputable def tabO (T : List (Nat × List AV × AV)) (f : FuncId) (xs : List AV) : Option AV := List.rec (motive := fun _ => Option AV) none (fun e _ ih => Bool.rec ih (some e.2.2) (Nat.beq e.1 f && all2B (avB 8) xs e.2.1)) T
theorem tabO_ok : ∀ {T : List (Nat × List AV × AV)}, (∀ e ∈ T, PCalls Tryz.prog e.1 e.2.1 e.2.2) → ∀ f xs r, tabO T f xs = some r → PCalls Tryz.prog f xs r
 | [], _, f, xs, r, h => by cases h
 |e :: T, hT, f, xs, r, h => by
  have h : (Bool.rec (motive := fun _ => Option AV) (tabO T f xs) (some e.2.2) (Nat.beq e.1 f && all2B (avB 8) xs e.2.1)) = some r := h
  cases hb : (Nat.beq e.1 f && all2B (avB 8) xs e.2.1) with
  | true =>
   rw [hb] at h
   rw [Bool.and_eq_true] at hb
   have h1 := Nat.eq_of_beq_eq_true hb.1
   have h2 := all2B_eq (fun _ _ h => avB_eq h) hb.2
   cases h
   subst h1 h2
   exact hT e List.mem_cons_self
  | false =>
   rw [hb] at h
   exact tabO_ok (fun x hx => hT x (List.mem_cons_of_mem _ hx)) f xs r h
def optB (x : Option AV) (r : AV) : Bool := match x with
 | some y => avB 8 y r
 | none => false
theorem optB_eq {x : Option AV} {r : AV} (h : optB x r = true) : x = some r := by
 unfold optB at h
 split at h
 ·rw [avB_eq h]
 ·cases h
theorem valid_A (k : Int) : PCalls Tryz.prog n_program_Validate [aPrg (prA k)] (.tup [I 0, I 0]) := by
 have := program_Validate_abs (few_of (prA_short (k := k))) prA_64
 rw [prA_valid] at this
 exact this
theorem copy_A (k : Int) : PCalls Tryz.prog n_program_Copy [aPrg (prA k)] (aPrg (prA k)) := program_Copy_abs (valid_cq prA_short (by rw [prA_valid]))
def prmA : List Con := [((-1, [(sn, 1)]), false), ((0, [(si, 1)]), false), ((-1, [(si, -1), (sn, 1)]), false)]
def gl1 : Con := ((0, [(si, 1)]), false)
def gl2 : Con := ((-1, [(si, -1), (sn, 1)]), false)
def gl3 : Con := ((1, [(si, 1)]), false)
def gl4 : Con := ((-2, [(si, -1), (sn, 1)]), false)
def crt (l : List Int) (b : Bool) : AV := .tup [aSl (fun x => [pI x]) l, Go.Abs.B b, I 0]
theorem run_impl {xs : List AV} {r : AV} (h : optB ((evT Tryz.prog namesOr (fun f => Nat.beq f n_slices_Clone_api_Constraint_api_Constraint) 1000 60).p false 19 xs) r = true) : PCalls Tryz.prog 19 xs r :=
 PCalls.run _ _ _ _ namesOr_ok (optB_eq h)
end Go.Proofs.YtbblkakcadonjaaGreatDoor
