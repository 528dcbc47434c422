/- Walks: the examples of the boxes, by reckoning. -/
import Derived.Test.YtehjbfljenpfoaaV00
import Derived.Test.YtehjbfljenpfoaaExec
set_option linter.unusedVariables false
set_option linter.unusedSimpArgs false
set_option maxRecDepth 20000
namespace Go.Proofs.Ytehjbfljenpfoaa
open Go.Abs Go.RowKit

noncomputable def tabO (T : List (Nat × List AV × AV)) (f : FuncId) (xs : List AV) : Option AV := List.rec (motive := fun _ => Option AV) none (fun e _ ih => Bool.rec ih (some e.2.2) (Nat.beq e.1 f && all2B (avB 8) xs e.2.1)) T
theorem tabO_ok : ∀ {T : List (Nat × List AV × AV)}, (∀ e ∈ T, PCalls Try.prog e.1 e.2.1 e.2.2) → ∀ f xs r, tabO T f xs = some r → PCalls Try.prog f xs r
 | [], _, f, xs, r, h => by cases h
 |e :: T, hT, f, xs, r, h => by
  have h : (Bool.rec (motive := fun _ => Option AV) (tabO T f xs) (some e.2.2) (Nat.beq e.1 f && all2B (avB 8) xs e.2.1)) = some r := h
  cases hb : (Nat.beq e.1 f && all2B (avB 8) xs e.2.1) with
  | true =>
   rw [hb] at h
   rw [Bool.and_eq_true] at hb
   have h1 := Nat.eq_of_beq_eq_true hb.1
   have h2 := all2B_eq (fun _ _ h => avB_eq h) hb.2
   cases h
   subst h1 h2
   exact hT e List.mem_cons_self
  | false =>
   rw [hb] at h
   exact tabO_ok (fun x hx => hT x (List.mem_cons_of_mem _ hx)) f xs r h
def optB (x : Option AV) (r : AV) : Bool := match x with
 | some y => avB 8 y r
 | none => false
theorem optB_eq {x : Option AV} {r : AV} (h : optB x r = true) : x = some r := by
 unfold optB at h
 split at h
 ·rw [avB_eq h]
 ·cases h
theorem box_All_abs (xs : List Int) (hx : xs.length ≤ 1000000000) : PCalls Try.prog n_box_All [aInts xs] (.c (.clo n_box_All_1 [.cptr [pInts xs]])) := by
 refine PCalls.of is_box_All (by simp) fun hb => runW_sound ?_
 simp only [c_box_All]
 repeat' first | simp (disch := omega) only [go_sem] | ((with_reducible refine condT ?_ ?_) <;> intro h <;> try first | omega | simp (disch := omega) only [go_sem, *]) | (with_reducible apply bothW_intro) | (with_reducible refine nilW_intro (fun h => ?_) ?_) | (refine app_nil (rowsOk_map fun _ => rfl) (by simp; omega) (by simp; omega) ?_)
theorem law09_examples_abs : PCalls Try.prog n_law09_examples [] (Go.Abs.B true) := by
 refine PCalls.run (tabO [(n_box_All, [aInts [2, 3]], .c (.clo n_box_All_1 [.cptr [pInts [2, 3]]]))]) (fun _ => false) 1000 60 (tabO_ok fun e he => ?_) (optB_eq (by decide +kernel))
 rw [List.mem_singleton.1 he]
 exact box_All_abs [2, 3] (by decide)
end Go.Proofs.Ytehjbfljenpfoaa
