/- Weights of expressions and long programs, plainly. -/
import Derived.Test.YtfjnhdfhgenkdaaGreatDoorP17
set_option linter.unusedVariables false
set_option linter.unusedSimpArgs false
namespace Go.Proofs.YtfjnhdfhgenkdaaGreatDoor
open Go.Abs Go.RowKit

/-- The weight of a list of forms, of indices, of an expression: counted as long as it is at most m, in the machine's numbers. -/
def wAt (m : Int) : List Lin → Int → Int
 | [], n => n
 | x :: r, n => if n ≤ m then wAt m r (IntKind.wrap .i64 (n + x.2.length)) else n
def wIdx (m : Int) : List Ix → Int → Int
 | [], n => n
 | x :: r, n => if n ≤ m then wIdx m r (wAt m x.2.2 (IntKind.wrap .i64 (IntKind.wrap .i64 (n + x.1.2.length) + x.2.2.length))) else n
def w0 (e : Ex) : Int := IntKind.wrap .i64 (IntKind.wrap .i64 (1 + e.lin.2.length) + e.idx.length)
mutual
def weigh : Ex → Int → Int
 | .mk op name val ty lin idx args, m => wArgs args m (wIdx m idx (IntKind.wrap .i64 (IntKind.wrap .i64 (1 + lin.2.length) + idx.length)))
def wArgs : List Ex → Int → Int → Int
 | [], m, n => n
 | a :: r, m, n => if n ≤ m then wArgs r m (IntKind.wrap .i64 (n + weigh a (IntKind.wrap .i64 (m - n)))) else n
end
theorem weigh_eq (e : Ex) (m : Int) : weigh e m = wArgs e.args m (wIdx m e.idx (w0 e)) := by
 obtain ⟨op, name, val, ty, lin, idx, args⟩ := e
 rw [weigh]
 rfl
theorem wAt_go {m : Int} {l : List Lin} {k : Nat} {n : Int} (h : k < l.length) (hn : n ≤ m) : wAt m (l.drop k) n = wAt m (l.drop (k + 1)) (IntKind.wrap .i64 (n + l[k].2.length)) := by
 rw [List.drop_eq_getElem_cons h, wAt, if_pos hn]
theorem wAt_stop {m : Int} {l : List Lin} {k : Nat} {n : Int} (h : ¬ (k < l.length ∧ n ≤ m)) : wAt m (l.drop k) n = n := by
 by_cases hk : k < l.length
 ·rw [List.drop_eq_getElem_cons hk, wAt, if_neg fun hn => h ⟨hk, hn⟩]
 ·rw [List.drop_eq_nil_of_le (by omega), wAt]
theorem wIdx_go {m : Int} {l : List Ix} {k : Nat} {n : Int} (h : k < l.length) (hn : n ≤ m) : wIdx m (l.drop k) n = wIdx m (l.drop (k + 1)) (wAt m l[k].2.2 (IntKind.wrap .i64 (IntKind.wrap .i64 (n + l[k].1.2.length) + l[k].2.2.length))) := by
 rw [List.drop_eq_getElem_cons h, wIdx, if_pos hn]
theorem wIdx_stop {m : Int} {l : List Ix} {k : Nat} {n : Int} (h : ¬ (k < l.length ∧ n ≤ m)) : wIdx m (l.drop k) n = n := by
 by_cases hk : k < l.length
 ·rw [List.drop_eq_getElem_cons hk, wIdx, if_neg fun hn => h ⟨hk, hn⟩]
 ·rw [List.drop_eq_nil_of_le (by omega), wIdx]
theorem wArgs_go {m : Int} {l : List Ex} {k : Nat} {n : Int} (h : k < l.length) (hn : n ≤ m) : wArgs (l.drop k) m n = wArgs (l.drop (k + 1)) m (IntKind.wrap .i64 (n + weigh l[k] (IntKind.wrap .i64 (m - n)))) := by
 rw [List.drop_eq_getElem_cons h, wArgs, if_pos hn]
theorem wArgs_stop {m : Int} {l : List Ex} {k : Nat} {n : Int} (h : ¬ (k < l.length ∧ n ≤ m)) : wArgs (l.drop k) m n = n := by
 by_cases hk : k < l.length
 ·rw [List.drop_eq_getElem_cons hk, wArgs, if_neg fun hn => h ⟨hk, hn⟩]
 ·rw [List.drop_eq_nil_of_le (by omega), wArgs]
/-- A program that is too long for the laws. -/
def longD (d : Dfn) : Prop := 12 < d.dims.length ∨ 12 < d.red.length ∨ 300 < weigh d.body 300 ∨ ∃ a ∈ d.dims ++ d.red, 20 < a.2.2.length
def longX (x : Param) : Prop := 12 < x.2.2.length ∨ ∃ l ∈ x.2.2, 20 < l.2.length
def longS (p : Prg) : Prop := (12 < p.sizes.length ∨ 12 < p.wher.length ∨ 12 < p.params.length ∨ 12 < p.defs.length ∨ 12 < p.outs.length) ∨ (∃ c ∈ p.wher, 20 < c.1.2.length) ∨ (∃ x ∈ p.params, longX x) ∨ ∃ d ∈ p.defs, longD d
noncomputable instance (d : Dfn) : Decidable (longD d) := Classical.propDecidable _
noncomputable instance (x : Param) : Decidable (longX x) := Classical.propDecidable _
noncomputable instance (p : Prg) : Decidable (longS p) := Classical.propDecidable _
theorem few_of {p : Prg} (h : ¬ longS p) : fewP p := by
 refine ⟨fun x hx => ?_, fun d hd => ?_⟩
 ·have hn : ¬ longX x := fun hh => h (.inr (.inr (.inl ⟨x, hx, hh⟩)))
  exact ⟨Nat.le_of_not_lt fun hh => hn (.inl hh), fun l hl => Nat.le_of_not_lt fun hh => hn (.inr ⟨l, hl, hh⟩)⟩
 ·have hn : ¬ longD d := fun hh => h (.inr (.inr (.inr ⟨d, hd, hh⟩)))
  exact ⟨Nat.le_of_not_lt fun hh => hn (.inl hh), Nat.le_of_not_lt fun hh => hn (.inr (.inl hh)),
   fun a ha => Nat.le_of_not_lt fun hh => hn (.inr (.inr (.inr ⟨a, List.mem_append_left _ ha, hh⟩))), fun a ha => Nat.le_of_not_lt fun hh => hn (.inr (.inr (.inr ⟨a, List.mem_append_right _ ha, hh⟩)))⟩
end Go.Proofs.YtfjnhdfhgenkdaaGreatDoor
