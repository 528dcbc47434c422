/- The abstract machine: a nil slice as one that nobody writes. -/
import Derived.Test.YtkdgmbakhkdegaaAbsQ
set_option linter.unusedVariables false
set_option linter.unusedSimpArgs false
namespace Go.Abs
open Go.RowKit

section
variable {P : Program} {σ : St} {nt : Nat}
theorem AW_nilM {c : ACode} {Q : AExit → St → Prop} (nm i : Nat) (xs : List AC) (hf : findB σ.mem nm = some (.var xs)) (hi : xs[i]? = some .nils)
  (h : AW P nt c { σ with mem := setB σ.mem nm (.var (xs.set i (.pure (.slice [])))) } Q) : AW P nt c σ Q := by
 intro c' hc w0 U ι a w hs hz
 obtain ⟨b, vs, T, g1, g2, g3, g4⟩ := hs.box _ _ hf
 have hset := hs.setBox (cs := vs) hf (b := b) (by rw [g1]; rfl) (bx := .var (xs.set i (.pure (.slice [])))) ⟨b, vs, T, g1, g2, setRow_heap _ _ _ _ _ _ g3, by
  rw [setRow_self w b vs T _ g3]
  refine All2.of_get (by rw [List.length_set]; exact g4.length) fun j x v hj hv => ?_
  rw [List.getElem?_set] at hj
  by_cases e1 : i = j
  ·subst e1
   have hlt := (List.getElem?_eq_some_iff.1 hi).1
   rw [if_pos rfl, if_pos hlt] at hj
   cases hj
   obtain ⟨v', hv', hr⟩ := g4.get hi
   rw [hv'] at hv
   cases hv
   have : v = .slice none 0 0 := by cases hr; rfl
   rw [this]
   exact .pure .nil
  ·rw [if_neg e1] at hj
   obtain ⟨v', hv', hr⟩ := g4.get hj
   rw [hv'] at hv
   cases hv
   exact hr⟩
 rw [setRow_self w b vs T _ g3] at hset
 exact h c' hc w0 U ι a w hset hz
theorem AW_nilF {c : ACode} {Q : AExit → St → Prop} (t : Nat) (ht : look σ.fr t = .c .nils) (h : AW P nt c { σ with fr := (t, .c (.pure (.slice []))) :: σ.fr } Q) : AW P nt c σ Q := by
 intro c' hc w0 U ι a w hs hz
 refine h c' hc w0 U ι a w ⟨fun s => ?_, hs.defers, hs.names, hs.box, hs.apart, hs.below, hs.keep, hs.base⟩ hz
 show RepV w (Free w0.heap.size U ι σ.mem) ι σ.nx (look ((t, .c (.pure (.slice []))) :: σ.fr) s) _
 rw [look_put]
 by_cases es : t = s
 ·subst es
  rw [if_pos rfl]
  have hv := hs.val t
  rw [ht] at hv
  generalize a.tmps.getD t undef = v at hv
  cases hv with
  | c hv => cases hv; exact .c (.pure .nil)
 ·rw [if_neg es]
  exact hs.val s
end
end Go.Abs
