/- slices.Clone as a contract of the abstract machine: the result is an array of the caller's own. -/
import Derived.Test.YtcnbccmmhcoanaaV00
import Derived.Test.YtcnbccmmhcoanaaCommon
set_option linter.unusedVariables false
set_option linter.unusedSimpArgs false
namespace Go.Proofs.Ytcnbccmmhcoanaa
open Go.Abs Go.RowKit

/-- A pure list of ints, as the older walks see it. -/
theorem ints_rep {w : World} {U : Nat → Prop} {ι : Pl} {N : Nat} {xs : List Int} {v : Value} (h : RepV w U ι N (aInts xs) v) : IsInts w v xs := by
 cases h with
 | c h =>
  cases h with
  | pure h =>
   cases h with
   | @slice sz rows a n c g hn hc hm hr hcell hp =>
    simp only [List.length_map] at hn
    subst hn
    have cell : ∀ k, k < xs.length → ∃ b off, a = some ⟨b, off, none⟩ ∧ w.cell? ⟨b, off + k, none⟩ = some (.int .i64 (xs.getD k 0)) := by
     intro k hk
     have h1 : (xs.map fun n => [PC.val (.int .i64 n)])[k]? = some [.val (.int .i64 xs[k])] := by simp [hk]
     have hsz := hr k _ h1
     simp at hsz
     subst hsz
     obtain ⟨b, off, e, _, h2⟩ := hcell k _ 0 _ h1 rfl
     have h3 := hp k _ 0 _ h1 rfl
     refine ⟨b, off, e, ?_⟩
     generalize g k 0 = z at h2 h3
     cases h3
     simpa [hk] using h2
    refine ⟨a, c, rfl, by simpa using hc, by simpa using hm, ⟨fun k hk => ?_, fun k hk => ?_⟩⟩
    ·obtain ⟨b, off, e, _⟩ := cell k (by simpa using hk)
     exact ⟨b, off, e⟩
    ·have hk' : k < xs.length := by simpa using hk
     obtain ⟨b, off, e, h2⟩ := cell k hk'
     subst e
     rw [adr_some, h2]
     simp [hk']

theorem Clone_own (xs : List Int) (mem : List (Nat × Box)) (nx : Nat) (hm : xs.length ≤ 17592186044416) :
  ICalls Try.prog 22 [aInts xs] mem nx (.c (.ref nx)) ((nx, .arr 3 1 (xs.map fun n => [pI n])) :: mem) (nx + 1) := by
 refine ⟨⟨_, Try.func22, rfl, by kernel_rfl⟩, fun w0 U ι w vs hs hr => ?_⟩
 obtain ⟨vs⟩ := vs
 cases hr with
 | cons h1 t =>
  cases t
  refine (slices_Clone (ints_rep h1) hm).mono ?_
  rintro e w' ⟨v, rfl, hown, hx⟩
  have hB := hs.below.size
  obtain ⟨ι', k1, k2, k3, k4⟩ := hs.newBox (pv := v) (bx := .arr 3 1 (xs.map fun n => [pI n])) hx.below (fun b hb => by
   rcases hown.2 with ⟨e, _⟩ | ⟨g, cap, cur, e, hg, _⟩
   ·rw [e] at hb; cases hb
   ·rw [e] at hb
    simp [blockOf] at hb
    omega) (fun ι' e1 e2 hfree => by
   refine ⟨xs.map (.int .i64), by decide, ?_, by simp; omega, ?_⟩
   ·rw [e2, List.length_map]
    refine ⟨hown.1, ?_⟩
    rcases hown.2 with h | ⟨g, cap, cur, e, hg, h⟩
    ·exact .inl h
    ·exact .inr ⟨g, cap, cur, e, Nat.le_trans hB hg, h⟩
   ·refine ⟨by simp, fun i row hi => ?_, fun i row j p hi hj => ?_⟩
    ·rw [List.getElem?_map] at hi
     cases hx : xs[i]? with
     | none => simp [hx] at hi
     | some x => simp [hx] at hi; subst hi; rfl
    ·rw [List.getElem?_map] at hi
     cases hx : xs[i]? with
     | none => simp [hx] at hi
     | some x =>
      simp [hx] at hi
      subst hi
      cases j with
      | zero =>
       simp at hj
       subst hj
       exact ⟨.int .i64 x, by simp [hx], .val rfl⟩
      | succ j => simp at hj)
  exact ⟨v, ι', rfl, k1, by rw [← k2]; exact .c (.ref (Nat.lt_succ_self _) (by
   rw [k2]
   rcases hown.2 with ⟨e, _⟩ | ⟨g, cap, cur, e, _⟩
   ·exact ⟨_, _, _, e⟩
   ·exact ⟨_, _, _, e⟩))⟩
end Go.Proofs.Ytcnbccmmhcoanaa
