/- What a law's inputs are: from the shape of a row's input to plain data. -/
import Derived.Test.YtehjbfljenpfoaaV00
set_option linter.unusedVariables false
set_option linter.unusedSimpArgs false
namespace Go.Proofs.Ytehjbfljenpfoaa
open Go.Abs Go.RowKit

theorem okInt {p : PC} (h : OkP (.int .i64) p) : ∃ n, p = pI n ∧ in64 n := by
 cases h with
 | @int _ n h =>
  refine ⟨n, rfl, ?_⟩
  simp only [Lit.wf, Bool.and_eq_true, decide_eq_true_eq] at h
  exact h
theorem okStr {p : PC} (h : OkP .str p) : ∃ s, p = pS s ∧ s.size ≤ maxLen := by
 cases h with
 | @str s h => exact ⟨s, rfl, h⟩
theorem okBool {p : PC} (h : OkP .bool p) : ∃ b, p = pB b := by
 cases h with
 | @bool b => exact ⟨b, rfl⟩
theorem okRows {α : Type} {l : List TS} (f : α → List PC) (Q : α → Prop) (hrow : ∀ r, OkPs l r → ∃ x, r = f x ∧ Q x) {p : PC} (h : OkP (.slice l) p) : ∃ xs : List α, p = pSl f xs ∧ (∀ x ∈ xs, Q x) ∧ xs.length ≤ maxLen := by
 cases h with
 | @slice _ rows hm hl h =>
  have key : ∀ rs : List (List PC), (∀ r ∈ rs, OkPs l r) → ∃ xs : List α, rs = xs.map f ∧ ∀ x ∈ xs, Q x := by
   intro rs
   induction rs with
   | nil => intro _; exact ⟨[], rfl, by simp⟩
   | cons r rs ih =>
    intro hr
    obtain ⟨x, hx, hq⟩ := hrow r (hr r List.mem_cons_self)
    obtain ⟨xs, hxs, hqs⟩ := ih fun r h => hr r (List.mem_cons_of_mem _ h)
    refine ⟨x :: xs, by rw [hx, hxs]; rfl, fun y hy => ?_⟩
    rcases List.mem_cons.1 hy with rfl | hy
    ·exact hq
    ·exact hqs y hy
  obtain ⟨xs, hxs, hq⟩ := key rows fun r hr => ⟨hl r hr, h r hr⟩
  refine ⟨xs, by rw [hxs], hq, by rw [hxs] at hm; simpa using hm⟩
theorem okOne {s : TS} {ps : List PC} (h : OkPs [s] ps) : ∃ p, ps = [p] ∧ OkP s p := by
 obtain ⟨h1, h2⟩ := h
 match ps with
 | [p] => exact ⟨p, rfl, h2 0 s p rfl rfl⟩
 | [] => simp at h1
 | _ :: _ :: _ => simp at h1
theorem okCons {s : TS} {l : List TS} {ps : List PC} (h : OkPs (s :: l) ps) : ∃ p r, ps = p :: r ∧ OkP s p ∧ OkPs l r := by
 obtain ⟨h1, h2⟩ := h
 match ps with
 | p :: r => exact ⟨p, r, rfl, h2 0 s p rfl rfl, by simpa using h1, fun i s p hi hp => h2 (i + 1) s p (by simpa using hi) (by simpa using hp)⟩
 | [] => simp at h1
theorem okNil {ps : List PC} (h : OkPs [] ps) : ps = [] := List.eq_nil_of_length_eq_zero h.1
theorem okInts {p : PC} (h : OkP (.slice [.int .i64]) p) : ∃ xs, p = pInts xs ∧ (∀ x ∈ xs, in64 x) ∧ xs.length ≤ maxLen :=
 okRows (fun n => [pI n]) in64 (fun r hr => by
  obtain ⟨p, rfl, hp⟩ := okOne hr
  obtain ⟨n, rfl, hn⟩ := okInt hp
  exact ⟨n, rfl, hn⟩) h
theorem okStrs {p : PC} (h : OkP (.slice [.str]) p) : ∃ xs : List ByteArray, p = pSl (fun s => [pS s]) xs ∧ xs.length ≤ maxLen := by
 obtain ⟨xs, h1, _, h2⟩ := okRows (fun s : ByteArray => [pS s]) (fun _ => True) (fun r hr => by
  obtain ⟨p, rfl, hp⟩ := okOne hr
  obtain ⟨n, rfl, hn⟩ := okStr hp
  exact ⟨n, rfl, trivial⟩) h
 exact ⟨xs, h1, h2⟩
end Go.Proofs.Ytehjbfljenpfoaa
