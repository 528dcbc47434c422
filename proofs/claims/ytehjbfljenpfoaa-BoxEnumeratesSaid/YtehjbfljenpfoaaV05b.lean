/- Walks by the abstract machine: identifiers, forms. -/
import Derived.Test.YtehjbfljenpfoaaV05a
set_option linter.unusedVariables false
set_option linter.unusedSimpArgs false
set_option maxRecDepth 20000
namespace Go.Proofs.Ytehjbfljenpfoaa
open Go.Abs Go.RowKit

def chOk (i : Nat) (c : UInt8) : Prop := (97 ≤ c.toNat ∧ c.toNat ≤ 122) ∨ (0 < i ∧ ((48 ≤ c.toNat ∧ c.toNat ≤ 57) ∨ c.toNat = 95))
instance (i : Nat) (c : UInt8) : Decidable (chOk i c) := by unfold chOk; infer_instance
def idOk (s : ByteArray) : Prop := 1 ≤ s.size ∧ s.size ≤ 16 ∧ ¬ s ∈ words ∧ ∀ i (h : i < s.size), chOk i s[i]
noncomputable instance (s : ByteArray) : Decidable (idOk s) := Classical.propDecidable _

theorem lin_identifier_abs (s : ByteArray) : PCalls Try.prog n_lin_identifier [S s] (Go.Abs.B (decide (idOk s))) := by
 refine PCalls.of is_lin_identifier (by simp) fun hb => runW_sound ?_
 simp only [c_lin_identifier]
 by_cases h0 : s.size < 1
 ·repeat' first | simp (disch := omega) only [go_sem, *] | ((with_reducible apply condT) <;> intro h <;> try omega)
  rw [decide_eq_false]; rintro ⟨h1, _⟩; omega
 have hpos : 0 < s.size := by omega
 repeat' first | simp (disch := omega) only [go_sem, *, getElem?_pos s 0 hpos, Int.toNat_zero] | ((with_reducible apply condT) <;> intro h <;> try omega) | (refine w_L (lin_reserved_abs _) rfl rfl ?_)
 ·rw [decide_eq_false]; rintro ⟨_, h1, _⟩; omega
 ·rw [decide_eq_false]; rintro ⟨_, _, h1, _⟩; exact h1 h
 ·rw [decide_eq_false]; rintro ⟨_, _, _, h4⟩; have := h4 0 hpos; unfold chOk at this; omega
 ·rw [decide_eq_false]; rintro ⟨_, _, _, h4⟩; have := h4 0 hpos; unfold chOk at this; omega
 ·refine AW_loop (fun k : Nat => ⟨[(29, I k), (28, I s.size), (0, S s)], [], 0, 0⟩) (fun k => k ≤ s.size ∧ upTo (fun j => ∀ h : j < s.size, chOk (j + 1) s[j]) k) (fun k => s.size - k) ⟨0, [], ⟨by omega, .zero⟩, by simp⟩ ?_
  rintro k ⟨hk, hall⟩
  refine runW_sound ?_
  by_cases hlt : k < s.size
  ·repeat' first | simp (disch := omega) only [go_sem, *, getElem?_pos s k hlt, wrap_i64] | ((with_reducible apply condT) <;> intro h <;> try omega)
   all_goals first
    | (refine ⟨k + 1, [], ⟨by omega, hall.succ fun _ => ?_⟩, by omega, by simp⟩; unfold chOk; omega)
    | (rw [decide_eq_false]; rintro ⟨_, _, _, h4⟩; have := h4 k hlt; unfold chOk at this; omega)
  ·repeat' first | simp (disch := omega) only [go_sem, *] | ((with_reducible apply condT) <;> intro h <;> try omega)
   rw [decide_eq_true]
   refine ⟨by omega, by omega, ‹_›, fun i hi => ?_⟩
   have h5 := hall i (by omega) hi
   by_cases e : i = 0
   ·subst e; unfold chOk; omega
   ·unfold chOk at h5 ⊢; omega


abbrev Mono := ByteArray × Int
def mP (m : Mono) : List PC := [pS m.1, pI m.2]
abbrev pMonos (l : List Mono) : PC := pSl mP l
abbrev Lin := Int × List Mono
abbrev Con := Lin × Bool
abbrev aLin (k : Int) (l : List Mono) : AV := .agg [.pure (pI k), .pure (pMonos l)]
def sless (a b : ByteArray) : Bool := Op.bytesLess a.toList b.toList
def monoOk (l : List Mono) (i : Nat) : Prop := ∀ h : i < l.length, idOk l[i].1 ∧ l[i].2 ≠ 0 ∧ (0 < i → sless l[i - 1].1 l[i].1 = true)
def linOk (l : List Mono) : Prop := upTo (monoOk l) l.length
noncomputable instance (l : List Mono) : Decidable (linOk l) := Classical.propDecidable _

theorem bnd_lin {k : Int} {l : List Mono} (h : bndV (aLin k l)) : l.length ≤ 9223372036854775807 := by simpa [bndV, bndAs, bndA] using h

set_option maxRecDepth 20000 in
theorem lin_Validate_abs (c : Int) (l : List Mono) : PCalls Try.prog n_lin_Validate [aLin c l] (I (if linOk l then 0 else 1)) := by
 refine PCalls.of is_lin_Validate (by simp) fun hb => runW_sound ?_
 have hl := bnd_lin hb.1
 simp only [c_lin_Validate]
 repeat' first | simp (disch := omega) only [go_sem, *, List.drop_succ_cons, List.drop_zero] | ((with_reducible apply condT) <;> intro h <;> try omega)
 refine AW_loop (fun k : Nat => ⟨[(8, I k), (7, I l.length), (6, .c (.pure (pMonos l))), (1, .c (.ptr 0 0))], [(0, .var [.pure (pI c), .pure (pMonos l)])], 1, 0⟩) (fun k => k ≤ l.length ∧ upTo (monoOk l) k) (fun k => l.length - k) ⟨0, [], ⟨by omega, .zero⟩, by simp⟩ ?_
 rintro k ⟨hk, hall⟩
 refine runW_sound ?_
 by_cases hlt : k < l.length
 ·by_cases h0 : 0 < k
  ·have hl1 : k - 1 < l.length := by omega
   have e1 : ((k : Int) - 1).toNat = k - 1 := by omega
   repeat' first | simp (disch := omega) only [go_sem, *, List.drop_succ_cons, List.drop_zero, List.take_succ_cons, List.take_zero, map_get hlt, map_get hl1, mP, wrap_i64, e1] | ((with_reducible apply condT) <;> intro h <;> try omega) | (refine w_L (lin_identifier_abs _) rfl rfl ?_)
   ·rw [if_neg fun hc => (hc k hlt hlt).2.1 h]
   ·refine ⟨k + 1, [], ⟨by omega, hall.succ fun _ => ⟨‹_›, ‹_›, fun _ => h⟩⟩, by omega, by simp⟩
   ·rw [if_neg fun hc => ?_]
    have := (hc k hlt hlt).2.2 h0
    rw [sless, h] at this
    cases this
   ·rw [if_neg fun hc => h (hc k hlt hlt).1]
  ·repeat' first | simp (disch := omega) only [go_sem, *, map_get hlt, mP, wrap_i64] | ((with_reducible apply condT) <;> intro h <;> try omega) | (refine w_L (lin_identifier_abs _) rfl rfl ?_)
   ·rw [if_neg fun hc => (hc k hlt hlt).2.1 h]
   ·refine ⟨k + 1, [], ⟨by omega, hall.succ fun _ => ⟨‹_›, ‹_›, fun _ => by omega⟩⟩, by omega, by simp⟩
   ·rw [if_neg fun hc => h (hc k hlt hlt).1]
 ·repeat' first | simp (disch := omega) only [go_sem, *] | ((with_reducible apply condT) <;> intro h <;> try omega)
  rw [if_pos]
  have : k = l.length := by omega
  rw [this] at hall
  exact hall
end Go.Proofs.Ytehjbfljenpfoaa
