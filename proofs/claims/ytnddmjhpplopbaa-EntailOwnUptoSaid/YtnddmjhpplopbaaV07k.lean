/- Walks by the abstract machine: tight constraints. Walks by the abstract machine: contradictions, tight lists. Walks by the abstract machine: tight lists. -/
import Derived.Test.YtnddmjhpplopbaaV07h
set_option linter.unusedVariables false
set_option linter.unusedSimpArgs false
set_option maxRecDepth 20000
namespace Go.Proofs.Ytnddmjhpplopbaa
open Go.Abs Go.RowKit

theorem constraint_Tighten_abs {c : Con} (h64 : con64 c) (hs : c.1.2.length ≤ 1000000000) : PCalls Try.prog n_constraint_Tighten [aCon c] (aT (tightS c)) := by
 refine PCalls.of is_constraint_Tighten (by simp) fun _ => runW_sound ?_
 have pv := constraint_Validate_abs c
 have pt := constraint_truth_abs
 obtain ⟨⟨k, l⟩, q⟩ := c
 obtain ⟨hk, h64⟩ := h64
 simp only at hk h64 hs
 simp only [c_constraint_Tighten]
 unfold tightS
 simp only at pv ⊢
 by_cases hok : linOk l
 ·rw [if_pos hok] at pv
  rw [if_neg (not_not_intro hok)]
  cases l with
  | nil =>
   rw [if_pos rfl]
   have pT := pt true
   have pF := pt false
   rw [if_pos rfl] at pT
   rw [if_neg (by decide)] at pF
   clear pt
   replace pT : PCalls Try.prog n_constraint_truth [Go.Abs.B true] (.tup [.agg [.pure (pI 0), .pure (pMonos []), .pure (pB false)], I 1, I 0]) := pT
   replace pF : PCalls Try.prog n_constraint_truth [Go.Abs.B false] (.tup [.agg [.pure (pI (-1)), .pure (pMonos []), .pure (pB false)], I 2, I 0]) := pF
   cases q
   ·by_cases h0 : k = 0
    ·subst h0
     rw [if_pos (.inl rfl)]
     repeat' first | simp (disch := omega) only [go_sem, ↓reduceIte, Nat.reduceEqDiff, reduceCtorEq, Int.reduceEq] | ((with_reducible first | refine condD ?_ ?_ | refine condX ?_ ?_ | refine condW_intro ?_ ?_) <;> intro h <;> first | (exfalso; omega) | simp (disch := omega) only [go_sem, ↓reduceIte, Nat.reduceEqDiff, reduceCtorEq, Int.reduceEq, *] | skip) | (refine callW_of pv rfl (.inl rfl) ?_) | (refine callW_of pT rfl (.inr rfl) ?_) | (refine callW_of pF rfl (.inr rfl) ?_)
     all_goals rfl
    ·by_cases h1 : 0 < k
     ·rw [if_pos (.inr ⟨h1, rfl⟩)]
      repeat' first | simp (disch := omega) only [go_sem, ↓reduceIte, Nat.reduceEqDiff, reduceCtorEq, Int.reduceEq, h0] | ((with_reducible first | refine condD ?_ ?_ | refine condX ?_ ?_ | refine condW_intro ?_ ?_) <;> intro h <;> first | (exfalso; omega) | simp (disch := omega) only [go_sem, ↓reduceIte, Nat.reduceEqDiff, reduceCtorEq, Int.reduceEq, *, h0] | skip) | (refine callW_of pv rfl (.inl rfl) ?_) | (refine callW_of pT rfl (.inr rfl) ?_) | (refine callW_of pF rfl (.inr rfl) ?_)
      all_goals rfl
     ·rw [if_neg (by omega)]
      repeat' first | simp (disch := omega) only [go_sem, ↓reduceIte, Nat.reduceEqDiff, reduceCtorEq, Int.reduceEq, h0] | ((with_reducible first | refine condD ?_ ?_ | refine condX ?_ ?_ | refine condW_intro ?_ ?_) <;> intro h <;> first | (exfalso; omega) | simp (disch := omega) only [go_sem, ↓reduceIte, Nat.reduceEqDiff, reduceCtorEq, Int.reduceEq, *, h0] | skip) | (refine callW_of pv rfl (.inl rfl) ?_) | (refine callW_of pT rfl (.inr rfl) ?_) | (refine callW_of pF rfl (.inr rfl) ?_)
      all_goals rfl
   ·by_cases h0 : k = 0
    ·subst h0
     rw [if_pos (.inl rfl)]
     repeat' first | simp (disch := omega) only [go_sem, ↓reduceIte, Nat.reduceEqDiff, reduceCtorEq, Int.reduceEq] | ((with_reducible first | refine condD ?_ ?_ | refine condX ?_ ?_ | refine condW_intro ?_ ?_) <;> intro h <;> first | (exfalso; omega) | simp (disch := omega) only [go_sem, ↓reduceIte, Nat.reduceEqDiff, reduceCtorEq, Int.reduceEq, *] | skip) | (refine callW_of pv rfl (.inl rfl) ?_) | (refine callW_of pT rfl (.inr rfl) ?_) | (refine callW_of pF rfl (.inr rfl) ?_)
     all_goals rfl
    ·rw [if_neg (by rintro (h | h); exact h0 h; cases h.2)]
     repeat' first | simp (disch := omega) only [go_sem, ↓reduceIte, Nat.reduceEqDiff, reduceCtorEq, Int.reduceEq, h0] | ((with_reducible first | refine condD ?_ ?_ | refine condX ?_ ?_ | refine condW_intro ?_ ?_) <;> intro h <;> first | (exfalso; omega) | simp (disch := omega) only [go_sem, ↓reduceIte, Nat.reduceEqDiff, reduceCtorEq, Int.reduceEq, *, h0] | skip) | (refine callW_of pv rfl (.inl rfl) ?_) | (refine callW_of pT rfl (.inr rfl) ?_) | (refine callW_of pF rfl (.inr rfl) ?_)
     all_goals rfl
  | cons m r =>
   rw [if_neg (by simp)]
   have pF := pt false
   rw [if_neg (by decide)] at pF
   clear pt
   replace pF : PCalls Try.prog n_constraint_truth [Go.Abs.B false] (.tup [.agg [.pure (pI (-1)), .pure (pMonos []), .pure (pB false)], I 2, I 0]) := pF
   have hall := (linOk_iff.1 hok).2
   have hne : (m :: r) ≠ [] := by simp
   have hg := gcdL_pos hne (fun x hx => (hall x hx).2)
   have hg2 := gcdL_le hne (fun x hx => (hall x hx).2) h64
   have pg := constraint_gcd_abs h64
   have pm := constraint_multiple_abs hk hg
   have pd := constraint_divided_abs (k := k) hk h64 (fun x hx => ⟨(hall x hx).2, gcdL_dvdI hx⟩) hg hg2 hs
   have hD64 : ∀ x ∈ divL (gcdL (m :: r)) (m :: r), in64 x.2 := fun x hx => by
    obtain ⟨y, hy, rfl⟩ := List.mem_map.1 hx
    exact div_64 (h64 y hy) hg
   have hK64 := div_64 hk hg
   have hDok := divL_ok hok
   have ps := lin_Scale_abs (a := (k / (gcdL (m :: r) : Int), divL (gcdL (m :: r)) (m :: r))) (b := -1) ⟨hK64, hD64⟩ (by unfold in64; omega) (by unfold short; simp only [divL, List.length_map]; exact hs)
   rw [scaleE, if_neg (not_not_intro hDok), scaleS] at ps
   have hsc : ((-1 : Int) = 0 ∨ scaleOk (k / (gcdL (m :: r) : Int), divL (gcdL (m :: r)) (m :: r)) (-1)) ↔ (in64 (-(k / (gcdL (m :: r) : Int))) ∧ ∀ x ∈ divL (gcdL (m :: r)) (m :: r), in64 (-x.2)) := by
    simp [scaleOk, Int.mul_neg]
   have hsv : scaleV (k / (gcdL (m :: r) : Int), divL (gcdL (m :: r)) (m :: r)) (-1) = (-(k / (gcdL (m :: r) : Int)), (divL (gcdL (m :: r)) (m :: r)).map fun x => (x.1, -x.2)) := by
    simp [scaleV, Int.mul_neg]
   rw [hsv] at ps
   have hfirst : (m.2 / (gcdL (m :: r) : Int) < 0) ↔ ((m :: r).headD (.empty, 0)).2 < 0 := by
    show _ ↔ m.2 < 0
    have := Int.ediv_nonneg_iff_of_pos (a := m.2) (b := (gcdL (m :: r) : Int)) (by omega)
    omega
   have gD : ((divL (gcdL (m :: r)) (m :: r)).map mP)[0]? = some [pS m.1, pI (m.2 / (gcdL (m :: r) : Int))] := rfl
   generalize ((m :: r).headD (.empty, 0)).2 = hd at *
   clear hsv hDok hD64 hK64 hall
   have e0 : ¬ (((m :: r).length : Nat) : Int) = 0 := by simp; omega
   generalize divL (gcdL (m :: r)) (m :: r) = D at *
   generalize m.2 / (gcdL (m :: r) : Int) = x0 at *
   generalize gcdL (m :: r) = g at *
   generalize m.1 = n0 at *
   generalize hL : m :: r = L at *
   clear hL hok h64 hs hne m r
   generalize hnm : k.natAbs % g = M at *
   clear hnm
   generalize k / (g : Int) = K at *
   cases q
   ·rw [if_neg (by simp), if_neg (by simp)]
    clear hfirst hsc
    repeat' first | simp (disch := omega) only [go_sem, ↓reduceIte, Nat.reduceEqDiff, reduceCtorEq, Int.reduceEq, e0] | ((with_reducible first | refine condD ?_ ?_ | refine condX ?_ ?_ | refine condW_intro ?_ ?_) <;> intro h <;> first | (exfalso; omega) | simp (disch := omega) only [go_sem, ↓reduceIte, Nat.reduceEqDiff, reduceCtorEq, Int.reduceEq, *, e0] | skip) | (refine callW_of pv rfl (.inl rfl) ?_) | (refine callW_of pg rfl (.inl rfl) ?_) | (refine callW_of pm rfl (.inl rfl) ?_) | (refine callW_of pF rfl (.inr rfl) ?_) | (refine callW_of pd rfl (.inr rfl) ?_) | (refine callW_of ps rfl (.inr rfl) ?_)
    all_goals rfl
   ·by_cases hM : M = 0
    ·rw [decide_eq_true hM] at pm
     rw [if_neg (by simp [hM])]
     by_cases hx : x0 < 0
     ·rw [if_pos ⟨rfl, hfirst.1 hx⟩]
      by_cases hS : (-1 : Int) = 0 ∨ scaleOk (K, D) (-1)
      ·rw [if_pos hS] at ps
       rw [if_pos (hsc.1 hS)]
       clear hsc hS hfirst
       generalize (D.map fun x => (x.1, -x.2)) = D2 at *
       repeat' first | simp (disch := omega) only [go_sem, ↓reduceIte, Nat.reduceEqDiff, reduceCtorEq, Int.reduceEq, e0, gD, Int.toNat_zero] | ((with_reducible first | refine condD ?_ ?_ | refine condX ?_ ?_ | refine condW_intro ?_ ?_) <;> intro h <;> first | (exfalso; omega) | simp (disch := omega) only [go_sem, ↓reduceIte, Nat.reduceEqDiff, reduceCtorEq, Int.reduceEq, *, e0, gD, Int.toNat_zero] | skip) | (refine callW_of pv rfl (.inl rfl) ?_) | (refine callW_of pg rfl (.inl rfl) ?_) | (refine callW_of pm rfl (.inl rfl) ?_) | (refine callW_of pF rfl (.inr rfl) ?_) | (refine callW_of pd rfl (.inr rfl) ?_) | (refine callW_of ps rfl (.inr rfl) ?_)
       all_goals rfl
      ·rw [if_neg hS] at ps
       rw [if_neg (fun h => hS (hsc.2 h))]
       clear hsc hS hfirst
       repeat' first | simp (disch := omega) only [go_sem, ↓reduceIte, Nat.reduceEqDiff, reduceCtorEq, Int.reduceEq, e0, gD, Int.toNat_zero] | ((with_reducible first | refine condD ?_ ?_ | refine condX ?_ ?_ | refine condW_intro ?_ ?_) <;> intro h <;> first | (exfalso; omega) | simp (disch := omega) only [go_sem, ↓reduceIte, Nat.reduceEqDiff, reduceCtorEq, Int.reduceEq, *, e0, gD, Int.toNat_zero] | skip) | (refine callW_of pv rfl (.inl rfl) ?_) | (refine callW_of pg rfl (.inl rfl) ?_) | (refine callW_of pm rfl (.inl rfl) ?_) | (refine callW_of pF rfl (.inr rfl) ?_) | (refine callW_of pd rfl (.inr rfl) ?_) | (refine callW_of ps rfl (.inr rfl) ?_)
       all_goals rfl
     ·rw [if_neg (fun h => hx (hfirst.2 h.2))]
      clear hsc ps hfirst
      repeat' first | simp (disch := omega) only [go_sem, ↓reduceIte, Nat.reduceEqDiff, reduceCtorEq, Int.reduceEq, e0, gD, Int.toNat_zero] | ((with_reducible first | refine condD ?_ ?_ | refine condX ?_ ?_ | refine condW_intro ?_ ?_) <;> intro h <;> first | (exfalso; omega) | simp (disch := omega) only [go_sem, ↓reduceIte, Nat.reduceEqDiff, reduceCtorEq, Int.reduceEq, *, e0, gD, Int.toNat_zero] | skip) | (refine callW_of pv rfl (.inl rfl) ?_) | (refine callW_of pg rfl (.inl rfl) ?_) | (refine callW_of pm rfl (.inl rfl) ?_) | (refine callW_of pF rfl (.inr rfl) ?_) | (refine callW_of pd rfl (.inr rfl) ?_)
      all_goals rfl
    ·rw [decide_eq_false hM] at pm
     rw [if_pos ⟨rfl, hM⟩]
     clear hsc ps hfirst
     repeat' first | simp (disch := omega) only [go_sem, ↓reduceIte, Nat.reduceEqDiff, reduceCtorEq, Int.reduceEq, e0] | ((with_reducible first | refine condD ?_ ?_ | refine condX ?_ ?_ | refine condW_intro ?_ ?_) <;> intro h <;> first | (exfalso; omega) | simp (disch := omega) only [go_sem, ↓reduceIte, Nat.reduceEqDiff, reduceCtorEq, Int.reduceEq, *, e0] | skip) | (refine callW_of pv rfl (.inl rfl) ?_) | (refine callW_of pg rfl (.inl rfl) ?_) | (refine callW_of pm rfl (.inl rfl) ?_) | (refine callW_of pF rfl (.inr rfl) ?_) | (refine callW_of pd rfl (.inr rfl) ?_)
     all_goals rfl
 ·rw [if_neg hok] at pv
  rw [if_pos hok]
  clear pt
  repeat' first | simp (disch := omega) only [go_sem, ↓reduceIte, Nat.reduceEqDiff, reduceCtorEq, Int.reduceEq] | ((with_reducible first | refine condD ?_ ?_ | refine condX ?_ ?_ | refine condW_intro ?_ ?_) <;> intro h <;> first | (exfalso; omega) | simp (disch := omega) only [go_sem, ↓reduceIte, Nat.reduceEqDiff, reduceCtorEq, Int.reduceEq, *] | skip) | (refine callW_of pv rfl (.inl rfl) ?_)
  all_goals rfl

/-- A constraint without names that nothing satisfies. -/
def conBad (c : Con) : Prop := c.1.2 = [] ∧ (c.1.1 < 0 ∨ (c.2 = true ∧ c.1.1 ≠ 0))
noncomputable instance (c : Con) : Decidable (conBad c) := Classical.propDecidable _
theorem elim_contradictory_abs (c : Con) : PCalls Try.prog n_elim_contradictory [aCon c] (Go.Abs.B (decide (conBad c))) := by
 refine PCalls.of is_elim_contradictory (by simp) fun _ => runW_sound ?_
 obtain ⟨⟨k, l⟩, q⟩ := c
 simp only [c_elim_contradictory]
 cases l with
 | nil =>
  have e : decide (conBad ((k, []), q)) = (decide (k < 0) || (q && decide (k ≠ 0))) := by
   rw [Bool.eq_iff_iff]
   simp [conBad]
  rw [e]
  by_cases h : k < 0
  ·cases q
   ·repeat' first | simp (disch := omega) only [go_sem, ↓reduceIte, Nat.reduceEqDiff, reduceCtorEq, Int.reduceEq] | ((with_reducible first | refine condD ?_ ?_ | refine condX ?_ ?_ | refine condW_intro ?_ ?_) <;> intro h <;> first | (exfalso; omega) | simp (disch := omega) only [go_sem, ↓reduceIte, Nat.reduceEqDiff, reduceCtorEq, Int.reduceEq, *] | skip)
    all_goals simp [h]
   ·repeat' first | simp (disch := omega) only [go_sem, ↓reduceIte, Nat.reduceEqDiff, reduceCtorEq, Int.reduceEq] | ((with_reducible first | refine condD ?_ ?_ | refine condX ?_ ?_ | refine condW_intro ?_ ?_) <;> intro h <;> first | (exfalso; omega) | simp (disch := omega) only [go_sem, ↓reduceIte, Nat.reduceEqDiff, reduceCtorEq, Int.reduceEq, *] | skip)
    all_goals simp [h]
  ·by_cases h0 : k = 0
   ·subst h0
    cases q
    ·repeat' first | simp (disch := omega) only [go_sem, ↓reduceIte, Nat.reduceEqDiff, reduceCtorEq, Int.reduceEq] | ((with_reducible first | refine condD ?_ ?_ | refine condX ?_ ?_ | refine condW_intro ?_ ?_) <;> intro h <;> first | (exfalso; omega) | simp (disch := omega) only [go_sem, ↓reduceIte, Nat.reduceEqDiff, reduceCtorEq, Int.reduceEq, *] | skip)
     all_goals simp
    ·repeat' first | simp (disch := omega) only [go_sem, ↓reduceIte, Nat.reduceEqDiff, reduceCtorEq, Int.reduceEq] | ((with_reducible first | refine condD ?_ ?_ | refine condX ?_ ?_ | refine condW_intro ?_ ?_) <;> intro h <;> first | (exfalso; omega) | simp (disch := omega) only [go_sem, ↓reduceIte, Nat.reduceEqDiff, reduceCtorEq, Int.reduceEq, *] | skip)
     all_goals simp
   ·cases q
    ·repeat' first | simp (disch := omega) only [go_sem, ↓reduceIte, Nat.reduceEqDiff, reduceCtorEq, Int.reduceEq, h0] | ((with_reducible first | refine condD ?_ ?_ | refine condX ?_ ?_ | refine condW_intro ?_ ?_) <;> intro h <;> first | (exfalso; omega) | simp (disch := omega) only [go_sem, ↓reduceIte, Nat.reduceEqDiff, reduceCtorEq, Int.reduceEq, *, h0] | skip)
     all_goals simp [h, h0]
    ·repeat' first | simp (disch := omega) only [go_sem, ↓reduceIte, Nat.reduceEqDiff, reduceCtorEq, Int.reduceEq, h0] | ((with_reducible first | refine condD ?_ ?_ | refine condX ?_ ?_ | refine condW_intro ?_ ?_) <;> intro h <;> first | (exfalso; omega) | simp (disch := omega) only [go_sem, ↓reduceIte, Nat.reduceEqDiff, reduceCtorEq, Int.reduceEq, *, h0] | skip)
     all_goals simp [h, h0]
 | cons m r =>
  have e : decide (conBad ((k, m :: r), q)) = false := decide_eq_false fun h => by cases h.1
  rw [e]
  have e0 : ¬ (((m :: r).length : Nat) : Int) = 0 := by simp; omega
  generalize m :: r = L at *
  repeat' first | simp (disch := omega) only [go_sem, ↓reduceIte, Nat.reduceEqDiff, reduceCtorEq, Int.reduceEq, e0] | ((with_reducible first | refine condD ?_ ?_ | refine condX ?_ ?_ | refine condW_intro ?_ ?_) <;> intro h <;> first | (exfalso; omega) | simp (disch := omega) only [go_sem, ↓reduceIte, Nat.reduceEqDiff, reduceCtorEq, Int.reduceEq, *, e0] | skip)
theorem ref07_Contradictory_abs (c : Con) : PCalls Try.prog n_ref07_Contradictory [aCon c] (Go.Abs.B (decide (conBad c))) := by
 refine PCalls.of is_ref07_Contradictory (by simp) fun _ => runW_sound ?_
 obtain ⟨⟨k, l⟩, q⟩ := c
 simp only [c_ref07_Contradictory]
 cases l with
 | nil =>
  have e : decide (conBad ((k, []), q)) = (decide (k < 0) || (q && decide (k ≠ 0))) := by
   rw [Bool.eq_iff_iff]
   simp [conBad]
  rw [e]
  by_cases h : k < 0
  ·cases q
   ·repeat' first | simp (disch := omega) only [go_sem, ↓reduceIte, Nat.reduceEqDiff, reduceCtorEq, Int.reduceEq] | ((with_reducible first | refine condD ?_ ?_ | refine condX ?_ ?_ | refine condW_intro ?_ ?_) <;> intro h <;> first | (exfalso; omega) | simp (disch := omega) only [go_sem, ↓reduceIte, Nat.reduceEqDiff, reduceCtorEq, Int.reduceEq, *] | skip)
    all_goals simp [h]
   ·repeat' first | simp (disch := omega) only [go_sem, ↓reduceIte, Nat.reduceEqDiff, reduceCtorEq, Int.reduceEq] | ((with_reducible first | refine condD ?_ ?_ | refine condX ?_ ?_ | refine condW_intro ?_ ?_) <;> intro h <;> first | (exfalso; omega) | simp (disch := omega) only [go_sem, ↓reduceIte, Nat.reduceEqDiff, reduceCtorEq, Int.reduceEq, *] | skip)
    all_goals simp [h]
  ·by_cases h0 : k = 0
   ·subst h0
    cases q
    ·repeat' first | simp (disch := omega) only [go_sem, ↓reduceIte, Nat.reduceEqDiff, reduceCtorEq, Int.reduceEq] | ((with_reducible first | refine condD ?_ ?_ | refine condX ?_ ?_ | refine condW_intro ?_ ?_) <;> intro h <;> first | (exfalso; omega) | simp (disch := omega) only [go_sem, ↓reduceIte, Nat.reduceEqDiff, reduceCtorEq, Int.reduceEq, *] | skip)
     all_goals simp
    ·repeat' first | simp (disch := omega) only [go_sem, ↓reduceIte, Nat.reduceEqDiff, reduceCtorEq, Int.reduceEq] | ((with_reducible first | refine condD ?_ ?_ | refine condX ?_ ?_ | refine condW_intro ?_ ?_) <;> intro h <;> first | (exfalso; omega) | simp (disch := omega) only [go_sem, ↓reduceIte, Nat.reduceEqDiff, reduceCtorEq, Int.reduceEq, *] | skip)
     all_goals simp
   ·cases q
    ·repeat' first | simp (disch := omega) only [go_sem, ↓reduceIte, Nat.reduceEqDiff, reduceCtorEq, Int.reduceEq, h0] | ((with_reducible first | refine condD ?_ ?_ | refine condX ?_ ?_ | refine condW_intro ?_ ?_) <;> intro h <;> first | (exfalso; omega) | simp (disch := omega) only [go_sem, ↓reduceIte, Nat.reduceEqDiff, reduceCtorEq, Int.reduceEq, *, h0] | skip)
     all_goals simp [h, h0]
    ·repeat' first | simp (disch := omega) only [go_sem, ↓reduceIte, Nat.reduceEqDiff, reduceCtorEq, Int.reduceEq, h0] | ((with_reducible first | refine condD ?_ ?_ | refine condX ?_ ?_ | refine condW_intro ?_ ?_) <;> intro h <;> first | (exfalso; omega) | simp (disch := omega) only [go_sem, ↓reduceIte, Nat.reduceEqDiff, reduceCtorEq, Int.reduceEq, *, h0] | skip)
     all_goals simp [h, h0]
 | cons m r =>
  have e : decide (conBad ((k, m :: r), q)) = false := decide_eq_false fun h => by cases h.1
  rw [e]
  have e0 : ¬ (((m :: r).length : Nat) : Int) = 0 := by simp; omega
  generalize m :: r = L at *
  repeat' first | simp (disch := omega) only [go_sem, ↓reduceIte, Nat.reduceEqDiff, reduceCtorEq, Int.reduceEq, e0] | ((with_reducible first | refine condD ?_ ?_ | refine condX ?_ ?_ | refine condW_intro ?_ ?_) <;> intro h <;> first | (exfalso; omega) | simp (disch := omega) only [go_sem, ↓reduceIte, Nat.reduceEqDiff, reduceCtorEq, Int.reduceEq, *, e0] | skip)

/-- Tight constraints, one after the other. -/
noncomputable def tightG (acc : List Con) : List Con → List Con × Int
 | [] => (acc, 0)
 | c :: r => if (tightS c).2.2 ≠ 0 then ([], (tightS c).2.2) else tightG (acc ++ [(tightS c).1]) r
noncomputable def tightL (l : List Con) : List Con × Int := if 256 < l.length then ([], 2) else tightG [] l
abbrev aConsE (x : List Con × Int) : AV := .tup [aCons x.1, I x.2]
theorem elim_tighten_abs {l : List Con} (h64 : ∀ c ∈ l, con64 c) (hs : ∀ c ∈ l, c.1.2.length ≤ 1000000000) : PCalls Try.prog n_elim_tighten [aCons l] (aConsE (tightL l)) := by
 refine PCalls.of is_elim_tighten (by simp) fun _ => runW_sound ?_
 simp only [c_elim_tighten]
 unfold tightL
 by_cases hl : 256 < l.length
 ·rw [if_pos hl]
  repeat' first | simp (disch := omega) only [go_sem, ↓reduceIte, Nat.reduceEqDiff, reduceCtorEq, Int.reduceEq] | ((with_reducible first | refine condD ?_ ?_ | refine condX ?_ ?_ | refine condW_intro ?_ ?_) <;> intro h <;> first | (exfalso; omega) | simp (disch := omega) only [go_sem, ↓reduceIte, Nat.reduceEqDiff, reduceCtorEq, Int.reduceEq, *] | skip)
  all_goals rfl
 ·rw [if_neg hl]
  obtain ⟨R, hR⟩ : ∃ R, R = tightG [] (l.drop 0) := ⟨_, rfl⟩
  have hR0 : tightG [] l = R := hR.symm
  rw [hR0]
  have HR := Lib.hid hR
  clear hR hR0
  repeat' first | simp (disch := omega) only [go_sem, ↓reduceIte, Nat.reduceEqDiff, reduceCtorEq, Int.reduceEq] | ((with_reducible first | refine condD ?_ ?_ | refine condX ?_ ?_ | refine condW_intro ?_ ?_) <;> intro h <;> first | (exfalso; omega) | simp (disch := omega) only [go_sem, ↓reduceIte, Nat.reduceEqDiff, reduceCtorEq, Int.reduceEq, *] | skip)
  refine AW_adopt 4 36 3 rfl (by decide) ?_
  refine AW_loop (fun s : Nat × List Con => ⟨[(4, .c (.ref 0)), (13, aCons l), (14, I l.length), (15, I s.1)], [(0, .arr 36 3 (s.2.map cP))], 1, 0⟩) (fun s => s.1 ≤ l.length ∧ s.2.length ≤ s.1 ∧ Hid (R = tightG s.2 (l.drop s.1))) (fun s => l.length - s.1) ⟨(0, []), [], ⟨Nat.zero_le _, Nat.le_refl _, HR⟩, by simp [Wk, wkF, wkM, wkL, look_cons, renV, renA, renC, renB, rn, clV, clA, clAs, clB, notIn, findB, findB_setB, clA.go]⟩ ?_
  clear HR
  rintro ⟨j, acc⟩ ⟨hj, hacc, HR⟩
  refine runW_sound ?_
  simp only at hj hacc HR
  by_cases hlt : j < l.length
  ·have g1 := map_get (f := cP) hlt
   have pT := constraint_Tighten_abs (h64 _ (List.getElem_mem hlt)) (hs _ (List.getElem_mem hlt))
   have h2 := HR.out
   rw [List.drop_eq_getElem_cons hlt, tightG] at h2
   clear HR
   generalize tightS l[j] = T at *
   generalize l[j] = c at *
   obtain ⟨⟨ck, cl⟩, q⟩ := c
   obtain ⟨⟨⟨tk, tl⟩, tq⟩, tt, te⟩ := T
   simp only [cP] at g1
   simp only at h2
   by_cases he : te = 0
   ·subst he
    rw [if_neg (by simp)] at h2
    have HR := Lib.hid h2
    clear h2
    repeat' first | simp (disch := omega) only [go_sem, ↓reduceIte, Nat.reduceEqDiff, reduceCtorEq, Int.reduceEq, g1, wrap_i64] | ((with_reducible first | refine condD ?_ ?_ | refine condX ?_ ?_ | refine condW_intro ?_ ?_) <;> intro h <;> first | (exfalso; omega) | simp (disch := omega) only [go_sem, ↓reduceIte, Nat.reduceEqDiff, reduceCtorEq, Int.reduceEq, *, g1, wrap_i64] | skip) | (refine callW_of pT rfl (.inr rfl) ?_) | (refine app_own rfl (by intro h; cases h) (rowsOk_one rfl) (by simp; omega) (by simp; omega) ?_)
    exact ⟨(j + 1, acc ++ [((tk, tl), tq)]), [(0, 3)], ⟨hlt, by simp; omega, HR⟩, by show _ - _ < _ - _; omega, by simp [Wk, wkF, wkM, wkL, look_cons, renV, renA, renC, renB, rn, clV, clA, clAs, clB, notIn, findB, findB_setB, clA.go, cP]⟩
   ·rw [if_pos he] at h2
    subst h2
    repeat' first | simp (disch := omega) only [go_sem, ↓reduceIte, Nat.reduceEqDiff, reduceCtorEq, Int.reduceEq, g1, he, wrap_i64] | ((with_reducible first | refine condD ?_ ?_ | refine condX ?_ ?_ | refine condW_intro ?_ ?_) <;> intro h <;> first | (exfalso; omega) | simp (disch := omega) only [go_sem, ↓reduceIte, Nat.reduceEqDiff, reduceCtorEq, Int.reduceEq, *, g1, he, wrap_i64] | skip) | (refine callW_of pT rfl (.inr rfl) ?_)
    all_goals rfl
  ·have h2 := HR.out
   rw [List.drop_eq_nil_of_le (by omega), tightG] at h2
   clear HR
   subst h2
   repeat' first | simp (disch := omega) only [go_sem, ↓reduceIte, Nat.reduceEqDiff, reduceCtorEq, Int.reduceEq] | ((with_reducible first | refine condD ?_ ?_ | refine condX ?_ ?_ | refine condW_intro ?_ ?_) <;> intro h <;> first | (exfalso; omega) | simp (disch := omega) only [go_sem, ↓reduceIte, Nat.reduceEqDiff, reduceCtorEq, Int.reduceEq, *] | skip)
   all_goals rfl
end Go.Proofs.Ytnddmjhpplopbaa
