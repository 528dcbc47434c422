/- Walks by the abstract machine: tight constraints. -/
import Derived.Test.YtkdgmbakhkdegaaV07j
set_option linter.unusedVariables false
set_option linter.unusedSimpArgs false
set_option maxRecDepth 20000
namespace Go.Proofs.Ytkdgmbakhkdegaa
open Go.Abs Go.RowKit

theorem constraint_Tighten_abs {c : Con} (h64 : con64 c) (hs : c.1.2.length ≤ 1000000000) : PCalls Try.prog n_constraint_Tighten [aCon c] (aT (tightS c)) := by
 refine PCalls.of is_constraint_Tighten (by simp) fun _ => runW_sound ?_
 have pv := constraint_Validate_abs c
 have pt := constraint_truth_abs
 obtain ⟨⟨k, l⟩, q⟩ := c
 obtain ⟨hk, h64⟩ := h64
 simp only at hk h64 hs
 simp only [c_constraint_Tighten]
 unfold tightS
 simp only at pv ⊢
 by_cases hok : linOk l
 ·rw [if_pos hok] at pv
  rw [if_neg (not_not_intro hok)]
  cases l with
  | nil =>
   rw [if_pos rfl]
   have pT := pt true
   have pF := pt false
   rw [if_pos rfl] at pT
   rw [if_neg (by decide)] at pF
   clear pt
   replace pT : PCalls Try.prog n_constraint_truth [Go.Abs.B true] (.tup [.agg [.pure (pI 0), .pure (pMonos []), .pure (pB false)], I 1, I 0]) := pT
   replace pF : PCalls Try.prog n_constraint_truth [Go.Abs.B false] (.tup [.agg [.pure (pI (-1)), .pure (pMonos []), .pure (pB false)], I 2, I 0]) := pF
   cases q
   ·by_cases h0 : k = 0
    ·subst h0
     rw [if_pos (.inl rfl)]
     repeat' first | simp (disch := omega) only [go_sem, ↓reduceIte, Nat.reduceEqDiff, reduceCtorEq, Int.reduceEq] | ((with_reducible first | refine condD ?_ ?_ | refine condX ?_ ?_ | refine condW_intro ?_ ?_) <;> intro h <;> first | (exfalso; omega) | simp (disch := omega) only [go_sem, ↓reduceIte, Nat.reduceEqDiff, reduceCtorEq, Int.reduceEq, *] | skip) | (refine callW_of pv rfl (.inl rfl) ?_) | (refine callW_of pT rfl (.inr rfl) ?_) | (refine callW_of pF rfl (.inr rfl) ?_)
     all_goals rfl
    ·by_cases h1 : 0 < k
     ·rw [if_pos (.inr ⟨h1, rfl⟩)]
      repeat' first | simp (disch := omega) only [go_sem, ↓reduceIte, Nat.reduceEqDiff, reduceCtorEq, Int.reduceEq, h0] | ((with_reducible first | refine condD ?_ ?_ | refine condX ?_ ?_ | refine condW_intro ?_ ?_) <;> intro h <;> first | (exfalso; omega) | simp (disch := omega) only [go_sem, ↓reduceIte, Nat.reduceEqDiff, reduceCtorEq, Int.reduceEq, *, h0] | skip) | (refine callW_of pv rfl (.inl rfl) ?_) | (refine callW_of pT rfl (.inr rfl) ?_) | (refine callW_of pF rfl (.inr rfl) ?_)
      all_goals rfl
     ·rw [if_neg (by omega)]
      repeat' first | simp (disch := omega) only [go_sem, ↓reduceIte, Nat.reduceEqDiff, reduceCtorEq, Int.reduceEq, h0] | ((with_reducible first | refine condD ?_ ?_ | refine condX ?_ ?_ | refine condW_intro ?_ ?_) <;> intro h <;> first | (exfalso; omega) | simp (disch := omega) only [go_sem, ↓reduceIte, Nat.reduceEqDiff, reduceCtorEq, Int.reduceEq, *, h0] | skip) | (refine callW_of pv rfl (.inl rfl) ?_) | (refine callW_of pT rfl (.inr rfl) ?_) | (refine callW_of pF rfl (.inr rfl) ?_)
      all_goals rfl
   ·by_cases h0 : k = 0
    ·subst h0
     rw [if_pos (.inl rfl)]
     repeat' first | simp (disch := omega) only [go_sem, ↓reduceIte, Nat.reduceEqDiff, reduceCtorEq, Int.reduceEq] | ((with_reducible first | refine condD ?_ ?_ | refine condX ?_ ?_ | refine condW_intro ?_ ?_) <;> intro h <;> first | (exfalso; omega) | simp (disch := omega) only [go_sem, ↓reduceIte, Nat.reduceEqDiff, reduceCtorEq, Int.reduceEq, *] | skip) | (refine callW_of pv rfl (.inl rfl) ?_) | (refine callW_of pT rfl (.inr rfl) ?_) | (refine callW_of pF rfl (.inr rfl) ?_)
     all_goals rfl
    ·rw [if_neg (by rintro (h | h); exact h0 h; cases h.2)]
     repeat' first | simp (disch := omega) only [go_sem, ↓reduceIte, Nat.reduceEqDiff, reduceCtorEq, Int.reduceEq, h0] | ((with_reducible first | refine condD ?_ ?_ | refine condX ?_ ?_ | refine condW_intro ?_ ?_) <;> intro h <;> first | (exfalso; omega) | simp (disch := omega) only [go_sem, ↓reduceIte, Nat.reduceEqDiff, reduceCtorEq, Int.reduceEq, *, h0] | skip) | (refine callW_of pv rfl (.inl rfl) ?_) | (refine callW_of pT rfl (.inr rfl) ?_) | (refine callW_of pF rfl (.inr rfl) ?_)
     all_goals rfl
  | cons m r =>
   rw [if_neg (by simp)]
   have pF := pt false
   rw [if_neg (by decide)] at pF
   clear pt
   replace pF : PCalls Try.prog n_constraint_truth [Go.Abs.B false] (.tup [.agg [.pure (pI (-1)), .pure (pMonos []), .pure (pB false)], I 2, I 0]) := pF
   have hall := (linOk_iff.1 hok).2
   have hne : (m :: r) ≠ [] := by simp
   have hg := gcdL_pos hne (fun x hx => (hall x hx).2)
   have hg2 := gcdL_le hne (fun x hx => (hall x hx).2) h64
   have pg := constraint_gcd_abs h64
   have pm := constraint_multiple_abs hk hg
   have pd := constraint_divided_abs (k := k) hk h64 (fun x hx => ⟨(hall x hx).2, gcdL_dvdI hx⟩) hg hg2 hs
   have hD64 : ∀ x ∈ divL (gcdL (m :: r)) (m :: r), in64 x.2 := fun x hx => by
    obtain ⟨y, hy, rfl⟩ := List.mem_map.1 hx
    exact div_64 (h64 y hy) hg
   have hK64 := div_64 hk hg
   have hDok := divL_ok hok
   have ps := lin_Scale_abs (a := (k / (gcdL (m :: r) : Int), divL (gcdL (m :: r)) (m :: r))) (b := -1) ⟨hK64, hD64⟩ (by unfold in64; omega) (by unfold short; simp only [divL, List.length_map]; exact hs)
   rw [scaleE, if_neg (not_not_intro hDok), scaleS] at ps
   have hsc : ((-1 : Int) = 0 ∨ scaleOk (k / (gcdL (m :: r) : Int), divL (gcdL (m :: r)) (m :: r)) (-1)) ↔ (in64 (-(k / (gcdL (m :: r) : Int))) ∧ ∀ x ∈ divL (gcdL (m :: r)) (m :: r), in64 (-x.2)) := by
    simp [scaleOk, Int.mul_neg]
   have hsv : scaleV (k / (gcdL (m :: r) : Int), divL (gcdL (m :: r)) (m :: r)) (-1) = (-(k / (gcdL (m :: r) : Int)), (divL (gcdL (m :: r)) (m :: r)).map fun x => (x.1, -x.2)) := by
    simp [scaleV, Int.mul_neg]
   rw [hsv] at ps
   have hfirst : (m.2 / (gcdL (m :: r) : Int) < 0) ↔ ((m :: r).headD (.empty, 0)).2 < 0 := by
    show _ ↔ m.2 < 0
    have := Int.ediv_nonneg_iff_of_pos (a := m.2) (b := (gcdL (m :: r) : Int)) (by omega)
    omega
   have gD : ((divL (gcdL (m :: r)) (m :: r)).map mP)[0]? = some [pS m.1, pI (m.2 / (gcdL (m :: r) : Int))] := rfl
   generalize ((m :: r).headD (.empty, 0)).2 = hd at *
   clear hsv hDok hD64 hK64 hall
   have e0 : ¬ (((m :: r).length : Nat) : Int) = 0 := by simp; omega
   generalize divL (gcdL (m :: r)) (m :: r) = D at *
   generalize m.2 / (gcdL (m :: r) : Int) = x0 at *
   generalize gcdL (m :: r) = g at *
   generalize m.1 = n0 at *
   generalize hL : m :: r = L at *
   clear hL hok h64 hs hne m r
   generalize hnm : k.natAbs % g = M at *
   clear hnm
   generalize k / (g : Int) = K at *
   cases q
   ·rw [if_neg (by simp), if_neg (by simp)]
    clear hfirst hsc
    repeat' first | simp (disch := omega) only [go_sem, ↓reduceIte, Nat.reduceEqDiff, reduceCtorEq, Int.reduceEq, e0] | ((with_reducible first | refine condD ?_ ?_ | refine condX ?_ ?_ | refine condW_intro ?_ ?_) <;> intro h <;> first | (exfalso; omega) | simp (disch := omega) only [go_sem, ↓reduceIte, Nat.reduceEqDiff, reduceCtorEq, Int.reduceEq, *, e0] | skip) | (refine callW_of pv rfl (.inl rfl) ?_) | (refine callW_of pg rfl (.inl rfl) ?_) | (refine callW_of pm rfl (.inl rfl) ?_) | (refine callW_of pF rfl (.inr rfl) ?_) | (refine callW_of pd rfl (.inr rfl) ?_) | (refine callW_of ps rfl (.inr rfl) ?_)
    all_goals rfl
   ·by_cases hM : M = 0
    ·rw [decide_eq_true hM] at pm
     rw [if_neg (by simp [hM])]
     by_cases hx : x0 < 0
     ·rw [if_pos ⟨rfl, hfirst.1 hx⟩]
      by_cases hS : (-1 : Int) = 0 ∨ scaleOk (K, D) (-1)
      ·rw [if_pos hS] at ps
       rw [if_pos (hsc.1 hS)]
       clear hsc hS hfirst
       generalize (D.map fun x => (x.1, -x.2)) = D2 at *
       repeat' first | simp (disch := omega) only [go_sem, ↓reduceIte, Nat.reduceEqDiff, reduceCtorEq, Int.reduceEq, e0, gD, Int.toNat_zero] | ((with_reducible first | refine condD ?_ ?_ | refine condX ?_ ?_ | refine condW_intro ?_ ?_) <;> intro h <;> first | (exfalso; omega) | simp (disch := omega) only [go_sem, ↓reduceIte, Nat.reduceEqDiff, reduceCtorEq, Int.reduceEq, *, e0, gD, Int.toNat_zero] | skip) | (refine callW_of pv rfl (.inl rfl) ?_) | (refine callW_of pg rfl (.inl rfl) ?_) | (refine callW_of pm rfl (.inl rfl) ?_) | (refine callW_of pF rfl (.inr rfl) ?_) | (refine callW_of pd rfl (.inr rfl) ?_) | (refine callW_of ps rfl (.inr rfl) ?_)
       all_goals rfl
      ·rw [if_neg hS] at ps
       rw [if_neg (fun h => hS (hsc.2 h))]
       clear hsc hS hfirst
       repeat' first | simp (disch := omega) only [go_sem, ↓reduceIte, Nat.reduceEqDiff, reduceCtorEq, Int.reduceEq, e0, gD, Int.toNat_zero] | ((with_reducible first | refine condD ?_ ?_ | refine condX ?_ ?_ | refine condW_intro ?_ ?_) <;> intro h <;> first | (exfalso; omega) | simp (disch := omega) only [go_sem, ↓reduceIte, Nat.reduceEqDiff, reduceCtorEq, Int.reduceEq, *, e0, gD, Int.toNat_zero] | skip) | (refine callW_of pv rfl (.inl rfl) ?_) | (refine callW_of pg rfl (.inl rfl) ?_) | (refine callW_of pm rfl (.inl rfl) ?_) | (refine callW_of pF rfl (.inr rfl) ?_) | (refine callW_of pd rfl (.inr rfl) ?_) | (refine callW_of ps rfl (.inr rfl) ?_)
       all_goals rfl
     ·rw [if_neg (fun h => hx (hfirst.2 h.2))]
      clear hsc ps hfirst
      repeat' first | simp (disch := omega) only [go_sem, ↓reduceIte, Nat.reduceEqDiff, reduceCtorEq, Int.reduceEq, e0, gD, Int.toNat_zero] | ((with_reducible first | refine condD ?_ ?_ | refine condX ?_ ?_ | refine condW_intro ?_ ?_) <;> intro h <;> first | (exfalso; omega) | simp (disch := omega) only [go_sem, ↓reduceIte, Nat.reduceEqDiff, reduceCtorEq, Int.reduceEq, *, e0, gD, Int.toNat_zero] | skip) | (refine callW_of pv rfl (.inl rfl) ?_) | (refine callW_of pg rfl (.inl rfl) ?_) | (refine callW_of pm rfl (.inl rfl) ?_) | (refine callW_of pF rfl (.inr rfl) ?_) | (refine callW_of pd rfl (.inr rfl) ?_)
      all_goals rfl
    ·rw [decide_eq_false hM] at pm
     rw [if_pos ⟨rfl, hM⟩]
     clear hsc ps hfirst
     repeat' first | simp (disch := omega) only [go_sem, ↓reduceIte, Nat.reduceEqDiff, reduceCtorEq, Int.reduceEq, e0] | ((with_reducible first | refine condD ?_ ?_ | refine condX ?_ ?_ | refine condW_intro ?_ ?_) <;> intro h <;> first | (exfalso; omega) | simp (disch := omega) only [go_sem, ↓reduceIte, Nat.reduceEqDiff, reduceCtorEq, Int.reduceEq, *, e0] | skip) | (refine callW_of pv rfl (.inl rfl) ?_) | (refine callW_of pg rfl (.inl rfl) ?_) | (refine callW_of pm rfl (.inl rfl) ?_) | (refine callW_of pF rfl (.inr rfl) ?_) | (refine callW_of pd rfl (.inr rfl) ?_)
     all_goals rfl
 ·rw [if_neg hok] at pv
  rw [if_pos hok]
  clear pt
  repeat' first | simp (disch := omega) only [go_sem, ↓reduceIte, Nat.reduceEqDiff, reduceCtorEq, Int.reduceEq] | ((with_reducible first | refine condD ?_ ?_ | refine condX ?_ ?_ | refine condW_intro ?_ ?_) <;> intro h <;> first | (exfalso; omega) | simp (disch := omega) only [go_sem, ↓reduceIte, Nat.reduceEqDiff, reduceCtorEq, Int.reduceEq, *] | skip) | (refine callW_of pv rfl (.inl rfl) ?_)
  all_goals rfl
end Go.Proofs.Ytkdgmbakhkdegaa
