/- Plain law for Gather: row by row or element by element, the same. No program in sight. -/
import Derived.Test.YtcnbccmmhcoanaaVGath2
set_option linter.unusedVariables false
set_option linter.unusedSimpArgs false
namespace Go.Proofs.Ytcnbccmmhcoanaa

abbrev fz (l : List Fr) (i : Nat) : Fr := l[i]?.getD (0, 0)
/-- Rows are wholly set or not at all. -/
def Unif (R : Nat) (l : List Fr) : Prop := ∀ i, i < l.length → ((fz l i).2 ≠ 0 ↔ (fz l (i / R * R)).2 ≠ 0)
/-- The elements of a row, one by one. -/
noncomputable def eIt (l : List Fr) (W : Nat) (seg : List Fr) : Nat → Option (List Fr)
 | 0 => some l
 | j + 1 => (eIt l W seg j).bind fun m => if (fz m (W + j)).2 ≠ 0 ∧ fz m (W + j) ≠ fz seg j then none else some (m.set (W + j) (fz seg j))
theorem fz_spl {l s : List Fr} {W i : Nat} (h : W + s.length ≤ l.length) : fz (spl l W s) i = if W ≤ i ∧ i < W + s.length then fz s (i - W) else fz l i := by
 have l1 : (l.take W).length = W := by simp; omega
 unfold fz spl
 rw [List.append_assoc]
 by_cases h1 : i < W
 ·rw [if_neg (by omega), List.getElem?_append_left (by omega), List.getElem?_take, if_pos h1]
 ·rw [List.getElem?_append_right (by omega), l1]
  by_cases h2 : i < W + s.length
  ·rw [if_pos (by omega), List.getElem?_append_left (by omega)]
  ·rw [if_neg (by omega), List.getElem?_append_right (by omega), List.getElem?_drop]
   congr 2
   omega
theorem fz_set {l : List Fr} {W i : Nat} {v : Fr} (h : W < l.length) : fz (l.set W v) i = if i = W then v else fz l i := by
 unfold fz
 rw [List.getElem?_set]
 by_cases e : W = i
 ·subst e
  simp [h]
 ·rw [if_neg e, if_neg (fun h => e h.symm)]
theorem fz_ext {a b : List Fr} (hl : a.length = b.length) (h : ∀ i, i < a.length → fz a i = fz b i) : a = b := by
 refine List.ext_getElem hl fun i h1 h2 => ?_
 have := h i h1
 simpa [fz, h1, h2] using this
theorem spl_nil (l : List Fr) (W : Nat) : spl l W [] = l := by simp [spl]
theorem fz_take {s : List Fr} {i j : Nat} (h : i < j) : fz (s.take j) i = fz s i := by unfold fz; rw [List.getElem?_take, if_pos h]
theorem eIt_free {l seg : List Fr} {W : Nat} (hw : W + seg.length ≤ l.length) (h0 : ∀ j, j < seg.length → (fz l (W + j)).2 = 0) : ∀ j, j ≤ seg.length → eIt l W seg j = some (spl l W (seg.take j))
 | 0, _ => by rw [eIt, List.take_zero, spl_nil]
 |j + 1, hj => by
  have hlj : (seg.take j).length = j := by simp; omega
  have hlj1 : (seg.take (j + 1)).length = j + 1 := by simp; omega
  have hm : fz (spl l W (seg.take j)) (W + j) = fz l (W + j) := by rw [fz_spl (by omega), if_neg (by omega)]
  rw [eIt, eIt_free hw h0 j (by omega), Option.bind_some, hm, if_neg (fun h => h.1 (h0 j (by omega)))]
  congr 1
  refine fz_ext (by rw [List.length_set, spl_len (by omega), spl_len (by omega)]) fun i hi => ?_
  rw [List.length_set, spl_len (by omega)] at hi
  rw [fz_set (by rw [spl_len (by omega)]; omega), fz_spl (by omega), fz_spl (by omega)]
  by_cases e : i = W + j
  ·subst e
   rw [if_pos rfl, if_pos (by omega), fz_take (by omega), Nat.add_sub_cancel_left]
  ·rw [if_neg e]
   by_cases h1 : W ≤ i ∧ i < W + j
   ·rw [if_pos (by omega), if_pos (by omega), fz_take (by omega), fz_take (by omega)]
   ·rw [if_neg (by omega), if_neg (by omega)]
theorem take_step {a b : List Fr} {j : Nat} (ha : j < a.length) (hb : j < b.length) : a.take (j + 1) = b.take (j + 1) ↔ a.take j = b.take j ∧ fz a j = fz b j := by
 rw [List.take_succ_eq_append_getElem ha, List.take_succ_eq_append_getElem hb]
 have e : fz a j = a[j] ∧ fz b j = b[j] := by simp [fz, ha, hb]
 rw [e.1, e.2]
 constructor
 ·intro h
  have := List.append_inj h (by simp; omega)
  exact ⟨this.1, by simpa using this.2⟩
 ·rintro ⟨h1, h2⟩
  rw [h1, h2]
theorem eIt_set {l seg : List Fr} {W : Nat} (hw : W + seg.length ≤ l.length) (h0 : ∀ j, j < seg.length → (fz l (W + j)).2 ≠ 0) : ∀ j, j ≤ seg.length → eIt l W seg j = @ite _ ((l.drop W).take j = seg.take j) (Classical.propDecidable _) (some l) none
 | 0, _ => by rw [eIt, if_pos (by simp)]
 |j + 1, hj => by
  have hst := take_step (a := l.drop W) (b := seg) (j := j) (by simp; omega) (by omega)
  have hf : fz (l.drop W) j = fz l (W + j) := by unfold fz; rw [List.getElem?_drop]
  rw [hf] at hst
  rw [eIt, eIt_set hw h0 j (by omega)]
  by_cases h1 : (l.drop W).take j = seg.take j
  ·rw [if_pos h1, Option.bind_some]
   by_cases h2 : fz l (W + j) = fz seg j
   ·rw [if_neg (fun h => h.2 h2), if_pos (hst.2 ⟨h1, h2⟩)]
    congr 1
    refine fz_ext (by simp) fun i hi => ?_
    rw [List.length_set] at hi
    rw [fz_set (by omega)]
    by_cases e : i = W + j
    ·rw [if_pos e, e, h2]
    ·rw [if_neg e]
   ·rw [if_pos ⟨h0 j (by omega), h2⟩, if_neg (fun h => h2 (hst.1 h).2)]
  ·rw [if_neg h1, Option.bind_none, if_neg (fun h => h1 (hst.1 h).1)]
/-- A whole row. -/
theorem eIt_row {l seg : List Fr} {W R : Nat} (hR : 1 ≤ R) (hs : seg.length = R) (hw : W + R ≤ l.length) (hu : Unif R l) (hd : R ∣ W) : eIt l W seg R = if (fz l W).2 ≠ 0 ∧ (l.drop W).take R ≠ seg then none else some (spl l W seg) := by
 have hwin : ∀ j, j < R → ((fz l (W + j)).2 ≠ 0 ↔ (fz l W).2 ≠ 0) := fun j hj => by
  have := hu (W + j) (by omega)
  obtain ⟨q, rfl⟩ := hd
  rwa [Nat.mul_add_div (by omega), Nat.div_eq_of_lt hj, Nat.add_zero, Nat.mul_comm q R] at this
 by_cases h0 : (fz l W).2 = 0
 ·rw [if_neg (fun h => h.1 h0), eIt_free (by omega) (fun j hj => Decidable.not_not.1 fun hc => (hwin j (by omega)).1 hc h0) R (by omega), List.take_of_length_le (by omega)]
 ·rw [eIt_set (by omega) (fun j hj => (hwin j (by omega)).2 h0) R (by omega), List.take_of_length_le (l := seg) (by omega)]
  by_cases h1 : (l.drop W).take R = seg
  ·rw [if_pos h1, if_neg (fun h => h.2 h1)]
   congr 1
   refine fz_ext (by rw [spl_len (by omega)]) fun i hi => ?_
   rw [fz_spl (by omega)]
   split
   ·rw [← h1, fz_take (by omega)]
    unfold fz
    rw [List.getElem?_drop]
    congr 2
    omega
   ·rfl
  ·rw [if_neg h1, if_pos ⟨h0, h1⟩]
theorem unif_spl {l seg : List Fr} {W R : Nat} (hR : 1 ≤ R) (hs : seg.length = R) (hw : W + R ≤ l.length) (hu : Unif R l) (hd : R ∣ W) (hseg : ∀ a ∈ seg, a.2 ≠ 0) : Unif R (spl l W seg) := by
 intro i hi
 rw [spl_len (by omega)] at hi
 obtain ⟨q, rfl⟩ := hd
 have hin : ∀ k, R * q ≤ k → k < R * q + R → (fz (spl l (R * q) seg) k).2 ≠ 0 := fun k h1 h2 => by
  rw [fz_spl (by omega), if_pos (by omega)]
  have hlt : k - R * q < seg.length := by omega
  unfold fz
  rw [List.getElem?_eq_getElem hlt]
  exact hseg _ (List.getElem_mem hlt)
 have hdm := Nat.div_add_mod i R
 have hml := Nat.mod_lt i (show 0 < R by omega)
 rw [Nat.mul_comm (i / R) R]
 by_cases h1 : R * q ≤ i ∧ i < R * q + R
 ·have e : i / R = q := by
   rw [show i = R * q + (i - R * q) by omega, Nat.mul_add_div (by omega), Nat.div_eq_of_lt (by omega), Nat.add_zero]
  rw [e]
  exact ⟨fun _ => hin _ (by omega) (by omega), fun _ => hin _ h1.1 h1.2⟩
 ·have h2 : ¬ (R * q ≤ R * (i / R) ∧ R * (i / R) < R * q + R) := by
   rintro ⟨g1, g2⟩
   have e1 : q ≤ i / R := Nat.le_of_mul_le_mul_left g1 (by omega)
   have e2 : i / R < q + 1 := by
    refine Nat.lt_of_mul_lt_mul_left (a := R) ?_
    rw [Nat.mul_succ]
    exact g2
   have : i / R = q := by omega
   rw [this] at hdm
   omega
  rw [fz_spl (by omega), if_neg (by omega), fz_spl (by omega), if_neg (by omega)]
  have := hu i hi
  rwa [Nat.mul_comm (i / R) R] at this

/-- An element of a block is written into the tensor. -/
noncomputable def rEl (ds ls os : List Int) (T : List Fr) (k : Nat) (m : List Fr) : Option (List Fr) :=
 if (fz m (blkAt ds ls os k).toNat).2 ≠ 0 ∧ fz m (blkAt ds ls os k).toNat ≠ fz T k then none else some (m.set (blkAt ds ls os k).toNat (fz T k))
noncomputable def rIt (ds ls os : List Int) (T : List Fr) (o : Option (List Fr)) : Nat → Option (List Fr)
 | 0 => o
 | k + 1 => (rIt ds ls os T o k).bind (rEl ds ls os T k)
theorem rIt_row {ds ls os : List Int} (hB : BlkOk ds ls os) {T : List Fr} {o : Option (List Fr)} {R c : Nat} (hR : lastR ls = R) : ∀ j, j ≤ R → rIt ds ls os T o (R * c + j) = (rIt ds ls os T o (R * c)).bind fun l => eIt l (blkAt ds ls os ((R * c : Nat) : Int)).toNat ((T.drop (R * c)).take R) j
 |0, _ => by
  rw [Nat.add_zero]
  cases rIt ds ls os T o (R * c) <;> rfl
 |j + 1, hj => by
  rw [← Nat.add_assoc, rIt, rIt_row hB hR j (by omega)]
  cases rIt ds ls os T o (R * c) with
  | none => rfl
  | some l =>
   rw [Option.bind_some, Option.bind_some, eIt]
   congr 1
   funext m
   have hrow := hB.row (c := (c : Int)) (j := (j : Int)) (by omega) (by rw [hR]; omega)
   have hb := hB.bd ((R * c : Nat) : Int)
   have e1 : lastR ls * (c : Int) = ((R * c : Nat) : Int) := by rw [hR, Int.natCast_mul]
   rw [e1] at hrow
   have e2 : ((R * c + j : Nat) : Int) = ((R * c : Nat) : Int) + (j : Int) := Int.natCast_add _ _
   have e3 : (blkAt ds ls os ((R * c + j : Nat) : Int)).toNat = (blkAt ds ls os ((R * c : Nat) : Int)).toNat + j := by
    rw [e2, hrow]
    omega
   have e4 : fz ((T.drop (R * c)).take R) j = fz T (R * c + j) := by
    rw [fz_take (by omega)]
    unfold fz
    rw [List.getElem?_drop]
   rw [rEl, e3, e4]
def optOf (s : List Fr × Bool) : Option (List Fr) := if s.2 = true then some s.1 else none
/-- Block by block, the rows do what the elements do. -/
theorem rIt_gIt {ds ls os : List Int} (hB : BlkOk ds ls os) {T l : List Fr} {al : Bool} (hl : (l.length : Int) = prod ds) (hT : (T.length : Int) = prod ls) (hTv : ∀ a ∈ T, a.2 ≠ 0) (hu : Unif (lastR ls).toNat l)
  (hd : ∀ c : Nat, (lastR ls).toNat ∣ (blkAt ds ls os (((lastR ls).toNat * c : Nat) : Int)).toNat) : ∀ c, c ≤ nRows ls → rIt ds ls os T (optOf (l, al)) ((lastR ls).toNat * c) = optOf (gIt ds ls os T (l, al) c) ∧ Unif (lastR ls).toNat (gIt ds ls os T (l, al) c).1
 | 0, _ => ⟨by rw [Nat.mul_zero]; rfl, hu⟩
 |c + 1, hc => by
  obtain ⟨ih1, ih2⟩ := rIt_gIt hB hl hT hTv hu hd c (by omega)
  have hr := lastR_pos (good_of_vld hB.vl)
  obtain ⟨R, hR⟩ : ∃ R : Nat, R = (lastR ls).toNat := ⟨_, rfl⟩
  have hRI : lastR ls = R := by omega
  have hfit := rows_fit hB hl (c := c) (by omega)
  have hlen := gIt_len (T := T) (al := al) hB hl (c := c) (by omega)
  have hdc := hd c
  rw [gIt, gRow]
  rw [← hR] at ih1 ih2 hfit hdc ⊢
  have hsl : ((T.drop (R * c)).take R).length = R := seg_len (by omega)
  have hsv : ∀ a ∈ (T.drop (R * c)).take R, a.2 ≠ 0 := fun a ha => hTv a (List.mem_of_mem_drop (List.mem_of_mem_take ha))
  refine ⟨?_, unif_spl (by omega) hsl (by rw [hlen]; exact hfit.2) ih2 hdc hsv⟩
  rw [Nat.mul_succ, rIt_row hB hRI R (Nat.le_refl _), ih1]
  generalize gIt ds ls os T (l, al) c = s at *
  obtain ⟨m, b⟩ := s
  simp only at hlen ih2
  cases b with
  | false =>
   simp only [optOf]
   simp
  | true =>
   simp only [optOf, if_true, Option.bind_some]
   rw [eIt_row (by omega) hsl (by rw [hlen]; exact hfit.2) ih2 hdc]
   by_cases hcl : clash m T (blkAt ds ls os ((R * c : Nat) : Int)).toNat (R * c) R
   ·have hcl' : (fz m (blkAt ds ls os ((R * c : Nat) : Int)).toNat).2 ≠ 0 ∧ (m.drop (blkAt ds ls os ((R * c : Nat) : Int)).toNat).take R ≠ (T.drop (R * c)).take R := hcl
    rw [if_pos hcl, if_pos hcl']
    rfl
   ·have hcl' : ¬ ((fz m (blkAt ds ls os ((R * c : Nat) : Int)).toNat).2 ≠ 0 ∧ (m.drop (blkAt ds ls os ((R * c : Nat) : Int)).toNat).take R ≠ (T.drop (R * c)).take R) := hcl
    rw [if_neg hcl, if_neg hcl']
    rfl
end Go.Proofs.Ytcnbccmmhcoanaa
