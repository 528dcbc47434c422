/- Plain laws: fractions as rational numbers. -/
import Derived.Test.YtfjnhdfhgenkdaaGreatDoorV00
set_option linter.unusedVariables false
set_option linter.unusedSimpArgs false
namespace Go.Proofs.YtfjnhdfhgenkdaaGreatDoor

abbrev Fr := Int × Int
def frOk (a : Fr) : Prop := 1 ≤ a.2 ∧ a.2 ≤ 2147483647 ∧ -2147483647 ≤ a.1 ∧ a.1 ≤ 2147483647 ∧ Nat.gcd a.1.natAbs a.2.natAbs = 1
def frFits (r : Rat) : Prop := r.num.natAbs ≤ 2147483647 ∧ r.den ≤ 2147483647
noncomputable instance (a : Fr) : Decidable (frOk a) := Classical.propDecidable _
noncomputable instance (r : Rat) : Decidable (frFits r) := Classical.propDecidable _
noncomputable def ofRat (r : Rat) : Fr × Int := if frFits r then ((r.num, (r.den : Int)), 0) else ((0, 0), 3)
def toRat (a : Fr) : Rat := Rat.divInt a.1 a.2
theorem divInt_parts (n d : Int) (hd : d ≠ 0) : (Rat.divInt n d).num = (if (n < 0) ≠ (d < 0) then -((n.natAbs / Nat.gcd n.natAbs d.natAbs : Nat) : Int) else ((n.natAbs / Nat.gcd n.natAbs d.natAbs : Nat) : Int)) ∧ (Rat.divInt n d).den = d.natAbs / Nat.gcd n.natAbs d.natAbs := by
 have key : ∀ (m : Int) (k : Nat) (hk : k ≠ 0), (Rat.normalize m k hk).num = (if m < 0 then -((m.natAbs / Nat.gcd m.natAbs k : Nat) : Int) else ((m.natAbs / Nat.gcd m.natAbs k : Nat) : Int)) ∧ (Rat.normalize m k hk).den = k / Nat.gcd m.natAbs k := by
  intro m k hk
  rw [Rat.normalize_eq hk]
  refine ⟨?_, rfl⟩
  show m / _ = _
  obtain ⟨c, hc⟩ : m.natAbs.gcd k ∣ m.natAbs := Nat.gcd_dvd_left _ _
  have hg : 0 < m.natAbs.gcd k := Nat.gcd_pos_of_pos_right _ (by omega)
  generalize m.natAbs.gcd k = g at *
  rw [hc, Nat.mul_div_cancel_left _ hg]
  split
  ·have : m = (g : Int) * (-(c : Int)) := by
    have : m = -((g * c : Nat) : Int) := by omega
    rw [this, Int.natCast_mul, Int.mul_neg]
   rw [this, Int.mul_ediv_cancel_left _ (by omega)]
  ·have : m = (g : Int) * (c : Int) := by
    have : m = ((g * c : Nat) : Int) := by omega
    rw [this, Int.natCast_mul]
   rw [this, Int.mul_ediv_cancel_left _ (by omega)]
 cases d with
 | ofNat k =>
  have hk : k ≠ 0 := by rintro rfl; exact hd rfl
  have e : Rat.divInt n (Int.ofNat k) = Rat.normalize n k hk := by
   show Rat.divInt n (k : Int) = _
   rw [Rat.divInt_ofNat, mkRat, dif_neg hk]
  rw [e]
  have h := key n k hk
  have e2 : (Int.ofNat k).natAbs = k := rfl
  rw [e2]
  refine ⟨?_, h.2⟩
  rw [h.1]
  have : ¬ (Int.ofNat k < 0) := by simp
  simp only [this]
  by_cases hn : n < 0 <;> simp [hn]
 | negSucc k =>
  have e : Rat.divInt n (Int.negSucc k) = Rat.normalize (-n) k.succ (Nat.succ_ne_zero k) := rfl
  rw [e]
  have h := key (-n) k.succ (Nat.succ_ne_zero k)
  have e2 : (Int.negSucc k).natAbs = k.succ := rfl
  rw [e2]
  rw [Int.natAbs_neg] at h
  refine ⟨?_, h.2⟩
  rw [h.1]
  have : Int.negSucc k < 0 := Int.negSucc_lt_zero k
  simp only [this]
  by_cases hn : n < 0
  ·have : ¬ (-n < 0) := by omega
   rw [if_neg this]
   simp [hn]
  ·by_cases h0 : n = 0
   ·subst h0; simp
   ·have : -n < 0 := by omega
    rw [if_pos this]
    simp [hn]
theorem ofRat_to {a : Fr} (h : frOk a) : ofRat (toRat a) = (a, 0) := by
 obtain ⟨n, d⟩ := a
 obtain ⟨h1, h2, h3, h4, h5⟩ := h
 simp only at h1 h2 h3 h4 h5
 have hd : d ≠ 0 := by omega
 obtain ⟨p1, p2⟩ := divInt_parts n d hd
 rw [h5, Nat.div_one] at p1 p2
 have hd0 : ¬ d < 0 := by omega
 have p1' : (Rat.divInt n d).num = n := by
  rw [p1]; simp only [hd0]; by_cases hn : n < 0 <;> simp [hn] <;> omega
 have p2' : ((Rat.divInt n d).den : Int) = d := by rw [p2]; omega
 have : frFits (Rat.divInt n d) := ⟨by rw [p1']; omega, by omega⟩
 rw [ofRat, toRat, if_pos this, p1', p2']
theorem frOk_of {r : Rat} (h : frFits r) : frOk (r.num, (r.den : Int)) := by
 obtain ⟨h1, h2⟩ := h
 have := r.den_nz
 exact ⟨by simp only; omega, by simp only; omega, by simp only; omega, by simp only; omega, r.reduced⟩
theorem toRat_of (r : Rat) : toRat (r.num, (r.den : Int)) = r := Rat.num_divInt_den r

/-- The sum and the other operations. -/
noncomputable def frNew (n d : Int) : Fr × Int := if d = 0 then ((0, 0), 4) else ofRat (Rat.divInt n d)
noncomputable def frBin (f : Rat → Rat → Rat) (a b : Fr) : Fr × Int := if ¬ frOk a ∨ ¬ frOk b then ((0, 0), 1) else ofRat (f (toRat a) (toRat b))
noncomputable def frDiv (a b : Fr) : Fr × Int := if ¬ frOk a ∨ ¬ frOk b then ((0, 0), 1) else if b.1 = 0 then ((0, 0), 4) else ofRat (toRat a / toRat b)
theorem new_add {a b : Fr} (ha : frOk a) (hb : frOk b) : frNew (a.1 * b.2 + b.1 * a.2) (a.2 * b.2) = ofRat (toRat a + toRat b) := by
 have h1 : a.2 ≠ 0 := by have := ha.1; omega
 have h2 : b.2 ≠ 0 := by have := hb.1; omega
 rw [frNew, if_neg (Int.mul_ne_zero h1 h2), toRat, toRat, Rat.divInt_add_divInt _ _ h1 h2]
theorem new_sub {a b : Fr} (ha : frOk a) (hb : frOk b) : frNew (a.1 * b.2 - b.1 * a.2) (a.2 * b.2) = ofRat (toRat a - toRat b) := by
 have h1 : a.2 ≠ 0 := by have := ha.1; omega
 have h2 : b.2 ≠ 0 := by have := hb.1; omega
 rw [frNew, if_neg (Int.mul_ne_zero h1 h2), toRat, toRat, Rat.divInt_sub_divInt _ _ h1 h2]
theorem new_mul {a b : Fr} (ha : frOk a) (hb : frOk b) : frNew (a.1 * b.1) (a.2 * b.2) = ofRat (toRat a * toRat b) := by
 have h1 : a.2 ≠ 0 := by have := ha.1; omega
 have h2 : b.2 ≠ 0 := by have := hb.1; omega
 rw [frNew, if_neg (Int.mul_ne_zero h1 h2), toRat, toRat, Rat.divInt_mul_divInt]
theorem new_div {a b : Fr} (ha : frOk a) (hb : frOk b) (h : b.1 ≠ 0) : frNew (a.1 * b.2) (a.2 * b.1) = ofRat (toRat a / toRat b) := by
 have h1 : a.2 ≠ 0 := by have := ha.1; omega
 rw [frNew, if_neg (Int.mul_ne_zero h1 h), toRat, toRat, Rat.div_def, Rat.inv_divInt, Rat.divInt_mul_divInt]
theorem toRat_eq_zero {b : Fr} (hb : frOk b) (h : toRat b = 0) : b.1 = 0 := by
 have h1 := ofRat_to hb
 rw [h, ofRat] at h1
 split at h1
 ·cases h1; rfl
 ·cases h1
theorem ofRat_ok {r : Rat} {v : Fr} (h : ofRat r = (v, 0)) : frFits r ∧ v = (r.num, (r.den : Int)) := by
 rw [ofRat] at h
 split at h
 ·rename_i hf
  exact ⟨hf, by cases h; rfl⟩
 ·cases h
theorem ofRat_rat {r : Rat} {v : Fr} (h : ofRat r = (v, 0)) : frOk v ∧ toRat v = r := by
 obtain ⟨h1, rfl⟩ := ofRat_ok h
 exact ⟨frOk_of h1, toRat_of r⟩
theorem ofRat_err {r : Rat} {v : Fr} {e : Int} (h : ofRat r = (v, e)) (he : e ≠ 0) : v = (0, 0) ∧ e = 3 := by
 rw [ofRat] at h
 split at h
 ·cases h; exact absurd rfl he
 ·cases h; exact ⟨rfl, rfl⟩

theorem frNew_eq {n d : Int} (hd : d ≠ 0) : frNew n d = if n.natAbs / Nat.gcd n.natAbs d.natAbs > 2147483647 ∨ d.natAbs / Nat.gcd n.natAbs d.natAbs > 2147483647 then ((0, 0), 3)
  else ((if (n < 0) ≠ (d < 0) then -((n.natAbs / Nat.gcd n.natAbs d.natAbs : Nat) : Int) else ((n.natAbs / Nat.gcd n.natAbs d.natAbs : Nat) : Int), ((d.natAbs / Nat.gcd n.natAbs d.natAbs : Nat) : Int)), 0) := by
 obtain ⟨h1, h2⟩ := divInt_parts n d hd
 rw [frNew, if_neg hd, ofRat, h1, h2]
 have e : (Rat.divInt n d).num.natAbs = n.natAbs / Nat.gcd n.natAbs d.natAbs := by rw [h1]; generalize n.natAbs / Nat.gcd n.natAbs d.natAbs = q; split <;> omega
 by_cases hf : frFits (Rat.divInt n d)
 ·obtain ⟨f1, f2⟩ := id hf
  rw [e] at f1
  rw [h2] at f2
  rw [if_pos hf, if_neg (not_or.2 ⟨Nat.not_lt.2 f1, Nat.not_lt.2 f2⟩)]
 ·have hc : n.natAbs / Nat.gcd n.natAbs d.natAbs > 2147483647 ∨ d.natAbs / Nat.gcd n.natAbs d.natAbs > 2147483647 := by
   by_cases h : n.natAbs / Nat.gcd n.natAbs d.natAbs > 2147483647
   ·exact .inl h
   ·exact .inr (Nat.lt_of_not_le fun h' => hf ⟨by rw [e]; exact Nat.le_of_not_lt h, by rw [h2]; exact h'⟩)
  rw [if_neg hf, if_pos hc]
theorem mulM {x y : Int} (hx : -2147483647 ≤ x ∧ x ≤ 2147483647) (hy : -2147483647 ≤ y ∧ y ≤ 2147483647) : -4611686014132420609 ≤ x * y ∧ x * y ≤ 4611686014132420609 := by
 have h1 : x.natAbs * y.natAbs ≤ 2147483647 * 2147483647 := Nat.mul_le_mul (by omega) (by omega)
 rw [← Int.natAbs_mul] at h1
 omega
noncomputable def frAdd (a b : Fr) : Fr × Int := frBin (· + ·) a b
noncomputable def frSub (a b : Fr) : Fr × Int := frBin (· - ·) a b
noncomputable def frMul (a b : Fr) : Fr × Int := frBin (· * ·) a b
theorem frAdd_eq {a b : Fr} (ha : frOk a) (hb : frOk b) : frAdd a b = frNew (a.1 * b.2 + b.1 * a.2) (a.2 * b.2) := by
 rw [new_add ha hb, frAdd, frBin, if_neg (by simp [ha, hb])]
theorem frSub_eq {a b : Fr} (ha : frOk a) (hb : frOk b) : frSub a b = frNew (a.1 * b.2 - b.1 * a.2) (a.2 * b.2) := by
 rw [new_sub ha hb, frSub, frBin, if_neg (by simp [ha, hb])]
theorem frMul_eq {a b : Fr} (ha : frOk a) (hb : frOk b) : frMul a b = frNew (a.1 * b.1) (a.2 * b.2) := by
 rw [new_mul ha hb, frMul, frBin, if_neg (by simp [ha, hb])]
theorem frDiv_eq {a b : Fr} (ha : frOk a) (hb : frOk b) : frDiv a b = frNew (a.1 * b.2) (a.2 * b.1) := by
 rw [frDiv, if_neg (by simp [ha, hb])]
 by_cases h : b.1 = 0
 ·rw [if_pos h, frNew, if_pos (by rw [h, Int.mul_zero])]
 ·rw [if_neg h, new_div ha hb h]
theorem fr_bad {f : Rat → Rat → Rat} {a b : Fr} (h : ¬ frOk a ∨ ¬ frOk b) : frBin f a b = ((0, 0), 1) := by rw [frBin, if_pos h]
theorem frDiv_bad {a b : Fr} (h : ¬ frOk a ∨ ¬ frOk b) : frDiv a b = ((0, 0), 1) := by rw [frDiv, if_pos h]
/-- The order of two numbers. -/
def cmpI (a b : Int) : Int := if a < b then -1 else if a > b then 1 else 0
noncomputable def frCmp (a b : Fr) : Int := if frOk a ∧ frOk b then cmpI (a.1 * b.2) (b.1 * a.2) else if cmpI a.1 b.1 ≠ 0 then cmpI a.1 b.1 else cmpI a.2 b.2
noncomputable def frNeg (a : Fr) : Fr := if frOk a then (-a.1, a.2) else (0, 0)
def frIn (a : Fr) : Prop := in64 a.1 ∧ in64 a.2
theorem frOk_in {a : Fr} (h : frOk a) : frIn a := by
 obtain ⟨h1, h2, h3, h4, _⟩ := h
 exact ⟨by unfold in64; omega, by unfold in64; omega⟩
theorem frCmp_eq {a b : Fr} (ha : frOk a) (hb : frOk b) (h : frCmp a b = 0) : a = b := by
 rw [frCmp, if_pos ⟨ha, hb⟩, cmpI] at h
 have e : a.1 * b.2 = b.1 * a.2 := by
  split at h
  ·cases h
  ·split at h
   ·cases h
   ·omega
 have h1 : a.2 ≠ 0 := by have := ha.1; omega
 have h2 : b.2 ≠ 0 := by have := hb.1; omega
 have h3 : toRat a = toRat b := (Rat.divInt_eq_divInt_iff h1 h2).2 e
 have k1 := ofRat_to ha
 rw [h3, ofRat_to hb] at k1
 exact (Prod.mk.inj k1).1.symm
end Go.Proofs.YtfjnhdfhgenkdaaGreatDoor
