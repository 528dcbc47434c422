/- Plain laws: small numbers do not fail; values where one variable is changed. -/
import Derived.Test.YtnddmjhpplopbaaPlain07h
set_option linter.unusedVariables false
set_option linter.unusedSimpArgs false
namespace Go.Proofs.Ytnddmjhpplopbaa
open Go.Abs Go.RowKit

theorem sgnE_ok {n : Nat} {s : Bool} (h : (sgnE n s).2 = true) : (sgnE n s).1 = if s then -(n : Int) else n := by
 unfold sgnE at h ⊢
 split at h
 ·cases h
 ·rename_i h1
  rw [if_neg h1]
theorem gcd_parts (c d : Int) : ∃ C D g : Nat, c.natAbs = g * C ∧ d.natAbs = g * D ∧ Nat.gcd c.natAbs d.natAbs = g ∧ (g ≠ 0 → c.natAbs / g = C ∧ d.natAbs / g = D) := by
 refine ⟨c.natAbs / Nat.gcd c.natAbs d.natAbs, d.natAbs / Nat.gcd c.natAbs d.natAbs, Nat.gcd c.natAbs d.natAbs, ?_, ?_, rfl, fun _ => ⟨rfl, rfl⟩⟩
 ·rw [Nat.mul_div_cancel' (Nat.gcd_dvd_left _ _)]
 ·rw [Nat.mul_div_cancel' (Nat.gcd_dvd_right _ _)]
/-- The multipliers for an equation cancel. -/
theorem cancelX_zero {c d : Int} (hc : c ≠ 0) (h : (cancelX c d).2.2 = true) : d * (cancelX c d).1 + c * (cancelX c d).2.1 = 0 := by
 unfold cancelX at h ⊢
 simp only [Bool.and_eq_true] at h ⊢
 rw [sgnE_ok h.1, sgnE_ok h.2]
 clear h
 obtain ⟨C, D, g, h1, h2, h3, h4⟩ := gcd_parts c d
 rw [h3]
 have hg : g ≠ 0 := by intro h; rw [h] at h1; simp at h1; exact hc h1
 rw [(h4 hg).1, (h4 hg).2]
 simp only [Bool.false_eq_true, if_false]
 have ec : c = (g * C : Nat) ∨ c = -((g * C : Nat) : Int) := by rw [← h1]; omega
 have ed : d = (g * D : Nat) ∨ d = -((g * D : Nat) : Int) := by rw [← h2]; omega
 have hC : 0 < (g * C : Nat) := by rw [← h1]; omega
 by_cases hd : d = 0
 ·have h5 : g * D = 0 := by rw [← h2, hd]; rfl
  have : D = 0 := (Nat.mul_eq_zero.1 h5).resolve_left hg
  subst this
  rw [hd]
  split <;> simp
 ·have hD : 0 < (g * D : Nat) := by rw [← h2]; omega
  have key : ((g * D : Nat) : Int) * C = ((g * C : Nat) : Int) * D := by
   simp only [Int.natCast_mul]
   rw [Int.mul_assoc, Int.mul_assoc, Int.mul_comm (D : Int)]
  rcases ec with ec | ec <;> rcases ed with ed | ed
  ·have s : (decide (0 < c) == decide (0 < d)) = true := by rw [decide_eq_true (by omega), decide_eq_true (by omega)]; rfl
   rw [s, if_pos rfl, ec, ed, key, Int.mul_neg]
   omega
  ·have s : (decide (0 < c) == decide (0 < d)) = false := by rw [decide_eq_true (by omega), decide_eq_false (by omega)]; rfl
   rw [s, ec, ed, Int.neg_mul, key]
   simp
   omega
  ·have s : (decide (0 < c) == decide (0 < d)) = false := by rw [decide_eq_false (by omega), decide_eq_true (by omega)]; rfl
   rw [s, ec, ed, Int.neg_mul, key]
   simp
   omega
  ·have s : (decide (0 < c) == decide (0 < d)) = true := by rw [decide_eq_false (by omega), decide_eq_false (by omega)]; rfl
   rw [s, if_pos rfl, ec, ed, Int.neg_mul, key, Int.neg_mul_neg]
   omega
theorem factorsX_zero {a b : Int} (ha : 0 < a) (hb : b < 0) (h : (factorsX a b).2.2 = true) : a * (factorsX a b).1 + b * (factorsX a b).2.1 = 0 := by
 unfold factorsX at h ⊢
 simp only [Bool.and_eq_true] at h ⊢
 rw [sgnE_ok h.1, sgnE_ok h.2]
 clear h
 obtain ⟨C, D, g, h1, h2, h3, h4⟩ := gcd_parts a b
 rw [h3]
 have hg : g ≠ 0 := by intro h; rw [h] at h1; simp at h1; omega
 rw [(h4 hg).1, (h4 hg).2]
 simp only [Bool.false_eq_true, if_false]
 have ea : a = (g * C : Nat) := by rw [← h1]; omega
 have eb : b = -((g * D : Nat) : Int) := by rw [← h2]; omega
 have key : ((g * D : Nat) : Int) * C = ((g * C : Nat) : Int) * D := by
  simp only [Int.natCast_mul]
  rw [Int.mul_assoc, Int.mul_assoc, Int.mul_comm (D : Int)]
 rw [ea, eb, Int.neg_mul, key]
 omega
theorem cf_natAbs {l : List Mono} {B : Nat} (h : ∀ m ∈ l, m.2.natAbs ≤ B) (n : ByteArray) : (cf l n).natAbs ≤ B := by
 by_cases h0 : cf l n = 0
 ·rw [h0]; simp
 ·obtain ⟨m, h1, _, h2⟩ := cf_in h0
  rw [← h2]; exact h m h1
theorem in64_abs {x : Int} (h : x.natAbs ≤ 9223372036854775807) : in64 x := by unfold in64; omega
theorem combS_fine {B M : Nat} : ∀ {l : List (Con × Int)} {out : Lin} {eq : Bool} {A : Nat}, linOk out.2 → out.1.natAbs ≤ A → (∀ n, (cf out.2 n).natAbs ≤ A) →
  (∀ p ∈ l, linOk p.1.1.2 ∧ p.1.1.1.natAbs ≤ B ∧ (∀ m ∈ p.1.1.2, m.2.natAbs ≤ B) ∧ p.2.natAbs ≤ M) → A + l.length * (B * M) ≤ 9223372036854775807 → (combS out eq l).2 = 0
 | [], out, eq, A, _, _, _, _, _ => rfl
 |p :: r, out, eq, A, ho, hk, hc, hl, hA => by
  obtain ⟨p1, p2, p3, p4⟩ := hl p List.mem_cons_self
  rw [List.length_cons, Nat.add_mul, Nat.one_mul] at hA
  have hmul : ∀ x : Int, x.natAbs ≤ B → (x * p.2).natAbs ≤ B * M := fun x hx => by rw [Int.natAbs_mul]; exact Nat.mul_le_mul hx p4
  have hs1 : (scaleV p.1.1 p.2).1.natAbs ≤ B * M := by rw [scaleV_fst]; exact hmul _ p2
  have hs2 : ∀ n, (cf (scaleV p.1.1 p.2).2 n).natAbs ≤ B * M := fun n => by rw [scaleV_cf]; exact hmul _ (cf_natAbs p3 n)
  have hsc : scaleOk p.1.1 p.2 := ⟨in64_abs (Nat.le_trans (hmul _ p2) (by omega)), fun m hm => in64_abs (Nat.le_trans (hmul _ (p3 m hm)) (by omega))⟩
  have hso := scaleV_ok (b := p.2) p1
  obtain ⟨m1, m2, m3⟩ := mergeX_spec out.2 (scaleV p.1.1 p.2).2 (linOk_iff.1 ho).1 (linOk_iff.1 hso).1
  have hadd : ∀ x y : Int, x.natAbs ≤ A → y.natAbs ≤ B * M → (x + y).natAbs ≤ A + B * M := fun x y hx hy => Nat.le_trans (Int.natAbs_add_le x y) (by omega)
  have hao : addOk out (scaleV p.1.1 p.2) := by
   refine ⟨in64_abs (Nat.le_trans (hadd _ _ hk hs1) (by omega)), fun t ht => ?_⟩
   obtain ⟨t1, t2, _⟩ := m2 t ht
   rw [t1, t2]
   exact in64_abs (Nat.le_trans (hadd _ _ (hc _) (hs2 _)) (by omega))
  rw [combS, if_neg (by rintro (h | h); exact h (.inr hsc); exact h hao)]
  refine combS_fine (A := A + B * M) (addV_ok ho hso) (hadd _ _ hk hs1) (fun n => ?_) (fun q hq => hl q (List.mem_cons_of_mem _ hq)) (by omega)
  rw [addV_cf (linOk_iff.1 ho).1 (linOk_iff.1 hso).1]
  exact hadd _ _ (hc n) (hs2 n)
theorem conCombine_fine {l : List Con} {b : List Int} {B M : Nat} (hlen : l.length = b.length) (hok : ∀ p ∈ l.zip b, okC p) (hB : ∀ d ∈ l, d.1.1.natAbs ≤ B ∧ ∀ m ∈ d.1.2, m.2.natAbs ≤ B) (hM : ∀ x ∈ b, x.natAbs ≤ M) (hA : l.length * (B * M) ≤ 9223372036854775807) : (conCombine l b).2 = 0 := by
 rw [conCombine, if_neg (not_not_intro hlen), if_neg (by rintro ⟨p, hp, hb⟩; exact okC_not.2 (hok p hp) hb)]
 refine combS_fine (A := 0) (B := B) (M := M) (linOk_iff.2 ⟨by simp [srt], by simp⟩) (by simp) (by simp [cf]) (fun p hp => ?_) ?_
 ·obtain ⟨h1, h2⟩ := hB _ (List.of_mem_zip hp).1
  exact ⟨(hok p hp).1, h1, h2, hM _ (List.of_mem_zip hp).2⟩
 ·rw [List.length_zip, ← hlen, Nat.min_self]
  omega
theorem tightG_fine : ∀ {l acc : List Con}, (∀ c ∈ l, (tightS c).2.2 = 0) → (tightG acc l).2 = 0
 | [], acc, _ => rfl
 |c :: l, acc, h => by
  rw [tightG, if_neg (not_not_intro (h c List.mem_cons_self))]
  exact tightG_fine fun d hd => h d (List.mem_cons_of_mem _ hd)
/-- The multipliers of a row are not 0, and have the right sign. -/
theorem sgnF_pos {n : Nat} (h : (sgnE n false).2 = true) (hn : 0 < n) : 0 < (sgnE n false).1 := by
 rw [sgnE_ok h]
 simpa using hn
theorem part_pos {c d : Int} (hc : c ≠ 0) : 0 < c.natAbs / Nat.gcd c.natAbs d.natAbs ∧ 0 < c.natAbs / Nat.gcd d.natAbs c.natAbs := by
 have h0 : 0 < c.natAbs := by omega
 exact ⟨Nat.div_pos (Nat.le_of_dvd h0 (Nat.gcd_dvd_left _ _)) (Nat.gcd_pos_of_pos_left _ h0), Nat.div_pos (Nat.le_of_dvd h0 (Nat.gcd_dvd_right _ _)) (Nat.gcd_pos_of_pos_right _ h0)⟩
theorem cancelX_pos {c d : Int} (hc : c ≠ 0) (h : (cancelX c d).2.2 = true) : 0 < (cancelX c d).1 := by
 unfold cancelX at h ⊢
 simp only [Bool.and_eq_true] at h
 exact sgnF_pos h.1 (part_pos hc).1
theorem factorsX_pos {a b : Int} (ha : a ≠ 0) (hb : b ≠ 0) (h : (factorsX a b).2.2 = true) : 0 < (factorsX a b).1 ∧ 0 < (factorsX a b).2.1 := by
 unfold factorsX at h ⊢
 simp only [Bool.and_eq_true] at h
 exact ⟨sgnF_pos h.1 (part_pos hb).2, sgnF_pos h.2 (part_pos ha).1⟩
def updX (x : ByteArray → Rat) (n : ByteArray) (v : Rat) : ByteArray → Rat := fun m => if m = n then v else x m
theorem ev_upd0 {x : ByteArray → Rat} {n : ByteArray} {v : Rat} : ∀ {l : List Mono}, (∀ m ∈ l, m.1 ≠ n) → ev (updX x n v) l = ev x l
 | [], _ => rfl
 |m :: l, h => by
  rw [ev, ev, ev_upd0 fun y hy => h y (List.mem_cons_of_mem _ hy), updX, if_neg (h m List.mem_cons_self)]
theorem ev_upd {x : ByteArray → Rat} {n : ByteArray} {v : Rat} : ∀ {l : List Mono}, srt l → ev (updX x n v) l = ev x l + (cf l n : Rat) * (v - x n)
 | [], _ => by simp [ev, cf, Rat.zero_mul, Rat.add_zero]
 |m :: l, h => by
  have hs : srt l := (List.pairwise_cons.1 h).2
  have hlt := (List.pairwise_cons.1 h).1
  rw [ev, ev, cf]
  by_cases he : m.1 = n
  ·rw [if_pos he, ev_upd0 fun y hy e => by have := hlt y hy; rw [he, e] at this; exact sless_irrefl _ this, updX, if_pos he, he]
   grind
  ·rw [if_neg he, ev_upd hs, updX, if_neg he]
   grind
theorem val_upd {x : ByteArray → Rat} {n : ByteArray} {v : Rat} {a : Lin} (h : linOk a.2) : val (updX x n v) a = val x a + (cf a.2 n : Rat) * (v - x n) := by
 rw [val, val, ev_upd (linOk_iff.1 h).1]
 grind
/-- The bound that a constraint puts on a name. -/
noncomputable def bndR (y : ByteArray → Rat) (n : ByteArray) (c : Con) : Rat := -(val (updX y n 0) c.1) / (cf c.1.2 n : Rat)
theorem val_at {y : ByteArray → Rat} {n : ByteArray} {v : Rat} {a : Lin} (h : linOk a.2) : val (updX y n v) a = val (updX y n 0) a + (cf a.2 n : Rat) * v := by
 rw [val_upd h, val_upd h]
 grind
theorem val_self {y : ByteArray → Rat} {n : ByteArray} {a : Lin} (h : linOk a.2) : val y a = val (updX y n 0) a + (cf a.2 n : Rat) * y n := by
 rw [val_upd h]
 grind
theorem mul_le_of {A v b : Rat} (h : 0 < A) (h2 : 0 ≤ A * (v - b)) : b ≤ v := by
 apply Classical.byContradiction
 intro h3
 have h4 : 0 < b - v := by grind
 have := Rat.mul_pos h h4
 grind
theorem bndR_eq {y : ByteArray → Rat} {n : ByteArray} {c : Con} (h : cf c.1.2 n ≠ 0) : val (updX y n 0) c.1 = -((cf c.1.2 n : Rat) * bndR y n c) := by
 have : (cf c.1.2 n : Rat) ≠ 0 := by exact_mod_cast h
 unfold bndR
 grind
theorem scale_pos {p s : Rat} (hp : 0 < p) (h : 0 ≤ p * s) : 0 ≤ s := by
 have := mul_le_of (A := p) (v := s) (b := 0) hp (by grind)
 exact this
theorem pair_le {A C P Q b d Y : Rat} (h : A * P + C * Q = 0) (hh : 0 ≤ (-(A * b) + A * Y) * P + (-(C * d) + C * Y) * Q) : 0 ≤ P * A * (d - b) := by
 have e : (-(A * b) + A * Y) * P + (-(C * d) + C * Y) * Q = (C * Q) * (Y - d) + (A * P) * (Y - b) := by grind
 have e2 : C * Q = -(A * P) := by grind
 rw [e, e2] at hh
 have e3 : -(A * P) * (Y - d) + A * P * (Y - b) = P * A * (d - b) := by grind
 rw [← e3]
 exact hh
end Go.Proofs.Ytnddmjhpplopbaa
