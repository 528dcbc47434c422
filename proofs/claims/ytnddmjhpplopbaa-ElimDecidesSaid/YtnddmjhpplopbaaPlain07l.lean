/- Plain laws: every row of an elimination is returned; what it returns is exact. -/
import Derived.Test.YtnddmjhpplopbaaPlain07ij
set_option linter.unusedVariables false
set_option linter.unusedSimpArgs false
namespace Go.Proofs.Ytnddmjhpplopbaa
open Go.Abs Go.RowKit

/-! Rows stay. -/
def keepsR {α : Type} (step : α → List Row → List Row × Int) (l : List α) : Prop := ∀ x ∈ l, ∀ acc, (step x acc).2 = 0 → ∀ r ∈ acc, r ∈ (step x acc).1
theorem runE_keeps {α : Type} {step : α → List Row → List Row × Int} : ∀ {l : List α} {acc : List Row}, keepsR step l → (runE step l acc).2 = 0 → ∀ r ∈ acc, r ∈ (runE step l acc).1
 | [], acc, _, _, r, hr => hr
 |x :: l, acc, hk, h0, r, hr => by
  rw [runE_cons] at h0 ⊢
  split at h0
  ·rename_i h; exact absurd h0 h
  ·rename_i h
   rw [if_neg h]
   exact runE_keeps (fun y hy => hk y (List.mem_cons_of_mem _ hy)) h0 r (hk x List.mem_cons_self acc (Classical.not_not.1 h) r hr)
theorem runE_in {α : Type} {step : α → List Row → List Row × Int} : ∀ {l : List α} {acc : List Row}, keepsR step l → (runE step l acc).2 = 0 → ∀ x ∈ l, ∃ a, (step x a).2 = 0 ∧ ∀ r ∈ (step x a).1, r ∈ (runE step l acc).1
 | [], acc, _, _, x, hx => by cases hx
 |y :: l, acc, hk, h0, x, hx => by
  have hk' : keepsR step l := fun y hy => hk y (List.mem_cons_of_mem _ hy)
  rw [runE_cons] at h0 ⊢
  split at h0
  ·rename_i h; exact absurd h0 h
  ·rename_i h
   rw [if_neg h]
   rcases List.mem_cons.1 hx with rfl | hx
   ·exact ⟨acc, Classical.not_not.1 h, fun r hr => runE_keeps hk' h0 r hr⟩
   ·exact runE_in hk' h0 x hx
theorem stepD_in {l : List Con} {b : List Int} {acc : List Row} (h0 : (stepD l b acc).2 = 0) : ∃ c, conCombine l b = (c, 0) ∧ (c, b) ∈ (stepD l b acc).1 ∧ ∀ r ∈ acc, r ∈ (stepD l b acc).1 := by
 unfold stepD at h0 ⊢
 split at h0
 ·rename_i h; exact absurd h0 h
 ·rename_i h
  rw [if_neg h]
  have h1 := Classical.not_not.1 h
  unfold derS at h1 ⊢
  split at h1
  ·rename_i h2; exact absurd h1 h2
  ·rename_i h2
   rw [if_neg h2]
   exact ⟨(conCombine l b).1, Prod.ext rfl (Classical.not_not.1 h2), by simp, fun r hr => List.mem_append_left _ hr⟩
theorem stepQ_in {l : List Con} {n : ByteArray} {k i : Nat} {acc : List Row} (h0 : (stepQ l n k i acc).2 = 0) : (∀ r ∈ acc, r ∈ (stepQ l n k i acc).1) ∧
  (i ≠ k → cf (conAt l i).1.2 n = 0 → ∃ c, conCombine l (units2 l.length i 1 i 1) = (c, 0) ∧ (c, units2 l.length i 1 i 1) ∈ (stepQ l n k i acc).1) ∧
  (i ≠ k → cf (conAt l i).1.2 n ≠ 0 → ∃ p q c, p = (cancelX (cf (conAt l k).1.2 n) (cf (conAt l i).1.2 n)).1 ∧ q = (cancelX (cf (conAt l k).1.2 n) (cf (conAt l i).1.2 n)).2.1 ∧ (cancelX (cf (conAt l k).1.2 n) (cf (conAt l i).1.2 n)).2.2 = true ∧ conCombine l (units2 l.length i p k q) = (c, 0) ∧ (c, units2 l.length i p k q) ∈ (stepQ l n k i acc).1) := by
 unfold stepQ at h0 ⊢
 split at h0
 ·rename_i h2
  rw [if_pos h2]
  exact ⟨fun r hr => hr, fun h => absurd h2 h, fun h => absurd h2 h⟩
 ·rename_i h2
  rw [if_neg h2]
  split at h0
  ·rename_i h3
   rw [if_pos h3]
   obtain ⟨c, h4, h5, h6⟩ := stepD_in h0
   exact ⟨h6, fun _ _ => ⟨c, h4, h5⟩, fun _ h => absurd h3 h⟩
  ·rename_i h3
   rw [if_neg h3]
   split at h0
   ·cases h0
   ·rename_i h4
    rw [if_neg h4]
    obtain ⟨c, h5, h6, h7⟩ := stepD_in h0
    exact ⟨h7, fun _ h => absurd h h3, fun _ _ => ⟨_, _, c, rfl, rfl, by simpa using h4, h5, h6⟩⟩
theorem stepU_in {l : List Con} {n : ByteArray} {i k : Nat} {acc : List Row} (h0 : (stepU l n i k acc).2 = 0) : (∀ r ∈ acc, r ∈ (stepU l n i k acc).1) ∧
  ∃ p q c, p = (factorsX (cf (conAt l i).1.2 n) (cf (conAt l k).1.2 n)).1 ∧ q = (factorsX (cf (conAt l i).1.2 n) (cf (conAt l k).1.2 n)).2.1 ∧ (factorsX (cf (conAt l i).1.2 n) (cf (conAt l k).1.2 n)).2.2 = true ∧ conCombine l (units2 l.length i p k q) = (c, 0) ∧ (c, units2 l.length i p k q) ∈ (stepU l n i k acc).1 := by
 unfold stepU at h0 ⊢
 split at h0
 ·cases h0
 ·rename_i h4
  rw [if_neg h4]
  obtain ⟨c, h5, h6, h7⟩ := stepD_in h0
  exact ⟨h7, _, _, c, rfl, rfl, by simpa using h4, h5, h6⟩
/-- The multipliers of a row are not 0, and have the right sign. -/
theorem sgnF_pos {n : Nat} (h : (sgnE n false).2 = true) (hn : 0 < n) : 0 < (sgnE n false).1 := by
 rw [sgnE_ok h]
 simpa using hn
theorem part_pos {c d : Int} (hc : c ≠ 0) : 0 < c.natAbs / Nat.gcd c.natAbs d.natAbs ∧ 0 < c.natAbs / Nat.gcd d.natAbs c.natAbs := by
 have h0 : 0 < c.natAbs := by omega
 exact ⟨Nat.div_pos (Nat.le_of_dvd h0 (Nat.gcd_dvd_left _ _)) (Nat.gcd_pos_of_pos_left _ h0), Nat.div_pos (Nat.le_of_dvd h0 (Nat.gcd_dvd_right _ _)) (Nat.gcd_pos_of_pos_right _ h0)⟩
theorem cancelX_pos {c d : Int} (hc : c ≠ 0) (h : (cancelX c d).2.2 = true) : 0 < (cancelX c d).1 := by
 unfold cancelX at h ⊢
 simp only [Bool.and_eq_true] at h
 exact sgnF_pos h.1 (part_pos hc).1
theorem factorsX_pos {a b : Int} (ha : a ≠ 0) (hb : b ≠ 0) (h : (factorsX a b).2.2 = true) : 0 < (factorsX a b).1 ∧ 0 < (factorsX a b).2.1 := by
 unfold factorsX at h ⊢
 simp only [Bool.and_eq_true] at h
 exact ⟨sgnF_pos h.1 (part_pos hb).2, sgnF_pos h.2 (part_pos ha).1⟩
/-- Which rows Eliminate returns. -/
structure BackR (l : List Con) (n : ByteArray) (D : List Row) : Prop where
 lin : ∀ c ∈ l, linOk c.1.2
 unit : ∀ i (h : i < l.length), cf l[i].1.2 n = 0 → ∃ c, conCombine l (unitB l.length i) = (c, 0) ∧ (c, unitB l.length i) ∈ D
 step : (∃ k, ∃ hk : k < l.length, l[k].2 = true ∧ cf l[k].1.2 n ≠ 0 ∧ ∀ i (h : i < l.length), i ≠ k → cf l[i].1.2 n ≠ 0 → ∃ p q c, 0 < p ∧ cf l[i].1.2 n * p + cf l[k].1.2 n * q = 0 ∧ conCombine l (units2 l.length i p k q) = (c, 0) ∧ (c, units2 l.length i p k q) ∈ D) ∨
  ((∀ c ∈ l, cf c.1.2 n ≠ 0 → c.2 = false) ∧ ∀ i (hi : i < l.length) k (hk : k < l.length), 0 < cf l[i].1.2 n → cf l[k].1.2 n < 0 → ∃ p q c, 0 < p ∧ 0 < q ∧ cf l[i].1.2 n * p + cf l[k].1.2 n * q = 0 ∧ conCombine l (units2 l.length i p k q) = (c, 0) ∧ (c, units2 l.length i p k q) ∈ D)
theorem elimS_back {l : List Con} {n : ByteArray} (h0 : (elimS l n).2 = 0) : BackR l n (elimS l n).1 := by
 unfold elimS elimT at h0 ⊢
 split at h0
 ·cases h0
 ·rename_i h256
  rw [if_neg h256]
  split at h0
  ·cases h0
  ·rename_i h1
   rw [if_neg h1]
   have hlin : ∀ c ∈ l, linOk c.1.2 := Classical.not_not.1 fun h => h1 (.inl h)
   split at h0
   ·rename_i k hk
    obtain ⟨k1, _, k2, k3⟩ := eqIx_some hk
    simp only [Nat.sub_zero] at k1 k2 k3
    have hkeep : keepsR (stepQ l n k) (List.range l.length) := fun i _ acc h => (stepQ_in h).1
    have key := fun i (hi : i < l.length) => runE_in hkeep h0 i (List.mem_range.2 hi)
    refine ⟨hlin, fun i hi hz => ?_, .inl ⟨k, k1, k2, k3, fun i hi hik hz => ?_⟩⟩
    ·have hik : i ≠ k := by rintro rfl; exact k3 hz
     obtain ⟨a, ha, hin⟩ := key i hi
     obtain ⟨c, h4, h5⟩ := (stepQ_in ha).2.1 hik (by rw [conAt_get hi]; exact hz)
     rw [units_one] at h4 h5
     exact ⟨c, h4, hin _ h5⟩
    ·obtain ⟨a, ha, hin⟩ := key i hi
     obtain ⟨p, q, c, e1, e2, h3, h4, h5⟩ := (stepQ_in ha).2.2 hik (by rw [conAt_get hi]; exact hz)
     rw [conAt_get hi, conAt_get k1] at e1 e2 h3
     refine ⟨p, q, c, ?_, ?_, h4, hin _ h5⟩
     ·rw [e1]; exact cancelX_pos k3 h3
     ·rw [e1, e2]; exact cancelX_zero k3 h3
   ·rename_i hk
    unfold pairsS pairsT at h0 ⊢
    split at h0
    ·cases h0
    ·rename_i h2
     rw [if_neg h2]
     split at h0
     ·rename_i h3; exact absurd h0 h3
     ·rename_i h3
      rw [if_neg h3]
      have h3' := Classical.not_not.1 h3
      have hk1 : keepsR (fun i => stepD l (units2 l.length i 1 i 1)) (sgI 0 n l l.length) := fun i _ acc h => (stepD_in h).choose_spec.2.2
      have hk2 : ∀ i, keepsR (fun k => stepU l n i k) (sgI (-1) n l l.length) := fun i k _ acc h => (stepU_in h).1
      have hk3 : keepsR (fun i => runE (fun k => stepU l n i k) (sgI (-1) n l l.length)) (sgI 1 n l l.length) := fun i _ acc h => runE_keeps (hk2 i) h
      refine ⟨hlin, fun i hi hz => ?_, .inr ⟨eqIx_none hk, fun i hi k hk hip hkn => ?_⟩⟩
      ·obtain ⟨a, ha, hin⟩ := runE_in hk1 h3' i (mem_sgI hi (by rw [conAt_get hi, hz]; rfl))
       obtain ⟨c, h4, h5, _⟩ := stepD_in ha
       have := runE_keeps hk3 h0 _ (hin _ h5)
       rw [units_one] at h4 this
       exact ⟨c, h4, this⟩
      ·obtain ⟨a, ha, hin⟩ := runE_in hk3 h0 i (mem_sgI hi (by rw [conAt_get hi]; exact Int.sign_eq_one_iff_pos.2 hip))
       obtain ⟨a', ha', hin'⟩ := runE_in (hk2 i) ha k (mem_sgI hk (by rw [conAt_get hk]; exact Int.sign_eq_neg_one_iff_neg.2 hkn))
       obtain ⟨_, p, q, c, e1, e2, h3, h4, h5⟩ := stepU_in ha'
       rw [conAt_get hi, conAt_get hk] at e1 e2 h3
       have hpq := factorsX_pos (by omega) (by omega) h3
       refine ⟨p, q, c, ?_, ?_, ?_, h4, hin _ (hin' _ h5)⟩
       ·rw [e1]; exact hpq.1
       ·rw [e2]; exact hpq.2
       ·rw [e1, e2]; exact factorsX_zero hip hkn h3
/-! Values where one variable is changed. -/
def updX (x : ByteArray → Rat) (n : ByteArray) (v : Rat) : ByteArray → Rat := fun m => if m = n then v else x m
theorem ev_upd0 {x : ByteArray → Rat} {n : ByteArray} {v : Rat} : ∀ {l : List Mono}, (∀ m ∈ l, m.1 ≠ n) → ev (updX x n v) l = ev x l
 | [], _ => rfl
 |m :: l, h => by
  rw [ev, ev, ev_upd0 fun y hy => h y (List.mem_cons_of_mem _ hy), updX, if_neg (h m List.mem_cons_self)]
theorem ev_upd {x : ByteArray → Rat} {n : ByteArray} {v : Rat} : ∀ {l : List Mono}, srt l → ev (updX x n v) l = ev x l + (cf l n : Rat) * (v - x n)
 | [], _ => by simp [ev, cf, Rat.zero_mul, Rat.add_zero]
 |m :: l, h => by
  have hs : srt l := (List.pairwise_cons.1 h).2
  have hlt := (List.pairwise_cons.1 h).1
  rw [ev, ev, cf]
  by_cases he : m.1 = n
  ·rw [if_pos he, ev_upd0 fun y hy e => by have := hlt y hy; rw [he, e] at this; exact sless_irrefl _ this, updX, if_pos he, he]
   grind
  ·rw [if_neg he, ev_upd hs, updX, if_neg he]
   grind
theorem val_upd {x : ByteArray → Rat} {n : ByteArray} {v : Rat} {a : Lin} (h : linOk a.2) : val (updX x n v) a = val x a + (cf a.2 n : Rat) * (v - x n) := by
 rw [val, val, ev_upd (linOk_iff.1 h).1]
 grind
theorem dotV_mix {z : ByteArray → Rat} {x y : Int} : ∀ {T : List Con} {a b : List Int}, a.length = T.length → b.length = T.length → dotV z (T.zip (mixB x y a b)) = dotV z (T.zip a) * x + dotV z (T.zip b) * y
 | [], a, b, _, _ => by simp [dotV, Rat.zero_mul, Rat.add_zero]
 | t :: T, [], b, h, _ => by simp at h
 | t :: T, _ :: _, [], _, h => by simp at h
 |t :: T, u :: a, w :: b, h1, h2 => by
  have ih := dotV_mix (z := z) (x := x) (y := y) (T := T) (a := a) (b := b) (by simpa using h1) (by simpa using h2)
  simp only [mixB, List.zip_cons_cons, List.map_cons, dotV] at ih ⊢
  rw [ih, Rat.intCast_add, Rat.intCast_mul, Rat.intCast_mul]
  grind
theorem dotV_zeros {z : ByteArray → Rat} : ∀ {T : List Con} {n : Nat}, dotV z (T.zip (List.replicate n 0)) = 0
 | [], n => by simp [dotV]
 | t :: T, 0 => by simp [dotV]
 |t :: T, n + 1 => by
  rw [List.replicate_succ, List.zip_cons_cons, dotV, dotV_zeros]
  simp [Rat.mul_zero, Rat.add_zero]
theorem unit_dotV {z : ByteArray → Rat} : ∀ {T : List Con} {k : Nat} (h : k < T.length), dotV z (T.zip (unitB T.length k)) = val z T[k].1
 | [], k, h => by simp at h
 |t :: T, 0, h => by
  rw [List.length_cons, unitB_zero, List.zip_cons_cons, dotV, dotV_zeros]
  simp [Rat.mul_one, Rat.add_zero]
 |t :: T, k + 1, h => by
  rw [List.length_cons, unitB_succ, List.zip_cons_cons, dotV, unit_dotV (by simpa using h)]
  simp [Rat.mul_zero, Rat.zero_add]
theorem val_units2 {z : ByteArray → Rat} {l : List Con} {i k : Nat} {x y : Int} {c : Con} (hi : i < l.length) (hk : k < l.length) (hik : i ≠ k) (h : conCombine l (units2 l.length i x k y) = (c, 0)) : val z c.1 = val z l[i].1 * x + val z l[k].1 * y := by
 rw [conCombine_val h, units2_mix hik, dotV_mix (unitB_len _ _) (unitB_len _ _), unit_dotV hi, unit_dotV hk]
/-! What Eliminate returns is exact. -/
/-- The bound that a constraint puts on a name. -/
noncomputable def bndR (y : ByteArray → Rat) (n : ByteArray) (c : Con) : Rat := -(val (updX y n 0) c.1) / (cf c.1.2 n : Rat)
def isLow (n : ByteArray) (c : Con) : Prop := cf c.1.2 n ≠ 0 ∧ (0 < cf c.1.2 n ∨ c.2 = true)
def isUp (n : ByteArray) (c : Con) : Prop := cf c.1.2 n ≠ 0 ∧ (cf c.1.2 n < 0 ∨ c.2 = true)
theorem val_at {y : ByteArray → Rat} {n : ByteArray} {v : Rat} {a : Lin} (h : linOk a.2) : val (updX y n v) a = val (updX y n 0) a + (cf a.2 n : Rat) * v := by
 rw [val_upd h, val_upd h]
 grind
theorem val_self {y : ByteArray → Rat} {n : ByteArray} {a : Lin} (h : linOk a.2) : val y a = val (updX y n 0) a + (cf a.2 n : Rat) * y n := by
 rw [val_upd h]
 grind
theorem eqR_units2 {l : List Con} {i k : Nat} {x y : Int} (hi : i < l.length) (hk : k < l.length) (h1 : l[i].2 = true) (h2 : l[k].2 = true) : eqR (l.zip (units2 l.length i x k y)) = true := by
 refine eqR_iff.2 fun p hp => ?_
 obtain ⟨j, h3, h4, rfl⟩ := zip_at hp
 simp only [units2_get]
 by_cases e : i = j
 ·subst e; exact .inl h1
 ·by_cases e' : k = j
  ·subst e'; exact .inl h2
  ·rw [if_neg e, if_neg e']; exact .inr rfl
theorem mul_le_of {A v b : Rat} (h : 0 < A) (h2 : 0 ≤ A * (v - b)) : b ≤ v := by
 apply Classical.byContradiction
 intro h3
 have h4 : 0 < b - v := by grind
 have := Rat.mul_pos h h4
 grind
theorem exact_zero {l : List Con} {n : ByteArray} {D : List Row} (hb : BackR l n D) {y : ByteArray → Rat} (hD : ∀ r ∈ D, holds y r.1) : ∀ c ∈ l, cf c.1.2 n = 0 → holds y c := by
 intro c hc hz
 obtain ⟨i, hi, rfl⟩ := List.mem_iff_getElem.1 hc
 obtain ⟨c, h1, h2⟩ := hb.unit i hi hz
 have h3 := hD _ h2
 have h4 : val y c.1 = val y l[i].1 := by rw [conCombine_val h1, unit_dotV hi]
 refine ⟨by rw [← h4]; exact h3.1, fun hq => ?_⟩
 rw [← h4]
 refine h3.2 ?_
 rw [(conCombine_spec h1).2.2.2.2.2, ← units_one]
 exact eqR_units2 hi hi hq hq
theorem bndR_eq {y : ByteArray → Rat} {n : ByteArray} {c : Con} (h : cf c.1.2 n ≠ 0) : val (updX y n 0) c.1 = -((cf c.1.2 n : Rat) * bndR y n c) := by
 have : (cf c.1.2 n : Rat) ≠ 0 := by exact_mod_cast h
 unfold bndR
 grind
theorem low_le {y : ByteArray → Rat} {n : ByteArray} {c : Con} {v : Rat} (hc : linOk c.1.2) (h : isLow n c) (hv : holds (updX y n v) c) : bndR y n c ≤ v := by
 obtain ⟨h1, h2⟩ := hv
 rw [val_at hc, bndR_eq h.1] at h1 h2
 by_cases hp : 0 < cf c.1.2 n
 ·exact mul_le_of (Rat.intCast_pos.2 hp) (by grind)
 ·have h3 := h2 (h.2.resolve_left hp)
  have h4 : 0 < -(cf c.1.2 n) := by have := h.1; omega
  have h5 := Rat.intCast_pos.2 h4
  exact mul_le_of h5 (by rw [Rat.intCast_neg]; grind)
theorem le_up {y : ByteArray → Rat} {n : ByteArray} {c : Con} {v : Rat} (hc : linOk c.1.2) (h : isUp n c) (hv : holds (updX y n v) c) : v ≤ bndR y n c := by
 obtain ⟨h1, h2⟩ := hv
 rw [val_at hc, bndR_eq h.1] at h1 h2
 by_cases hp : cf c.1.2 n < 0
 ·have h4 : 0 < -(cf c.1.2 n) := by omega
  exact mul_le_of (Rat.intCast_pos.2 h4) (by rw [Rat.intCast_neg]; grind)
 ·have h3 := h2 (h.2.resolve_left hp)
  have h5 := (Rat.intCast_pos (a := cf c.1.2 n)).2 (by have := h.1; omega)
  exact mul_le_of h5 (by grind)
theorem scale_pos {p s : Rat} (hp : 0 < p) (h : 0 ≤ p * s) : 0 ≤ s := by
 have := mul_le_of (A := p) (v := s) (b := 0) hp (by grind)
 exact this
/-- By an equation: its value for the name satisfies all. -/
theorem exact_eq {l : List Con} {n : ByteArray} {D : List Row} (hl : ∀ c ∈ l, linOk c.1.2) {y : ByteArray → Rat} (hD : ∀ r ∈ D, holds y r.1) {k : Nat} (hk : k < l.length) (h1 : l[k].2 = true) (h2 : cf l[k].1.2 n ≠ 0)
  (h3 : ∀ i (h : i < l.length), i ≠ k → cf l[i].1.2 n ≠ 0 → ∃ p q c, 0 < p ∧ cf l[i].1.2 n * p + cf l[k].1.2 n * q = 0 ∧ conCombine l (units2 l.length i p k q) = (c, 0) ∧ (c, units2 l.length i p k q) ∈ D) :
  ∀ c ∈ l, cf c.1.2 n ≠ 0 → holds (updX y n (bndR y n l[k])) c := by
 intro c hc h0
 obtain ⟨i, hi, rfl⟩ := List.mem_iff_getElem.1 hc
 have hk0 : val (updX y n (bndR y n l[k])) l[k].1 = 0 := by
  rw [val_at (hl _ (List.getElem_mem hk)), bndR_eq h2]
  grind
 by_cases hik : i = k
 ·subst hik
  exact ⟨by rw [hk0]; exact Rat.le_refl, fun _ => hk0⟩
 ·obtain ⟨p, q, c, p0, pq, hcc, hin⟩ := h3 i hi hik h0
  have hh := hD _ hin
  have e := fun z => val_units2 (z := z) hi hk hik hcc
  have hpq : (cf l[i].1.2 n : Rat) * (p : Rat) + (cf l[k].1.2 n : Rat) * (q : Rat) = 0 := by
   rw [← Rat.intCast_mul, ← Rat.intCast_mul, ← Rat.intCast_add, pq]; rfl
  have hp := Rat.intCast_pos.2 p0
  have e1 : val y c.1 = (p : Rat) * val (updX y n (bndR y n l[k])) l[i].1 := by
   have e0 : val (updX y n (bndR y n l[k])) c.1 = val y c.1 := by
    rw [e, e, val_upd (hl _ (List.getElem_mem hi)), val_upd (hl _ (List.getElem_mem hk))]
    grind
   rw [← e0, e, hk0]
   grind
  refine ⟨scale_pos hp (by rw [← e1]; exact hh.1), fun hq => ?_⟩
  have h4 : c.2 = true := by
   rw [(conCombine_spec hcc).2.2.2.2.2]
   exact eqR_units2 hi hk hq h1
  have h5 := hh.2 h4
  rw [e1] at h5
  rcases Rat.mul_eq_zero.1 h5 with h6 | h6
  ·rw [h6] at hp; exact absurd hp Rat.lt_irrefl
  ·exact h6
theorem pair_le {A C P Q b d Y : Rat} (h : A * P + C * Q = 0) (hh : 0 ≤ (-(A * b) + A * Y) * P + (-(C * d) + C * Y) * Q) : 0 ≤ P * A * (d - b) := by
 have e : (-(A * b) + A * Y) * P + (-(C * d) + C * Y) * Q = (C * Q) * (Y - d) + (A * P) * (Y - b) := by grind
 have e2 : C * Q = -(A * P) := by grind
 rw [e, e2] at hh
 have e3 : -(A * P) * (Y - d) + A * P * (Y - b) = P * A * (d - b) := by grind
 rw [← e3]
 exact hh
/-- The bounds leave a value. -/
theorem exact_le {l : List Con} {n : ByteArray} {D : List Row} (hb : BackR l n D) {y : ByteArray → Rat} (hD : ∀ r ∈ D, holds y r.1) {a c : Con} (ha : a ∈ l) (hc : c ∈ l) (hla : isLow n a) (huc : isUp n c) : bndR y n a ≤ bndR y n c := by
 rcases hb.step with ⟨k, hk, h1, h2, h3⟩ | ⟨h1, h2⟩
 ·have := exact_eq hb.lin hD hk h1 h2 h3
  exact Rat.le_trans (low_le (hb.lin a ha) hla (this a ha hla.1)) (le_up (hb.lin c hc) huc (this c hc huc.1))
 ·have ga : 0 < cf a.1.2 n := hla.2.resolve_right (by rw [h1 a ha hla.1]; simp)
  have gc : cf c.1.2 n < 0 := huc.2.resolve_right (by rw [h1 c hc huc.1]; simp)
  obtain ⟨i, hi, rfl⟩ := List.mem_iff_getElem.1 ha
  obtain ⟨k, hk, rfl⟩ := List.mem_iff_getElem.1 hc
  obtain ⟨p, q, c, p0, q0, pq, hcc, hin⟩ := h2 i hi k hk ga gc
  have hik : i ≠ k := by rintro rfl; omega
  have hh := (hD _ hin).1
  rw [val_units2 hi hk hik hcc, val_self (n := n) (hb.lin _ ha), val_self (n := n) (hb.lin _ hc), bndR_eq hla.1, bndR_eq huc.1] at hh
  have hpq : (cf l[i].1.2 n : Rat) * (p : Rat) + (cf l[k].1.2 n : Rat) * (q : Rat) = 0 := by
   rw [← Rat.intCast_mul, ← Rat.intCast_mul, ← Rat.intCast_add, pq]; rfl
  have hp := Rat.mul_pos (Rat.intCast_pos.2 p0) (Rat.intCast_pos.2 ga)
  exact mul_le_of hp (pair_le hpq hh)
end Go.Proofs.Ytnddmjhpplopbaa
