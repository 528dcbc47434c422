/- Plain laws: combinations of small numbers do not fail; copies of one constraint. -/
import Derived.Test.YtnddmjhpplopbaaPlain07ij
set_option linter.unusedVariables false
set_option linter.unusedSimpArgs false
namespace Go.Proofs.Ytnddmjhpplopbaa
open Go.Abs Go.RowKit

theorem in64_abs {x : Int} (h : x.natAbs ≤ 9223372036854775807) : in64 x := by unfold in64; omega
theorem combS_fine {B M : Nat} : ∀ {l : List (Con × Int)} {out : Lin} {eq : Bool} {A : Nat}, linOk out.2 → out.1.natAbs ≤ A → (∀ n, (cf out.2 n).natAbs ≤ A) →
  (∀ p ∈ l, linOk p.1.1.2 ∧ p.1.1.1.natAbs ≤ B ∧ (∀ m ∈ p.1.1.2, m.2.natAbs ≤ B) ∧ p.2.natAbs ≤ M) → A + l.length * (B * M) ≤ 9223372036854775807 → (combS out eq l).2 = 0
 | [], out, eq, A, _, _, _, _, _ => rfl
 |p :: r, out, eq, A, ho, hk, hc, hl, hA => by
  obtain ⟨p1, p2, p3, p4⟩ := hl p List.mem_cons_self
  rw [List.length_cons, Nat.add_mul, Nat.one_mul] at hA
  have hmul : ∀ x : Int, x.natAbs ≤ B → (x * p.2).natAbs ≤ B * M := fun x hx => by rw [Int.natAbs_mul]; exact Nat.mul_le_mul hx p4
  have hs1 : (scaleV p.1.1 p.2).1.natAbs ≤ B * M := by rw [scaleV_fst]; exact hmul _ p2
  have hs2 : ∀ n, (cf (scaleV p.1.1 p.2).2 n).natAbs ≤ B * M := fun n => by rw [scaleV_cf]; exact hmul _ (cf_natAbs p3 n)
  have hsc : scaleOk p.1.1 p.2 := ⟨in64_abs (Nat.le_trans (hmul _ p2) (by omega)), fun m hm => in64_abs (Nat.le_trans (hmul _ (p3 m hm)) (by omega))⟩
  have hso := scaleV_ok (b := p.2) p1
  obtain ⟨m1, m2, m3⟩ := mergeX_spec out.2 (scaleV p.1.1 p.2).2 (linOk_iff.1 ho).1 (linOk_iff.1 hso).1
  have hadd : ∀ x y : Int, x.natAbs ≤ A → y.natAbs ≤ B * M → (x + y).natAbs ≤ A + B * M := fun x y hx hy => Nat.le_trans (Int.natAbs_add_le x y) (by omega)
  have hao : addOk out (scaleV p.1.1 p.2) := by
   refine ⟨in64_abs (Nat.le_trans (hadd _ _ hk hs1) (by omega)), fun t ht => ?_⟩
   obtain ⟨t1, t2, _⟩ := m2 t ht
   rw [t1, t2]
   exact in64_abs (Nat.le_trans (hadd _ _ (hc _) (hs2 _)) (by omega))
  rw [combS, if_neg (by rintro (h | h); exact h (.inr hsc); exact h hao)]
  refine combS_fine (A := A + B * M) (addV_ok ho hso) (hadd _ _ hk hs1) (fun n => ?_) (fun q hq => hl q (List.mem_cons_of_mem _ hq)) (by omega)
  rw [addV_cf (linOk_iff.1 ho).1 (linOk_iff.1 hso).1]
  exact hadd _ _ (hc n) (hs2 n)
theorem conCombine_fine {l : List Con} {b : List Int} {B M : Nat} (hlen : l.length = b.length) (hok : ∀ p ∈ l.zip b, okC p) (hB : ∀ d ∈ l, d.1.1.natAbs ≤ B ∧ ∀ m ∈ d.1.2, m.2.natAbs ≤ B) (hM : ∀ x ∈ b, x.natAbs ≤ M) (hA : l.length * (B * M) ≤ 9223372036854775807) : (conCombine l b).2 = 0 := by
 rw [conCombine, if_neg (not_not_intro hlen), if_neg (by rintro ⟨p, hp, hb⟩; exact okC_not.2 (hok p hp) hb)]
 refine combS_fine (A := 0) (B := B) (M := M) (linOk_iff.2 ⟨by simp [srt], by simp⟩) (by simp) (by simp [cf]) (fun p hp => ?_) ?_
 ·obtain ⟨h1, h2⟩ := hB _ (List.of_mem_zip hp).1
  exact ⟨(hok p hp).1, h1, h2, hM _ (List.of_mem_zip hp).2⟩
 ·rw [List.length_zip, ← hlen, Nat.min_self]
  omega
theorem runE_len {α : Type} {step : α → List Row → List Row × Int} {w : Nat} : ∀ {l : List α} {acc : List Row}, (∀ x ∈ l, ∀ acc, (step x acc).2 = 0 ∧ (step x acc).1.length = acc.length + w) → (runE step l acc).2 = 0 ∧ (runE step l acc).1.length = acc.length + l.length * w
 | [], acc, _ => ⟨rfl, by simp [runE]⟩
 |x :: l, acc, h => by
  obtain ⟨h1, h2⟩ := h x List.mem_cons_self acc
  obtain ⟨h3, h4⟩ := runE_len (acc := (step x acc).1) fun y hy => h y (List.mem_cons_of_mem _ hy)
  rw [runE_cons, if_neg (not_not_intro h1)]
  exact ⟨h3, by rw [h4, h2, List.length_cons, Nat.add_mul]; omega⟩
/-- Copies of one constraint, the first ones a lower bound. -/
def limL (lower k : Nat) : List Con := (List.range k).map fun i => ((0, [(nI, if i < lower then 1 else -1)]), false)
theorem limL_succ (lower k : Nat) : limL lower (k + 1) = limL lower k ++ [((0, [(nI, if k < lower then 1 else -1)]), false)] := by
 rw [limL, List.range_succ, List.map_append]
 rfl
theorem limL_len (lower k : Nat) : (limL lower k).length = k := by simp [limL]
theorem limL_mem {lower k : Nat} {c : Con} (h : c ∈ limL lower k) : ∃ x : Int, (x = 1 ∨ x = -1) ∧ c = ((0, [(nI, x)]), false) := by
 obtain ⟨i, _, rfl⟩ := List.mem_map.1 h
 refine ⟨_, ?_, rfl⟩
 split
 ·exact .inl rfl
 ·exact .inr rfl
theorem limL_ok {lower k : Nat} : ∀ c ∈ limL lower k, linOk c.1.2 ∧ con64 c := by
 intro c hc
 obtain ⟨x, hx, rfl⟩ := limL_mem hc
 refine ⟨lin_I (by rcases hx with rfl | rfl <;> decide), by show in64 0; exact in64_zero, fun m hm => ?_⟩
 simp only [List.mem_singleton] at hm
 subst hm
 rcases hx with rfl | rfl <;> simp [in64]
theorem limL_tot {lower k : Nat} : tot (limL lower k) = k := by
 induction k with
 | zero => rfl
 | succ k ih =>
  have tot_append : ∀ {l m : List Con}, tot (l ++ m) = tot l + tot m := by
   intro l m
   induction l with
   | nil => simp [tot]
   | cons c l ih => rw [List.cons_append, tot, tot, ih]; omega
  rw [limL_succ, tot_append, ih]
  rfl
theorem limL_at {lower k i : Nat} (h : i < k) : conAt (limL lower k) i = ((0, [(nI, if i < lower then 1 else -1)]), false) := by
 rw [conAt_get (by rw [limL_len]; exact h)]
 simp [limL]
theorem limL_cf {lower k i : Nat} (h : i < k) : cf (conAt (limL lower k) i).1.2 nI = if i < lower then 1 else -1 := by
 rw [limL_at h]
 simp [cf]
theorem limL_sg0 {lower k : Nat} : sgI 0 nI (limL lower k) k = [] := by
 refine List.eq_nil_iff_forall_not_mem.2 fun i hi => ?_
 obtain ⟨h1, h2⟩ := sgI_lt hi
 rw [limL_cf h1] at h2
 split at h2 <;> cases h2
theorem sgI_count {lower k : Nat} : ∀ {m : Nat}, m ≤ k → (sgI 1 nI (limL lower k) m).length = min m lower ∧ (sgI (-1) nI (limL lower k) m).length = m - lower
 | 0, _ => by simp [sgI]
 |m + 1, h => by
  obtain ⟨h1, h2⟩ := sgI_count (lower := lower) (k := k) (m := m) (by omega)
  rw [sgI_succ, sgI_succ, limL_cf (by omega)]
  by_cases hm : m < lower
  ·rw [if_pos hm, if_pos (by decide), if_neg (by decide), List.length_append, h1, h2]
   simp
   omega
  ·rw [if_neg hm, if_neg (by decide), if_pos (by decide), List.length_append, h1, h2]
   simp
   omega
theorem limL_none {lower k : Nat} : eqIx nI 0 (limL lower k) = none := by
 have : ∀ {l : List Con} {j : Nat}, (∀ c ∈ l, c.2 = false) → eqIx nI j l = none := by
  intro l
  induction l with
  | nil => intro j _; rfl
  | cons c l ih =>
   intro j h
   rw [eqIx, if_neg (by rw [h c List.mem_cons_self]; simp)]
   exact ih fun d hd => h d (List.mem_cons_of_mem _ hd)
 refine this fun c hc => ?_
 obtain ⟨x, _, rfl⟩ := limL_mem hc
 rfl
theorem factors_one : factorsX 1 (-1) = (1, 1, true) := by simp [factorsX, sgnE]
theorem limL_step {lower k i j : Nat} {acc : List Row} (hi : i ∈ sgI 1 nI (limL lower k) k) (hj : j ∈ sgI (-1) nI (limL lower k) k) (hk : k ≤ 300) : (stepU (limL lower k) nI i j acc).2 = 0 ∧ (stepU (limL lower k) nI i j acc).1.length = acc.length + 1 := by
 obtain ⟨i1, i2⟩ := sgI_lt hi
 obtain ⟨j1, j2⟩ := sgI_lt hj
 have ci : cf (conAt (limL lower k) i).1.2 nI = 1 := by
  rw [limL_cf i1] at i2 ⊢
  split at i2
  ·rename_i h; rw [if_pos h]
  ·cases i2
 have cj : cf (conAt (limL lower k) j).1.2 nI = -1 := by
  rw [limL_cf j1] at j2 ⊢
  split at j2
  ·cases j2
  ·rename_i h; rw [if_neg h]
 have hal : allLin (limL lower k) := fun c hc => (limL_ok c hc).1
 have h0 : (conCombine (limL lower k) (units2 (limL lower k).length i 1 j 1)).2 = 0 := by
  refine conCombine_fine (B := 1) (M := 1) units2_len.symm (units2_ok hal (.inl (by decide)) (.inl (by decide))) (fun d hd => ?_) (units2_abs (by decide) (by decide)) (by rw [limL_len]; omega)
  obtain ⟨x, hx, rfl⟩ := limL_mem hd
  refine ⟨by simp, fun m hm => ?_⟩
  simp only [List.mem_singleton] at hm
  subst hm
  rcases hx with rfl | rfl <;> simp
 have hd : (derS (limL lower k) (units2 (limL lower k).length i 1 j 1)).2 = 0 := by rw [derS, if_neg (not_not_intro h0)]
 rw [stepU, ci, cj, factors_one, if_neg (by simp)]
 simp only
 rw [stepD, if_neg (not_not_intro hd)]
 simp
/-- What Eliminate answers to the copies. -/
theorem limL_elim {lower k : Nat} (hk : k ≤ 300) : (256 < k ∨ 256 < min k lower * (k - lower) → elimS (limL lower k) nI = ([], 2)) ∧ (¬ 256 < k → ¬ 256 < min k lower * (k - lower) → (elimS (limL lower k) nI).2 = 0 ∧ (elimS (limL lower k) nI).1.length = min k lower * (k - lower)) := by
 have hal : allLin (limL lower k) := fun c hc => (limL_ok c hc).1
 obtain ⟨s1, s2⟩ := sgI_count (lower := lower) (k := k) (Nat.le_refl k)
 unfold elimS
 rw [limL_len]
 by_cases h : 256 < k
 ·rw [if_pos h]
  exact ⟨fun _ => rfl, fun h' => absurd h h'⟩
 ·rw [if_neg h, elimT, if_neg (by rintro (h' | h'); exact h' hal; exact h' idI), limL_none]
  simp only
  unfold pairsS pairsT
  rw [limL_len, limL_sg0, s1, s2]
  simp only [List.length_nil, Nat.zero_add]
  by_cases h2 : 256 < min k lower * (k - lower)
  ·rw [if_pos h2]
   exact ⟨fun _ => rfl, fun _ h' => absurd h2 h'⟩
  ·rw [if_neg h2, if_neg (by simp [runE])]
   refine ⟨fun h' => (h'.elim h h2).elim, fun _ _ => ?_⟩
   have := runE_len (step := fun i => runE (fun k' => stepU (limL lower k) nI i k') (sgI (-1) nI (limL lower k) k)) (w := k - lower) (l := sgI 1 nI (limL lower k) k) (acc := []) fun i hi acc => by
    have := runE_len (step := fun k' => stepU (limL lower k) nI i k') (w := 1) (l := sgI (-1) nI (limL lower k) k) (acc := acc) fun j hj acc => limL_step hi hj hk
    rw [s2, Nat.mul_one] at this
    exact this
   rw [s1] at this
   simpa [runE] using this
theorem tightG_fine : ∀ {l acc : List Con}, (∀ c ∈ l, (tightS c).2.2 = 0) → (tightG acc l).2 = 0
 | [], acc, _ => rfl
 |c :: l, acc, h => by
  rw [tightG, if_neg (not_not_intro (h c List.mem_cons_self))]
  exact tightG_fine fun d hd => h d (List.mem_cons_of_mem _ hd)
theorem limL_tight {lower k : Nat} : (tightL (limL lower k)).2 = if 256 < k then 2 else 0 := by
 rw [tightL, limL_len]
 split
 ·rfl
 ·refine tightG_fine fun c hc => ?_
  obtain ⟨x, hx, rfl⟩ := limL_mem hc
  have hl : linOk [(nI, x)] := lin_I (by rcases hx with rfl | rfl <;> decide)
  simp [tightS, hl]
theorem limL_inf {lower k : Nat} : (infS (limL lower k) (-1)).2.2 = if 256 < k then 2 else 1 := by
 rw [infS, limL_tight]
 by_cases h : 256 < k
 ·rw [if_pos h, if_pos h, if_pos (by decide)]
 ·rw [if_neg h, if_neg h, if_neg (by decide), if_pos (by omega)]
theorem limL_check {lower k : Nat} : checkS (limL lower k) (List.replicate k 0) = if 256 < k then 2 else 17 := by
 have h1 := limL_tight (lower := lower) (k := k)
 rw [checkS]
 by_cases h : 256 < k
 ·rw [if_pos h] at h1 ⊢
  rw [h1, if_pos (by decide)]
 ·rw [if_neg h] at h1 ⊢
  rw [h1, if_neg (by decide)]
  have ht : tightL (limL lower k) = ((tightL (limL lower k)).1, 0) := Prod.ext rfl h1
  have hlen := (tightL_spec ht).1
  have hok := tightL_ok ht (fun c hc => (limL_ok c hc).2)
  rw [limL_len] at hlen
  generalize (tightL (limL lower k)).1 = t at *
  have e : conCombine t (List.replicate k 0) = (((0, []), true), 0) := by
   rw [conCombine, if_neg (by simp [hlen]), if_neg, combS_zeros ⟨in64_zero, by simp⟩ (by simp)]
   rintro ⟨p, hp, hb⟩
   rcases hb with hb | hb
   ·exact hb (hok _ (List.of_mem_zip hp).1).1
   ·have := List.eq_of_mem_replicate (List.of_mem_zip hp).2
    omega
  rw [e, if_neg (by simp), if_neg (by simp [conBad])]
end Go.Proofs.Ytnddmjhpplopbaa
