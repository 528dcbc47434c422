/- Plain laws: the search on few small constraints ends, and answers rightly. -/
import Derived.Test.YtnddmjhpplopbaaPlain07m
set_option linter.unusedVariables false
set_option linter.unusedSimpArgs false
namespace Go.Proofs.Ytnddmjhpplopbaa
open Go.Abs Go.RowKit

/-! A value for the name that is gone. -/
theorem back_eq {L : List Con} {n : ByteArray} {y : ByteArray → Rat} {c0 : Con} (hl : ∀ c ∈ L, linOk c.1.2) (hc0 : c0 ∈ L) (h1 : c0.2 = true) (h2 : cf c0.1.2 n ≠ 0)
  (hz : ∀ c ∈ L, cf c.1.2 n = 0 → holds y c) (hm : ∀ c ∈ L, cf c.1.2 n ≠ 0 → c = c0 ∨ MixH n c c0 y) : ∀ c ∈ L, holds (updX y n (bndR y n c0)) c := by
 intro c hc
 by_cases h0 : cf c.1.2 n = 0
 ·have e : val (updX y n (bndR y n c0)) c.1 = val y c.1 := by
   rw [val_upd (hl c hc), h0]
   simp [Rat.zero_mul, Rat.add_zero]
  have := hz c hc h0
  exact ⟨by rw [e]; exact this.1, by rw [e]; exact this.2⟩
 ·have hk0 : val (updX y n (bndR y n c0)) c0.1 = 0 := by
   rw [val_at (hl _ hc0), bndR_eq h2]
   grind
  rcases hm c hc h0 with rfl | ⟨p, q, p0, pq, hh1, hh2⟩
  ·exact ⟨by rw [hk0]; exact Rat.le_refl, fun _ => hk0⟩
  ·have hpq : (cf c.1.2 n : Rat) * (p : Rat) + (cf c0.1.2 n : Rat) * (q : Rat) = 0 := by
    rw [← Rat.intCast_mul, ← Rat.intCast_mul, ← Rat.intCast_add, pq]; rfl
   have hp := Rat.intCast_pos.2 p0
   have e1 : val y c.1 * (p : Rat) + val y c0.1 * (q : Rat) = (p : Rat) * val (updX y n (bndR y n c0)) c.1 := by
    have e0 : val (updX y n (bndR y n c0)) c.1 * (p : Rat) + val (updX y n (bndR y n c0)) c0.1 * (q : Rat) = val y c.1 * (p : Rat) + val y c0.1 * (q : Rat) := by
     rw [val_upd (hl _ hc), val_upd (hl _ hc0)]
     grind
    rw [← e0, hk0]
    grind
   rw [e1] at hh1 hh2
   refine ⟨scale_pos hp hh1, fun hq => ?_⟩
   rcases Rat.mul_eq_zero.1 (hh2 hq h1) with h6 | h6
   ·rw [h6] at hp; exact absurd hp Rat.lt_irrefl
   ·exact h6
theorem le_all : ∀ (B : List Rat), ∃ v : Rat, ∀ b ∈ B, v ≤ b
 | [] => ⟨0, by simp⟩
 |b :: B => by
  obtain ⟨v, hv⟩ := le_all B
  rcases Rat.le_total (a := v) (b := b) with h | h
  ·refine ⟨v, fun c hc => ?_⟩
   rcases List.mem_cons.1 hc with rfl | hc
   ·exact h
   ·exact hv c hc
  ·refine ⟨b, fun c hc => ?_⟩
   rcases List.mem_cons.1 hc with rfl | hc
   ·exact Rat.le_refl
   ·exact Rat.le_trans h (hv c hc)
theorem between : ∀ (A B : List Rat), (∀ a ∈ A, ∀ b ∈ B, a ≤ b) → ∃ v : Rat, (∀ a ∈ A, a ≤ v) ∧ ∀ b ∈ B, v ≤ b
 |[], B, _ => by
  obtain ⟨v, hv⟩ := le_all B
  exact ⟨v, by simp, hv⟩
 |a :: A, B, h => by
  obtain ⟨v, h1, h2⟩ := between A B fun x hx => h x (List.mem_cons_of_mem _ hx)
  rcases Rat.le_total (a := v) (b := a) with h3 | h3
  ·refine ⟨a, fun x hx => ?_, h a List.mem_cons_self⟩
   rcases List.mem_cons.1 hx with rfl | hx
   ·exact Rat.le_refl
   ·exact Rat.le_trans (h1 x hx) h3
  ·refine ⟨v, fun x hx => ?_, h2⟩
   rcases List.mem_cons.1 hx with rfl | hx
   ·exact h3
   ·exact h1 x hx
theorem back_le {L : List Con} {n : ByteArray} {y : ByteArray → Rat} (hl : ∀ c ∈ L, linOk c.1.2) (hz : ∀ c ∈ L, cf c.1.2 n = 0 → holds y c) (he : ∀ c ∈ L, cf c.1.2 n ≠ 0 → c.2 = false)
  (hm : ∀ a ∈ L, ∀ b ∈ L, 0 < cf a.1.2 n → cf b.1.2 n < 0 → ∃ q : Int, 0 < q ∧ ∃ p : Int, 0 < p ∧ cf a.1.2 n * p + cf b.1.2 n * q = 0 ∧ 0 ≤ val y a.1 * (p : Rat) + val y b.1 * (q : Rat)) :
  ∃ v : Rat, ∀ c ∈ L, holds (updX y n v) c := by
 obtain ⟨v, h1, h2⟩ := between ((L.filter fun c => decide (0 < cf c.1.2 n)).map (bndR y n)) ((L.filter fun c => decide (cf c.1.2 n < 0)).map (bndR y n)) (fun a ha b hb => by
  obtain ⟨c, hc, rfl⟩ := List.mem_map.1 ha
  obtain ⟨d, hd, rfl⟩ := List.mem_map.1 hb
  obtain ⟨c1, c2⟩ := List.mem_filter.1 hc
  obtain ⟨d1, d2⟩ := List.mem_filter.1 hd
  have c2 : 0 < cf c.1.2 n := by simpa using c2
  have d2 : cf d.1.2 n < 0 := by simpa using d2
  obtain ⟨q, q0, p, p0, pq, hh⟩ := hm c c1 d d1 c2 d2
  rw [val_self (n := n) (hl _ c1), val_self (n := n) (hl _ d1), bndR_eq (by omega), bndR_eq (by omega)] at hh
  have hpq : (cf c.1.2 n : Rat) * (p : Rat) + (cf d.1.2 n : Rat) * (q : Rat) = 0 := by
   rw [← Rat.intCast_mul, ← Rat.intCast_mul, ← Rat.intCast_add, pq]; rfl
  exact mul_le_of (Rat.mul_pos (Rat.intCast_pos.2 p0) (Rat.intCast_pos.2 c2)) (pair_le hpq hh))
 refine ⟨v, fun c hc => ?_⟩
 by_cases h0 : cf c.1.2 n = 0
 ·have e : val (updX y n v) c.1 = val y c.1 := by
   rw [val_upd (hl c hc), h0]
   simp [Rat.zero_mul, Rat.add_zero]
  have := hz c hc h0
  exact ⟨by rw [e]; exact this.1, by rw [e]; exact this.2⟩
 ·refine ⟨?_, fun hq => by rw [he c hc h0] at hq; cases hq⟩
  rw [val_at (hl c hc), bndR_eq h0]
  by_cases hp : 0 < cf c.1.2 n
  ·have h3 := h1 _ (List.mem_map.2 ⟨c, List.mem_filter.2 ⟨hc, by simpa using hp⟩, rfl⟩)
   have h4 := Rat.mul_nonneg (Rat.le_of_lt (Rat.intCast_pos.2 hp)) (show 0 ≤ v - bndR y n c by grind)
   grind
  ·have hn : cf c.1.2 n < 0 := by omega
   have h3 := h2 _ (List.mem_map.2 ⟨c, List.mem_filter.2 ⟨hc, by simpa using hn⟩, rfl⟩)
   have h5 : (0 : Rat) < ((-(cf c.1.2 n) : Int) : Rat) := Rat.intCast_pos.2 (by omega)
   have h4 := Rat.mul_nonneg (Rat.le_of_lt h5) (show 0 ≤ bndR y n c - v by grind)
   rw [Rat.intCast_neg] at h4
   grind
/-! One variable less. -/
theorem numF_get {α : Type} : ∀ {l : List α} {k i : Nat} (h : i < l.length), (k + i, l[i]) ∈ numF k l
 | [], k, i, h => by simp at h
 | x :: l, k, 0, h => by simp [numF]
 |x :: l, k, i + 1, h => by
  have := numF_get (l := l) (k := k + 1) (i := i) (by simpa using h)
  simp only [numF, List.getElem_cons_succ]
  exact List.mem_cons_of_mem _ (by rw [show k + (i + 1) = k + 1 + i by omega]; exact this)
theorem numF_len {α : Type} : ∀ {l : List α} {k : Nat}, (numF k l).length = l.length
 | [], k => rfl
 | x :: l, k => by simp [numF, numF_len]
structure Less (T : List Con) (N : List ByteArray) (M B R u : Nat) (n : ByteArray) (rows : List Row) (fuel : Int) (s : Sys) : Prop where
 er : s.2.2 = 0
 all : ∀ r ∈ s.1, RowN T N M B n r
 len : s.1.length ≤ R
 fuel : fuel - u ≤ s.2.1
 back : ∀ y, satR y s.1 → ∃ v, satR (updX y n v) rows
section
variable {T : List Con} {N : List ByteArray} {M B : Nat} {n : ByteArray} {rows : List Row} {fuel : Int}
theorem lin_rows (h : ∀ r ∈ rows, RowB T N M B r) : ∀ c ∈ rows.map (·.1), linOk c.1.2 := fun c hc => by
 obtain ⟨r, hr, rfl⟩ := List.mem_map.1 hc
 exact (h r hr).row.lin
theorem substS_full {e : Nat} (h : ∀ r ∈ rows, RowB T N M B r) (h1 : 1 ≤ M) (hM : 2 * (M * M) ≤ 9223372036854775807) (hB : 2 * (M * B) ≤ 9223372036854775807) (he : e < rows.length) (hq : rows[e].1.2 = true) (hc : cf rows[e].1.1.2 n ≠ 0)
  (hl : rows.length ≤ 256) (hf : (rows.length : Int) ≤ fuel) : Less T N (2 * (M * M)) (2 * (M * B)) rows.length rows.length n rows fuel (substS n e rows fuel) := by
 have hg : rows.getD e rowZ = rows[e] := by simp [List.getD_eq_getElem?_getD, he]
 have hsum := (numF_sum (e := e) (l := rows) (k := 0)).1
 have h2 := runF_full (step := stepE n (rows.getD e rowZ) e) (P := RowN T N (2 * (M * M)) (2 * (M * B)) n) (w := fun x => if x.1 = e then 0 else 1) (u := 1) (l := numF 0 rows)
  (H := fun r z => r.1 ≠ e → (cf r.2.1.1.2 n = 0 → holds z r.2.1) ∧ (cf r.2.1.1.2 n ≠ 0 → MixH n r.2.1 rows[e].1 z)) (fun x hx acc f ha hl hf => by
  rw [hg]
  exact stepE_full (h _ (List.getElem_mem he)) hq hc (h _ (numF_mem hx)) h1 hM hB acc f ha hl (by omega)) [] fuel (by simp) (by simp only [List.length_nil]; omega) (by rw [numF_len]; omega)
 rw [numF_len, Nat.mul_one] at h2
 refine ⟨h2.er, h2.all, by have := h2.len; simp only [List.length_nil] at this; exact Nat.le_trans this (by omega), h2.fuel, fun y hy => ?_⟩
 obtain ⟨_, k⟩ := h2.sat y hy
 have key : ∀ i (hi : i < rows.length), i ≠ e → (cf rows[i].1.1.2 n = 0 → holds y rows[i].1) ∧ (cf rows[i].1.1.2 n ≠ 0 → MixH n rows[i].1 rows[e].1 y) := fun i hi hne => by
  have := k (0 + i, rows[i]) (numF_get hi) (by simpa using hne)
  exact this
 have hb := back_eq (L := rows.map (·.1)) (n := n) (y := y) (c0 := rows[e].1) (lin_rows h) (List.mem_map.2 ⟨_, List.getElem_mem he, rfl⟩) hq hc (fun c hc' h0 => by
  obtain ⟨r, hr, rfl⟩ := List.mem_map.1 hc'
  obtain ⟨i, hi, rfl⟩ := List.mem_iff_getElem.1 hr
  by_cases hie : i = e
  ·subst hie; exact absurd h0 hc
  ·exact (key i hi hie).1 h0) (fun c hc' h0 => by
  obtain ⟨r, hr, rfl⟩ := List.mem_map.1 hc'
  obtain ⟨i, hi, rfl⟩ := List.mem_iff_getElem.1 hr
  by_cases hie : i = e
  ·subst hie; exact .inl rfl
  ·exact .inr ((key i hi hie).2 h0))
 exact ⟨_, fun r hr => hb r.1 (List.mem_map.2 ⟨r, hr, rfl⟩)⟩
theorem ups_cons {b : Row} {l : List Row} : ups n (b :: l) = (if cf b.1.1.2 n < 0 then 1 else 0) + ups n l := by
 rw [ups, ups, List.filter_cons]
 by_cases h : cf b.1.1.2 n < 0
 ·simp [h]; omega
 ·simp [h]
theorem lows_cons {b : Row} {l : List Row} : lows n (b :: l) = (if 0 < cf b.1.1.2 n then 1 else 0) + lows n l := by
 rw [lows, lows, List.filter_cons]
 by_cases h : 0 < cf b.1.1.2 n
 ·simp [h]; omega
 ·simp [h]
theorem pair_sum {a : Row} : ∀ {l : List Row}, (l.map (pairW n a)).sum = if 0 < cf a.1.1.2 n then ups n l else 0
 | [] => by simp [ups]
 |b :: l => by
  rw [List.map_cons, List.sum_cons, pair_sum, pairW, ups_cons]
  by_cases h1 : 0 < cf a.1.1.2 n
  ·simp [h1]
  ·simp [h1]
theorem pairs_sum {m : Nat} : ∀ {l : List Row}, (l.map fun a => if 0 < cf a.1.1.2 n then m else 0).sum = lows n l * m
 | [] => by simp [lows]
 |a :: l => by
  rw [List.map_cons, List.sum_cons, pairs_sum, lows_cons, Nat.add_mul]
  by_cases h1 : 0 < cf a.1.1.2 n
  ·simp [h1]
  ·simp [h1]
theorem three_len : ∀ {l : List Row}, (l.map fun r => if cf r.1.1.2 n = 0 then 1 else 0).sum + lows n l + ups n l = l.length
 | [] => by simp [lows, ups]
 |a :: l => by
  have ih := three_len (l := l)
  rw [List.map_cons, List.sum_cons, lows, ups, List.filter_cons, List.filter_cons, List.length_cons]
  unfold lows ups at ih
  rcases Int.lt_trichotomy (cf a.1.1.2 n) 0 with h | h | h
  ·have h2 : ¬ 0 < cf a.1.1.2 n := by omega
   have h3 : ¬ cf a.1.1.2 n = 0 := by omega
   simp [h, h2, h3]; omega
  ·have h2 : ¬ 0 < cf a.1.1.2 n := by omega
   have h3 : ¬ cf a.1.1.2 n < 0 := by omega
   simp [h]; omega
  ·have h2 : ¬ cf a.1.1.2 n < 0 := by omega
   have h3 : ¬ cf a.1.1.2 n = 0 := by omega
   simp [h, h2, h3]; omega
theorem combS2_full {R : Nat} (h : ∀ r ∈ rows, RowB T N M B r) (h1 : 1 ≤ M) (hM : 2 * (M * M) ≤ 9223372036854775807) (hB : 2 * (M * B) ≤ 9223372036854775807) (hq : ∀ r ∈ rows, cf r.1.1.2 n ≠ 0 → r.1.2 = false)
  (hR : ∀ r l u, r + l + u = rows.length → r + l * u ≤ R) (hR2 : R ≤ 256) (hf : ((rows.length * rows.length : Nat) : Int) ≤ fuel) : Less T N (2 * (M * M)) (2 * (M * B)) R (rows.length * rows.length) n rows fuel (combS2 n rows fuel) := by
 have h3 := three_len (n := n) (l := rows)
 have h4 := hR _ _ _ h3
 have g1 := runF_full (step := stepR n) (P := RowN T N (2 * (M * M)) (2 * (M * B)) n) (w := fun r => if cf r.1.1.2 n = 0 then 1 else 0) (u := 0) (l := rows) (H := fun r z => cf r.1.1.2 n = 0 → holds z r.1)
  (fun r hr acc f ha hl hf => stepR_full (h r hr) h1 acc f ha hl) [] fuel (by simp) (by simp only [List.length_nil]; omega) (by simp; omega)
 have g1l := g1.len
 have g1f := g1.fuel
 simp only [List.length_nil, Nat.zero_add, Nat.mul_zero] at g1l g1f
 have hsum : (rows.map fun a => (rows.map (pairW n a)).sum).sum = lows n rows * ups n rows := by
  rw [show (fun a => (rows.map (pairW n a)).sum) = fun a => if 0 < cf a.1.1.2 n then ups n rows else 0 from funext fun a => pair_sum]
  exact pairs_sum
 have g2 := runF_full (step := fun a => runF (stepP n a) rows) (P := RowN T N (2 * (M * M)) (2 * (M * B)) n) (w := fun a => (rows.map (pairW n a)).sum) (u := rows.length * 1) (l := rows)
  (H := fun a z => ∀ b ∈ rows, 0 < cf a.1.1.2 n → cf b.1.1.2 n < 0 → ∃ q : Int, 0 < q ∧ ∃ p : Int, 0 < p ∧ cf a.1.1.2 n * p + cf b.1.1.2 n * q = 0 ∧ 0 ≤ val z a.1.1 * (p : Rat) + val z b.1.1 * (q : Rat))
  (fun a ha acc f hacc hl hf => runF_full (step := stepP n a) (w := pairW n a) (u := 1) (fun b hb acc f hacc hl hf => stepP_full (h a ha) (h b hb) h1 hM hB acc f hacc hl (by omega)) acc f hacc hl (by omega))
  (runF (stepR n) rows [] fuel).1 (runF (stepR n) rows [] fuel).2.1 g1.all (by rw [hsum]; omega) (by rw [Nat.mul_one]; omega)
 have g2l := g2.len
 have g2f := g2.fuel
 rw [hsum] at g2l
 rw [Nat.mul_one] at g2f
 unfold combS2
 rw [if_neg (not_not_intro g1.er)]
 refine ⟨g2.er, g2.all, by omega, by omega, fun y hy => ?_⟩
 obtain ⟨k1, k2⟩ := g2.sat y hy
 obtain ⟨_, k3⟩ := g1.sat y k1
 obtain ⟨v, hv⟩ := back_le (L := rows.map (·.1)) (n := n) (y := y) (lin_rows h) (fun c hc h0 => by
  obtain ⟨r, hr, rfl⟩ := List.mem_map.1 hc
  exact k3 r hr h0) (fun c hc h0 => by
  obtain ⟨r, hr, rfl⟩ := List.mem_map.1 hc
  exact hq r hr h0) (fun a ha b hb p1 p2 => by
  obtain ⟨r, hr, rfl⟩ := List.mem_map.1 ha
  obtain ⟨s, hs, rfl⟩ := List.mem_map.1 hb
  exact k2 r hr s hs p1 p2)
 exact ⟨v, fun r hr => hv r.1 (List.mem_map.2 ⟨r, hr, rfl⟩)⟩
/-- One step of the search. -/
theorem stepS_full {R : Nat} (h : ∀ r ∈ rows, RowB T N M B r) (h1 : 1 ≤ M) (hM : 2 * (M * M) ≤ 9223372036854775807) (hB : 2 * (M * B) ≤ 9223372036854775807) (hch : (chooseS rows).2.2 = true)
  (hl : rows.length ≤ R) (hR : ∀ r l u, r + l + u = rows.length → r + l * u ≤ R) (hR2 : R ≤ 256) (hf : ((rows.length * rows.length : Nat) : Int) ≤ fuel) :
  Less T N (2 * (M * M)) (2 * (M * B)) R (rows.length * rows.length) (chooseS rows).1 rows fuel (stepS rows fuel) ∧ (chooseS rows).1 ∈ N := by
 obtain ⟨g1, g2, g3, g4⟩ := chooseF_spec (rows := rows) (N := namesU rows) (vs := namesU rows) (best := -1) (name := .empty) (fun h => (by omega)) (fun v hv => hv)
 have hin : (chooseS rows).1 ∈ namesU rows := by
  rcases g1 with e | e
  ·exact (g3 e hch).1
  ·exact (g2 e).1
 have hN : (chooseS rows).1 ∈ N := by
  obtain ⟨r, hr, m, hm, hn⟩ := mem_namesAll.1 (mem_namesU.1 hin)
  obtain ⟨s1, s2⟩ := linOk_iff.1 (h r hr).row.lin
  refine (h r hr).n _ ?_
  rw [← hn, cf_mem s1 hm]
  exact (s2 m hm).2
 refine ⟨?_, hN⟩
 unfold stepS
 split
 ·rename_i h0
  obtain ⟨k1, k2, k3⟩ := g2 h0
  obtain ⟨m1, m2, m3, m4⟩ := eqAt_some k2
  simp only [Nat.sub_zero] at m1 m3 m4
  have hpos : 1 ≤ rows.length := by omega
  have hsq : rows.length ≤ rows.length * rows.length := Nat.le_mul_of_pos_left _ hpos
  have := substS_full (n := (chooseS rows).1) (e := (chooseS rows).2.1.toNat) (fuel := fuel) h h1 hM hB m1 m4 m3 (by omega) (by omega)
  exact ⟨this.er, this.all, Nat.le_trans this.len hl, by have := this.fuel; omega, this.back⟩
 ·rename_i h0
  have e : (chooseS rows).2.1 = -1 := g1.resolve_right h0
  exact combS2_full h h1 hM hB (eqAt_none (g3 e hch).2) hR hR2 hf
end
end Go.Proofs.Ytnddmjhpplopbaa
