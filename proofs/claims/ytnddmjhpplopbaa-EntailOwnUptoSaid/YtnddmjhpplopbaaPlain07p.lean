/- Plain laws: for few small constraints Infeasible answers whether the tight forms have a common solution. -/
import Derived.Test.YtnddmjhpplopbaaPlain07n
set_option linter.unusedVariables false
set_option linter.unusedSimpArgs false
namespace Go.Proofs.Ytnddmjhpplopbaa
open Go.Abs Go.RowKit

/-! Bounds of the stages: rows, numbers, multipliers, steps. -/
def tR : Nat → Nat
 | 0 => 100
 | 1 => 20
 | 2 => 9
 | _ => 6
def tM : Nat → Nat
 | 0 => 2147483648
 | 1 => 32768
 | 2 => 128
 | _ => 8
def tB : Nat → Nat
 | 0 => 268435456
 | 1 => 4096
 | 2 => 16
 | _ => 1
def tF : Nat → Int
 | 0 => 0
 | 1 => 400
 | 2 => 481
 | _ => 517
theorem square_le (l u : Nat) : 4 * (l * u) ≤ (l + u) * (l + u) := by
 rcases Nat.le_total l u with h | h
 ·obtain ⟨d, rfl⟩ := Nat.le.dest h
  have := Nat.mul_comm l d
  simp only [Nat.mul_add, Nat.add_mul] at *
  omega
 ·obtain ⟨d, rfl⟩ := Nat.le.dest h
  have := Nat.mul_comm u d
  simp only [Nat.mul_add, Nat.add_mul] at *
  omega
theorem grow_R {k r l u : Nat} (hk : k < 3) (h : r + l + u ≤ tR (k + 1)) : r + l * u ≤ tR k := by
 have h1 := square_le l u
 have h2 : (l + u) * (l + u) ≤ tR (k + 1) * (l + u) := Nat.mul_le_mul_right _ (by omega)
 match k, hk with
 | 0, _ => simp only [tR] at *; omega
 | 1, _ => simp only [tR] at *; omega
 | 2, _ => simp only [tR] at *; omega
theorem stage_M {k : Nat} (hk : k < 3) : 2 * (tM (k + 1) * tM (k + 1)) = tM k ∧ 2 * (tM (k + 1) * tB (k + 1)) = tB k ∧ 1 ≤ tM (k + 1) ∧ tM k ≤ 9223372036854775807 ∧ tB k ≤ 9223372036854775807 ∧ tR k ≤ 256 ∧ tR (k + 1) ≤ tR k ∧ ((tR (k + 1) * tR (k + 1) : Nat) : Int) ≤ tF (k + 1) - tF k ∧ 0 ≤ tF k := by
 match k, hk with
 | 0, _ => decide
 | 1, _ => decide
 | 2, _ => decide
theorem badRow_none : ∀ {rows : List Row}, badRow rows = none → ∀ r ∈ rows, ¬ conBad r.1
 | [], _, r, hr => by cases hr
 |a :: rows, h, r, hr => by
  rw [badRow] at h
  split at h
  ·cases h
  ·rename_i h0
   rcases List.mem_cons.1 hr with rfl | hr
   ·exact h0
   ·exact badRow_none h r hr
theorem check_fine {l : List Con} {r : Row} (h0 : (tightL l).2 = 0) (hr : RowT (tightL l).1 r) (hb : conBad r.1) (h6 : (tightL l).1.length ≤ 6) (h8 : ∀ d ∈ (tightL l).1, d.1.1.natAbs ≤ 8 ∧ ∀ m ∈ d.1.2, m.2.natAbs ≤ 8)
  (hB : ∀ x ∈ r.2, x.natAbs ≤ 268435456) : checkS l r.2 = 0 := by
 rcases check_err h0 hr hb with h | h
 ·exact h
 ·exfalso
  have hm : (tightL l).1.length * (8 * 268435456) ≤ 6 * (8 * 268435456) := Nat.mul_le_mul_right _ h6
  have hc := conCombine_fine (B := 8) (M := 268435456) hr.len.symm hr.ok h8 hB (by omega)
  unfold checkS at h
  rw [if_neg (by rw [h0]; simp), if_neg (not_not_intro hc)] at h
  split at h
  ·exact absurd h (by decide)
  ·exact absurd h (by decide)
theorem choose_in {T : List Con} {N : List ByteArray} {M B : Nat} {rows : List Row} (h : ∀ r ∈ rows, RowB T N M B r) (hch : (chooseS rows).2.2 = true) : (chooseS rows).1 ∈ N := by
 obtain ⟨g1, g2, g3, g4⟩ := chooseF_spec (rows := rows) (N := namesU rows) (vs := namesU rows) (best := -1) (name := .empty) (fun h => (by omega)) (fun v hv => hv)
 have hin : (chooseS rows).1 ∈ namesU rows := by
  rcases g1 with e | e
  ·exact (g3 e hch).1
  ·exact (g2 e).1
 obtain ⟨r, hr, m, hm, hn⟩ := mem_namesAll.1 (mem_namesU.1 hin)
 obtain ⟨s1, s2⟩ := linOk_iff.1 (h r hr).row.lin
 refine (h r hr).n _ ?_
 rw [← hn, cf_mem s1 hm]
 exact (s2 m hm).2
theorem choose_none {rows : List Row} (hch : (chooseS rows).2.2 = false) : ∀ r ∈ rows, r.1.1.2 = [] := by
 obtain ⟨g1, g2, g3, g4⟩ := chooseF_spec (rows := rows) (N := namesU rows) (vs := namesU rows) (best := -1) (name := .empty) (fun h => (by omega)) (fun v hv => hv)
 have hn := (g4 hch).1
 intro r hr
 cases hm : r.1.1.2 with
 | nil => rfl
 | cons m t =>
  have : m.1 ∈ namesU rows := mem_namesU.2 (mem_namesAll.2 ⟨r, hr, m, by rw [hm]; exact List.mem_cons_self, rfl⟩)
  rw [hn] at this
  cases this
theorem filter_less {N : List ByteArray} {n : ByteArray} (h : n ∈ N) : (N.filter fun m => decide (m ≠ n)).length < N.length := by
 induction N with
 | nil => cases h
 | cons a N ih =>
  rw [List.filter_cons]
  by_cases e : a = n
  ·have := List.length_filter_le (fun m => decide (m ≠ n)) N
   simp only [e, ne_eq, not_true_eq_false, decide_false, Bool.false_eq_true, if_false, List.length_cons]
   simp only [ne_eq] at this
   omega
  ·have := ih ((List.mem_cons.1 h).resolve_left fun e' => e e'.symm)
   simp only [ne_eq] at this
   simp only [ne_eq, e, not_false_eq_true, decide_true, if_true, List.length_cons]
   omega
section
variable {l : List Con} (h0 : (tightL l).2 = 0) (h6 : (tightL l).1.length ≤ 6) (h8 : ∀ d ∈ (tightL l).1, d.1.1.natAbs ≤ 8 ∧ ∀ m ∈ d.1.2, m.2.natAbs ≤ 8)
include h0 h6 h8 in
theorem searchN_full : ∀ {k : Nat} (hk : k ≤ 3) {G : Nat} {rows : List Row} {fuel : Int} {N : List ByteArray}, k < G → N.length ≤ k → (∀ r ∈ rows, RowB (tightL l).1 N (tM k) (tB k) r) → rows.length ≤ tR k → tF k ≤ fuel →
  (searchN l G rows fuel).2.2 = 0 ∧ ((searchN l G rows fuel).2.1 = false → ∃ x, satR x rows) := by
 intro k
 induction k with
 | zero =>
  intro hk G rows fuel N hG hN hrows hR hF
  obtain ⟨G, rfl⟩ : ∃ H, G = H + 1 := ⟨G - 1, by omega⟩
  rw [searchN]
  cases hb : badRow rows with
  | some b =>
   obtain ⟨r, hr, h1, rfl⟩ := badRow_spec hb
   simp only
   have := check_fine h0 (hrows r hr).row h1 h6 h8 (hrows r hr).b
   rw [if_neg (not_not_intro this)]
   exact ⟨rfl, fun h => by cases h⟩
  | none =>
   simp only
   cases hc : (chooseS rows).2.2 with
   | false =>
    rw [if_pos rfl]
    exact ⟨rfl, fun _ => ⟨fun _ => 0, fun r hr => triv_holds (choose_none hc r hr) (badRow_none hb r hr)⟩⟩
   | true =>
    have := choose_in hrows hc
    rw [List.length_eq_zero_iff.1 (by omega : N.length = 0)] at this
    cases this
 | succ k ih =>
  intro hk G rows fuel N hG hN hrows hR hF
  obtain ⟨G, rfl⟩ : ∃ H, G = H + 1 := ⟨G - 1, by omega⟩
  obtain ⟨e1, e2, e3, e4, e5, e6, e7, e8, e9⟩ := stage_M (k := k) (by omega)
  have hbb : ∀ r ∈ rows, ∀ x ∈ r.2, x.natAbs ≤ 268435456 := fun r hr x hx => Nat.le_trans ((hrows r hr).b x hx) (by
   have : k = 0 ∨ k = 1 ∨ k = 2 := by omega
   rcases this with rfl | rfl | rfl <;> decide)
  rw [searchN]
  cases hb : badRow rows with
  | some b =>
   obtain ⟨r, hr, h1, rfl⟩ := badRow_spec hb
   simp only
   have := check_fine h0 (hrows r hr).row h1 h6 h8 (hbb r hr)
   rw [if_neg (not_not_intro this)]
   exact ⟨rfl, fun h => by cases h⟩
  | none =>
   simp only
   cases hc : (chooseS rows).2.2 with
   | false =>
    rw [if_pos rfl]
    exact ⟨rfl, fun _ => ⟨fun _ => 0, fun r hr => triv_holds (choose_none hc r hr) (badRow_none hb r hr)⟩⟩
   | true =>
    rw [if_neg (by simp)]
    have hsq : rows.length * rows.length ≤ tR (k + 1) * tR (k + 1) := Nat.mul_le_mul hR hR
    obtain ⟨hs, hin⟩ := stepS_full (R := tR k) (fuel := fuel) hrows e3 (by omega) (by omega) hc (by omega) (fun r l u h => grow_R (by omega) (by omega)) e6 (by omega)
    rw [e1, e2] at hs
    rw [if_neg (not_not_intro hs.er)]
    have hlt := filter_less hin
    have hf := hs.fuel
    obtain ⟨k1, k2⟩ := ih (by omega) (G := G) (rows := (stepS rows fuel).1) (fuel := (stepS rows fuel).2.1) (N := N.filter fun m => decide (m ≠ (chooseS rows).1)) (by omega) (by omega) (fun r hr => by
     obtain ⟨q1, q2⟩ := hs.all r hr
     refine ⟨q1.row, q1.k, q1.m, q1.b, fun n hn => List.mem_filter.2 ⟨q1.n n hn, ?_⟩⟩
     simp only [ne_eq, decide_not, Bool.not_eq_true', decide_eq_false_iff_not]
     intro e
     rw [e] at hn
     exact hn q2) hs.len (by omega)
    refine ⟨k1, fun h => ?_⟩
    obtain ⟨x, hx⟩ := k2 h
    obtain ⟨v, hv⟩ := hs.back x hx
    exact ⟨_, hv⟩
end
theorem RowB.unit {T : List Con} {N : List ByteArray} {k : Nat} (h : k < T.length) (hT : ∀ c ∈ T, linOk c.1.2 ∧ con64 c) (h8 : ∀ d ∈ T, d.1.1.natAbs ≤ 8 ∧ ∀ m ∈ d.1.2, m.2.natAbs ≤ 8) (hN : ∀ d ∈ T, ∀ n, cf d.1.2 n ≠ 0 → n ∈ N) : RowB T N 8 1 (T[k], unitB T.length k) := by
 refine ⟨RowT.unit h hT, (h8 _ (List.getElem_mem h)).1, fun n => cf_natAbs (h8 _ (List.getElem_mem h)).2 n, fun x hx => ?_, hN _ (List.getElem_mem h)⟩
 obtain ⟨i, hi, rfl⟩ := List.mem_iff_getElem.1 hx
 simp only [unitB_get]
 split <;> decide
theorem initS_full {T : List Con} {N : List ByteArray} (hT : ∀ c ∈ T, linOk c.1.2 ∧ con64 c) (h8 : ∀ d ∈ T, d.1.1.natAbs ≤ 8 ∧ ∀ m ∈ d.1.2, m.2.natAbs ≤ 8) (hN : ∀ d ∈ T, ∀ n, cf d.1.2 n ≠ 0 → n ∈ N) (h6 : T.length ≤ 6) :
  ∀ {k : Nat} {rows : List Row}, k ≤ T.length → rows.length ≤ k → (∀ r ∈ rows, RowB T N 8 1 r) →
  (initS T.length k (T.drop k) rows).2 = 0 ∧ (∀ r ∈ (initS T.length k (T.drop k) rows).1, RowB T N 8 1 r) ∧ (initS T.length k (T.drop k) rows).1.length ≤ T.length ∧ ∀ x, satR x (initS T.length k (T.drop k) rows).1 → satR x rows ∧ ∀ c ∈ T.drop k, holds x c := by
 intro k
 generalize hd : T.length - k = d
 induction d generalizing k with
 | zero =>
  intro rows hk hl h
  rw [List.drop_eq_nil_of_le (by omega), initS]
  exact ⟨rfl, h, by simp only; omega, fun x hx => ⟨hx, fun c hc => by cases hc⟩⟩
 | succ d ih =>
  intro rows hk hl h
  have hlt : k < T.length := by omega
  obtain ⟨g1, g2, g3, g4⟩ := addS2_spec (rows := rows) (d := (T[k], unitB T.length k)) (by omega)
  obtain ⟨f1, f2⟩ := addS2_full (rows := rows) (d := (T[k], unitB T.length k)) (by omega)
  rw [List.drop_eq_getElem_cons hlt, initS, if_neg (not_not_intro f1)]
  obtain ⟨i1, i2, i3, i4⟩ := ih (k := k + 1) (by omega) (rows := (addS2 rows (T[k], unitB T.length k)).1) hlt (by omega) (fun r hr => (g3 r hr).elim (fun e => e ▸ RowB.unit hlt hT h8 hN) (h r))
  refine ⟨i1, i2, i3, fun x hx => ?_⟩
  obtain ⟨k1, k2⟩ := i4 x hx
  obtain ⟨k3, k4⟩ := f2 x k1
  refine ⟨k3, fun c hc => ?_⟩
  rcases List.mem_cons.1 hc with rfl | hc
  ·exact k4
  ·exact k2 c hc
/-- Infeasible decides. -/
theorem infS_full {l : List Con} {N : List ByteArray} (h64 : ∀ c ∈ l, con64 c) (h0 : (tightL l).2 = 0) (h6 : l.length ≤ 6) (h8 : ∀ d ∈ (tightL l).1, d.1.1.natAbs ≤ 8 ∧ ∀ m ∈ d.1.2, m.2.natAbs ≤ 8) (hN : ∀ d ∈ (tightL l).1, ∀ n, cf d.1.2 n ≠ 0 → n ∈ N) (h3 : N.length ≤ 3) :
  (infS l 1048576).2.2 = 0 ∧ ((infS l 1048576).2.1 = false → ∃ x, ∀ c ∈ (tightL l).1, holds x c) := by
 have ht : tightL l = ((tightL l).1, 0) := Prod.ext rfl h0
 have hT := tightL_ok ht h64
 have hlen := (tightL_spec ht).1
 unfold infS
 rw [if_neg (not_not_intro h0), if_neg (by omega)]
 obtain ⟨i1, i2, i3, i4⟩ := initS_full hT h8 hN (by omega) (k := 0) (rows := []) (Nat.zero_le _) (by simp) (by simp)
 rw [hlen, List.drop_zero] at i1 i2 i3 i4
 rw [if_neg (not_not_intro i1)]
 have hg : (1048576 : Int).toNat * 300 + 300 = (314573100 : Nat) := by decide
 rw [hg]
 obtain ⟨s1, s2⟩ := searchN_full h0 (by omega) h8 (k := 3) (Nat.le_refl _) (G := 314573100) (fuel := 1048576) (N := N) (by omega) h3 i2 (show _ ≤ 6 by omega) (by decide)
 refine ⟨s1, fun h => ?_⟩
 obtain ⟨x, hx⟩ := s2 h
 exact ⟨x, (i4 x hx).2⟩
theorem checkS_sat {l : List Con} {b : List Int} {x : ByteArray → Rat} (h : checkS l b = 0) : ¬ ∀ c ∈ (tightL l).1, holds x c := by
 intro hx
 unfold checkS at h
 split at h
 ·exact absurd h ‹_›
 ·split at h
  ·exact absurd h ‹_›
  ·rename_i h1
   have hc : conCombine (tightL l).1 b = ((conCombine (tightL l).1 b).1, 0) := Prod.ext rfl (Classical.not_not.1 h1)
   split at h
   ·rename_i hb; exact conBad_not hb (conCombine_holds hc hx)
   ·exact absurd h (by decide)
/-- Tight forms have numbers no greater, and no other names. -/
theorem tightS_abs {c : Con} {M : Nat} (hM : 1 ≤ M) (hk : c.1.1.natAbs ≤ M) (hm : ∀ m ∈ c.1.2, m.2.natAbs ≤ M) : (tightS c).1.1.1.natAbs ≤ M ∧ (∀ m ∈ (tightS c).1.1.2, m.2.natAbs ≤ M) ∧ ∀ n, cf (tightS c).1.1.2 n ≠ 0 → ∃ m ∈ c.1.2, m.1 = n := by
 have hd : ∀ x : Int, x.natAbs ≤ M → ∀ g : Nat, (x / (g : Int)).natAbs ≤ M := fun x hx g => Nat.le_trans (Int.natAbs_ediv_le_natAbs x g) hx
 have hL : ∀ m ∈ divL (gcdL c.1.2) c.1.2, m.2.natAbs ≤ M := fun m h => by
  obtain ⟨z, hz, rfl⟩ := List.mem_map.1 h
  exact hd _ (hm z hz) _
 have hN : ∀ n, cf (divL (gcdL c.1.2) c.1.2) n ≠ 0 → ∃ m ∈ c.1.2, m.1 = n := fun n h => by
  obtain ⟨m, h1, h2, _⟩ := cf_in h
  obtain ⟨z, hz, rfl⟩ := List.mem_map.1 h1
  exact ⟨z, hz, h2⟩
 have zero : conZ.1.1.natAbs ≤ M ∧ (∀ m ∈ conZ.1.2, m.2.natAbs ≤ M) ∧ ∀ n, cf conZ.1.2 n ≠ 0 → ∃ m ∈ c.1.2, m.1 = n := ⟨by simp [conZ], by simp [conZ], by simp [conZ, cf]⟩
 have one : conF.1.1.natAbs ≤ M ∧ (∀ m ∈ conF.1.2, m.2.natAbs ≤ M) ∧ ∀ n, cf conF.1.2 n ≠ 0 → ∃ m ∈ c.1.2, m.1 = n := ⟨by simpa [conF] using hM, by simp [conF], by simp [conF, cf]⟩
 unfold tightS
 split
 ·exact zero
 ·split
  ·split
   ·exact zero
   ·exact one
  ·split
   ·exact one
   ·split
    ·split
     ·refine ⟨?_, fun m h => ?_, fun n h => ?_⟩
      ·simp only [Int.natAbs_neg]
       exact hd _ hk _
      ·obtain ⟨z, hz, rfl⟩ := List.mem_map.1 h
       simp only [Int.natAbs_neg]
       exact hL z hz
      ·obtain ⟨m, h1, h2, h3⟩ := cf_in h
       obtain ⟨z, hz, rfl⟩ := List.mem_map.1 h1
       obtain ⟨w, hw, rfl⟩ := List.mem_map.1 hz
       exact ⟨w, hw, h2⟩
     ·exact zero
    ·exact ⟨hd _ hk _, hL, hN⟩
end Go.Proofs.Ytnddmjhpplopbaa
