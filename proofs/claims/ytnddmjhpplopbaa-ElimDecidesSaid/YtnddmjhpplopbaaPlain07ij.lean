/- Plain laws: a variable is eliminated from a list, as functions on lists. Plain laws: what the elimination returns. -/
import Derived.Test.YtnddmjhpplopbaaPlain07h
set_option linter.unusedVariables false
set_option linter.unusedSimpArgs false
namespace Go.Proofs.Ytnddmjhpplopbaa
open Go.Abs Go.RowKit

/-- The combination of a list with its multipliers. -/
noncomputable def derS (l : List Con) (b : List Int) : Row × Int := if (conCombine l b).2 ≠ 0 then (rowZ, (conCombine l b).2) else (((conCombine l b).1, b), 0)
noncomputable def stepD (l : List Con) (b : List Int) (acc : List Row) : List Row × Int := if (derS l b).2 ≠ 0 then ([], (derS l b).2) else (acc ++ [(derS l b).1], 0)
/-- A step for each element, up to the first error. -/
def runE {α : Type} (step : α → List Row → List Row × Int) : List α → List Row → List Row × Int
 | [], acc => (acc, 0)
 | x :: l, acc => if (step x acc).2 ≠ 0 then ([], (step x acc).2) else runE step l (step x acc).1
/-- Multipliers: x at i, y at k, 0 elsewhere. -/
def units2 (n i : Nat) (x : Int) (k : Nat) (y : Int) : List Int := ((List.replicate n 0).set k y).set i x
def conAt (l : List Con) (i : Nat) : Con := l.getD i conZ
noncomputable def stepQ (l : List Con) (n : ByteArray) (k : Nat) (i : Nat) (acc : List Row) : List Row × Int :=
 if i = k then (acc, 0) else
 if cf (conAt l i).1.2 n = 0 then stepD l (units2 l.length i 1 i 1) acc else
 if (cancelX (cf (conAt l k).1.2 n) (cf (conAt l i).1.2 n)).2.2 = false then ([], 3) else
 stepD l (units2 l.length i (cancelX (cf (conAt l k).1.2 n) (cf (conAt l i).1.2 n)).1 k (cancelX (cf (conAt l k).1.2 n) (cf (conAt l i).1.2 n)).2.1) acc
noncomputable def solveS (l : List Con) (n : ByteArray) (k : Nat) : List Row × Int := runE (stepQ l n k) (List.range l.length) []
/-- The places below m whose coefficient has the sign s. -/
def sgI (s : Int) (n : ByteArray) (l : List Con) (m : Nat) : List Nat := (List.range m).filter fun i => decide ((cf (conAt l i).1.2 n).sign = s)
noncomputable def stepU (l : List Con) (n : ByteArray) (i k : Nat) (acc : List Row) : List Row × Int :=
 if (factorsX (cf (conAt l i).1.2 n) (cf (conAt l k).1.2 n)).2.2 = false then ([], 3) else
 stepD l (units2 l.length i (factorsX (cf (conAt l i).1.2 n) (cf (conAt l k).1.2 n)).1 k (factorsX (cf (conAt l i).1.2 n) (cf (conAt l k).1.2 n)).2.1) acc
noncomputable def pairsT (l : List Con) (n : ByteArray) (rest low up : List Nat) : List Row × Int :=
 if 256 < rest.length + low.length * up.length then ([], 2) else
 if (runE (fun i => stepD l (units2 l.length i 1 i 1)) rest []).2 ≠ 0 then ([], (runE (fun i => stepD l (units2 l.length i 1 i 1)) rest []).2) else
 runE (fun i => runE (fun k => stepU l n i k) up) low (runE (fun i => stepD l (units2 l.length i 1 i 1)) rest []).1
noncomputable def pairsS (l : List Con) (n : ByteArray) : List Row × Int := pairsT l n (sgI 0 n l l.length) (sgI 1 n l l.length) (sgI (-1) n l l.length)
/-- The first equation with the name. -/
def eqIx (n : ByteArray) : Nat → List Con → Option Nat
 | _, [] => none
 | k, c :: l => if c.2 = true ∧ cf c.1.2 n ≠ 0 then some k else eqIx n (k + 1) l
def allLin (l : List Con) : Prop := ∀ c ∈ l, linOk c.1.2
noncomputable instance (l : List Con) : Decidable (allLin l) := Classical.propDecidable _
noncomputable def elimT (l : List Con) (n : ByteArray) : List Row × Int :=
 if ¬ allLin l ∨ ¬ idOk n then ([], 1) else
 match eqIx n 0 l with
 | some k => solveS l n k
 | none => pairsS l n
noncomputable def elimS (l : List Con) (n : ByteArray) : List Row × Int := if 256 < l.length then ([], 2) else elimT l n

theorem conAt_get {l : List Con} {i : Nat} (h : i < l.length) : conAt l i = l[i] := by simp [conAt, List.getD_eq_getElem?_getD, h]
theorem sgI_succ {s : Int} {n : ByteArray} {l : List Con} {m : Nat} : sgI s n l (m + 1) = if (cf (conAt l m).1.2 n).sign = s then sgI s n l m ++ [m] else sgI s n l m := by
 rw [sgI, List.range_succ, List.filter_append]
 by_cases h : (cf (conAt l m).1.2 n).sign = s
 ·rw [if_pos h]
  simp [h, sgI]
 ·rw [if_neg h]
  simp [h, sgI]
theorem sgI_lt {s : Int} {n : ByteArray} {l : List Con} {m i : Nat} (h : i ∈ sgI s n l m) : i < m ∧ (cf (conAt l i).1.2 n).sign = s := by
 obtain ⟨h1, h2⟩ := List.mem_filter.1 h
 exact ⟨List.mem_range.1 h1, by simpa using h2⟩
theorem sgI_len {s : Int} {n : ByteArray} {l : List Con} {m : Nat} : (sgI s n l m).length ≤ m := by
 have := List.length_filter_le (fun i => decide ((cf (conAt l i).1.2 n).sign = s)) (List.range m)
 simpa [sgI] using this
theorem mem_sgI {s : Int} {n : ByteArray} {l : List Con} {m i : Nat} (hi : i < m) (hs : (cf (conAt l i).1.2 n).sign = s) : i ∈ sgI s n l m := List.mem_filter.2 ⟨List.mem_range.2 hi, by simpa using hs⟩
theorem eqIx_some {n : ByteArray} : ∀ {l : List Con} {k i : Nat}, eqIx n k l = some i → ∃ h : i - k < l.length, k ≤ i ∧ l[i - k].2 = true ∧ cf l[i - k].1.2 n ≠ 0
 | [], k, i, h => by rw [eqIx] at h; cases h
 |c :: l, k, i, h => by
  rw [eqIx] at h
  split at h
  ·rename_i h0
   cases h
   refine ⟨by simp, Nat.le_refl _, ?_⟩
   simp only [Nat.sub_self, List.getElem_cons_zero]
   exact h0
  ·obtain ⟨h1, h2, h3⟩ := eqIx_some h
   have e : i - k = i - (k + 1) + 1 := by omega
   refine ⟨by simp; omega, by omega, ?_⟩
   simp only [e, List.getElem_cons_succ]
   exact h3
theorem eqIx_none {n : ByteArray} : ∀ {l : List Con} {k : Nat}, eqIx n k l = none → ∀ c ∈ l, cf c.1.2 n ≠ 0 → c.2 = false
 | [], k, h, c, hc, _ => by cases hc
 |d :: l, k, h, c, hc, h0 => by
  rw [eqIx] at h
  split at h
  ·cases h
  ·rename_i hn
   rcases List.mem_cons.1 hc with rfl | hc
   ·simpa using fun h => hn ⟨h, h0⟩
   ·exact eqIx_none h c hc h0
theorem eqIx_drop {n : ByteArray} {l : List Con} {k : Nat} (h : k < l.length) : eqIx n k (l.drop k) = if l[k].2 = true ∧ cf l[k].1.2 n ≠ 0 then some k else eqIx n (k + 1) (l.drop (k + 1)) := by
 rw [List.drop_eq_getElem_cons h, eqIx]

/-! The combination with one multiplier 1. -/
theorem units_one (n i : Nat) : units2 n i 1 i 1 = unitB n i := by rw [units2, unitB, List.set_set]
theorem scaleV_zero (a : Lin) : scaleV a 0 = (0, []) := by rw [scaleV, if_pos rfl]
theorem scaleV_one (a : Lin) : scaleV a 1 = a := by
 rw [scaleV, if_neg (by decide)]
 simp
theorem addV_zero (a : Lin) (h : ∀ m ∈ a.2, m.2 ≠ 0) : addV a (0, []) = a := by
 obtain ⟨k, l⟩ := a
 simp only [addV, mergeX_left, addT, List.filterMap_map, Int.add_zero]
 congr 1
 have : ∀ (l : List Mono), (∀ m ∈ l, m.2 ≠ 0) → l.filterMap ((fun t : Tri => if t.2.1 + t.2.2 = 0 then none else some (t.1, t.2.1 + t.2.2)) ∘ fun m : Mono => (m.1, m.2, (0 : Int))) = l := by
  intro l hl
  induction l with
  | nil => rfl
  | cons m l ih =>
   have h0 := hl m List.mem_cons_self
   simp only [List.filterMap_cons, Function.comp_apply, Int.add_zero, if_neg h0]
   rw [ih fun y hy => hl y (List.mem_cons_of_mem _ hy)]
 exact this l h
theorem zero_addV (a : Lin) (h : ∀ m ∈ a.2, m.2 ≠ 0) : addV (0, []) a = a := by
 obtain ⟨k, l⟩ := a
 simp only [addV, mergeX_nil, addT, List.filterMap_map, Int.zero_add]
 congr 1
 have : ∀ (l : List Mono), (∀ m ∈ l, m.2 ≠ 0) → l.filterMap ((fun t : Tri => if t.2.1 + t.2.2 = 0 then none else some (t.1, t.2.1 + t.2.2)) ∘ fun m : Mono => (m.1, (0 : Int), m.2)) = l := by
  intro l hl
  induction l with
  | nil => rfl
  | cons m l ih =>
   have h0 := hl m List.mem_cons_self
   simp only [List.filterMap_cons, Function.comp_apply, Int.zero_add, if_neg h0]
   rw [ih fun y hy => hl y (List.mem_cons_of_mem _ hy)]
 exact this l h
theorem addOk_zero {a : Lin} (h : lin64 a) : addOk a (0, []) := by
 refine ⟨by rw [Int.add_zero]; exact h.1, fun t ht => ?_⟩
 rw [mergeX_left] at ht
 obtain ⟨m, hm, rfl⟩ := List.mem_map.1 ht
 simp only [Int.add_zero]
 exact h.2 m hm
theorem zero_addOk {a : Lin} (h : lin64 a) : addOk (0, []) a := by
 refine ⟨by rw [Int.zero_add]; exact h.1, fun t ht => ?_⟩
 rw [mergeX_nil] at ht
 obtain ⟨m, hm, rfl⟩ := List.mem_map.1 ht
 simp only [Int.zero_add]
 exact h.2 m hm
theorem combS_zeros {out : Lin} (hout : lin64 out) (h0 : ∀ m ∈ out.2, m.2 ≠ 0) : ∀ {l : List Con} {n : Nat} {eq : Bool}, combS out eq (l.zip (List.replicate n 0)) = ((out, eq), 0)
 | [], n, eq => by simp [combS]
 | c :: l, 0, eq => by simp [combS]
 |c :: l, n + 1, eq => by
  rw [List.replicate_succ, List.zip_cons_cons, combS]
  simp only
  rw [scaleV_zero, if_neg (by rintro (h | h); exact h (.inl trivial); exact h (addOk_zero hout)), addV_zero out h0, combS_zeros hout h0]
  simp
theorem combS_unit : ∀ {l : List Con} {k : Nat} {eq : Bool} (hk : k < l.length), (∀ c ∈ l, linOk c.1.2 ∧ con64 c) → combS (0, []) eq (l.zip (unitB l.length k)) = ((l[k].1, eq && l[k].2), 0)
 | [], k, eq, hk, _ => by simp at hk
 |c :: l, 0, eq, hk, h => by
  obtain ⟨h1, h2⟩ := h c List.mem_cons_self
  have hne := fun m hm => ((linOk_iff.1 h1).2 m hm).2
  rw [List.length_cons, unitB_zero, List.zip_cons_cons, combS]
  simp only
  rw [scaleV_one, if_neg (by
   rintro (h' | h')
   ·exact h' (.inr ⟨by rw [Int.mul_one]; exact h2.1, fun m hm => by rw [Int.mul_one]; exact h2.2 m hm⟩)
   ·exact h' (zero_addOk h2)), zero_addV _ hne, combS_zeros h2 hne]
  simp
 |c :: l, k + 1, eq, hk, h => by
  rw [List.length_cons, unitB_succ, List.zip_cons_cons, combS]
  simp only
  have hz : addV (0, []) (0, []) = (0, []) := zero_addV _ (by simp)
  rw [scaleV_zero, if_neg (by rintro (h' | h'); exact h' (.inl trivial); exact h' (addOk_zero ⟨in64_zero, by simp⟩)), hz, combS_unit (by simpa using hk) fun d hd => h d (List.mem_cons_of_mem _ hd)]
  simp
theorem der_unit {l : List Con} {k : Nat} (hk : k < l.length) (h : ∀ c ∈ l, linOk c.1.2 ∧ con64 c) : derS l (unitB l.length k) = ((l[k], unitB l.length k), 0) := by
 have e : conCombine l (unitB l.length k) = (l[k], 0) := by
  rw [conCombine, if_neg (by rw [unitB_len]; simp), if_neg, combS_unit hk h]
  ·simp
  ·rintro ⟨p, hp, hb⟩
   obtain ⟨i, h1, h2, rfl⟩ := zip_at hp
   rcases hb with hb | hb
   ·exact hb (h _ (List.getElem_mem h1)).1
   ·have := hb.1
    simp only [unitB_get] at this
    split at this <;> omega
 rw [derS, e, if_neg (by simp)]
/-! A product that is no number. -/
theorem combS_scale : ∀ {l : List (Con × Int)} {out : Lin} {eq : Bool}, (combS out eq l).2 = 0 → ∀ p ∈ l, p.2 = 0 ∨ scaleOk p.1.1 p.2
 | [], out, eq, _, p, hp => by cases hp
 |q :: r, out, eq, h, p, hp => by
  rw [combS] at h
  split at h
  ·cases h
  ·rename_i hn
   rcases List.mem_cons.1 hp with rfl | hp
   ·exact Classical.byContradiction fun h' => hn (.inl h')
   ·exact combS_scale h p hp
theorem der_over {l : List Con} {b : List Int} {i : Nat} {m : Mono} (hl : allLin l) (hlen : l.length = b.length) (hok : ∀ p ∈ l.zip b, okC p) (h1 : i < l.length) (h2 : i < b.length) (hm : m ∈ l[i].1.2) (h0 : b[i] ≠ 0) (ho : ¬ in64 (m.2 * b[i])) : derS l b = (rowZ, 3) := by
 rcases conCombine_err hlen hok with h | h
 ·have h' := h
  rw [conCombine, if_neg (not_not_intro hlen), if_neg (by rintro ⟨p, hp, hb⟩; exact okC_not.2 (hok p hp) hb)] at h'
  rcases combS_scale h' _ (zip_in h1 h2) with h3 | h3
  ·exact absurd h3 h0
  ·exact absurd (h3.2 m hm) ho
 ·rw [derS, h, if_pos (by decide)]
theorem units2_len {n i k : Nat} {x y : Int} : (units2 n i x k y).length = n := by simp [units2]
theorem units2_get {n i k j : Nat} {x y : Int} (h : j < (units2 n i x k y).length) : (units2 n i x k y)[j] = if i = j then x else if k = j then y else 0 := by
 simp only [units2, List.getElem_set, List.getElem_replicate]
theorem units2_ok {l : List Con} {i k : Nat} {x y : Int} (hl : allLin l) (hx : 0 ≤ x ∨ ∀ h : i < l.length, l[i].2 = true) (hy : 0 ≤ y ∨ ∀ h : k < l.length, l[k].2 = true) : ∀ p ∈ l.zip (units2 l.length i x k y), okC p := by
 intro p hp
 obtain ⟨j, h1, h2, rfl⟩ := zip_at hp
 refine ⟨hl _ (List.getElem_mem h1), fun h => ?_⟩
 obtain ⟨h3, h4⟩ := h
 simp only [units2_get] at h3 h4
 split at h3
 ·rename_i e
  subst e
  rcases hx with hx | hx
  ·omega
  ·rw [hx h1] at h4; cases h4
 ·split at h3
  ·rename_i e
   subst e
   rcases hy with hy | hy
   ·omega
   ·rw [hy h1] at h4; cases h4
  ·omega
/-- The equation's multiplier is -2^63: the reference takes it, and its product with the coefficient is no number. -/
theorem der_min {l : List Con} {n : ByteArray} {i k : Nat} {x : Int} (hl : allLin l) (hk : k < l.length) (hik : i ≠ k) (hq : l[k].2 = true) (hc : cf l[k].1.2 n < 0) (hx : 0 ≤ x) : derS l (units2 l.length i x k (-9223372036854775808)) = (rowZ, 3) := by
 obtain ⟨m, hm, _, h2⟩ := cf_in (n := n) (l := l[k].1.2) (by omega)
 have hlen : k < (units2 l.length i x k (-9223372036854775808)).length := by rw [units2_len]; exact hk
 have hg : (units2 l.length i x k (-9223372036854775808))[k] = -9223372036854775808 := by rw [units2_get, if_neg hik, if_pos rfl]
 refine der_over hl units2_len.symm (units2_ok hl (.inl hx) (.inr fun _ => hq)) hk hlen hm (by rw [hg]; decide) ?_
 rw [hg, h2]
 unfold in64
 omega
theorem range_drop {N i : Nat} (h : i < N) : (List.range N).drop i = i :: (List.range N).drop (i + 1) := by
 rw [List.drop_eq_getElem_cons (by simpa using h)]
 simp
theorem runE_cons {α : Type} {step : α → List Row → List Row × Int} {x : α} {l : List α} {acc : List Row} : runE step (x :: l) acc = if (step x acc).2 ≠ 0 then ([], (step x acc).2) else runE step l (step x acc).1 := rfl
theorem stepD_len {l : List Con} {b : List Int} {acc : List Row} : (stepD l b acc).1.length ≤ acc.length + 1 := by
 unfold stepD
 split <;> simp

theorem runE_all {α : Type} {step : α → List Row → List Row × Int} {P : Row → Prop} : ∀ {l : List α} {acc : List Row}, (∀ x ∈ l, ∀ acc, (∀ r ∈ acc, P r) → (step x acc).2 = 0 → ∀ r ∈ (step x acc).1, P r) → (∀ r ∈ acc, P r) → (runE step l acc).2 = 0 → ∀ r ∈ (runE step l acc).1, P r
 | [], acc, _, ha, _ => ha
 |x :: l, acc, hs, ha, h0 => by
  rw [runE_cons] at h0 ⊢
  split at h0
  ·rename_i h; exact absurd h0 h
  ·rename_i h
   rw [if_neg h]
   exact runE_all (fun y hy => hs y (List.mem_cons_of_mem _ hy)) (hs x List.mem_cons_self acc ha (Classical.not_not.1 h)) h0
theorem runE_err {α : Type} {step : α → List Row → List Row × Int} : ∀ {l : List α} {acc : List Row}, (runE step l acc).2 ≠ 0 → (runE step l acc).1 = []
 | [], acc, h => absurd rfl h
 |x :: l, acc, h => by
  rw [runE_cons] at h ⊢
  split at h
  ·rename_i h1; rw [if_pos h1]
  ·rename_i h1; rw [if_neg h1]; exact runE_err h
theorem elimS_err {l : List Con} {n : ByteArray} (h : (elimS l n).2 ≠ 0) : (elimS l n).1 = [] := by
 unfold elimS elimT at h ⊢
 by_cases h1 : 256 < l.length
 ·rw [if_pos h1]
 ·rw [if_neg h1] at h ⊢
  by_cases h2 : ¬ allLin l ∨ ¬ idOk n
  ·rw [if_pos h2]
  ·rw [if_neg h2] at h ⊢
   cases hk : eqIx n 0 l with
   | some k =>
    rw [hk] at h
    exact runE_err h
   | none =>
    rw [hk] at h
    simp only at h ⊢
    unfold pairsS pairsT at h ⊢
    by_cases h3 : 256 < (sgI 0 n l l.length).length + (sgI 1 n l l.length).length * (sgI (-1) n l l.length).length
    ·rw [if_pos h3]
    ·rw [if_neg h3] at h ⊢
     by_cases h4 : (runE (fun i => stepD l (units2 l.length i 1 i 1)) (sgI 0 n l l.length) []).2 ≠ 0
     ·rw [if_pos h4]
     ·rw [if_neg h4] at h ⊢
      exact runE_err h
/-- A row that is returned: the combination by its multipliers, which are small, and without the name. -/
structure OutR (l : List Con) (n : ByteArray) (M : Nat) (r : Row) : Prop where
 comb : conCombine l r.2 = (r.1, 0)
 gone : cf r.1.1.2 n = 0
 small : ∀ b ∈ r.2, b.natAbs ≤ M
theorem stepD_out {l : List Con} {n : ByteArray} {M : Nat} {b : List Int} {acc : List Row} (hb : ∀ x ∈ b, x.natAbs ≤ M) (hg : dotC n (l.zip b) = 0) (ha : ∀ r ∈ acc, OutR l n M r) (h0 : (stepD l b acc).2 = 0) : ∀ r ∈ (stepD l b acc).1, OutR l n M r := by
 unfold stepD at h0 ⊢
 split at h0
 ·rename_i h; exact absurd h0 h
 ·rename_i h
  rw [if_neg h]
  intro r hr
  rcases List.mem_append.1 hr with hr | hr
  ·exact ha r hr
  ·rw [List.mem_singleton.1 hr]
   have h1 := Classical.not_not.1 h
   unfold derS at h1 ⊢
   split at h1
   ·rename_i h2; exact absurd h1 h2
   ·rename_i h2
    rw [if_neg h2]
    have e : conCombine l b = ((conCombine l b).1, 0) := Prod.ext rfl (Classical.not_not.1 h2)
    refine ⟨e, ?_, hb⟩
    rw [(conCombine_spec e).2.2.2.2.1 n, hg]
theorem units2_mix {N i k : Nat} {x y : Int} (hik : i ≠ k) : units2 N i x k y = mixB x y (unitB N i) (unitB N k) := by
 refine List.ext_getElem ?_ fun j h1 h2 => ?_
 ·simp [units2_len, unitB_len]
 ·simp only [units2_get, mixB, List.getElem_map, List.getElem_zip, unitB_get]
  by_cases e1 : i = j
  ·subst e1
   rw [if_pos rfl, if_pos rfl, if_neg (fun e => hik e.symm)]
   simp
  ·rw [if_neg e1, if_neg e1]
   by_cases e2 : k = j
   ·rw [if_pos e2, if_pos e2]; simp
   ·rw [if_neg e2, if_neg e2]; simp
theorem dot_units2 {l : List Con} {n : ByteArray} {i k : Nat} {x y : Int} (hi : i < l.length) (hk : k < l.length) (hik : i ≠ k) : dotC n (l.zip (units2 l.length i x k y)) = cf l[i].1.2 n * x + cf l[k].1.2 n * y := by
 rw [units2_mix hik, dotC_mix (unitB_len _ _) (unitB_len _ _), (unit_dot hi).2, (unit_dot hk).2]
theorem dot_unit {l : List Con} {n : ByteArray} {i : Nat} (hi : i < l.length) : dotC n (l.zip (units2 l.length i 1 i 1)) = cf l[i].1.2 n := by
 rw [units_one, (unit_dot hi).2]
theorem sgnE_ok {n : Nat} {s : Bool} (h : (sgnE n s).2 = true) : (sgnE n s).1 = if s then -(n : Int) else n := by
 unfold sgnE at h ⊢
 split at h
 ·cases h
 ·rename_i h1
  rw [if_neg h1]
theorem gcd_parts (c d : Int) : ∃ C D g : Nat, c.natAbs = g * C ∧ d.natAbs = g * D ∧ Nat.gcd c.natAbs d.natAbs = g ∧ (g ≠ 0 → c.natAbs / g = C ∧ d.natAbs / g = D) := by
 refine ⟨c.natAbs / Nat.gcd c.natAbs d.natAbs, d.natAbs / Nat.gcd c.natAbs d.natAbs, Nat.gcd c.natAbs d.natAbs, ?_, ?_, rfl, fun _ => ⟨rfl, rfl⟩⟩
 ·rw [Nat.mul_div_cancel' (Nat.gcd_dvd_left _ _)]
 ·rw [Nat.mul_div_cancel' (Nat.gcd_dvd_right _ _)]
/-- The multipliers for an equation cancel. -/
theorem cancelX_zero {c d : Int} (hc : c ≠ 0) (h : (cancelX c d).2.2 = true) : d * (cancelX c d).1 + c * (cancelX c d).2.1 = 0 := by
 unfold cancelX at h ⊢
 simp only [Bool.and_eq_true] at h ⊢
 rw [sgnE_ok h.1, sgnE_ok h.2]
 clear h
 obtain ⟨C, D, g, h1, h2, h3, h4⟩ := gcd_parts c d
 rw [h3]
 have hg : g ≠ 0 := by intro h; rw [h] at h1; simp at h1; exact hc h1
 rw [(h4 hg).1, (h4 hg).2]
 simp only [Bool.false_eq_true, if_false]
 have ec : c = (g * C : Nat) ∨ c = -((g * C : Nat) : Int) := by rw [← h1]; omega
 have ed : d = (g * D : Nat) ∨ d = -((g * D : Nat) : Int) := by rw [← h2]; omega
 have hC : 0 < (g * C : Nat) := by rw [← h1]; omega
 by_cases hd : d = 0
 ·have h5 : g * D = 0 := by rw [← h2, hd]; rfl
  have : D = 0 := (Nat.mul_eq_zero.1 h5).resolve_left hg
  subst this
  rw [hd]
  split <;> simp
 ·have hD : 0 < (g * D : Nat) := by rw [← h2]; omega
  have key : ((g * D : Nat) : Int) * C = ((g * C : Nat) : Int) * D := by
   simp only [Int.natCast_mul]
   rw [Int.mul_assoc, Int.mul_assoc, Int.mul_comm (D : Int)]
  rcases ec with ec | ec <;> rcases ed with ed | ed
  ·have s : (decide (0 < c) == decide (0 < d)) = true := by rw [decide_eq_true (by omega), decide_eq_true (by omega)]; rfl
   rw [s, if_pos rfl, ec, ed, key, Int.mul_neg]
   omega
  ·have s : (decide (0 < c) == decide (0 < d)) = false := by rw [decide_eq_true (by omega), decide_eq_false (by omega)]; rfl
   rw [s, ec, ed, Int.neg_mul, key]
   simp
   omega
  ·have s : (decide (0 < c) == decide (0 < d)) = false := by rw [decide_eq_false (by omega), decide_eq_true (by omega)]; rfl
   rw [s, ec, ed, Int.neg_mul, key]
   simp
   omega
  ·have s : (decide (0 < c) == decide (0 < d)) = true := by rw [decide_eq_false (by omega), decide_eq_false (by omega)]; rfl
   rw [s, if_pos rfl, ec, ed, Int.neg_mul, key, Int.neg_mul_neg]
   omega
theorem factorsX_zero {a b : Int} (ha : 0 < a) (hb : b < 0) (h : (factorsX a b).2.2 = true) : a * (factorsX a b).1 + b * (factorsX a b).2.1 = 0 := by
 unfold factorsX at h ⊢
 simp only [Bool.and_eq_true] at h ⊢
 rw [sgnE_ok h.1, sgnE_ok h.2]
 clear h
 obtain ⟨C, D, g, h1, h2, h3, h4⟩ := gcd_parts a b
 rw [h3]
 have hg : g ≠ 0 := by intro h; rw [h] at h1; simp at h1; omega
 rw [(h4 hg).1, (h4 hg).2]
 simp only [Bool.false_eq_true, if_false]
 have ea : a = (g * C : Nat) := by rw [← h1]; omega
 have eb : b = -((g * D : Nat) : Int) := by rw [← h2]; omega
 have key : ((g * D : Nat) : Int) * C = ((g * C : Nat) : Int) * D := by
  simp only [Int.natCast_mul]
  rw [Int.mul_assoc, Int.mul_assoc, Int.mul_comm (D : Int)]
 rw [ea, eb, Int.neg_mul, key]
 omega
theorem sgnE_abs {n M : Nat} {s : Bool} (h : n ≤ M) : (sgnE n s).1.natAbs ≤ M := by
 unfold sgnE
 split
 ·simp
 ·simp only
  split <;> omega
theorem cancelX_abs {c d : Int} {M : Nat} (hc : c.natAbs ≤ M) (hd : d.natAbs ≤ M) : (cancelX c d).1.natAbs ≤ M ∧ (cancelX c d).2.1.natAbs ≤ M :=
 ⟨sgnE_abs (Nat.le_trans (Nat.div_le_self _ _) hc), sgnE_abs (Nat.le_trans (Nat.div_le_self _ _) hd)⟩
theorem factorsX_abs {c d : Int} {M : Nat} (hc : c.natAbs ≤ M) (hd : d.natAbs ≤ M) : (factorsX c d).1.natAbs ≤ M ∧ (factorsX c d).2.1.natAbs ≤ M :=
 ⟨sgnE_abs (Nat.le_trans (Nat.div_le_self _ _) hd), sgnE_abs (Nat.le_trans (Nat.div_le_self _ _) hc)⟩
theorem units2_abs {N i k M : Nat} {x y : Int} (hx : x.natAbs ≤ M) (hy : y.natAbs ≤ M) : ∀ b ∈ units2 N i x k y, b.natAbs ≤ M := by
 intro b hb
 rcases List.mem_or_eq_of_mem_set hb with h | h
 ·rcases List.mem_or_eq_of_mem_set h with h | h
  ·rw [List.eq_of_mem_replicate h]; simp
  ·rw [h]; exact hy
 ·rw [h]; exact hx
/-- What Eliminate returns. -/
theorem elimS_out {l : List Con} {n : ByteArray} {M : Nat} (hM : 1 ≤ M) (hc : ∀ c ∈ l, (cf c.1.2 n).natAbs ≤ M) (h0 : (elimS l n).2 = 0) : ∀ r ∈ (elimS l n).1, OutR l n M r := by
 unfold elimS elimT at h0 ⊢
 split at h0
 ·cases h0
 ·rename_i h256
  rw [if_neg h256]
  split at h0
  ·cases h0
  ·rename_i h1
   rw [if_neg h1]
   have hcA : ∀ i, i < l.length → (cf (conAt l i).1.2 n).natAbs ≤ M := fun i hi => by rw [conAt_get hi]; exact hc _ (List.getElem_mem hi)
   split at h0
   ·rename_i k hk
    obtain ⟨k1, _, k2, k3⟩ := eqIx_some hk
    simp only [Nat.sub_zero] at k1 k2 k3
    refine runE_all (fun i hi acc ha hs => ?_) (by simp) h0
    have hi : i < l.length := List.mem_range.1 hi
    unfold stepQ at hs ⊢
    split at hs
    ·rename_i h2; rw [if_pos h2]; exact ha
    ·rename_i h2
     rw [if_neg h2]
     split at hs
     ·rename_i h3
      rw [if_pos h3]
      exact stepD_out (units2_abs (by simpa using hM) (by simpa using hM)) (by rw [dot_unit hi, ← conAt_get hi, h3]) ha hs
     ·rename_i h3
      rw [if_neg h3]
      split at hs
      ·cases hs
      ·rename_i h4
       rw [if_neg h4]
       have ca := cancelX_abs (hcA k k1) (hcA i hi)
       refine stepD_out (units2_abs ca.1 ca.2) ?_ ha hs
       rw [dot_units2 hi k1 h2, ← conAt_get hi, ← conAt_get k1]
       exact cancelX_zero (by rw [conAt_get k1]; exact k3) (by simpa using h4)
   ·rename_i hk
    unfold pairsS pairsT at h0 ⊢
    split at h0
    ·cases h0
    ·rename_i h2
     rw [if_neg h2]
     split at h0
     ·rename_i h3; exact absurd h0 h3
     ·rename_i h3
      rw [if_neg h3]
      refine runE_all (fun i hi acc ha hs => ?_) ?_ h0
      ·obtain ⟨hi1, hi2⟩ := sgI_lt hi
       refine runE_all (fun k hk acc ha hs => ?_) ha hs
       obtain ⟨hk1, hk2⟩ := sgI_lt hk
       unfold stepU at hs ⊢
       split at hs
       ·cases hs
       ·rename_i h4
        rw [if_neg h4]
        have ca := factorsX_abs (hcA i hi1) (hcA k hk1)
        refine stepD_out (units2_abs ca.1 ca.2) ?_ ha hs
        have hik : i ≠ k := by intro e; subst e; rw [hi2] at hk2; cases hk2
        rw [dot_units2 hi1 hk1 hik, ← conAt_get hi1, ← conAt_get hk1]
        exact factorsX_zero (Int.sign_eq_one_iff_pos.1 hi2) (Int.sign_eq_neg_one_iff_neg.1 hk2) (by simpa using h4)
      ·refine runE_all (fun i hi acc ha hs => ?_) (by simp) (Classical.not_not.1 h3)
       obtain ⟨hi1, hi2⟩ := sgI_lt hi
       exact stepD_out (units2_abs (by simpa using hM) (by simpa using hM)) (by rw [dot_unit hi1, ← conAt_get hi1]; exact Int.sign_eq_zero_iff_zero.1 hi2) ha hs
/-! How great its numbers are. -/
theorem dotK_abs {B M : Nat} : ∀ {l : List (Con × Int)}, (∀ p ∈ l, p.1.1.1.natAbs ≤ B ∧ p.2.natAbs ≤ M) → (dotK l).natAbs ≤ l.length * (B * M)
 | [], _ => by simp [dotK]
 |p :: r, h => by
  have h1 := dotK_abs fun q hq => h q (List.mem_cons_of_mem _ hq)
  obtain ⟨h2, h3⟩ := h p List.mem_cons_self
  have h4 : (p.1.1.1 * p.2).natAbs ≤ B * M := by rw [Int.natAbs_mul]; exact Nat.mul_le_mul h2 h3
  have h5 := Int.natAbs_add_le (p.1.1.1 * p.2) (dotK r)
  rw [dotK, List.length_cons, Nat.add_mul]
  omega
theorem dotC_abs {B M : Nat} {n : ByteArray} : ∀ {l : List (Con × Int)}, (∀ p ∈ l, (cf p.1.1.2 n).natAbs ≤ B ∧ p.2.natAbs ≤ M) → (dotC n l).natAbs ≤ l.length * (B * M)
 | [], _ => by simp [dotC]
 |p :: r, h => by
  have h1 := dotC_abs fun q hq => h q (List.mem_cons_of_mem _ hq)
  obtain ⟨h2, h3⟩ := h p List.mem_cons_self
  have h4 : (cf p.1.1.2 n * p.2).natAbs ≤ B * M := by rw [Int.natAbs_mul]; exact Nat.mul_le_mul h2 h3
  have h5 := Int.natAbs_add_le (cf p.1.1.2 n * p.2) (dotC n r)
  rw [dotC, List.length_cons, Nat.add_mul]
  omega
theorem cf_natAbs {l : List Mono} {B : Nat} (h : ∀ m ∈ l, m.2.natAbs ≤ B) (n : ByteArray) : (cf l n).natAbs ≤ B := by
 by_cases h0 : cf l n = 0
 ·rw [h0]; simp
 ·obtain ⟨m, h1, _, h2⟩ := cf_in h0
  rw [← h2]; exact h m h1
theorem comb_abs {l : List Con} {b : List Int} {c : Con} {B M : Nat} (h : conCombine l b = (c, 0)) (hB : ∀ d ∈ l, d.1.1.natAbs ≤ B ∧ ∀ m ∈ d.1.2, m.2.natAbs ≤ B) (hM : ∀ x ∈ b, x.natAbs ≤ M) :
  c.1.1.natAbs ≤ l.length * (B * M) ∧ ∀ m ∈ c.1.2, m.2.natAbs ≤ l.length * (B * M) := by
 obtain ⟨h1, h2, h3, h4, h5, h6⟩ := conCombine_spec h
 have hz : (l.zip b).length = l.length := by rw [List.length_zip]; omega
 refine ⟨?_, fun m hm => ?_⟩
 ·rw [h4, ← hz]
  exact dotK_abs fun p hp => ⟨(hB _ (List.of_mem_zip hp).1).1, hM _ (List.of_mem_zip hp).2⟩
 ·rw [← cf_mem (linOk_iff.1 h3).1 hm, h5, ← hz]
  exact dotC_abs fun p hp => ⟨cf_natAbs (hB _ (List.of_mem_zip hp).1).2 _, hM _ (List.of_mem_zip hp).2⟩
end Go.Proofs.Ytnddmjhpplopbaa
