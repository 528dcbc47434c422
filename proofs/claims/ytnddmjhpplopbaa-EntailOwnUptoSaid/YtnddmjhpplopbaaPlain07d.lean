/- Plain laws: what a combination of constraints is, and which assignments satisfy it. -/
import Derived.Test.YtnddmjhpplopbaaV07o
set_option linter.unusedVariables false
set_option linter.unusedSimpArgs false
namespace Go.Proofs.Ytnddmjhpplopbaa
open Go.Abs Go.RowKit

/-- The sum of the constants, and of the coefficients of a name. -/
def dotK : List (Con × Int) → Int
 | [] => 0
 | p :: r => p.1.1.1 * p.2 + dotK r
def dotC (n : ByteArray) : List (Con × Int) → Int
 | [] => 0
 | p :: r => cf p.1.1.2 n * p.2 + dotC n r
theorem combS_spec : ∀ {l : List (Con × Int)} {out : Lin} {eq : Bool} {c : Con}, combS out eq l = (c, 0) → linOk out.2 → (∀ p ∈ l, linOk p.1.1.2) →
  linOk c.1.2 ∧ c.1.1 = out.1 + dotK l ∧ (∀ n, cf c.1.2 n = cf out.2 n + dotC n l) ∧ c.2 = (eq && eqR l)
 |[], out, eq, c, h, ho, _ => by
  rw [combS] at h
  cases h
  exact ⟨ho, by simp [dotK], fun n => by simp [dotC], by simp [eqR]⟩
 |p :: r, out, eq, c, h, ho, hl => by
  rw [combS] at h
  split at h
  ·cases h
  ·have hp := hl p List.mem_cons_self
   obtain ⟨h1, h2, h3, h4⟩ := combS_spec h (addV_ok ho (scaleV_ok hp)) fun q hq => hl q (List.mem_cons_of_mem _ hq)
   refine ⟨h1, ?_, fun n => ?_, ?_⟩
   ·rw [h2, dotK]
    show out.1 + (scaleV p.1.1 p.2).1 + dotK r = _
    rw [scaleV_fst]
    omega
   ·rw [h3, dotC, addV_cf (linOk_iff.1 ho).1 (linOk_iff.1 (scaleV_ok hp)).1, scaleV_cf]
    omega
   ·rw [h4]
    simp [eqR, Bool.and_assoc]
theorem combS_err : ∀ {l : List (Con × Int)} {out : Lin} {eq : Bool}, (combS out eq l).2 = 0 ∨ combS out eq l = (conZ, 3)
 | [], out, eq => .inl rfl
 |p :: r, out, eq => by
  rw [combS]
  split
  ·exact .inr rfl
  ·exact combS_err
theorem conCombine_spec {l : List Con} {b : List Int} {c : Con} (h : conCombine l b = (c, 0)) :
  l.length = b.length ∧ (∀ p ∈ l.zip b, okC p) ∧ linOk c.1.2 ∧ c.1.1 = dotK (l.zip b) ∧ (∀ n, cf c.1.2 n = dotC n (l.zip b)) ∧ c.2 = eqR (l.zip b) := by
 rw [conCombine] at h
 split at h
 ·cases h
 ·rename_i h1
  split at h
  ·cases h
  ·rename_i h2
   have hok : ∀ p ∈ l.zip b, okC p := fun p hp => okC_not.1 fun hb => h2 ⟨p, hp, hb⟩
   obtain ⟨g1, g2, g3, g4⟩ := combS_spec h (fun i hi => by simp at hi) fun p hp => (hok p hp).1
   exact ⟨Classical.not_not.1 h1, hok, g1, by rw [g2]; simp, fun n => by rw [g3]; simp [cf], by rw [g4]; simp⟩
/-- The error of a combination. -/
theorem conCombine_err {l : List Con} {b : List Int} (hl : l.length = b.length) (hb : ∀ p ∈ l.zip b, okC p) : (conCombine l b).2 = 0 ∨ conCombine l b = (conZ, 3) := by
 rw [conCombine, if_neg (not_not_intro hl), if_neg (by rintro ⟨p, hp, h⟩; exact okC_not.2 (hb p hp) h)]
 exact combS_err
theorem conCombine_cases (l : List Con) (b : List Int) : (conCombine l b).2 = 0 ∨ conCombine l b = (conZ, 3) ∨ conCombine l b = (conZ, 1) := by
 rw [conCombine]
 split
 ·exact .inr (.inr rfl)
 ·split
  ·exact .inr (.inr rfl)
  ·exact combS_err.imp_right .inl

/-! Assignments. -/
def ev (x : ByteArray → Rat) : List Mono → Rat
 | [] => 0
 | m :: r => (m.2 : Rat) * x m.1 + ev x r
/-- The value of a form. -/
def val (x : ByteArray → Rat) (a : Lin) : Rat := (a.1 : Rat) + ev x a.2
def holds (x : ByteArray → Rat) (c : Con) : Prop := 0 ≤ val x c.1 ∧ (c.2 = true → val x c.1 = 0)
theorem ev_map {x : ByteArray → Rat} {f : Int → Int} {k : Rat} (h : ∀ n : Int, ((f n : Int) : Rat) = (n : Rat) * k) : ∀ {l : List Mono}, ev x (l.map fun m => (m.1, f m.2)) = ev x l * k
 | [] => by simp [ev, Rat.zero_mul]
 |m :: r => by
  rw [List.map_cons, ev, ev, ev_map h, h]
  grind
theorem ev_addT {x : ByteArray → Rat} : ∀ {T : List Tri}, ev x (addT T) = ev x (T.map fun t => (t.1, t.2.1)) + ev x (T.map fun t => (t.1, t.2.2))
 | [] => by simp [ev, addT, Rat.add_zero]
 |t :: T => by
  have ih := ev_addT (x := x) (T := T)
  rw [List.map_cons, List.map_cons, ev, ev]
  simp only [addT, List.filterMap_cons] at ih ⊢
  by_cases h : t.2.1 + t.2.2 = 0
  ·have : (t.2.1 : Rat) + (t.2.2 : Rat) = 0 := by rw [← Rat.intCast_add, h]; rfl
   simp only [h, if_true]
   rw [ih]
   grind
  ·simp only [h, if_false]
   rw [ev, ih]
   simp only [Rat.intCast_add]
   grind
theorem ev_zero {x : ByteArray → Rat} {α : Type} {f : α → ByteArray} : ∀ {l : List α}, ev x (l.map fun m => (f m, (0 : Int))) = 0
 | [] => rfl
 | m :: r => by rw [List.map_cons, ev, ev_zero]; simp [Rat.zero_mul, Rat.add_zero]
theorem ev_merge {x : ByteArray → Rat} : ∀ (a b : List Mono), ev x ((mergeX a b).map fun t => (t.1, t.2.1)) = ev x a ∧ ev x ((mergeX a b).map fun t => (t.1, t.2.2)) = ev x b
 |[], b => by
  rw [mergeX_nil, List.map_map, List.map_map]
  exact ⟨ev_zero, by simp [Function.comp_def]⟩
 |y :: a, [] => by
  rw [mergeX_left, List.map_map, List.map_map]
  exact ⟨by simp [Function.comp_def], ev_zero⟩
 |y :: a, z :: b => by
  rw [mergeX_cons]
  split
  ·obtain ⟨h1, h2⟩ := ev_merge (x := x) a (z :: b)
   simp only [List.map_cons, ev] at *
   rw [h1, h2]
   simp [Rat.zero_mul, Rat.zero_add]
  ·split
   ·obtain ⟨h1, h2⟩ := ev_merge (x := x) (y :: a) b
    simp only [List.map_cons, ev] at *
    rw [h1, h2]
    simp [Rat.zero_mul, Rat.zero_add]
   ·rename_i g1 g2
    obtain ⟨h1, h2⟩ := ev_merge (x := x) a b
    have e : y.1 = z.1 := by
     rcases sless_tri y.1 z.1 with h | h | h
     ·exact absurd h g1
     ·exact h
     ·exact absurd h g2
    simp only [List.map_cons, ev] at *
    rw [h1, h2, e]
    exact ⟨rfl, rfl⟩
termination_by a b => a.length + b.length
theorem val_add {x : ByteArray → Rat} (a b : Lin) : val x (addV a b) = val x a + val x b := by
 obtain ⟨h1, h2⟩ := ev_merge (x := x) a.2 b.2
 simp only [val, addV, ev_addT, h1, h2, Rat.intCast_add]
 grind
theorem val_scale {x : ByteArray → Rat} (a : Lin) (b : Int) : val x (scaleV a b) = val x a * (b : Rat) := by
 rw [scaleV]
 split
 ·rename_i h
  subst h
  simp [val, ev, Rat.add_zero]
 ·have := ev_map (x := x) (f := fun n => n * b) (k := (b : Rat)) (fun n => Rat.intCast_mul n b) (l := a.2)
  simp only [val, this, Rat.intCast_mul]
  grind
def dotV (x : ByteArray → Rat) : List (Con × Int) → Rat
 | [] => 0
 | p :: r => val x p.1.1 * (p.2 : Rat) + dotV x r
theorem combS_val {x : ByteArray → Rat} : ∀ {l : List (Con × Int)} {out : Lin} {eq : Bool} {c : Con}, combS out eq l = (c, 0) → val x c.1 = val x out + dotV x l
 |[], out, eq, c, h => by
  rw [combS] at h
  cases h
  simp [dotV, Rat.add_zero]
 |p :: r, out, eq, c, h => by
  rw [combS] at h
  split at h
  ·cases h
  ·rw [combS_val h, val_add, val_scale, dotV]
   grind
theorem conCombine_val {x : ByteArray → Rat} {l : List Con} {b : List Int} {c : Con} (h : conCombine l b = (c, 0)) : val x c.1 = dotV x (l.zip b) := by
 rw [conCombine] at h
 split at h
 ·cases h
 ·split at h
  ·cases h
  ·rw [combS_val h]
   simp [val, ev, Rat.add_zero, Rat.zero_add]
/-- A combination holds where the constraints hold. -/
theorem dotV_nonneg {x : ByteArray → Rat} : ∀ {l : List (Con × Int)}, (∀ p ∈ l, okC p) → (∀ p ∈ l, holds x p.1) → 0 ≤ dotV x l ∧ (eqR l = true → dotV x l = 0)
 | [], _, _ => by simp [dotV]
 |p :: r, h1, h2 => by
  obtain ⟨i1, i2⟩ := dotV_nonneg (x := x) (fun q hq => h1 q (List.mem_cons_of_mem _ hq)) (fun q hq => h2 q (List.mem_cons_of_mem _ hq))
  have hp := h1 p List.mem_cons_self
  obtain ⟨k1, k2⟩ := h2 p List.mem_cons_self
  have hpn : 0 ≤ val x p.1.1 * (p.2 : Rat) := by
   by_cases hq : p.1.2 = true
   ·rw [k2 hq]; simp [Rat.zero_mul]
   ·refine Rat.mul_nonneg k1 ?_
    have : ¬ p.2 < 0 := fun h => hp.2 ⟨h, by simpa using hq⟩
    exact Rat.intCast_nonneg.2 (by omega)
  refine ⟨by rw [dotV]; grind, fun he => ?_⟩
  have he : (p.1.2 || decide (p.2 = 0)) = true ∧ eqR r = true := by simpa [eqR] using he
  rw [dotV, i2 he.2]
  rcases Bool.or_eq_true_iff.1 he.1 with h | h
  ·rw [k2 h]; simp [Rat.zero_mul, Rat.add_zero]
  ·rw [of_decide_eq_true h]; simp [Rat.mul_zero, Rat.add_zero]
theorem conCombine_holds {x : ByteArray → Rat} {l : List Con} {b : List Int} {c : Con} (h : conCombine l b = (c, 0)) (hl : ∀ d ∈ l, holds x d) : holds x c := by
 obtain ⟨h1, h2, h3, h4, h5, h6⟩ := conCombine_spec h
 obtain ⟨g1, g2⟩ := dotV_nonneg h2 (fun p hp => hl p.1 (List.of_mem_zip hp).1)
 rw [← conCombine_val h] at g1 g2
 exact ⟨g1, fun e => g2 (by rw [← h6]; exact e)⟩
theorem conBad_not {x : ByteArray → Rat} {c : Con} (h : conBad c) : ¬ holds x c := by
 obtain ⟨⟨k, l⟩, q⟩ := c
 obtain ⟨h1, h2⟩ := h
 simp only at h1 h2
 subst h1
 rintro ⟨g1, g2⟩
 simp only [val, ev, Rat.add_zero] at g1 g2
 rcases h2 with h2 | ⟨h2, h3⟩
 ·have := Rat.intCast_nonneg.1 g1
  omega
 ·exact h3 (by have := g2 h2; exact_mod_cast this)
/-! Whole numbers. -/
def evI (x : ByteArray → Int) : List Mono → Int
 | [] => 0
 | m :: r => m.2 * x m.1 + evI x r
abbrev castX (x : ByteArray → Int) : ByteArray → Rat := fun n => (x n : Rat)
theorem ev_cast {x : ByteArray → Int} : ∀ {l : List Mono}, ev (castX x) l = (evI x l : Rat)
 | [] => rfl
 |m :: r => by
  rw [ev, evI, ev_cast, Rat.intCast_add, Rat.intCast_mul]
theorem val_cast {x : ByteArray → Int} {a : Lin} : val (castX x) a = ((a.1 + evI x a.2 : Int) : Rat) := by rw [val, ev_cast, Rat.intCast_add]
theorem holds_cast {x : ByteArray → Int} {c : Con} : holds (castX x) c ↔ 0 ≤ c.1.1 + evI x c.1.2 ∧ (c.2 = true → c.1.1 + evI x c.1.2 = 0) := by
 rw [holds, val_cast, Rat.intCast_nonneg]
 constructor
 ·rintro ⟨h1, h2⟩
  exact ⟨h1, fun e => by have := h2 e; exact_mod_cast this⟩
 ·rintro ⟨h1, h2⟩
  exact ⟨h1, fun e => by rw [h2 e]; rfl⟩
theorem evI_div {x : ByteArray → Int} {g : Nat} : ∀ {l : List Mono}, (∀ m ∈ l, (g : Int) ∣ m.2) → evI x l = g * evI x (divL g l)
 | [], _ => by simp [evI, divL]
 |m :: r, h => by
  have h1 := Int.mul_ediv_cancel' (h m List.mem_cons_self)
  have h2 := evI_div (x := x) (fun q hq => h q (List.mem_cons_of_mem _ hq))
  rw [evI, h2]
  show _ = (g : Int) * (m.2 / (g : Int) * x m.1 + evI x (divL g r))
  rw [Int.mul_add, ← Int.mul_assoc, h1]
theorem evI_neg {x : ByteArray → Int} : ∀ {l : List Mono}, evI x (l.map fun m => (m.1, -m.2)) = -evI x l
 | [] => rfl
 |m :: r => by
  rw [List.map_cons, evI, evI, evI_neg]
  show -m.2 * x m.1 + _ = _
  rw [Int.neg_mul]
  omega
/-- The tight form holds where the constraint holds, for whole numbers. -/
theorem tight_holds {x : ByteArray → Int} {c : Con} (h : holds (castX x) c) (he : (tightS c).2.2 = 0) : holds (castX x) (tightS c).1 := by
 rw [holds_cast] at h ⊢
 obtain ⟨⟨K, l⟩, q⟩ := c
 simp only at h
 obtain ⟨h1, h2⟩ := h
 unfold tightS at he ⊢
 simp only at he ⊢
 split at he
 ·cases he
 ·rename_i hok
  rw [if_neg hok]
  have hok := linOk_iff.1 (Classical.not_not.1 hok)
  by_cases hl : l = []
  ·subst hl
   simp only [evI, Int.add_zero] at h1 h2
   rw [if_pos rfl, if_pos (by
    by_cases hq : q = true
    ·exact .inl (h2 hq)
    ·by_cases h0 : K = 0
     ·exact .inl h0
     ·exact .inr ⟨by omega, by simpa using hq⟩)]
   simp [conZ, evI]
  ·rw [if_neg hl] at he ⊢
   have hg := gcdL_pos hl (fun m hm => (hok.2 m hm).2)
   have hdv : ∀ m ∈ l, ((gcdL l : Nat) : Int) ∣ m.2 := fun m hm => gcdL_dvdI hm
   have e1 := evI_div (x := x) hdv
   generalize gcdL l = g at *
   generalize hE : evI x (divL g l) = E at *
   rw [e1] at h1 h2
   have hG : (0 : Int) < (g : Int) := by omega
   have hfl : (K + g * E) / (g : Int) = K / g + E := Int.add_mul_ediv_left _ _ (by omega)
   have hdq : q = true → (g : Int) ∣ K := fun hq => ⟨-E, by have := h2 hq; rw [Int.mul_neg]; omega⟩
   have hm0 : q = true → K.natAbs % g = 0 := fun hq => by
    have := hdq hq
    exact Nat.mod_eq_zero_of_dvd (Int.ofNat_dvd_left.1 this)
   rw [if_neg (by rintro ⟨a, b⟩; exact b (hm0 a))] at he ⊢
   have hv : 0 ≤ K / (g : Int) + E := by rw [← hfl]; exact Int.ediv_nonneg h1 (by omega)
   have hz : q = true → K / (g : Int) + E = 0 := fun hq => by rw [← hfl, h2 hq]; simp
   split at he
   ·rename_i hh
    rw [if_pos hh]
    split at he
    ·rename_i hb
     rw [if_pos hb]
     simp only [evI_neg, hE]
     have := hz hh.1
     exact ⟨by omega, fun _ => by omega⟩
    ·cases he
   ·rename_i hh
    rw [if_neg hh]
    simp only [hE]
    exact ⟨hv, hz⟩
theorem tightG_spec : ∀ {l acc : List Con} {t : List Con}, tightG acc l = (t, 0) → ∃ r, t = acc ++ r ∧ r.length = l.length ∧ (∀ k (h : k < l.length) (h' : k < r.length), (tightS l[k]).2.2 = 0 ∧ r[k] = (tightS l[k]).1)
 |[], acc, t, h => by
  rw [tightG] at h
  cases h
  exact ⟨[], by simp, rfl, fun k h => by simp at h⟩
 |c :: l, acc, t, h => by
  rw [tightG] at h
  split at h
  ·rename_i h0
   exact absurd (congrArg Prod.snd h) h0
  ·rename_i h0
   obtain ⟨r, h1, h2, h3⟩ := tightG_spec h
   refine ⟨(tightS c).1 :: r, by rw [h1]; simp, by simp [h2], fun k hk hk' => ?_⟩
   cases k with
   | zero => exact ⟨Classical.not_not.1 h0, rfl⟩
   | succ k => exact h3 k (by simpa using hk) (by simpa using hk')
theorem tightL_spec {l t : List Con} (h : tightL l = (t, 0)) : t.length = l.length ∧ (∀ c ∈ l, (tightS c).2.2 = 0) ∧ ∀ d ∈ t, ∃ c ∈ l, d = (tightS c).1 := by
 rw [tightL] at h
 split at h
 ·cases h
 ·obtain ⟨r, h1, h2, h3⟩ := tightG_spec h
  simp only [List.nil_append] at h1
  subst h1
  refine ⟨h2, fun c hc => ?_, fun d hd => ?_⟩
  ·obtain ⟨k, hk, rfl⟩ := List.mem_iff_getElem.1 hc
   exact (h3 k hk (by omega)).1
  ·obtain ⟨k, hk, rfl⟩ := List.mem_iff_getElem.1 hd
   exact ⟨l[k], List.getElem_mem _, (h3 k (by omega) hk).2⟩
theorem tightL_holds {x : ByteArray → Int} {l t : List Con} (h : tightL l = (t, 0)) (hl : ∀ c ∈ l, holds (castX x) c) : ∀ d ∈ t, holds (castX x) d := by
 obtain ⟨h1, h2, h3⟩ := tightL_spec h
 intro d hd
 obtain ⟨c, hc, rfl⟩ := h3 d hd
 exact tight_holds (hl c hc) (h2 c hc)
end Go.Proofs.Ytnddmjhpplopbaa
