/- Plain laws: combinations of constraints; that the reference's combination is the program's. -/
import Derived.Test.YtnddmjhpplopbaaPlain07a
set_option linter.unusedVariables false
set_option linter.unusedSimpArgs false
namespace Go.Proofs.Ytnddmjhpplopbaa
open Go.Abs

abbrev Lin := Int × List Mono
abbrev Con := Lin × Bool
def addT (T : List Tri) : List Mono := T.filterMap fun t => if t.2.1 + t.2.2 = 0 then none else some (t.1, t.2.1 + t.2.2)
def addOk (a b : Lin) : Prop := in64 (a.1 + b.1) ∧ ∀ t ∈ mergeX a.2 b.2, in64 (t.2.1 + t.2.2)
noncomputable instance (a b : Lin) : Decidable (addOk a b) := Classical.propDecidable _
def addV (a b : Lin) : Lin := (a.1 + b.1, addT (mergeX a.2 b.2))
noncomputable def addS (a b : Lin) : Lin × Int := if addOk a b then (addV a b, 0) else ((0, []), 3)
def scaleOk (a : Lin) (b : Int) : Prop := in64 (a.1 * b) ∧ ∀ m ∈ a.2, in64 (m.2 * b)
noncomputable instance (a : Lin) (b : Int) : Decidable (scaleOk a b) := Classical.propDecidable _
def scaleV (a : Lin) (b : Int) : Lin := if b = 0 then (0, []) else (a.1 * b, a.2.map fun m => (m.1, m.2 * b))
noncomputable def scaleS (a : Lin) (b : Int) : Lin × Int := if b = 0 ∨ scaleOk a b then (scaleV a b, 0) else ((0, []), 3)

theorem addT_spec {T : List Tri} (h : T.Pairwise fun s t => sless s.1 t.1 = true) : srt (addT T) ∧ (∀ m ∈ addT T, m.2 ≠ 0 ∧ ∃ t ∈ T, t.1 = m.1) ∧ (∀ t ∈ T, cf (addT T) t.1 = t.2.1 + t.2.2) := by
 have hmem : ∀ m ∈ addT T, m.2 ≠ 0 ∧ ∃ t ∈ T, t.1 = m.1 ∧ m.2 = t.2.1 + t.2.2 := by
  intro m hm
  obtain ⟨t, ht, e⟩ := List.mem_filterMap.1 hm
  split at e
  ·cases e
  ·rename_i h0
   cases e
   exact ⟨h0, t, ht, rfl, rfl⟩
 have hs : srt (addT T) := by
  rw [srt, addT, List.pairwise_filterMap]
  refine h.imp ?_
  intro s t hst x hx y hy
  split at hx
  ·cases hx
  ·cases hx
   split at hy
   ·cases hy
   ·cases hy
    exact hst
 refine ⟨hs, fun m hm => ⟨(hmem m hm).1, by obtain ⟨t, h1, h2, _⟩ := (hmem m hm).2; exact ⟨t, h1, h2⟩⟩, fun t ht => ?_⟩
 by_cases h0 : t.2.1 + t.2.2 = 0
 ·rw [h0]
  refine cf_notin fun m hm e => ?_
  obtain ⟨g0, t', g1, g2, g3⟩ := hmem m hm
  have : t' = t := by
   have hinj : ∀ {T : List Tri}, T.Pairwise (fun s t => sless s.1 t.1 = true) → ∀ s ∈ T, ∀ t ∈ T, s.1 = t.1 → s = t := by
    intro T
    induction T with
    | nil => intro _ s hs; cases hs
    | cons x r ih =>
     intro hp s hs t ht he
     rw [List.pairwise_cons] at hp
     rcases List.mem_cons.1 hs with rfl | hs'
     ·rcases List.mem_cons.1 ht with rfl | ht'
      ·rfl
      ·exact absurd he (sless_ne (hp.1 t ht'))
     ·rcases List.mem_cons.1 ht with rfl | ht'
      ·exact absurd he.symm (sless_ne (hp.1 s hs'))
      ·exact ih hp.2 s hs' t ht' he
   exact hinj h t' g1 t ht (g2.trans e)
  subst this
  exact g0 (g3.trans h0)
 ·have hm : (t.1, t.2.1 + t.2.2) ∈ addT T := List.mem_filterMap.2 ⟨t, ht, by rw [if_neg h0]⟩
  exact cf_mem hs hm
theorem addV_cf {a b : Lin} (ha : srt a.2) (hb : srt b.2) (n : ByteArray) : cf (addV a b).2 n = cf a.2 n + cf b.2 n := by
 obtain ⟨h1, h2, h3⟩ := mergeX_spec a.2 b.2 ha hb
 obtain ⟨k1, k2, k3⟩ := addT_spec h1
 by_cases h : ∃ t ∈ mergeX a.2 b.2, t.1 = n
 ·obtain ⟨t, ht, rfl⟩ := h
  rw [addV, k3 t ht, (h2 t ht).1, (h2 t ht).2.1]
 ·rw [addV, cf_notin (l := addT (mergeX a.2 b.2)), cf_notin (l := a.2), cf_notin (l := b.2)]
  ·rfl
  ·intro m hm e
   obtain ⟨t, ht, e2⟩ := h3 m (.inr hm)
   exact h ⟨t, ht, e2.trans e⟩
  ·intro m hm e
   obtain ⟨t, ht, e2⟩ := h3 m (.inl hm)
   exact h ⟨t, ht, e2.trans e⟩
  ·intro m hm e
   obtain ⟨_, t, ht, e2⟩ := k2 m hm
   exact h ⟨t, ht, e2.trans e⟩
theorem addV_srt {a b : Lin} (ha : srt a.2) (hb : srt b.2) : srt (addV a b).2 := (addT_spec (mergeX_spec a.2 b.2 ha hb).1).1
theorem addV_ne {a b : Lin} (ha : srt a.2) (hb : srt b.2) : ∀ m ∈ (addV a b).2, m.2 ≠ 0 := fun m hm => ((addT_spec (mergeX_spec a.2 b.2 ha hb).1).2.1 m hm).1
theorem addV_names {a b : Lin} (ha : srt a.2) (hb : srt b.2) : ∀ m ∈ (addV a b).2, (∃ x ∈ a.2, x.1 = m.1) ∨ ∃ x ∈ b.2, x.1 = m.1 := fun m hm => by
 obtain ⟨h1, h2, h3⟩ := mergeX_spec a.2 b.2 ha hb
 obtain ⟨_, t, ht, e⟩ := (addT_spec h1).2.1 m hm
 rw [← e]
 exact (h2 t ht).2.2
theorem addV_ok {a b : Lin} (ha : linOk a.2) (hb : linOk b.2) : linOk (addV a b).2 := by
 rw [linOk_iff] at *
 refine ⟨addV_srt ha.1 hb.1, fun m hm => ⟨?_, addV_ne ha.1 hb.1 m hm⟩⟩
 rcases addV_names ha.1 hb.1 m hm with ⟨x, hx, e⟩ | ⟨x, hx, e⟩
 ·rw [← e]; exact (ha.2 x hx).1
 ·rw [← e]; exact (hb.2 x hx).1
theorem addOk_iff {a b : Lin} (ha : srt a.2) (hb : srt b.2) : addOk a b ↔ in64 (a.1 + b.1) ∧ ∀ n, in64 (cf a.2 n + cf b.2 n) := by
 obtain ⟨h1, h2, h3⟩ := mergeX_spec a.2 b.2 ha hb
 constructor
 ·rintro ⟨h, hall⟩
  refine ⟨h, fun n => ?_⟩
  by_cases hn : ∃ t ∈ mergeX a.2 b.2, t.1 = n
  ·obtain ⟨t, ht, rfl⟩ := hn
   rw [← (h2 t ht).1, ← (h2 t ht).2.1]
   exact hall t ht
  ·rw [cf_notin (l := a.2), cf_notin (l := b.2)]
   ·unfold in64; omega
   ·intro m hm e
    obtain ⟨t, ht, e2⟩ := h3 m (.inr hm)
    exact hn ⟨t, ht, e2.trans e⟩
   ·intro m hm e
    obtain ⟨t, ht, e2⟩ := h3 m (.inl hm)
    exact hn ⟨t, ht, e2.trans e⟩
 ·rintro ⟨h, hall⟩
  refine ⟨h, fun t ht => ?_⟩
  rw [(h2 t ht).1, (h2 t ht).2.1]
  exact hall t.1
theorem scaleV_cf (a : Lin) (b : Int) (n : ByteArray) : cf (scaleV a b).2 n = cf a.2 n * b := by
 rw [scaleV]
 split
 ·rename_i h; subst h; simp [cf]
 ·obtain ⟨k, l⟩ := a
  simp only
  induction l with
  | nil => simp [cf]
  | cons m r ih =>
   simp only [List.map_cons, cf]
   split
   ·rfl
   ·exact ih
theorem scaleV_fst (a : Lin) (b : Int) : (scaleV a b).1 = a.1 * b := by
 rw [scaleV]
 split
 ·rename_i h; subst h; simp
 ·rfl
theorem scaleV_ok {a : Lin} {b : Int} (ha : linOk a.2) : linOk (scaleV a b).2 := by
 rw [scaleV]
 split
 ·intro i hi; simp at hi
 ·rename_i hb
  rw [linOk_iff] at *
  refine ⟨?_, fun m hm => ?_⟩
  ·simp only [srt, List.pairwise_map]; exact ha.1
  ·obtain ⟨x, hx, rfl⟩ := List.mem_map.1 hm
   exact ⟨(ha.2 x hx).1, Int.mul_ne_zero (ha.2 x hx).2 hb⟩
theorem scaleV_names {a : Lin} {b : Int} : ∀ m ∈ (scaleV a b).2, ∃ x ∈ a.2, x.1 = m.1 := fun m hm => by
 rw [scaleV] at hm
 split at hm
 ·cases hm
 ·obtain ⟨x, hx, rfl⟩ := List.mem_map.1 hm
  exact ⟨x, hx, rfl⟩

def conZ : Con := ((0, []), false)
/-- The combination, one constraint after the other. -/
noncomputable def combS (out : Lin) (eq : Bool) : List (Con × Int) → Con × Int
 | [] => ((out, eq), 0)
 | p :: r => if ¬ (p.2 = 0 ∨ scaleOk p.1.1 p.2) ∨ ¬ addOk out (scaleV p.1.1 p.2) then (conZ, 3) else combS (addV out (scaleV p.1.1 p.2)) (eq && (p.1.2 || decide (p.2 = 0))) r
def badC (p : Con × Int) : Prop := ¬ linOk p.1.1.2 ∨ (p.2 < 0 ∧ p.1.2 = false)
noncomputable instance (l : List (Con × Int)) : Decidable (∃ p ∈ l, badC p) := Classical.propDecidable _
noncomputable def conCombine (l : List Con) (b : List Int) : Con × Int :=
 if l.length ≠ b.length then (conZ, 1) else if ∃ p ∈ l.zip b, badC p then (conZ, 1) else combS (0, []) true (l.zip b)

/-! The reference. -/
def insR : List Mono → ByteArray → Int → List Mono × Bool
 | [], n, x => ([(n, x)], true)
 | m :: r, n, x => if sless m.1 n = true then (m :: (insR r n x).1, (insR r n x).2) else if m.1 = n then ((m.1, (ok64 (m.2 + x)).1) :: r, (ok64 (m.2 + x)).2) else ((n, x) :: m :: r, true)
abbrev Sum := Int × List Mono × Bool
def foldR (b : Int) : List Mono → List Mono × Bool → List Mono × Bool
 | [], s => s
 | m :: r, s => foldR b r ((insR s.1 m.1 (ok64 (m.2 * b)).1).1, s.2 && (ok64 (m.2 * b)).2 && (insR s.1 m.1 (ok64 (m.2 * b)).1).2)
def scaledR (s : Sum) (c : Lin) (b : Int) : Sum :=
 ((ok64 (s.1 + (ok64 (c.1 * b)).1)).1, foldR b c.2 (s.2.1, s.2.2 && (ok64 (c.1 * b)).2 && (ok64 (s.1 + (ok64 (c.1 * b)).1)).2))
def sumR : List (Con × Int) → Sum → Sum
 | [], s => s
 | p :: r, s => sumR r (scaledR s p.1.1 p.2)
def eqR (l : List (Con × Int)) : Bool := l.all fun p => p.1.2 || decide (p.2 = 0)
def formR (l : List Mono) : List Mono := l.filter fun m => decide (m.2 ≠ 0)
noncomputable instance (l : List (Con × Int)) : Decidable (∃ p ∈ l, p.2 < 0 ∧ p.1.2 = false) := Classical.propDecidable _
noncomputable def weighted (l : List Con) (b : List Int) : Con × Int :=
 if l.length ≠ b.length then (conZ, 1) else if ∃ p ∈ l.zip b, p.2 < 0 ∧ p.1.2 = false then (conZ, 1) else
 if (sumR (l.zip b) (0, [], true)).2.2 = false then (conZ, 3) else (((sumR (l.zip b) (0, [], true)).1, formR (sumR (l.zip b) (0, [], true)).2.1), eqR (l.zip b)) |> fun c => (c, 0)

theorem foldR_false {b : Int} : ∀ {c l : List Mono}, (foldR b c (l, false)).2 = false
 | [], l => rfl
 | m :: r, l => by rw [foldR]; simp only [Bool.false_and]; exact foldR_false
theorem scaledR_false {s : Sum} {c : Lin} {b : Int} (h : s.2.2 = false) : (scaledR s c b).2.2 = false := by
 rw [scaledR, h]; simp only [Bool.false_and]; exact foldR_false
theorem sumR_false : ∀ {l : List (Con × Int)} {s : Sum}, s.2.2 = false → (sumR l s).2.2 = false
 | [], s, h => h
 | p :: r, s, h => by rw [sumR]; exact sumR_false (scaledR_false h)
theorem ok64_snd {x : Int} : (ok64 x).2 = true ↔ in64 x := by
 unfold ok64; split <;> simp [*]
theorem insR_spec {n : ByteArray} {x : Int} (hx : in64 x) : ∀ {l : List Mono}, srt l → ((insR l n x).2 = true ↔ in64 (cf l n + x)) ∧ ((insR l n x).2 = true → srt (insR l n x).1 ∧ (∀ m, cf (insR l n x).1 m = cf l m + if n = m then x else 0) ∧ ∀ z ∈ (insR l n x).1, z.1 = n ∨ ∃ w ∈ l, w.1 = z.1)
 |[], _ => by
  simp only [insR, cf, Int.zero_add, true_iff]
  refine ⟨hx, fun _ => ⟨by simp [srt], fun m => by simp, fun z hz => ?_⟩⟩
  rw [List.mem_singleton] at hz
  exact .inl (by rw [hz])
 |m :: r, hs => by
  have hs' := List.pairwise_cons.1 hs
  obtain ⟨i1, i2⟩ := insR_spec (n := n) hx hs'.2
  simp only [insR]
  by_cases h1 : sless m.1 n = true
  ·rw [if_pos h1]
   have e : cf (m :: r) n = cf r n := by rw [cf, if_neg (sless_ne h1)]
   rw [e]
   refine ⟨i1, fun h => ?_⟩
   obtain ⟨j1, j2, j3⟩ := i2 h
   refine ⟨List.pairwise_cons.2 ⟨fun z hz => ?_, j1⟩, fun k => ?_, fun z hz => ?_⟩
   ·rcases j3 z hz with e | ⟨w, hw, e⟩
    ·rw [e]; exact h1
    ·rw [← e]; exact hs'.1 w hw
   ·simp only [cf]
    by_cases ek : m.1 = k
    ·rw [if_pos ek, if_pos ek, if_neg (by rw [← ek]; exact fun e => sless_ne h1 e.symm)]; omega
    ·rw [if_neg ek, if_neg ek]; exact j2 k
   ·rcases List.mem_cons.1 hz with rfl | hz
    ·exact .inr ⟨_, List.mem_cons_self, rfl⟩
    ·rcases j3 z hz with e | ⟨w, hw, e⟩
     ·exact .inl e
     ·exact .inr ⟨w, List.mem_cons_of_mem _ hw, e⟩
  ·rw [if_neg h1]
   by_cases h2 : m.1 = n
   ·rw [if_pos h2]
    have e : cf (m :: r) n = m.2 := by rw [cf, if_pos h2]
    rw [e]
    refine ⟨ok64_snd, fun h => ?_⟩
    have hv : (ok64 (m.2 + x)).1 = m.2 + x := by rw [ok64_in (ok64_snd.1 h)]
    refine ⟨List.pairwise_cons.2 ⟨fun z hz => hs'.1 z hz, hs'.2⟩, fun k => ?_, fun z hz => ?_⟩
    ·simp only [cf, hv]
     by_cases ek : m.1 = k
     ·rw [if_pos ek, if_pos ek, if_pos (h2.symm.trans ek)]
     ·rw [if_neg ek, if_neg ek, if_neg (fun e => ek (h2.trans e))]; omega
    ·rcases List.mem_cons.1 hz with rfl | hz
     ·exact .inl h2
     ·exact .inr ⟨z, List.mem_cons_of_mem _ hz, rfl⟩
   ·rw [if_neg h2]
    have hl : sless n m.1 = true := by
     rcases sless_tri n m.1 with h | h | h
     ·exact h
     ·exact absurd h.symm h2
     ·exact absurd h h1
    have c0 : cf (m :: r) n = 0 := cf_notin fun z hz => by
     rcases List.mem_cons.1 hz with rfl | hz
     ·exact h2
     ·exact fun e => sless_ne (sless_trans hl (hs'.1 z hz)) e.symm
    rw [c0, Int.zero_add]
    refine ⟨⟨fun _ => hx, fun _ => rfl⟩, fun _ => ⟨List.pairwise_cons.2 ⟨fun z hz => ?_, hs⟩, fun k => ?_, fun z hz => ?_⟩⟩
    ·rcases List.mem_cons.1 hz with rfl | hz
     ·exact hl
     ·exact sless_trans hl (hs'.1 z hz)
    ·rw [cf]
     by_cases ek : n = k
     ·rw [if_pos ek, if_pos ek, ← ek, c0]; omega
     ·rw [if_neg ek, if_neg ek]; omega
    ·rcases List.mem_cons.1 hz with rfl | hz
     ·exact .inl rfl
     ·exact .inr ⟨z, hz, rfl⟩
theorem in64_zero : in64 0 := by unfold in64; omega
theorem foldR_spec {b : Int} : ∀ {c l : List Mono}, srt c → srt l → (∀ n, in64 (cf l n)) → ((foldR b c (l, true)).2 = true ↔ (∀ m ∈ c, in64 (m.2 * b)) ∧ ∀ n, in64 (cf l n + cf c n * b)) ∧ ((foldR b c (l, true)).2 = true → srt (foldR b c (l, true)).1 ∧ ∀ n, cf (foldR b c (l, true)).1 n = cf l n + cf c n * b)
 |[], l, _, hl, h64 => by
  simp only [foldR, cf, Int.zero_mul, Int.add_zero, true_iff]
  exact ⟨⟨fun m hm => (by cases hm), h64⟩, fun _ => ⟨hl, fun n => trivial⟩⟩
 |m :: r, l, hc, hl, h64 => by
  have hc' := List.pairwise_cons.1 hc
  have cr : cf r m.1 = 0 := cf_notin fun z hz e => sless_ne (hc'.1 z hz) e.symm
  rw [foldR]
  by_cases hp : in64 (m.2 * b)
  ·rw [ok64_in hp]
   simp only [Bool.true_and, Bool.and_true]
   obtain ⟨i1, i2⟩ := insR_spec (n := m.1) hp hl
   by_cases hq : in64 (cf l m.1 + m.2 * b)
   ·have hq' := i1.2 hq
    obtain ⟨j1, j2, j3⟩ := i2 hq'
    rw [hq']
    have h64' : ∀ n, in64 (cf (insR l m.1 (m.2 * b)).1 n) := fun n => by
     rw [j2]
     split
     ·rename_i e; rw [← e]; exact hq
     ·rw [Int.add_zero]; exact h64 n
    obtain ⟨k1, k2⟩ := foldR_spec (b := b) hc'.2 j1 h64'
    have key : ∀ n, cf (insR l m.1 (m.2 * b)).1 n + cf r n * b = cf l n + cf (m :: r) n * b := fun n => by
     rw [j2, cf]
     by_cases e : m.1 = n
     ·rw [if_pos e, if_pos e, ← e, cr]; omega
     ·rw [if_neg e, if_neg e]; omega
    refine ⟨?_, fun h => ?_⟩
    ·rw [k1]
     constructor
     ·rintro ⟨g1, g2⟩
      refine ⟨fun z hz => ?_, fun n => by rw [← key]; exact g2 n⟩
      rcases List.mem_cons.1 hz with rfl | hz
      ·exact hp
      ·exact g1 z hz
     ·rintro ⟨g1, g2⟩
      exact ⟨fun z hz => g1 z (List.mem_cons_of_mem _ hz), fun n => by rw [key]; exact g2 n⟩
    ·obtain ⟨g1, g2⟩ := k2 h
     exact ⟨g1, fun n => by rw [g2, key]⟩
   ·have hq' : (insR l m.1 (m.2 * b)).2 = false := by
     cases h : (insR l m.1 (m.2 * b)).2 with
     | false => rfl
     | true => exact absurd (i1.1 h) hq
    rw [hq', foldR_false]
    refine ⟨⟨fun h => (by cases h), fun h => ?_⟩, fun h => (by cases h)⟩
    have := h.2 m.1
    rw [cf, if_pos rfl] at this
    exact absurd this hq
  ·rw [ok64_out hp]
   simp only [Bool.and_false, Bool.false_and]
   rw [foldR_false]
   exact ⟨⟨fun h => (by cases h), fun h => absurd (h.1 m List.mem_cons_self) hp⟩, fun h => (by cases h)⟩
/-- A sum under construction, and a form. -/
def RelS (out : Lin) (s : Sum) : Prop := s.2.2 = true ∧ s.1 = out.1 ∧ srt s.2.1 ∧ (∀ n, cf s.2.1 n = cf out.2 n) ∧ linOk out.2 ∧ in64 out.1 ∧ ∀ n, in64 (cf out.2 n)
theorem step_spec {out : Lin} {s : Sum} {c : Lin} {b : Int} (h : RelS out s) (hc : linOk c.2) :
  (((b = 0 ∨ scaleOk c b) ∧ addOk out (scaleV c b)) → RelS (addV out (scaleV c b)) (scaledR s c b)) ∧ (¬ ((b = 0 ∨ scaleOk c b) ∧ addOk out (scaleV c b)) → (scaledR s c b).2.2 = false) := by
 obtain ⟨r1, r2, r3, r4, r5, r6, r7⟩ := h
 obtain ⟨k, l, ok⟩ := s
 simp only at r1 r2 r3 r4
 subst r1
 subst r2
 have so := (linOk_iff.1 r5).1
 have sc := (linOk_iff.1 hc).1
 have ss := (linOk_iff.1 (scaleV_ok (b := b) hc)).1
 obtain ⟨f1, f2⟩ := foldR_spec (b := b) sc r3 (fun n => by rw [r4]; exact r7 n)
 rw [addOk_iff so ss, scaleV_fst]
 simp only [scaleV_cf]
 have hmul : (b = 0 ∨ scaleOk c b) ↔ in64 (c.1 * b) ∧ ∀ m ∈ c.2, in64 (m.2 * b) := by
  constructor
  ·rintro (rfl | h)
   ·simp only [Int.mul_zero]; exact ⟨in64_zero, fun _ _ => in64_zero⟩
   ·exact h
  ·exact .inr
 rw [hmul]
 constructor
 ·rintro ⟨⟨g1, g2⟩, g3, g4⟩
  have hf : (foldR b c.2 (l, true)).2 = true := f1.2 ⟨g2, fun n => by rw [r4]; exact g4 n⟩
  obtain ⟨e1, e2⟩ := f2 hf
  simp only [scaledR, ok64_in g1, ok64_in g3, Bool.and_self]
  refine ⟨hf, by rw [addV, scaleV_fst], e1, fun n => by rw [e2, r4, addV_cf so ss, scaleV_cf], addV_ok r5 (scaleV_ok hc), by rw [addV, scaleV_fst]; exact g3, fun n => by rw [addV_cf so ss, scaleV_cf]; exact g4 n⟩
 ·intro hno
  simp only [scaledR]
  by_cases g1 : in64 (c.1 * b)
  ·rw [ok64_in g1]
   by_cases g3 : in64 (out.1 + c.1 * b)
   ·simp only [ok64_in g3, Bool.and_self]
    cases hf : (foldR b c.2 (l, true)).2 with
    | false => rfl
    | true =>
     obtain ⟨g2, g4⟩ := f1.1 hf
     exact absurd ⟨⟨g1, g2⟩, g3, fun n => by rw [← r4]; exact g4 n⟩ hno
   ·simp only [ok64_out g3, Bool.and_false]
    exact foldR_false
  ·rw [ok64_out g1]
   simp only [Bool.and_false, Bool.false_and]
   exact foldR_false
theorem formR_cf {l : List Mono} : ∀ n, srt l → cf (formR l) n = cf l n := by
 intro n hs
 induction l with
 | nil => rfl
 | cons m r ih =>
  have hs' := List.pairwise_cons.1 hs
  rw [formR, List.filter_cons]
  by_cases h : m.2 = 0
  ·simp only [h, ne_eq, not_true_eq_false, decide_false, Bool.false_eq_true, if_false]
   show cf (formR r) n = _
   rw [ih hs'.2, cf]
   by_cases e : m.1 = n
   ·rw [if_pos e, h, ← e, cf_notin fun z hz e => sless_ne (hs'.1 z hz) e.symm]
   ·rw [if_neg e]
  ·simp only [h, ne_eq, not_false_eq_true, decide_true, if_true]
   rw [cf, cf]
   split
   ·rfl
   ·exact ih hs'.2
theorem formR_eq {out : Lin} {s : Sum} (h : RelS out s) : formR s.2.1 = out.2 := by
 obtain ⟨r1, r2, r3, r4, r5, r6, r7⟩ := h
 refine srt_ext ?_ (linOk_iff.1 r5).1 (fun m hm => ?_) (fun m hm => ((linOk_iff.1 r5).2 m hm).2) fun n => by rw [formR_cf n r3, r4]
 ·exact r3.filter _
 ·have := (List.mem_filter.1 hm).2
  simpa using this
theorem combS_sum : ∀ {l : List (Con × Int)} {out : Lin} {s : Sum} {eq : Bool}, RelS out s → (∀ p ∈ l, linOk p.1.1.2) →
  combS out eq l = if (sumR l s).2.2 = false then (conZ, 3) else ((((sumR l s).1, formR (sumR l s).2.1), eq && eqR l), 0)
 |[], out, s, eq, h, _ => by
  rw [combS, sumR, if_neg (by rw [h.1]; simp), formR_eq h, h.2.1]
  simp [eqR]
 |p :: r, out, s, eq, h, hl => by
  obtain ⟨h1, h2⟩ := step_spec (b := p.2) h (hl p List.mem_cons_self)
  rw [combS, sumR]
  by_cases hk : (p.2 = 0 ∨ scaleOk p.1.1 p.2) ∧ addOk out (scaleV p.1.1 p.2)
  ·rw [if_neg (by rintro (h | h); exact h hk.1; exact h hk.2), combS_sum (h1 hk) fun q hq => hl q (List.mem_cons_of_mem _ hq)]
   simp [eqR, Bool.and_assoc]
  ·rw [if_pos (by
    by_cases hq : p.2 = 0 ∨ scaleOk p.1.1 p.2
    ·exact .inr fun h => hk ⟨hq, h⟩
    ·exact .inl hq), if_pos (sumR_false (h2 hk))]
theorem rel_zero : RelS (0, []) (0, [], true) := ⟨rfl, rfl, by simp [srt], fun n => rfl, fun i hi => by simp at hi, in64_zero, fun n => in64_zero⟩
theorem weighted_eq {l : List Con} {b : List Int} (h : ∀ c ∈ l, linOk c.1.2) : weighted l b = conCombine l b := by
 rw [weighted, conCombine]
 by_cases h1 : l.length ≠ b.length
 ·rw [if_pos h1, if_pos h1]
 ·rw [if_neg h1, if_neg h1]
  have hz : ∀ p ∈ l.zip b, linOk p.1.1.2 := fun p hp => h p.1 (List.of_mem_zip hp).1
  have e : (∃ p ∈ l.zip b, badC p) ↔ ∃ p ∈ l.zip b, p.2 < 0 ∧ p.1.2 = false := by
   constructor
   ·rintro ⟨p, hp, hb⟩
    exact ⟨p, hp, hb.resolve_left (not_not_intro (hz p hp))⟩
   ·rintro ⟨p, hp, hb⟩
    exact ⟨p, hp, .inr hb⟩
  by_cases h2 : ∃ p ∈ l.zip b, p.2 < 0 ∧ p.1.2 = false
  ·rw [if_pos h2, if_pos (e.2 h2)]
  ·rw [if_neg h2, if_neg (fun h => h2 (e.1 h)), combS_sum rel_zero hz]
   simp
end Go.Proofs.Ytnddmjhpplopbaa
