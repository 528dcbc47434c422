/- Plain laws: ordered lists of monomials, their coefficients, sums. -/
import Derived.Test.YtbblkakcadonjaaGreatDoorV12a
set_option linter.unusedVariables false
set_option linter.unusedSimpArgs false
namespace Go.Proofs.YtbblkakcadonjaaGreatDoor
open Go.Abs

theorem bytesLess_lt : ∀ (x y : List UInt8), Op.bytesLess x y = decide (x < y)
 | [], [] => by simp [Op.bytesLess]
 | [], y :: ys => by simp [Op.bytesLess]
 | x :: xs, [] => by simp [Op.bytesLess]
 |x :: xs, y :: ys => by
  have ih := bytesLess_lt xs ys
  simp only [Op.bytesLess, ih, List.cons_lt_cons_iff]
  by_cases h1 : x < y
  ·simp [h1]
  ·by_cases h2 : x = y
   ·subst h2; simp
   ·have h3 : y < x := by
     rcases Nat.lt_trichotomy x.toNat y.toNat with h | h | h
     ·exact absurd (UInt8.lt_iff_toNat_lt.2 h) h1
     ·exact absurd (UInt8.toNat_inj.1 h) h2
     ·exact UInt8.lt_iff_toNat_lt.2 h
    simp [h1, h2, h3]
theorem sless_iff {a b : ByteArray} : sless a b = true ↔ a.toList < b.toList := by rw [sless, bytesLess_lt, decide_eq_true_iff]
theorem sless_irrefl (a : ByteArray) : ¬ sless a a = true := by rw [sless_iff]; exact List.lt_irrefl _
theorem sless_trans {a b c : ByteArray} (h : sless a b = true) (h' : sless b c = true) : sless a c = true := by
 rw [sless_iff] at *; exact List.lt_trans h h'
theorem sless_tri (a b : ByteArray) : sless a b = true ∨ a = b ∨ sless b a = true := by
 rw [sless_iff, sless_iff]
 by_cases h1 : a.toList < b.toList
 ·exact .inl h1
 ·by_cases h2 : b.toList < a.toList
  ·exact .inr (.inr h2)
  ·exact .inr (.inl (str_eq.1 (List.le_antisymm (List.not_lt.1 h2) (List.not_lt.1 h1))))
theorem sless_asymm {a b : ByteArray} (h : sless a b = true) : ¬ sless b a = true := fun h' => sless_irrefl a (sless_trans h h')
theorem sless_ne {a b : ByteArray} (h : sless a b = true) : a ≠ b := fun e => by subst e; exact sless_irrefl a h

def srt (l : List Mono) : Prop := l.Pairwise fun x y => sless x.1 y.1 = true
def cf : List Mono → ByteArray → Int
 | [], _ => 0
 | m :: r, n => if m.1 = n then m.2 else cf r n
theorem linOk_iff {l : List Mono} : linOk l ↔ srt l ∧ ∀ m ∈ l, idOk m.1 ∧ m.2 ≠ 0 := by
 constructor
 ·intro h
  refine ⟨?_, fun m hm => ?_⟩
  ·have key : ∀ i j (hi : i < j) (hj : j < l.length), sless (l[i]'(by omega)).1 l[j].1 = true := by
    intro i j
    induction j with
    | zero => intro hi; omega
    | succ j ih =>
     intro hi hj
     have hs := (h (j + 1) hj hj).2.2 (by omega)
     simp only [Nat.add_sub_cancel] at hs
     by_cases e : i = j
     ·subst e; exact hs
     ·exact sless_trans (ih (by omega) (by omega)) hs
   rw [srt, List.pairwise_iff_getElem]
   intro i j hi hj hij
   exact key i j hij hj
  ·obtain ⟨i, hi, rfl⟩ := List.mem_iff_getElem.1 hm
   exact ⟨(h i hi hi).1, (h i hi hi).2.1⟩
 ·rintro ⟨h1, h2⟩ i hi hi'
  refine ⟨(h2 _ (List.getElem_mem hi')).1, (h2 _ (List.getElem_mem hi')).2, fun h0 => ?_⟩
  rw [srt, List.pairwise_iff_getElem] at h1
  exact h1 (i - 1) i (by omega) hi' (by omega)
theorem cf_notin {l : List Mono} {n : ByteArray} (h : ∀ m ∈ l, m.1 ≠ n) : cf l n = 0 := by
 induction l with
 | nil => rfl
 | cons m r ih =>
  rw [cf, if_neg (h m List.mem_cons_self)]
  exact ih fun m hm => h m (List.mem_cons_of_mem _ hm)
theorem cf_mem {l : List Mono} (hs : srt l) {m : Mono} (hm : m ∈ l) : cf l m.1 = m.2 := by
 induction l with
 | nil => cases hm
 | cons x r ih =>
  rw [srt, List.pairwise_cons] at hs
  rw [cf]
  rcases List.mem_cons.1 hm with rfl | hm
  ·rw [if_pos rfl]
  ·rw [if_neg (sless_ne (hs.1 m hm))]
   exact ih hs.2 hm
theorem cf_in {l : List Mono} {n : ByteArray} (h : cf l n ≠ 0) : ∃ m ∈ l, m.1 = n ∧ m.2 = cf l n := by
 induction l with
 | nil => exact absurd rfl h
 | cons x r ih =>
  rw [cf] at h ⊢
  by_cases e : x.1 = n
  ·rw [if_pos e]; exact ⟨x, List.mem_cons_self, e, rfl⟩
  ·rw [if_neg e] at h ⊢
   obtain ⟨m, h1, h2⟩ := ih h
   exact ⟨m, List.mem_cons_of_mem _ h1, h2⟩
abbrev Tri := ByteArray × Int × Int
def mergeX : List Mono → List Mono → List Tri
 | [], b => b.map fun m => (m.1, 0, m.2)
 | x :: a, [] => (x :: a).map fun m => (m.1, m.2, 0)
 | x :: a, y :: b => if sless x.1 y.1 = true then (x.1, x.2, 0) :: mergeX a (y :: b) else if sless y.1 x.1 = true then (y.1, 0, y.2) :: mergeX (x :: a) b else (x.1, x.2, y.2) :: mergeX a b
termination_by a b => a.length + b.length
theorem mergeX_nil (b : List Mono) : mergeX [] b = b.map fun m => (m.1, 0, m.2) := by rw [mergeX]
theorem mergeX_left (a : List Mono) : mergeX a [] = a.map fun m => (m.1, m.2, 0) := by cases a <;> rw [mergeX]; rfl
theorem mergeX_cons (x : Mono) (a : List Mono) (y : Mono) (b : List Mono) : mergeX (x :: a) (y :: b) = if sless x.1 y.1 = true then (x.1, x.2, 0) :: mergeX a (y :: b) else if sless y.1 x.1 = true then (y.1, 0, y.2) :: mergeX (x :: a) b else (x.1, x.2, y.2) :: mergeX a b := by rw [mergeX]
theorem mergeX_len : ∀ (a b : List Mono), (mergeX a b).length ≤ a.length + b.length
 | [], b => by rw [mergeX_nil]; simp
 | x :: a, [] => by rw [mergeX_left]; simp
 |x :: a, y :: b => by
  rw [mergeX_cons]
  have h1 := mergeX_len a (y :: b)
  have h2 := mergeX_len (x :: a) b
  have h3 := mergeX_len a b
  simp only [List.length_cons] at *
  split
  ·simp only [List.length_cons]; omega
  ·split
   ·simp only [List.length_cons]; omega
   ·simp only [List.length_cons]; omega
termination_by a b => a.length + b.length
theorem mergeX_spec : ∀ (a b : List Mono), srt a → srt b → (mergeX a b).Pairwise (fun s t => sless s.1 t.1 = true) ∧ (∀ t ∈ mergeX a b, t.2.1 = cf a t.1 ∧ t.2.2 = cf b t.1 ∧ ((∃ m ∈ a, m.1 = t.1) ∨ ∃ m ∈ b, m.1 = t.1)) ∧ (∀ m, m ∈ a ∨ m ∈ b → ∃ t ∈ mergeX a b, t.1 = m.1)
 |[], b, sa, sb => by
  rw [mergeX_nil]
  refine ⟨by rw [List.pairwise_map]; exact sb, fun t ht => ?_, fun m hm => ?_⟩
  ·obtain ⟨m, hm, rfl⟩ := List.mem_map.1 ht
   exact ⟨rfl, (cf_mem sb hm).symm, .inr ⟨m, hm, rfl⟩⟩
  ·rcases hm with hm | hm
   ·cases hm
   ·exact ⟨_, List.mem_map_of_mem hm, rfl⟩
 |x :: a, [], sa, sb => by
  rw [mergeX_left]
  refine ⟨by rw [List.pairwise_map]; exact sa, fun t ht => ?_, fun m hm => ?_⟩
  ·obtain ⟨m, hm, rfl⟩ := List.mem_map.1 ht
   exact ⟨(cf_mem sa hm).symm, rfl, .inl ⟨m, hm, rfl⟩⟩
  ·rcases hm with hm | hm
   ·exact ⟨_, List.mem_map_of_mem hm, rfl⟩
   ·cases hm
 |x :: a, y :: b, sa, sb => by
  have sa' := List.pairwise_cons.1 sa
  have sb' := List.pairwise_cons.1 sb
  rw [mergeX_cons]
  have ne0 : ∀ {z : Mono} {c : List Mono} {n : ByteArray}, srt (z :: c) → sless n z.1 = true → cf (z :: c) n = 0 := by
   intro z c n s hl
   have s' := List.pairwise_cons.1 s
   exact cf_notin fun m hm => by
    rcases List.mem_cons.1 hm with rfl | hm
    ·exact fun e => sless_ne hl e.symm
    ·exact fun e => sless_ne (sless_trans hl (s'.1 m hm)) e.symm
  have big : ∀ {z : Mono} {c : List Mono} {n : ByteArray}, sless z.1 n = true → cf (z :: c) n = cf c n := by
   intro z c n hl
   rw [cf, if_neg (sless_ne hl)]
  split
  ·rename_i hl
   obtain ⟨h1, h2, h3⟩ := mergeX_spec a (y :: b) sa'.2 sb
   have up : ∀ t ∈ mergeX a (y :: b), sless x.1 t.1 = true := fun t ht => by
    rcases (h2 t ht).2.2 with ⟨m, hm, e⟩ | ⟨m, hm, e⟩
    ·rw [← e]; exact sa'.1 m hm
    ·rw [← e]
     rcases List.mem_cons.1 hm with rfl | hm
     ·exact hl
     ·exact sless_trans hl (sb'.1 m hm)
   refine ⟨List.pairwise_cons.2 ⟨up, h1⟩, fun t ht => ?_, fun m hm => ?_⟩
   ·rcases List.mem_cons.1 ht with rfl | ht
    ·exact ⟨by rw [cf, if_pos rfl], (ne0 sb hl).symm, .inl ⟨x, List.mem_cons_self, rfl⟩⟩
    ·obtain ⟨g1, g2, g3⟩ := h2 t ht
     refine ⟨by rw [g1, big (up t ht)], g2, ?_⟩
     rcases g3 with ⟨m, hm, e⟩ | h
     ·exact .inl ⟨m, List.mem_cons_of_mem _ hm, e⟩
     ·exact .inr h
   ·by_cases e : m = x
    ·subst e; exact ⟨_, List.mem_cons_self, rfl⟩
    ·obtain ⟨t, ht, e2⟩ := h3 m (hm.imp (fun h => (List.mem_cons.1 h).resolve_left e) id)
     exact ⟨t, List.mem_cons_of_mem _ ht, e2⟩
  ·rename_i hnl
   split
   ·rename_i hl
    obtain ⟨h1, h2, h3⟩ := mergeX_spec (x :: a) b sa sb'.2
    have up : ∀ t ∈ mergeX (x :: a) b, sless y.1 t.1 = true := fun t ht => by
     rcases (h2 t ht).2.2 with ⟨m, hm, e⟩ | ⟨m, hm, e⟩
     ·rw [← e]
      rcases List.mem_cons.1 hm with rfl | hm
      ·exact hl
      ·exact sless_trans hl (sa'.1 m hm)
     ·rw [← e]; exact sb'.1 m hm
    refine ⟨List.pairwise_cons.2 ⟨up, h1⟩, fun t ht => ?_, fun m hm => ?_⟩
    ·rcases List.mem_cons.1 ht with rfl | ht
     ·exact ⟨(ne0 sa hl).symm, by rw [cf, if_pos rfl], .inr ⟨y, List.mem_cons_self, rfl⟩⟩
     ·obtain ⟨g1, g2, g3⟩ := h2 t ht
      refine ⟨g1, by rw [g2, big (up t ht)], ?_⟩
      rcases g3 with h | ⟨m, hm, e⟩
      ·exact .inl h
      ·exact .inr ⟨m, List.mem_cons_of_mem _ hm, e⟩
    ·by_cases e : m = y
     ·subst e; exact ⟨_, List.mem_cons_self, rfl⟩
     ·obtain ⟨t, ht, e2⟩ := h3 m (hm.imp id (fun h => (List.mem_cons.1 h).resolve_left e))
      exact ⟨t, List.mem_cons_of_mem _ ht, e2⟩
   ·rename_i hnr
    have hxy : x.1 = y.1 := by
     rcases sless_tri x.1 y.1 with h | h | h
     ·exact absurd h hnl
     ·exact h
     ·exact absurd h hnr
    obtain ⟨h1, h2, h3⟩ := mergeX_spec a b sa'.2 sb'.2
    have up : ∀ t ∈ mergeX a b, sless x.1 t.1 = true := fun t ht => by
     rcases (h2 t ht).2.2 with ⟨m, hm, e⟩ | ⟨m, hm, e⟩
     ·rw [← e]; exact sa'.1 m hm
     ·rw [← e, hxy]; exact sb'.1 m hm
    refine ⟨List.pairwise_cons.2 ⟨up, h1⟩, fun t ht => ?_, fun m hm => ?_⟩
    ·rcases List.mem_cons.1 ht with rfl | ht
     ·exact ⟨by rw [cf, if_pos rfl], by rw [cf, if_pos hxy.symm], .inl ⟨x, List.mem_cons_self, rfl⟩⟩
     ·obtain ⟨g1, g2, g3⟩ := h2 t ht
      refine ⟨by rw [g1, big (up t ht)], by rw [g2, big (by rw [← hxy]; exact up t ht)], ?_⟩
      rcases g3 with ⟨m, hm, e⟩ | ⟨m, hm, e⟩
      ·exact .inl ⟨m, List.mem_cons_of_mem _ hm, e⟩
      ·exact .inr ⟨m, List.mem_cons_of_mem _ hm, e⟩
    ·by_cases e : m = x
     ·subst e; exact ⟨_, List.mem_cons_self, rfl⟩
     ·by_cases e' : m = y
      ·subst e'; exact ⟨_, List.mem_cons_self, hxy⟩
      ·obtain ⟨t, ht, e2⟩ := h3 m (hm.imp (fun h => (List.mem_cons.1 h).resolve_left e) (fun h => (List.mem_cons.1 h).resolve_left e'))
       exact ⟨t, List.mem_cons_of_mem _ ht, e2⟩
termination_by a b => a.length + b.length
end Go.Proofs.YtbblkakcadonjaaGreatDoor
set_option linter.unusedVariables false
set_option linter.unusedSimpArgs false
namespace Go.Proofs.YtbblkakcadonjaaGreatDoor
open Go.Abs

def addT (T : List Tri) : List Mono := T.filterMap fun t => if t.2.1 + t.2.2 = 0 then none else some (t.1, t.2.1 + t.2.2)
def addOk (a b : Lin) : Prop := in64 (a.1 + b.1) ∧ ∀ t ∈ mergeX a.2 b.2, in64 (t.2.1 + t.2.2)
noncomputable instance (a b : Lin) : Decidable (addOk a b) := Classical.propDecidable _
def addV (a b : Lin) : Lin := (a.1 + b.1, addT (mergeX a.2 b.2))
noncomputable def addS (a b : Lin) : Lin × Int := if addOk a b then (addV a b, 0) else ((0, []), 3)
def scaleOk (a : Lin) (b : Int) : Prop := in64 (a.1 * b) ∧ ∀ m ∈ a.2, in64 (m.2 * b)
noncomputable instance (a : Lin) (b : Int) : Decidable (scaleOk a b) := Classical.propDecidable _
def scaleV (a : Lin) (b : Int) : Lin := if b = 0 then (0, []) else (a.1 * b, a.2.map fun m => (m.1, m.2 * b))
noncomputable def scaleS (a : Lin) (b : Int) : Lin × Int := if b = 0 ∨ scaleOk a b then (scaleV a b, 0) else ((0, []), 3)

def badC (p : Con × Int) : Prop := ¬ linOk p.1.1.2 ∨ (p.2 < 0 ∧ p.1.2 = false)
noncomputable instance (l : List (Con × Int)) : Decidable (∃ p ∈ l, badC p) := Classical.propDecidable _
noncomputable instance (l : List (Con × Int)) : Decidable (∃ p ∈ l, p.2 < 0 ∧ p.1.2 = false) := Classical.propDecidable _
theorem ok64_snd {x : Int} : (ok64 x).2 = true ↔ in64 x := by
 unfold ok64; split <;> simp [*]
theorem in64_zero : in64 0 := by unfold in64; omega
end Go.Proofs.YtbblkakcadonjaaGreatDoor
