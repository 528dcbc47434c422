/- Plain laws: every constraint of a small set follows from the set. -/
import Derived.Test.YtnddmjhpplopbaaPlain08
import Derived.Test.YtnddmjhpplopbaaPlain07p
set_option linter.unusedVariables false
set_option linter.unusedSimpArgs false
namespace Go.Proofs.Ytnddmjhpplopbaa
open Go.Abs Go.RowKit

theorem conF_no {x : ByteArray → Rat} : ¬ holds x conF := conBad_not ⟨rfl, .inl (by decide)⟩
theorem gcdF_neg : ∀ {l : List Mono} {g : Nat}, gcdF g (l.map fun m => (m.1, -m.2)) = gcdF g l
 | [], g => rfl
 |m :: l, g => by
  simp only [gcdF, List.map_cons, List.foldl_cons, Int.natAbs_neg]
  exact gcdF_neg (l := l) (g := Nat.gcd g m.2.natAbs)
theorem lessV_lin {f : Lin} (h : linOk f.2) : linOk (lessV f).1.2 := by
 obtain ⟨h1, h2⟩ := linOk_iff.1 h
 refine linOk_iff.2 ⟨?_, fun m hm => ?_⟩
 ·show (f.2.map _).Pairwise _
  rw [List.pairwise_map]
  exact h1
 ·obtain ⟨z, hz, rfl⟩ := List.mem_map.1 hm
  exact ⟨(h2 z hz).1, by have := (h2 z hz).2; simp only; omega⟩
theorem ev_neg {x : ByteArray → Rat} {l : List Mono} : ev x (l.map fun m => (m.1, -m.2)) = -ev x l := by
 have := ev_map (x := x) (f := fun n => -n) (k := -1) (fun n => by rw [Rat.intCast_neg]; grind) (l := l)
 rw [this]
 grind
theorem divL_neg {g : Nat} : ∀ {l : List Mono}, (∀ m ∈ l, (g : Int) ∣ m.2) → divL g (l.map fun m => (m.1, -m.2)) = (divL g l).map fun m => (m.1, -m.2)
 | [], _ => rfl
 |m :: l, h => by
  have ih := divL_neg (g := g) (l := l) fun z hz => h z (List.mem_cons_of_mem _ hz)
  have h1 := Int.neg_ediv_of_dvd (h m List.mem_cons_self)
  simp only [divL, List.map_cons] at ih ⊢
  rw [ih, h1]
theorem tight_le {K : Int} {L : List Mono} (hok : linOk L) (hL : L ≠ []) : (tightS ((K, L), false)).1 = ((K / (gcdL L : Int), divL (gcdL L) L), false) := by
 unfold tightS
 rw [if_neg (not_not_intro hok), if_neg hL, if_neg (by simp), if_neg (by simp)]
theorem tight_eq {K : Int} {L : List Mono} {x : ByteArray → Rat} (hok : linOk L) (hL : L ≠ []) (h0 : (tightS ((K, L), true)).2.2 = 0) (h : holds x (tightS ((K, L), true)).1) :
  (gcdL L : Int) ∣ K ∧ ((K / (gcdL L : Int) : Int) : Rat) + ev x (divL (gcdL L) L) = 0 := by
 unfold tightS at h h0
 rw [if_neg (not_not_intro hok), if_neg hL] at h h0
 by_cases hd : K.natAbs % gcdL L = 0
 ·rw [if_neg (by rintro ⟨_, h'⟩; exact h' hd)] at h h0
  refine ⟨Int.ofNat_dvd_left.2 (Nat.dvd_of_mod_eq_zero hd), ?_⟩
  split at h
  ·rename_i hc
   rw [if_pos hc] at h0
   split at h
   ·have h2 := h.2 rfl
    simp only [val, ev_neg, Rat.intCast_neg] at h2
    grind
   ·rename_i hb
    rw [if_neg hb] at h0
    exact absurd h0 (by simp)
  ·have h2 := h.2 rfl
   simp only [val] at h2
   exact h2
 ·rw [if_pos ⟨rfl, hd⟩] at h
  exact absurd h conF_no
theorem floor_less {K : Int} {g : Nat} (hg : 0 < g) : (-1 - K) / (g : Int) = -1 - K / (g : Int) := by
 have h1 := Int.emod_nonneg K (show (g : Int) ≠ 0 by omega)
 have h2 := Int.emod_lt_of_pos K (show (0 : Int) < g by omega)
 have h3 := Int.mul_ediv_add_emod K (g : Int)
 refine ((Int.ediv_emod_unique (r := (g : Int) - 1 - K % (g : Int)) (by omega)).2 ⟨?_, by omega, by omega⟩).1
 rw [Int.mul_sub]
 omega
theorem floor_more {K : Int} {g : Nat} (hg : 0 < g) (hd : (g : Int) ∣ K) : (K - 1) / (g : Int) = K / (g : Int) - 1 := by
 have h3 := Int.mul_ediv_cancel' hd
 refine ((Int.ediv_emod_unique (r := (g : Int) - 1) (by omega)).2 ⟨?_, by omega, by omega⟩).1
 rw [Int.mul_sub]
 omega
theorem tight_nil {K : Int} {q : Bool} : (tightS ((K, []), q)).1 = if K = 0 ∨ (0 < K ∧ q = false) then conZ else conF := by
 unfold tightS
 rw [if_neg (not_not_intro linOk_nil), if_pos rfl]
 split <;> rfl
/-- A constraint and a part of its negation have no common solution, when both are tight. -/
theorem own_part {c p : Con} {x : ByteArray → Rat} (hok : linOk c.1.2) (h0 : (tightS c).2.2 = 0) (hp : p ∈ (negS c).1) (h1 : holds x (tightS c).1) (h2 : holds x (tightS p).1) : False := by
 obtain ⟨⟨K, L⟩, q⟩ := c
 have hp : p = lessV (K, L) ∨ (q = true ∧ p = moreV (K, L)) := by
  unfold negS at hp
  (repeat' split at hp)
  ·cases hp
  ·cases hp
  ·exact .inl (List.mem_singleton.1 hp)
  ·cases hp
  ·rename_i hq _
   rcases List.mem_cons.1 hp with hp | hp
   ·exact .inr ⟨by simpa using hq, hp⟩
   ·exact .inl (List.mem_singleton.1 hp)
 simp only at hok
 by_cases hL : L = []
 ·subst hL
  rw [tight_nil] at h1
  rcases hp with rfl | ⟨rfl, rfl⟩
  ·have e : lessV (K, []) = ((-1 - K, []), false) := rfl
   rw [e, tight_nil] at h2
   by_cases hc : K = 0 ∨ (0 < K ∧ q = false)
   ·rw [if_neg (by omega)] at h2
    exact conF_no h2
   ·rw [if_neg hc] at h1
    exact conF_no h1
  ·have e : moreV (K, []) = ((K - 1, []), false) := rfl
   rw [e, tight_nil] at h2
   by_cases hc : K = 0 ∨ (0 < K ∧ true = false)
   ·have hk : K = 0 := hc.resolve_right (by simp)
    rw [if_neg (by omega)] at h2
    exact conF_no h2
   ·rw [if_neg hc] at h1
    exact conF_no h1
 ·have hg := gcdL_pos hL (fun m hm => ((linOk_iff.1 hok).2 m hm).2)
  have hdv : ∀ m ∈ L, ((gcdL L : Nat) : Int) ∣ m.2 := fun m hm => gcdL_dvdI hm
  have key : holds x (tightS (lessV (K, L))).1 → 0 ≤ -1 - ((K / (gcdL L : Int) : Int) : Rat) - ev x (divL (gcdL L) L) := fun h => by
   have hl := lessV_lin (f := (K, L)) hok
   have e : lessV (K, L) = ((-1 - K, L.map fun m => (m.1, -m.2)), false) := rfl
   rw [e] at h hl
   rw [tight_le hl (by simpa using hL)] at h
   have eg : gcdL (L.map fun m => (m.1, -m.2)) = gcdL L := gcdF_neg
   rw [eg, divL_neg hdv] at h
   have h3 := h.1
   simp only [val, ev_neg, floor_less hg, Rat.intCast_sub] at h3
   have h4 : ((-1 : Int) : Rat) = -1 := rfl
   rw [h4] at h3
   grind
  cases q with
  | false =>
   rcases hp with rfl | ⟨h, _⟩
   ·have h3 := key h2
    rw [tight_le hok hL] at h1
    have h4 := h1.1
    simp only [val] at h4
    grind
   ·cases h
  | true =>
   obtain ⟨d1, d2⟩ := tight_eq hok hL h0 h1
   rcases hp with rfl | ⟨_, rfl⟩
   ·have h3 := key h2
    grind
   ·have e : moreV (K, L) = ((K - 1, L), false) := rfl
    rw [e, tight_le hok hL] at h2
    have h4 := h2.1
    simp only [val, floor_more hg d1, Rat.intCast_sub] at h4
    have h5 : ((1 : Int) : Rat) = 1 := rfl
    rw [h5] at h4
    grind
theorem tightL_mem {l : List Con} (h0 : (tightL l).2 = 0) {c : Con} (hc : c ∈ l) : (tightS c).1 ∈ (tightL l).1 := by
 have h : tightL l = ((tightL l).1, 0) := Prod.ext rfl h0
 generalize (tightL l).1 = t at *
 rw [tightL] at h
 split at h
 ·cases h
 ·obtain ⟨r, h1, h2, h3⟩ := tightG_spec h
  simp only [List.nil_append] at h1
  subst h1
  obtain ⟨k, hk, rfl⟩ := List.mem_iff_getElem.1 hc
  rw [← (h3 k hk (by omega)).2]
  exact List.getElem_mem _
theorem tightS_fine {c : Con} (hok : linOk c.1.2) (hk : c.1.1.natAbs ≤ 8) (hm : ∀ m ∈ c.1.2, m.2.natAbs ≤ 8) : (tightS c).2.2 = 0 := by
 unfold tightS
 rw [if_neg (not_not_intro hok)]
 split
 ·split <;> rfl
 ·split
  ·rfl
  ·split
   ·rw [if_pos]
    refine ⟨in64_abs ?_, fun m h => in64_abs ?_⟩
    ·rw [Int.natAbs_neg]
     have := Int.natAbs_ediv_le_natAbs c.1.1 (gcdL c.1.2 : Int)
     omega
    ·obtain ⟨z, hz, rfl⟩ := List.mem_map.1 h
     rw [Int.natAbs_neg]
     have := Int.natAbs_ediv_le_natAbs z.2 (gcdL c.1.2 : Int)
     have := hm z hz
     simp only
     omega
   ·rfl
/-- Few constraints with numbers up to 7. -/
def num7 (l : List Con) : Prop := ∀ c ∈ l, (-7 ≤ c.1.1 ∧ c.1.1 ≤ 7) ∧ ∀ m ∈ c.1.2, -7 ≤ m.2 ∧ m.2 ≤ 7
theorem part_small {c p : Con} (h : (-7 ≤ c.1.1 ∧ c.1.1 ≤ 7) ∧ ∀ m ∈ c.1.2, -7 ≤ m.2 ∧ m.2 ≤ 7) (hok : linOk c.1.2) (hp : p ∈ (negS c).1) :
  linOk p.1.2 ∧ p.1.1.natAbs ≤ 8 ∧ (∀ m ∈ p.1.2, m.2.natAbs ≤ 8 ∧ ∃ z ∈ c.1.2, z.1 = m.1) := by
 have hp : p = lessV c.1 ∨ p = moreV c.1 := by
  unfold negS at hp
  (repeat' split at hp)
  ·cases hp
  ·cases hp
  ·exact .inl (List.mem_singleton.1 hp)
  ·cases hp
  ·rcases List.mem_cons.1 hp with hp | hp
   ·exact .inr hp
   ·exact .inl (List.mem_singleton.1 hp)
 obtain ⟨h1, h2⟩ := h
 rcases hp with rfl | rfl
 ·refine ⟨lessV_lin hok, by show (-1 - c.1.1).natAbs ≤ 8; omega, fun m hm => ?_⟩
  obtain ⟨z, hz, rfl⟩ := List.mem_map.1 hm
  have := h2 z hz
  exact ⟨by show (-z.2).natAbs ≤ 8; omega, z, hz, rfl⟩
 ·refine ⟨hok, by show (c.1.1 - 1).natAbs ≤ 8; omega, fun m hm => ?_⟩
  have := h2 m hm
  exact ⟨by omega, m, hm, rfl⟩
theorem implG_all {l : List Con} {fuel : Int} : ∀ {P : List Con} {acc : List Int}, (∀ p ∈ P, (infS (l ++ [p]) fuel).2.2 = 0 ∧ (infS (l ++ [p]) fuel).2.1 = true) → ∃ b, implG l fuel P acc = (b, true, 0)
 | [], acc, _ => ⟨acc, rfl⟩
 |p :: P, acc, h => by
  obtain ⟨h1, h2⟩ := h p List.mem_cons_self
  rw [implG, if_neg (not_not_intro h1), if_neg (by rw [h2]; simp)]
  exact implG_all fun q hq => h q (List.mem_cons_of_mem _ hq)
/-- Every constraint of a small set follows from the set. -/
theorem own_law {l : List Con} {c : Con} {N : List ByteArray} (h64 : ∀ d ∈ l, con64 d) (hok : okL l) (h7 : num7 l) (h5 : l.length ≤ 5) (hN : ∀ d ∈ l, ∀ m ∈ d.1.2, m.1 ∈ N) (h3 : N.length ≤ 3) (hc : c ∈ l) : ∃ b, implS l c 1048576 = (b, true, 0) := by
 have hcok := hok c hc
 have hn : negaS l c = negS c := by rw [negaS, if_neg (by rintro (h | h); exact h hok; exact h hcok)]
 have hmin : ¬ minAt c.1.2 := by
  rintro ⟨m, hm, e⟩
  have := (h7 c hc).2 m hm
  omega
 have hK : c.1.1 ≠ -9223372036854775808 := by have := (h7 c hc).1; omega
 have hz : (negS c).2 = 0 := by
  unfold negS
  rw [if_neg (not_not_intro hcok), if_neg hmin]
  split
  ·rfl
  ·first | rfl | rw [if_neg hK]
 unfold implS
 rw [hn, if_neg (not_not_intro hz)]
 refine implG_all fun p hp => ?_
 obtain ⟨q1, q2, q3⟩ := part_small (h7 c hc) hcok hp
 have hp64 : con64 p := negS_64 (h64 c hc) p hp
 have hall : ∀ d ∈ l ++ [p], linOk d.1.2 ∧ d.1.1.natAbs ≤ 8 ∧ (∀ m ∈ d.1.2, m.2.natAbs ≤ 8) ∧ ∀ m ∈ d.1.2, m.1 ∈ N := fun d hd => by
  rcases List.mem_append.1 hd with hd | hd
  ·have := h7 d hd
   exact ⟨hok d hd, by omega, fun m hm => by have := this.2 m hm; omega, hN d hd⟩
  ·rw [List.mem_singleton.1 hd]
   refine ⟨q1, q2, fun m hm => (q3 m hm).1, fun m hm => ?_⟩
   obtain ⟨_, z, hz, e⟩ := q3 m hm
   rw [← e]
   exact hN c hc z hz
 have hfine : ∀ d ∈ l ++ [p], (tightS d).2.2 = 0 := fun d hd => tightS_fine (hall d hd).1 (hall d hd).2.1 (hall d hd).2.2.1
 have h0 : (tightL (l ++ [p])).2 = 0 := by
  rw [tightL, if_neg (by simp; omega)]
  exact tightG_fine hfine
 have ht : tightL (l ++ [p]) = ((tightL (l ++ [p])).1, 0) := Prod.ext rfl h0
 obtain ⟨_, _, hsp⟩ := tightL_spec ht
 obtain ⟨r1, r2⟩ := infS_full (l := l ++ [p]) (N := N) (app_64 h64 hp64) h0 (by simp; omega) (fun d hd => by
  obtain ⟨e, he, rfl⟩ := hsp d hd
  obtain ⟨g1, g2, _⟩ := tightS_abs (M := 8) (by decide) (hall e he).2.1 (hall e he).2.2.1
  exact ⟨g1, g2⟩) (fun d hd n hn => by
  obtain ⟨e, he, rfl⟩ := hsp d hd
  obtain ⟨_, _, g3⟩ := tightS_abs (M := 8) (by decide) (hall e he).2.1 (hall e he).2.2.1
  obtain ⟨m, hm, e2⟩ := g3 n hn
  rw [← e2]
  exact (hall e he).2.2.2 m hm) h3
 refine ⟨r1, ?_⟩
 cases hb : (infS (l ++ [p]) 1048576).2.1 with
 | true => rfl
 | false =>
  obtain ⟨x, hx⟩ := r2 hb
  exact (own_part hcok (hfine c (List.mem_append_left _ hc)) hp (hx _ (tightL_mem h0 (List.mem_append_left _ hc))) (hx _ (tightL_mem h0 (List.mem_append_right _ (List.mem_singleton.2 rfl))))).elim
end Go.Proofs.Ytnddmjhpplopbaa
