/- Plain laws: the first rows of the search, and what the search answers. -/
import Derived.Test.YtnddmjhpplopbaaPlain07f
set_option linter.unusedVariables false
set_option linter.unusedSimpArgs false
namespace Go.Proofs.Ytnddmjhpplopbaa
open Go.Abs Go.RowKit

theorem linOk_nil : linOk [] := fun i hi => by simp at hi
theorem conZ_ok : linOk conZ.1.2 ∧ con64 conZ := ⟨linOk_nil, conZ_64⟩
theorem conF_ok : linOk conF.1.2 ∧ con64 conF := ⟨linOk_nil, ⟨by show in64 (-1); unfold in64; omega, fun m hm => by cases hm⟩⟩
theorem tightS_ok {c : Con} (h64 : con64 c) : linOk (tightS c).1.1.2 ∧ con64 (tightS c).1 ∧ ((tightS c).2.2 = 0 → linOk c.1.2) := by
 unfold tightS
 split
 ·exact ⟨conZ_ok.1, conZ_ok.2, fun h => by cases h⟩
 ·rename_i hok
  have hok := Classical.not_not.1 hok
  split
  ·split
   ·exact ⟨conZ_ok.1, conZ_ok.2, fun _ => hok⟩
   ·exact ⟨conF_ok.1, conF_ok.2, fun _ => hok⟩
  ·rename_i hl
   have hg := gcdL_pos hl (fun m hm => ((linOk_iff.1 hok).2 m hm).2)
   have hd := divL_ok hok
   have h64' : ∀ m ∈ divL (gcdL c.1.2) c.1.2, in64 m.2 := fun m hm => by
    obtain ⟨z, hz, rfl⟩ := List.mem_map.1 hm
    exact div_64 (h64.2 z hz) hg
   split
   ·exact ⟨conF_ok.1, conF_ok.2, fun _ => hok⟩
   ·split
    ·split
     ·rename_i hn
      obtain ⟨s1, s2⟩ := linOk_iff.1 hd
      refine ⟨linOk_iff.2 ⟨?_, fun m hm => ?_⟩, ⟨hn.1, fun m hm => ?_⟩, fun _ => hok⟩
      ·show ((divL (gcdL c.1.2) c.1.2).map _).Pairwise _
       rw [List.pairwise_map]
       exact s1
      ·obtain ⟨z, hz, rfl⟩ := List.mem_map.1 hm
       exact ⟨(s2 z hz).1, by have := (s2 z hz).2; simp only; omega⟩
      ·obtain ⟨z, hz, rfl⟩ := List.mem_map.1 hm
       exact hn.2 z hz
     ·exact ⟨conZ_ok.1, conZ_ok.2, fun h => by cases h⟩
    ·exact ⟨hd, ⟨div_64 h64.1 hg, h64'⟩, fun _ => hok⟩
theorem tightL_ok {l t : List Con} (h : tightL l = (t, 0)) (h64 : ∀ c ∈ l, con64 c) : ∀ d ∈ t, linOk d.1.2 ∧ con64 d := fun d hd => by
 obtain ⟨_, _, h3⟩ := tightL_spec h
 obtain ⟨c, hc, rfl⟩ := h3 d hd
 obtain ⟨g1, g2, _⟩ := tightS_ok (h64 c hc)
 exact ⟨g1, g2⟩
theorem tightS_err (c : Con) : (tightS c).2.2 = 0 ∨ (tightS c).2.2 = 1 ∨ (tightS c).2.2 = 3 := by
 unfold tightS
 (repeat' split) <;> simp
theorem tightG_err : ∀ {l acc : List Con}, (tightG acc l).2 = 0 ∨ ((tightG acc l).2 = 1 ∨ (tightG acc l).2 = 3) ∧ (tightG acc l).1 = []
 | [], acc => .inl rfl
 |c :: l, acc => by
  rw [tightG]
  split
  ·rename_i h
   exact .inr ⟨(tightS_err c).resolve_left h, rfl⟩
  ·exact tightG_err
theorem tightS_len (c : Con) : (tightS c).1.1.2.length ≤ c.1.2.length := by
 unfold tightS
 (repeat' split) <;> simp [conZ, conF, divL]

theorem dotK_zero : ∀ {T : List Con} {n : Nat}, dotK (T.zip (List.replicate n 0)) = 0
 | [], n => by simp [dotK]
 | t :: T, 0 => by simp [dotK]
 |t :: T, n + 1 => by
  rw [List.replicate_succ, List.zip_cons_cons, dotK, dotK_zero]
  simp
theorem dotC_zero {m : ByteArray} : ∀ {T : List Con} {n : Nat}, dotC m (T.zip (List.replicate n 0)) = 0
 | [], n => by simp [dotC]
 | t :: T, 0 => by simp [dotC]
 |t :: T, n + 1 => by
  rw [List.replicate_succ, List.zip_cons_cons, dotC, dotC_zero]
  simp
theorem unitB_zero (n : Nat) : unitB (n + 1) 0 = 1 :: List.replicate n 0 := rfl
theorem unitB_succ (n k : Nat) : unitB (n + 1) (k + 1) = 0 :: unitB n k := rfl
theorem unitB_len (n k : Nat) : (unitB n k).length = n := by simp [unitB]
theorem unit_dot {m : ByteArray} : ∀ {T : List Con} {k : Nat} (h : k < T.length), dotK (T.zip (unitB T.length k)) = T[k].1.1 ∧ dotC m (T.zip (unitB T.length k)) = cf T[k].1.2 m
 | [], k, h => by simp at h
 |t :: T, 0, h => by
  rw [List.length_cons, unitB_zero, List.zip_cons_cons, dotK, dotC, dotK_zero, dotC_zero]
  simp
 |t :: T, k + 1, h => by
  obtain ⟨h1, h2⟩ := unit_dot (m := m) (T := T) (k := k) (by simpa using h)
  rw [List.length_cons, unitB_succ, List.zip_cons_cons, dotK, dotC, h1, h2]
  simp
theorem unitB_get {n k i : Nat} (h : i < (unitB n k).length) : (unitB n k)[i] = if k = i then 1 else 0 := by
 simp only [unitB, List.getElem_set, List.getElem_replicate]
theorem RowT.unit {T : List Con} {k : Nat} (h : k < T.length) (hT : ∀ c ∈ T, linOk c.1.2 ∧ con64 c) : RowT T (T[k], unitB T.length k) := by
 refine ⟨(hT _ (List.getElem_mem h)).1, ⟨(hT _ (List.getElem_mem h)).2, fun n hn => ?_⟩, unitB_len _ _, fun p hp => ?_, (unit_dot (m := .empty) h).1.symm, fun n => (unit_dot h).2.symm, fun hq => ?_⟩
 ·obtain ⟨i, hi, rfl⟩ := List.mem_iff_getElem.1 hn
  simp only [unitB_get]
  split <;> (unfold in64; omega)
 ·obtain ⟨i, h1, h2, rfl⟩ := zip_at hp
  refine ⟨(hT _ (List.getElem_mem h1)).1, fun hh => ?_⟩
  have := hh.1
  simp only [unitB_get] at this
  split at this <;> omega
 ·refine eqR_iff.2 fun p hp => ?_
  obtain ⟨i, h1, h2, rfl⟩ := zip_at hp
  simp only [unitB_get]
  by_cases e : k = i
  ·subst e
   exact .inl hq
  ·exact .inr (if_neg e)
theorem initS_ok {T : List Con} (hT : ∀ c ∈ T, linOk c.1.2 ∧ con64 c) : ∀ {k : Nat} {rows : List Row}, (∀ r ∈ rows, RowT T r) → rows.length ≤ 256 → k ≤ T.length →
  ((initS T.length k (T.drop k) rows).2 = 0 ∨ (initS T.length k (T.drop k) rows).2 = 2) ∧ ((initS T.length k (T.drop k) rows).2 = 0 → (∀ r ∈ (initS T.length k (T.drop k) rows).1, RowT T r) ∧ (initS T.length k (T.drop k) rows).1.length ≤ 256) := by
 intro k
 generalize hd : T.length - k = d
 induction d generalizing k with
 | zero =>
  intro rows h hl hk
  rw [List.drop_eq_nil_of_le (by omega), initS]
  exact ⟨.inl rfl, fun _ => ⟨h, hl⟩⟩
 | succ d ih =>
  intro rows h hl hk
  have hlt : k < T.length := by omega
  obtain ⟨g1, g2, g3, g4⟩ := addS2_spec (d := (T[k], unitB T.length k)) hl
  rw [List.drop_eq_getElem_cons hlt, initS]
  split
  ·rename_i h0
   exact ⟨.inr (g4.resolve_left h0), fun h => absurd h h0⟩
  ·exact ih (by omega) (fun r hr => (g3 r hr).elim (fun e => e ▸ RowT.unit hlt hT) (h r)) g1 (by omega)
/-- The error of Infeasible that does not depend on its search. -/
noncomputable def askedS (l : List Con) (fuel : Int) : Int := if (tightL l).2 ≠ 0 then (tightL l).2 else if fuel < 0 ∨ 1048576 < fuel then 1 else 0
theorem infS_law {l : List Con} {fuel : Int} (h64 : ∀ c ∈ l, con64 c) :
  (askedS l fuel ≠ 0 → infS l fuel = ([], false, askedS l fuel)) ∧
  (askedS l fuel = 0 → ((infS l fuel).2.2 ≠ 0 → ErF (infS l fuel).2.2 ∧ (infS l fuel).1 = [] ∧ (infS l fuel).2.1 = false) ∧ ((infS l fuel).2.1 = true → checkS l (infS l fuel).1 = 0) ∧ ((infS l fuel).2.1 = false → (infS l fuel).1 = [])) := by
 unfold infS askedS
 by_cases h0 : (tightL l).2 = 0
 ·rw [if_neg (not_not_intro h0), if_neg (not_not_intro h0)]
  by_cases hf : fuel < 0 ∨ 1048576 < fuel
  ·rw [if_pos hf, if_pos hf]
   exact ⟨fun _ => rfl, fun h => absurd h (by decide)⟩
  ·rw [if_neg hf, if_neg hf]
   refine ⟨fun h => absurd rfl h, fun _ => ?_⟩
   have ht : tightL l = ((tightL l).1, 0) := Prod.ext rfl h0
   have hT := tightL_ok ht h64
   have hlen := (tightL_spec ht).1
   obtain ⟨i1, i2⟩ := initS_ok hT (k := 0) (rows := []) (by simp) (by simp) (Nat.zero_le _)
   rw [hlen, List.drop_zero] at i1 i2
   split
   ·rename_i h1
    exact ⟨fun _ => ⟨.inl (i1.resolve_left h1), rfl, rfl⟩, fun h => (by cases h), fun _ => rfl⟩
   ·rename_i h1
    obtain ⟨j1, j2⟩ := i2 (Classical.not_not.1 h1)
    exact searchN_law h0 j1 j2 (by omega)
 ·rw [if_pos h0, if_pos h0]
  exact ⟨fun _ => rfl, fun h => absurd h h0⟩
theorem checkS_holds {x : ByteArray → Int} {l : List Con} {b : List Int} (hl : ∀ c ∈ l, holds (castX x) c) : checkS l b ≠ 0 := by
 unfold checkS
 split
 ·assumption
 ·rename_i h0
  split
  ·assumption
  ·rename_i h1
   have ht : tightL l = ((tightL l).1, 0) := Prod.ext rfl (Classical.not_not.1 h0)
   have hc : conCombine (tightL l).1 b = ((conCombine (tightL l).1 b).1, 0) := Prod.ext rfl (Classical.not_not.1 h1)
   rw [if_neg fun hb => conBad_not hb (conCombine_holds hc (tightL_holds ht hl))]
   decide
theorem infS_holds {x : ByteArray → Int} {l : List Con} {fuel : Int} (h64 : ∀ c ∈ l, con64 c) (hl : ∀ c ∈ l, holds (castX x) c) : (infS l fuel).2.1 = false := by
 obtain ⟨h1, h2⟩ := infS_law (fuel := fuel) h64
 by_cases h0 : askedS l fuel = 0
 ·obtain ⟨_, h4, _⟩ := h2 h0
  cases h : (infS l fuel).2.1 with
  | false => rfl
  | true => exact absurd (h4 h) (checkS_holds hl)
 ·rw [h1 h0]
end Go.Proofs.Ytnddmjhpplopbaa
