/- Plain laws: the rows of the search are combinations of the tight constraints. -/
import Derived.Test.YtnddmjhpplopbaaPlain07d
import Derived.Test.YtnddmjhpplopbaaV07q
set_option linter.unusedVariables false
set_option linter.unusedSimpArgs false
namespace Go.Proofs.Ytnddmjhpplopbaa
open Go.Abs Go.RowKit

/-- The row r is the combination of T by its multipliers. -/
structure RowT (T : List Con) (r : Row) : Prop where
 lin : linOk r.1.1.2
 r64 : row64 r
 len : r.2.length = T.length
 ok : ∀ p ∈ T.zip r.2, okC p
 k : r.1.1.1 = dotK (T.zip r.2)
 c : ∀ n, cf r.1.1.2 n = dotC n (T.zip r.2)
 q : r.1.2 = true → eqR (T.zip r.2) = true

theorem sumsF_eq {x y : Int} : ∀ {l : List (Int × Int)} {s : List Int}, sumsF x y l = some s → s = l.map (fun p => p.1 * x + p.2 * y) ∧ ∀ n ∈ s, in64 n
 |[], s, h => by
  rw [sumsF] at h
  cases h
  exact ⟨rfl, by simp⟩
 |p :: l, s, h => by
  rw [sumsF] at h
  split at h
  ·rename_i hs
   cases hr : sumsF x y l with
   | none => rw [hr] at h; cases h
   | some t =>
    rw [hr] at h
    cases h
    obtain ⟨h1, h2⟩ := sumsF_eq hr
    refine ⟨by rw [List.map_cons, h1], fun n hn => ?_⟩
    rcases List.mem_cons.1 hn with rfl | hn
    ·exact (sumOk_iff.1 hs).2.2
    ·exact h2 n hn
  ·cases h
/-- Sums of multipliers. -/
abbrev mixB (x y : Int) (a b : List Int) : List Int := (a.zip b).map fun p => p.1 * x + p.2 * y
theorem dotK_mix {x y : Int} : ∀ {T : List Con} {a b : List Int}, a.length = T.length → b.length = T.length → dotK (T.zip (mixB x y a b)) = dotK (T.zip a) * x + dotK (T.zip b) * y
 | [], a, b, _, _ => by simp [dotK]
 | t :: T, [], b, h, _ => by simp at h
 | t :: T, u :: a, [], _, h => by simp at h
 |t :: T, u :: a, v :: b, h1, h2 => by
  have ih := dotK_mix (x := x) (y := y) (T := T) (a := a) (b := b) (by simpa using h1) (by simpa using h2)
  simp only [mixB, List.zip_cons_cons, List.map_cons, dotK] at ih ⊢
  rw [ih]
  simp only [Int.mul_add, Int.add_mul, Int.mul_assoc]
  omega
theorem dotC_mix {n : ByteArray} {x y : Int} : ∀ {T : List Con} {a b : List Int}, a.length = T.length → b.length = T.length → dotC n (T.zip (mixB x y a b)) = dotC n (T.zip a) * x + dotC n (T.zip b) * y
 | [], a, b, _, _ => by simp [dotC]
 | t :: T, [], b, h, _ => by simp at h
 | t :: T, u :: a, [], _, h => by simp at h
 |t :: T, u :: a, v :: b, h1, h2 => by
  have ih := dotC_mix (n := n) (x := x) (y := y) (T := T) (a := a) (b := b) (by simpa using h1) (by simpa using h2)
  simp only [mixB, List.zip_cons_cons, List.map_cons, dotC] at ih ⊢
  rw [ih]
  simp only [Int.mul_add, Int.add_mul, Int.mul_assoc]
  omega
theorem zip_at {T : List Con} {b : List Int} {p : Con × Int} (h : p ∈ T.zip b) : ∃ i, ∃ h1 : i < T.length, ∃ h2 : i < b.length, p = (T[i], b[i]) := by
 obtain ⟨i, hi, rfl⟩ := List.mem_iff_getElem.1 h
 have := hi
 rw [List.length_zip] at this
 exact ⟨i, by omega, by omega, List.getElem_zip⟩
theorem zip_in {T : List Con} {b : List Int} {i : Nat} (h1 : i < T.length) (h2 : i < b.length) : (T[i], b[i]) ∈ T.zip b :=
 List.mem_iff_getElem.2 ⟨i, by rw [List.length_zip]; omega, List.getElem_zip⟩
theorem eqR_iff {l : List (Con × Int)} : eqR l = true ↔ ∀ p ∈ l, p.1.2 = true ∨ p.2 = 0 := by simp [eqR, List.all_eq_true, Bool.or_eq_true]
theorem in64_mul_iff {n : Int} : in64 n ↔ -9223372036854775808 ≤ n ∧ n ≤ 9223372036854775807 := Iff.rfl
/-- What two rows make together, before it is reduced. -/
theorem RowT.mix {T : List Con} {a b : Row} {x y : Int} {c : Con} {s : List Int} (ha : RowT T a) (hb : RowT T b) (hc : conCombine [a.1, b.1] [x, y] = (c, 0)) (hs : sumsF x y (a.2.zip b.2) = some s) : RowT T (c, s) := by
 obtain ⟨g1, g2, g3, g4, g5, g6⟩ := conCombine_spec hc
 obtain ⟨rfl, hs64⟩ := sumsF_eq hs
 have oa := g2 (a.1, x) (by simp)
 have ob := g2 (b.1, y) (by simp)
 have hlen : (mixB x y a.2 b.2).length = T.length := by simp [ha.len, hb.len]
 refine ⟨g3, ⟨?_, hs64⟩, hlen, fun p hp => ?_, ?_, fun n => ?_, fun hq => ?_⟩
 ·have := conCombine_64 [a.1, b.1] [x, y]
  rw [hc] at this
  exact this
 ·obtain ⟨i, h1, h2, rfl⟩ := zip_at hp
  have e1 := ha.ok _ (zip_in h1 (by rw [ha.len]; exact h1))
  have e2 := hb.ok _ (zip_in h1 (by rw [hb.len]; exact h1))
  refine ⟨e1.1, fun h => ?_⟩
  obtain ⟨hneg, hin⟩ := h
  simp only [mixB, List.getElem_map, List.getElem_zip] at hneg
  have n1 := fun h => e1.2 ⟨h, hin⟩
  have n2 := fun h => e2.2 ⟨h, hin⟩
  simp only at n1 n2
  have z1 : a.1.2 = true → a.2[i]'(by rw [ha.len]; exact h1) = 0 := fun h => by
   rcases eqR_iff.1 (ha.q h) _ (zip_in h1 (by rw [ha.len]; exact h1)) with h | h
   ·rw [hin] at h; cases h
   ·exact h
  have z2 : b.1.2 = true → b.2[i]'(by rw [hb.len]; exact h1) = 0 := fun h => by
   rcases eqR_iff.1 (hb.q h) _ (zip_in h1 (by rw [hb.len]; exact h1)) with h | h
   ·rw [hin] at h; cases h
   ·exact h
  have p1 : 0 ≤ a.2[i]'(by rw [ha.len]; exact h1) * x := by
   by_cases h : a.1.2 = true
   ·rw [z1 h]; omega
   ·exact Int.mul_nonneg (Int.not_lt.1 n1) (Int.not_lt.1 fun h' => oa.2 ⟨h', by simpa using h⟩)
  have p2 : 0 ≤ b.2[i]'(by rw [hb.len]; exact h1) * y := by
   by_cases h : b.1.2 = true
   ·rw [z2 h]; omega
   ·exact Int.mul_nonneg (Int.not_lt.1 n2) (Int.not_lt.1 fun h' => ob.2 ⟨h', by simpa using h⟩)
  omega
 ·show c.1.1 = dotK (T.zip (mixB x y a.2 b.2))
  rw [dotK_mix ha.len hb.len, ← ha.k, ← hb.k, g4]
  simp [dotK]
 ·show cf c.1.2 n = dotC n (T.zip (mixB x y a.2 b.2))
  rw [dotC_mix ha.len hb.len, ← ha.c, ← hb.c, g5]
  simp [dotC]
 ·show eqR (T.zip (mixB x y a.2 b.2)) = true
  simp only at hq
  rw [g6] at hq
  have hq := eqR_iff.1 hq
  have qa := hq (a.1, x) (by simp)
  have qb := hq (b.1, y) (by simp)
  simp only at qa qb
  refine eqR_iff.2 fun p hp => ?_
  obtain ⟨i, h1, h2, rfl⟩ := zip_at hp
  by_cases hT : T[i].2 = true
  ·exact .inl hT
  ·refine .inr ?_
   simp only [mixB, List.getElem_map, List.getElem_zip]
   have p1 : a.2[i]'(by rw [ha.len]; exact h1) * x = 0 := by
    rcases qa with h | h
    ·rcases eqR_iff.1 (ha.q h) _ (zip_in h1 (by rw [ha.len]; exact h1)) with h | h
     ·exact absurd h hT
     ·simp only at h; rw [h, Int.zero_mul]
    ·rw [h, Int.mul_zero]
   have p2 : b.2[i]'(by rw [hb.len]; exact h1) * y = 0 := by
    rcases qb with h | h
    ·rcases eqR_iff.1 (hb.q h) _ (zip_in h1 (by rw [hb.len]; exact h1)) with h | h
     ·exact absurd h hT
     ·simp only at h; rw [h, Int.zero_mul]
    ·rw [h, Int.mul_zero]
   omega

/-! Dividing by a common divisor. -/
theorem gcdB_dvd : ∀ {l : List Int} {g : Nat}, gcdB g l ∣ g ∧ ∀ n ∈ l, gcdB g l ∣ n.natAbs
 | [], g => ⟨Nat.dvd_refl _, by simp⟩
 |n :: l, g => by
  obtain ⟨h1, h2⟩ := gcdB_dvd (l := l) (g := Nat.gcd g n.natAbs)
  refine ⟨Nat.dvd_trans h1 (Nat.gcd_dvd_left _ _), fun m hm => ?_⟩
  rcases List.mem_cons.1 hm with rfl | hm
  ·exact Nat.dvd_trans h1 (Nat.gcd_dvd_right _ _)
  ·exact h2 m hm
theorem dotK_div {g : Int} : ∀ {T : List Con} {b : List Int}, (∀ n ∈ b, g ∣ n) → dotK (T.zip (b.map fun n => n.tdiv g)) * g = dotK (T.zip b)
 | [], b, _ => by simp [dotK]
 | t :: T, [], _ => by simp [dotK]
 |t :: T, n :: b, h => by
  have ih := dotK_div (g := g) (T := T) (b := b) (fun m hm => h m (List.mem_cons_of_mem _ hm))
  have h1 := Int.tdiv_mul_cancel (h n List.mem_cons_self)
  simp only [List.map_cons, List.zip_cons_cons, dotK, Int.add_mul, ih]
  rw [Int.mul_assoc, h1]
theorem dotC_div {n : ByteArray} {g : Int} : ∀ {T : List Con} {b : List Int}, (∀ n ∈ b, g ∣ n) → dotC n (T.zip (b.map fun n => n.tdiv g)) * g = dotC n (T.zip b)
 | [], b, _ => by simp [dotC]
 | t :: T, [], _ => by simp [dotC]
 |t :: T, m :: b, h => by
  have ih := dotC_div (n := n) (g := g) (T := T) (b := b) (fun k hk => h k (List.mem_cons_of_mem _ hk))
  have h1 := Int.tdiv_mul_cancel (h m List.mem_cons_self)
  simp only [List.map_cons, List.zip_cons_cons, dotC, Int.add_mul, ih]
  rw [Int.mul_assoc, h1]
theorem cf_tdL {g : Nat} {n : ByteArray} : ∀ {l : List Mono}, cf (tdL g l) n = (cf l n).tdiv g
 | [] => by simp [cf, tdL]
 |m :: l => by
  rw [tdL, List.map_cons, cf, cf]
  simp only
  split
  ·rfl
  ·exact cf_tdL
theorem tdiv_ne {x : Int} {g : Int} (h : g ∣ x) (hx : x ≠ 0) : x.tdiv g ≠ 0 := fun e => by
 have := Int.tdiv_mul_cancel h
 rw [e, Int.zero_mul] at this
 exact hx this.symm
theorem tdiv_sign {x : Int} {g : Nat} (h : ¬ x < 0) : ¬ x.tdiv g < 0 := by
 have : 0 ≤ x.tdiv (g : Int) := Int.tdiv_nonneg (by omega) (by omega)
 omega
theorem RowT.reduced {T : List Con} {d : Row} (h : RowT T d) : RowT T (reducedS d) := by
 unfold reducedS
 split
 ·exact h
 ·rename_i hg
  have hg2 : 2 ≤ gcdB 0 d.2 := by omega
  have hdv : ∀ n ∈ d.2, ((gcdB 0 d.2 : Nat) : Int) ∣ n := fun n hn => Int.ofNat_dvd_left.2 (gcdB_dvd.2 n hn)
  generalize gcdB 0 d.2 = g at *
  have hG : (g : Int) ≠ 0 := by omega
  have eK : d.1.1.1.tdiv g = dotK (T.zip (tdB g d.2)) := by
   rw [h.k, ← dotK_div (T := T) hdv, Int.mul_tdiv_cancel _ hG]
   rfl
  have eC : ∀ n, (cf d.1.1.2 n).tdiv g = dotC n (T.zip (tdB g d.2)) := fun n => by
   rw [h.c, ← dotC_div (T := T) hdv, Int.mul_tdiv_cancel _ hG]
   rfl
  have dC : ∀ n, (g : Int) ∣ cf d.1.1.2 n := fun n => by
   rw [h.c, ← dotC_div (T := T) hdv]
   exact ⟨_, Int.mul_comm _ _⟩
  obtain ⟨s1, s2⟩ := linOk_iff.1 h.lin
  refine ⟨linOk_iff.2 ⟨?_, fun m hm => ?_⟩, ⟨⟨tdiv_in h.r64.1.1 hg2, fun m hm => ?_⟩, fun n hn => ?_⟩, by simp [tdB, h.len], fun p hp => ?_, eK, fun n => by rw [cf_tdL]; exact eC n, fun hq => ?_⟩
  ·show (tdL g d.1.1.2).Pairwise _
   rw [tdL, List.pairwise_map]
   exact s1
  ·obtain ⟨z, hz, rfl⟩ := List.mem_map.1 hm
   refine ⟨(s2 z hz).1, tdiv_ne ?_ (s2 z hz).2⟩
   have := dC z.1
   rw [cf_mem s1 hz] at this
   exact this
  ·obtain ⟨z, hz, rfl⟩ := List.mem_map.1 hm
   exact tdiv_in (h.r64.1.2 z hz) hg2
  ·obtain ⟨z, hz, rfl⟩ := List.mem_map.1 hn
   exact tdiv_in (h.r64.2 z hz) hg2
  ·obtain ⟨i, h1, h2, rfl⟩ := zip_at hp
   have := h.ok _ (zip_in h1 (by rw [h.len]; exact h1))
   refine ⟨this.1, fun hh => this.2 ⟨?_, hh.2⟩⟩
   simp only [tdB, List.getElem_map] at hh
   exact Classical.byContradiction fun hc => tdiv_sign hc hh.1
  ·refine eqR_iff.2 fun p hp => ?_
   obtain ⟨i, h1, h2, rfl⟩ := zip_at hp
   rcases eqR_iff.1 (h.q hq) _ (zip_in h1 (by rw [h.len]; exact h1)) with h' | h'
   ·exact .inl h'
   ·refine .inr ?_
    simp only at h'
    simp only [tdB, List.getElem_map, h', Int.zero_tdiv]
theorem RowT.merge {T : List Con} {a b : Row} {x y fuel : Int} (ha : RowT T a) (hb : RowT T b) (h : (mergeS fuel a b x y).2 = 0) : RowT T (mergeS fuel a b x y).1 := by
 unfold mergeS at h ⊢
 split at h
 ·cases h
 ·rename_i h0
  rw [if_neg h0]
  split at h
  ·rename_i h1
   exact absurd h h1
  ·rename_i h1
   rw [if_neg h1]
   have hc : conCombine [a.1, b.1] [x, y] = ((conCombine [a.1, b.1] [x, y]).1, 0) := Prod.ext rfl (Classical.not_not.1 h1)
   cases hs : sumsF x y (a.2.zip b.2) with
   | none => rw [hs] at h; cases h
   | some s => exact (ha.mix hb hc hs).reduced
/-- The error of a product of rows. -/
theorem mergeS_err {T : List Con} {a b : Row} {x y fuel : Int} (ha : RowT T a) (hb : RowT T b) (hx : 0 ≤ x ∨ a.1.2 = true) (hy : 0 ≤ y ∨ b.1.2 = true) : (mergeS fuel a b x y).2 = 0 ∨ (mergeS fuel a b x y).2 = 14 ∨ (mergeS fuel a b x y).2 = 3 := by
 unfold mergeS
 split
 ·exact .inr (.inl rfl)
 ·have := conCombine_err (l := [a.1, b.1]) (b := [x, y]) rfl (fun p hp => by
   have : p = (a.1, x) ∨ p = (b.1, y) := by simpa using hp
   rcases this with rfl | rfl
   ·exact ⟨ha.lin, fun h => hx.elim (fun h' => absurd h.1 (Int.not_lt.2 h')) fun h' => by have := h.2; simp only at this; rw [h'] at this; cases this⟩
   ·exact ⟨hb.lin, fun h => hy.elim (fun h' => absurd h.1 (Int.not_lt.2 h')) fun h' => by have := h.2; simp only at this; rw [h'] at this; cases this⟩)
  split
  ·rename_i h1
   rcases this with h | h
   ·exact absurd h h1
   ·rw [h]; exact .inr (.inr rfl)
  ·split
   ·exact .inr (.inr rfl)
   ·exact .inl rfl

/-! Rows that are added. -/
theorem addR_mem {d : Row} : ∀ {rows out : List Row}, addR d rows = some out → out.length = rows.length ∧ ∀ r ∈ out, r = d ∨ r ∈ rows
 | [], out, h => by rw [addR] at h; cases h
 |r :: rows, out, h => by
  rw [addR] at h
  split at h
  ·cases h
   refine ⟨by simp, fun z hz => ?_⟩
   rcases List.mem_cons.1 hz with rfl | hz
   ·split
    ·exact .inl rfl
    ·exact .inr List.mem_cons_self
   ·exact .inr (List.mem_cons_of_mem _ hz)
  ·cases hr : addR d rows with
   | none => rw [hr] at h; cases h
   | some t =>
    rw [hr] at h
    cases h
    obtain ⟨h1, h2⟩ := addR_mem hr
    refine ⟨by simp [h1], fun z hz => ?_⟩
    rcases List.mem_cons.1 hz with rfl | hz
    ·exact .inr List.mem_cons_self
    ·exact (h2 z hz).imp_right (List.mem_cons_of_mem _)
theorem addS2_spec {rows : List Row} {d : Row} (hl : rows.length ≤ 256) : (addS2 rows d).1.length ≤ 256 ∧ (addS2 rows d).1.length ≤ rows.length + 1 ∧ (∀ r ∈ (addS2 rows d).1, r = d ∨ r ∈ rows) ∧ ((addS2 rows d).2 = 0 ∨ (addS2 rows d).2 = 2) := by
 unfold addS2
 split
 ·exact ⟨hl, Nat.le_succ _, fun r hr => .inr hr, .inl rfl⟩
 ·cases hr : addR d rows with
  | some l =>
   obtain ⟨h1, h2⟩ := addR_mem hr
   exact ⟨by simp only; omega, by simp only; omega, h2, .inl rfl⟩
  | none =>
   simp only
   split
   ·exact ⟨hl, Nat.le_succ _, fun r hr => .inr hr, .inr rfl⟩
   ·exact ⟨by simp; omega, by simp, fun r hr => by simp at hr; exact hr.symm, .inl rfl⟩
end Go.Proofs.Ytnddmjhpplopbaa
