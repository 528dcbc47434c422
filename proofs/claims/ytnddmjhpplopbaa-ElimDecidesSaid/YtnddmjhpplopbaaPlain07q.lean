/- Plain laws: the reference's Feasible eliminates all variables of few small constraints, and is right. -/
import Derived.Test.YtnddmjhpplopbaaPlain07p
set_option linter.unusedVariables false
set_option linter.unusedSimpArgs false
namespace Go.Proofs.Ytnddmjhpplopbaa
open Go.Abs Go.RowKit

theorem zip_ok {l : List Con} {b : List Int} (hl : ∀ c ∈ l, linOk c.1.2) (h : ∀ i (h1 : i < l.length) (h2 : i < b.length), b[i] < 0 → l[i].2 = true) : ∀ p ∈ l.zip b, okC p := fun p hp => by
 obtain ⟨i, h1, h2, rfl⟩ := zip_at hp
 refine ⟨hl _ (List.getElem_mem h1), fun hh => ?_⟩
 have := h i h1 h2 hh.1
 have h3 := hh.2
 simp only at h3
 rw [h3] at this
 cases this
theorem runE_le {α : Type} {step : α → List Row → List Row × Int} {w : Nat} : ∀ {l : List α} {acc : List Row}, (∀ x ∈ l, ∀ acc, (step x acc).2 = 0 ∧ (step x acc).1.length ≤ acc.length + w) → (runE step l acc).2 = 0 ∧ (runE step l acc).1.length ≤ acc.length + l.length * w
 | [], acc, _ => ⟨rfl, by simp [runE]⟩
 |x :: l, acc, h => by
  obtain ⟨h1, h2⟩ := h x List.mem_cons_self acc
  obtain ⟨h3, h4⟩ := runE_le (acc := (step x acc).1) fun y hy => h y (List.mem_cons_of_mem _ hy)
  rw [runE_cons, if_neg (not_not_intro h1)]
  exact ⟨h3, by rw [List.length_cons, Nat.add_mul]; omega⟩
theorem sgI_three {n : ByteArray} {l : List Con} : ∀ {m : Nat}, (sgI 0 n l m).length + (sgI 1 n l m).length + (sgI (-1) n l m).length = m
 | 0 => by simp [sgI]
 |m + 1 => by
  have ih := sgI_three (n := n) (l := l) (m := m)
  rw [sgI_succ, sgI_succ, sgI_succ]
  rcases Int.lt_trichotomy (cf (conAt l m).1.2 n) 0 with h | h | h
  ·rw [Int.sign_eq_neg_one_of_neg h]
   simp
   omega
  ·rw [h, Int.sign_zero]
   simp
   omega
  ·rw [Int.sign_eq_one_of_pos h]
   simp
   omega
section
variable {l : List Con} {n : ByteArray} {M : Nat} (hl : ∀ c ∈ l, linOk c.1.2) (hB : ∀ d ∈ l, d.1.1.natAbs ≤ M ∧ ∀ m ∈ d.1.2, m.2.natAbs ≤ M) (h1 : 1 ≤ M) (hA : l.length * (M * M) ≤ 9223372036854775807)
include hB hA in
theorem stepD_fine {b : List Int} {acc : List Row} (hlen : l.length = b.length) (hok : ∀ p ∈ l.zip b, okC p) (hM : ∀ x ∈ b, x.natAbs ≤ M) : (stepD l b acc).2 = 0 ∧ (stepD l b acc).1.length ≤ acc.length + 1 := by
 have hc := conCombine_fine hlen hok hB hM hA
 have hd : (derS l b).2 = 0 := by rw [derS, if_neg (not_not_intro hc)]
 rw [stepD, if_neg (not_not_intro hd)]
 exact ⟨rfl, by simp⟩
include hl hB h1 hA in
theorem stepI_fine {i : Nat} {acc : List Row} : (stepD l (units2 l.length i 1 i 1) acc).2 = 0 ∧ (stepD l (units2 l.length i 1 i 1) acc).1.length ≤ acc.length + 1 :=
 stepD_fine hB hA units2_len.symm (zip_ok hl fun j h1 h2 h3 => by
  rw [units2_get] at h3
  split at h3
  ·omega
  ·omega) (units2_abs (by simpa using h1) (by simpa using h1))
include hl hB h1 hA in
theorem elimS_fine {R : Nat} (hn : idOk n) (hlen : l.length ≤ R) (hR : ∀ r a u, r + a + u = l.length → r + a * u ≤ R) (hR2 : R ≤ 256) : (elimS l n).2 = 0 ∧ (elimS l n).1.length ≤ R := by
 have hMM : M ≤ 9223372036854775807 ∨ l = [] := by
  cases l with
  | nil => exact .inr rfl
  | cons c l =>
   refine .inl ?_
   have e1 : M * 1 ≤ M * M := Nat.mul_le_mul_left _ h1
   have e2 : 1 * (M * M) ≤ (c :: l).length * (M * M) := Nat.mul_le_mul_right _ (by simp)
   omega
 have hcf : ∀ i, i < l.length → (cf (conAt l i).1.2 n).natAbs ≤ M := fun i hi => by
  rw [conAt_get hi]
  exact cf_natAbs (hB _ (List.getElem_mem hi)).2 n
 have hall : allLin l := hl
 unfold elimS elimT
 rw [if_neg (by omega), if_neg (by rintro (h | h); exact h hall; exact h hn)]
 cases he : eqIx n 0 l with
 | some k =>
  simp only
  obtain ⟨k1, _, k2, k3⟩ := eqIx_some he
  simp only [Nat.sub_zero] at k1 k2 k3
  have hMM : M ≤ 9223372036854775807 := hMM.resolve_right fun h => by subst h; simp at k1
  have := runE_le (step := stepQ l n k) (w := 1) (l := List.range l.length) (acc := []) fun i hi acc => by
   have hi := List.mem_range.1 hi
   unfold stepQ
   split
   ·exact ⟨rfl, by simp⟩
   ·rename_i hik
    split
    ·exact stepI_fine hl hB h1 hA
    ·obtain ⟨c1, c2, c3⟩ := cancelX_fine (hcf k k1) (hcf i hi) hMM
     rw [if_neg (by rw [c1]; simp)]
     have hpos := cancelX_pos (d := cf (conAt l i).1.2 n) (by rw [conAt_get k1]; exact k3) c1
     refine stepD_fine hB hA units2_len.symm (zip_ok hl fun j g1 g2 g3 => ?_) (units2_abs c2 c3)
     rw [units2_get] at g3
     split at g3
     ·omega
     ·split at g3
      ·rename_i e; subst e; exact k2
      ·omega
  obtain ⟨r1, r2⟩ := this
  exact ⟨r1, by simp only [List.length_nil, List.length_range] at r2; show (solveS l n k).1.length ≤ R; unfold solveS; omega⟩
 | none =>
  simp only
  have h3 := sgI_three (n := n) (l := l) (m := l.length)
  have h4 := hR _ _ _ h3
  obtain ⟨r1, r2⟩ := runE_le (step := fun i => stepD l (units2 l.length i 1 i 1)) (w := 1) (l := sgI 0 n l l.length) (acc := []) fun i hi acc => stepI_fine hl hB h1 hA
  obtain ⟨s1, s2⟩ := runE_le (step := fun i => runE (fun k => stepU l n i k) (sgI (-1) n l l.length)) (w := (sgI (-1) n l l.length).length) (l := sgI 1 n l l.length) (acc := (runE (fun i => stepD l (units2 l.length i 1 i 1)) (sgI 0 n l l.length) []).1) fun i hi acc => by
   obtain ⟨i1, i2⟩ := sgI_lt hi
   have hMM : M ≤ 9223372036854775807 := hMM.resolve_right fun h => by subst h; simp at i1
   have := runE_le (step := fun k => stepU l n i k) (w := 1) (l := sgI (-1) n l l.length) (acc := acc) fun k hk acc => by
    obtain ⟨k1, k2⟩ := sgI_lt hk
    obtain ⟨c1, c2, c3⟩ := factorsX_fine (hcf i i1) (hcf k k1) hMM
    unfold stepU
    rw [if_neg (by rw [c1]; simp)]
    have p1 := Int.sign_eq_one_iff_pos.1 i2
    have p2 := Int.sign_eq_neg_one_iff_neg.1 k2
    obtain ⟨q1, q2⟩ := factorsX_pos (by omega) (by omega) c1
    refine stepD_fine hB hA units2_len.symm (zip_ok hl fun j g1 g2 g3 => ?_) (units2_abs c2 c3)
    rw [units2_get] at g3
    split at g3
    ·omega
    ·split at g3
     ·omega
     ·omega
   rw [Nat.mul_one] at this
   exact this
  simp only [List.length_nil, Nat.zero_add, Nat.mul_one] at r2
  unfold pairsS pairsT
  rw [if_neg (by omega), if_neg (not_not_intro r1)]
  exact ⟨s1, by omega⟩
end
/-- What is eliminated says as much. -/
theorem elim_back {l : List Con} {n : ByteArray} (h0 : (elimS l n).2 = 0) {y : ByteArray → Rat} (hy : ∀ r ∈ (elimS l n).1, holds y r.1) : ∃ x, ∀ c ∈ l, holds x c := by
 have hb := elimS_back h0
 have hz := exact_zero hb hy
 rcases hb.step with ⟨k, hk, h1, h2, h3⟩ | ⟨h1, h2⟩
 ·refine ⟨updX y n (bndR y n l[k]), fun c hc => ?_⟩
  by_cases hc0 : cf c.1.2 n = 0
  ·have e : val (updX y n (bndR y n l[k])) c.1 = val y c.1 := by
    rw [val_upd (hb.lin c hc), hc0]
    simp [Rat.zero_mul, Rat.add_zero]
   have := hz c hc hc0
   exact ⟨by rw [e]; exact this.1, by rw [e]; exact this.2⟩
  ·exact exact_eq hb.lin hy hk h1 h2 h3 c hc hc0
 ·obtain ⟨v, hv⟩ := back_le hb.lin hz h1 (fun a ha b hb' p1 p2 => by
   obtain ⟨i, hi, rfl⟩ := List.mem_iff_getElem.1 ha
   obtain ⟨k, hk, rfl⟩ := List.mem_iff_getElem.1 hb'
   obtain ⟨p, q, c, p0, q0, pq, hcc, hin⟩ := h2 i hi k hk p1 p2
   have hik : i ≠ k := by rintro rfl; omega
   refine ⟨q, q0, p, p0, pq, ?_⟩
   rw [← val_units2 hi hk hik hcc]
   exact (hy _ hin).1)
  exact ⟨_, hv⟩
/-- All names, one after the other. -/
noncomputable def elimN : List ByteArray → List Con → List Con
 | [], t => t
 | n :: N, t => elimN N ((elimS t n).1.map (·.1))
def pM : Nat → Nat
 | 0 => 35224100536320
 | 1 => 1327104
 | 2 => 384
 | _ => 8
/-- Small constraints over some names. -/
structure ConB (N : List ByteArray) (M : Nat) (c : Con) : Prop where
 lin : linOk c.1.2
 k : c.1.1.natAbs ≤ M
 m : ∀ m ∈ c.1.2, m.2.natAbs ≤ M
 n : ∀ m ∈ c.1.2, m.1 ∈ N
theorem stage_P {k : Nat} (hk : k < 3) : tR (k + 1) * (pM (k + 1) * pM (k + 1)) = pM k ∧ 1 ≤ pM (k + 1) ∧ pM k ≤ 9223372036854775807 ∧ tR k ≤ 256 ∧ tR (k + 1) ≤ tR k := by
 match k, hk with
 | 0, _ => decide
 | 1, _ => decide
 | 2, _ => decide
theorem elim_conB {t : List Con} {n : ByteArray} {N : List ByteArray} {M M' : Nat} (h : ∀ c ∈ t, ConB (n :: N) M c) (h1 : 1 ≤ M) (h0 : (elimS t n).2 = 0) (hM : t.length * (M * M) ≤ M') : ∀ c ∈ (elimS t n).1.map (·.1), ConB N M' c := by
 intro c hc
 obtain ⟨r, hr, rfl⟩ := List.mem_map.1 hc
 have ho := elimS_out (M := M) h1 (fun c hc => cf_natAbs (h c hc).m n) h0 r hr
 obtain ⟨c1, c2⟩ := comb_abs ho.comb (fun d hd => ⟨(h d hd).k, (h d hd).m⟩) ho.small
 obtain ⟨g1, g2, g3, g4, g5, g6⟩ := conCombine_spec ho.comb
 have hdot : ∀ {z : List (Con × Int)} {m : ByteArray}, dotC m z ≠ 0 → ∃ p ∈ z, cf p.1.1.2 m ≠ 0 := by
  intro z m
  induction z with
  | nil => intro h; exact absurd rfl h
  | cons p z ih =>
   intro h
   by_cases hp : cf p.1.1.2 m = 0
   ·rw [dotC, hp, Int.zero_mul, Int.zero_add] at h
    obtain ⟨q, hq, h2⟩ := ih h
    exact ⟨q, List.mem_cons_of_mem _ hq, h2⟩
   ·exact ⟨p, List.mem_cons_self, hp⟩
 refine ⟨g3, Nat.le_trans c1 hM, fun m hm => Nat.le_trans (c2 m hm) hM, fun m hm => ?_⟩
 obtain ⟨s1, s2⟩ := linOk_iff.1 g3
 have hne : cf r.1.1.2 m.1 ≠ 0 := by rw [cf_mem s1 hm]; exact (s2 m hm).2
 have hmn : m.1 ≠ n := fun e => hne (by rw [e]; exact ho.gone)
 rw [g5] at hne
 obtain ⟨p, hp, h2⟩ := hdot hne
 obtain ⟨w, hw, e, _⟩ := cf_in h2
 have := (h p.1 (List.of_mem_zip hp).1).n w hw
 rw [e] at this
 exact (List.mem_cons.1 this).resolve_left hmn
theorem elimN_full : ∀ {k : Nat} (hk : k ≤ 3) {N : List ByteArray} {t : List Con}, N.length ≤ k → (∀ n ∈ N, idOk n) → (∀ c ∈ t, ConB N (pM k) c) → t.length ≤ tR k →
  (∀ x, (∀ c ∈ t, holds x c) → ∀ c ∈ elimN N t, holds x c) ∧ (∀ y, (∀ c ∈ elimN N t, holds y c) → ∃ x, ∀ c ∈ t, holds x c) ∧ ∀ c ∈ elimN N t, c.1.2 = [] := by
 intro k
 induction k with
 | zero =>
  intro hk N t hN hid ht hlen
  obtain rfl := List.length_eq_zero_iff.1 (by omega : N.length = 0)
  rw [elimN]
  refine ⟨fun x h => h, fun y h => ⟨y, h⟩, fun c hc => ?_⟩
  cases hm : c.1.2 with
  | nil => rfl
  | cons m r => exact absurd ((ht c hc).n m (by rw [hm]; exact List.mem_cons_self)) (by simp)
 | succ k ih =>
  intro hk N t hN hid ht hlen
  cases N with
  | nil =>
   rw [elimN]
   refine ⟨fun x h => h, fun y h => ⟨y, h⟩, fun c hc => ?_⟩
   cases hm : c.1.2 with
   | nil => rfl
   | cons m r => exact absurd ((ht c hc).n m (by rw [hm]; exact List.mem_cons_self)) (by simp)
  | cons n N =>
   obtain ⟨e1, e2, e3, e4, e5⟩ := stage_P (k := k) (by omega)
   have hle : t.length * (pM (k + 1) * pM (k + 1)) ≤ pM k := by rw [← e1]; exact Nat.mul_le_mul_right _ hlen
   obtain ⟨f1, f2⟩ := elimS_fine (l := t) (n := n) (M := pM (k + 1)) (R := tR k) (fun c hc => (ht c hc).lin) (fun c hc => ⟨(ht c hc).k, (ht c hc).m⟩) e2 (by omega) (hid n List.mem_cons_self) (by omega)
    (fun r a u h => grow_R (by omega) (by omega)) e4
   obtain ⟨g1, g2, g3⟩ := ih (by omega) (N := N) (t := (elimS t n).1.map (·.1)) (by simpa using hN) (fun m hm => hid m (List.mem_cons_of_mem _ hm)) (elim_conB ht e2 f1 hle) (by simpa using f2)
   rw [elimN]
   refine ⟨fun x hx => g1 x fun c hc => ?_, fun y hy => ?_, g3⟩
   ·obtain ⟨r, hr, rfl⟩ := List.mem_map.1 hc
    have ho := elimS_out (M := pM (k + 1)) e2 (fun c hc => cf_natAbs (ht c hc).m n) f1 r hr
    exact conCombine_holds ho.comb hx
   ·obtain ⟨x, hx⟩ := g2 y hy
    exact elim_back f1 fun r hr => hx r.1 (List.mem_map.2 ⟨r, hr, rfl⟩)
/-- The different names, in the order of their first places. -/
def addN (a : List ByteArray) (s : ByteArray) : List ByteArray := if s ∈ a then a else a ++ [s]
def nmsL (l : List Con) : List ByteArray := l.flatMap fun c => c.1.2.map (·.1)
def namesD (l : List Con) : List ByteArray := (nmsL l).foldl addN []
theorem foldN_mem : ∀ {s a : List ByteArray} {n : ByteArray}, n ∈ s.foldl addN a ↔ n ∈ a ∨ n ∈ s
 | [], a, n => by simp
 |b :: s, a, n => by
  rw [List.foldl_cons, foldN_mem, addN]
  split
  ·rename_i h
   simp only [List.mem_cons]
   constructor
   ·rintro (h1 | h1)
    ·exact .inl h1
    ·exact .inr (.inr h1)
   ·rintro (h1 | rfl | h1)
    ·exact .inl h1
    ·exact .inl h
    ·exact .inr h1
  ·simp only [List.mem_append, List.mem_cons, List.not_mem_nil, or_false, or_assoc]
theorem mem_namesD {l : List Con} {n : ByteArray} : n ∈ namesD l ↔ ∃ c ∈ l, ∃ m ∈ c.1.2, m.1 = n := by
 rw [namesD, foldN_mem]
 simp [nmsL, List.mem_flatMap, List.mem_map]
theorem foldN_nodup : ∀ {s a : List ByteArray}, a.Nodup → (s.foldl addN a).Nodup
 | [], a, h => h
 |b :: s, a, h => by
  rw [List.foldl_cons]
  refine foldN_nodup ?_
  rw [addN]
  split
  ·exact h
  ·rename_i hn
   rw [List.nodup_append]
   exact ⟨h, by simp, fun x hx y hy e => by rw [List.mem_singleton.1 hy] at e; exact hn (e ▸ hx)⟩
theorem nodupN_le {A : List ByteArray} : ∀ {B : List ByteArray}, A.Nodup → (∀ a ∈ A, a ∈ B) → A.length ≤ B.length := by
 induction A with
 | nil => intro B _ _; simp
 | cons a A ih =>
  intro B hn hs
  obtain ⟨h1, h2⟩ := List.nodup_cons.1 hn
  have ha := hs a List.mem_cons_self
  have hlt := filter_less ha
  have := ih (B := B.filter fun m => decide (m ≠ a)) h2 fun x hx => List.mem_filter.2 ⟨hs x (List.mem_cons_of_mem _ hx), by
   simp only [ne_eq, decide_not, Bool.not_eq_true', decide_eq_false_iff_not]
   exact fun e => h1 (e ▸ hx)⟩
  rw [List.length_cons]
  omega
/-- Few small constraints. -/
def smallL (l : List Con) : Prop := l.length ≤ 6 ∧ (namesD l).length ≤ 3 ∧ ∀ c ∈ l, c.1.1.natAbs ≤ 8 ∧ ∀ m ∈ c.1.2, m.2.natAbs ≤ 8
noncomputable instance (l : List Con) : Decidable (smallL l) := Classical.propDecidable _
def feasS (l : List Con) : Prop := ∀ c ∈ elimN (namesD (tightL l).1) (tightL l).1, ¬ conBad c
noncomputable instance (l : List Con) : Decidable (feasS l) := Classical.propDecidable _
theorem tightL_small {l : List Con} (h0 : (tightL l).2 = 0) (hs : smallL l) : (∀ d ∈ (tightL l).1, d.1.1.natAbs ≤ 8 ∧ ∀ m ∈ d.1.2, m.2.natAbs ≤ 8) ∧ (∀ d ∈ (tightL l).1, ∀ n, cf d.1.2 n ≠ 0 → n ∈ namesD l) := by
 have ht : tightL l = ((tightL l).1, 0) := Prod.ext rfl h0
 obtain ⟨_, _, h3⟩ := tightL_spec ht
 refine ⟨fun d hd => ?_, fun d hd n hn => ?_⟩
 ·obtain ⟨c, hc, rfl⟩ := h3 d hd
  obtain ⟨g1, g2, _⟩ := tightS_abs (M := 8) (by decide) (hs.2.2 c hc).1 (hs.2.2 c hc).2
  exact ⟨g1, g2⟩
 ·obtain ⟨c, hc, rfl⟩ := h3 d hd
  obtain ⟨_, _, g3⟩ := tightS_abs (M := 8) (by decide) (hs.2.2 c hc).1 (hs.2.2 c hc).2
  obtain ⟨m, hm, e⟩ := g3 n hn
  exact mem_namesD.2 ⟨c, hc, m, hm, e⟩
theorem tight_names {l : List Con} (h64 : ∀ c ∈ l, con64 c) (h0 : (tightL l).2 = 0) (hs : smallL l) : (namesD (tightL l).1).length ≤ 3 := by
 have ht : tightL l = ((tightL l).1, 0) := Prod.ext rfl h0
 refine Nat.le_trans (nodupN_le (foldN_nodup List.nodup_nil) fun n hn => ?_) hs.2.1
 obtain ⟨c, hc, m, hm, e⟩ := mem_namesD.1 hn
 have hok := linOk_iff.1 ((tightL_ok ht h64) c hc).1
 refine (tightL_small h0 hs).2 c hc n ?_
 rw [← e, cf_mem hok.1 hm]
 exact (hok.2 m hm).2
theorem tight_conB {l : List Con} (h64 : ∀ c ∈ l, con64 c) (h0 : (tightL l).2 = 0) (hs : smallL l) : ∀ c ∈ (tightL l).1, ConB (namesD (tightL l).1) (pM 3) c := by
 have ht : tightL l = ((tightL l).1, 0) := Prod.ext rfl h0
 intro c hc
 have h8 := (tightL_small h0 hs).1 c hc
 exact ⟨((tightL_ok ht h64) c hc).1, h8.1, h8.2, fun m hm => mem_namesD.2 ⟨c, hc, m, hm, rfl⟩⟩
theorem tight_ids {l : List Con} (h64 : ∀ c ∈ l, con64 c) (h0 : (tightL l).2 = 0) : ∀ n ∈ namesD (tightL l).1, idOk n := by
 have ht : tightL l = ((tightL l).1, 0) := Prod.ext rfl h0
 intro n hn
 obtain ⟨c, hc, m, hm, e⟩ := mem_namesD.1 hn
 rw [← e]
 exact ((linOk_iff.1 ((tightL_ok ht h64) c hc).1).2 m hm).1
/-- Feasible is right. -/
theorem feas_iff {l : List Con} (h64 : ∀ c ∈ l, con64 c) (h0 : (tightL l).2 = 0) (hs : smallL l) : feasS l ↔ ∃ x, ∀ c ∈ (tightL l).1, holds x c := by
 have ht : tightL l = ((tightL l).1, 0) := Prod.ext rfl h0
 have hlen := (tightL_spec ht).1
 obtain ⟨g1, g2, g3⟩ := elimN_full (k := 3) (Nat.le_refl _) (tight_names h64 h0 hs) (tight_ids h64 h0) (tight_conB h64 h0 hs) (by rw [hlen]; exact hs.1)
 constructor
 ·intro h
  exact g2 (fun _ => 0) fun c hc => triv_holds (g3 c hc) (h c hc)
 ·rintro ⟨x, hx⟩ c hc hb
  exact conBad_not hb (g1 x hx c hc)
/-- Infeasible decides what Feasible does. -/
theorem inf_feas {l : List Con} (h64 : ∀ c ∈ l, con64 c) (h0 : (tightL l).2 = 0) (hs : smallL l) : (infS l 1048576).2.2 = 0 ∧ ((infS l 1048576).2.1 = true ↔ ¬ feasS l) := by
 obtain ⟨s1, s2⟩ := tightL_small h0 hs
 obtain ⟨i1, i2⟩ := infS_full h64 h0 hs.1 s1 s2 hs.2.1
 refine ⟨i1, ?_⟩
 rw [feas_iff h64 h0 hs]
 obtain ⟨w1, w2⟩ := infS_law (fuel := 1048576) h64
 have ha : askedS l 1048576 = 0 := by rw [askedS, if_neg (not_not_intro h0), if_neg (by omega)]
 constructor
 ·rintro h ⟨x, hx⟩
  exact checkS_sat ((w2 ha).2.1 h) hx
 ·intro h
  cases hb : (infS l 1048576).2.1 with
  | true => rfl
  | false => exact absurd (i2 hb) h
end Go.Proofs.Ytnddmjhpplopbaa
