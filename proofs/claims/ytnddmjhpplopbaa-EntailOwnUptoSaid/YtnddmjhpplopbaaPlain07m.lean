/- Plain laws: the search on few small constraints answers rightly. -/
import Derived.Test.YtnddmjhpplopbaaPlain07v
set_option linter.unusedVariables false
set_option linter.unusedSimpArgs false
namespace Go.Proofs.Ytnddmjhpplopbaa
open Go.Abs Go.RowKit

def satR (x : ByteArray → Rat) (rows : List Row) : Prop := ∀ r ∈ rows, holds x r.1
theorem triv_holds {x : ByteArray → Rat} {c : Con} (h : c.1.2 = []) (hb : ¬ conBad c) : holds x c := by
 obtain ⟨⟨k, l⟩, q⟩ := c
 simp only at h
 subst h
 have h1 : ¬ (k < 0 ∨ (q = true ∧ k ≠ 0)) := fun h' => hb ⟨rfl, h'⟩
 refine ⟨?_, fun hq => ?_⟩
 ·simp only [val, ev, Rat.add_zero]
  exact Rat.intCast_nonneg.2 (Classical.byContradiction fun h' => h1 (.inl (by omega)))
 ·simp only [val, ev, Rat.add_zero]
  have : k = 0 := Classical.byContradiction fun h' => h1 (.inr ⟨hq, h'⟩)
  rw [this]; rfl
/-! Rows that are added: nothing is lost. -/
theorem addR_sat {x : ByteArray → Rat} {d : Row} : ∀ {rows out : List Row}, addR d rows = some out → satR x out → satR x rows ∧ holds x d.1
 | [], out, h, _ => by rw [addR] at h; cases h
 |r :: rows, out, h, hs => by
  rw [addR] at h
  split at h
  ·rename_i hsim
   cases h
   obtain ⟨e1, e2, e3⟩ := hsim
   have hd := hs _ List.mem_cons_self
   have hv : val x r.1.1 = val x d.1.1 + ((r.1.1.1 : Rat) - (d.1.1.1 : Rat)) := by
    rw [val, val, e2]; grind
   have hrest : satR x rows := fun z hz => hs z (List.mem_cons_of_mem _ hz)
   have both : holds x r.1 ∧ holds x d.1 := by
    split at hd
    ·rename_i hlt
     refine ⟨⟨?_, fun hq => ?_⟩, hd⟩
     ·have h1 := hd.1
      have : (d.1.1.1 : Rat) < (r.1.1.1 : Rat) := Rat.intCast_lt_intCast.2 hlt
      rw [hv]
      grind
     ·rcases e3 with e3 | e3
      ·rw [e1, e3] at hq; cases hq
      ·omega
    ·rename_i hlt
     refine ⟨hd, ⟨?_, fun hq => ?_⟩⟩
     ·have h1 := hd.1
      rw [hv] at h1
      have : (r.1.1.1 : Rat) ≤ (d.1.1.1 : Rat) := Rat.intCast_le_intCast.2 (Int.not_lt.1 hlt)
      grind
     ·rcases e3 with e3 | e3
      ·rw [e3] at hq; cases hq
      ·have h2 := hd.2 (by rw [e1]; exact hq)
       rw [hv, e3] at h2
       grind
   exact ⟨fun z hz => (by rcases List.mem_cons.1 hz with rfl | hz; exact both.1; exact hrest z hz), both.2⟩
  ·cases hr : addR d rows with
   | none => rw [hr] at h; cases h
   | some t =>
    rw [hr] at h
    cases h
    obtain ⟨g1, g2⟩ := addR_sat hr fun z hz => hs z (List.mem_cons_of_mem _ hz)
    exact ⟨fun z hz => (by rcases List.mem_cons.1 hz with rfl | hz; exact hs _ List.mem_cons_self; exact g1 z hz), g2⟩
theorem addS2_full {rows : List Row} {d : Row} (hl : rows.length < 256) : (addS2 rows d).2 = 0 ∧ ∀ x, satR x (addS2 rows d).1 → satR x rows ∧ holds x d.1 := by
 unfold addS2
 split
 ·rename_i h
  exact ⟨rfl, fun x hx => ⟨hx, triv_holds h.1 h.2⟩⟩
 ·cases hr : addR d rows with
  | some l => exact ⟨rfl, fun x hx => addR_sat hr hx⟩
  | none =>
   simp only
   rw [if_neg (by omega)]
   exact ⟨rfl, fun x hx => ⟨fun z hz => hx z (List.mem_append_left _ hz), hx d (by simp)⟩⟩
/-- A row of numbers up to M, with multipliers up to B, and the names N. -/
structure RowB (T : List Con) (N : List ByteArray) (M B : Nat) (r : Row) : Prop where
 row : RowT T r
 k : r.1.1.1.natAbs ≤ M
 m : ∀ n, (cf r.1.1.2 n).natAbs ≤ M
 b : ∀ x ∈ r.2, x.natAbs ≤ B
 n : ∀ n, cf r.1.1.2 n ≠ 0 → n ∈ N
theorem RowB.mono {T : List Con} {N : List ByteArray} {M B M' B' : Nat} {r : Row} (h : RowB T N M B r) (hM : M ≤ M') (hB : B ≤ B') : RowB T N M' B' r :=
 ⟨h.row, Nat.le_trans h.k hM, fun n => Nat.le_trans (h.m n) hM, fun x hx => Nat.le_trans (h.b x hx) hB, h.n⟩
theorem RowB.mono_m {T : List Con} {N : List ByteArray} {M B : Nat} {r : Row} (h : RowB T N M B r) : ∀ m ∈ r.1.1.2, m.2.natAbs ≤ M := fun m hm => by
 rw [← cf_mem (linOk_iff.1 h.row.lin).1 hm]
 exact h.m m.1
theorem ev_td {z : ByteArray → Rat} {g : Nat} : ∀ {l : List Mono}, (∀ m ∈ l, (g : Int) ∣ m.2) → ev z l = (g : Rat) * ev z (tdL g l)
 | [], _ => by simp [ev, tdL, Rat.mul_zero]
 |m :: l, h => by
  have ih := ev_td (z := z) fun y hy => h y (List.mem_cons_of_mem _ hy)
  have h1 := Int.tdiv_mul_cancel (h m List.mem_cons_self)
  have h2 : (m.2 : Rat) = ((m.2.tdiv (g : Int) : Int) : Rat) * (g : Rat) := by
   rw [← Rat.intCast_natCast, ← Rat.intCast_mul, h1]
  rw [tdL, List.map_cons, ev, ev, ih, h2, tdL]
  simp only
  grind
theorem RowB.reduced {T : List Con} {N : List ByteArray} {M B : Nat} {d : Row} (h : RowB T N M B d) : RowB T N M B (reducedS d) ∧ (∀ n, cf d.1.1.2 n = 0 → cf (reducedS d).1.1.2 n = 0) ∧ ∀ z, holds z (reducedS d).1 → holds z d.1 := by
 have hr := h.row.reduced
 unfold reducedS at hr ⊢
 split
 ·exact ⟨h, fun n h => h, fun z h => h⟩
 ·rename_i hg
  rw [if_neg hg] at hr
  have hg2 : 2 ≤ gcdB 0 d.2 := by omega
  have hdv : ∀ n ∈ d.2, ((gcdB 0 d.2 : Nat) : Int) ∣ n := fun n hn => Int.ofNat_dvd_left.2 (gcdB_dvd.2 n hn)
  generalize gcdB 0 d.2 = g at *
  have dK : (g : Int) ∣ d.1.1.1 := by
   rw [h.row.k, ← dotK_div (T := T) hdv]
   exact ⟨_, Int.mul_comm _ _⟩
  have dC : ∀ n, (g : Int) ∣ cf d.1.1.2 n := fun n => by
   rw [h.row.c, ← dotC_div (T := T) hdv]
   exact ⟨_, Int.mul_comm _ _⟩
  have dM : ∀ m ∈ d.1.1.2, (g : Int) ∣ m.2 := fun m hm => by
   rw [← cf_mem (linOk_iff.1 h.row.lin).1 hm]
   exact dC m.1
  have ht : ∀ x : Int, (x.tdiv (g : Int)).natAbs ≤ x.natAbs := fun x => by
   rw [Int.natAbs_tdiv]
   exact Nat.div_le_self _ _
  refine ⟨⟨hr, Nat.le_trans (ht _) h.k, fun n => ?_, fun x hx => ?_, fun n hn => ?_⟩, fun n hn => ?_, fun z hz => ?_⟩
  ·show (cf (tdL g d.1.1.2) n).natAbs ≤ M
   rw [cf_tdL]
   exact Nat.le_trans (ht _) (h.m n)
  ·obtain ⟨y, hy, rfl⟩ := List.mem_map.1 hx
   exact Nat.le_trans (ht _) (h.b y hy)
  ·refine h.n n fun h0 => hn ?_
   show cf (tdL g d.1.1.2) n = 0
   rw [cf_tdL, h0, Int.zero_tdiv]
  ·show cf (tdL g d.1.1.2) n = 0
   rw [cf_tdL, hn, Int.zero_tdiv]
  ·have hv : val z d.1.1 = (g : Rat) * val z (d.1.1.1.tdiv (g : Int), tdL g d.1.1.2) := by
    have h1 := Int.tdiv_mul_cancel dK
    have h2 : (d.1.1.1 : Rat) = ((d.1.1.1.tdiv (g : Int) : Int) : Rat) * (g : Rat) := by
     rw [← Rat.intCast_natCast, ← Rat.intCast_mul, h1]
    rw [val, val, ev_td dM, h2]
    grind
   have hg0 : (0 : Rat) ≤ (g : Rat) := by
    rw [← Rat.intCast_natCast]
    exact Rat.intCast_nonneg.2 (by omega)
   obtain ⟨z1, z2⟩ := hz
   simp only at z1 z2
   refine ⟨?_, fun hq => ?_⟩
   ·rw [hv]; exact Rat.mul_nonneg hg0 z1
   ·rw [hv, z2 hq, Rat.mul_zero]
theorem sumsF_fine {x y : Int} : ∀ {l : List (Int × Int)}, (∀ p ∈ l, sumOk x y p = true) → ∃ s, sumsF x y l = some s
 | [], _ => ⟨[], rfl⟩
 |p :: l, h => by
  obtain ⟨s, hs⟩ := sumsF_fine fun q hq => h q (List.mem_cons_of_mem _ hq)
  exact ⟨_, by rw [sumsF, if_pos (h p List.mem_cons_self), hs]; rfl⟩
theorem mul_le2 {a b : Int} {A B : Nat} (ha : a.natAbs ≤ A) (hb : b.natAbs ≤ B) : (a * b).natAbs ≤ A * B := by
 rw [Int.natAbs_mul]; exact Nat.mul_le_mul ha hb
/-- Two rows with small numbers. -/
theorem mergeS_full {T : List Con} {N : List ByteArray} {M B : Nat} {a b : Row} {x y fuel : Int} (ha : RowB T N M B a) (hb : RowB T N M B b) (hx : x.natAbs ≤ M) (hy : y.natAbs ≤ M) (hx0 : 0 ≤ x ∨ a.1.2 = true) (hy0 : 0 ≤ y ∨ b.1.2 = true)
  (hM : 2 * (M * M) ≤ 9223372036854775807) (hB : 2 * (M * B) ≤ 9223372036854775807) (hf : 1 ≤ fuel) :
  (mergeS fuel a b x y).2 = 0 ∧ RowB T N (2 * (M * M)) (2 * (M * B)) (mergeS fuel a b x y).1 ∧
  (∀ n, cf a.1.1.2 n * x + cf b.1.1.2 n * y = 0 → cf (mergeS fuel a b x y).1.1.1.2 n = 0) ∧
  (∀ z, holds z (mergeS fuel a b x y).1.1 → 0 ≤ val z a.1.1 * x + val z b.1.1 * y ∧ (a.1.2 = true → b.1.2 = true → val z a.1.1 * x + val z b.1.1 * y = 0)) := by
 have hok : ∀ p ∈ [a.1, b.1].zip [x, y], okC p := fun p hp => by
  have : p = (a.1, x) ∨ p = (b.1, y) := by simpa using hp
  rcases this with rfl | rfl
  ·exact ⟨ha.row.lin, fun h => hx0.elim (fun h' => absurd h.1 (Int.not_lt.2 h')) fun h' => by have := h.2; simp only at this; rw [h'] at this; cases this⟩
  ·exact ⟨hb.row.lin, fun h => hy0.elim (fun h' => absurd h.1 (Int.not_lt.2 h')) fun h' => by have := h.2; simp only at this; rw [h'] at this; cases this⟩
 have h0 : (conCombine [a.1, b.1] [x, y]).2 = 0 := conCombine_fine (B := M) (M := M) rfl hok (fun d hd => by
  have : d = a.1 ∨ d = b.1 := by simpa using hd
  rcases this with rfl | rfl
  ·exact ⟨ha.k, ha.mono_m⟩
  ·exact ⟨hb.k, hb.mono_m⟩) (fun w hw => by
  have : w = x ∨ w = y := by simpa using hw
  rcases this with rfl | rfl
  ·exact hx
  ·exact hy) (by simpa using hM)
 obtain ⟨s, hs⟩ := sumsF_fine (x := x) (y := y) (l := a.2.zip b.2) (fun p hp => by
  obtain ⟨p1, p2⟩ := List.of_mem_zip hp
  have q1 := mul_le2 (ha.b _ p1) hx
  have q2 := mul_le2 (hb.b _ p2) hy
  have q3 := Int.natAbs_add_le (p.1 * x) (p.2 * y)
  rw [Nat.mul_comm] at q1 q2
  exact sumOk_iff.2 ⟨in64_abs (by omega), in64_abs (by omega), in64_abs (by omega)⟩)
 have hc : conCombine [a.1, b.1] [x, y] = ((conCombine [a.1, b.1] [x, y]).1, 0) := Prod.ext rfl h0
 have hm : mergeS fuel a b x y = (reducedS ((conCombine [a.1, b.1] [x, y]).1, s), 0) := by
  rw [mergeS, if_neg (by omega), if_neg (not_not_intro h0), hs]
 rw [hm]
 generalize (conCombine [a.1, b.1] [x, y]).1 = c at *
 obtain ⟨g1, g2, g3, g4, g5, g6⟩ := conCombine_spec hc
 have g4 : c.1.1 = a.1.1.1 * x + b.1.1.1 * y := by rw [g4]; simp [dotK]
 have g5 : ∀ n, cf c.1.2 n = cf a.1.1.2 n * x + cf b.1.1.2 n * y := fun n => by rw [g5]; simp [dotC]
 have hv : ∀ z, val z c.1 = val z a.1.1 * x + val z b.1.1 * y := fun z => by
  rw [conCombine_val hc]; simp [dotV, Rat.add_zero]
 have hd : RowB T N (2 * (M * M)) (2 * (M * B)) (c, s) := by
  refine ⟨ha.row.mix hb.row hc hs, ?_, fun n => ?_, fun w hw => ?_, fun n hn => ?_⟩
  ·show c.1.1.natAbs ≤ _
   have q1 := mul_le2 ha.k hx
   have q2 := mul_le2 hb.k hy
   have q3 := Int.natAbs_add_le (a.1.1.1 * x) (b.1.1.1 * y)
   rw [g4]
   omega
  ·show (cf c.1.2 n).natAbs ≤ _
   have q1 := mul_le2 (ha.m n) hx
   have q2 := mul_le2 (hb.m n) hy
   have q3 := Int.natAbs_add_le (cf a.1.1.2 n * x) (cf b.1.1.2 n * y)
   rw [g5]
   omega
  ·obtain ⟨e, _⟩ := sumsF_eq hs
   simp only at hw
   rw [e] at hw
   obtain ⟨p, hp, rfl⟩ := List.mem_map.1 hw
   obtain ⟨p1, p2⟩ := List.of_mem_zip hp
   have q1 := mul_le2 (ha.b _ p1) hx
   have q2 := mul_le2 (hb.b _ p2) hy
   have q3 := Int.natAbs_add_le (p.1 * x) (p.2 * y)
   rw [Nat.mul_comm] at q1 q2
   omega
  ·simp only at hn
   rw [g5] at hn
   by_cases h1 : cf a.1.1.2 n = 0
   ·refine hb.n n fun h2 => hn ?_
    rw [h1, h2]; simp
   ·exact ha.n n h1
 obtain ⟨r1, r2, r3⟩ := hd.reduced
 refine ⟨rfl, r1, fun n hn => r2 n (by show cf c.1.2 n = 0; rw [g5]; exact hn), fun z hz => ?_⟩
 obtain ⟨k1, k2⟩ := r3 z hz
 simp only at k1 k2
 rw [hv] at k1 k2
 refine ⟨k1, fun qa qb => k2 ?_⟩
 rw [g6]
 simp [eqR, qa, qb]
/-! Steps that lose nothing. -/
structure FullOk (P : Row → Prop) (w u : Nat) (H : (ByteArray → Rat) → Prop) (acc : List Row) (fuel : Int) (s : Sys) : Prop where
 er : s.2.2 = 0
 all : ∀ r ∈ s.1, P r
 len : s.1.length ≤ acc.length + w
 fuel : fuel - u ≤ s.2.1
 sat : ∀ x, satR x s.1 → satR x acc ∧ H x
theorem runF_full {α : Type} {step : α → List Row → Int → Sys} {P : Row → Prop} {H : α → (ByteArray → Rat) → Prop} {w : α → Nat} {u : Nat} : ∀ {l : List α},
  (∀ a ∈ l, ∀ acc fuel, (∀ r ∈ acc, P r) → acc.length + w a ≤ 256 → (u : Int) ≤ fuel → FullOk P (w a) u (H a) acc fuel (step a acc fuel)) →
  ∀ acc fuel, (∀ r ∈ acc, P r) → acc.length + (l.map w).sum ≤ 256 → ((l.length * u : Nat) : Int) ≤ fuel → FullOk P (l.map w).sum (l.length * u) (fun x => ∀ a ∈ l, H a x) acc fuel (runF step l acc fuel)
 | [], _, acc, fuel, ha, hl, hf => ⟨rfl, ha, by simp [runF], by simp [runF], fun x hx => ⟨hx, fun a h => by cases h⟩⟩
 |a :: l, hs, acc, fuel, ha, hl, hf => by
  rw [List.map_cons, List.sum_cons] at hl
  rw [List.length_cons, Nat.succ_mul] at hf
  have h1 := hs a List.mem_cons_self acc fuel ha (by omega) (by omega)
  have h1l := h1.len
  have h1f := h1.fuel
  have h2 := runF_full (fun b hb => hs b (List.mem_cons_of_mem _ hb)) (step a acc fuel).1 (step a acc fuel).2.1 h1.all (by omega) (by omega)
  have h2l := h2.len
  have h2f := h2.fuel
  rw [runF, if_neg (not_not_intro h1.er), List.map_cons, List.sum_cons, List.length_cons, Nat.succ_mul]
  refine ⟨h2.er, h2.all, by omega, by omega, fun x hx => ?_⟩
  obtain ⟨k1, k2⟩ := h2.sat x hx
  obtain ⟨k3, k4⟩ := h1.sat x k1
  refine ⟨k3, fun b hb => ?_⟩
  rcases List.mem_cons.1 hb with rfl | hb
  ·exact k4
  ·exact k2 b hb
theorem sgnE_fine {n : Nat} {s : Bool} (h : n ≤ 9223372036854775807) : (sgnE n s).2 = true ∧ (sgnE n s).1.natAbs = n := by
 unfold sgnE
 rw [if_neg (by omega)]
 refine ⟨rfl, ?_⟩
 cases s <;> simp
theorem cancelX_fine {c d : Int} {M : Nat} (hc : c.natAbs ≤ M) (hd : d.natAbs ≤ M) (hM : M ≤ 9223372036854775807) : (cancelX c d).2.2 = true ∧ (cancelX c d).1.natAbs ≤ M ∧ (cancelX c d).2.1.natAbs ≤ M := by
 have h1 := Nat.div_le_self c.natAbs (Nat.gcd c.natAbs d.natAbs)
 have h2 := Nat.div_le_self d.natAbs (Nat.gcd c.natAbs d.natAbs)
 unfold cancelX
 obtain ⟨a1, a2⟩ := sgnE_fine (n := c.natAbs / Nat.gcd c.natAbs d.natAbs) (s := false) (by omega)
 obtain ⟨b1, b2⟩ := sgnE_fine (n := d.natAbs / Nat.gcd c.natAbs d.natAbs) (s := (decide (0 < c) == decide (0 < d))) (by omega)
 simp only
 rw [a1, b1]
 exact ⟨rfl, by omega, by omega⟩
theorem factorsX_fine {p q : Int} {M : Nat} (hp : p.natAbs ≤ M) (hq : q.natAbs ≤ M) (hM : M ≤ 9223372036854775807) : (factorsX p q).2.2 = true ∧ (factorsX p q).1.natAbs ≤ M ∧ (factorsX p q).2.1.natAbs ≤ M := by
 have h1 := Nat.div_le_self p.natAbs (Nat.gcd p.natAbs q.natAbs)
 have h2 := Nat.div_le_self q.natAbs (Nat.gcd p.natAbs q.natAbs)
 unfold factorsX
 obtain ⟨a1, a2⟩ := sgnE_fine (n := q.natAbs / Nat.gcd p.natAbs q.natAbs) (s := false) (by omega)
 obtain ⟨b1, b2⟩ := sgnE_fine (n := p.natAbs / Nat.gcd p.natAbs q.natAbs) (s := false) (by omega)
 simp only
 rw [a1, b1]
 exact ⟨rfl, by omega, by omega⟩
/-- The rows after a step: without the name. -/
def RowN (T : List Con) (N : List ByteArray) (M B : Nat) (n : ByteArray) (r : Row) : Prop := RowB T N M B r ∧ cf r.1.1.2 n = 0
/-- What two constraints make: without the name, and it holds. -/
def MixH (n : ByteArray) (a b : Con) (z : ByteArray → Rat) : Prop := ∃ p q : Int, 0 < p ∧ cf a.1.2 n * p + cf b.1.2 n * q = 0 ∧ 0 ≤ val z a.1 * (p : Rat) + val z b.1 * (q : Rat) ∧ (a.2 = true → b.2 = true → val z a.1 * (p : Rat) + val z b.1 * (q : Rat) = 0)
section
variable {T : List Con} {N : List ByteArray} {M B : Nat} {n : ByteArray}
theorem add_full {P : Row → Prop} {d : Row} (hd : P d) {acc : List Row} {fuel : Int} (h : ∀ r ∈ acc, P r) (hl : acc.length + 1 ≤ 256) (u : Nat) : FullOk P 1 u (fun x => holds x d.1) acc fuel ((addS2 acc d).1, fuel, (addS2 acc d).2) := by
 obtain ⟨g1, g2, g3, g4⟩ := addS2_spec (rows := acc) (d := d) (by omega)
 obtain ⟨k1, k2⟩ := addS2_full (rows := acc) (d := d) (by omega)
 exact ⟨k1, fun r hr => (g3 r hr).elim (fun e => e ▸ hd) (h r), g2, by simp only; omega, k2⟩
theorem mergeAdd_full {a b : Row} {x y : Int} (ha : RowB T N M B a) (hb : RowB T N M B b) (hx : x.natAbs ≤ M) (hy : y.natAbs ≤ M) (hx0 : 0 < x) (hy0 : 0 ≤ y ∨ b.1.2 = true) (hz : cf a.1.1.2 n * x + cf b.1.1.2 n * y = 0)
  (hM : 2 * (M * M) ≤ 9223372036854775807) (hB : 2 * (M * B) ≤ 9223372036854775807) {acc : List Row} {fuel : Int} (h : ∀ r ∈ acc, RowN T N (2 * (M * M)) (2 * (M * B)) n r) (hl : acc.length + 1 ≤ 256) (hf : 1 ≤ fuel) :
  FullOk (RowN T N (2 * (M * M)) (2 * (M * B)) n) 1 1 (fun z => MixH n a.1 b.1 z) acc fuel (mergeAdd a b x y acc fuel) := by
 obtain ⟨m1, m2, m3, m4⟩ := mergeS_full ha hb hx hy (.inl (by omega)) hy0 hM hB hf
 unfold mergeAdd
 rw [if_neg (not_not_intro m1)]
 have := add_full (P := RowN T N (2 * (M * M)) (2 * (M * B)) n) (d := (mergeS fuel a b x y).1) ⟨m2, m3 n hz⟩ (fuel := fuel) h hl 1
 refine ⟨this.er, this.all, this.len, by simp only; omega, fun z hzz => ?_⟩
 obtain ⟨k1, k2⟩ := this.sat z hzz
 exact ⟨k1, x, y, hx0, hz, m4 z k2⟩
theorem stepE_full {q : Row} {e : Nat} (hq : RowB T N M B q) (hqe : q.1.2 = true) (hqn : cf q.1.1.2 n ≠ 0) {r : Nat × Row} (hr : RowB T N M B r.2) (h1 : 1 ≤ M)
  (hM : 2 * (M * M) ≤ 9223372036854775807) (hB : 2 * (M * B) ≤ 9223372036854775807) (acc : List Row) (fuel : Int) (h : ∀ r ∈ acc, RowN T N (2 * (M * M)) (2 * (M * B)) n r) (hl : acc.length + (if r.1 = e then 0 else 1) ≤ 256) (hf : 1 ≤ fuel) :
  FullOk (RowN T N (2 * (M * M)) (2 * (M * B)) n) (if r.1 = e then 0 else 1) 1 (fun z => r.1 ≠ e → (cf r.2.1.1.2 n = 0 → holds z r.2.1) ∧ (cf r.2.1.1.2 n ≠ 0 → MixH n r.2.1 q.1 z)) acc fuel (stepE n q e r acc fuel) := by
 have hMM : M ≤ 2 * (M * M) := by have := Nat.mul_le_mul_left M h1; omega
 have hBB : B ≤ 2 * (M * B) := by have := Nat.mul_le_mul_right B h1; omega
 unfold stepE
 by_cases he : r.1 = e
 ·rw [if_pos he, if_pos he]
  exact ⟨rfl, h, by simp, by simp only; omega, fun z hz => ⟨hz, fun h' => absurd he h'⟩⟩
 ·rw [if_neg he] at hl
  rw [if_neg he, if_neg he]
  by_cases h0 : cf r.2.1.1.2 n = 0
  ·rw [if_pos h0]
   have := add_full (P := RowN T N (2 * (M * M)) (2 * (M * B)) n) (d := r.2) ⟨hr.mono hMM hBB, h0⟩ (fuel := fuel) h hl 1
   exact ⟨this.er, this.all, this.len, this.fuel, fun z hz => ⟨(this.sat z hz).1, fun _ => ⟨fun _ => (this.sat z hz).2, fun h' => absurd h0 h'⟩⟩⟩
  ·rw [if_neg h0]
   obtain ⟨c1, c2, c3⟩ := cancelX_fine (hq.m n) (hr.m n) (by omega)
   rw [if_neg (by rw [c1]; simp)]
   have := mergeAdd_full (n := n) hr hq c2 c3 (cancelX_pos hqn c1) (.inr hqe) (cancelX_zero hqn c1) hM hB h hl hf
   exact ⟨this.er, this.all, this.len, this.fuel, fun z hz => ⟨(this.sat z hz).1, fun _ => ⟨fun h' => absurd h' h0, fun _ => (this.sat z hz).2⟩⟩⟩
theorem stepR_full {r : Row} (hr : RowB T N M B r) (h1 : 1 ≤ M) (acc : List Row) (fuel : Int) (h : ∀ r ∈ acc, RowN T N (2 * (M * M)) (2 * (M * B)) n r) (hl : acc.length + (if cf r.1.1.2 n = 0 then 1 else 0) ≤ 256) :
  FullOk (RowN T N (2 * (M * M)) (2 * (M * B)) n) (if cf r.1.1.2 n = 0 then 1 else 0) 0 (fun z => cf r.1.1.2 n = 0 → holds z r.1) acc fuel (stepR n r acc fuel) := by
 have hMM : M ≤ 2 * (M * M) := by have := Nat.mul_le_mul_left M h1; omega
 have hBB : B ≤ 2 * (M * B) := by have := Nat.mul_le_mul_right B h1; omega
 unfold stepR
 by_cases h0 : cf r.1.1.2 n = 0
 ·rw [if_pos h0] at hl
  rw [if_pos h0, if_pos h0]
  have := add_full (P := RowN T N (2 * (M * M)) (2 * (M * B)) n) (d := r) ⟨hr.mono hMM hBB, h0⟩ (fuel := fuel) h hl 0
  exact ⟨this.er, this.all, this.len, this.fuel, fun z hz => ⟨(this.sat z hz).1, fun _ => (this.sat z hz).2⟩⟩
 ·rw [if_neg h0, if_neg h0]
  exact ⟨rfl, h, by simp, by simp, fun z hz => ⟨hz, fun h' => absurd h' h0⟩⟩
def pairW (n : ByteArray) (a b : Row) : Nat := if 0 < cf a.1.1.2 n ∧ cf b.1.1.2 n < 0 then 1 else 0
theorem stepP_full {a b : Row} (ha : RowB T N M B a) (hb : RowB T N M B b) (h1 : 1 ≤ M)
  (hM : 2 * (M * M) ≤ 9223372036854775807) (hB : 2 * (M * B) ≤ 9223372036854775807) (acc : List Row) (fuel : Int) (h : ∀ r ∈ acc, RowN T N (2 * (M * M)) (2 * (M * B)) n r) (hl : acc.length + pairW n a b ≤ 256) (hf : 1 ≤ fuel) :
  FullOk (RowN T N (2 * (M * M)) (2 * (M * B)) n) (pairW n a b) 1 (fun z => 0 < cf a.1.1.2 n → cf b.1.1.2 n < 0 → ∃ q : Int, 0 < q ∧ ∃ p : Int, 0 < p ∧ cf a.1.1.2 n * p + cf b.1.1.2 n * q = 0 ∧ 0 ≤ val z a.1.1 * (p : Rat) + val z b.1.1 * (q : Rat)) acc fuel (stepP n a b acc fuel) := by
 unfold stepP
 by_cases h0 : cf a.1.1.2 n ≤ 0 ∨ 0 ≤ cf b.1.1.2 n
 ·rw [if_pos h0, pairW, if_neg (by omega)]
  exact ⟨rfl, h, by simp, by simp only; omega, fun z hz => ⟨hz, fun g1 g2 => by omega⟩⟩
 ·rw [pairW, if_pos (by omega)] at hl
  rw [if_neg h0, pairW, if_pos (by omega)]
  obtain ⟨c1, c2, c3⟩ := factorsX_fine (ha.m n) (hb.m n) (by have := Nat.mul_le_mul_left M h1; omega)
  obtain ⟨k1, k2⟩ := factorsX_pos (a := cf a.1.1.2 n) (b := cf b.1.1.2 n) (by omega) (by omega) c1
  have k3 := factorsX_zero (a := cf a.1.1.2 n) (b := cf b.1.1.2 n) (by omega) (by omega) c1
  rw [if_neg (by rw [c1]; simp)]
  obtain ⟨m1, m2, m3, m4⟩ := mergeS_full ha hb c2 c3 (.inl (by omega)) (.inl (by omega)) hM hB hf
  have := mergeAdd_full (n := n) ha hb c2 c3 k1 (.inl (by omega)) k3 hM hB h hl hf
  refine ⟨this.er, this.all, this.len, this.fuel, fun z hz => ⟨(this.sat z hz).1, fun _ _ => ⟨_, k2, _, k1, k3, ?_⟩⟩⟩
  unfold mergeAdd at hz
  rw [if_neg (not_not_intro m1)] at hz
  exact (m4 z ((addS2_full (by omega)).2 z hz).2).1
end
end Go.Proofs.Ytnddmjhpplopbaa
