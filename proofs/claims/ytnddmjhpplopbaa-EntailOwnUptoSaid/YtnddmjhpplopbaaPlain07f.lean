/- Plain laws: the search ends, and what it answers. -/
import Derived.Test.YtnddmjhpplopbaaPlain07e
import Derived.Lib.SlicesCompact
set_option linter.unusedVariables false
set_option linter.unusedSimpArgs false
namespace Go.Proofs.Ytnddmjhpplopbaa
open Go.Abs Go.RowKit

/-- The names in ascending order, each once. -/
noncomputable def namesU (rows : List Row) : List ByteArray := (Lib.compact (((namesAll rows).map fun s => s.data.toList).mergeSort fun x y => decide (x ≤ y))).map fun b => ⟨b.toArray⟩
noncomputable def chooseS (rows : List Row) : ByteArray × Int × Bool := chooseF rows (namesU rows) (-1) .empty
/-- One variable less. -/
noncomputable def stepS (rows : List Row) (fuel : Int) : Sys :=
 if 0 ≤ (chooseS rows).2.1 then substS (chooseS rows).1 (chooseS rows).2.1.toNat rows fuel else combS2 (chooseS rows).1 rows fuel
/-- The multipliers of the first contradictory row. -/
noncomputable def badRow : List Row → Option (List Int)
 | [] => none
 | r :: l => if conBad r.1 then some r.2 else badRow l
noncomputable def checkS (l : List Con) (b : List Int) : Int :=
 if (tightL l).2 ≠ 0 then (tightL l).2 else if (conCombine (tightL l).1 b).2 ≠ 0 then (conCombine (tightL l).1 b).2 else if conBad (conCombine (tightL l).1 b).1 then 0 else 17
noncomputable def searchN (l : List Con) : Nat → List Row → Int → List Int × Bool × Int
 | 0, _, _ => ([], false, 0)
 |N + 1, rows, fuel => match badRow rows with
  | some b => if checkS l b ≠ 0 then ([], false, checkS l b) else (b, true, 0)
  |none => if (chooseS rows).2.2 = false then ([], false, 0) else
   if (stepS rows fuel).2.2 ≠ 0 then ([], false, (stepS rows fuel).2.2) else searchN l N (stepS rows fuel).1 (stepS rows fuel).2.1
/-- One multiplier 1 of n. -/
def unitB (n k : Nat) : List Int := (List.replicate n 0).set k 1
/-- The first rows. -/
noncomputable def initS (n : Nat) : Nat → List Con → List Row → List Row × Int
 | _, [], rows => (rows, 0)
 | k, c :: r, rows => if (addS2 rows (c, unitB n k)).2 ≠ 0 then ([], (addS2 rows (c, unitB n k)).2) else initS n (k + 1) r (addS2 rows (c, unitB n k)).1
def msr (rows : List Row) (fuel : Int) : Nat := fuel.toNat * 300 + rows.length
noncomputable def infS (l : List Con) (fuel : Int) : List Int × Bool × Int :=
 if (tightL l).2 ≠ 0 then ([], false, (tightL l).2) else if fuel < 0 ∨ 1048576 < fuel then ([], false, 1) else
 if (initS l.length 0 (tightL l).1 []).2 ≠ 0 then ([], false, (initS l.length 0 (tightL l).1 []).2) else
 searchN l (fuel.toNat * 300 + 300) (initS l.length 0 (tightL l).1 []).1 fuel

/-! Names. -/
theorem mem_compactUpTo {α : Type} [Inhabited α] [DecidableEq α] {d : Array α} {x : α} : ∀ {m : Nat}, x ∈ Lib.compactUpTo d m ↔ ∃ j, j < m ∧ d[j]! = x
 | 0 => by simp [Lib.compactUpTo]
 |m + 1 => by
  rw [Lib.compactUpTo_succ, List.mem_append, mem_compactUpTo]
  constructor
  ·rintro (⟨j, h1, h2⟩ | h)
   ·exact ⟨j, by omega, h2⟩
   ·split at h
    ·exact ⟨m, by omega, (List.mem_singleton.1 h).symm⟩
    ·cases h
  ·rintro ⟨j, h1, h2⟩
   by_cases hj : j < m
   ·exact .inl ⟨j, hj, h2⟩
   ·have : j = m := by omega
    subst this
    by_cases hk : Lib.keeps d j = true
    ·rw [if_pos hk]
     exact .inr (List.mem_singleton.2 h2.symm)
    ·have hk' : ¬ (j = 0 ∨ d[j]! ≠ d[j - 1]!) := by simpa [Lib.keeps] using hk
     refine .inl ⟨j - 1, ?_, ?_⟩
     ·have : j ≠ 0 := fun h => hk' (.inl h)
      omega
     ·rw [← h2]
      exact (Classical.not_not.1 fun h => hk' (.inr h)).symm
theorem mem_compact {α : Type} [Inhabited α] [DecidableEq α] {l : List α} {x : α} : x ∈ Lib.compact l ↔ x ∈ l := by
 rw [Lib.compact, mem_compactUpTo]
 constructor
 ·rintro ⟨j, h1, h2⟩
  rw [← h2]
  have : l.toArray[j]! = l[j] := by simp [h1]
  rw [this]
  exact List.getElem_mem _
 ·intro h
  obtain ⟨j, hj, rfl⟩ := List.mem_iff_getElem.1 h
  exact ⟨j, hj, by simp [hj]⟩
theorem mem_namesU {rows : List Row} {n : ByteArray} : n ∈ namesU rows ↔ n ∈ namesAll rows := by
 rw [namesU, List.mem_map]
 constructor
 ·rintro ⟨b, hb, rfl⟩
  rw [mem_compact, List.mem_mergeSort, List.mem_map] at hb
  obtain ⟨s, hs, rfl⟩ := hb
  exact hs
 ·intro h
  exact ⟨n.data.toList, by rw [mem_compact, List.mem_mergeSort]; exact List.mem_map_of_mem h, rfl⟩
theorem mem_namesAll {rows : List Row} {n : ByteArray} : n ∈ namesAll rows ↔ ∃ r ∈ rows, ∃ m ∈ r.1.1.2, m.1 = n := by
 simp [namesAll, List.mem_flatMap, List.mem_map]

theorem eqAt_some {n : ByteArray} : ∀ {l : List Row} {k i : Nat}, eqAt n k l = some i → ∃ h : i - k < l.length, k ≤ i ∧ cf l[i - k].1.1.2 n ≠ 0 ∧ l[i - k].1.2 = true
 | [], k, i, h => by rw [eqAt] at h; cases h
 |r :: l, k, i, h => by
  rw [eqAt] at h
  split at h
  ·rename_i h0
   cases h
   refine ⟨by simp, Nat.le_refl _, ?_⟩
   simp only [Nat.sub_self, List.getElem_cons_zero]
   exact h0
  ·obtain ⟨h1, h2, h3⟩ := eqAt_some h
   have e : i - k = i - (k + 1) + 1 := by omega
   refine ⟨by simp; omega, by omega, ?_⟩
   simp only [e, List.getElem_cons_succ]
   exact h3
theorem eqAt_none {n : ByteArray} : ∀ {l : List Row} {k : Nat}, eqAt n k l = none → ∀ r ∈ l, cf r.1.1.2 n ≠ 0 → r.1.2 = false
 | [], k, h, r, hr, _ => by cases hr
 |r :: l, k, h, z, hz, h0 => by
  rw [eqAt] at h
  split at h
  ·cases h
  ·rename_i hn
   rcases List.mem_cons.1 hz with rfl | hz
   ·simpa using fun h => hn ⟨h0, h⟩
   ·exact eqAt_none h z hz h0
theorem chooseF_spec {rows : List Row} {N : List ByteArray} : ∀ {vs : List ByteArray} {best : Int} {name : ByteArray}, (0 ≤ best → name ∈ N ∧ eqAt name 0 rows = none) → (∀ v ∈ vs, v ∈ N) →
  ((chooseF rows vs best name).2.1 = -1 ∨ 0 ≤ (chooseF rows vs best name).2.1) ∧
  (0 ≤ (chooseF rows vs best name).2.1 → (chooseF rows vs best name).1 ∈ N ∧ eqAt (chooseF rows vs best name).1 0 rows = some (chooseF rows vs best name).2.1.toNat ∧ (chooseF rows vs best name).2.2 = true) ∧
  ((chooseF rows vs best name).2.1 = -1 → (chooseF rows vs best name).2.2 = true → (chooseF rows vs best name).1 ∈ N ∧ eqAt (chooseF rows vs best name).1 0 rows = none) ∧
  ((chooseF rows vs best name).2.2 = false → vs = [] ∧ best < 0)
 |[], best, name, hb, hv => by
  rw [chooseF]
  refine ⟨.inl rfl, fun h => (by simp at h), fun _ h => hb (of_decide_eq_true h), fun h => ⟨rfl, by have := of_decide_eq_false h; omega⟩⟩
 |v :: vs, best, name, hb, hv => by
  rw [chooseF]
  cases he : eqAt v 0 rows with
  | some k =>
   simp only
   exact ⟨.inr (by omega), fun _ => ⟨hv v List.mem_cons_self, by rw [he]; simp, trivial⟩, fun h => (by omega), fun h => (by cases h)⟩
  | none =>
   simp only
   split
   ·obtain ⟨h1, h2, h3, h4⟩ := chooseF_spec (rows := rows) (N := N) (vs := vs) (best := ((lows v rows * ups v rows : Nat) : Int)) (name := v) (fun _ => ⟨hv v List.mem_cons_self, he⟩) fun z hz => hv z (List.mem_cons_of_mem _ hz)
    exact ⟨h1, h2, h3, fun h => by have := (h4 h).2; omega⟩
   ·rename_i hn
    obtain ⟨h1, h2, h3, h4⟩ := chooseF_spec (rows := rows) (N := N) (vs := vs) (best := best) (name := name) hb fun z hz => hv z (List.mem_cons_of_mem _ hz)
    exact ⟨h1, h2, h3, fun h => absurd (.inl (h4 h).2) hn⟩

/-! Steps. -/
def Er (e : Int) : Prop := e = 0 ∨ e = 2 ∨ e = 3 ∨ e = 14
/-- What a step does to rows of the kind P: w rows more at most, unless fuel is spent. -/
structure StepOk (P : Row → Prop) (w : Nat) (acc : List Row) (fuel : Int) (s : Sys) : Prop where
 len : s.1.length ≤ 256
 all : ∀ r ∈ s.1, P r
 le : s.2.1 ≤ fuel
 more : s.2.1 = fuel → s.2.2 = 0 → s.1.length ≤ acc.length + w
 er : Er s.2.2
 pos : s.2.2 = 0 → 0 ≤ fuel → 0 ≤ s.2.1
theorem runF_ok {α : Type} {step : α → List Row → Int → Sys} {P : Row → Prop} {w : α → Nat} : ∀ {l : List α}, (∀ x ∈ l, ∀ acc fuel, (∀ r ∈ acc, P r) → acc.length ≤ 256 → StepOk P (w x) acc fuel (step x acc fuel)) →
  ∀ acc fuel, (∀ r ∈ acc, P r) → acc.length ≤ 256 → StepOk P (l.map w).sum acc fuel (runF step l acc fuel)
 | [], _, acc, fuel, ha, hl => ⟨hl, ha, Int.le_refl _, fun _ _ => by simp [runF], .inl rfl, fun _ h => h⟩
 |x :: l, hs, acc, fuel, ha, hl => by
  have h1 := hs x List.mem_cons_self acc fuel ha hl
  rw [runF]
  split
  ·rename_i he
   exact ⟨h1.len, h1.all, h1.le, fun _ h => absurd h he, h1.er, fun h => absurd h he⟩
  ·rename_i he
   have he := Classical.not_not.1 he
   have h2 := runF_ok (fun y hy => hs y (List.mem_cons_of_mem _ hy)) (step x acc fuel).1 (step x acc fuel).2.1 h1.all h1.len
   refine ⟨h2.len, h2.all, Int.le_trans h2.le h1.le, fun e e0 => ?_, h2.er, fun e e0 => h2.pos e (h1.pos he e0)⟩
   have a1 := h1.le
   have a2 := h2.le
   have a3 := h1.more (by omega) he
   have a4 := h2.more (by omega) e0
   simp only [List.map_cons, List.sum_cons]
   omega
theorem mergeAdd_ok {T : List Con} {a b : Row} {x y : Int} (ha : RowT T a) (hb : RowT T b) (hx : 0 ≤ x ∨ a.1.2 = true) (hy : 0 ≤ y ∨ b.1.2 = true) {acc : List Row} {fuel : Int} (h : ∀ r ∈ acc, RowT T r) (hl : acc.length ≤ 256) :
  StepOk (RowT T) 0 acc fuel (mergeAdd a b x y acc fuel) := by
 unfold mergeAdd
 split
 ·rename_i h0
  have := mergeS_err (fuel := fuel) ha hb hx hy
  refine ⟨hl, h, by simp only; omega, fun e => (by simp only at e; omega), ?_, fun e => absurd e h0⟩
  rcases this with h | h | h
  ·exact absurd h h0
  ·exact .inr (.inr (.inr h))
  ·exact .inr (.inr (.inl h))
 ·rename_i h0
  have h0 := Classical.not_not.1 h0
  obtain ⟨g1, g2, g3, g4⟩ := addS2_spec (d := (mergeS fuel a b x y).1) hl
  refine ⟨g1, fun r hr => ?_, by simp only; omega, fun e => (by simp only at e; omega), ?_, fun _ hf => ?_⟩
  ·rcases g3 r hr with rfl | h'
   ·exact ha.merge hb h0
   ·exact h r h'
  ·rcases g4 with h | h
   ·exact .inl h
   ·exact .inr (.inl h)
  ·have : ¬ fuel ≤ 0 := fun hc => by
    rw [mergeS, if_pos hc] at h0
    cases h0
   simp only
   omega
theorem add_ok {T : List Con} {d : Row} (hd : RowT T d) {acc : List Row} {fuel : Int} (h : ∀ r ∈ acc, RowT T r) (hl : acc.length ≤ 256) : StepOk (RowT T) 1 acc fuel ((addS2 acc d).1, fuel, (addS2 acc d).2) := by
 obtain ⟨g1, g2, g3, g4⟩ := addS2_spec (d := d) hl
 exact ⟨g1, fun r hr => (g3 r hr).elim (fun e => e ▸ hd) (h r), Int.le_refl _, fun _ _ => g2, g4.elim .inl fun h => .inr (.inl h), fun _ h => h⟩
theorem same_ok {T : List Con} {acc : List Row} {fuel : Int} {w : Nat} (h : ∀ r ∈ acc, RowT T r) (hl : acc.length ≤ 256) : StepOk (RowT T) w acc fuel (acc, fuel, 0) := ⟨hl, h, Int.le_refl _, fun _ _ => by simp only; omega, .inl rfl, fun _ h => h⟩
theorem err_ok {T : List Con} {acc : List Row} {fuel : Int} {w : Nat} {e : Int} (he : Er e) (h0 : e ≠ 0) (h : ∀ r ∈ acc, RowT T r) (hl : acc.length ≤ 256) : StepOk (RowT T) w acc fuel (acc, fuel, e) := ⟨hl, h, Int.le_refl _, fun _ e => absurd e h0, he, fun e => absurd e h0⟩
theorem sgnE_pos (n : Nat) : 0 ≤ (sgnE n false).1 := by
 unfold sgnE
 split
 ·exact Int.le_refl _
 ·simp
theorem stepE_ok {T : List Con} {n : ByteArray} {q : Row} {e : Nat} (hq : RowT T q) (hqe : q.1.2 = true) {r : Nat × Row} (hr : RowT T r.2) (acc : List Row) (fuel : Int) (h : ∀ r ∈ acc, RowT T r) (hl : acc.length ≤ 256) :
  StepOk (RowT T) (if r.1 = e then 0 else 1) acc fuel (stepE n q e r acc fuel) := by
 unfold stepE
 split
 ·exact same_ok h hl
 ·split
  ·exact add_ok hr h hl
  ·split
   ·exact err_ok (.inr (.inr (.inl rfl))) (by decide) h hl
   ·have := mergeAdd_ok (fuel := fuel) hr hq (.inl (sgnE_pos _)) (.inr hqe) (x := (cancelX (cf q.1.1.2 n) (cf r.2.1.1.2 n)).1) (y := (cancelX (cf q.1.1.2 n) (cf r.2.1.1.2 n)).2.1) h hl
    exact ⟨this.len, this.all, this.le, fun a b => Nat.le_trans (this.more a b) (by omega), this.er, this.pos⟩
theorem stepR_ok {T : List Con} {n : ByteArray} {r : Row} (hr : RowT T r) (acc : List Row) (fuel : Int) (h : ∀ r ∈ acc, RowT T r) (hl : acc.length ≤ 256) : StepOk (RowT T) (if cf r.1.1.2 n = 0 then 1 else 0) acc fuel (stepR n r acc fuel) := by
 unfold stepR
 split
 ·exact add_ok hr h hl
 ·exact same_ok h hl
theorem stepP_ok {T : List Con} {n : ByteArray} {a b : Row} (ha : RowT T a) (hb : RowT T b) (acc : List Row) (fuel : Int) (h : ∀ r ∈ acc, RowT T r) (hl : acc.length ≤ 256) : StepOk (RowT T) 0 acc fuel (stepP n a b acc fuel) := by
 unfold stepP
 split
 ·exact same_ok h hl
 ·split
  ·exact err_ok (.inr (.inr (.inl rfl))) (by decide) h hl
  ·exact mergeAdd_ok ha hb (.inl (sgnE_pos _)) (.inl (sgnE_pos _)) h hl
theorem numF_mem {α : Type} : ∀ {l : List α} {k : Nat} {x : Nat × α}, x ∈ numF k l → x.2 ∈ l
 | [], k, x, h => by cases h
 |y :: l, k, x, h => by
  rcases List.mem_cons.1 h with rfl | h
  ·exact List.mem_cons_self
  ·exact List.mem_cons_of_mem _ (numF_mem h)
theorem numF_sum {α : Type} {e : Nat} : ∀ {l : List α} {k : Nat}, ((numF k l).map fun x => if x.1 = e then 0 else 1).sum ≤ l.length ∧ (k ≤ e → e < k + l.length → ((numF k l).map fun x => if x.1 = e then 0 else 1).sum < l.length)
 | [], k => by simp [numF]
 |y :: l, k => by
  obtain ⟨h1, h2⟩ := numF_sum (e := e) (l := l) (k := k + 1)
  simp only [numF, List.map_cons, List.sum_cons, List.length_cons]
  by_cases hk : k = e
  ·rw [if_pos hk]
   exact ⟨by omega, fun _ _ => by omega⟩
  ·rw [if_neg hk]
   exact ⟨by omega, fun a b => by have := h2 (by omega) (by omega); omega⟩
theorem rest_sum {n : ByteArray} : ∀ {l : List Row}, (l.map fun r => if cf r.1.1.2 n = 0 then 1 else 0).sum ≤ l.length ∧ ((∃ r ∈ l, cf r.1.1.2 n ≠ 0) → (l.map fun r => if cf r.1.1.2 n = 0 then 1 else 0).sum < l.length)
 | [] => by simp
 |r :: l => by
  obtain ⟨h1, h2⟩ := rest_sum (n := n) (l := l)
  simp only [List.map_cons, List.sum_cons, List.length_cons]
  by_cases hk : cf r.1.1.2 n = 0
  ·rw [if_pos hk]
   refine ⟨by omega, fun ⟨z, hz, h0⟩ => ?_⟩
   rcases List.mem_cons.1 hz with rfl | hz
   ·exact absurd hk h0
   ·have := h2 ⟨z, hz, h0⟩
    omega
  ·rw [if_neg hk]
   exact ⟨by omega, fun _ => by omega⟩
theorem sum_zero {α : Type} : ∀ {l : List α}, (l.map fun _ => 0).sum = 0
 | [] => rfl
 | _ :: l => by rw [List.map_cons, List.sum_cons, sum_zero]
theorem substS_ok {T : List Con} {n : ByteArray} {e : Nat} {rows : List Row} {fuel : Int} (h : ∀ r ∈ rows, RowT T r) (he : e < rows.length) (hq : rows[e].1.2 = true) :
  StepOk (RowT T) (rows.length - 1) [] fuel (substS n e rows fuel) := by
 have hg : rows.getD e rowZ = rows[e] := by simp [List.getD_eq_getElem?_getD, he]
 have h1 := runF_ok (step := stepE n (rows.getD e rowZ) e) (P := RowT T) (w := fun x => if x.1 = e then 0 else 1) (l := numF 0 rows) (fun x hx acc f ha hl => by
  rw [hg]
  exact stepE_ok (h _ (List.getElem_mem he)) hq (h _ (numF_mem hx)) acc f ha hl) [] fuel (by simp) (by simp)
 have h2 := (numF_sum (e := e) (l := rows) (k := 0)).2 (by omega) (by omega)
 exact ⟨h1.len, h1.all, h1.le, fun a b => by have := h1.more a b; simp only [List.length_nil] at this ⊢; exact Nat.le_trans this (by omega), h1.er, h1.pos⟩
theorem combS2_ok {T : List Con} {n : ByteArray} {rows : List Row} {fuel : Int} (h : ∀ r ∈ rows, RowT T r) (he : ∃ r ∈ rows, cf r.1.1.2 n ≠ 0) : StepOk (RowT T) (rows.length - 1) [] fuel (combS2 n rows fuel) := by
 have h1 := runF_ok (step := stepR n) (P := RowT T) (w := fun r => if cf r.1.1.2 n = 0 then 1 else 0) (l := rows) (fun x hx acc f ha hl => stepR_ok (h x hx) acc f ha hl) [] fuel (by simp) (by simp)
 have h2 := (rest_sum (n := n) (l := rows)).2 he
 unfold combS2
 split
 ·rename_i h0
  exact ⟨h1.len, h1.all, h1.le, fun a b => absurd b h0, h1.er, fun b => absurd b h0⟩
 ·rename_i h0
  have h0 := Classical.not_not.1 h0
  have h3 := runF_ok (step := fun a => runF (stepP n a) rows) (P := RowT T) (w := fun _ => 0) (l := rows) (fun a ha acc f hacc hl => by
   have := runF_ok (step := stepP n a) (P := RowT T) (w := fun _ => 0) (l := rows) (fun b hb acc f hacc hl => stepP_ok (h a ha) (h b hb) acc f hacc hl) acc f hacc hl
   refine ⟨this.len, this.all, this.le, fun a b => ?_, this.er, this.pos⟩
   have := this.more a b
   rw [sum_zero] at this
   exact this) (runF (stepR n) rows [] fuel).1 (runF (stepR n) rows [] fuel).2.1 h1.all h1.len
  refine ⟨h3.len, h3.all, Int.le_trans h3.le h1.le, fun a b => ?_, h3.er, fun a b => h3.pos a (h1.pos h0 b)⟩
  have a1 := h1.le
  have a2 := h3.le
  have a3 := h1.more (by omega) h0
  have a4 := h3.more (by omega) b
  rw [sum_zero] at a4
  simp only [List.length_nil, Nat.zero_add, Nat.add_zero] at a3 a4 ⊢
  omega
theorem stepS_ok {T : List Con} {rows : List Row} {fuel : Int} (h : ∀ r ∈ rows, RowT T r) (hc : (chooseS rows).2.2 = true) : StepOk (RowT T) (rows.length - 1) [] fuel (stepS rows fuel) ∧ rows ≠ [] := by
 obtain ⟨g1, g2, g3, g4⟩ := chooseF_spec (rows := rows) (N := namesU rows) (vs := namesU rows) (best := -1) (name := .empty) (fun h => (by omega)) (fun v hv => hv)
 unfold stepS
 split
 ·rename_i h0
  obtain ⟨k1, k2, k3⟩ := g2 h0
  obtain ⟨m1, m2, m3, m4⟩ := eqAt_some k2
  simp only [Nat.sub_zero] at m1 m4
  exact ⟨substS_ok h m1 m4, fun e => by subst e; simp at m1⟩
 ·rename_i h0
  have h1 : (chooseS rows).2.1 = -1 := g1.resolve_right h0
  obtain ⟨k1, k2⟩ := g3 h1 hc
  obtain ⟨r, hr, m, hm, hn⟩ := mem_namesAll.1 (mem_namesU.1 k1)
  obtain ⟨s1, s2⟩ := linOk_iff.1 (h r hr).lin
  refine ⟨combS2_ok h ⟨r, hr, ?_⟩, fun e => by subst e; cases hr⟩
  show cf r.1.1.2 (chooseF rows (namesU rows) (-1) .empty).1 ≠ 0
  rw [← hn, cf_mem s1 hm]
  exact (s2 m hm).2
/-- A step makes the measure smaller. -/
theorem stepS_msr {T : List Con} {rows : List Row} {fuel : Int} (h : ∀ r ∈ rows, RowT T r) (hl : rows.length ≤ 256) (hf : 0 ≤ fuel) (hc : (chooseS rows).2.2 = true) (he : (stepS rows fuel).2.2 = 0) : msr (stepS rows fuel).1 (stepS rows fuel).2.1 < msr rows fuel := by
 obtain ⟨h1, h2⟩ := stepS_ok (fuel := fuel) h hc
 have a1 := h1.le
 have a2 := h1.len
 have a3 := h1.pos he hf
 have a4 : 0 < rows.length := List.length_pos_iff.2 h2
 unfold msr
 by_cases e : (stepS rows fuel).2.1 = fuel
 ·have := h1.more e he
  simp at this
  rw [e]
  omega
 ·omega
/-- A contradictory row shows itself. -/
theorem check_err {l : List Con} {r : Row} (h0 : (tightL l).2 = 0) (h : RowT (tightL l).1 r) (hb : conBad r.1) : checkS l r.2 = 0 ∨ checkS l r.2 = 3 := by
 unfold checkS
 rw [if_neg (by rw [h0]; simp)]
 rcases conCombine_err h.len.symm h.ok with he | he
 ·rw [if_neg (by rw [he]; simp)]
  have hc : conCombine (tightL l).1 r.2 = ((conCombine (tightL l).1 r.2).1, 0) := Prod.ext rfl he
  generalize (conCombine (tightL l).1 r.2).1 = c at *
  obtain ⟨g1, g2, g3, g4, g5, g6⟩ := conCombine_spec hc
  rw [if_pos]
  ·exact .inl rfl
  ·obtain ⟨b1, b2⟩ := hb
   refine ⟨?_, ?_⟩
   ·cases hcl : c.1.2 with
    | nil => rfl
    | cons m z =>
     obtain ⟨s1, s2⟩ := linOk_iff.1 g3
     have hm : m ∈ c.1.2 := by rw [hcl]; exact List.mem_cons_self
     have := cf_mem s1 hm
     rw [g5, ← h.c, b1] at this
     exact absurd this.symm (s2 m hm).2
   ·rw [g4, ← h.k, g6]
    rcases b2 with b2 | ⟨b2, b3⟩
    ·exact .inl b2
    ·exact .inr ⟨h.q b2, b3⟩
 ·rw [he, if_pos (by simp)]
  exact .inr rfl
theorem badRow_spec : ∀ {rows : List Row} {b : List Int}, badRow rows = some b → ∃ r ∈ rows, conBad r.1 ∧ r.2 = b
 | [], b, h => by rw [badRow] at h; cases h
 |r :: rows, b, h => by
  rw [badRow] at h
  split at h
  ·rename_i h0
   cases h
   exact ⟨r, List.mem_cons_self, h0, rfl⟩
  ·obtain ⟨z, hz, h1⟩ := badRow_spec h
   exact ⟨z, List.mem_cons_of_mem _ hz, h1⟩
def ErF (e : Int) : Prop := e = 2 ∨ e = 3 ∨ e = 14
theorem searchN_law {l : List Con} (h0 : (tightL l).2 = 0) : ∀ {N : Nat} {rows : List Row} {fuel : Int}, (∀ r ∈ rows, RowT (tightL l).1 r) → rows.length ≤ 256 → 0 ≤ fuel →
  ((searchN l N rows fuel).2.2 ≠ 0 → ErF (searchN l N rows fuel).2.2 ∧ (searchN l N rows fuel).1 = [] ∧ (searchN l N rows fuel).2.1 = false) ∧
  ((searchN l N rows fuel).2.1 = true → checkS l (searchN l N rows fuel).1 = 0) ∧ ((searchN l N rows fuel).2.1 = false → (searchN l N rows fuel).1 = [])
 | 0, rows, fuel, _, _, _ => by rw [searchN]; exact ⟨fun h => absurd rfl h, fun h => (by cases h), fun _ => rfl⟩
 |N + 1, rows, fuel, h, hl, hf => by
  rw [searchN]
  cases hb : badRow rows with
  | some b =>
   obtain ⟨r, hr, h1, rfl⟩ := badRow_spec hb
   simp only
   rcases check_err h0 (h r hr) h1 with he | he
   ·rw [if_neg (by rw [he]; simp)]
    exact ⟨fun h => absurd rfl h, fun _ => he, fun h => (by cases h)⟩
   ·rw [if_pos (by rw [he]; decide)]
    exact ⟨fun _ => ⟨by rw [he]; exact .inr (.inl rfl), rfl, rfl⟩, fun h => (by cases h), fun _ => rfl⟩
  | none =>
   simp only
   split
   ·exact ⟨fun h => absurd rfl h, fun h => (by cases h), fun _ => rfl⟩
   ·rename_i hc
    have hc : (chooseS rows).2.2 = true := by simpa using hc
    obtain ⟨h1, h2⟩ := stepS_ok (fuel := fuel) h hc
    split
    ·rename_i he
     refine ⟨fun _ => ⟨?_, rfl, rfl⟩, fun h => (by cases h), fun _ => rfl⟩
     exact h1.er.resolve_left he
    ·rename_i he
     exact searchN_law h0 h1.all h1.len (h1.pos (Classical.not_not.1 he) hf)
end Go.Proofs.Ytnddmjhpplopbaa
