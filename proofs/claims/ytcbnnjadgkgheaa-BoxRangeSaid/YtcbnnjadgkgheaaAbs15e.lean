/- The abstract machine: regions that draw their order. Part 2: whatever the order. -/
import Derived.Test.YtcbnnjadgkgheaaAbs15d
set_option linter.unusedVariables false
set_option linter.unusedSimpArgs false
namespace Go.Abs
open Go.RowKit

theorem size_put (a : Act) (d : Option Nat) (v : Value) : (a.put d v).tmps.size = a.tmps.size := by
  cases d <;> simp [Act.put]
theorem get_of_getD {a : Act} {t : Nat} {v : Value} (h : a.tmps.getD t undef = v) (hv : v ≠ undef) : a.tmps[t]? = some v := by
  simp only [Array.getD_eq_getD_getElem?] at h
  cases e : a.tmps[t]? with
  | none => rw [e] at h; exact absurd h.symm hv
  | some u => rw [e] at h; simp at h; rw [h]

def gdst (gs : List AG) (k : Nat) : Option Nat := (gs[k]?).bind (·.dst)
def geff (gs : List AG) (k : Nat) : Bool := match gs[k]? with | some g => g.op.eff | none => false
/-- The frame, where what S names has been done. -/
def frOf (gs : List AG) (v : Nat → AV) (fr0 : List (Nat × AV)) (S : Nat → Bool) : Nat → List (Nat × AV)
  | 0 => fr0
  | k + 1 => if S k = true then (match gdst gs k with | some d => (d, v k) :: frOf gs v fr0 S k | none => frOf gs v fr0 S k) else frOf gs v fr0 S k
/-- The memory, where what S names has been done. -/
def memOf (gs : List AG) (s : Nat → St) (S : Nat → Bool) : Nat → List (Nat × Box) × Nat
  | 0 => ((s 0).mem, (s 0).nx)
  | k + 1 => if S k = true ∧ geff gs k = true then ((s (k + 1)).mem, (s (k + 1)).nx) else memOf gs s S k

section
variable {P : Program} {gs : List AG} {v : Nat → AV} {s : Nat → St}

theorem put_fr {σ : St} {d : Option Nat} {x : AV} {t : Nat} : look (σ.put d x).fr t = if d = some t then x else look σ.fr t := by
  cases d with
  | none => simp [St.put]
  | some d =>
    show (if d = t then x else look σ.fr t) = _
    by_cases e : d = t <;> simp [e]
theorem put_mem {σ : St} {d : Option Nat} {x : AV} : (σ.put d x).mem = σ.mem ∧ (σ.put d x).nx = σ.nx := by cases d <;> exact ⟨rfl, rfl⟩

theorem step_fr {g : AG} {σ σ' : St} {x : AV} (h : StepG P g σ x σ') (t : Nat) : look σ'.fr t = if g.dst = some t then x else look σ.fr t := by
  rcases h with ⟨_, τ, h1, rfl⟩ | ⟨_, _, _, _, rfl, rfl⟩
  · rw [put_fr, (opW_keep h1).1]
  · rw [put_fr]
theorem step_mem {g : AG} {σ σ' : St} {x : AV} (h : StepG P g σ x σ') (he : g.op.eff = false) : σ'.mem = σ.mem ∧ σ'.nx = σ.nx := by
  rcases h with ⟨_, τ, h1, rfl⟩ | ⟨_, _, _, _, rfl, rfl⟩
  · rw [put_mem.1, put_mem.2, (opW_keep h1).2.2 he]
    exact ⟨rfl, rfl⟩
  · exact put_mem

theorem put_base {σ : St} {d : Option Nat} {x : AV} : (σ.put d x).base = σ.base := by cases d <;> rfl
theorem step_base {g : AG} {σ σ' : St} {x : AV} (h : StepG P g σ x σ') : σ'.base = σ.base := by
  rcases h with ⟨_, τ, h1, rfl⟩ | ⟨_, _, _, _, rfl, rfl⟩
  · rw [put_base, (opW_keep h1).2.1]
  · exact put_base
theorem chain_base (hch : ∀ k g, gs[k]? = some g → StepG P g (s k) (v k) (s (k + 1))) : ∀ {i : Nat}, i ≤ gs.length → (s i).base = (s 0).base
  | 0, _ => rfl
  | i + 1, h => (step_base (hch i _ (List.getElem?_eq_getElem (show i < gs.length by omega)))).trans (chain_base hch (by omega))
theorem frOf_look (hch : ∀ k g, gs[k]? = some g → StepG P g (s k) (v k) (s (k + 1))) {S : Nat → Bool} {t i : Nat} : ∀ {n : Nat}, n ≤ gs.length → i ≤ n → (∀ k, k < n → gdst gs k = some t → (S k = true ↔ k < i)) → look (frOf gs v (s 0).fr S n) t = look (s i).fr t
  | 0, _, hi, _ => by
    obtain rfl : i = 0 := by omega
    rfl
  | n + 1, hn, hi, h => by
    have hg := List.getElem?_eq_getElem (show n < gs.length by omega)
    by_cases e : i = n + 1
    · subst e
      have ih := frOf_look hch (S := S) (t := t) (i := n) (n := n) (by omega) (Nat.le_refl _) (fun k hk hd => ⟨fun _ => hk, fun _ => (h k (by omega) hd).2 (by omega)⟩)
      rw [step_fr (hch n _ hg) t]
      simp only [frOf]
      by_cases hd : gdst gs n = some t
      · rw [if_pos ((h n (by omega) hd).2 (by omega)), hd]
        have hd' : gs[n].dst = some t := by simpa [gdst, hg] using hd
        rw [if_pos hd', look_put, if_pos rfl]
      · have hd' : ¬ gs[n].dst = some t := by simpa [gdst, hg] using hd
        rw [if_neg hd']
        split
        · split
          · rename_i d hd2
            rw [look_put, if_neg (fun e => hd (by rw [hd2, e]))]
            exact ih
          · exact ih
        · exact ih
    · have ih := frOf_look hch (S := S) (t := t) (i := i) (n := n) (by omega) (by omega) (fun k hk hd => h k (by omega) hd)
      simp only [frOf]
      by_cases hd : gdst gs n = some t
      · rw [if_neg (fun hs => by have := (h n (by omega) hd).1 hs; omega)]
        exact ih
      · split
        · split
          · rename_i d hd2
            rw [look_put, if_neg (fun e => hd (by rw [hd2, e]))]
            exact ih
          · exact ih
        · exact ih

theorem memOf_eq (hch : ∀ k g, gs[k]? = some g → StepG P g (s k) (v k) (s (k + 1))) {S : Nat → Bool} {i : Nat} : ∀ {n : Nat}, n ≤ gs.length → i ≤ n → (∀ k, k < n → geff gs k = true → (S k = true ↔ k < i)) → memOf gs s S n = ((s i).mem, (s i).nx)
  | 0, _, hi, _ => by
    obtain rfl : i = 0 := by omega
    rfl
  | n + 1, hn, hi, h => by
    have hg := List.getElem?_eq_getElem (show n < gs.length by omega)
    by_cases e : i = n + 1
    · subst e
      have ih := memOf_eq hch (S := S) (i := n) (n := n) (by omega) (Nat.le_refl _) (fun k hk hd => ⟨fun _ => hk, fun _ => (h k (by omega) hd).2 (by omega)⟩)
      simp only [memOf]
      by_cases he : geff gs n = true
      · rw [if_pos ⟨(h n (by omega) he).2 (by omega), he⟩]
      · rw [if_neg (fun hh => he hh.2), ih]
        have he' : gs[n].op.eff = false := by simpa [geff, hg] using he
        have := step_mem (hch n _ hg) he'
        rw [this.1, this.2]
    · have ih := memOf_eq hch (S := S) (i := i) (n := n) (by omega) (by omega) (fun k hk hd => h k (by omega) hd)
      simp only [memOf]
      rw [if_neg (fun hh => by have := (h n (by omega) hh.2).1 hh.1; omega)]
      exact ih

/-- One more has been done. -/
def addS (S : Nat → Bool) (i : Nat) : Nat → Bool := fun k => if k = i then true else S k
theorem frOf_add {S : Nat → Bool} {i t : Nat} {fr0 : List (Nat × AV)} (hi : S i = false) : ∀ {n : Nat}, i < n → (gdst gs i = some t → ∀ k, i < k → gdst gs k = some t → S k = false) → look (frOf gs v fr0 (addS S i) n) t = if gdst gs i = some t then v i else look (frOf gs v fr0 S n) t
  | 0, hn, _ => by omega
  | n + 1, hn, h => by
    have same : ∀ {m : Nat}, m ≤ i → frOf gs v fr0 (addS S i) m = frOf gs v fr0 S m := by
      intro m
      induction m with
      | zero => intro _; rfl
      | succ m ih =>
        intro hm
        simp only [frOf]
        rw [ih (by omega)]
        have : addS S i m = S m := if_neg (by omega)
        rw [this]
    by_cases e : i = n
    · subst e
      simp only [frOf]
      rw [if_pos (show addS S i i = true from if_pos rfl), hi, if_neg (show ¬ false = true from fun e => by cases e), same (Nat.le_refl _)]
      cases hd : gdst gs i with
      | none => simp
      | some d =>
        show look ((d, v i) :: frOf gs v fr0 S i) t = if some d = some t then v i else look (frOf gs v fr0 S i) t
        rw [look_put]
        by_cases e : d = t <;> simp [e]
    · have ih := frOf_add (fr0 := fr0) (t := t) hi (n := n) (by omega) h
      have hn' : addS S i n = S n := if_neg (by omega)
      simp only [frOf]
      rw [hn']
      by_cases hs : S n = true
      · rw [if_pos hs, if_pos hs]
        split
        · rename_i d hd
          rw [look_put, look_put]
          by_cases e2 : d = t
          · subst e2
            rw [if_pos rfl, if_pos rfl]
            by_cases e3 : gdst gs i = some d
            · have := h e3 n (by omega) hd
              rw [hs] at this
              cases this
            · rw [if_neg e3]
          · rw [if_neg e2, if_neg e2]
            exact ih
        · exact ih
      · rw [if_neg hs, if_neg hs]
        exact ih
theorem memOf_add {S : Nat → Bool} {i : Nat} (hi : S i = false) : ∀ {n : Nat}, i < n → (geff gs i = true → ∀ k, i < k → geff gs k = true → S k = false) → memOf gs s (addS S i) n = if geff gs i = true then ((s (i + 1)).mem, (s (i + 1)).nx) else memOf gs s S n
  | 0, hn, _ => by omega
  | n + 1, hn, h => by
    have same : ∀ {m : Nat}, m ≤ i → memOf gs s (addS S i) m = memOf gs s S m := by
      intro m
      induction m with
      | zero => intro _; rfl
      | succ m ih =>
        intro hm
        simp only [memOf]
        rw [ih (by omega)]
        have : addS S i m = S m := if_neg (by omega)
        rw [this]
    by_cases e : i = n
    · subst e
      simp only [memOf]
      have h1 : addS S i i = true := if_pos rfl
      rw [same (Nat.le_refl _)]
      by_cases he : geff gs i = true
      · rw [if_pos ⟨h1, he⟩, if_pos he]
      · rw [if_neg (fun hh => he hh.2), if_neg he, if_neg (fun hh => he hh.2)]
    · have ih := memOf_add hi (n := n) (by omega) h
      have hn' : addS S i n = S n := if_neg (by omega)
      simp only [memOf]
      rw [hn']
      by_cases hs : S n = true ∧ geff gs n = true
      · rw [if_pos hs, if_pos hs]
        by_cases he : geff gs i = true
        · have := h he n (by omega) hs.2
          rw [hs.1] at this
          cases this
        · rw [if_neg he]
      · rw [if_neg hs, if_neg hs]
        exact ih
end

theorem Sim.fr {w0 : World} {U : Gh} {σ : St} {ι : Pl} {a : Act} {w : World} (hs : Sim w0 U σ ι a w) {fr : List (Nat × AV)} (h : ∀ t, look fr t = look σ.fr t) : Sim w0 U ⟨fr, σ.mem, σ.nx, σ.base⟩ ι a w :=
  ⟨fun t => by have := hs.val t; rw [← h t] at this; exact this, hs.defers, hs.names, hs.box, hs.apart, hs.below, hs.keep, hs.base⟩
end Go.Abs
