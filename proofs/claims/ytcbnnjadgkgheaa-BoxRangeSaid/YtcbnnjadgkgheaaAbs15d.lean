/- The abstract machine: regions that draw their order. Part 1: chains, orders. -/
import Derived.Test.YtcbnnjadgkgheaaAbs15c
set_option linter.unusedVariables false
set_option linter.unusedSimpArgs false
namespace Go.Abs
open Go.RowKit

theorem opW_keep {P : Program} {op : AOp} {σ : St} {v : AV} {τ : St} (h : opW P op σ fun v' τ' => v' = v ∧ τ' = τ) : τ.fr = σ.fr ∧ τ.base = σ.base ∧ (op.eff = false → τ = σ) := by
  by_cases he : op.eff = true
  · obtain ⟨fr, mem, nx, b⟩ := σ
    have h2 := opW_eff (fr2 := fr) (K2 := fun v' τ' => (v' = v ∧ τ' = τ) ∧ τ'.fr = fr ∧ τ'.base = b) he (fun _ _ => rfl) (fun v m n hk => ⟨hk, rfl, rfl⟩) h
    obtain ⟨v2, s2, _, ⟨_, h4⟩, h5⟩ := opW_det _ h2
    rw [← h4]; exact ⟨h5.1, h5.2, fun e => by rw [he] at e; cases e⟩
  · have he' : op.eff = false := by simpa using he
    have h2 := opW_ins (s2 := σ) he' (fun _ => rfl) (fun _ _ => rfl) (fun v' τ' => v' = v ∧ τ' = τ) (fun v' τ' => (v' = v ∧ τ' = τ) ∧ τ' = σ) (fun v' hk => ⟨hk, rfl⟩) h
    obtain ⟨v2, s2, _, ⟨_, h4⟩, h5⟩ := opW_det _ h2
    subst h4
    subst h5
    exact ⟨rfl, rfl, fun _ => rfl⟩

/-- One step of a region. -/
def StepG (P : Program) (g : AG) (σ : St) (v : AV) (σ' : St) : Prop :=
  ((g.guard = none ∨ ∃ t want, g.guard = some (t, want) ∧ look σ.fr t = .c (.pure (.val (.bool want)))) ∧ ∃ τ, (opW P g.op σ fun v' τ' => v' = v ∧ τ' = τ) ∧ σ' = τ.put g.dst v) ∨
  (∃ t want, g.guard = some (t, want) ∧ (look σ.fr t = .tup [] ∨ look σ.fr t = .c (.pure (.val (.bool (!want))))) ∧ v = .tup [] ∧ σ' = σ.put g.dst (.tup []))

theorem opsW_chain {P : Program} {K : St → Prop} : ∀ {gs : List AG} {σ : St}, opsW P gs σ K → ∃ (v : Nat → AV) (s : Nat → St), s 0 = σ ∧ (∀ k g, gs[k]? = some g → StepG P g (s k) (v k) (s (k + 1))) ∧ K (s gs.length)
  | [], σ, h => ⟨fun _ => .top, fun _ => σ, rfl, (fun k g hk => by simp at hk), h⟩
  | g :: gs, σ, h => by
    have one : ∃ v σ', StepG P g σ v σ' ∧ opsW P gs σ' K := by
      have run : (g.guard = none ∨ ∃ t want, g.guard = some (t, want) ∧ look σ.fr t = .c (.pure (.val (.bool want)))) → (opW P g.op σ fun v σ' => opsW P gs (σ'.put g.dst v) K) → ∃ v σ', StepG P g σ v σ' ∧ opsW P gs σ' K := by
        intro hg h
        obtain ⟨v, τ, h1, h2⟩ := opW_det _ h
        exact ⟨v, _, .inl ⟨hg, τ, h1, rfl⟩, h2⟩
      simp only [opsW] at h
      split at h
      · rename_i hg
        exact run (.inl hg) h
      · rename_i t want hg
        split at h
        · rename_i b hb
          by_cases e : b = want
          · subst e
            exact run (.inr ⟨t, b, hg, hb⟩) (h.1 (by simp))
          · refine ⟨.tup [], _, .inr ⟨t, want, hg, .inr ?_, rfl, rfl⟩, h.2 (by simp [e])⟩
            rw [hb]
            cases b <;> cases want <;> simp_all
        · rename_i hb
          exact ⟨.tup [], _, .inr ⟨t, want, hg, .inl hb, rfl, rfl⟩, h⟩
        · exact h.elim
    obtain ⟨v0, σ1, h1, h2⟩ := one
    obtain ⟨v, s, g1, g2, g3⟩ := opsW_chain h2
    refine ⟨fun k => match k with | 0 => v0 | k + 1 => v k, fun k => match k with | 0 => σ | k + 1 => s k, rfl, fun k g' hk => ?_, g3⟩
    cases k with
    | zero =>
      simp at hk
      subst hk
      show StepG P g σ v0 (s 0)
      rw [g1]
      exact h1
    | succ k => exact g2 k g' (by simpa using hk)

/-! Orders. -/

theorem edgesOk_at : ∀ {ops : List Oper} {k j : Nat} {o : Oper}, edgesOk k ops = true → ops[j]? = some o → ∀ e ∈ o.after.toList, Region.binds .any e = true → e.on < k + j
  | [], k, j, o, h, hj => by simp at hj
  | x :: ops, k, j, o, h, hj => by
    simp only [edgesOk, Bool.and_eq_true, List.all_eq_true, decide_eq_true_eq, Bool.or_eq_true, Bool.not_eq_true'] at h
    cases j with
    | zero =>
      simp at hj
      subst hj
      intro e he hb
      rcases h.1 e he with h | h
      · rw [hb] at h; cases h
      · exact h
    | succ j =>
      simp at hj
      intro e he hb
      have := edgesOk_at h.2 hj e he hb
      omega

theorem maskOf_bit {acc : List Nat} {i : Nat} : ∀ {es : List Edge}, (maskOf acc es).testBit i = true → ∃ e ∈ es, Region.binds .any e = true ∧ (e.on = i ∨ ∃ m, acc[e.on]? = some m ∧ m.testBit i = true)
  | [], h => by simp [maskOf] at h
  | e :: r, h => by
    simp only [maskOf] at h
    split at h
    · rename_i hb
      rw [Nat.testBit_or, Nat.testBit_or] at h
      simp only [Bool.or_eq_true] at h
      rcases h with (h | h) | h
      · refine ⟨e, List.mem_cons_self, hb, .inl ?_⟩
        rw [Nat.testBit_two_pow] at h
        simpa using h
      · refine ⟨e, List.mem_cons_self, hb, .inr ?_⟩
        cases hm : acc[e.on]? with
        | none => rw [hm] at h; simp at h
        | some m => rw [hm] at h; exact ⟨m, rfl, h⟩
      · obtain ⟨e', h1, h2⟩ := maskOf_bit h
        exact ⟨e', List.mem_cons_of_mem _ h1, h2⟩
    · obtain ⟨e', h1, h2⟩ := maskOf_bit h
      exact ⟨e', List.mem_cons_of_mem _ h1, h2⟩

theorem masks_get : ∀ {ops : List Oper} {acc : List Nat} {j : Nat} {m : Nat}, (masks ops acc)[j]? = some m → (j < acc.length ∧ acc[j]? = some m) ∨ ∃ o, acc.length ≤ j ∧ ops[j - acc.length]? = some o ∧ ∃ acc', (∀ k x, acc'[k]? = some x → (masks ops acc)[k]? = some x ∧ k < j) ∧ m = maskOf acc' o.after.toList
  | [], acc, j, m, h => .inl ⟨(List.getElem?_eq_some_iff.1 h).1, h⟩
  | o :: ops, acc, j, m, h => by
    simp only [masks] at h
    have pre : ∀ {l : List Oper} {acc : List Nat} {k x : Nat}, acc[k]? = some x → (masks l acc)[k]? = some x := by
      intro l
      induction l with
      | nil => intro acc k x h; exact h
      | cons o l ih =>
        intro acc k x h
        simp only [masks]
        exact ih (by rw [List.getElem?_append_left (List.getElem?_eq_some_iff.1 h).1]; exact h)
    rcases masks_get h with ⟨h1, h2⟩ | ⟨o', h1, h2, acc', h3, h4⟩
    · by_cases hlt : j < acc.length
      · rw [List.getElem?_append_left hlt] at h2
        exact .inl ⟨hlt, h2⟩
      · right
        simp at h1
        have hj : j = acc.length := by omega
        subst hj
        rw [List.getElem?_append_right (Nat.le_refl _)] at h2
        simp at h2
        refine ⟨o, Nat.le_refl _, by simp, acc, fun k x hk => ⟨?_, (List.getElem?_eq_some_iff.1 hk).1⟩, h2.symm⟩
        simp only [masks]
        exact pre (by rw [List.getElem?_append_left (List.getElem?_eq_some_iff.1 hk).1]; exact hk)
    · right
      simp at h1 h2
      refine ⟨o', by omega, ?_, acc', fun k x hk => ?_, h4⟩
      · have : j - acc.length = (j - (acc.length + 1)) + 1 := by omega
        rw [this]
        simpa using h2
      · simp only [masks]
        exact h3 k x hk

/-- What has been done is closed: then all that the mask names has been done. -/
theorem mask_closed {ops : List Oper} {S : Nat → Bool} (hcl : ∀ (j : Nat) o, ops[j]? = some o → S j = true → ∀ e ∈ o.after.toList, Region.binds .any e = true → S e.on = true) :
    ∀ (j : Nat) m o i, (masks ops [])[j]? = some m → ops[j]? = some o → (∀ e ∈ o.after.toList, Region.binds .any e = true → S e.on = true) → m.testBit i = true → S i = true := by
  intro j
  induction j using Nat.strongRecOn with
  | _ j ih =>
    intro m o i hm ho hed hb
    rcases masks_get hm with ⟨h1, _⟩ | ⟨o', h1, h2, acc', h3, h4⟩
    · simp at h1
    · simp at h2
      rw [ho] at h2
      cases h2
      subst h4
      obtain ⟨e, he, hbi, h5⟩ := maskOf_bit hb
      have hs := hed e he hbi
      rcases h5 with h5 | ⟨m', h6, h7⟩
      · rw [← h5]; exact hs
      · obtain ⟨h8, h9⟩ := h3 _ _ h6
        have hlt : e.on < ops.length := by
          have len : ∀ {l : List Oper} {acc : List Nat}, (masks l acc).length = acc.length + l.length := by
            intro l
            induction l with
            | nil => intro acc; simp [masks]
            | cons o l ih => intro acc; simp only [masks]; rw [ih]; simp; omega
          have := (List.getElem?_eq_some_iff.1 h8).1
          rw [len] at this
          simpa using this
        exact ih e.on h9 m' ops[e.on] i h8 (List.getElem?_eq_getElem hlt) (hcl e.on _ (List.getElem?_eq_getElem hlt) hs) h7
end Go.Abs
