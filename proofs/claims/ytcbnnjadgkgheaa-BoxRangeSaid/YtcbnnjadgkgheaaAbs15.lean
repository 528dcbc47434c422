/- The abstract machine: operations, regions, the rules of a walk. -/
import Derived.Test.YtcbnnjadgkgheaaAbs14b
import Derived.LoopN
set_option linter.unusedVariables false
set_option linter.unusedSimpArgs false
namespace Go.Abs
open Go.RowKit

section
variable {P : Program} {o : Oper} {a : Act} {w w' w0 : World} {U : Gh} {ι : Pl} {σ : St} {next : Act → World → Prop} {Q : Exit → Act → World → Prop} {K : AV → St → Prop}

theorem map_decide {α : Type} {x : Option α} {p : α → Bool} (h : x.map p = some true) : ∃ z, x = some z ∧ p z = true := by
  cases x with
  | none => cases h
  | some z => exact ⟨z, rfl, by simpa using h⟩

set_option maxHeartbeats 1000000 in
theorem op_sound {dr : Bool} {ao : AOp} (hc : compOp P dr o.op = some ao) (h : opW P ao σ K) (hs : Sim w0 U σ ι a w) (hn : Goes w0 U a o K next) : o.wp P a w next Q := by
  cases hop : o.op with
  | move x =>
    rw [hop] at hc
    simp only [compOp, Option.map_eq_some_iff] at hc
    obtain ⟨y, hy, rfl⟩ := hc
    exact op_mv (.inl hop) hy h hs hn
  | assign x =>
    rw [hop] at hc
    simp only [compOp, Option.map_eq_some_iff] at hc
    obtain ⟨y, hy, rfl⟩ := hc
    exact op_mv (.inr hop) hy h hs hn
  | pick c x y =>
    rw [hop] at hc
    simp only [compOp] at hc
    split at hc
    · cases hc
      exact op_pick hop ‹_› ‹_› ‹_› h hs hn
    · cases hc
  | alloc t =>
    rw [hop] at hc
    simp only [compOp, Option.map_eq_some_iff, Option.bind_eq_some_iff] at hc
    obtain ⟨v, ⟨z, h1, h2⟩, rfl⟩ := hc
    exact op_alloc hop h1 h2 h hs hn
  | box t x =>
    rw [hop] at hc
    simp only [compOp, Option.map_eq_some_iff] at hc
    obtain ⟨y, hy, rfl⟩ := hc
    exact op_box hop hy h hs hn
  | build t parts =>
    rw [hop] at hc
    simp only [compOp] at hc
    split at hc
    · cases hc
      exact op_build hop ‹_› ‹_› h hs hn
    · cases hc
  | buildSlice t n parts =>
    rw [hop] at hc
    simp only [compOp] at hc
    split at hc
    · split at hc
      · rename_i hcond
        obtain ⟨h1, h2, h3, h4⟩ := hcond
        obtain ⟨z, hz, hzs⟩ := map_decide h4
        cases hc
        split at h
        · exact op_bsliceF hop ‹_› ‹_› h1 h2 h3 hz (of_decide_eq_true hzs) h hs hn
        · exact op_bslice hop ‹_› ‹_› h1 h2 h3 hz (of_decide_eq_true hzs) h hs hn
      · cases hc
    · cases hc
  | load t p =>
    rw [hop] at hc
    simp only [compOp] at hc
    split at hc
    · cases hc
      exact op_load hop ‹_› ‹_› h hs hn
    · cases hc
  | store t p v =>
    rw [hop] at hc
    simp only [compOp] at hc
    split at hc
    · cases hc
      exact op_store hop ‹_› ‹_› ‹_› h hs hn
    · cases hc
  | binOp op t x y t' =>
    rw [hop] at hc
    simp only [compOp] at hc
    split at hc
    · rename_i p q h1 h2
      split at hc
      · split at hc
        · cases hc
          rename_i hb
          unfold isBool at hb
          split at hb
          · exact op_eqb (.inl ⟨rfl, rfl⟩) ‹_› hop h1 h2 h hs hn
          · cases hb
        · split at hc
          · split at hc
            · cases hc
              exact op_fnil (.inl ⟨rfl, rfl⟩) ‹_› ‹_› hop h1 h2 h hs hn
            · cases hc
          · cases hc
            exact op_bin hop h1 h2 h hs hn
      · split at hc
        · cases hc
          rename_i hb
          unfold isBool at hb
          split at hb
          · exact op_eqb (.inr ⟨rfl, rfl⟩) ‹_› hop h1 h2 h hs hn
          · cases hb
        · split at hc
          · split at hc
            · cases hc
              exact op_fnil (.inr ⟨rfl, rfl⟩) ‹_› ‹_› hop h1 h2 h hs hn
            · cases hc
          · cases hc
            exact op_bin hop h1 h2 h hs hn
      · cases hc
        exact op_bin hop h1 h2 h hs hn
    · cases hc
  | unOp op t x =>
    rw [hop] at hc
    simp only [compOp, Option.map_eq_some_iff] at hc
    obtain ⟨y, hy, rfl⟩ := hc
    exact op_un hop hy h hs hn
  | convert s d x =>
    rw [hop] at hc
    simp only [compOp] at hc
    split at hc
    · cases hc
      exact op_conv hop ‹_› ‹_› ‹_› h hs hn
    · cases hc
  | nilCheck x =>
    rw [hop] at hc
    simp only [compOp, Option.map_eq_some_iff] at hc
    obtain ⟨y, hy, rfl⟩ := hc
    exact op_nilc hop hy h hs hn
  | slice t x lo hi mx =>
    rw [hop] at hc
    simp only [compOp] at hc
    split at hc
    · rename_i e0 _ _ _ _ g0 g1 g2 g3 g4
      split at hc
      · rename_i hel
        split at hc
        · rename_i hcond
          cases hc
          exact op_slc hop hel ‹_› ‹_› ‹_› ‹_› hcond.2 h hs hn
        · cases hc
      · cases hc
    · rename_i e0 _ _ _ g0 g1 g2 g3 g4
      cases hc
      cases mx with
      | none => exact op_slcS hop ‹_› ‹_› ‹_› ‹_› h hs hn
      | some m => simp [compO?] at g4
    · cases hc
  | fieldAddr s x f =>
    rw [hop] at hc
    simp only [compOp] at hc
    split at hc
    · split at hc
      · cases hc
      · cases hc
        exact op_fieldA hop ‹_› ‹_› ‹_› h hs hn
    · cases hc
  | field s x f =>
    rw [hop] at hc
    simp only [compOp] at hc
    split at hc
    · simp only [Option.map_eq_some_iff] at hc
      obtain ⟨n, h1, rfl⟩ := hc
      exact op_field hop ‹_› h1 ‹_› h hs hn
    · cases hc
  | indexAddr t x i =>
    rw [hop] at hc
    simp only [compOp] at hc
    split at hc
    · cases hc
      exact op_idxA hop ‹_› ‹_› ‹_› h hs hn
    · split at hc
      · simp only [Option.map_eq_some_iff] at hc
        obtain ⟨n, h1, rfl⟩ := hc
        exact op_idxR hop ‹_› h1 ‹_› ‹_› h hs hn
      · cases hc
    · cases hc
  | index t x i =>
    rw [hop] at hc
    simp only [compOp] at hc
    split at hc
    · split at hc
      · cases hc
        exact op_idxS hop ‹_› ‹_› ‹_› h hs hn
      · cases hc
    · cases hc
  | makeSlice t l c =>
    rw [hop] at hc
    simp only [compOp] at hc
    split at hc
    · rename_i e sz bytes p q h1 h2 h3
      split at hc
      · rename_i hcond
        obtain ⟨rfl, h0, h4⟩ := hcond
        obtain ⟨z, hz, hzs⟩ := map_decide h4
        simp only [Option.map_eq_some_iff, Option.bind_eq_some_iff] at hc
        obtain ⟨zs, ⟨z', hz', hpz⟩, rfl⟩ := hc
        rw [hz] at hz'
        cases hz'
        have hl : l = .tmp p := by cases l <;> simp [compX] at h2; rw [h2]
        have hcc : c = .tmp p := by cases c <;> simp [compX] at h3; rw [h3]
        subst hl
        subst hcc
        exact op_mkslice hop h1 h0 hz (of_decide_eq_true hzs) hpz h hs hn
      · cases hc
    · cases hc
  | makeMap t r =>
    rw [hop] at hc
    cases r with
    | none =>
      simp only [compOp] at hc
      split at hc
      · cases hc
        exact op_mkmap hop h hs hn
      · cases hc
    | some r => simp [compOp] at hc
  | lookup t m k ok =>
    rw [hop] at hc
    simp only [compOp] at hc
    split at hc
    · simp only [Option.map_eq_some_iff, Option.bind_eq_some_iff] at hc
      obtain ⟨zs, ⟨z, hz, hzs⟩, rfl⟩ := hc
      exact op_mget hop ‹_› hz hzs ‹_› ‹_› h hs hn
    · cases hc
  | mapUpdate t m k v =>
    rw [hop] at hc
    simp only [compOp] at hc
    split at hc
    · cases hc
      exact op_mput (.inl hop) ‹_› ‹_› ‹_› ‹_› h hs hn
    · cases hc
  | insert t m k v =>
    rw [hop] at hc
    simp only [compOp] at hc
    split at hc
    · cases hc
      exact op_mput (.inr hop) ‹_› ‹_› ‹_› ‹_› h hs hn
    · cases hc
  | extract x i =>
    rw [hop] at hc
    simp only [compOp, Option.map_eq_some_iff] at hc
    obtain ⟨y, hy, rfl⟩ := hc
    exact op_ext hop hy h hs hn
  | makeFunc fn first caps =>
    rw [hop] at hc
    cases fn with
    | func f =>
      simp only [compOp] at hc
      split at hc
      · simp only [Option.map_eq_some_iff] at hc
        obtain ⟨y, hy, rfl⟩ := hc
        exact op_mkfn hop ‹_› hy h hs hn
      · cases hc
    | _ => simp [compOp] at hc
  | call c =>
    rw [hop] at hc
    obtain ⟨callee, args, argTypes⟩ := c
    cases callee with
    | value f =>
      simp only [compOp] at hc
      split at hc
      · cases hc
        exact op_call rfl rfl hop ‹_› ‹_› h hs hn
      · cases hc
    | invoke r m => simp [compOp] at hc
    | builtin b =>
      cases b with
      | len =>
        simp only [compOp] at hc
        split at hc
        · split at hc
          · cases hc
            exact op_len rfl ‹_› ‹_› hop ‹_› ‹_› h hs hn
          · cases hc
            exact op_lenS rfl ‹_› ‹_› hop ‹_› ‹_› h hs hn
          · cases hc
        · cases hc
      | min =>
        simp only [compOp] at hc
        split at hc
        · split at hc
          · cases hc
            exact op_mm (.inl ⟨rfl, rfl⟩) ‹_› hop ‹_› ‹_› h hs hn
          · cases hc
        · cases hc
      | max =>
        simp only [compOp] at hc
        split at hc
        · split at hc
          · cases hc
            exact op_mm (.inr ⟨rfl, rfl⟩) ‹_› hop ‹_› ‹_› h hs hn
          · cases hc
        · cases hc
      | append =>
        simp only [compOp] at hc
        split at hc
        · split at hc
          · rename_i htu
            subst htu
            split at hc
            · split at hc
              · rename_i hcond
                obtain ⟨h0, h4⟩ := hcond
                obtain ⟨z, hz, hzs⟩ := map_decide h4
                cases hc
                exact op_app rfl ‹_› ‹_› hop ‹_› h0 hz (of_decide_eq_true hzs) ‹_› ‹_› h hs hn
              · cases hc
            · cases hc
          · cases hc
        · cases hc
      | _ => simp [compOp] at hc
  | _ => rw [hop] at hc; simp [compOp] at hc
end
end Go.Abs
