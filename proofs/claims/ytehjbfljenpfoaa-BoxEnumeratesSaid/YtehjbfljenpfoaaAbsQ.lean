/- The abstract machine: regions, walks, functions, inputs. -/
import Derived.Test.YtehjbfljenpfoaaAbsP
import Derived.LoopN
import Derived.RangeFuncLeaves
import Derived.RangeFuncNested
import Derived.OrdersIn
import Derived.LoopNIn
import Derived.ChangeArms
import Derived.WideShapes
set_option linter.unusedVariables false
set_option linter.unusedSimpArgs false
namespace Go.Abs
open Go.RowKit

section
variable {P : Program} {o : Oper} {a : Act} {w w' w0 : World} {U : Gh} {ι : Pl} {σ : St} {next : Act → World → Prop} {Q : Exit → Act → World → Prop} {K : AV → St → Prop}

theorem map_decide {α : Type} {x : Option α} {p : α → Bool} (h : x.map p = some true) : ∃ z, x = some z ∧ p z = true := by
 cases x with
 | none => cases h
 | some z => exact ⟨z, rfl, by simpa using h⟩

theorem op_snil {op : BinOp} {t t' : TypeId} {x y : Operand} {p q : AX} {neg : Bool} (hop : (op = .eql ∧ neg = false) ∨ (op = .neq ∧ neg = true)) (ht : isSlc P t = true) (hq : isNilS q = true) (ho : o.op = .binOp op t x y t') (hx : compX x = some p) (hy : compX y = some q)
  (h : opW P (.snil neg p) σ K) (hs : Sim w0 U σ ι a w) (hn : Goes w0 U a o K next) : o.wp P a w next Q := by
 have r1 := compX_rep hx hs
 have r2 := compX_rep hy hs
 unfold isNilS at hq
 split at hq
 ·have e2 : a.eval y = .slice none 0 0 := repV_nils r2
  unfold isSlc at ht
  split at ht
  ·rename_i et hT
   have key : ∀ (ad : Option Addr) (n c : Nat), a.eval x = .slice ad n c → K (.c (.pure (.val (.bool (ad.isNone != neg))))) σ → o.wp P a w next Q := by
    intro ad n c hu hk
    have hr : (Op.equal t (.slice ad n c) (.slice none 0 0)).run P w = .ok ad.isNone w := by
     show (Op.equalIn (9999 + 1) t (.slice ad n c) (.slice none 0 0)).run P w = .ok ad.isNone w
     unfold Op.equalIn
     cases ad <;> simp [run_underlying hT]
    have hg : (eqGuard op t x y (.slice ad n c) (.slice none 0 0)).run P w = .ok () w := by unfold eqGuard; cases op <;> simp
    refine wp_value (u := .bool (ad.isNone != neg)) (w' := w) ?_ (hn _ σ ι _ w hk hs (repV_bool _))
    simp only [execOp, ho, hu, e2]
    rw [Sem.run_bind, Sem.run_bind, hg]
    rcases hop with ⟨rfl, rfl⟩ | ⟨rfl, rfl⟩ <;> simp [binOp, hr]
   have rows : ∀ {V : Nat → Prop} {rs : List (List PC)} {ad : Option Addr} {n c : Nat}, a.eval x = .slice ad n c → RepP w V (.slice rs) (.slice ad n c) → @nilW rs ⟨K (.c (.pure (.val (.bool (!neg)))))  σ⟩ ⟨K (.c (.pure (.val (.bool neg)))) σ⟩ → o.wp P a w next Q := by
    intro V rs ad n c hu hr hnil
    cases ad with
    | some ad => exact key _ _ _ hu (by have := hnil.2; cases neg <;> exact this)
    | none =>
     refine key _ _ _ hu ?_
     have := hnil.1 (fun r hr0 => by
      cases hr with
      | @slice sz _ _ _ _ g hn hc hm hr hcell hp =>
       obtain ⟨k, hk⟩ := List.mem_iff_getElem?.1 hr0
       cases r with
       | nil => rfl
       | cons p0 r =>
        obtain ⟨b, off, e, _⟩ := hcell k _ 0 p0 hk rfl
        cases e)
     cases neg <;> exact this
   simp only [opW] at h
   split at h
   ·rename_i e
    rw [e] at r1
    generalize hu : a.eval x = u at r1
    cases r1 with
    | c r1 =>
     cases r1
     exact key _ _ _ hu (by cases neg <;> exact h)
   ·rename_i rs e
    rw [e] at r1
    generalize hu : a.eval x = u at r1
    cases r1 with
    | c r1 =>
     cases r1 with
     | pure r1 =>
      have r1' := r1
      cases r1
      exact rows hu r1' h
   ·rename_i rs e
    rw [e] at r1
    generalize hu : a.eval x = u at r1
    cases r1 with
    | c r1 =>
     cases r1 with
     | tsl r1 => exact rows hu r1 h
   ·rename_i nm e
    rw [e] at r1
    split at h
    ·rename_i rs hf
     have hv := repV_ref r1
     obtain ⟨cells, k0, k1, k2, k3⟩ := hs.box _ _ hf
     rcases k1.2 with ⟨e0, e1⟩ | ⟨g, cap, cur, e0, _⟩
     ·rw [e0] at hv
      refine key _ _ _ hv ?_
      have hz : rs = [] := List.eq_nil_of_length_eq_zero (by simpa using e1)
      subst hz
      have := h.1 (by simp)
      cases neg <;> exact this
     ·rw [e0] at hv
      refine key _ _ _ hv ?_
      have := h.2
      cases neg <;> exact this
    ·exact h.elim
   ·exact h.elim
  ·cases ht
 ·cases hq

set_option maxHeartbeats 1000000 in
theorem op_sound {dr : Bool} {ao : AOp} (hc : compOp P dr o.op = some ao) (h : opW P ao σ K) (hs : Sim w0 U σ ι a w) (hn : Goes w0 U a o K next) : o.wp P a w next Q := by
 cases hop : o.op with
 | move x =>
  rw [hop] at hc
  simp only [compOp, Option.map_eq_some_iff] at hc
  obtain ⟨y, hy, rfl⟩ := hc
  exact op_mv (.inl hop) hy h hs hn
 | assign x =>
  rw [hop] at hc
  simp only [compOp, Option.map_eq_some_iff] at hc
  obtain ⟨y, hy, rfl⟩ := hc
  exact op_mv (.inr hop) hy h hs hn
 | pick c x y =>
  rw [hop] at hc
  simp only [compOp] at hc
  split at hc
  ·cases hc
   exact op_pick hop ‹_› ‹_› ‹_› h hs hn
  ·cases hc
 | alloc t =>
  rw [hop] at hc
  simp only [compOp, Option.map_eq_some_iff, Option.bind_eq_some_iff] at hc
  obtain ⟨v, ⟨z, h1, h2⟩, rfl⟩ := hc
  exact op_alloc hop h1 h2 h hs hn
 | box t x =>
  rw [hop] at hc
  simp only [compOp, Option.map_eq_some_iff] at hc
  obtain ⟨y, hy, rfl⟩ := hc
  exact op_box hop hy h hs hn
 | build t parts =>
  rw [hop] at hc
  simp only [compOp] at hc
  split at hc
  ·cases hc
   exact op_build hop ‹_› ‹_› h hs hn
  ·cases hc
 | buildSlice t n parts =>
  rw [hop] at hc
  simp only [compOp] at hc
  split at hc
  ·split at hc
   ·rename_i hcond
    obtain ⟨h1, h2, h3, h4⟩ := hcond
    obtain ⟨z, hz, hzs⟩ := map_decide h4
    cases hc
    split at h
    ·exact op_bsliceF hop ‹_› ‹_› h1 h2 h3 hz (of_decide_eq_true hzs) h hs hn
    ·exact op_bslice hop ‹_› ‹_› h1 h2 h3 hz (of_decide_eq_true hzs) h hs hn
   ·cases hc
  ·cases hc
 | load t p =>
  rw [hop] at hc
  simp only [compOp] at hc
  split at hc
  ·cases hc
   exact op_load hop ‹_› ‹_› h hs hn
  ·cases hc
 | store t p v =>
  rw [hop] at hc
  simp only [compOp] at hc
  split at hc
  ·cases hc
   exact op_store hop ‹_› ‹_› ‹_› h hs hn
  ·cases hc
 | binOp op t x y t' =>
  rw [hop] at hc
  simp only [compOp] at hc
  split at hc
  ·rename_i p q h1 h2
   split at hc
   ·split at hc
    ·cases hc
     rename_i hb
     unfold isBool at hb
     split at hb
     ·exact op_eqb (.inl ⟨rfl, rfl⟩) ‹_› hop h1 h2 h hs hn
     ·cases hb
    ·split at hc
     ·simp only [Option.map_eq_some_iff] at hc
      obtain ⟨l, hl, rfl⟩ := hc
      exact op_eqs (.inl ⟨rfl, rfl⟩) ‹_› hl hop h1 h2 h hs hn
     split at hc
     ·split at hc
      ·cases hc
       exact op_fnil (.inl ⟨rfl, rfl⟩) ‹_› ‹_› hop h1 h2 h hs hn
      ·cases hc
     split at hc
     ·split at hc
      ·cases hc
       exact op_snil (.inl ⟨rfl, rfl⟩) ‹_› ‹_› hop h1 h2 h hs hn
      ·cases hc
     ·cases hc
      exact op_bin hop h1 h2 h hs hn
   ·split at hc
    ·cases hc
     rename_i hb
     unfold isBool at hb
     split at hb
     ·exact op_eqb (.inr ⟨rfl, rfl⟩) ‹_› hop h1 h2 h hs hn
     ·cases hb
    ·split at hc
     ·simp only [Option.map_eq_some_iff] at hc
      obtain ⟨l, hl, rfl⟩ := hc
      exact op_eqs (.inr ⟨rfl, rfl⟩) ‹_› hl hop h1 h2 h hs hn
     split at hc
     ·split at hc
      ·cases hc
       exact op_fnil (.inr ⟨rfl, rfl⟩) ‹_› ‹_› hop h1 h2 h hs hn
      ·cases hc
     split at hc
     ·split at hc
      ·cases hc
       exact op_snil (.inr ⟨rfl, rfl⟩) ‹_› ‹_› hop h1 h2 h hs hn
      ·cases hc
     ·cases hc
      exact op_bin hop h1 h2 h hs hn
   ·cases hc
    exact op_bin hop h1 h2 h hs hn
  ·cases hc
 | unOp op t x =>
  rw [hop] at hc
  simp only [compOp, Option.map_eq_some_iff] at hc
  obtain ⟨y, hy, rfl⟩ := hc
  exact op_un hop hy h hs hn
 | convert s d x =>
  rw [hop] at hc
  simp only [compOp] at hc
  split at hc
  ·cases hc
   exact op_conv hop ‹_› ‹_› ‹_› h hs hn
  ·cases hc
 | nilCheck x =>
  rw [hop] at hc
  simp only [compOp, Option.map_eq_some_iff] at hc
  obtain ⟨y, hy, rfl⟩ := hc
  exact op_nilc hop hy h hs hn
 | slice t x lo hi mx =>
  rw [hop] at hc
  simp only [compOp] at hc
  split at hc
  ·rename_i e0 _ _ _ _ g0 g1 g2 g3 g4
   split at hc
   ·rename_i hel
    split at hc
    ·rename_i hcond
     cases hc
     exact op_slc hop hel ‹_› ‹_› ‹_› ‹_› hcond.2 h hs hn
    ·cases hc
   ·cases hc
  ·rename_i e0 _ _ _ g0 g1 g2 g3 g4
   cases hc
   cases mx with
   | none => exact op_slcS hop ‹_› ‹_› ‹_› ‹_› h hs hn
   | some m => simp [compO?] at g4
  ·cases hc
 | fieldAddr s x f =>
  rw [hop] at hc
  simp only [compOp] at hc
  split at hc
  ·split at hc
   ·cases hc
   ·cases hc
    exact op_fieldA hop ‹_› ‹_› ‹_› h hs hn
  ·cases hc
 | field s x f =>
  rw [hop] at hc
  simp only [compOp] at hc
  split at hc
  ·simp only [Option.map_eq_some_iff] at hc
   obtain ⟨n, h1, rfl⟩ := hc
   exact op_field hop ‹_› h1 ‹_› h hs hn
  ·cases hc
 | indexAddr t x i =>
  rw [hop] at hc
  simp only [compOp] at hc
  split at hc
  ·cases hc
   exact op_idxA hop ‹_› ‹_› ‹_› h hs hn
  ·split at hc
   ·simp only [Option.map_eq_some_iff] at hc
    obtain ⟨n, h1, rfl⟩ := hc
    exact op_idxR hop ‹_› h1 ‹_› ‹_› h hs hn
   ·cases hc
  ·cases hc
 | index t x i =>
  rw [hop] at hc
  simp only [compOp] at hc
  split at hc
  ·split at hc
   ·cases hc
    exact op_idxS hop ‹_› ‹_› ‹_› h hs hn
   ·cases hc
  ·cases hc
 | makeSlice t l c =>
  rw [hop] at hc
  simp only [compOp] at hc
  split at hc
  ·rename_i e sz bytes p q h1 h2 h3
   split at hc
   ·rename_i hcond
    obtain ⟨rfl, h0, h4⟩ := hcond
    obtain ⟨z, hz, hzs⟩ := map_decide h4
    simp only [Option.map_eq_some_iff, Option.bind_eq_some_iff] at hc
    obtain ⟨zs, ⟨z', hz', hpz⟩, rfl⟩ := hc
    rw [hz] at hz'
    cases hz'
    have hl : l = .tmp p := by cases l <;> simp [compX] at h2; rw [h2]
    have hcc : c = .tmp p := by cases c <;> simp [compX] at h3; rw [h3]
    subst hl
    subst hcc
    exact op_mkslice hop h1 h0 hz (of_decide_eq_true hzs) hpz h hs hn
   ·cases hc
  ·cases hc
 | makeMap t r =>
  rw [hop] at hc
  cases r with
  | none =>
   simp only [compOp] at hc
   split at hc
   ·cases hc
    exact op_mkmap hop h hs hn
   ·cases hc
  | some r => simp [compOp] at hc
 | lookup t m k ok =>
  rw [hop] at hc
  simp only [compOp] at hc
  split at hc
  ·simp only [Option.map_eq_some_iff, Option.bind_eq_some_iff] at hc
   obtain ⟨zs, ⟨z, hz, hzs⟩, rfl⟩ := hc
   exact op_mget hop ‹_› hz hzs ‹_› ‹_› h hs hn
  ·cases hc
 | mapUpdate t m k v =>
  rw [hop] at hc
  simp only [compOp] at hc
  split at hc
  ·cases hc
   exact op_mput (.inl hop) ‹_› ‹_› ‹_› ‹_› h hs hn
  ·cases hc
 | insert t m k v =>
  rw [hop] at hc
  simp only [compOp] at hc
  split at hc
  ·cases hc
   exact op_mput (.inr hop) ‹_› ‹_› ‹_› ‹_› h hs hn
  ·cases hc
 | mapEntry t m k =>
  rw [hop] at hc
  simp only [compOp] at hc
  split at hc
  ·simp only [Option.map_eq_some_iff, Option.bind_eq_some_iff] at hc
   obtain ⟨zs, ⟨z, hz, hzs⟩, rfl⟩ := hc
   exact op_ment hop ‹_› hz hzs ‹_› ‹_› h hs hn
  ·cases hc
 | entryStore t m s v =>
  rw [hop] at hc
  simp only [compOp] at hc
  split at hc
  ·cases hc
   exact op_eput hop ‹_› ‹_› ‹_› ‹_› h hs hn
  ·cases hc
 | extract x i =>
  rw [hop] at hc
  simp only [compOp, Option.map_eq_some_iff] at hc
  obtain ⟨y, hy, rfl⟩ := hc
  exact op_ext hop hy h hs hn
 | makeFunc fn first caps =>
  rw [hop] at hc
  cases fn with
  | func f =>
   simp only [compOp] at hc
   split at hc
   ·simp only [Option.map_eq_some_iff] at hc
    obtain ⟨y, hy, rfl⟩ := hc
    exact op_mkfn hop ‹_› hy h hs hn
   ·cases hc
  | _ => simp [compOp] at hc
 | call c =>
  rw [hop] at hc
  obtain ⟨callee, args, argTypes⟩ := c
  cases callee with
  | value f =>
   simp only [compOp] at hc
   split at hc
   ·cases hc
    exact op_call rfl rfl hop ‹_› ‹_› h hs hn
   ·cases hc
  | invoke r m => simp [compOp] at hc
  | builtin b =>
   cases b with
   | len =>
    simp only [compOp] at hc
    split at hc
    ·split at hc
     ·cases hc
      exact op_len rfl ‹_› ‹_› hop ‹_› ‹_› h hs hn
     ·cases hc
      exact op_lenS rfl ‹_› ‹_› hop ‹_› ‹_› h hs hn
     ·cases hc
    ·cases hc
   | min =>
    simp only [compOp] at hc
    split at hc
    ·split at hc
     ·cases hc
      exact op_mm (.inl ⟨rfl, rfl⟩) ‹_› hop ‹_› ‹_› h hs hn
     ·cases hc
    ·cases hc
   | max =>
    simp only [compOp] at hc
    split at hc
    ·split at hc
     ·cases hc
      exact op_mm (.inr ⟨rfl, rfl⟩) ‹_› hop ‹_› ‹_› h hs hn
     ·cases hc
    ·split at hc
     ·cases hc
      exact op_mm4 rfl ‹_› hop ‹_› ‹_› ‹_› ‹_› h hs hn
     ·cases hc
    ·cases hc
   | append =>
    simp only [compOp] at hc
    split at hc
    ·split at hc
     ·rename_i htu
      subst htu
      split at hc
      ·split at hc
       ·rename_i hcond
        obtain ⟨h0, h4⟩ := hcond
        obtain ⟨z, hz, hzs⟩ := map_decide h4
        cases hc
        exact op_app rfl ‹_› ‹_› hop ‹_› h0 hz (of_decide_eq_true hzs) ‹_› ‹_› h hs hn
       ·cases hc
      ·cases hc
     ·cases hc
    ·cases hc
   | _ => simp [compOp] at hc
 | makeInterface t x =>
  rw [hop] at hc
  cases hc
  exact h.elim
 | panic x =>
  rw [hop] at hc
  cases hc
  exact h.elim
 | _ => rw [hop] at hc; simp [compOp] at hc
end
end Go.Abs

set_option linter.unusedVariables false
set_option linter.unusedSimpArgs false
namespace Go.Abs
open Go.RowKit

def Det (F : (AV → St → Prop) → Prop) : Prop := ∀ K, F K → ∃ v σ', F (fun v' τ => v' = v ∧ τ = σ') ∧ K v σ'
theorem det_case {α : Type} {o : Option α} {F : α → (AV → St → Prop) → Prop} {G : (AV → St → Prop) → Prop} (h : ∀ x, Det (F x)) (h' : Det G) : Det fun K => @caseW _ o ⟨fun x => F x K⟩ ⟨G K⟩ := fun K hK => by
 cases o with
 | none =>
  obtain ⟨v, s, h1, h2⟩ := h' K (hK.2 rfl)
  exact ⟨v, s, ⟨(fun x e => by cases e), fun _ => h1⟩, h2⟩
 | some x =>
  obtain ⟨v, s, h1, h2⟩ := h x K (hK.1 x rfl)
  exact ⟨v, s, ⟨fun y e => by cases e; exact h1, (fun e => by cases e)⟩, h2⟩
theorem det_K {v : AV} {σ : St} : Det fun K => K v σ := fun K h => ⟨v, σ, ⟨rfl, rfl⟩, h⟩
theorem det_false : Det fun _ => False := fun K h => h.elim
theorem det_and {p : Prop} {F : (AV → St → Prop) → Prop} (h : Det F) : Det fun K => @andW p ⟨F K⟩ := fun K hK => by
 obtain ⟨v, s, h1, h2⟩ := h K hK.2
 exact ⟨v, s, ⟨hK.1, h1⟩, h2⟩
theorem det_opt {α : Type} {o : Option α} {F : α → (AV → St → Prop) → Prop} (h : ∀ x, Det (F x)) : Det fun K => @optW _ o ⟨fun x => F x K⟩ := fun K hK => by
 obtain ⟨x, e, hK⟩ := hK
 obtain ⟨v, s, h1, h2⟩ := h x K hK
 exact ⟨v, s, ⟨x, e, h1⟩, h2⟩
theorem det_cond {t : Bool} {F G : (AV → St → Prop) → Prop} (h : Det F) (h' : Det G) : Det fun K => @condW t ⟨F K⟩ ⟨G K⟩ := fun K hK => by
 cases t with
 | true =>
  obtain ⟨v, s, h1, h2⟩ := h K (hK.1 rfl)
  exact ⟨v, s, ⟨fun _ => h1, (fun e => by cases e)⟩, h2⟩
 | false =>
  obtain ⟨v, s, h1, h2⟩ := h' K (hK.2 rfl)
  exact ⟨v, s, ⟨(fun e => by cases e), fun _ => h1⟩, h2⟩

theorem det_binI {op : BinOp} {k : IntKind} {a b : Int} {σ : St} : Det fun K => binI op k a b fun v => K (.c (.pure (.val v))) σ := by
 cases op <;> simp only [binI] <;> first | exact det_false | exact det_and det_K | exact det_K
theorem det_binS {op : BinOp} {a b : ByteArray} {σ : St} : Det fun K => binS op a b fun v => K (.c (.pure (.val v))) σ := by
 cases op <;> simp only [binS] <;> first | exact det_false | exact det_and det_K | exact det_K
theorem det_binW {op : BinOp} {x y : Value} {σ : St} : Det fun K => binW op x y fun v => K (.c (.pure (.val v))) σ := by
 unfold binW
 split
 ·exact det_and det_binI
 ·exact det_binS
 ·exact det_false
theorem det_shiftW {op : BinOp} {x y : Value} {σ : St} : Det fun K => shiftW op x y fun v => K (.c (.pure (.val v))) σ := by
 unfold shiftW
 split
 ·refine det_and ?_
  cases op <;> simp only [shiftI] <;> first | exact det_false | exact det_K
 ·exact det_false
theorem det_build {σ : St} {F : List AC → (AV → St → Prop) → Prop} (hF : ∀ x, Det (F x)) : ∀ {ps : List (Nat × Nat × AX)} {acc : List AC}, Det fun K => opW.buildW σ ps acc fun xs => F xs K
 | [], acc => hF acc
 |(off, n, x) :: ps, acc => by
  simp only [opW.buildW]
  split
  ·exact det_and (det_build hF)
  ·exact det_false
theorem det_bslice {σ : St} {sz : Nat} {F : List (List PC) → (AV → St → Prop) → Prop} (hF : ∀ x, Det (F x)) : ∀ {ps : List AX} {acc : List (List PC)}, Det fun K => opW.bsliceW σ sz ps acc fun xs => F xs K
 | [], acc => hF acc
 |x :: ps, acc => by
  simp only [opW.bsliceW]
  split
  ·exact det_opt fun z => det_and (det_bslice hF)
  ·exact det_false
theorem det_bsliceF {σ : St} {sz : Nat} {F : List (List PC) → List (Nat × Box) → (AV → St → Prop) → Prop} (hF : ∀ x m, Det (F x m)) : ∀ {ps : List AX} {mem : List (Nat × Box)} {acc : List (List PC)}, Det fun K => opW.bsliceFW σ sz ps mem acc fun xs m => F xs m K
 | [], mem, acc => hF acc mem
 |x :: ps, mem, acc => by
  simp only [opW.bsliceFW]
  split
  ·exact det_opt fun z => det_and (det_bsliceF hF)
  ·exact det_false
theorem det_mkfn {σ : St} {F : List AC → (AV → St → Prop) → Prop} (hF : ∀ x, Det (F x)) : ∀ {ps : List AX} {acc : List AC}, Det fun K => opW.mkfnW σ ps acc fun xs => F xs K
 | [], acc => hF acc
 |x :: ps, acc => by
  simp only [opW.mkfnW]
  split
  ·exact det_mkfn hF
  ·exact det_false
theorem det_call {P : Program} {g z : Bool} {f : FuncId} {args : List AV} {σ : St} : Det fun K => @callW P g z f args σ ⟨K⟩ := by
 rintro K ⟨l, σ', args', hg, hz, (⟨pargs, h1, res, h2, h4⟩ | ⟨h1, res, m, n, h2, h4⟩)⟩
 ·exact ⟨res, σ', ⟨l, σ', args', hg, hz, .inl ⟨pargs, h1, res, h2, rfl, rfl⟩⟩, h4⟩
 ·exact ⟨res, _, ⟨l, σ', args', hg, hz, .inr ⟨h1, res, m, n, h2, rfl, rfl⟩⟩, h4⟩
theorem det_app {e sz bytes : Nat} {x y : AV} {ys : List (List PC)} {σ : St} : Det fun K => @appW e sz bytes x y ys σ ⟨K⟩ := by
 rintro K ⟨hok, h⟩
 rcases h with ⟨nm, h1, h2, rows, h3, h4, h5, h6⟩ | ⟨h1, h | h⟩ | ⟨rows, h1, h2, ⟨h3, h⟩ | h | h⟩
 ·exact ⟨_, _, ⟨hok, .inl ⟨nm, h1, h2, rows, h3, h4, h5, rfl, rfl⟩⟩, h6⟩
 ·exact ⟨_, _, ⟨hok, .inr (.inl ⟨h1, .inl ⟨h.1, h.2.1, rfl, rfl⟩⟩)⟩, h.2.2⟩
 ·exact ⟨_, _, ⟨hok, .inr (.inl ⟨h1, .inr ⟨h.1, h.2.1, rfl, rfl⟩⟩)⟩, h.2.2⟩
 ·exact ⟨_, _, ⟨hok, .inr (.inr ⟨rows, h1, h2, .inl ⟨h3, h.1, h.2.1, rfl, rfl⟩⟩)⟩, h.2.2⟩
 ·exact ⟨_, _, ⟨hok, .inr (.inr ⟨rows, h1, h2, .inr (.inl ⟨h.1, h.2.1, rfl, rfl⟩)⟩)⟩, h.2.2⟩
 ·exact ⟨_, _, ⟨hok, .inr (.inr ⟨rows, h1, h2, .inr (.inr ⟨h.1, rfl, rfl⟩)⟩)⟩, h.2⟩

theorem opW_det {P : Program} {op : AOp} {σ : St} (hgc : op.gcall = false) : Det (opW P op σ) := by
 have eta : ∀ {F : (AV → St → Prop) → Prop}, Det (fun K => F K) → Det F := fun h => h
 apply eta
 cases op <;> simp only [opW]
 case mv => exact det_K
 case pick => split; exact det_cond det_K det_K; exact det_false
 case box => split; exact det_K; exact det_false
 case load =>
  split
  ·split
   ·split
    ·split
     ·exact det_K
     ·exact det_false
    ·exact det_and det_K
   ·exact det_false
  ·exact det_false
 case store =>
  split
  ·split
   ·exact det_and det_K
   ·exact det_false
  ·split
   ·exact det_and (det_opt fun z => det_opt fun r => det_K)
   ·exact det_and (det_opt fun r => det_K)
   ·exact det_false
  ·exact det_false
 case bin =>
  split
  ·split
   ·exact det_shiftW
   ·exact det_shiftW
   ·exact det_binW
  ·exact det_false
 case eqb => split; exact det_K; exact det_false
 case eqs => split; exact det_and det_K; exact det_false
 case un => split <;> first | exact det_K | exact det_false
 case conv => split; exact det_K; exact det_false
 case fieldA => split <;> first | exact det_K | exact det_false
 case field =>
  split
  ·split
   ·split
    ·exact det_K
    ·exact det_false
   ·exact det_and det_K
  ·exact det_false
 case idxA =>
  split
  ·exact det_and (det_opt fun r => det_and det_K)
  ·exact det_and (det_opt fun r => det_and det_K)
  ·split
   ·exact det_and det_K
   ·exact det_and det_K
   ·exact det_false
  ·exact det_false
 case idxR => split <;> first | exact det_and det_K | exact det_false
 case idxS => split; exact det_and (det_opt fun b => det_K); exact det_false
 case nilc => split <;> first | exact det_K | exact det_false
 case build => exact det_build fun x => det_K
 case bslice => exact det_bslice fun x => det_K
 case mkslice => split; exact det_and det_K; exact det_false
 case slc =>
  split
  ·exact det_false
  ·exact det_opt fun rows => det_opt fun lo => det_opt fun hi => det_opt fun mx => det_and det_K
 case slcS => split; exact det_and det_K; exact det_false
 case ext => split; exact det_opt fun v => det_K; exact det_false
 case len =>
  split
  ·exact det_K
  ·exact det_K
  ·exact det_K
  ·split
   ·exact det_K
   ·exact det_K
   ·exact det_false
  ·exact det_false
 case lenS => split; exact det_K; exact det_false
 case mm => split; exact det_K; exact det_false
 case mm4 => split; exact det_K; exact det_false
 case dead => exact det_false
 case fnil => split; exact det_K; exact det_K; exact det_false
 case snil => cases hgc
 case app => exact det_opt fun ys => det_app
 case mkfn => exact det_mkfn fun x => det_K
 case call => split; exact det_call; exact det_false
 case bsliceF => exact det_bsliceF fun x m => det_K
 case mkmap => exact det_K
 case mget =>
  split
  ·refine det_opt fun mk => ?_
   split
   ·split
    ·exact det_and (det_case (fun ps => det_K) det_K)
    ·exact det_false
   ·exact det_and (det_case (fun ps => det_K) det_K)
   ·exact det_false
  ·exact det_false
 case mput =>
  split
  ·refine det_opt fun mk => ?_
   split
   ·refine det_opt fun ys => ?_
    split
    ·exact det_and det_K
    ·exact det_false
   ·exact det_false
  ·exact det_false
 case ment =>
  split
  ·refine det_opt fun mk => ?_
   split
   ·split
    ·exact det_and (det_case (fun ps => det_K) det_K)
    ·exact det_false
   ·exact det_false
  ·exact det_false
 case eput =>
  split
  ·split
   ·refine det_opt fun ys => ?_
    split
    ·exact det_and det_K
    ·exact det_false
   ·exact det_false
  ·exact det_false
end Go.Abs

set_option linter.unusedVariables false
set_option linter.unusedSimpArgs false
namespace Go.Abs
open Go.RowKit

theorem ev_eq {fr fr2 : List (Nat × AV)} {x : AX} (h : ∀ t ∈ x.tmps, look fr2 t = look fr t) : x.ev fr2 = x.ev fr := by
 cases x with
 | t n => exact h n (by simp [AX.tmps])
 | k v => rfl

def Rel1 (s s2 : St) (F F2 : (AV → St → Prop) → Prop) : Prop := ∀ K K2, (∀ v, K v s → K2 v s2) → F K → F2 K2
section
variable {s s2 : St}
theorem rel_K {v : AV} : Rel1 s s2 (fun K => K v s) (fun K => K v s2) := fun K K2 hk h => hk v h
theorem rel_false {F2 : (AV → St → Prop) → Prop} : Rel1 s s2 (fun _ => False) F2 := fun K K2 hk h => h.elim
theorem rel_and {p : Prop} {F F2 : (AV → St → Prop) → Prop} (h : Rel1 s s2 F F2) : Rel1 s s2 (fun K => @andW p ⟨F K⟩) (fun K => @andW p ⟨F2 K⟩) := fun K K2 hk hK => ⟨hK.1, h K K2 hk hK.2⟩
theorem rel_opt {α : Type} {o : Option α} {F F2 : α → (AV → St → Prop) → Prop} (h : ∀ x, Rel1 s s2 (F x) (F2 x)) : Rel1 s s2 (fun K => @optW _ o ⟨fun x => F x K⟩) (fun K => @optW _ o ⟨fun x => F2 x K⟩) := fun K K2 hk hK => by
 obtain ⟨x, e, hK⟩ := hK
 exact ⟨x, e, h x K K2 hk hK⟩
theorem rel_optM {α : Type} {o o2 : Option α} (ho : ∀ x, o = some x → o2 = some x) {F F2 : α → (AV → St → Prop) → Prop} (h : ∀ x, Rel1 s s2 (F x) (F2 x)) : Rel1 s s2 (fun K => @optW _ o ⟨fun x => F x K⟩) (fun K => @optW _ o2 ⟨fun x => F2 x K⟩) := fun K K2 hk hK => by
 obtain ⟨x, e, hK⟩ := hK
 exact ⟨x, ho x e, h x K K2 hk hK⟩
theorem rel_cond {t : Bool} {F G F2 G2 : (AV → St → Prop) → Prop} (h : Rel1 s s2 F F2) (h' : Rel1 s s2 G G2) : Rel1 s s2 (fun K => @condW t ⟨F K⟩ ⟨G K⟩) (fun K => @condW t ⟨F2 K⟩ ⟨G2 K⟩) := fun K K2 hk hK =>
 ⟨fun e => h K K2 hk (hK.1 e), fun e => h' K K2 hk (hK.2 e)⟩
theorem rel_nil {rows : List (List PC)} {F G F2 G2 : (AV → St → Prop) → Prop} (h : Rel1 s s2 F F2) (h' : Rel1 s s2 G G2) : Rel1 s s2 (fun K => @nilW rows ⟨F K⟩ ⟨G K⟩) (fun K => @nilW rows ⟨F2 K⟩ ⟨G2 K⟩) := fun K K2 hk hK =>
 ⟨fun e => h K K2 hk (hK.1 e), h' K K2 hk hK.2⟩
theorem rel_case {α : Type} {o : Option α} {F F2 : α → (AV → St → Prop) → Prop} {G G2 : (AV → St → Prop) → Prop} (h : ∀ x, Rel1 s s2 (F x) (F2 x)) (h' : Rel1 s s2 G G2) : Rel1 s s2 (fun K => @caseW _ o ⟨fun x => F x K⟩ ⟨G K⟩) (fun K => @caseW _ o ⟨fun x => F2 x K⟩ ⟨G2 K⟩) := fun K K2 hk hK =>
 ⟨fun x e => h x K K2 hk (hK.1 x e), fun e => h' K K2 hk (hK.2 e)⟩
theorem rel_binI {op : BinOp} {k : IntKind} {a b : Int} : Rel1 s s2 (fun K => binI op k a b fun v => K (.c (.pure (.val v))) s) (fun K => binI op k a b fun v => K (.c (.pure (.val v))) s2) := by
 cases op <;> simp only [binI] <;> first | exact rel_false | exact rel_and rel_K | exact rel_K
theorem rel_binS {op : BinOp} {a b : ByteArray} : Rel1 s s2 (fun K => binS op a b fun v => K (.c (.pure (.val v))) s) (fun K => binS op a b fun v => K (.c (.pure (.val v))) s2) := by
 cases op <;> simp only [binS] <;> first | exact rel_false | exact rel_and rel_K | exact rel_K
theorem rel_binW {op : BinOp} {x y : Value} : Rel1 s s2 (fun K => binW op x y fun v => K (.c (.pure (.val v))) s) (fun K => binW op x y fun v => K (.c (.pure (.val v))) s2) := by
 unfold binW
 split
 ·exact rel_and rel_binI
 ·exact rel_binS
 ·exact rel_false
theorem rel_shiftW {op : BinOp} {x y : Value} : Rel1 s s2 (fun K => shiftW op x y fun v => K (.c (.pure (.val v))) s) (fun K => shiftW op x y fun v => K (.c (.pure (.val v))) s2) := by
 unfold shiftW
 split
 ·refine rel_and ?_
  cases op <;> simp only [shiftI] <;> first | exact rel_false | exact rel_K
 ·exact rel_false
theorem rel_build {F F2 : List AC → (AV → St → Prop) → Prop} (hF : ∀ x, Rel1 s s2 (F x) (F2 x)) : ∀ {ps : List (Nat × Nat × AX)} {acc : List AC}, (∀ t ∈ psTmps ps, look s2.fr t = look s.fr t) → Rel1 s s2 (fun K => opW.buildW s ps acc fun xs => F xs K) (fun K => opW.buildW s2 ps acc fun xs => F2 xs K)
 | [], acc, h => hF acc
 |(off, n, x) :: ps, acc, h => by
  simp only [opW.buildW]
  rw [ev_eq fun t ht => h t (by simp [psTmps, ht])]
  split
  ·exact rel_and (rel_build hF fun t ht => h t (by simp [psTmps, ht]))
  ·exact rel_false
theorem rel_bslice {sz : Nat} {F F2 : List (List PC) → (AV → St → Prop) → Prop} (hF : ∀ x, Rel1 s s2 (F x) (F2 x)) : ∀ {ps : List AX} {acc : List (List PC)}, (∀ t ∈ xsTmps ps, look s2.fr t = look s.fr t) → Rel1 s s2 (fun K => opW.bsliceW s sz ps acc fun xs => F xs K) (fun K => opW.bsliceW s2 sz ps acc fun xs => F2 xs K)
 | [], acc, h => hF acc
 |x :: ps, acc, h => by
  simp only [opW.bsliceW]
  rw [ev_eq fun t ht => h t (by simp [xsTmps, ht])]
  split
  ·exact rel_opt fun z => rel_and (rel_bslice hF fun t ht => h t (by simp [xsTmps, ht]))
  ·exact rel_false
theorem rel_mkfn {F F2 : List AC → (AV → St → Prop) → Prop} (hF : ∀ x, Rel1 s s2 (F x) (F2 x)) : ∀ {ps : List AX} {acc : List AC}, (∀ t ∈ xsTmps ps, look s2.fr t = look s.fr t) → Rel1 s s2 (fun K => opW.mkfnW s ps acc fun xs => F xs K) (fun K => opW.mkfnW s2 ps acc fun xs => F2 xs K)
 | [], acc, h => hF acc
 |x :: ps, acc, h => by
  simp only [opW.mkfnW]
  rw [ev_eq fun t ht => h t (by simp [xsTmps, ht])]
  split
  ·exact rel_mkfn hF fun t ht => h t (by simp [xsTmps, ht])
  ·exact rel_false
theorem bound_eq {y : Option AX} (h : ∀ t ∈ oTmps y, look s2.fr t = look s.fr t) : opW.boundOf s2 y = opW.boundOf s y := by
 cases y with
 | none => rfl
 | some x => simp only [opW.boundOf, ev_eq (x := x) h]
theorem evs_eq {fr fr2 : List (Nat × AV)} : ∀ {xs : List AX}, (∀ t ∈ xsTmps xs, look fr2 t = look fr t) → xs.map (·.ev fr2) = xs.map (·.ev fr)
 | [], _ => rfl
 |x :: xs, h => by
  rw [List.map_cons, List.map_cons, ev_eq fun t ht => h t (by simp [xsTmps, ht]), evs_eq fun t ht => h t (by simp [xsTmps, ht])]
end

theorem ext_load {m m' : List (Nat × Box)} (hm : extB m m') {q : AC} {xs : List AC} (h : loadCells? m q = some xs) : loadCells? m' q = some xs := by
 unfold loadCells? at h ⊢
 split at h
 ·rename_i nm off
  split at h
  ·rename_i hf; rw [hm _ _ hf]; exact h
  ·cases h
 ·exact h
 ·rename_i nm sz row off
  split at h
  ·rename_i hf; rw [hm _ _ hf]; exact h
  ·rename_i hf; rw [hm _ _ hf]; exact h
  ·cases h
 ·cases h
theorem ext_rows {m m' : List (Nat × Box)} (hm : extB m m') {x : AV} {rows : List (List PC)} (h : rowsOf? m x = some rows) : rowsOf? m' x = some rows := by
 unfold rowsOf? at h ⊢
 split at h
 ·exact h
 ·exact h
 ·exact h
 ·rename_i nm
  split at h
  ·rename_i hf; rw [hm _ _ hf]; exact h
  ·cases h
 ·cases h
theorem ext_purQ {m m' : List (Nat × Box)} (hm : extB m m') {x : AC} {p : PC} (h : purQ m x = some p) : purQ m' x = some p := by
 unfold purQ at h ⊢
 split at h
 ·exact h
 ·exact h
 ·exact h
 ·rename_i nm
  split at h
  ·rename_i hf; rw [hm _ _ hf]; exact h
  ·cases h
 ·cases h
theorem ext_purQs {m m' : List (Nat × Box)} (hm : extB m m') : ∀ {xs : List AC} {ps : List PC}, purQs m xs = some ps → purQs m' xs = some ps
 | [], ps, h => h
 |x :: xs, ps, h => by
  unfold purQs at h ⊢
  split at h
  ·rename_i h1 h2
   rw [ext_purQ hm h1, ext_purQs hm h2]
   exact h
  ·cases h
theorem ext_purEnt {m m' : List (Nat × Box)} (hm : extB m m') {n : Option Nat} {xs : List AC} {ps : List PC} (h : purEnt m n xs = some ps) : purEnt m' n xs = some ps := by
 unfold purEnt at h ⊢
 split at h
 ·split at h
  ·rename_i h1; rw [ext_purQ hm h1]; exact h
  ·cases h
 ·cases h
 ·exact ext_purQs hm h
theorem ext_purEs {m m' : List (Nat × Box)} (hm : extB m m') {n : Option Nat} : ∀ {xs : List (MK × List AC)} {ps : List (MK × List PC)}, purEs m n xs = some ps → purEs m' n xs = some ps
 | [], ps, h => h
 |x :: xs, ps, h => by
  unfold purEs at h ⊢
  split at h
  ·rename_i h1 h2
   rw [ext_purEnt hm h1, ext_purEs hm h2]
   exact h
  ·cases h
theorem ext_purP {m m' : List (Nat × Box)} (hm : extB m m') {x : AC} {p : PC} (h : purP m x = some p) : purP m' x = some p := by
 unfold purP at h ⊢
 split at h
 ·rename_i nm
  split at h
  ·rename_i hf
   rw [hm _ _ hf]
   simp only
   split at h
   ·rename_i h1; rw [ext_purEs hm h1]; exact h
   ·cases h
  ·cases h
 ·exact ext_purQ hm h
theorem ext_purPs {m m' : List (Nat × Box)} (hm : extB m m') : ∀ {xs : List AC} {ps : List PC}, purPs m xs = some ps → purPs m' xs = some ps
 | [], ps, h => h
 |x :: xs, ps, h => by
  unfold purPs at h ⊢
  split at h
  ·rename_i h1 h2
   rw [ext_purP hm h1, ext_purPs hm h2]
   exact h
  ·cases h
theorem ext_purC {m m' : List (Nat × Box)} (hm : extB m m') {x y : AC} (h : purC m x = some y) : purC m' x = some y := by
 unfold purC at h ⊢
 split at h
 ·exact h
 ·exact h
 ·exact h
 ·rename_i nm
  split at h
  ·rename_i hf; rw [hm _ _ hf]; exact h
  ·cases h
 ·exact h
 ·rename_i nm off
  split at h
  ·rename_i hf
   rw [hm _ _ hf]
   simp only
   split at h
   ·rename_i h1; rw [ext_purPs hm h1]; exact h
   ·cases h
  ·cases h
 ·rename_i nm
  split at h
  ·rename_i hf
   rw [hm _ _ hf]
   simp only
   split at h
   ·rename_i h1; rw [ext_purEs hm h1]; exact h
   ·cases h
  ·cases h
 ·cases h
theorem ext_purCs {m m' : List (Nat × Box)} (hm : extB m m') : ∀ {xs ys : List AC}, purCs m xs = some ys → purCs m' xs = some ys
 | [], ps, h => h
 |x :: xs, ps, h => by
  unfold purCs at h ⊢
  split at h
  ·rename_i h1 h2
   rw [ext_purC hm h1, ext_purCs hm h2]
   exact h
  ·cases h
theorem ext_purA {m m' : List (Nat × Box)} (hm : extB m m') {x y : AC} (h : purA m x = some y) : purA m' x = some y := by
 unfold purA at h ⊢
 split at h
 ·split at h
  ·rename_i h1; rw [ext_purCs hm h1]; exact h
  ·cases h
 ·exact ext_purC hm h
theorem ext_purAs {m m' : List (Nat × Box)} (hm : extB m m') : ∀ {xs ys : List AC}, purAs m xs = some ys → purAs m' xs = some ys
 | [], ps, h => h
 |x :: xs, ps, h => by
  unfold purAs at h ⊢
  split at h
  ·rename_i h1 h2
   rw [ext_purA hm h1, ext_purAs hm h2]
   exact h
  ·cases h
theorem ext_purV {m m' : List (Nat × Box)} (hm : extB m m') {x y : AV} (h : purV m x = some y) : purV m' x = some y := by
 unfold purV at h ⊢
 split at h
 ·split at h
  ·rename_i h1; rw [ext_purA hm h1]; exact h
  ·cases h
 ·split at h
  ·rename_i h1; rw [ext_purAs hm h1]; exact h
  ·cases h
 ·cases h
theorem ext_purVs {m m' : List (Nat × Box)} (hm : extB m m') : ∀ {xs ys : List AV}, purVs m xs = some ys → purVs m' xs = some ys
 | [], ps, h => h
 |x :: xs, ps, h => by
  unfold purVs at h ⊢
  split at h
  ·rename_i h1 h2
   rw [ext_purV hm h1, ext_purVs hm h2]
   exact h
  ·cases h

section
variable {P : Program} {op : AOp}
theorem opW_ins {s s2 : St} (he : op.eff = false) (hm : op.sens = true → extB s.mem s2.mem) (hf : ∀ t ∈ op.tmps, look s2.fr t = look s.fr t) : Rel1 s s2 (opW P op s) (opW P op s2) := by
 have eta : ∀ {F F2 : (AV → St → Prop) → Prop}, Rel1 s s2 (fun K => F K) (fun K => F2 K) → Rel1 s s2 F F2 := fun h => h
 apply eta
 cases op <;> simp only [opW] <;> simp [AOp.eff] at he
 case mv => rw [ev_eq hf]; exact rel_K
 case pick c a b =>
  rw [ev_eq (x := c) fun t ht => hf t (by simp [AOp.tmps, ht]), ev_eq (x := a) fun t ht => hf t (by simp [AOp.tmps, ht]), ev_eq (x := b) fun t ht => hf t (by simp [AOp.tmps, ht])]
  split; exact rel_cond rel_K rel_K; exact rel_false
 case load n p =>
  rw [ev_eq (x := p) fun t ht => hf t (by simp [AOp.tmps, ht])]
  split
  ·split
   ·rename_i hl
    rw [ext_load (hm rfl) hl]
    simp only
    split
    ·split
     ·exact rel_K
     ·exact rel_false
    ·exact rel_and rel_K
   ·exact rel_false
  ·exact rel_false
 case bin op x y =>
  rw [ev_eq (x := x) fun t ht => hf t (by simp [AOp.tmps, ht]), ev_eq (x := y) fun t ht => hf t (by simp [AOp.tmps, ht])]
  split
  ·split
   ·exact rel_shiftW
   ·exact rel_shiftW
   ·exact rel_binW
  ·exact rel_false
 case eqb n x y =>
  rw [ev_eq (x := x) fun t ht => hf t (by simp [AOp.tmps, ht]), ev_eq (x := y) fun t ht => hf t (by simp [AOp.tmps, ht])]
  split; exact rel_K; exact rel_false
 case eqs n l x y =>
  rw [ev_eq (x := x) fun t ht => hf t (by simp [AOp.tmps, ht]), ev_eq (x := y) fun t ht => hf t (by simp [AOp.tmps, ht])]
  split; exact rel_and rel_K; exact rel_false
 case un => rw [ev_eq hf]; split <;> first | exact rel_K | exact rel_false
 case conv => rw [ev_eq hf]; split; exact rel_K; exact rel_false
 case fieldA => rw [ev_eq hf]; split <;> first | exact rel_K | exact rel_false
 case field =>
  rw [ev_eq hf]
  split
  ·split
   ·split
    ·exact rel_K
    ·exact rel_false
   ·exact rel_and rel_K
  ·exact rel_false
 case idxA sz x y =>
  rw [ev_eq (x := x) fun t ht => hf t (by simp [AOp.tmps, ht]), ev_eq (x := y) fun t ht => hf t (by simp [AOp.tmps, ht])]
  split
  ·exact rel_and (rel_opt fun r => rel_and rel_K)
  ·exact rel_and (rel_opt fun r => rel_and rel_K)
  ·split
   ·rename_i hl
    rw [hm rfl _ _ hl]
    exact rel_and rel_K
   ·rename_i hl
    rw [hm rfl _ _ hl]
    exact rel_and rel_K
   ·exact rel_false
  ·exact rel_false
 case idxR l sz x y =>
  rw [ev_eq (x := x) fun t ht => hf t (by simp [AOp.tmps, ht]), ev_eq (x := y) fun t ht => hf t (by simp [AOp.tmps, ht])]
  split <;> first | exact rel_and rel_K | exact rel_false
 case idxS x y =>
  rw [ev_eq (x := x) fun t ht => hf t (by simp [AOp.tmps, ht]), ev_eq (x := y) fun t ht => hf t (by simp [AOp.tmps, ht])]
  split; exact rel_and (rel_opt fun b => rel_K); exact rel_false
 case nilc => rw [ev_eq hf]; split <;> first | exact rel_K | exact rel_false
 case build => exact rel_build (fun x => rel_K) hf
 case bslice => exact rel_bslice (fun x => rel_K) hf
 case slc sz x l h m =>
  rw [ev_eq (x := x) fun t ht => hf t (by simp [AOp.tmps, ht]), bound_eq (y := l) fun t ht => hf t (by simp [AOp.tmps, ht]), bound_eq (y := h) fun t ht => hf t (by simp [AOp.tmps, ht]), bound_eq (y := m) fun t ht => hf t (by simp [AOp.tmps, ht])]
  split
  ·exact rel_false
  ·exact rel_optM (fun rows hr => ext_rows (hm rfl) hr) fun rows => rel_opt fun lo => rel_opt fun hi => rel_opt fun mx => rel_and rel_K
 case slcS x l h =>
  rw [ev_eq (x := x) fun t ht => hf t (by simp [AOp.tmps, ht]), bound_eq (y := l) fun t ht => hf t (by simp [AOp.tmps, ht]), bound_eq (y := h) fun t ht => hf t (by simp [AOp.tmps, ht])]
  split; exact rel_and rel_K; exact rel_false
 case ext => rw [ev_eq hf]; split; exact rel_opt fun v => rel_K; exact rel_false
 case len =>
  rw [ev_eq hf]
  split
  ·exact rel_K
  ·exact rel_K
  ·exact rel_K
  ·split
   ·rename_i hl
    rw [hm rfl _ _ hl]
    exact rel_K
   ·rename_i hl
    rw [hm rfl _ _ hl]
    exact rel_K
   ·exact rel_false
  ·exact rel_false
 case lenS => rw [ev_eq hf]; split; exact rel_K; exact rel_false
 case mm4 x y z t =>
  rw [ev_eq (x := x) fun u hu => hf u (by simp [AOp.tmps, hu]), ev_eq (x := y) fun u hu => hf u (by simp [AOp.tmps, hu]), ev_eq (x := z) fun u hu => hf u (by simp [AOp.tmps, hu]), ev_eq (x := t) fun u hu => hf u (by simp [AOp.tmps, hu])]
  split; exact rel_K; exact rel_false
 case dead => exact rel_false
 case mm m x y =>
  rw [ev_eq (x := x) fun t ht => hf t (by simp [AOp.tmps, ht]), ev_eq (x := y) fun t ht => hf t (by simp [AOp.tmps, ht])]
  split; exact rel_K; exact rel_false
 case fnil => rw [ev_eq hf]; split; exact rel_K; exact rel_K; exact rel_false
 case snil =>
  rw [ev_eq hf]
  split
  ·exact rel_K
  ·exact rel_nil rel_K rel_K
  ·exact rel_nil rel_K rel_K
  ·split
   ·rename_i hl
    rw [hm rfl _ _ hl]
    exact rel_nil rel_K rel_K
   ·exact rel_false
  ·exact rel_false
 case mkfn => exact rel_mkfn (fun x => rel_K) hf
 case call g z f xs =>
  obtain ⟨rfl, rfl⟩ := he
  rw [ev_eq (x := f) fun t ht => hf t (by simp [AOp.tmps, ht]), evs_eq (xs := xs) fun t ht => hf t (by simp [AOp.tmps, ht])]
  split
  ·rintro K K2 hk ⟨l, σ', args', hl, hz, (⟨pargs, h1, res, h2, h4⟩ | ⟨h1, _⟩)⟩
   ·rcases hl with rfl | hl
    ·cases hz
     exact ⟨[], _, _, .inl rfl, rfl, .inl ⟨pargs, ext_purVs (hm rfl) h1, res, h2, hk _ h4⟩⟩
    ·cases hl
   ·cases h1
  ·exact rel_false
 case mget kt n z ok m k =>
  rw [ev_eq (x := m) fun t ht => hf t (by simp [AOp.tmps, ht]), ev_eq (x := k) fun t ht => hf t (by simp [AOp.tmps, ht])]
  split
  ·refine rel_opt fun mk => ?_
   split
   ·split
    ·rename_i hl
     rw [hm rfl _ _ hl]
     exact rel_and (rel_case (fun ps => rel_K) rel_K)
    ·exact rel_false
   ·exact rel_and (rel_case (fun ps => rel_K) rel_K)
   ·exact rel_false
  ·exact rel_false

theorem bsliceF_eff {s s2 : St} {sz : Nat} {F F2 : List (List PC) → List (Nat × Box) → Prop} (hF : ∀ x m, F x m → F2 x m) : ∀ {ps : List AX} {mem : List (Nat × Box)} {acc : List (List PC)}, (∀ t ∈ xsTmps ps, look s2.fr t = look s.fr t) → opW.bsliceFW s sz ps mem acc F → opW.bsliceFW s2 sz ps mem acc F2
 | [], mem, acc, h, h1 => hF _ _ h1
 |x :: ps, mem, acc, h, h1 => by
  simp only [opW.bsliceFW] at h1 ⊢
  rw [ev_eq fun t ht => h t (by simp [xsTmps, ht])]
  split at h1
  ·obtain ⟨z, e, h2, h3⟩ := h1
   exact ⟨z, e, h2, bsliceF_eff hF (fun t ht => h t (by simp [xsTmps, ht])) h3⟩
  ·exact h1.elim

theorem opW_eff {fr fr2 : List (Nat × AV)} {mem : List (Nat × Box)} {nx b : Nat} {K K2 : AV → St → Prop} (he : op.eff = true) (hgc : op.gcall = false) (hf : ∀ t ∈ op.tmps, look fr2 t = look fr t) (hk : ∀ v m n, K v ⟨fr, m, n, b⟩ → K2 v ⟨fr2, m, n, b⟩) (h : opW P op ⟨fr, mem, nx, b⟩ K) : opW P op ⟨fr2, mem, nx, b⟩ K2 := by
 cases op <;> simp [AOp.eff] at he <;> simp only [opW] at h ⊢
 case box x =>
  rw [ev_eq (x := x) hf]
  split at h
  ·exact hk _ _ _ h
  ·exact h.elim
 case store n x y =>
  rw [ev_eq (x := x) fun t ht => hf t (by simp [AOp.tmps, ht]), ev_eq (x := y) fun t ht => hf t (by simp [AOp.tmps, ht])]
  split at h
  ·split at h
   ·exact ⟨h.1, hk _ _ _ h.2⟩
   ·exact h.elim
  ·split at h
   ·obtain ⟨h1, zs, h2, r, h3, h4⟩ := h
    exact ⟨h1, zs, h2, r, h3, hk _ _ _ h4⟩
   ·obtain ⟨h1, r, h3, h4⟩ := h
    exact ⟨h1, r, h3, hk _ _ _ h4⟩
   ·exact h.elim
  ·exact h.elim
 case mkslice e sz b z x =>
  rw [ev_eq (x := x) hf]
  split at h
  ·exact ⟨h.1, hk _ _ _ h.2⟩
  ·exact h.elim
 case call g z f xs =>
  simp only [AOp.gcall] at hgc
  subst hgc
  rw [ev_eq (x := f) fun t ht => hf t (by simp [AOp.tmps, ht]), evs_eq (xs := xs) fun t ht => hf t (by simp [AOp.tmps, ht])]
  split at h
  ·obtain ⟨l, σ', args', hl, hz, h⟩ := h
   rcases hl with rfl | hl
   ·cases hz
    rcases h with ⟨pargs, h1, res, h2, h4⟩ | ⟨h1, res, m, n, h2, h4⟩
    ·exact ⟨[], _, _, .inl rfl, rfl, .inl ⟨pargs, h1, res, h2, hk _ _ _ h4⟩⟩
    ·exact ⟨[], _, _, .inl rfl, rfl, .inr ⟨h1, res, m, n, h2, hk _ _ _ h4⟩⟩
   ·cases hl
  ·exact h.elim
 case bsliceF sz xs => exact bsliceF_eff (s := ⟨fr, mem, nx, b⟩) (s2 := ⟨fr2, mem, nx, b⟩) (fun x m h => hk _ _ _ h) hf h
 case mkmap kt n => exact hk _ _ _ h
 case mput kt n m k v =>
  rw [ev_eq (x := m) fun t ht => hf t (by simp [AOp.tmps, ht]), ev_eq (x := k) fun t ht => hf t (by simp [AOp.tmps, ht]), ev_eq (x := v) fun t ht => hf t (by simp [AOp.tmps, ht])]
  split at h
  ·obtain ⟨mk, hmk, h⟩ := h
   refine ⟨mk, hmk, ?_⟩
   simp only at h ⊢
   split at h
   ·obtain ⟨ys, hys, h⟩ := h
    refine ⟨ys, hys, ?_⟩
    simp only at h ⊢
    split at h
    ·exact ⟨h.1, hk _ _ _ h.2⟩
    ·exact h.elim
   ·exact h.elim
  ·exact h.elim
 case ment kt n z m k =>
  rw [ev_eq (x := m) fun t ht => hf t (by simp [AOp.tmps, ht]), ev_eq (x := k) fun t ht => hf t (by simp [AOp.tmps, ht])]
  split at h
  ·obtain ⟨mk, hmk, h⟩ := h
   refine ⟨mk, hmk, ?_⟩
   simp only at h ⊢
   split at h
   ·split at h
    ·exact ⟨h.1, fun x e => hk _ _ _ (h.2.1 x e), fun e => hk _ _ _ (h.2.2 e)⟩
    ·exact h.elim
   ·exact h.elim
  ·exact h.elim
 case eput kt n m k v =>
  rw [ev_eq (x := m) fun t ht => hf t (by simp [AOp.tmps, ht]), ev_eq (x := k) fun t ht => hf t (by simp [AOp.tmps, ht]), ev_eq (x := v) fun t ht => hf t (by simp [AOp.tmps, ht])]
  split at h
  ·split at h
   ·obtain ⟨ys, hys, h⟩ := h
    refine ⟨ys, hys, ?_⟩
    simp only at h ⊢
    split at h
    ·exact ⟨h.1, hk _ _ _ h.2⟩
    ·exact h.elim
   ·exact h.elim
  ·exact h.elim
 case app e sz b x y =>
  rw [ev_eq (x := x) fun t ht => hf t (by simp [AOp.tmps, ht]), ev_eq (x := y) fun t ht => hf t (by simp [AOp.tmps, ht])]
  obtain ⟨ys, hys, hok, h⟩ := h
  refine ⟨ys, hys, hok, ?_⟩
  rcases h with ⟨nm, h1, h2, rows, h3, h4, h5, h6⟩ | ⟨h1, h | h⟩ | ⟨rows, h1, h2, ⟨h3, h⟩ | h | h⟩
  ·exact .inl ⟨nm, h1, h2, rows, h3, h4, h5, hk _ _ _ h6⟩
  ·exact .inr (.inl ⟨h1, .inl ⟨h.1, h.2.1, hk _ _ _ h.2.2⟩⟩)
  ·exact .inr (.inl ⟨h1, .inr ⟨h.1, h.2.1, hk _ _ _ h.2.2⟩⟩)
  ·exact .inr (.inr ⟨rows, h1, h2, .inl ⟨h3, h.1, h.2.1, hk _ _ _ h.2.2⟩⟩)
  ·exact .inr (.inr ⟨rows, h1, h2, .inr (.inl ⟨h.1, h.2.1, hk _ _ _ h.2.2⟩)⟩)
  ·exact .inr (.inr ⟨rows, h1, h2, .inr (.inr ⟨h.1, hk _ _ _ h.2⟩)⟩)
end
end Go.Abs

set_option linter.unusedVariables false
set_option linter.unusedSimpArgs false
namespace Go.Abs
open Go.RowKit

theorem opW_keep {P : Program} {op : AOp} {σ : St} {v : AV} {τ : St} (hgc : op.gcall = false) (h : opW P op σ fun v' τ' => v' = v ∧ τ' = τ) : τ.fr = σ.fr ∧ τ.base = σ.base ∧ (op.eff = false → τ = σ) := by
 by_cases he : op.eff = true
 ·obtain ⟨fr, mem, nx, b⟩ := σ
  have h2 := opW_eff (fr2 := fr) (K2 := fun v' τ' => (v' = v ∧ τ' = τ) ∧ τ'.fr = fr ∧ τ'.base = b) he hgc (fun _ _ => rfl) (fun v m n hk => ⟨hk, rfl, rfl⟩) h
  obtain ⟨v2, s2, _, ⟨_, h4⟩, h5⟩ := opW_det hgc _ h2
  rw [← h4]; exact ⟨h5.1, h5.2, fun e => by rw [he] at e; cases e⟩
 ·have he' : op.eff = false := by simpa using he
  have h2 := opW_ins (s2 := σ) he' (fun _ _ _ h => h) (fun _ _ => rfl) (fun v' τ' => v' = v ∧ τ' = τ) (fun v' τ' => (v' = v ∧ τ' = τ) ∧ τ' = σ) (fun v' hk => ⟨hk, rfl⟩) h
  obtain ⟨v2, s2, _, ⟨_, h4⟩, h5⟩ := opW_det hgc _ h2
  subst h4
  subst h5
  exact ⟨rfl, rfl, fun _ => rfl⟩

def StepG (P : Program) (g : AG) (σ : St) (v : AV) (σ' : St) : Prop :=
 ((g.op.gcall = false ∧ (g.guard = none ∨ ∃ t want, g.guard = some (t, want) ∧ look σ.fr t = .c (.pure (.val (.bool want))))) ∧ ∃ τ, (opW P g.op σ fun v' τ' => v' = v ∧ τ' = τ) ∧ σ' = τ.put g.dst v) ∨
 (∃ t want, g.guard = some (t, want) ∧ (look σ.fr t = .tup [] ∨ look σ.fr t = .c (.pure (.val (.bool (!want))))) ∧ v = .tup [] ∧ σ' = σ.put g.dst (.tup []))

theorem opsX_chain {P : Program} {K : St → Prop} : ∀ {gs : List (Bool × AG)} {σ : St}, (gs.all fun y => !y.2.op.gcall) = true → opsX P gs σ K → ∃ (v : Nat → AV) (s : Nat → St), s 0 = σ ∧ (∀ k y, gs[k]? = some y → StepG P y.2 (s k) (v k) (s (k + 1)) ∧ (y.1 = true → extB (s k).mem (s (k + 1)).mem)) ∧ K (s gs.length)
 | [], σ, _, h => ⟨fun _ => .top, fun _ => σ, rfl, (fun k g hk => by simp at hk), h⟩
 |(x, g) :: gs, σ, hall, h => by
  simp only [List.all_cons, Bool.and_eq_true, Bool.not_eq_true'] at hall
  have pmem : ∀ {τ : St} {v : AV}, (τ.put g.dst v).mem = τ.mem := fun {τ v} => by cases g.dst <;> rfl
  have one : ∃ v σ', (StepG P g σ v σ' ∧ (x = true → extB σ.mem σ'.mem)) ∧ opsX P gs σ' K := by
   have run : (g.guard = none ∨ ∃ t want, g.guard = some (t, want) ∧ look σ.fr t = .c (.pure (.val (.bool want)))) → (opW P g.op σ fun v σ' => @andW (x = true → extC σ.mem σ'.mem) ⟨opsX P gs (σ'.put g.dst v) K⟩) → ∃ v σ', (StepG P g σ v σ' ∧ (x = true → extB σ.mem σ'.mem)) ∧ opsX P gs σ' K := by
    intro hg h
    obtain ⟨v, τ, h1, h2, h3⟩ := opW_det hall.1 _ h
    exact ⟨v, _, ⟨.inl ⟨⟨hall.1, hg⟩, τ, h1, rfl⟩, by rw [pmem]; exact fun e => extB_of (h2 e)⟩, h3⟩
   simp only [opsX] at h
   split at h
   ·rename_i hg
    exact run (.inl hg) h
   ·rename_i t want hg
    split at h
    ·rename_i b hb
     by_cases e : b = want
     ·subst e
      exact run (.inr ⟨t, b, hg, hb⟩) (h.1 (by simp))
     ·refine ⟨.tup [], _, ⟨.inr ⟨t, want, hg, .inr ?_, rfl, rfl⟩, fun _ => by rw [pmem]; exact fun _ _ h => h⟩, h.2 (by simp [e])⟩
      rw [hb]
      cases b <;> cases want <;> simp_all
    ·rename_i hb
     exact ⟨.tup [], _, ⟨.inr ⟨t, want, hg, .inl hb, rfl, rfl⟩, fun _ => by rw [pmem]; exact fun _ _ h => h⟩, h⟩
    ·exact h.elim
  obtain ⟨v0, σ1, h1, h2⟩ := one
  obtain ⟨v, s, g1, g2, g3⟩ := opsX_chain hall.2 h2
  refine ⟨fun k => match k with | 0 => v0 | k + 1 => v k, fun k => match k with | 0 => σ | k + 1 => s k, rfl, fun k g' hk => ?_, g3⟩
  cases k with
  | zero =>
   simp at hk
   subst hk
   show StepG P g σ v0 (s 0) ∧ (x = true → extB σ.mem (s 0).mem)
   rw [g1]
   exact h1
  | succ k => exact g2 k g' (by simpa using hk)


theorem edgesOk_at : ∀ {ops : List Oper} {k j : Nat} {o : Oper}, edgesOk k ops = true → ops[j]? = some o → ∀ e ∈ o.after.toList, Region.binds .any e = true → e.on < k + j
 | [], k, j, o, h, hj => by simp at hj
 |x :: ops, k, j, o, h, hj => by
  simp only [edgesOk, Bool.and_eq_true, List.all_eq_true, decide_eq_true_eq, Bool.or_eq_true, Bool.not_eq_true'] at h
  cases j with
  | zero =>
   simp at hj
   subst hj
   intro e he hb
   rcases h.1 e he with h | h
   ·rw [hb] at h; cases h
   ·exact h
  | succ j =>
   simp at hj
   intro e he hb
   have := edgesOk_at h.2 hj e he hb
   omega

theorem orX_bit {acc : List (Nat × Nat)} {i : Nat} : ∀ {ks : List Nat}, (orX acc ks).testBit i = true → ∃ k ∈ ks, k = i ∨ (getM acc k).testBit i = true
 | [], h => by simp [orX] at h
 |k :: r, h => by
  simp only [orX] at h
  rw [Nat.testBit_or, Nat.testBit_or] at h
  simp only [Bool.or_eq_true] at h
  rcases h with (h | h) | h
  ·refine ⟨k, List.mem_cons_self, .inl ?_⟩
   rw [Nat.testBit_two_pow] at h
   simpa using h
  ·exact ⟨k, List.mem_cons_self, .inr h⟩
  ·obtain ⟨k', h1, h2⟩ := orX_bit h
   exact ⟨k', List.mem_cons_of_mem _ h1, h2⟩
def ClosedX (ops : List Oper) (E : List (Nat × Nat)) (S : Nat → Bool) : Prop := ∀ (j : Nat) o, ops[j]? = some o → S j = true → ∀ k ∈ predsX E j o, S k = true
theorem maskX_closed {ops : List Oper} {E : List (Nat × Nat)} {S : Nat → Bool} (hcl : ClosedX ops E S) : ∀ {ord : List Nat} {acc : List (Nat × Nat)},
  (∀ k i, (getM acc k).testBit i = true → S k = true → S i = true) → ∀ k i, (getM (maskX ops E ord acc) k).testBit i = true → S k = true → S i = true
 | [], acc, hacc, k, i, h, hk => hacc k i h hk
 |j :: r, acc, hacc, k, i, h, hk => by
  simp only [maskX] at h
  refine maskX_closed hcl (fun k i h hk => ?_) k i h hk
  simp only [getM] at h
  split at h
  ·rename_i e
   subst e
   split at h
   ·rename_i o ho
    obtain ⟨k', h1, h2⟩ := orX_bit h
    have hk' := hcl j o ho hk k' h1
    rcases h2 with rfl | h2
    ·exact hk'
    ·exact hacc _ _ h2 hk'
   ·simp at h
  ·exact hacc k i h hk
theorem maskX_next {ops : List Oper} {E : List (Nat × Nat)} {S : Nat → Bool} (hcl : ClosedX ops E S) {j : Nat} {o : Oper} (ho : ops[j]? = some o) (hp : ∀ k ∈ predsX E j o, S k = true) :
  ∀ {ord : List Nat} {acc : List (Nat × Nat)}, (∀ k i, (getM acc k).testBit i = true → S k = true → S i = true) → (∀ i, (getM acc j).testBit i = true → S i = true) → ∀ i, (getM (maskX ops E ord acc) j).testBit i = true → S i = true
 | [], acc, hacc, hj, i, h => hj i h
 |k :: r, acc, hacc, hj, i, h => by
  simp only [maskX] at h
  refine maskX_next hcl ho hp (fun k' i g hk => ?_) (fun i g => ?_) i h
  ·clear h
   simp only [getM] at g
   split at g
   ·rename_i e
    subst e
    split at g
    ·rename_i o' ho'
     obtain ⟨k'', h1, h2⟩ := orX_bit g
     have hk' := hcl _ o' ho' hk k'' h1
     rcases h2 with rfl | h2
     ·exact hk'
     ·exact hacc _ _ h2 hk'
    ·simp at g
   ·exact hacc k' i g hk
  ·clear h
   simp only [getM] at g
   split at g
   ·rename_i e
    subst e
    rw [ho] at g
    obtain ⟨k'', h1, h2⟩ := orX_bit g
    have hk' := hp k'' h1
    rcases h2 with rfl | h2
    ·exact hk'
    ·exact hacc _ _ h2 hk'
   ·exact hj i g
end Go.Abs

set_option linter.unusedVariables false
set_option linter.unusedSimpArgs false
namespace Go.Abs
open Go.RowKit

theorem size_put (a : Act) (d : Option Nat) (v : Value) : (a.put d v).tmps.size = a.tmps.size := by
 cases d <;> simp [Act.put]
theorem get_of_getD {a : Act} {t : Nat} {v : Value} (h : a.tmps.getD t undef = v) (hv : v ≠ undef) : a.tmps[t]? = some v := by
 simp only [Array.getD_eq_getD_getElem?] at h
 cases e : a.tmps[t]? with
 | none => rw [e] at h; exact absurd h.symm hv
 | some u => rw [e] at h; simp at h; rw [h]

def gdst (gs : List AG) (k : Nat) : Option Nat := (gs[k]?).bind (·.dst)
def geff (gs : List AG) (k : Nat) : Bool := match gs[k]? with | some g => g.op.eff | none => false
def frOf (gs : List AG) (v : Nat → AV) (fr0 : List (Nat × AV)) (S : Nat → Bool) : Nat → List (Nat × AV)
 | 0 => fr0
 | k + 1 => if S k = true then (match gdst gs k with | some d => (d, v k) :: frOf gs v fr0 S k | none => frOf gs v fr0 S k) else frOf gs v fr0 S k
def memOf (gs : List AG) (s : Nat → St) (S : Nat → Bool) : Nat → List (Nat × Box) × Nat
 | 0 => ((s 0).mem, (s 0).nx)
 | k + 1 => if S k = true ∧ geff gs k = true then ((s (k + 1)).mem, (s (k + 1)).nx) else memOf gs s S k

section
variable {P : Program} {gs : List AG} {v : Nat → AV} {s : Nat → St}

theorem put_fr {σ : St} {d : Option Nat} {x : AV} {t : Nat} : look (σ.put d x).fr t = if d = some t then x else look σ.fr t := by
 cases d with
 | none => simp [St.put]
 | some d =>
  show (if d = t then x else look σ.fr t) = _
  by_cases e : d = t <;> simp [e]
theorem put_mem {σ : St} {d : Option Nat} {x : AV} : (σ.put d x).mem = σ.mem ∧ (σ.put d x).nx = σ.nx := by cases d <;> exact ⟨rfl, rfl⟩

theorem step_fr {g : AG} {σ σ' : St} {x : AV} (h : StepG P g σ x σ') (t : Nat) : look σ'.fr t = if g.dst = some t then x else look σ.fr t := by
 rcases h with ⟨hg0, τ, h1, rfl⟩ | ⟨_, _, _, _, rfl, rfl⟩
 ·rw [put_fr, (opW_keep hg0.1 h1).1]
 ·rw [put_fr]
theorem step_mem {g : AG} {σ σ' : St} {x : AV} (h : StepG P g σ x σ') (he : g.op.eff = false) : σ'.mem = σ.mem ∧ σ'.nx = σ.nx := by
 rcases h with ⟨hg0, τ, h1, rfl⟩ | ⟨_, _, _, _, rfl, rfl⟩
 ·rw [put_mem.1, put_mem.2, (opW_keep hg0.1 h1).2.2 he]
  exact ⟨rfl, rfl⟩
 ·exact put_mem

theorem put_base {σ : St} {d : Option Nat} {x : AV} : (σ.put d x).base = σ.base := by cases d <;> rfl
theorem step_base {g : AG} {σ σ' : St} {x : AV} (h : StepG P g σ x σ') : σ'.base = σ.base := by
 rcases h with ⟨hg0, τ, h1, rfl⟩ | ⟨_, _, _, _, rfl, rfl⟩
 ·rw [put_base, (opW_keep hg0.1 h1).2.1]
 ·exact put_base
theorem chain_base (hch : ∀ k g, gs[k]? = some g → StepG P g (s k) (v k) (s (k + 1))) : ∀ {i : Nat}, i ≤ gs.length → (s i).base = (s 0).base
 | 0, _ => rfl
 | i + 1, h => (step_base (hch i _ (List.getElem?_eq_getElem (show i < gs.length by omega)))).trans (chain_base hch (by omega))
theorem frOf_look (hch : ∀ k g, gs[k]? = some g → StepG P g (s k) (v k) (s (k + 1))) {S : Nat → Bool} {t i : Nat} : ∀ {n : Nat}, n ≤ gs.length → i ≤ n → (∀ k, k < n → gdst gs k = some t → (S k = true ↔ k < i)) → look (frOf gs v (s 0).fr S n) t = look (s i).fr t
 |0, _, hi, _ => by
  obtain rfl : i = 0 := by omega
  rfl
 |n + 1, hn, hi, h => by
  have hg := List.getElem?_eq_getElem (show n < gs.length by omega)
  by_cases e : i = n + 1
  ·subst e
   have ih := frOf_look hch (S := S) (t := t) (i := n) (n := n) (by omega) (Nat.le_refl _) (fun k hk hd => ⟨fun _ => hk, fun _ => (h k (by omega) hd).2 (by omega)⟩)
   rw [step_fr (hch n _ hg) t]
   simp only [frOf]
   by_cases hd : gdst gs n = some t
   ·rw [if_pos ((h n (by omega) hd).2 (by omega)), hd]
    have hd' : gs[n].dst = some t := by simpa [gdst, hg] using hd
    rw [if_pos hd', look_put, if_pos rfl]
   ·have hd' : ¬ gs[n].dst = some t := by simpa [gdst, hg] using hd
    rw [if_neg hd']
    split
    ·split
     ·rename_i d hd2
      rw [look_put, if_neg (fun e => hd (by rw [hd2, e]))]
      exact ih
     ·exact ih
    ·exact ih
  ·have ih := frOf_look hch (S := S) (t := t) (i := i) (n := n) (by omega) (by omega) (fun k hk hd => h k (by omega) hd)
   simp only [frOf]
   by_cases hd : gdst gs n = some t
   ·rw [if_neg (fun hs => by have := (h n (by omega) hd).1 hs; omega)]
    exact ih
   ·split
    ·split
     ·rename_i d hd2
      rw [look_put, if_neg (fun e => hd (by rw [hd2, e]))]
      exact ih
     ·exact ih
    ·exact ih

theorem memOf_eq (hch : ∀ k g, gs[k]? = some g → StepG P g (s k) (v k) (s (k + 1))) {S : Nat → Bool} {i : Nat} : ∀ {n : Nat}, n ≤ gs.length → i ≤ n → (∀ k, k < n → geff gs k = true → (S k = true ↔ k < i)) → memOf gs s S n = ((s i).mem, (s i).nx)
 |0, _, hi, _ => by
  obtain rfl : i = 0 := by omega
  rfl
 |n + 1, hn, hi, h => by
  have hg := List.getElem?_eq_getElem (show n < gs.length by omega)
  by_cases e : i = n + 1
  ·subst e
   have ih := memOf_eq hch (S := S) (i := n) (n := n) (by omega) (Nat.le_refl _) (fun k hk hd => ⟨fun _ => hk, fun _ => (h k (by omega) hd).2 (by omega)⟩)
   simp only [memOf]
   by_cases he : geff gs n = true
   ·rw [if_pos ⟨(h n (by omega) he).2 (by omega), he⟩]
   ·rw [if_neg (fun hh => he hh.2), ih]
    have he' : gs[n].op.eff = false := by simpa [geff, hg] using he
    have := step_mem (hch n _ hg) he'
    rw [this.1, this.2]
  ·have ih := memOf_eq hch (S := S) (i := i) (n := n) (by omega) (by omega) (fun k hk hd => h k (by omega) hd)
   simp only [memOf]
   rw [if_neg (fun hh => by have := (h n (by omega) hh.2).1 hh.1; omega)]
   exact ih

theorem memOf_ext (hch : ∀ k g, gs[k]? = some g → StepG P g (s k) (v k) (s (k + 1))) {S : Nat → Bool} {p : Nat} (h1 : ∀ k, k < p → geff gs k = true → S k = true) (h2 : ∀ k, p ≤ k → k < gs.length → geff gs k = true → S k = true → extB (s k).mem (s (k + 1)).mem)
  (h3 : ∀ k q, k < q → q < gs.length → geff gs k = true → geff gs q = true → S q = true → S k = true) : ∀ {n : Nat}, n ≤ gs.length → p ≤ n → extB (s p).mem (memOf gs s S n).1
 |0, hn, hp => by
  obtain rfl : p = 0 := by omega
  exact fun _ _ h => h
 |n + 1, hn, hp => by
  by_cases e : p = n + 1
  ·subst e
   have := memOf_eq hch (S := fun k => decide (k < n + 1)) (i := n + 1) (n := n + 1) hn (Nat.le_refl _) (fun k hk _ => by simp)
   have same : ∀ m, m ≤ n + 1 → memOf gs s S m = memOf gs s (fun k => decide (k < n + 1)) m := by
    intro m
    induction m with
    | zero => intro _; rfl
    | succ m ih =>
     intro hm
     simp only [memOf]
     rw [ih (by omega)]
     by_cases he : geff gs m = true
     ·rw [if_pos ⟨h1 m (by omega) he, he⟩, if_pos ⟨by simp; omega, he⟩]
     ·rw [if_neg (fun hh => he hh.2), if_neg (fun hh => he hh.2)]
   rw [same _ (Nat.le_refl _), this]
   exact fun _ _ h => h
  ·have ih := memOf_ext hch h1 h2 h3 (n := n) (by omega) (by omega)
   simp only [memOf]
   by_cases hs : S n = true ∧ geff gs n = true
   ·rw [if_pos hs]
    have key : ∀ m, p ≤ m → m ≤ n + 1 → extB (s p).mem (s m).mem := by
     intro m
     induction m with
     | zero =>
      intro hp _
      obtain rfl : p = 0 := by omega
      exact fun _ _ h => h
     | succ m ih =>
      intro hpm hm
      by_cases e : p = m + 1
      ·subst e; exact fun _ _ h => h
      ·have hk := ih (by omega) (by omega)
       by_cases he : geff gs m = true
       ·have hS : S m = true := by
         by_cases e2 : m = n
         ·subst e2; exact hs.1
         ·exact h3 m n (by omega) (by omega) he hs.2 hs.1
        exact fun nm bx hf => h2 m (by omega) (by omega) he hS nm bx (hk nm bx hf)
       ·have hg := List.getElem?_eq_getElem (show m < gs.length by omega)
        have he' : gs[m].op.eff = false := by simpa [geff, hg] using he
        rw [(step_mem (hch m _ hg) he').1]
        exact hk
    exact key (n + 1) (by omega) (Nat.le_refl _)
   ·rw [if_neg hs]
    exact ih

def addS (S : Nat → Bool) (i : Nat) : Nat → Bool := fun k => if k = i then true else S k
theorem frOf_add {S : Nat → Bool} {i t : Nat} {fr0 : List (Nat × AV)} (hi : S i = false) : ∀ {n : Nat}, i < n → (gdst gs i = some t → ∀ k, i < k → gdst gs k = some t → S k = false) → look (frOf gs v fr0 (addS S i) n) t = if gdst gs i = some t then v i else look (frOf gs v fr0 S n) t
 | 0, hn, _ => by omega
 |n + 1, hn, h => by
  have same : ∀ {m : Nat}, m ≤ i → frOf gs v fr0 (addS S i) m = frOf gs v fr0 S m := by
   intro m
   induction m with
   | zero => intro _; rfl
   | succ m ih =>
    intro hm
    simp only [frOf]
    rw [ih (by omega)]
    have : addS S i m = S m := if_neg (by omega)
    rw [this]
  by_cases e : i = n
  ·subst e
   simp only [frOf]
   rw [if_pos (show addS S i i = true from if_pos rfl), hi, if_neg (show ¬ false = true from fun e => by cases e), same (Nat.le_refl _)]
   cases hd : gdst gs i with
   | none => simp
   | some d =>
    show look ((d, v i) :: frOf gs v fr0 S i) t = if some d = some t then v i else look (frOf gs v fr0 S i) t
    rw [look_put]
    by_cases e : d = t <;> simp [e]
  ·have ih := frOf_add (fr0 := fr0) (t := t) hi (n := n) (by omega) h
   have hn' : addS S i n = S n := if_neg (by omega)
   simp only [frOf]
   rw [hn']
   by_cases hs : S n = true
   ·rw [if_pos hs, if_pos hs]
    split
    ·rename_i d hd
     rw [look_put, look_put]
     by_cases e2 : d = t
     ·subst e2
      rw [if_pos rfl, if_pos rfl]
      by_cases e3 : gdst gs i = some d
      ·have := h e3 n (by omega) hd
       rw [hs] at this
       cases this
      ·rw [if_neg e3]
     ·rw [if_neg e2, if_neg e2]
      exact ih
    ·exact ih
   ·rw [if_neg hs, if_neg hs]
    exact ih
theorem memOf_add {S : Nat → Bool} {i : Nat} (hi : S i = false) : ∀ {n : Nat}, i < n → (geff gs i = true → ∀ k, i < k → geff gs k = true → S k = false) → memOf gs s (addS S i) n = if geff gs i = true then ((s (i + 1)).mem, (s (i + 1)).nx) else memOf gs s S n
 | 0, hn, _ => by omega
 |n + 1, hn, h => by
  have same : ∀ {m : Nat}, m ≤ i → memOf gs s (addS S i) m = memOf gs s S m := by
   intro m
   induction m with
   | zero => intro _; rfl
   | succ m ih =>
    intro hm
    simp only [memOf]
    rw [ih (by omega)]
    have : addS S i m = S m := if_neg (by omega)
    rw [this]
  by_cases e : i = n
  ·subst e
   simp only [memOf]
   have h1 : addS S i i = true := if_pos rfl
   rw [same (Nat.le_refl _)]
   by_cases he : geff gs i = true
   ·rw [if_pos ⟨h1, he⟩, if_pos he]
   ·rw [if_neg (fun hh => he hh.2), if_neg he, if_neg (fun hh => he hh.2)]
  ·have ih := memOf_add hi (n := n) (by omega) h
   have hn' : addS S i n = S n := if_neg (by omega)
   simp only [memOf]
   rw [hn']
   by_cases hs : S n = true ∧ geff gs n = true
   ·rw [if_pos hs, if_pos hs]
    by_cases he : geff gs i = true
    ·have := h he n (by omega) hs.2
     rw [hs.1] at this
     cases this
    ·rw [if_neg he]
   ·rw [if_neg hs, if_neg hs]
    exact ih
end

theorem Sim.fr {w0 : World} {U : Gh} {σ : St} {ι : Pl} {a : Act} {w : World} (hs : Sim w0 U σ ι a w) {fr : List (Nat × AV)} (h : ∀ t, look fr t = look σ.fr t) : Sim w0 U ⟨fr, σ.mem, σ.nx, σ.base⟩ ι a w :=
 ⟨fun t => by have := hs.val t; rw [← h t] at this; exact this, hs.defers, hs.names, hs.box, hs.apart, hs.below, hs.keep, hs.base⟩
end Go.Abs

set_option linter.unusedVariables false
set_option linter.unusedSimpArgs false
namespace Go.Abs
open Go.RowKit

def cnt (S : Nat → Bool) : Nat → Nat
 | 0 => 0
 | n + 1 => cnt S n + if S n = true then 1 else 0
theorem cnt_le (S : Nat → Bool) : ∀ n, cnt S n ≤ n
 | 0 => Nat.le_refl _
 | n + 1 => by have := cnt_le S n; simp only [cnt]; split <;> omega
theorem cnt_all {S : Nat → Bool} : ∀ {n : Nat}, cnt S n = n → ∀ k, k < n → S k = true
 | 0, _, k, hk => by omega
 |n + 1, h, k, hk => by
  have hle := cnt_le S n
  simp only [cnt] at h
  split at h
  ·rename_i hn
   by_cases e : k = n
   ·rw [e]; exact hn
   ·exact cnt_all (n := n) (by omega) k (by omega)
  ·omega
theorem cnt_add {S : Nat → Bool} {i : Nat} (hi : S i = false) : ∀ {n : Nat}, i < n → cnt (addS S i) n = cnt S n + 1
 | 0, h => by omega
 |n + 1, h => by
  have same : ∀ {m : Nat}, m ≤ i → cnt (addS S i) m = cnt S m := by
   intro m
   induction m with
   | zero => intro _; rfl
   | succ m ih =>
    intro hm
    simp only [cnt]
    rw [ih (by omega)]
    have : addS S i m = S m := if_neg (by omega)
    rw [this]
  simp only [cnt]
  by_cases e : i = n
  ·subst e
   rw [same (Nat.le_refl _), hi, show addS S i i = true from if_pos rfl]
   simp
  ·have : addS S i n = S n := if_neg (by omega)
   rw [this, cnt_add hi (by omega)]
   omega

theorem comp_at {P : Program} {dr : Bool} {nt : Nat} {ops : Array Oper} : ∀ {l : List Oper} {gs : List AG}, compGs P dr nt ops l = some gs → l.length = gs.length ∧ ∀ (i : Nat) o, l[i]? = some o → ∃ g, gs[i]? = some g ∧ compG P dr nt ops o = some g
 | [], gs, h => by cases h; exact ⟨rfl, fun i o hi => by simp at hi⟩
 |o :: l, gs, h => by
  unfold compGs at h
  split at h
  ·rename_i g gs' h1 h2
   cases h
   obtain ⟨g1, g2⟩ := comp_at h2
   refine ⟨by simp [g1], fun i o' hi => ?_⟩
   cases i with
   | zero => simp at hi; subst hi; exact ⟨g, rfl, h1⟩
   | succ i => exact g2 i o' (by simpa using hi)
  ·cases h

theorem compG_parts {P : Program} {dr : Bool} {nt : Nat} {ops : Array Oper} {o : Oper} {g : AG} (h : compG P dr nt ops o = some g) : g.dst = o.dst ∧ (∀ t, o.dst = some t → t < nt) ∧ compOp P dr o.op = some g.op ∧
  ((o.guard = none ∧ g.guard = none) ∨ ∃ j want t, o.guard = some (j, want) ∧ (ops[j]?).bind (·.dst) = some t ∧ g.guard = some (t, want)) := by
 unfold compG at h
 by_cases hdst : fitD nt o.dst = false
 ·rw [if_pos hdst] at h; cases h
 ·rw [if_neg hdst] at h
  have hd : ∀ t, o.dst = some t → t < nt := by
   intro t ht
   rw [ht] at hdst
   simpa [fitD] using hdst
  split at h
  ·rename_i ao hao
   split at h
   ·rename_i hg
    cases h
    exact ⟨rfl, hd, hao, .inl ⟨hg, rfl⟩⟩
   ·rename_i j want hg
    split at h
    ·rename_i t ht
     cases h
     exact ⟨rfl, hd, hao, .inr ⟨j, want, t, hg, ht, rfl⟩⟩
    ·cases h
  ·cases h

section
variable {P : Program} {a : Act} {w w' w0 : World} {U : Gh} {ι : Pl} {σ : St} {nt : Nat} {dr : Bool}

theorem undef_of_rep {V : Nat → Prop} {N : Nat} {u : Value} (h : RepV w V ι N (.tup []) u) : u = undef := by
 cases h with
 | @tup _ vs hl _ =>
  have : vs = #[] := Array.eq_empty_of_size_eq_zero (by simpa using hl.symm)
  rw [this]
  rfl

theorem wpOp_sound {ops : Array Oper} {Q : Exit → Act → World → Prop} {i : Nat} {o : Oper} {g : AG} {v : AV} {σ σ' : St} {next : Act → World → Prop} (ho : ops[i]? = some o) (hg : compG P dr nt ops o = some g) (hst : StepG P g σ v σ') (hs : Sim w0 U σ ι a w) (hz : a.tmps.size = nt)
  (hn : ∀ ι' a' w', Sim w0 U σ' ι' a' w' → a'.tmps.size = nt → next a' w') : wpOp P ops Q i next a w := by
 obtain ⟨h1, h2, h3, h4⟩ := compG_parts hg
 have hd : ∀ t, o.dst = some t → t < a.tmps.size := fun t ht => by rw [hz]; exact h2 t ht
 unfold wpOp
 rw [ho]
 have run : Region.wanted o (yielded ops a.tmps) = true → (∃ τ, (opW P g.op σ fun v' τ' => v' = v ∧ τ' = τ) ∧ σ' = τ.put g.dst v) → (if Region.wanted o (yielded ops a.tmps) = true then o.wp P a w next Q ∨ (o.asks P a w ∧ LetsOut Q) else next (a.put o.dst undef) w) := by
  rintro hw ⟨τ, k1, rfl⟩
  rw [if_pos hw]
  left
  refine op_sound h3 k1 hs ?_
  rintro v' σ2 ι' u w' ⟨rfl, rfl⟩ hs' hr
  refine hn ι' _ w' ?_ (by rw [size_put]; exact hz)
  rw [h1]
  exact hs'.put hd hr
 rcases h4 with ⟨k1, k2⟩ | ⟨j, want, t, k1, k2, k3⟩
 ·rcases hst with ⟨_, hx⟩ | ⟨t, want, e, _⟩
  ·exact run (by simp [Region.wanted, k1]) hx
  ·rw [k2] at e; cases e
 ·have hval := hs.val t
  rcases hst with ⟨⟨_, hg'⟩, hx⟩ | ⟨t', want', e, hg', rfl, rfl⟩
  ·rcases hg' with e | ⟨t', want', e, hb⟩
   ·rw [k3] at e; cases e
   ·rw [k3] at e
    cases e
    rw [hb] at hval
    have hb' := get_of_getD (repV_val hval).1 (by intro e; cases e)
    exact run (by simp [Region.wanted, k1, yielded, k2, hb']) hx
  ·rw [k3] at e
   cases e
   have hw : ¬ Region.wanted o (yielded ops a.tmps) = true := by
    rcases hg' with hb | hb
    ·rw [hb] at hval
     have hu := undef_of_rep hval
     have hy : yielded ops a.tmps j = none := by
      unfold yielded
      simp only [k2, Option.bind_some]
      simp only [Array.getD_eq_getD_getElem?] at hu
      cases e' : a.tmps[t]? with
      | none => rfl
      | some z =>
       rw [e'] at hu
       simp at hu
       subst hu
       rfl
     simp [Region.wanted, k1, hy]
    ·rw [hb] at hval
     have hb' := get_of_getD (repV_val hval).1 (by intro e; cases e)
     simp [Region.wanted, k1, yielded, k2, hb']
   show (if Region.wanted o (yielded ops a.tmps) = true then _ else next (a.put o.dst undef) w)
   rw [if_neg hw]
   refine hn ι _ w ?_ (by rw [size_put]; exact hz)
   rw [h1]
   exact hs.put hd repV_undef

theorem StepG.congr {g : AG} {v : AV} {σ σ' σ2 : St} (h : StepG P g σ v σ') (hf : ∀ t ∈ g.looks, look σ2.fr t = look σ.fr t) (hm : g.op.eff = true → σ2.mem = σ.mem ∧ σ2.nx = σ.nx) (hms : g.op.eff = false → g.op.sens = true → extB σ.mem σ2.mem) (hbase : σ2.base = σ.base) :
  ∃ τ, StepG P g σ2 v τ ∧ (∀ t, look τ.fr t = if g.dst = some t then v else look σ2.fr t) ∧ (τ.mem, τ.nx) = (if g.op.eff = true then (σ'.mem, σ'.nx) else (σ2.mem, σ2.nx)) ∧ τ.base = σ2.base := by
 have hf' : ∀ t ∈ g.op.tmps, look σ2.fr t = look σ.fr t := fun t ht => hf t (by simp [AG.looks, ht])
 rcases h with ⟨⟨hgc, hg⟩, τ, h1, rfl⟩ | ⟨t, want, hg, hb, rfl, rfl⟩
 ·have hg2 : g.guard = none ∨ ∃ t want, g.guard = some (t, want) ∧ look σ2.fr t = .c (.pure (.val (.bool want))) := by
   rcases hg with e | ⟨t, want, e, hb⟩
   ·exact .inl e
   ·exact .inr ⟨t, want, e, by rw [hf t (by simp [AG.looks, e])]; exact hb⟩
  by_cases he : g.op.eff = true
  ·obtain ⟨m1, m2⟩ := hm he
   have k1 := (opW_keep hgc h1).1
   have k2 := (opW_keep hgc h1).2.1
   obtain ⟨fr, mem, nx, b⟩ := σ
   obtain ⟨fr2, mem2, nx2, b2⟩ := σ2
   simp only at m1 m2 hf' k1 k2 hbase
   subst hbase
   subst m1
   subst m2
   have h2 := opW_eff (fr2 := fr2) (K2 := fun v' τ' => v' = v ∧ τ' = ⟨fr2, τ.mem, τ.nx, τ.base⟩) he hgc hf' (fun v' m n hk => by obtain ⟨e1, e2⟩ := hk; subst e2; exact ⟨e1, rfl⟩) h1
   refine ⟨_, .inl ⟨⟨hgc, hg2⟩, _, h2, rfl⟩, fun t => put_fr, ?_, by rw [put_base]; exact k2⟩
   rw [if_pos he, put_mem.1, put_mem.2, put_mem.1, put_mem.2]
  ·have he' : g.op.eff = false := by simpa using he
   have k1 := (opW_keep hgc h1).2.2 he'
   subst k1
   have h2 := opW_ins (s2 := σ2) he' (hms he') hf' (fun v' τ' => v' = v ∧ τ' = τ) (fun v' τ' => v' = v ∧ τ' = σ2) (fun v' hk => ⟨hk.1, rfl⟩) h1
   refine ⟨_, .inl ⟨⟨hgc, hg2⟩, _, h2, rfl⟩, fun t => put_fr, ?_, put_base⟩
   rw [if_neg he, put_mem.1, put_mem.2]
 ·refine ⟨_, .inr ⟨t, want, hg, ?_, rfl, rfl⟩, fun t => put_fr, ?_, put_base⟩
  ·rw [hf t (by simp [AG.looks, hg])]
   exact hb
  ·rw [put_mem.1, put_mem.2, put_mem.1, put_mem.2]
   split
   ·rename_i he
    rw [(hm he).1, (hm he).2]
   ·rfl

theorem clash_dst {g h : AG} {d : Nat} (hc : clash g h = false) (hd : g.dst = some d) : d ∉ h.looks ∧ h.dst ≠ some d := by
 simp only [clash, hd, Bool.or_eq_false_iff] at hc
 refine ⟨fun hm => ?_, fun e => ?_⟩
 ·have := hc.1.1.1.1
  simp [hm] at this
 ·have := hc.1.1.1.2
  simp [e] at this
theorem clash_dst2 {g h : AG} {d : Nat} (hc : clash g h = false) (hd : h.dst = some d) : d ∉ g.looks := by
 simp only [clash, hd, Bool.or_eq_false_iff] at hc
 intro hm
 have := hc.1.1.2
 simp [hm] at this
theorem clash_eff {g h : AG} (hc : clash g h = false) : (g.op.eff = true → h.op.eff = false ∧ h.op.sens = false) := by
 simp only [clash, Bool.or_eq_false_iff] at hc
 have h1 := hc.1.2
 intro e
 rw [e] at h1
 simpa using h1

def LinX (ops : Array Oper) : List Nat → Array Bool → Prop
 | [], L => Region.ready .any ops L = []
 | i :: r, L => i ∈ Region.ready .any ops L ∧ LinX ops r (L.setIfInBounds i true)
theorem lin_of {ops : Array Oper} : ∀ (fuel t : Nat) (L : Array Bool), L.size = ops.size → cnt (fun k => L.getD k false) ops.size + fuel = ops.size → LinX ops (Region.linearise.go .any ops fuel t L []) L
 |0, t, L, hL, hcn => by
  show Region.ready .any ops L = []
  unfold Region.ready
  rw [List.filter_eq_nil_iff]
  intro k hk
  have hk' : k < ops.size := by simpa using hk
  have h1 := cnt_all (S := fun k => L.getD k false) (n := ops.size) (by omega) k hk'
  have h2 : L.getD k true = true := by
   have : k < L.size := by omega
   simp only [Array.getD_eq_getD_getElem?, Array.getElem?_eq_getElem this, Option.getD_some] at h1 ⊢
   exact h1
  rw [h2]
  simp
 |fuel + 1, t, L, hL, hcn => by
  simp only [Region.linearise.go]
  change LinX ops (match (Region.ready .any ops L)[t % (Region.ready .any ops L).length]? with
   | some i => Region.linearise.go .any ops fuel (t / (Region.ready .any ops L).length) (L.setIfInBounds i true) [i]
   | none => [].reverse) L
  cases hi : (Region.ready .any ops L)[t % (Region.ready .any ops L).length]? with
  | none =>
   cases hr : Region.ready .any ops L with
   | nil => exact hr
   | cons x xs =>
    rw [hr] at hi
    have hlt : t % (x :: xs).length < (x :: xs).length := Nat.mod_lt _ (by simp)
    simp at hi
    simp at hlt
    omega
  | some i =>
   simp only []
   rw [linearise_go_acc, List.reverse_singleton, List.singleton_append]
   have hmem := List.mem_of_getElem? hi
   refine ⟨hmem, lin_of _ _ _ (by simpa using hL) ?_⟩
   unfold Region.ready at hmem
   rw [List.mem_filter] at hmem
   obtain ⟨h1, h2⟩ := hmem
   have hio : i < ops.size := by simpa using h1
   have hiL : i < L.size := by omega
   simp only [Bool.and_eq_true, Bool.not_eq_true'] at h2
   have hf : L.getD i false = false := by
    have := h2.1
    simp only [Array.getD_eq_getD_getElem?, Array.getElem?_eq_getElem hiL, Option.getD_some] at this ⊢
    exact this
   have hS : (fun k => (L.setIfInBounds i true).getD k false) = addS (fun k => L.getD k false) i := by
    funext k
    simp only [addS, Array.getD_eq_getD_getElem?]
    by_cases e : k = i
    ·subst e; simp [hiL]
    ·rw [if_neg e, Array.getElem?_setIfInBounds_ne (Ne.symm e)]
   rw [hS, cnt_add hf hio]
   omega

def okE (E : List (Nat × Nat)) : List Nat → (Nat → Bool) → Prop
 | [], _ => True
 | i :: r, S => (∀ p ∈ E, p.2 = i → S p.1 = true) ∧ okE E r (addS S i)
theorem okE_nil : ∀ {r : List Nat} {S : Nat → Bool}, okE [] r S
 | [], S => trivial
 | i :: r, S => ⟨(fun p hp => by cases hp), okE_nil⟩
theorem okE_left {E : List (Nat × Nat)} {x y : Nat} : ∀ {r : List Nat} {S : Nat → Bool}, S x = true → okE E r S → okE ((x, y) :: E) r S
 | [], S, _, _ => trivial
 | i :: r, S, hx, h => ⟨fun p hp e => by
   rcases List.mem_cons.1 hp with rfl | hp
   ·exact hx
   ·exact h.1 p hp e, okE_left (by simp only [addS]; split <;> simp_all) h.2⟩
theorem okE_split {E : List (Nat × Nat)} {x y : Nat} (hxy : x ≠ y) : ∀ {r : List Nat} {S : Nat → Bool}, okE E r S → okE ((x, y) :: E) r S ∨ okE ((y, x) :: E) r S
 | [], S, _ => .inl trivial
 |i :: r, S, h => by
  by_cases e1 : i = x
  ·subst e1
   refine .inl ⟨fun p hp e => ?_, okE_left (by simp [addS]) h.2⟩
   rcases List.mem_cons.1 hp with rfl | hp
   ·exact absurd e.symm hxy
   ·exact h.1 p hp e
  ·by_cases e2 : i = y
   ·subst e2
    refine .inr ⟨fun p hp e => ?_, okE_left (by simp [addS]) h.2⟩
    rcases List.mem_cons.1 hp with rfl | hp
    ·exact absurd e hxy
    ·exact h.1 p hp e
   ·rcases okE_split hxy h.2 with h' | h'
    ·refine .inl ⟨fun p hp e => ?_, h'⟩
     rcases List.mem_cons.1 hp with rfl | hp
     ·exact absurd e.symm e2
     ·exact h.1 p hp e
    ·refine .inr ⟨fun p hp e => ?_, h'⟩
     rcases List.mem_cons.1 hp with rfl | hp
     ·exact absurd e.symm e1
     ·exact h.1 p hp e

theorem leafOk_at {M : List (Nat × Nat)} : ∀ {leaf : List (Nat × Bool × AG)}, leafOk M leaf = true → ∀ (p q : Nat) y z, p < q → leaf[p]? = some y → leaf[q]? = some z → pairX M y.1 y.2.2 z.1 z.2.1 z.2.2 = true
 | [], _, p, q, y, z, _, hy, _ => by simp at hy
 |(i, x, g) :: r, h, p, q, y, z, hpq, hy, hz => by
  simp only [leafOk, Bool.and_eq_true, List.all_eq_true] at h
  cases q with
  | zero => omega
  | succ q =>
   have hz' : r[q]? = some z := by simpa using hz
   cases p with
   | zero =>
    simp at hy
    subst hy
    exact h.1 z (List.mem_of_getElem? hz')
   | succ p => exact leafOk_at h.2 p q y z (by omega) (by simpa using hy) hz'
theorem nodupB_at : ∀ {l : List Nat}, nodupB l = true → ∀ (p q : Nat) i, l[p]? = some i → l[q]? = some i → p = q
 | [], _, p, q, i, hp, _ => by simp at hp
 |x :: r, h, p, q, i, hp, hq => by
  simp only [nodupB, Bool.and_eq_true, Bool.not_eq_true'] at h
  have hx : ∀ k, r[k]? = some x → False := fun k hk => by
   have := h.1
   rw [List.contains_iff_mem.2 (List.mem_of_getElem? hk)] at this
   cases this
  cases p with
  | zero =>
   simp at hp
   subst hp
   cases q with
   | zero => rfl
   | succ q => exact (hx q (by simpa using hq)).elim
  | succ p =>
   cases q with
   | zero =>
    simp at hq
    subst hq
    exact (hx p (by simpa using hp)).elim
   | succ q => rw [nodupB_at h.2 p q i (by simpa using hp) (by simpa using hq)]

theorem leaf_sound {ops : Array Oper} {gs : List AG} {leaf : List (Nat × Bool × AG)} {E : List (Nat × Nat)} {ord : List Nat} {K : St → Prop} {Q : Exit → Act → World → Prop}
  (hc : compGs P dr nt ops ops.toList = some gs) (hedge : edgesOk 0 ops.toList = true) (hgc : (gs.all fun g => !g.op.gcall) = true) (hleaf : leafOk (maskX ops.toList E ord []) leaf = true) (hidx : leaf.map (·.1) = ord) (hget : ∀ y ∈ leaf, gs[y.1]? = some y.2.2)
  (hnd : nodupB ord = true) (hall : ∀ i, i < gs.length → i ∈ ord) (h : opsX P (stripX leaf) σ K) (hs : Sim w0 U σ ι a w) (hz : a.tmps.size = nt)
  (hq : ∀ σ' ι' a' w', K σ' → Sim w0 U σ' ι' a' w' → a'.tmps.size = nt → Q .normal a' w') {sched : List Nat} (hlin : LinX ops sched (Array.replicate ops.size false)) (hok : okE E sched (fun _ => false)) : wpOps P ops Q sched a w := by
 have hgc' : ((stripX leaf).all fun y => !y.2.op.gcall) = true := by
  rw [List.all_eq_true]
  intro y hy
  obtain ⟨z, hz1, rfl⟩ := List.mem_map.1 hy
  exact List.all_eq_true.1 hgc _ (List.mem_of_getElem? (hget z hz1))
 obtain ⟨v, s, hs0, hch0, hK⟩ := opsX_chain hgc' h
 obtain ⟨hlen, hat⟩ := comp_at hc
 have hn : ops.size = gs.length := by rw [← hlen, Array.length_toList]
 -- places in the order
 let gs' : List AG := leaf.map (·.2.2)
 have hl' : gs'.length = leaf.length := by simp [gs']
 have hls : (stripX leaf).length = gs'.length := by simp [stripX, gs']
 rw [hls] at hK
 have hg' : ∀ {p : Nat} {g : AG}, gs'[p]? = some g → ∃ y, leaf[p]? = some y ∧ y.2.2 = g := by
  intro p g hp
  simp only [gs', List.getElem?_map, Option.map_eq_some_iff] at hp
  exact hp
 have hch : ∀ k g, gs'[k]? = some g → StepG P g (s k) (v k) (s (k + 1)) := by
  intro k g hk
  obtain ⟨y, hy, rfl⟩ := hg' hk
  exact (hch0 k y.2 (by simp [stripX, hy])).1
 have hflag : ∀ k y, leaf[k]? = some y → y.2.1 = true → extB (s k).mem (s (k + 1)).mem := fun k y hy => (hch0 k y.2 (by simp [stripX, hy])).2
 have hord : ∀ {p : Nat} {y : Nat × Bool × AG}, leaf[p]? = some y → ord[p]? = some y.1 := by
  intro p y hp
  rw [← hidx, List.getElem?_map, hp]
  rfl
 let SS (L : Array Bool) : Nat → Bool := fun p => L.getD ((ord[p]?).getD 0) false
 let LL (L : Array Bool) : Nat → Bool := fun i => L.getD i false
 have hSS : ∀ (L : Array Bool) {p : Nat} {y : Nat × Bool × AG}, leaf[p]? = some y → SS L p = LL L y.1 := by
  intro L p y hp
  simp only [SS, LL, hord hp, Option.getD_some]
 let stOf (L : Array Bool) : St := ⟨frOf gs' v (s 0).fr (SS L) gs'.length, (memOf gs' s (SS L) gs'.length).1, (memOf gs' s (SS L) gs'.length).2, (s 0).base⟩
 have main : ∀ (sched : List Nat) (L : Array Bool) (ι : Pl) (a : Act) (w : World), L.size = gs.length → ClosedX ops.toList E (LL L) → LinX ops sched L → okE E sched (LL L) → Sim w0 U (stOf L) ι a w → a.tmps.size = nt → wpOps P ops Q sched a w := by
  intro sched
  induction sched with
  | nil =>
   intro L ι a w hL hcl hlin hok hsim hz
   have hr : Region.ready .any ops L = [] := hlin
   have all : ∀ k, k < gs.length → LL L k = true := by
    intro k
    induction k using Nat.strongRecOn with
    | _ k ih =>
     intro hk
     cases hS : LL L k with
     | true => rfl
     | false =>
      exfalso
      have hko : k < ops.size := by omega
      have hmem : k ∈ Region.ready .any ops L := by
       unfold Region.ready
       rw [List.mem_filter]
       refine ⟨by simpa using hko, ?_⟩
       have h1 : L.getD k true = false := by
        have : k < L.size := by omega
        simp only [LL, Array.getD_eq_getD_getElem?, Array.getElem?_eq_getElem this, Option.getD_some] at hS ⊢
        exact hS
       rw [h1]
       simp only [Bool.not_false, Bool.true_and, Array.getElem?_eq_getElem hko, Option.map_some, Option.getD_some, Array.all_eq_true]
       intro j hj
       simp only [Bool.or_eq_true, Bool.not_eq_true']
       cases hbi : Region.binds .any ops[k].after[j] with
       | false => exact .inl rfl
       | true =>
        have := edgesOk_at hedge (j := k) (o := ops[k]) (by simp [hko]) ops[k].after[j] (by simp) hbi
        right
        exact ih ops[k].after[j].on (by omega) (by omega)
      rw [hr] at hmem
      cases hmem
   have allS : ∀ p, p < gs'.length → SS L p = true := by
    intro p hp
    have hy := List.getElem?_eq_getElem (show p < leaf.length by omega)
    rw [hSS L hy]
    exact all _ (List.getElem?_eq_some_iff.1 (hget _ (List.mem_of_getElem? hy))).1
   have hfr : ∀ t, look (frOf gs' v (s 0).fr (SS L) gs'.length) t = look (s gs'.length).fr t := fun t =>
    frOf_look hch (Nat.le_refl _) (Nat.le_refl _) fun k hk _ => ⟨fun _ => hk, fun _ => allS k hk⟩
   have hmm := memOf_eq hch (S := SS L) (i := gs'.length) (Nat.le_refl _) (Nat.le_refl _) fun k hk _ => ⟨fun _ => hk, fun _ => allS k hk⟩
   show Q .normal a w
   refine hq (s gs'.length) ι a w hK ?_ hz
   have := hsim.fr (fr := (s gs'.length).fr) fun t => (hfr t).symm
   simp only [stOf, hmm] at this
   rw [← chain_base hch (Nat.le_refl _)] at this
   exact this
  | cons i r ih =>
   intro L ι a w hL hcl hlin hok hsim hz
   obtain ⟨hi, hlin⟩ := hlin
   obtain ⟨hoki, hok⟩ := hok
   rw [wpOps_cons]
   unfold Region.ready at hi
   rw [List.mem_filter] at hi
   obtain ⟨hi1, hi2⟩ := hi
   have hio : i < ops.size := by simpa using hi1
   have hig : i < gs.length := by omega
   have ho : ops[i]? = some ops[i] := Array.getElem?_eq_getElem hio
   simp only [Bool.and_eq_true, Bool.not_eq_true', ho, Option.map_some, Option.getD_some, Array.all_eq_true] at hi2
   obtain ⟨hi2, hi3⟩ := hi2
   have hSi : LL L i = false := by
    have : i < L.size := by omega
    simp only [LL, Array.getD_eq_getD_getElem?, Array.getElem?_eq_getElem this, Option.getD_some] at hi2 ⊢
    exact hi2
   have hol : ops.toList[i]? = some ops[i] := by simp [hio]
   have hpred : ∀ k ∈ predsX E i ops[i], LL L k = true := by
    intro k hk
    simp only [predsX, List.mem_append, List.mem_filterMap] at hk
    rcases hk with ⟨e, he, hk⟩ | ⟨p, hp, hk⟩
    ·split at hk
     ·rename_i hb
      cases hk
      obtain ⟨j, hj, rfl⟩ := List.mem_iff_getElem.1 he
      have := hi3 j (by simpa using hj)
      simp only [Bool.or_eq_true, Bool.not_eq_true'] at this
      rcases this with h | h
      ·simp at hb
       rw [hb] at h
       cases h
      ·show L.getD _ false = true
       simpa [Array.getD_eq_getD_getElem?] using h
     ·cases hk
    ·split at hk
     ·rename_i e
      cases hk
      exact hoki p hp e
     ·cases hk
   obtain ⟨g, hg, hcg⟩ := hat i ops[i] hol
   -- its place
   obtain ⟨p, hp⟩ : ∃ p, ord[p]? = some i := List.mem_iff_getElem?.1 (hall i hig)
   have hpl : p < leaf.length := by
    have := (List.getElem?_eq_some_iff.1 hp).1
    rw [← hidx, List.length_map] at this
    exact this
   have hyp := List.getElem?_eq_getElem hpl
   have hy1 : leaf[p].1 = i := by
    have := hord hyp
    rw [hp] at this
    cases this
    rfl
   have hy2 : leaf[p].2.2 = g := by
    have := hget _ (List.mem_of_getElem? hyp)
    rw [hy1, hg] at this
    cases this
    rfl
   have hgp : gs'[p]? = some g := by simp only [gs', List.getElem?_map, hyp, Option.map_some, hy2]
   have hpg : p < gs'.length := by omega
   have hSp : SS L p = false := by rw [hSS L hyp, hy1]; exact hSi
   -- who must have been done, who cannot have been
   have bit0 : ∀ k i, (getM ([] : List (Nat × Nat)) k).testBit i = true → LL L k = true → LL L i = true := fun k i h _ => by simp [getM] at h
   have bit1 : ∀ i', (getM ([] : List (Nat × Nat)) i).testBit i' = true → LL L i' = true := fun i' h => by simp [getM] at h
   have before : ∀ q y, leaf[q]? = some y → q < p → clash y.2.2 g = true → SS L q = true := by
    intro q y hq hlt hcl'
    have hpx := leafOk_at hleaf q p y _ hlt hq hyp
    rw [hy1, hy2] at hpx
    simp only [pairX, hcl', Bool.not_true, Bool.false_and, Bool.or_false] at hpx
    rw [hSS L hq]
    exact maskX_next hcl hol hpred bit0 bit1 _ hpx
   have after : ∀ q y, leaf[q]? = some y → p < q → clash g y.2.2 = true → SS L q = false := by
    intro q y hq hlt hcl'
    cases hS : SS L q with
    | false => rfl
    | true =>
     exfalso
     have hpx := leafOk_at hleaf p q _ y hlt hyp hq
     rw [hy1, hy2] at hpx
     simp only [pairX, hcl', Bool.not_true, Bool.false_and, Bool.or_false] at hpx
     rw [hSS L hq] at hS
     have := maskX_closed hcl bit0 _ _ hpx hS
     rw [hSi] at this
     cases this
   have yes : ∀ {k : Nat}, k < gs'.length → ∃ y, leaf[k]? = some y ∧ gs'[k]? = some y.2.2 := by
    intro k hk
    have hy := List.getElem?_eq_getElem (show k < leaf.length by omega)
    exact ⟨_, hy, by simp only [gs', List.getElem?_map, hy, Option.map_some]⟩
   have hfr : ∀ t ∈ g.looks, look (stOf L).fr t = look (s p).fr t := by
    intro t ht
    refine frOf_look hch (Nat.le_refl _) (by omega) fun k hk hd => ?_
    obtain ⟨y, hy, hgk⟩ := yes hk
    have hd' : y.2.2.dst = some t := by simpa [gdst, hgk] using hd
    rcases Nat.lt_trichotomy k p with hlt | e | hgt
    ·refine ⟨fun _ => hlt, fun _ => before k _ hy hlt ?_⟩
     cases hx : clash y.2.2 g with
     | true => rfl
     | false => exact absurd ht (clash_dst hx hd').1
    ·subst e
     rw [hSp]
     exact ⟨(fun e => by cases e), (fun e => by omega)⟩
    ·refine ⟨fun hS => ?_, fun e => by omega⟩
     have : clash g y.2.2 = true := by
      cases hx : clash g y.2.2 with
      | true => rfl
      | false => exact absurd ht (clash_dst2 hx hd')
     rw [after k _ hy hgt this] at hS
     cases hS
   have hmm : g.op.eff = true → (stOf L).mem = (s p).mem ∧ (stOf L).nx = (s p).nx := by
    intro he
    have := memOf_eq hch (S := SS L) (i := p) (n := gs'.length) (Nat.le_refl _) (by omega) fun k hk hd => by
     obtain ⟨y, hy, hgk⟩ := yes hk
     have hd' : y.2.2.op.eff = true := by simpa [geff, hgk] using hd
     rcases Nat.lt_trichotomy k p with hlt | e | hgt
     ·refine ⟨fun _ => hlt, fun _ => before k _ hy hlt ?_⟩
      cases hx : clash y.2.2 g with
      | true => rfl
      | false =>
       have := (clash_eff hx hd').1
       rw [he] at this; cases this
     ·subst e
      rw [hSp]
      exact ⟨(fun e => by cases e), (fun e => by omega)⟩
     ·refine ⟨fun hS => ?_, fun e => by omega⟩
      have : clash g y.2.2 = true := by
       cases hx : clash g y.2.2 with
       | true => rfl
       | false =>
        have := (clash_eff hx he).1
        rw [hd'] at this; cases this
      rw [after k _ hy hgt this] at hS
      cases hS
    simp only [stOf, this]
    exact ⟨trivial, trivial⟩
   have hms : g.op.eff = false → g.op.sens = true → extB (s p).mem (stOf L).mem := by
    intro hne hsn
    refine memOf_ext hch (S := SS L) (p := p) (fun k hk hd => ?_) (fun k hpk hk hd hS => ?_) (fun k q hkq hq hd hd2 hS => ?_) (Nat.le_refl _) (by omega)
    ·obtain ⟨y, hy, hgk⟩ := yes (show k < gs'.length by omega)
     have hd' : y.2.2.op.eff = true := by simpa [geff, hgk] using hd
     refine before k _ hy hk ?_
     cases hx : clash y.2.2 g with
     | true => rfl
     | false =>
      have := (clash_eff hx hd').2
      rw [hsn] at this; cases this
    ·obtain ⟨y, hy, hgk⟩ := yes hk
     have hd' : y.2.2.op.eff = true := by simpa [geff, hgk] using hd
     have hne' : p ≠ k := by
      rintro rfl
      rw [hSp] at hS
      cases hS
     have hpx := leafOk_at hleaf p k _ y (by omega) hyp hy
     rw [hy1, hy2] at hpx
     simp only [pairX, Bool.or_eq_true, Bool.and_eq_true, hsn, hd'] at hpx
     rcases hpx with hpx | ⟨_, hpx⟩
     ·exfalso
      rw [hSS L hy] at hS
      have := maskX_closed hcl bit0 _ _ hpx hS
      rw [hSi] at this
      cases this
     ·simp at hpx
      exact hflag k y hy hpx
    ·obtain ⟨y, hy, hgk⟩ := yes (show k < gs'.length by omega)
     obtain ⟨z, hz', hgq⟩ := yes hq
     have hd' : y.2.2.op.eff = true := by simpa [geff, hgk] using hd
     have hd2' : z.2.2.op.eff = true := by simpa [geff, hgq] using hd2
     have hpx := leafOk_at hleaf k q y z hkq hy hz'
     have hcx : clash y.2.2 z.2.2 = true := by
      cases hx : clash y.2.2 z.2.2 with
      | true => rfl
      | false =>
       have := (clash_eff hx hd').1
       rw [hd2'] at this; cases this
     simp only [pairX, hcx, Bool.not_true, Bool.false_and, Bool.or_false] at hpx
     rw [hSS L hz'] at hS
     rw [hSS L hy]
     exact maskX_closed hcl bit0 _ _ hpx hS
   obtain ⟨τ, k1, k2, k3, k4⟩ := (hch p g hgp).congr (σ2 := stOf L) hfr hmm hms (chain_base hch (by omega)).symm
   refine wpOp_sound ho hcg k1 hsim hz fun ι' a' w' hsim' hz' => ?_
   -- one more has been done
   have hL' : LL (L.setIfInBounds i true) = addS (LL L) i := by
    funext k
    simp only [LL, addS, Array.getD_eq_getD_getElem?]
    by_cases e : k = i
    ·subst e
     simp [show k < L.size by omega]
    ·rw [if_neg e, Array.getElem?_setIfInBounds_ne (Ne.symm e)]
   have hS' : ∀ q, q < gs'.length → SS (L.setIfInBounds i true) q = addS (SS L) p q := by
    intro q hq
    obtain ⟨y, hy, _⟩ := yes hq
    rw [hSS _ hy, hL']
    simp only [addS]
    by_cases e : q = p
    ·subst e
     rw [hyp] at hy
     cases hy
     rw [if_pos hy1, if_pos rfl]
    ·rw [if_neg e, hSS L hy, if_neg]
     intro e2
     have h1 := hord hy
     rw [e2] at h1
     exact e (nodupB_at hnd q p i h1 hp)
   have frS : ∀ (S S' : Nat → Bool) n, (∀ q, q < n → S q = S' q) → frOf gs' v (s 0).fr S n = frOf gs' v (s 0).fr S' n := by
    intro S S' n
    induction n with
    | zero => intro _; rfl
    | succ n ih => intro hq; simp only [frOf]; rw [ih fun q hq' => hq q (by omega), hq n (by omega)]
   have memS : ∀ (S S' : Nat → Bool) n, (∀ q, q < n → S q = S' q) → memOf gs' s S n = memOf gs' s S' n := by
    intro S S' n
    induction n with
    | zero => intro _; rfl
    | succ n ih => intro hq; simp only [memOf]; rw [ih fun q hq' => hq q (by omega), hq n (by omega)]
   refine ih _ ι' a' w' (by simpa using hL) ?_ hlin (by rw [hL']; exact hok) ?_ hz'
   ·intro j o hj hSj k hk
    rw [hL'] at hSj ⊢
    simp only [addS] at hSj ⊢
    split
    ·rfl
    ·split at hSj
     ·rename_i e1
      subst e1
      rw [hol] at hj
      cases hj
      exact hpred k hk
     ·exact hcl j o hj hSj k hk
   ·have hfr' : ∀ t, look (frOf gs' v (s 0).fr (SS (L.setIfInBounds i true)) gs'.length) t = look τ.fr t := by
     intro t
     rw [frS _ _ _ hS', frOf_add hSp hpg fun hd k hlt hdk => ?_, k2 t]
     ·have e : gdst gs' p = g.dst := by simp [gdst, hgp]
      rw [e]
     ·have hd' : g.dst = some t := by simpa [gdst, hgp] using hd
      have hkg : k < gs'.length := by
       unfold gdst at hdk
       cases hh : gs'[k]? with
       | none => rw [hh] at hdk; cases hdk
       | some x => exact (List.getElem?_eq_some_iff.1 hh).1
      obtain ⟨y, hy, hgk⟩ := yes hkg
      refine after k _ hy hlt ?_
      cases hx : clash g y.2.2 with
      | true => rfl
      | false => exact absurd (by simpa [gdst, hgk] using hdk) (clash_dst hx hd').2
    have hm' : memOf gs' s (SS (L.setIfInBounds i true)) gs'.length = (τ.mem, τ.nx) := by
     rw [memS _ _ _ hS', memOf_add hSp hpg fun hd k hlt hdk => ?_, k3]
     ·have e : geff gs' p = g.op.eff := by simp [geff, hgp]
      rw [e]
     ·have hd' : g.op.eff = true := by simpa [geff, hgp] using hd
      have hkg : k < gs'.length := by
       unfold geff at hdk
       cases hh : gs'[k]? with
       | none => rw [hh] at hdk; cases hdk
       | some x => exact (List.getElem?_eq_some_iff.1 hh).1
      obtain ⟨y, hy, hgk⟩ := yes hkg
      refine after k _ hy hlt ?_
      cases hx : clash g y.2.2 with
      | true => rfl
      | false =>
       have h5 := (clash_eff hx hd').1
       have h6 : y.2.2.op.eff = true := by simpa [geff, hgk] using hdk
       rw [h6] at h5
       cases h5
    have := hsim'.fr (fr := frOf gs' v (s 0).fr (SS (L.setIfInBounds i true)) gs'.length) hfr'
    rw [k4] at this
    simp only [stOf, hm'] at this ⊢
    exact this
 have none : ∀ k, LL (Array.replicate ops.size false) k = false := by
  intro k
  simp only [LL, Array.getD_eq_getD_getElem?, Array.getElem?_replicate]
  split <;> simp
 have noneS : ∀ k, SS (Array.replicate ops.size false) k = false := fun k => none _
 refine main sched _ ι a w (by simp [hn]) (fun j o hj hSj => ?_) hlin ?_ ?_ hz
 ·rw [none] at hSj; cases hSj
 ·have : LL (Array.replicate ops.size false) = fun _ => false := funext none
  rw [this]; exact hok
 ·have hfr : ∀ t, look (frOf gs' v (s 0).fr (SS (Array.replicate ops.size false)) gs'.length) t = look σ.fr t := by
   intro t
   rw [← hs0]
   exact frOf_look hch (i := 0) (Nat.le_refl _) (by omega) fun k hk _ => by rw [noneS k]; exact ⟨(fun e => by cases e), (fun e => by omega)⟩
  have hmm := memOf_eq hch (S := SS (Array.replicate ops.size false)) (i := 0) (n := gs'.length) (Nat.le_refl _) (by omega) fun k hk _ => by rw [noneS k]; exact ⟨(fun e => by cases e), (fun e => by omega)⟩
  have := hs.fr (fr := frOf gs' v (s 0).fr (SS (Array.replicate ops.size false)) gs'.length) hfr
  simp only [stOf, hmm]
  simp only [hs0] at this ⊢
  exact this

theorem buildX_parts {gs : List AG} {M : List (Nat × Nat)} : ∀ {ord : List Nat} {prev : List (Nat × AG)} {leaf : List (Nat × Bool × AG)}, buildX gs M prev ord = some leaf → leaf.map (·.1) = ord ∧ ∀ y ∈ leaf, gs[y.1]? = some y.2.2
 | [], prev, leaf, h => by cases h; exact ⟨rfl, fun y hy => by cases hy⟩
 |k :: r, prev, leaf, h => by
  unfold buildX at h
  split at h
  ·rename_i g hg
   split at h
   ·rename_i l hl
    cases h
    obtain ⟨h1, h2⟩ := buildX_parts hl
    refine ⟨by rw [List.map_cons, h1], fun y hy => ?_⟩
    rcases List.mem_cons.1 hy with rfl | hy
    ·exact hg
    ·exact h2 y hy
   ·cases h
  ·cases h

theorem split_sound {ops : Array Oper} {gs : List AG} {K : St → Prop} {Q : Exit → Act → World → Prop}
  (hc : compGs P dr nt ops ops.toList = some gs) (hedge : edgesOk 0 ops.toList = true) (hgc : (gs.all fun g => !g.op.gcall) = true) (hs : Sim w0 U σ ι a w) (hz : a.tmps.size = nt)
  (hq : ∀ σ' ι' a' w', K σ' → Sim w0 U σ' ι' a' w' → a'.tmps.size = nt → Q .normal a' w') {sched : List Nat} (hlin : LinX ops sched (Array.replicate ops.size false)) :
  ∀ {f : Nat} {E : List (Nat × Nat)} {gss : List (List (Nat × Bool × AG))}, splitX ops.toList gs f E = some gss → (∀ leaf ∈ gss, opsX P (stripX leaf) σ K) → okE E sched (fun _ => false) → wpOps P ops Q sched a w
 | 0, E, gss, h, _, _ => by cases h
 |f + 1, E, gss, h, hall, hok => by
  unfold splitX at h
  split at h
  ·cases h
  ·rename_i ord _
   split at h
   ·cases h
   ·rename_i leaf hb
    split at h
    ·split at h
     ·rename_i hchk
      cases h
      simp only [Bool.and_eq_true, List.all_eq_true, List.mem_range] at hchk
      obtain ⟨⟨⟨h1, h2⟩, h3⟩, h4⟩ := hchk
      obtain ⟨k1, k2⟩ := buildX_parts hb
      exact leaf_sound hc hedge hgc h1 k1 k2 h2 (fun i hi => List.contains_iff_mem.1 (h3 i hi)) (hall leaf List.mem_cons_self) hs hz hq hlin hok
     ·cases h
    ·rename_i i k _
     split at h
     ·cases h
     ·rename_i hne
      split at h
      ·rename_i ga gb ha hb'
       cases h
       rcases okE_split hne hok with h' | h'
       ·exact split_sound hc hedge hgc hs hz hq hlin ha (fun leaf hl => hall leaf (List.mem_append_left _ hl)) h'
       ·exact split_sound hc hedge hgc hs hz hq hlin hb' (fun leaf hl => hall leaf (List.mem_append_right _ hl)) h'
      ·cases h

theorem draw_sound {ops : Array Oper} {gs : List AG} {gss : List (List (Bool × AG))} {K : St → Prop} {Q : Exit → Act → World → Prop} (hc : compGs P dr nt ops ops.toList = some gs) (hd : compDraw P ops.toList gs = .draw gss) (h : drawW P gss σ K) (hs : Sim w0 U σ ι a w) (hz : a.tmps.size = nt)
  (hq : ∀ σ' ι' a' w', K σ' → Sim w0 U σ' ι' a' w' → a'.tmps.size = nt → Q .normal a' w') : ∀ t, wpOps P ops Q (Region.schedule (P.follows .mixedOrders) ops t) a { w with drawn := w.drawn + 1 } := by
 unfold compDraw at hd
 split at hd
 ·rename_i hcond
  simp only [Bool.and_eq_true] at hcond
  obtain ⟨⟨hmix, hedge⟩, hgc⟩ := hcond
  split at hd
  ·rename_i l hl
   cases hd
   have hs' : Sim w0 U σ ι a { w with drawn := w.drawn + 1 } := hs.grow ⟨rfl, rfl, rfl, Nat.le_refl _, fun _ _ => rfl⟩
   intro t
   simp only [Region.schedule, hmix, Bool.true_or, if_true]
   refine split_sound hc hedge hgc hs' hz hq (lin_of _ _ _ (by simp) ?_) hl (fun leaf hlf => drawW_mem h _ (List.mem_map_of_mem hlf)) okE_nil
   have h0 : ∀ n, cnt (fun k => (Array.replicate ops.size false).getD k false) n = 0 := by
    intro n
    induction n with
    | zero => rfl
    | succ n ih =>
     simp only [cnt, ih]
     rw [if_neg]
     simp only [Array.getD_eq_getD_getElem?, Array.getElem?_replicate]
     split <;> simp
   rw [h0]
   omega
  ·cases hd
 ·cases hd
end
end Go.Abs

set_option linter.unusedVariables false
set_option linter.unusedSimpArgs false
namespace Go.Abs
open Go.RowKit

section
variable {P : Program} {a : Act} {w w' w0 : World} {U : Gh} {ι : Pl} {σ : St} {nt : Nat} {dr : Bool}

theorem ops_sound {ops : Array Oper} {Q : Exit → Act → World → Prop} {K : St → Prop} : ∀ {l : List Oper} {gs : List AG} {σ : St} {ι : Pl} {a : Act} {w : World}, compGs P dr nt ops l = some gs → opsW P gs σ K → Sim w0 U σ ι a w → a.tmps.size = nt →
  (∀ σ' ι' a' w', K σ' → Sim w0 U σ' ι' a' w' → a'.tmps.size = nt → Q .normal a' w') → wpList P ops Q l a w
 |[], gs, σ, ι, a, w, hc, h, hs, hsz, hq => by
  cases hc
  exact hq σ ι a w h hs hsz
 |o :: l, gs, σ, ι, a, w, hc, h, hs, hsz, hq => by
  unfold compGs at hc
  split at hc
  ·rename_i g gs' h1 h2
   cases hc
   unfold compG at h1
   by_cases hdst : fitD nt o.dst = false
   ·rw [if_pos hdst] at h1; cases h1
   ·rw [if_neg hdst] at h1
    have hd : ∀ t, o.dst = some t → t < a.tmps.size := by
     intro t ht
     rw [ht] at hdst
     have h5 : t < nt := by simpa [fitD] using hdst
     rw [hsz]
     exact h5
    split at h1
    ·rename_i ao hao
     -- the operation itself
     have run : ∀ {K' : AV → St → Prop}, opW P ao σ K' → (∀ v σ', K' v σ' → opsW P gs' (σ'.put o.dst v) K) → o.wp P a w (wpList P ops Q l) Q := by
      intro K' hop hk
      refine op_sound hao hop hs ?_
      intro v σ' ι' u w' hv hs' hr
      exact ops_sound h2 (hk v σ' hv) (hs'.put hd hr) (by rw [size_put]; exact hsz) hq
     -- the operation left out
     have skip : opsW P gs' (σ.put o.dst (.tup [])) K → wpList P ops Q l (a.put o.dst undef) w := fun hk =>
      ops_sound h2 hk (hs.put hd repV_undef) (by rw [size_put]; exact hsz) hq
     unfold wpList
     split at h1
     ·rename_i hgd
      cases h1
      simp only [opsW] at h
      rw [if_pos (by simp [Region.wanted, hgd])]
      exact .inl (run h fun _ _ h => h)
     ·rename_i j want hgd
      split at h1
      ·rename_i t ht
       cases h1
       simp only [opsW] at h
       have hval := hs.val t
       split at h
       ·rename_i b e
        rw [e] at hval
        have hb := get_of_getD (repV_val hval).1 (by intro e; cases e)
        have hy : yielded ops a.tmps j = some b := by simp [yielded, ht, hb]
        by_cases hbw : b = want
        ·rw [if_pos (by simp [Region.wanted, hgd, hy, hbw])]
         exact .inl (run (h.1 (by simp [hbw])) fun _ _ h => h)
        ·rw [if_neg (by simp [Region.wanted, hgd, hy, hbw])]
         exact skip (h.2 (by simp [hbw]))
       ·rename_i e
        rw [e] at hval
        have hu : a.tmps.getD t undef = undef := by
         generalize a.tmps.getD t undef = z at hval
         cases hval with
         | @tup _ vs hl _ =>
          have : vs = #[] := Array.eq_empty_of_size_eq_zero (by simpa using hl.symm)
          rw [this]
          rfl
        have hy : yielded ops a.tmps j = none := by
         unfold yielded
         simp only [ht, Option.bind_some]
         simp only [Array.getD_eq_getD_getElem?] at hu
         cases e' : a.tmps[t]? with
         | none => rfl
         | some z =>
          rw [e'] at hu
          simp at hu
          subst hu
          rfl
        rw [if_neg (by simp [Region.wanted, hgd, hy])]
        exact skip h
       ·exact h.elim
      ·cases h1
    ·cases h1
  ·cases hc
end

section
variable {P : Program}
theorem compDraw_cases {ops : List Oper} {gs : List AG} : (∃ gss, compDraw P ops gs = .draw gss) ∨ compDraw P ops gs = .region gs true := by
 unfold compDraw
 split
 ·split
  ·exact .inl ⟨_, rfl⟩
  ·exact .inr rfl
 ·exact .inr rfl
theorem regX_cases {dr : Bool} {ops : List Oper} {gs : List AG} : (∃ x, regX P dr ops gs = .draw x) ∨ (∃ x, regX P dr ops gs = .region gs x) := by
 unfold regX
 split
 ·rcases compDraw_cases (P := P) (ops := ops) (gs := gs) with ⟨x, e⟩ | e
  ·exact .inl ⟨x, e⟩
  ·exact .inr ⟨true, e⟩
 ·exact .inr ⟨false, rfl⟩
@[simp] theorem regX_skip {dr : Bool} {ops : List Oper} {gs : List AG} : (regX P dr ops gs = .skip) = False := eq_false fun h => by
 rcases regX_cases (P := P) (dr := dr) (ops := ops) (gs := gs) with ⟨x, e⟩ | ⟨x, e⟩ <;> rw [e] at h <;> cases h
@[simp] theorem regX_ret {dr : Bool} {ops : List Oper} {gs : List AG} : (regX P dr ops gs = .ret) = False := eq_false fun h => by
 rcases regX_cases (P := P) (dr := dr) (ops := ops) (gs := gs) with ⟨x, e⟩ | ⟨x, e⟩ <;> rw [e] at h <;> cases h
@[simp] theorem regX_exit {dr : Bool} {ops : List Oper} {gs : List AG} {i : Nat} : (regX P dr ops gs = .exit i) = False := eq_false fun h => by
 rcases regX_cases (P := P) (dr := dr) (ops := ops) (gs := gs) with ⟨x, e⟩ | ⟨x, e⟩ <;> rw [e] at h <;> cases h
@[simp] theorem regX_seq {dr : Bool} {ops : List Oper} {gs : List AG} {x y : ACode} : (regX P dr ops gs = .seq x y) = False := eq_false fun h => by
 rcases regX_cases (P := P) (dr := dr) (ops := ops) (gs := gs) with ⟨x, e⟩ | ⟨x, e⟩ <;> rw [e] at h <;> cases h
@[simp] theorem regX_cond {dr : Bool} {ops : List Oper} {gs : List AG} {c : AX} {x y : ACode} : (regX P dr ops gs = .cond c x y) = False := eq_false fun h => by
 rcases regX_cases (P := P) (dr := dr) (ops := ops) (gs := gs) with ⟨x, e⟩ | ⟨x, e⟩ <;> rw [e] at h <;> cases h
@[simp] theorem regX_block {dr : Bool} {ops : List Oper} {gs : List AG} {i : Nat} {x : ACode} : (regX P dr ops gs = .block i x) = False := eq_false fun h => by
 rcases regX_cases (P := P) (dr := dr) (ops := ops) (gs := gs) with ⟨x, e⟩ | ⟨x, e⟩ <;> rw [e] at h <;> cases h
@[simp] theorem regX_loop {dr : Bool} {ops : List Oper} {gs : List AG} {x : ACode} : (regX P dr ops gs = .loop x) = False := eq_false fun h => by
 rcases regX_cases (P := P) (dr := dr) (ops := ops) (gs := gs) with ⟨x, e⟩ | ⟨x, e⟩ <;> rw [e] at h <;> cases h
@[simp] theorem regX_rangeF {dr : Bool} {ops : List Oper} {gs : List AG} {f : AX} {ps : List Nat} {x y : ACode} : (regX P dr ops gs = .rangeF f ps x y) = False := eq_false fun h => by
 rcases regX_cases (P := P) (dr := dr) (ops := ops) (gs := gs) with ⟨x, e⟩ | ⟨x, e⟩ <;> rw [e] at h <;> cases h
end
inductive AExit where
 | normal
 | exit (id : Nat)
 | ret

def toExit : AExit → Exit
 | .normal => .normal
 | .exit id => .exit id
 | .ret => .ret

def FR (rd : Option Nat) : Fence := { Fence.wide with round := rd }
def sh (ds : List Deferred) (a : Act) : Act := { a with defers := a.defers ++ ds }
def Lf (ds : List Deferred) (K : Act → World → Prop) : Act → World → Prop := fun a' w' => ∃ a0, a' = sh ds a0 ∧ K a0 w'
def LfQ (ds : List Deferred) (Q : Exit → Act → World → Prop) : Exit → Act → World → Prop := fun e a' w' => ∃ a0, a' = sh ds a0 ∧ Q e a0 w'
theorem sh_put {ds : List Deferred} {a : Act} {d : Option Tmp} {v : Value} : (sh ds a).put d v = sh ds (a.put d v) := by cases d <;> rfl
theorem sh_eval {ds : List Deferred} {a : Act} : (sh ds a).eval = a.eval := by
 funext x
 cases x <;> rfl
theorem callsFR {P : Program} {rd : Option Nat} {n : Nat} {f : FuncId} {args : Array Value} {w : World} {R : Ending → World → Prop} (h : Calls P f args w R) : CallsIn (FR rd) n P f args w R :=
 (callsIn_wide (n := n)).2 h
theorem rowsFR {P : Program} {rd : Option Nat} {n : Nat} {row : String} {args : Array Value} {w : World} {R : Value → World → Prop} (h : Rows P row args w R) : RowsIn (FR rd) n P row args w R := by
 intro c cs _
 obtain ⟨v, w', hr, hs⟩ := h c cs
 exact ⟨v, w', hr, stepsIn_wide.2 hs⟩
theorem op_in {P : Program} {rd : Option Nat} {ds : List Deferred} {n : Nat} {o : Oper} {a : Act} {w : World} {next : Act → World → Prop} {Q : Exit → Act → World → Prop}
  (hd : ∀ c, o.op ≠ .defer c) (hl : ¬ LetsOut Q) (h : o.wp P a w next Q) : o.wpIn (FR rd) n P (sh ds a) w (Lf ds next) (LfQ ds Q) := by
 refine ⟨fun _ _ => trivial, ?_⟩
 rw [Oper.semAt_eq _ _ _ hd, sh_eval]
 unfold Oper.wp at h
 generalize (execOp a.eval o).run P w = r at h
 cases r with
 | ok nx w' =>
  cases nx <;> simp only [Oper.upon, Oper.uponIn] at h ⊢
  case value v => exact ⟨_, sh_put, h⟩
  case skip => exact ⟨_, sh_put, h⟩
  case defer d =>
   refine ⟨{ a with defers := d :: a.defers }.put o.dst undef, ?_, h⟩
   cases o.dst <;> rfl
  case enter f args =>
   refine ⟨by simp [FR, Fence.wide], callsFR (h.mono fun e w'' h => ?_)⟩
   cases e with
   | returned v => exact ⟨_, sh_put, h⟩
   | panicked ch => exact ⟨_, rfl, h⟩
   | outgrown => exact absurd h hl
  case row row args =>
   exact ⟨by simp [FR, Fence.wide], rowsFR (h.mono fun v w'' h => ⟨_, sh_put, h⟩)⟩
 | halt hh w' =>
  cases hh <;> simp only [Oper.upon, Oper.uponIn] at h ⊢
  case panic v => exact ⟨_, rfl, h⟩
theorem compG_op {P : Program} {dr : Bool} {nt : Nat} {ops : Array Oper} {o : Oper} {g : AG} (h : compG P dr nt ops o = some g) : ∀ c, o.op ≠ .defer c := by
 intro c e
 unfold compG at h
 rw [e] at h
 split at h
 ·cases h
 ·simp [compOp] at h
theorem compGs_ops {P : Program} {dr : Bool} {nt : Nat} {ops : Array Oper} : ∀ {l : List Oper} {gs : List AG}, compGs P dr nt ops l = some gs → ∀ o ∈ l, ∀ c, o.op ≠ .defer c
 | [], _, _, o, ho => by cases ho
 |x :: l, gs, h, o, ho => by
  unfold compGs at h
  split at h
  ·rename_i g gs' h1 h2
   rcases List.mem_cons.1 ho with rfl | ho
   ·exact compG_op h1
   ·exact compGs_ops h2 o ho
  ·cases h
theorem list_in {P : Program} {rd : Option Nat} {ds : List Deferred} {n : Nat} {ops : Array Oper} {Q : Exit → Act → World → Prop} (hl : ¬ LetsOut Q) : ∀ {l : List Oper} {a : Act} {w : World}, (∀ o ∈ l, ∀ c, o.op ≠ .defer c) →
  wpList P ops Q l a w → wpListIn (FR rd) n P ops (LfQ ds Q) l (sh ds a) w
 | [], a, w, _, h => ⟨a, rfl, h⟩
 |o :: l, a, w, hd, h => by
  unfold wpList at h
  unfold wpListIn
  by_cases hw : Region.wanted o (yielded ops a.tmps) = true
  ·rw [if_pos hw] at h
   have hw' : Region.wanted o (yielded ops (sh ds a).tmps) = true := hw
   rw [if_pos hw']
   rcases h with h | ⟨_, h⟩
   ·have := op_in (rd := rd) (ds := ds) (n := n) (hd o List.mem_cons_self) hl h
    refine Oper.wpIn_mono (fun a' w' ⟨a0, e, hk⟩ => ?_) this
    subst e
    exact list_in hl (fun o ho => hd o (List.mem_cons_of_mem _ ho)) hk
   ·exact absurd h hl
  ·rw [if_neg hw] at h
   have hw' : ¬ Region.wanted o (yielded ops (sh ds a).tmps) = true := hw
   rw [if_neg hw', sh_put]
   exact ⟨fun _ _ => trivial, list_in hl (fun o ho => hd o (List.mem_cons_of_mem _ ho)) h⟩
theorem ops_in {P : Program} {rd : Option Nat} {ds : List Deferred} {n : Nat} {ops : Array Oper} {Q : Exit → Act → World → Prop} (hl : ¬ LetsOut Q) (hd : ∀ o ∈ ops.toList, ∀ c, o.op ≠ .defer c) : ∀ {l : List Nat} {a : Act} {w : World},
  wpOps P ops Q l a w → wpOpsIn (FR rd) n P ops (LfQ ds Q) l (sh ds a) w
 | [], a, w, h => ⟨a, rfl, h⟩
 |i :: l, a, w, h => by
  unfold wpOps at h
  unfold wpOpsIn
  cases ho : ops[i]? with
  | none =>
   rw [ho] at h
   exact ops_in hl hd h
  | some o =>
   rw [ho] at h
   have hm : o ∈ ops.toList := Array.mem_toList_iff.2 (Array.mem_of_getElem? ho)
   dsimp only at h ⊢
   by_cases hw : Region.wanted o (yielded ops a.tmps) = true
   ·rw [if_pos hw] at h
    have hw' : Region.wanted o (yielded ops (sh ds a).tmps) = true := hw
    rw [if_pos hw']
    rcases h with h | ⟨_, h⟩
    ·have := op_in (rd := rd) (ds := ds) (n := n) (hd o hm) hl h
     refine Oper.wpIn_mono (fun a' w' ⟨a0, e, hk⟩ => ?_) this
     subst e
     exact ops_in hl hd hk
    ·exact absurd h hl
   ·rw [if_neg hw] at h
    have hw' : ¬ Region.wanted o (yielded ops (sh ds a).tmps) = true := hw
    rw [if_neg hw', sh_put]
    exact ⟨fun _ _ => trivial, ops_in hl hd h⟩

def RdOk (U : Gh) (rd : Option Nat) : Prop := ∀ l, rd = some l → ∀ w V, U.G w V → ∃ r, w.heap[l]? = some (.loop r)
inductive Ext (B : Nat) (rd : Option Nat) (U : Gh) (ds : List Deferred) : Gh → List Deferred → Prop
 | refl : Ext B rd U ds U ds
 | mark {U' U'' : Gh} {ds' : List Deferred} {D : Nat} (h : Ext B rd U ds U' ds') (hr : rd = none) (hD : B ≤ D) (hp : U''.p = U'.p) (hi : U''.ι0 = U'.ι0)
   (hG : ∀ w V, U''.G w V → U'.G w V ∧ V D ∧ w.heap[D]? = some (.deferred (some [])) ∧ U'.G (w.putObj D (.deferred none)) V) : Ext B rd U ds U'' ({ target := .collected D, args := #[] } :: ds')
theorem Ext.trans {B : Nat} {rd : Option Nat} {U U' U'' : Gh} {ds ds' ds'' : List Deferred} (h : Ext B rd U ds U' ds') (h' : Ext B rd U' ds' U'' ds'') : Ext B rd U ds U'' ds'' := by
 induction h' with
 | refl => exact h
 | mark _ hr hD hp hi hG ih => exact .mark ih hr hD hp hi hG
theorem Ext.le {B : Nat} {rd : Option Nat} {U U' : Gh} {ds ds' : List Deferred} (h : Ext B rd U ds U' ds') : U'.p = U.p ∧ U'.ι0 = U.ι0 ∧ ∀ w V, U'.G w V → U.G w V := by
 induction h with
 | refl => exact ⟨rfl, rfl, fun _ _ h => h⟩
 | mark _ _ _ hp hi hG ih => exact ⟨hp.trans ih.1, hi.trans ih.2.1, fun w V h => ih.2.2 w V (hG w V h).1⟩
theorem Ext.inRound {B l : Nat} {U U' : Gh} {ds ds' : List Deferred} (h : Ext B (some l) U ds U' ds') : U' = U ∧ ds' = ds := by
 cases h with
 | refl => exact ⟨rfl, rfl⟩
 | mark _ hr => cases hr
theorem RdOk.ext {B : Nat} {rd : Option Nat} {U U' : Gh} {ds ds' : List Deferred} (hr : RdOk U rd) (h : Ext B rd U ds U' ds') : RdOk U' rd := fun l e w V hg => hr l e w V (h.le.2.2 w V hg)

def Post (w0 : World) (U : Gh) (rd : Option Nat) (ds : List Deferred) (nt : Nat) (Q : AExit → St → Prop) : Exit → Act → World → Prop := fun e a w =>
 ∃ e' σ ι U' ds' a0, e = toExit e' ∧ Q e' σ ∧ Sim w0 U' σ ι a0 w ∧ a0.tmps.size = nt ∧ a = sh ds' a0 ∧ Ext w0.heap.size rd U ds U' ds'
theorem Post.ext {w0 : World} {U U' : Gh} {rd : Option Nat} {ds ds' : List Deferred} {nt : Nat} {Q : AExit → St → Prop} {e : Exit} {a : Act} {w : World} (h : Post w0 U' rd ds' nt Q e a w) (hx : Ext w0.heap.size rd U ds U' ds') : Post w0 U rd ds nt Q e a w := by
 obtain ⟨e', σ, ι, U2, ds2, a0, h1, h2, h3, h4, h5, h6⟩ := h
 exact ⟨e', σ, ι, U2, ds2, a0, h1, h2, h3, h4, h5, hx.trans h6⟩
theorem Post.here {w0 : World} {U : Gh} {rd : Option Nat} {ds : List Deferred} {nt : Nat} {Q : AExit → St → Prop} {e' : AExit} {σ : St} {ι : Pl} {a : Act} {w : World} (hq : Q e' σ) (hs : Sim w0 U σ ι a w) (hz : a.tmps.size = nt) : Post w0 U rd ds nt Q (toExit e') (sh ds a) w :=
 ⟨e', σ, ι, U, ds, a, rfl, hq, hs, hz, rfl, .refl⟩

def AW (P : Program) (nt : Nat) (c : ACode) (σ : St) (Q : AExit → St → Prop) : Prop :=
 ∀ (c' : Code), compC P nt c' = some c → ∀ w0 U rd ds ι a w, RdOk U rd → Sim w0 U σ ι a w → a.tmps.size = nt → c'.wpIn (FR rd) 0 P (Post w0 U rd ds nt Q) (sh ds a) w

def thenW (P : Program) (nt : Nat) (b : ACode) (Q : AExit → St → Prop) : AExit → St → Prop
 | .normal, σ => AW P nt b σ Q
 | .exit i, σ => Q (.exit i) σ
 | .ret, σ => Q .ret σ
def blockW (id : Nat) (Q : AExit → St → Prop) : AExit → St → Prop
 | .normal, σ => Q .normal σ
 | .exit i, σ => if i = id then Q .normal σ else Q (.exit i) σ
 | .ret, σ => Q .ret σ

section
variable {P : Program} {nt : Nat} {σ : St} {Q Q' : AExit → St → Prop}

theorem AW.mono {c : ACode} (h : AW P nt c σ Q) (hq : ∀ e σ, Q e σ → Q' e σ) : AW P nt c σ Q' :=
 fun c' hc w0 U rd ds ι a w hr hs hz => wpIn_mono (h c' hc w0 U rd ds ι a w hr hs hz) fun e a w ⟨e', σ', ι', U', ds', a0, h1, h2, h3⟩ => ⟨e', σ', ι', U', ds', a0, h1, hq _ _ h2, h3⟩

theorem AW_skip (h : Q .normal σ) : AW P nt .skip σ Q := by
 intro c' hc w0 U rd ds ι a w hrd hs hz
 cases c' <;> simp [compC] at hc
 ·exact wpIn_skip (Post.here (e' := .normal) h hs hz)
 all_goals (try (split at hc <;> simp at hc))
theorem AW_ret (h : Q .ret σ) : AW P nt .ret σ Q := by
 intro c' hc w0 U rd ds ι a w hrd hs hz
 cases c' <;> simp [compC] at hc
 all_goals (try (split at hc <;> simp at hc))
 exact wpIn_ret (Post.here (e' := .ret) h hs hz)
theorem AW_exit {id : Nat} (h : Q (.exit id) σ) : AW P nt (.exit id) σ Q := by
 intro c' hc w0 U rd ds ι a w hrd hs hz
 cases c' <;> simp [compC] at hc
 all_goals (try (split at hc <;> simp at hc))
 subst hc
 exact wpIn_exit (Post.here (e' := .exit _) h hs hz)
theorem AW_seq {x y : ACode} (h : AW P nt x σ (thenW P nt y Q)) : AW P nt (.seq x y) σ Q := by
 intro c' hc w0 U rd ds ι a w hrd hs hz
 cases c' <;> simp [compC] at hc
 all_goals (try (split at hc <;> simp at hc))
 rename_i b1 b2 c1 c2 h1 h2
 obtain ⟨rfl, rfl⟩ := hc
 refine wpIn_seq (wpIn_mono (h _ h1 w0 U rd ds ι a w hrd hs hz) ?_)
 rintro e a1 w1 ⟨e', σ', ι', U', ds', a0, rfl, hq, hs', hsz, rfl, hx⟩
 cases e' with
 | normal => exact wpIn_mono (hq _ h2 w0 U' rd ds' ι' a0 w1 (hrd.ext hx) hs' hsz) fun e a w h => h.ext hx
 | exit id => exact ⟨.exit id, σ', ι', U', ds', a0, rfl, hq, hs', hsz, rfl, hx⟩
 | ret => exact ⟨.ret, σ', ι', U', ds', a0, rfl, hq, hs', hsz, rfl, hx⟩
theorem AW_block {x : ACode} {id : Nat} (h : AW P nt x σ (blockW id Q)) : AW P nt (.block id x) σ Q := by
 intro c' hc w0 U rd ds ι a w hrd hs hz
 cases c' <;> simp [compC] at hc
 all_goals (try (split at hc <;> simp at hc))
 rename_i i1 c1
 obtain ⟨rfl, h1⟩ : i1 = id ∧ compC P nt c1 = some x := by simp_all
 refine wpIn_block (wpIn_mono (h _ h1 w0 U rd ds ι a w hrd hs hz) ?_)
 rintro e a1 w1 ⟨e', σ', ι', U', ds', a0, rfl, hq, hs', hsz, rfl, hx⟩
 cases e' with
 | normal => exact ⟨.normal, σ', ι', U', ds', a0, rfl, hq, hs', hsz, rfl, hx⟩
 | exit i =>
  simp only [blockW] at hq
  by_cases hi : i = i1
  ·rw [if_pos hi] at hq
   simp only [toExit, Exit.inBlock, if_pos hi]
   exact ⟨.normal, σ', ι', U', ds', a0, rfl, hq, hs', hsz, rfl, hx⟩
  ·rw [if_neg hi] at hq
   simp only [toExit, Exit.inBlock, if_neg hi]
   exact ⟨.exit i, σ', ι', U', ds', a0, rfl, hq, hs', hsz, rfl, hx⟩
 | ret => exact ⟨.ret, σ', ι', U', ds', a0, rfl, hq, hs', hsz, rfl, hx⟩

theorem AW_cond {c : AX} {x y : ACode} {t : Bool} (hc : c.ev σ.fr = .c (.pure (.val (.bool t)))) (h1 : t = true → AW P nt x σ Q) (h2 : t = false → AW P nt y σ Q) : AW P nt (.cond c x y) σ Q := by
 intro c' hc' w0 U rd ds ι a w hrd hs hz
 cases c' <;> simp [compC] at hc'
 all_goals (try (split at hc' <;> simp at hc'))
 rename_i o b1 b2 _ _ _ x1 x2 x3 g1 g2 g3
 obtain ⟨rfl, rfl, rfl⟩ := hc'
 have r1 := compX_rep g1 hs
 rw [hc] at r1
 have ho := (repV_val r1).1
 have ho' : (sh ds a).eval o = .bool t := by rw [sh_eval]; exact ho
 cases t with
 | true => exact wpIn_cond_true ho' (h1 rfl _ g2 w0 U rd ds ι a w hrd hs hz)
 | false => exact wpIn_cond_false ho' (h2 rfl _ g3 w0 U rd ds ι a w hrd hs hz)

theorem post_in {w0 : World} {U : Gh} {rd : Option Nat} {ds : List Deferred} : ∀ e a w, LfQ ds (fun e a w => ∃ σ ι, e = .normal ∧ Q .normal σ ∧ Sim w0 U σ ι a w ∧ a.tmps.size = nt) e a w → Post w0 U rd ds nt Q e a w := by
 rintro e a w ⟨a0, rfl, σ, ι, rfl, hq, hs, hz⟩
 exact Post.here (e' := .normal) hq hs hz
theorem post_out {w0 : World} {U : Gh} : ¬ LetsOut (fun e a w => ∃ σ ι, e = .normal ∧ Q .normal σ ∧ Sim w0 U σ ι a w ∧ a.tmps.size = nt) := by
 rintro ⟨_, _, _, _, h, _⟩
 cases h
theorem AW_region {gs : List AG} (h : opsW P gs σ (Q .normal)) : AW P nt (.region gs false) σ Q := by
 intro c' hc w0 U rd ds ι a w hrd hs hz
 cases c' <;> simp [compC] at hc
 all_goals (try (split at hc <;> simp at hc))
 rename_i id ops dr
 obtain ⟨g1, h1, hg⟩ := hc
 cases dr with
 | false =>
  simp [regX] at hg
  subst hg
  refine wpIn_mono (wpIn_region_list (list_in (ds := ds) post_out (compGs_ops h1) (ops_sound h1 h hs hz fun σ' ι' a' w' hq hs' hz' => ⟨σ', ι', rfl, hq, hs', hz'⟩))) post_in
 | true =>
  simp only [regX, if_true] at hg
  rcases compDraw_cases (P := P) (ops := ops.toList) (gs := g1) with ⟨x, e⟩ | e <;> rw [e] at hg <;> simp at hg
theorem AW_draw {gss : List (List (Bool × AG))} (h : drawW P gss σ (Q .normal)) : AW P nt (.draw gss) σ Q := by
 intro c' hc w0 U rd ds ι a w hrd hs hz
 cases c' <;> simp [compC] at hc
 all_goals (try (split at hc <;> simp at hc))
 rename_i id ops dr
 obtain ⟨g1, h1, hg⟩ := hc
 cases dr with
 | false => simp [regX] at hg
 | true =>
  simp only [regX, if_true] at hg
  refine wpIn_mono (wpIn_region_draw fun t => ops_in (ds := ds) post_out (compGs_ops h1) (draw_sound h1 hg h hs hz (fun σ' ι' a' w' hq hs' hz' => ⟨σ', ι', rfl, hq, hs', hz'⟩) t)) post_in
end
end Go.Abs

set_option linter.unusedVariables false
set_option linter.unusedSimpArgs false
namespace Go.Abs
open Go.RowKit


def clA (N : Nat) : AC → Prop
 | .ptr nm _ => nm < N
 | .eptr nm _ _ _ => nm < N
 | .ref nm => nm < N
 | .mref nm => nm < N
 | .clo _ caps => go caps
 | _ => True
where go : List AC → Prop
 | [] => True
 | .ptr nm _ :: r => nm < N ∧ go r
 | .mref nm :: r => nm < N ∧ go r
 | .ref nm :: r => nm < N ∧ go r
 | .pure _ :: r => go r
 | .cptr _ :: r => go r
 | .nils :: r => go r
 | .tsl _ :: r => go r
 | .top :: r => go r
 | _ :: _ => False
def clAs (N : Nat) : List AC → Prop
 | [] => True
 | x :: r => clA N x ∧ clAs N r
def clV (N : Nat) : AV → Prop
 | .c x => clA N x
 | .agg xs => clAs N xs
 | .tup [] => True
 | .tup _ => False
 | .top => True
def clEs (N : Nat) : List (MK × List AC) → Prop
 | [] => True
 | x :: r => clAs N x.2 ∧ clEs N r
def clRs (N : Nat) : List (List AC) → Prop
 | [] => True
 | x :: r => clAs N x ∧ clRs N r
def clB (N : Nat) : Box → Prop
 | .var xs => clAs N xs
 | .map _ _ ents => clEs N ents
 | .arn _ _ rows => clRs N rows
 | _ => True
def rn : List (Nat × Nat) → Nat → Nat
 | [], n => n
 | (a, b) :: r, n => if a = n then b else rn r n
def renC (l : List (Nat × Nat)) : AC → AC
 | .ptr nm off => .ptr (rn l nm) off
 | .mref nm => .mref (rn l nm)
 | .ref nm => .ref (rn l nm)
 | x => x
def renA (l : List (Nat × Nat)) : AC → AC
 | .ptr nm off => .ptr (rn l nm) off
 | .eptr nm sz row off => .eptr (rn l nm) sz row off
 | .ref nm => .ref (rn l nm)
 | .mref nm => .mref (rn l nm)
 | .clo f caps => .clo f (caps.map (renC l))
 | x => x
def renV (l : List (Nat × Nat)) : AV → AV
 | .c x => .c (renA l x)
 | .agg xs => .agg (xs.map (renA l))
 | x => x
def renB (l : List (Nat × Nat)) : Box → Box
 | .var xs => .var (xs.map (renA l))
 | .map kt n ents => .map kt n (ents.map fun x => (x.1, x.2.map (renA l)))
 | .arn e sz rows => .arn e sz (rows.map fun r => r.map (renA l))
 | b => b
def wkF (l : List (Nat × Nat)) (fr : List (Nat × AV)) (N : Nat) : List (Nat × AV) → Prop
 | [] => True
 | (t, v) :: r => (look fr t = renV l v ∨ v = .top) ∧ clV N v ∧ wkF l fr N r
def notIn (n : Nat) : List Nat → Prop
 | [] => True
 | m :: r => n ≠ m ∧ notIn n r
def wkM (l : List (Nat × Nat)) (mem : List (Nat × Box)) (N : Nat) : List Nat → List (Nat × Box) → Prop
 | _, [] => True
 | seen, (nm, b) :: r => findB mem (rn l nm) = some (renB l b) ∧ nm < N ∧ clB N b ∧ notIn (rn l nm) seen ∧ wkM l mem N (rn l nm :: seen) r
def wkL (N : Nat) : List (Nat × Nat) → Prop
 | [] => True
 | (a, _) :: r => N ≤ a ∧ wkL N r
theorem wkL_rn {N : Nat} : ∀ {l : List (Nat × Nat)}, wkL N l → ∀ {n : Nat}, n < N → rn l n = n
 | [], _, n, _ => rfl
 |(a, b) :: r, h, n, hn => by
  simp only [rn]
  rw [if_neg (by have := h.1; omega)]
  exact wkL_rn h.2 hn
def Wk (l : List (Nat × Nat)) (σ σ' : St) : Prop := wkF l σ.fr σ'.nx σ'.fr ∧ wkM l σ.mem σ'.nx [] σ'.mem ∧ σ'.base = σ.base ∧ σ.base ≤ σ'.nx ∧ wkL σ.base l

section
variable {P : Program} {a : Act} {w w' w0 : World} {U : Gh} {ι : Pl} {σ σ' : St} {nt : Nat}

theorem RepA.cl {V V' : Nat → Prop} {N N' : Nat} {x : AC} {v : Value} {l : List (Nat × Nat)} (h : RepA w V ι N (renA l x) v) (hV : ∀ b, V b → V' b) (hc : clA N' x) : RepA w V' (fun n => ι (rn l n)) N' x v := by
 have hp : ∀ {p : PC} {v : Value}, RepP w V p v → RepP w V' p v := fun h => h.mono (fun b _ h => hV b h) (fun _ _ _ => rfl)
 have hcp : ∀ {cells : List PC} {v : Value}, RepA w V ι N (.cptr cells) v → RepA w V' (fun n => ι (rn l n)) N' (.cptr cells) v := by
  intro cells v h
  cases h with
  | cptr g hc =>
   refine .cptr g fun j p hj => ?_
   obtain ⟨h1, h2, h3⟩ := hc j p hj
   exact ⟨hV _ h1, h2, hp h3⟩
 cases x with
 | pure p => cases h with | pure h => exact .pure (hp h)
 | nils => cases h; exact .nils
 | tsl rows => cases h with | tsl h => exact .tsl (hp h)
 | ptr nm off => cases h with | ptr hn h => exact .ptr hc h
 | eptr nm sz row off => cases h with | eptr hn h => exact .eptr hc h
 | cptr cells => exact hcp h
 | ref nm =>
  have e : v = ι (rn l nm) := by cases h; rfl
  subst e
  cases h with
  | ref hn h => exact .ref (ι := fun n => ι (rn l n)) hc h
 | mref nm => cases h with | mref hn h => exact .mref hc h
 | top => cases h with | top h => exact .top h
 | clo f caps =>
  cases h with
  | @clo _ _ vs hl h =>
   refine .clo (by simpa using hl) fun i x hi => ?_
   have key : ∀ (l : List AC), clA.go N' l → ∀ (i : Nat) x, l[i]? = some x → (∀ nm off, x = .ptr nm off → nm < N') ∧ (∀ nm sz row off, x ≠ .eptr nm sz row off) ∧ (∀ nm, x = .ref nm → nm < N') ∧ (∀ f cs, x ≠ .clo f cs) ∧ (∀ nm, x = .mref nm → nm < N') := by
    intro l
    induction l with
    | nil => intro _ i x hi; simp at hi
    | cons y ys ih =>
     intro hg i x hi
     cases i with
     | zero =>
      simp at hi
      subst hi
      cases y <;> simp_all [clA.go]
     | succ i =>
      simp at hi
      refine ih ?_ i x hi
      cases y <;> simp_all [clA.go]
   obtain ⟨k1, k2, k3, k4, k5⟩ := key caps hc i x hi
   have hx := h i (renC l x) (by rw [List.getElem?_map, hi]; rfl)
   generalize vs.toList[i]?.getD undef = z at hx ⊢
   cases x with
   | pure p => cases hx with | pure h => exact .pure (hp h)
   | nils => cases hx; exact .nils
   | tsl rows => cases hx with | tsl h => exact .tsl (hp h)
   | ptr nm off => cases hx with | ptr hn h => exact .ptr (k1 _ _ rfl) h
   | eptr => exact absurd rfl (k2 _ _ _ _)
   | cptr cells => exact hcp hx
   | ref nm =>
    have e : z = ι (rn l nm) := by cases hx; rfl
    subst e
    cases hx with
    | ref hn h => exact .ref (ι := fun n => ι (rn l n)) (k3 _ rfl) h
   | mref nm => cases hx with | mref hn h => exact .mref (k5 _ rfl) h
   | top => cases hx with | top h => exact .top h
   | clo => exact absurd rfl (k4 _ _)
theorem reps_cl {V V' : Nat → Prop} {N N' : Nat} {l : List (Nat × Nat)} : ∀ {xs : List AC} {vs : List Value}, All2 (RepA w V ι N) (xs.map (renA l)) vs → (∀ b, V b → V' b) → clAs N' xs → All2 (RepA w V' (fun n => ι (rn l n)) N') xs vs
 | [], vs, h, hV, hc => by cases h; exact .nil
 |x :: xs, vs, h, hV, hc => by
  cases h with
  | cons h1 h2 => exact .cons (h1.cl hV hc.1) (reps_cl h2 hV hc.2)
theorem RepV.cl {V V' : Nat → Prop} {N N' : Nat} {x : AV} {v : Value} {l : List (Nat × Nat)} (h : RepV w V ι N (renV l x) v) (hV : ∀ b, V b → V' b) (hc : clV N' x) : RepV w V' (fun n => ι (rn l n)) N' x v := by
 cases x with
 | c x => cases h with | c h => exact .c (h.cl hV hc)
 | agg xs => cases h with | agg h => exact .agg (reps_cl h hV hc)
 | tup xs =>
  cases xs with
  | nil => cases h with | tup hl h => exact .tup hl (by simp)
  | cons => exact hc.elim
 | top => exact .top

theorem notIn_mem {n : Nat} : ∀ {l : List Nat}, notIn n l → ¬ n ∈ l
 | [], _ => by simp
 |m :: r, h => by
  intro hm
  rcases List.mem_cons.1 hm with e | e
  ·exact h.1 e
  ·exact notIn_mem h.2 e
theorem mval_ren {l : List (Nat × Nat)} {n : Option Nat} {ps : List AC} : mval n (ps.map (renA l)) = renV l (mval n ps) := by
 cases n with
 | none => cases ps <;> rfl
 | some k => rfl
theorem mval_cl {N : Nat} {n : Option Nat} {ps : List AC} (h : clAs N ps) : clV N (mval n ps) := by
 cases n with
 | none =>
  cases ps with
  | nil => exact trivial
  | cons p r => exact h.1
 | some k => exact h
theorem ents_cl {V V' : Nat → Prop} {N N' : Nat} {l : List (Nat × Nat)} {kt : KT} {n : Option Nat} : ∀ {xs : List (MK × List AC)} {es : List MapEntry}, All2 (EntRep w V ι N kt n) (xs.map fun x => (x.1, x.2.map (renA l))) es → (∀ b, V b → V' b) → clEs N' xs →
  All2 (EntRep w V' (fun n => ι (rn l n)) N' kt n) xs es
 | [], es, h, hV, hc => by cases h; exact .nil
 |x :: xs, es, h, hV, hc => by
  cases h with
  | cons h1 h2 =>
   refine .cons ⟨h1.1, ?_⟩ (ents_cl h2 hV hc.2)
   have h3 : RepV _ _ _ _ (mval n (List.map _ _)) _ := h1.2
   rw [mval_ren] at h3
   exact h3.cl hV (mval_cl hc.1)
theorem wkM_find {l : List (Nat × Nat)} {mem mem' : List (Nat × Box)} {N : Nat} : ∀ {seen : List Nat}, wkM l mem N seen mem' → ∀ {nm : Nat} {b : Box}, findB mem' nm = some b → findB mem (rn l nm) = some (renB l b) ∧ nm < N ∧ clB N b ∧ ¬ rn l nm ∈ seen := by
 induction mem' with
 | nil => intro seen h nm b hf; cases hf
 | cons x r ih =>
  obtain ⟨k, c⟩ := x
  intro seen h nm b hf
  obtain ⟨h1, h2, h3, h4, h5⟩ := h
  rw [findB_cons] at hf
  by_cases e : k = nm
  ·subst e
   rw [if_pos rfl] at hf
   cases hf
   exact ⟨h1, h2, h3, notIn_mem h4⟩
  ·rw [if_neg e] at hf
   obtain ⟨g1, g2, g3, g4⟩ := ih h5 hf
   exact ⟨g1, g2, g3, fun hm => g4 (List.mem_cons_of_mem _ hm)⟩
theorem wkM_inj {l : List (Nat × Nat)} {mem mem' : List (Nat × Box)} {N : Nat} : ∀ {seen : List Nat}, wkM l mem N seen mem' → ∀ {nm nm' : Nat} {b b' : Box}, findB mem' nm = some b → findB mem' nm' = some b' → rn l nm = rn l nm' → nm = nm' := by
 induction mem' with
 | nil => intro seen h nm nm' b b' hf; cases hf
 | cons x r ih =>
  obtain ⟨k, c⟩ := x
  intro seen h nm nm' b b' h1 h2 he
  have h5 := h.2.2.2.2
  rw [findB_cons] at h1 h2
  by_cases e : k = nm
  ·by_cases e' : k = nm'
   ·omega
   ·rw [if_neg e'] at h2
    have := (wkM_find h5 h2).2.2.2
    subst e
    rw [← he] at this
    exact absurd List.mem_cons_self this
  ·rw [if_neg e] at h1
   by_cases e' : k = nm'
   ·have := (wkM_find h5 h1).2.2.2
    subst e'
    rw [he] at this
    exact absurd List.mem_cons_self this
   ·rw [if_neg e'] at h2
    exact ih h5 h1 h2 he
theorem wkF_look {l : List (Nat × Nat)} {fr fr' : List (Nat × AV)} {N : Nat} (h : wkF l fr N fr') (t : Nat) : (look fr t = renV l (look fr' t) ∨ look fr' t = .top) ∧ clV N (look fr' t) := by
 induction fr' with
 | nil => exact ⟨.inr rfl, trivial⟩
 | cons x r ih =>
  obtain ⟨k, v⟩ := x
  obtain ⟨h1, h2, h3⟩ := h
  rw [look_put]
  by_cases e : k = t
  ·subst e
   rw [if_pos rfl]
   exact ⟨h1, h2⟩
  ·rw [if_neg e]
   exact ih h3

theorem clAs_get {N : Nat} : ∀ {xs : List AC}, clAs N xs → ∀ {j : Nat} {x : AC}, xs[j]? = some x → clA N x
 | [], _, j, x, h => by cases h
 | y :: r, hc, 0, x, h => by cases h; exact hc.1
 | y :: r, hc, j + 1, x, h => clAs_get (xs := r) hc.2 h
theorem clRs_get {N : Nat} : ∀ {xs : List (List AC)}, clRs N xs → ∀ {j : Nat} {x : List AC}, xs[j]? = some x → clAs N x
 | [], _, j, x, h => by cases h
 | y :: r, hc, 0, x, h => by cases h; exact hc.1
 | y :: r, hc, j + 1, x, h => clRs_get (xs := r) hc.2 h
theorem rowsA_cl {V V' : Nat → Prop} {N N' sz : Nat} {l : List (Nat × Nat)} {rows : List (List AC)} {cells : List Value} (h : RowsRepA w V ι N sz (rows.map fun r => r.map (renA l)) cells) (hV : ∀ b, V b → V' b) (hc : clRs N' rows) : RowsRepA w V' (fun n => ι (rn l n)) N' sz rows cells := by
 refine ⟨by have := h.1; rwa [List.length_map] at this, fun i row hi => ?_, fun i row j p hi hj => ?_⟩
 ·have := h.2.1 i _ (by rw [List.getElem?_map, hi]; rfl)
  rwa [List.length_map] at this
 ·obtain ⟨v, hv, hp⟩ := h.2.2 i _ j _ (by rw [List.getElem?_map, hi]; rfl) (by rw [List.getElem?_map, hj]; rfl)
  exact ⟨v, hv, hp.cl hV (clAs_get (clRs_get hc hi) hj)⟩
theorem Sim.wk {l : List (Nat × Nat)} (hs : Sim w0 U σ ι a w) (h : Wk l σ σ') : Sim w0 U σ' (fun n => ι (rn l n)) a w := by
 obtain ⟨hf, hm, hb1, hb2, hb3⟩ := h
 have hfree : ∀ b, Free w0.heap.size U ι σ.mem b → Free w0.heap.size U (fun n => ι (rn l n)) σ'.mem b := fun b h => ⟨h.1, fun nm bx hn => h.2 _ _ (wkM_find hm hn).1⟩
 refine ⟨fun t => ?_, hs.defers, fun nm bx hn => (wkM_find hm hn).2.1, fun nm bx hn => ?_, fun nm nm' b1 b2 b h1 h2 h3 h4 => ?_, hs.below, U.mono _ _ _ _ hs.keep (fun b _ h => hfree b h) (fun _ _ _ => rfl), ⟨by rw [hb1]; exact hb2, fun nm hn => ?_⟩⟩
 ·obtain ⟨h1, h2⟩ := wkF_look hf t
  have hv := hs.val t
  rcases h1 with h1 | h1
  ·rw [h1] at hv
   exact hv.cl hfree h2
  ·rw [h1]; exact .top
 ·obtain ⟨h1, h2, h3, _⟩ := wkM_find hm hn
  have hb := hs.box _ _ h1
  cases bx with
  | var xs =>
   obtain ⟨b', vs, T, g1, g2, g3, g4⟩ := hb
   exact ⟨b', vs, T, g1, g2, g3, reps_cl g4 hfree h3⟩
  | arr e sz rows =>
   obtain ⟨cells, k0, k1, k2, k3⟩ := hb
   exact ⟨cells, k0, k1, k2, k3.mono (fun b _ h => hfree b h) (fun _ _ _ => rfl)⟩
  | arn e sz rows =>
   obtain ⟨cells, k0, k1, k2, k3⟩ := hb
   rw [List.length_map] at k1 k2
   exact ⟨cells, k0, k1, k2, rowsA_cl k3 hfree h3⟩
  | map kt n ents =>
   obtain ⟨b', es, clock, g1, g2, g3, g4, g5⟩ := hb
   exact ⟨b', es, clock, g1, g2, g3, ents_cl g4 hfree h3, g5⟩
 ·exact wkM_inj hm h1 h2 (hs.apart _ _ _ _ _ (wkM_find hm h1).1 (wkM_find hm h2).1 h3 h4)
 ·rw [hb1] at hn
  rw [wkL_rn hb3 hn]
  exact hs.base.2 nm hn

theorem AW_wk {c : ACode} {Q : AExit → St → Prop} (l : List (Nat × Nat)) (hw : Wk l σ σ') (h : AW P nt c σ' Q) : AW P nt c σ Q :=
 fun c' hc w0 U rd ds ι a w hrd hs hz => h c' hc w0 U rd ds _ a w hrd (hs.wk hw) hz

theorem AW_adopt {c : ACode} {Q : AExit → St → Prop} (t e sz : Nat) (ht : look σ.fr t = .c .nils) (h0 : 0 < sz)
  (h : AW P nt c { σ with fr := (t, .c (.ref σ.nx)) :: σ.fr, mem := (σ.nx, .arr e sz []) :: σ.mem, nx := σ.nx + 1 } Q) : AW P nt c σ Q := by
 intro c' hc w0 U rd ds ι a w hrd hs hz
 obtain ⟨ι', h1, h2, h3, h4⟩ := hs.newBox (w' := w) (pv := .slice none 0 0) (bx := .arr e sz []) (Below.refl _ _) (fun b hb => by simp [blockOf] at hb) (fun ι' e1 e2 hfree => ⟨[], h0, by rw [e2]; exact World.ownsRow_nil _ _ _ _, by simp, RowsRep.nil⟩)
 refine h c' hc w0 U rd ds ι' a w hrd ⟨fun s => ?_, h1.defers, h1.names, h1.box, h1.apart, h1.below, h1.keep, h1.base⟩ hz
 rw [look_put]
 by_cases es : t = s
 ·subst es
  rw [if_pos rfl]
  have hv := hs.val t
  rw [ht] at hv
  rw [repV_nils hv, ← h2]
  exact .c (.ref (Nat.lt_succ_self _) ⟨_, _, _, h2⟩)
 ·rw [if_neg es]
  exact h1.val s
theorem AW_adoptM {c : ACode} {Q : AExit → St → Prop} (nm i e sz : Nat) (xs : List AC) (hf : findB σ.mem nm = some (.var xs)) (hi : xs[i]? = some .nils) (h0 : 0 < sz)
  (h : AW P nt c { σ with mem := (σ.nx, .arr e sz []) :: setB σ.mem nm (.var (xs.set i (.ref σ.nx))), nx := σ.nx + 1 } Q) : AW P nt c σ Q := by
 intro c' hc w0 U rd ds ι a w hrd hs hz
 obtain ⟨ι', h1, h2, h3, h4⟩ := hs.newBox (w' := w) (pv := .slice none 0 0) (bx := .arr e sz []) (Below.refl _ _) (fun b hb => by simp [blockOf] at hb) (fun ι' e1 e2 hfree => ⟨[], h0, by rw [e2]; exact World.ownsRow_nil _ _ _ _, by simp, RowsRep.nil⟩)
 have hnm := hs.names _ _ hf
 have hf1 : findB ((σ.nx, Box.arr e sz []) :: σ.mem) nm = some (.var xs) := by rw [findB_cons, if_neg (by omega)]; exact hf
 obtain ⟨b, vs, T, g1, g2, g3, g4⟩ := h1.box _ _ hf1
 have hset := h1.setBox (cs := vs) hf1 (b := b) (by rw [g1]; rfl) (bx := .var (xs.set i (.ref σ.nx))) ⟨b, vs, T, g1, g2, setRow_heap _ _ _ _ _ _ g3, by
  rw [setRow_self w b vs T _ g3]
  refine All2.of_get (by rw [List.length_set]; exact g4.length) fun j x v hj hv => ?_
  rw [List.getElem?_set] at hj
  by_cases e1 : i = j
  ·subst e1
   have hlt := (List.getElem?_eq_some_iff.1 hi).1
   rw [if_pos rfl, if_pos hlt] at hj
   cases hj
   obtain ⟨v', hv', hr⟩ := g4.get hi
   rw [hv'] at hv
   cases hv
   have : v = .slice none 0 0 := by cases hr; rfl
   rw [this, ← h2]
   exact .ref (Nat.lt_succ_self _) ⟨_, _, _, h2⟩
  ·rw [if_neg e1] at hj
   obtain ⟨v', hv', hr⟩ := g4.get hj
   rw [hv'] at hv
   cases hv
   exact hr⟩
 rw [setRow_self w b vs T _ g3] at hset
 have e5 : setB ((σ.nx, Box.arr e sz []) :: σ.mem) nm (.var (xs.set i (.ref σ.nx))) = (σ.nx, .arr e sz []) :: setB σ.mem nm (.var (xs.set i (.ref σ.nx))) := by
  simp only [setB]
  rw [if_neg (by omega)]
 simp only [e5] at hset
 exact h c' hc w0 U rd ds ι' a w hrd hset hz

def loopW {τ : Type} (mk : τ → St) (I : τ → Prop) (μ : τ → Nat) (t : τ) (Q : AExit → St → Prop) : AExit → St → Prop
 | .normal, σ => ∃ t' l, I t' ∧ μ t' < μ t ∧ Wk l σ (mk t')
 | .exit i, σ => Q (.exit i) σ
 | .ret, σ => Q .ret σ

theorem AW_loop {τ : Type} {x : ACode} {Q : AExit → St → Prop} (mk : τ → St) (I : τ → Prop) (μ : τ → Nat) (h0 : ∃ t l, I t ∧ Wk l σ (mk t)) (h : ∀ t, I t → AW P nt x (mk t) (loopW mk I μ t Q)) : AW P nt (.loop x) σ Q := by
 intro c' hc w0 U rd ds ι a w hrd hs hz
 cases c' <;> simp [compC] at hc
 all_goals (try (split at hc <;> simp at hc))
 rename_i c1
 obtain ⟨t, l, ht, hw⟩ := h0
 refine wpIn_loop_rounds (μ t + 1) ?_
 have key : ∀ n t U1 ds1 ι a w, Ext w0.heap.size rd U ds U1 ds1 → μ t < n → I t → Sim w0 U1 (mk t) ι a w → a.tmps.size = nt → Code.roundsIn (FR rd) 0 P c1 (Post w0 U rd ds nt Q) n (sh ds1 a) w := by
  intro n
  induction n with
  | zero => intro t U1 ds1 ι a w hx hm; omega
  | succ n ih =>
   intro t U1 ds1 ι a w hx hm ht hs hz
   rw [roundsIn_succ]
   refine wpIn_mono (h t ht _ hc w0 U1 rd ds1 ι a w (hrd.ext hx) hs hz) ?_
   rintro e a1 w1 ⟨e', σ', ι', U', ds', a0, rfl, hq, hs', hz', rfl, hx'⟩
   cases e' with
   | normal =>
    obtain ⟨t', l', ht', hlt, hwk⟩ := hq
    exact ih t' _ _ _ a0 w1 (hx.trans hx') (by omega) ht' (hs'.wk hwk) hz'
   | exit i => exact ⟨.exit i, σ', ι', U', ds', a0, rfl, hq, hs', hz', rfl, hx.trans hx'⟩
   | ret => exact ⟨.ret, σ', ι', U', ds', a0, rfl, hq, hs', hz', rfl, hx.trans hx'⟩
 exact key _ t _ _ _ a w .refl (Nat.lt_succ_self _) ht (hs.wk hw) hz
end
end Go.Abs

set_option linter.unusedVariables false
set_option linter.unusedSimpArgs false
namespace Go.Abs
open Go.RowKit

section
variable {P : Program} {a : Act} {w w' w0 : World} {U U2 : Gh} {ι : Pl} {σ : St}
def isLp : Obj → Bool
 | .loop _ => true
 | .deferred _ => true
 | _ => false
theorem cell_lp {b off : Nat} {v : Value} (h : w.cell? ⟨b, off, none⟩ = some v) : ¬ ∃ o, w.heap[b]? = some o ∧ isLp o = true := by
 rintro ⟨o, h1, h2⟩
 obtain ⟨o', h3, h4⟩ := cells_of_cell h
 rw [h1] at h3
 cases h3
 cases o <;> simp_all [isLp, Obj.isCells]
structure GrowL (n : Nat) (w w' : World) : Prop where
 os : w'.os = w.os
 tape : w'.tape = w.tape
 output : w'.output = w.output
 size : w.heap.size ≤ w'.heap.size
 block : ∀ b, b < w.heap.size → w'.heap[b]? = w.heap[b]? ∨ (n ≤ b ∧ ∃ o, w.heap[b]? = some o ∧ isLp o = true)
theorem GrowL.refl (n : Nat) (w : World) : GrowL n w w := ⟨rfl, rfl, rfl, Nat.le_refl _, fun _ _ => .inl rfl⟩
theorem GrowL.trans {n : Nat} {A B C : World} (h : GrowL n A B) (k : GrowL n B C) : GrowL n A C := by
 refine ⟨k.os.trans h.os, k.tape.trans h.tape, k.output.trans h.output, Nat.le_trans h.size k.size, fun b hb => ?_⟩
 rcases h.block b hb with e | e
 ·rcases k.block b (Nat.lt_of_lt_of_le hb h.size) with e2 | ⟨e2, o, e3, e4⟩
  ·exact .inl (e2.trans e)
  ·exact .inr ⟨e2, o, e ▸ e3, e4⟩
 ·exact .inr e
theorem GrowL.of_below {n : Nat} {A B : World} (h : Below A.heap.size A B) : GrowL n A B := ⟨h.os, h.tape, h.output, h.size, fun b hb => .inl (h.block b hb)⟩
theorem GrowL.putObj {n D : Nat} {o : Obj} (o' : Obj) (hD : n ≤ D) (ho : w.heap[D]? = some o) (hl : isLp o = true) : GrowL n w (w.putObj D o') := by
 refine ⟨rfl, rfl, rfl, by simp, fun b hb => ?_⟩
 by_cases e : b = D
 ·subst e
  exact .inr ⟨hD, o, ho, hl⟩
 ·exact .inl (World.putObj_heap_other e)
theorem GrowL.old {n : Nat} {A B : World} (h : GrowL n A B) {b : Nat} (hb : b < n) (hlt : b < A.heap.size) : B.heap[b]? = A.heap[b]? := by
 rcases h.block b hlt with e | ⟨e, _⟩
 ·exact e
 ·omega
section
variable {V S : Nat → Prop} {N : Nat} (hS : ∀ b, S b → ∃ o, w.heap[b]? = some o ∧ isLp o = true)
include hS
theorem RepP.ne {p : PC} {v : Value} (h : RepP w V p v) : RepP w (fun b => V b ∧ ¬ S b) p v := by
 induction h with
 | val h => exact .val h
 | slice g hn hcc hm hr hcell hp ih =>
  refine .slice g hn hcc hm hr (fun i row j p h1 h2 => ?_) ih
  obtain ⟨b, off, ha, hb, hcl⟩ := hcell i row j p h1 h2
  exact ⟨b, off, ha, ⟨hb, fun h => cell_lp hcl (hS _ h)⟩, hcl⟩
 | fmap hb hm hl hk hp ih =>
  refine .fmap ⟨hb, fun h => ?_⟩ hm hl hk ih
  obtain ⟨o, h1, h2⟩ := hS _ h
  rw [hm] at h1
  cases h1
  cases h2
theorem RepA.ne {x : AC} {v : Value} (h : RepA w V ι N x v) : RepA w (fun b => V b ∧ ¬ S b) ι N x v := by
 induction h with
 | pure h => exact .pure (h.ne hS)
 | nils => exact .nils
 | tsl h => exact .tsl (h.ne hS)
 | ptr hn h => exact .ptr hn h
 | eptr hn h => exact .eptr hn h
 | cptr g hcell =>
  refine .cptr g fun j p hj => ?_
  obtain ⟨h1, h2, h3⟩ := hcell j p hj
  exact ⟨⟨h1, fun h => cell_lp h2 (hS _ h)⟩, h2, h3.ne hS⟩
 | ref hn h => exact .ref hn h
 | clo hl h ih => exact .clo hl fun i x hx => ih i x hx
 | mref hn h => exact .mref hn h
 | top h => exact .top h
theorem RepV.ne {x : AV} {v : Value} (h : RepV w V ι N x v) : RepV w (fun b => V b ∧ ¬ S b) ι N x v := by
 induction h with
 | c h => exact .c (h.ne hS)
 | agg h => exact .agg (h.mono fun _ _ h => h.ne hS)
 | tup hl h ih => exact .tup hl fun i x hx => ih i x hx
 | top => exact .top
end
theorem Sim.not_lp (hs : Sim w0 U σ ι a w) {nm b : Nat} {bx : Box} (hn : findB σ.mem nm = some bx) (hb : blockOf (ι nm) = some b) : ¬ ∃ o, w.heap[b]? = some o ∧ isLp o = true := by
 rintro ⟨o, h1, h2⟩
 have h := hs.box nm bx hn
 cases bx with
 | var xs =>
  obtain ⟨b', vs, T, g1, g2, g3, g4⟩ := h
  rw [g1] at hb
  cases hb
  rw [g3] at h1
  cases h1
  cases h2
 | arr e sz rows =>
  obtain ⟨cells, k0, k1, k2⟩ := h
  rcases k1.2 with ⟨h, _⟩ | ⟨g, cap, cur, h, _, hg, _⟩
  ·rw [h] at hb; cases hb
  ·rw [h] at hb
   cases hb
   rw [hg] at h1
   cases h1
   cases h2
 | arn e sz rows =>
  obtain ⟨cells, k0, k1, k2⟩ := h
  rcases k1.2 with ⟨h, _⟩ | ⟨g, cap, cur, h, _, hg, _⟩
  ·rw [h] at hb; cases hb
  ·rw [h] at hb
   cases hb
   rw [hg] at h1
   cases h1
   cases h2
 | map kt n ents =>
  obtain ⟨b', es, clock, g1, g2, g3, g4⟩ := h
  rw [g1] at hb
  cases hb
  rw [g3] at h1
  cases h1
  cases h2
theorem Sim.growL (hs : Sim w0 U σ ι a w) {n : Nat} (hn0 : w0.heap.size ≤ n) (hg : GrowL n w w') (hp : U2.p = U.p) (hi : U2.ι0 = U.ι0)
  (hG : U2.G w' (Free w0.heap.size U2 ι σ.mem)) : Sim w0 U2 σ ι a w' := by
 have hfree : Free w0.heap.size U2 ι σ.mem = Free w0.heap.size U ι σ.mem := by
  funext b
  unfold Free
  rw [hp]
 have hS : ∀ b, (b < w.heap.size ∧ w'.heap[b]? ≠ w.heap[b]?) → ∃ o, w.heap[b]? = some o ∧ isLp o = true := by
  rintro b ⟨h1, h2⟩
  rcases hg.block b h1 with e | ⟨_, e⟩
  ·exact absurd e h2
  ·exact e
 have hV : ∀ b, b < w.heap.size → (Free w0.heap.size U ι σ.mem b ∧ ¬ (b < w.heap.size ∧ w'.heap[b]? ≠ w.heap[b]?)) → Free w0.heap.size U2 ι σ.mem b := fun b _ h => by rw [hfree]; exact h.1
 have hw : ∀ b, b < w.heap.size → (Free w0.heap.size U ι σ.mem b ∧ ¬ (b < w.heap.size ∧ w'.heap[b]? ≠ w.heap[b]?)) → w'.heap[b]? = w.heap[b]? := fun b hb h => Classical.byContradiction fun e => h.2 ⟨hb, e⟩
 refine ⟨fun t => ((hs.val t).ne hS).mono hV hw (fun _ _ => rfl) (Nat.le_refl _), hs.defers, hs.names, fun nm bx hn => ?_, hs.apart, hs.below.trans ⟨hg.os, hg.tape, hg.output, hg.size, fun k hk => hg.old (by omega) (Nat.lt_of_lt_of_le hk hs.below.size)⟩, hG, by rw [hi]; exact hs.base⟩
 have hb := hs.box nm bx hn
 have hsame : ∀ b, blockOf (ι nm) = some b → b < w.heap.size → w'.heap[b]? = w.heap[b]? := fun b e hlt => by
  rcases hg.block b hlt with e2 | ⟨_, e2⟩
  ·exact e2
  ·exact absurd e2 (hs.not_lp hn e)
 cases bx with
 | var xs =>
  obtain ⟨b, vs, T, h1, h2, h3, h4⟩ := hb
  exact ⟨b, vs, T, h1, h2, by rw [hsame b (by rw [h1]; rfl) (Array.getElem?_eq_some_iff.1 h3).1]; exact h3, h4.mono fun _ _ h => (h.ne hS).mono hV hw (fun _ _ => rfl) (Nat.le_refl _)⟩
 | arr e sz rows =>
  obtain ⟨cells, h0, h1, h2, h3, h4, h5⟩ := hb
  refine ⟨cells, h0, ?_, h2, h3, h4, fun i row j p hi hj => ?_⟩
  ·obtain ⟨q1, q2⟩ := h1
   refine ⟨q1, ?_⟩
   rcases q2 with q2 | ⟨g, cap, cur, e0, hbase, hgb, hrest⟩
   ·exact .inl q2
   ·exact .inr ⟨g, cap, cur, e0, hbase, (hsame g (by rw [e0]; rfl) (Array.getElem?_eq_some_iff.1 hgb).1).trans hgb, hrest⟩
  ·obtain ⟨v, hv, hpp⟩ := h5 i row j p hi hj
   exact ⟨v, hv, (hpp.ne hS).mono hV hw⟩
 | arn e sz rows =>
  obtain ⟨cells, h0, h1, h2, h3, h4, h5⟩ := hb
  refine ⟨cells, h0, ?_, h2, h3, h4, fun i row j p hi hj => ?_⟩
  ·obtain ⟨q1, q2⟩ := h1
   refine ⟨q1, ?_⟩
   rcases q2 with q2 | ⟨g, cap, cur, e0, hbase, hgb, hrest⟩
   ·exact .inl q2
   ·exact .inr ⟨g, cap, cur, e0, hbase, (hsame g (by rw [e0]; rfl) (Array.getElem?_eq_some_iff.1 hgb).1).trans hgb, hrest⟩
  ·obtain ⟨v, hv, hpp⟩ := h5 i row j p hi hj
   exact ⟨v, hv, (hpp.ne hS).mono hV hw (fun _ _ => rfl) (Nat.le_refl _)⟩
 | map kt n ents =>
  obtain ⟨b, es, clock, h1, h2, h3, h4, h5⟩ := hb
  exact ⟨b, es, clock, h1, h2, by rw [hsame b (by rw [h1]; rfl) (Array.getElem?_eq_some_iff.1 h3).1]; exact h3, h4.mono fun _ _ h => ⟨h.1, (h.2.ne hS).mono hV hw (fun _ _ => rfl) (Nat.le_refl _)⟩, h5⟩
theorem Sim.turn (hs : Sim w0 U σ ι a w) {D : Nat} {o : Obj} (o' : Obj) (ho : w.heap[D]? = some o) (hl : isLp o = true) (hD : w0.heap.size ≤ D) (hp : U2.p = U.p) (hi : U2.ι0 = U.ι0)
  (hG : U2.G (w.putObj D o') (Free w0.heap.size U2 ι σ.mem)) : Sim w0 U2 σ ι a (w.putObj D o') :=
 hs.growL hD (.putObj o' (Nat.le_refl _) ho hl) hp hi hG

theorem leaves_of {fn : Func} {tmps : Array Value} {R : Ending → World → Prop} {U' : Gh} {ds' : List Deferred} (hx : Ext w0.heap.size none U [] U' ds') : ∀ {w : World}, Sim w0 U' σ ι a w →
  (∀ w', Sim w0 U σ ι a w' → ∃ v, (results fn tmps).run P w' = .ok v w' ∧ R (.returned v) w') → LeavesInM Fence.wide 0 P fn tmps R ds' .returning w := by
 induction hx with
 | refl => exact fun hs h => h _ hs
 | @mark U1 U2 ds1 D h hr hD hp hi hG ih =>
  intro w hs hfin
  obtain ⟨_, g2, g3, g4⟩ := hG _ _ hs.keep
  refine ⟨by simp, .inl ⟨D, _, rfl, run_takeDeferred g3, ih (hs.turn (.deferred none) g3 rfl hD hp.symm hi.symm ?_) hfin⟩⟩
  have e : Free w0.heap.size U1 ι σ.mem = Free w0.heap.size U2 ι σ.mem := by
   funext b
   unfold Free
   rw [hp]
  rw [e]
  exact g4
theorem calls_end {f : FuncId} {fn : Func} {c : Code} {vs : Array Value} {nt : Nat} {Q : AExit → St → Prop} {R : Ending → World → Prop} (h1 : P.funcs[f]? = some fn) (h2 : fn.body = some c)
  (hw : c.wpIn (FR none) 0 P (Post w0 U none [] nt Q) (sh [] { tmps := vs ++ Array.replicate (fn.ntmps - vs.size) undef, defers := [] }) w)
  (hx : ∀ i σ', ¬ Q (.exit i) σ') (hfin : ∀ {e : AExit} {a' : Act} {w' : World} {σ' : St} {ι' : Pl}, Q e σ' → Sim w0 U σ' ι' a' w' → ∃ v, (results fn a'.tmps).run P w' = .ok v w' ∧ R (.returned v) w') : Calls P f vs w R := by
 refine (callsIn_wide (n := 0)).1 (callsIn_of_wp_marks h1 h2 trivial (wpIn_mono hw ?_))
 rintro e a' w' ⟨e', σ', ι', U', ds', a0, rfl, hq, hs', hz, rfl, hx'⟩
 have hd : (sh ds' a0).defers = ds' := by
  show a0.defers ++ ds' = ds'
  rw [hs'.defers.1]
  rfl
 have key : LeavesInM Fence.wide 0 P fn (sh ds' a0).tmps R (sh ds' a0).defers .returning w' := by
  rw [hd]
  exact leaves_of hx' hs' fun w2 hs2 => hfin (a' := a0) hq hs2
 cases e' with
 | normal => exact key
 | exit i => exact absurd hq (hx _ _)
 | ret => exact key
end

inductive AR where
 | t (n : Nat)
 | cell (n : Option Nat) (a : Nat)
def compR (P : Program) : ResultVar → Option AR
 | .tmp t => some (.t t)
 | .cell a t => (rowOf P t).map fun n => .cell n a
def compRs (P : Program) : List ResultVar → Option (List AR)
 | [] => some []
 |r :: rs => match compR P r, compRs P rs with
  | some x, some xs => some (x :: xs)
  | _, _ => none
def loadW (n : Option Nat) (xs : List AC) (K : AV → Prop) : Prop :=
 match n with
 |none => match xs with
  | x :: _ => K (.c x)
  | [] => False
 | some n => andW (n ≤ xs.length) (K := ⟨K (.agg (xs.take n))⟩)
def resOne (σ : St) : AR → (AV → Prop) → Prop
 | .t n, K => K (look σ.fr n)
 |.cell n a, K => match look σ.fr a with
  |.c q => match loadCells? σ.mem q with
   | some xs => loadW n xs K
   | none => False
  | _ => False
def resW (σ : St) : List AR → List AV → (List AV → Prop) → Prop
 | [], acc, K => K acc
 | r :: rs, acc, K => resOne σ r fun v => resW σ rs (acc ++ [v]) K
def packV : List AV → AV
 | [v] => v
 | vs => .tup vs
def purR (mem : List (Nat × Box)) : AV → Option AV
 |.tup xs => match purVs mem xs with
  | some ys => some (.tup ys)
  | none => none
 | x => purV mem x
def retW (rs : List AR) (res : AV) : AExit → St → Prop
 | .exit _, _ => False
 | .ret, σ => resW σ rs [] fun vs => purR σ.mem (packV vs) = some res
 | .normal, σ => resW σ rs [] fun vs => purR σ.mem (packV vs) = some res
def argsFr : List AV → Nat → List (Nat × AV)
 | [], _ => []
 | v :: r, k => (k, v) :: argsFr r (k + 1)
def bndVs : List AV → Prop
 | [] => True
 | v :: r => bndV v ∧ bndVs r

structure FnIs (P : Program) (f : FuncId) (nt : Nat) (body : ACode) (rs : List AR) : Prop where
 is : ∃ fn c, P.funcs[f]? = some fn ∧ fn.body = some c ∧ (fn.name == "runtime.NumGoroutine") = false ∧ fn.ntmps = nt ∧ compC P nt c = some body ∧ compRs P fn.results.toList = some rs

section
variable {P : Program} {a : Act} {w w' w0 : World} {U : Gh} {ι : Pl} {σ σ' : St} {nt : Nat}

theorem load_sound {t : TypeId} {n : Option Nat} {q : AC} {u : Value} {xs : List AC} {K : AV → Prop} (hs : Sim w0 U σ ι a w) (ht : rowOf P t = some n) (hr : RepA w (Free w0.heap.size U ι σ.mem) ι σ.nx q u) (hx : loadCells? σ.mem q = some xs) (h : loadW n xs K) :
  ∃ ad v u', u = .pointer (some ad) ∧ (loadVar t ad).run P w = .ok u' w ∧ RepV w (Free w0.heap.size U ι σ.mem) ι σ.nx v u' ∧ K v := by
 obtain ⟨b, off, e1, hc⟩ := load_cells hs hr hx
 cases n with
 | none =>
  simp only [loadW] at h
  split at h
  ·rename_i z zs
   obtain ⟨v, hv, hr⟩ := hc 0 z rfl
   exact ⟨_, _, v, e1, rowOf_one (P := P) ht (by simpa using hv), .c hr, h⟩
  ·exact h.elim
 | some n =>
  obtain ⟨hle, h⟩ := h
  have hg : ∃ ys : List Value, ys.length = n ∧ ∀ (j : Nat) x v, (xs.take n)[j]? = some x → ys[j]? = some v → w.cell? ⟨b, off + j, none⟩ = some v ∧ RepA w (Free w0.heap.size U ι σ.mem) ι σ.nx x v := by
   refine ⟨(List.range n).map fun j => (w.cell? ⟨b, off + j, none⟩).getD undef, by simp, fun j x v hj hv => ?_⟩
   have hjn : j < n := by have := (List.getElem?_eq_some_iff.1 hj).1; simp at this; omega
   rw [List.getElem?_take_of_lt hjn] at hj
   obtain ⟨u, hu, hr⟩ := hc j x hj
   simp [List.getElem?_map, List.getElem?_range hjn, hu] at hv
   subst hv
   exact ⟨hu, hr⟩
  obtain ⟨ys, hl, hy⟩ := hg
  have hlt : (xs.take n).length = n := by simp; omega
  refine ⟨_, _, .agg ys.toArray, e1, rowOf_row (P := P) (w := w) (ad := ⟨b, off, none⟩) ht (vs := ys) hl fun j v hv => ?_, .agg (All2.of_get (by rw [hlt]; simp [hl]) fun j x v hj hv => (hy j x v hj (by simpa using hv)).2), h⟩
  have hjn : j < (xs.take n).length := by rw [hlt, ← hl]; exact (List.getElem?_eq_some_iff.1 hv).1
  rw [add_off]
  exact (hy j _ v (List.getElem?_eq_getElem hjn) hv).1

def resGet (tmps : Array Value) : ResultVar → Sem Value
 | .tmp t => pure (tmps.getD t undef)
 | .cell a t => do loadVar t (← asAddr (tmps.getD a undef))

theorem res_sound (hs : Sim w0 U σ ι a w) : ∀ {rvs : List ResultVar} {rs : List AR} {acc : List AV} {us : List Value} {K : List AV → Prop}, compRs P rvs = some rs → resW σ rs acc K → All2 (RepV w (Free w0.heap.size U ι σ.mem) ι σ.nx) acc us →
  ∃ vs us', All2 (RepV w (Free w0.heap.size U ι σ.mem) ι σ.nx) vs (us ++ us') ∧ (rvs.mapM (resGet a.tmps)).run P w = .ok us' w ∧ K vs
 |[], rs, acc, us, K, hc, h, hacc => by
  cases hc
  exact ⟨acc, [], by simpa using hacc, rfl, h⟩
 |r :: rvs, rs, acc, us, K, hc, h, hacc => by
  unfold compRs at hc
  split at hc
  ·rename_i x xs h1 h2
   cases hc
   have one : ∃ v u, RepV w (Free w0.heap.size U ι σ.mem) ι σ.nx v u ∧ (resGet a.tmps r).run P w = .ok u w ∧ resW σ xs (acc ++ [v]) K := by
    simp only [resW] at h
    cases r with
    | tmp t =>
     cases h1
     exact ⟨_, _, hs.val t, rfl, h⟩
    | cell ad t =>
     simp only [compR, Option.map_eq_some_iff] at h1
     obtain ⟨n, hn, rfl⟩ := h1
     simp only [resOne] at h
     split at h
     ·rename_i q e
      have hq := hs.val ad
      rw [e] at hq
      split at h
      ·rename_i xs' hx
       have hq' : RepA w (Free w0.heap.size U ι σ.mem) ι σ.nx q (a.tmps.getD ad undef) := by
        generalize a.tmps.getD ad undef = z at hq
        cases hq with | c hq => exact hq
       obtain ⟨adr, v, u', e1, e2, e3, e4⟩ := load_sound (P := P) hs hn hq' hx h
       exact ⟨v, u', e3, by simp only [resGet, Sem.run_bind, e1, asAddr, Sem.run_pure, Result.andThen_ok, e2], e4⟩
      ·exact h.elim
     ·exact h.elim
   obtain ⟨v, u, hr, hrun, hk⟩ := one
   obtain ⟨vs, us', g1, g2, g3⟩ := res_sound hs (us := us ++ [u]) h2 hk (hacc.append (.cons hr .nil))
   exact ⟨vs, u :: us', by simpa using g1, by simp [List.mapM_cons, hrun, g2], g3⟩
  ·cases hc

theorem results_eq (fn : Func) (tmps : Array Value) : results fn tmps = (do let vs ← fn.results.mapM (resGet tmps); pure (if h : vs.size = 1 then vs[0] else .tuple vs)) := by
 unfold results
 congr 1

theorem purR_rep {V : Nat → Prop} {x y : AV} {v : Value} (hs : Sim w0 U σ ι a w) (h : RepV w (Free w0.heap.size U ι σ.mem) ι σ.nx x v) (hp : purR σ.mem x = some y) (hV : ∀ b, Free w0.heap.size U ι σ.mem b → V b) (hN : ∀ b, w0.heap.size ≤ b → V b) : RepV w V (fun _ => undef) 0 y v := by
 cases h with
 | c h => exact purV_rep hs (.c h) hp hV (.inr hN)
 | agg h => exact purV_rep hs (.agg h) hp hV (.inr hN)
 | @tup xs vs hl h =>
  simp only [purR] at hp
  split at hp
  ·cases hp
   have hall : All2 (RepV w (Free w0.heap.size U ι σ.mem) ι σ.nx) xs vs.toList := All2.of_get (by simpa using hl) fun i x v hi hv => by
    have := h i x hi
    rw [hv] at this
    exact this
   have hr := purVs_rep hs hall hV (.inr hN) ‹_›
   refine .tup (by simpa using hr.length) fun i x hi => ?_
   obtain ⟨v, hv, hx⟩ := hr.get hi
   rw [hv]
   exact hx
  ·cases hp
 | top => cases hp

theorem look_args {vs : List Value} {V : Nat → Prop} {N : Nat} : ∀ {args : List AV} {us : List Value} {k : Nat}, All2 (RepV w V ι N) args us → ∀ t, RepV w V ι N (look (argsFr args k) t) ((us[t - k]?).getD undef) ∨ look (argsFr args k) t = .top
 | [], us, k, h, t => .inr rfl
 |v :: args, us, k, h, t => by
  cases h with
  | @cons _ u _ us h1 h2 =>
   show RepV _ _ _ _ (if k = t then v else look (argsFr args (k + 1)) t) _ ∨ (if k = t then v else look (argsFr args (k + 1)) t) = .top
   by_cases e : k = t
   ·subst e
    rw [if_pos rfl]
    left
    simpa using h1
   ·rw [if_neg e]
    rcases look_args (vs := vs) (k := k + 1) h2 t with h | h
    ·by_cases hlt : k < t
     ·left
      have : t - k = (t - (k + 1)) + 1 := by omega
      rw [this]
      simpa using h
     ·right
      clear h h1 h2
      have key : ∀ (l : List AV) (j : Nat), t < j → look (argsFr l j) t = .top := by
       intro l
       induction l with
       | nil => intro j _; rfl
       | cons x l ih =>
        intro j hj
        show (if j = t then x else look (argsFr l (j + 1)) t) = _
        rw [if_neg (by omega)]
        exact ih _ (by omega)
      exact key args (k + 1) (by omega)
    ·exact .inr h

theorem bnds_rep {V : Nat → Prop} {N : Nat} {args : List AV} {us : List Value} (h : All2 (RepV w V ι N) args us) : bndVs args := by
 induction h with
 | nil => trivial
 | cons h _ ih => exact ⟨bnd_repV h, ih⟩

theorem pack_rep {V : Nat → Prop} {N : Nat} {vs : List AV} {us : List Value} (h : All2 (RepV w V ι N) vs us) : RepV w V ι N (packV vs) (if h : us.toArray.size = 1 then us.toArray[0] else .tuple us.toArray) := by
 have tupled : ∀ {vs : List AV} {us : List Value}, All2 (RepV w V ι N) vs us → RepV w V ι N (.tup vs) (.tuple us.toArray) := fun h =>
  .tup (by simpa using h.length) fun i x hi => by
   obtain ⟨v, hv, hx⟩ := h.get hi
   simp only [List.toList_toArray]
   rw [hv]
   exact hx
 cases h with
 | nil => rw [dif_neg (by simp)]; exact tupled .nil
 | cons h1 t =>
  cases t with
  | nil => rw [dif_pos (by simp)]; exact h1
  | cons h2 t =>
   rw [dif_neg (by simp)]
   exact tupled (.cons h1 (.cons h2 t))

theorem PCalls.of {f : FuncId} {nt : Nat} {body : ACode} {rs : List AR} {args : List AV} {res : AV} (hf : FnIs P f nt body rs) (hlen : args.length ≤ nt) (h : bndVs args → AW P nt body ⟨argsFr args 0, [], 0, 0⟩ (retW rs res)) : PCalls P f args res := by
 obtain ⟨fn, c, h1, h2, h3, rfl, h5, h6⟩ := hf.is
 refine ⟨⟨fn, h1, by rw [h2]; rfl, h3⟩, fun w U vs hG hargs => ?_⟩
 have hsz : vs.size = args.length := by rw [← Array.length_toList]; exact hargs.length.symm
 have hs : Sim w (Gh.of U) ⟨argsFr args 0, [], 0, 0⟩ (fun _ => undef) { tmps := vs ++ Array.replicate (fn.ntmps - vs.size) undef, defers := [] } w := by
  refine ⟨fun t => ?_, ⟨rfl, hG⟩, (fun nm bx hn => by cases hn), (fun nm bx hn => by cases hn), (fun nm nm' b1 b2 b hn => by cases hn), Below.refl _ _, trivial, ⟨Nat.le_refl _, fun _ h => absurd h (Nat.not_lt_zero _)⟩⟩
  have hmono : ∀ {x : AV} {v : Value}, RepV w U (fun _ => undef) 0 x v → RepV w (Free w.heap.size (Gh.of U) (fun _ => undef) []) (fun _ => undef) 0 x v := fun h =>
   h.mono (fun b _ h => ⟨.inl h, fun nm bx hn => by cases hn⟩) (fun _ _ _ => rfl) (fun _ _ => rfl) (Nat.le_refl _)
  rcases look_args (vs := vs.toList) (k := 0) hargs t with h | h
  ·by_cases hlt : t < vs.size
   ·have e : (vs ++ Array.replicate (fn.ntmps - vs.size) undef).getD t undef = (vs.toList[t - 0]?).getD undef := by
     simp [Array.getD_eq_getD_getElem?, Array.getElem?_append, hlt]
    rw [e]
    exact hmono h
   ·have : look (argsFr args 0) t = .top := by
     have key : ∀ (l : List AV) (j : Nat), j + l.length ≤ t → look (argsFr l j) t = .top := by
      intro l
      induction l with
      | nil => intro j _; rfl
      | cons x l ih =>
       intro j hj
       simp only [List.length_cons] at hj
       show (if j = t then x else look (argsFr l (j + 1)) t) = _
       rw [if_neg (by omega)]
       exact ih _ (by omega)
     exact key args 0 (by omega)
    show RepV _ _ _ _ (look (argsFr args 0) t) _
    rw [this]
    exact .top
  ·show RepV _ _ _ _ (look (argsFr args 0) t) _
   rw [h]
   exact .top
 have hsize : (vs ++ Array.replicate (fn.ntmps - vs.size) undef).size = fn.ntmps := by simp; omega
 have fin : ∀ {a' : Act} {w' : World} {σ' : St} {ι' : Pl}, resW σ' rs [] (fun vs => purR σ'.mem (packV vs) = some res) → Sim w (Gh.of U) σ' ι' a' w' → ∃ v, (results fn a'.tmps).run P w' = .ok v w' ∧ ∃ v', Ending.returned v = .returned v' ∧ RepV w' (fun b => U b ∨ w.heap.size ≤ b) (fun _ => undef) 0 res v' ∧ Below w.heap.size w w' := by
  intro a' w' σ' ι' hres hs'
  obtain ⟨vs', us', g1, g2, g3⟩ := res_sound hs' (us := []) h6 hres .nil
  refine ⟨_, ?_, _, rfl, purR_rep hs' (pack_rep (by simpa using g1)) g3 (fun b h => h.1) (fun b h => .inr h), hs'.below⟩
  rw [results_eq, Array.mapM_eq_mapM_toList]
  simp [g2]
 refine calls_end h1 h2 (h (bnds_rep hargs) c h5 w (Gh.of U) none [] _ _ w (fun _ e => by cases e) hs hsize) (fun i σ' h => h) ?_
 intro e a' w' σ' ι' hq hs'
 cases e with
 | normal => exact fin hq hs'
 | exit i => exact hq.elim
 | ret => exact fin hq hs'

def retI (rs : List AR) (res : AV) (mem : List (Nat × Box)) (nx base : Nat) : AExit → St → Prop
 | .exit _, _ => False
 | .ret, σ => resW σ rs [] fun vs => packV vs = res ∧ σ.mem = mem ∧ σ.nx = nx ∧ σ.base = base
 | .normal, σ => resW σ rs [] fun vs => packV vs = res ∧ σ.mem = mem ∧ σ.nx = nx ∧ σ.base = base

theorem ICalls.of {f : FuncId} {nt : Nat} {body : ACode} {rs : List AR} {args : List AV} {mem mem' : List (Nat × Box)} {nx nx' : Nat} {res : AV} (hf : FnIs P f nt body rs) (hlen : args.length ≤ nt) (h : bndVs args → AW P nt body ⟨argsFr args 0, mem, nx, nx⟩ (retI rs res mem' nx' nx)) : ICalls P f args mem nx res mem' nx' := by
 obtain ⟨fn, c, h1, h2, h3, rfl, h5, h6⟩ := hf.is
 refine ⟨⟨fn, h1, by rw [h2]; rfl, h3⟩, fun w0 U ι w vs hs0 hargs => ?_⟩
 have hsz : vs.size = args.length := by rw [← Array.length_toList]; exact hargs.length.symm
 have hs : Sim w0 U ⟨argsFr args 0, mem, nx, nx⟩ ι { tmps := vs ++ Array.replicate (fn.ntmps - vs.size) undef, defers := [] } w := by
  refine ⟨fun t => ?_, ⟨rfl, hs0.defers.2⟩, hs0.names, hs0.box, hs0.apart, hs0.below, hs0.keep, hs0.base⟩
  rcases look_args (vs := vs.toList) (k := 0) hargs t with h | h
  ·by_cases hlt : t < vs.size
   ·have e : (vs ++ Array.replicate (fn.ntmps - vs.size) undef).getD t undef = (vs.toList[t - 0]?).getD undef := by
     simp [Array.getD_eq_getD_getElem?, Array.getElem?_append, hlt]
    rw [e]
    exact h
   ·have : look (argsFr args 0) t = .top := by
     have key : ∀ (l : List AV) (j : Nat), j + l.length ≤ t → look (argsFr l j) t = .top := by
      intro l
      induction l with
      | nil => intro j _; rfl
      | cons x l ih =>
       intro j hj
       simp only [List.length_cons] at hj
       show (if j = t then x else look (argsFr l (j + 1)) t) = _
       rw [if_neg (by omega)]
       exact ih _ (by omega)
     exact key args 0 (by omega)
    show RepV _ _ _ _ (look (argsFr args 0) t) _
    rw [this]
    exact .top
  ·show RepV _ _ _ _ (look (argsFr args 0) t) _
   rw [h]
   exact .top
 have hsize : (vs ++ Array.replicate (fn.ntmps - vs.size) undef).size = fn.ntmps := by simp; omega
 have fin : ∀ {a' : Act} {w' : World} {σ' : St} {ι' : Pl}, (resW σ' rs [] fun vs => packV vs = res ∧ σ'.mem = mem' ∧ σ'.nx = nx' ∧ σ'.base = nx) → Sim w0 U σ' ι' a' w' → ∃ v, (results fn a'.tmps).run P w' = .ok v w' ∧
   ∃ v' ι', Ending.returned v = .returned v' ∧ Sim w0 U ⟨[], mem', nx', nx⟩ ι' { tmps := #[], defers := [] } w' ∧ RepV w' (Free w0.heap.size U ι' mem') ι' nx' res v' := by
  intro a' w' σ' ι' hres hs'
  obtain ⟨vs', us', g1, g2, rfl, rfl, rfl, rfl⟩ := res_sound hs' (us := []) h6 hres .nil
  refine ⟨_, ?_, _, ι', rfl, ⟨fun t => .top, ⟨rfl, hs'.defers.2⟩, hs'.names, hs'.box, hs'.apart, hs'.below, hs'.keep, hs'.base⟩, pack_rep (by simpa using g1)⟩
  rw [results_eq, Array.mapM_eq_mapM_toList]
  simp [g2]
 refine calls_end h1 h2 (h (bnds_rep hargs) c h5 w0 U none [] _ _ w (fun _ e => by cases e) hs hsize) (fun i σ' h => h) ?_
 intro e a' w' σ' ι' hq hs'
 cases e with
 | normal => exact fin hq hs'
 | exit i => exact hq.elim
 | ret => exact fin hq hs'

theorem look_argsFr : ∀ {l : List AV} {k : Nat} (i : Nat), look (argsFr l k) (k + i) = (l[i]?).getD .top
 | [], k, i => by simp [argsFr, look]
 | v :: l, k, 0 => by simp [argsFr, look]
 |v :: l, k, i + 1 => by
  have := look_argsFr (l := l) (k := k + 1) i
  simp only [argsFr, look]
  rw [if_neg (by omega), show k + (i + 1) = k + 1 + i by omega, this]
  simp
def retZ (rs : List AR) (ress : List AV) (mem : List (Nat × Box)) (nx base : Nat) : AExit → St → Prop
 | .exit _, _ => False
 | .ret, σ => ∃ l rl, resW (frzLA l σ []).1 rs [] fun vs => ress.length = vs.length ∧ Wk rl { (frzLA l σ []).1 with fr := argsFr vs 0 } ⟨argsFr ress 0, mem, nx, base⟩
 | .normal, σ => ∃ l rl, resW (frzLA l σ []).1 rs [] fun vs => ress.length = vs.length ∧ Wk rl { (frzLA l σ []).1 with fr := argsFr vs 0 } ⟨argsFr ress 0, mem, nx, base⟩

theorem ICalls.ofZ {f : FuncId} {nt : Nat} {body : ACode} {rs : List AR} {args : List AV} {mem mem' : List (Nat × Box)} {nx nx' : Nat} {ress : List AV} (hf : FnIs P f nt body rs) (hlen : args.length ≤ nt) (h : bndVs args → AW P nt body ⟨argsFr args 0, mem, nx, nx⟩ (retZ rs ress mem' nx' nx)) : ICalls P f args mem nx (packV ress) mem' nx' := by
 obtain ⟨fn, c, h1, h2, h3, rfl, h5, h6⟩ := hf.is
 refine ⟨⟨fn, h1, by rw [h2]; rfl, h3⟩, fun w0 U ι w vs hs0 hargs => ?_⟩
 have hsz : vs.size = args.length := by rw [← Array.length_toList]; exact hargs.length.symm
 have hs : Sim w0 U ⟨argsFr args 0, mem, nx, nx⟩ ι { tmps := vs ++ Array.replicate (fn.ntmps - vs.size) undef, defers := [] } w := by
  refine ⟨fun t => ?_, ⟨rfl, hs0.defers.2⟩, hs0.names, hs0.box, hs0.apart, hs0.below, hs0.keep, hs0.base⟩
  rcases look_args (vs := vs.toList) (k := 0) hargs t with h | h
  ·by_cases hlt : t < vs.size
   ·have e : (vs ++ Array.replicate (fn.ntmps - vs.size) undef).getD t undef = (vs.toList[t - 0]?).getD undef := by
     simp [Array.getD_eq_getD_getElem?, Array.getElem?_append, hlt]
    rw [e]
    exact h
   ·have : look (argsFr args 0) t = .top := by
     have key : ∀ (l : List AV) (j : Nat), j + l.length ≤ t → look (argsFr l j) t = .top := by
      intro l
      induction l with
      | nil => intro j _; rfl
      | cons x l ih =>
       intro j hj
       simp only [List.length_cons] at hj
       show (if j = t then x else look (argsFr l (j + 1)) t) = _
       rw [if_neg (by omega)]
       exact ih _ (by omega)
     exact key args 0 (by omega)
    show RepV _ _ _ _ (look (argsFr args 0) t) _
    rw [this]
    exact .top
  ·show RepV _ _ _ _ (look (argsFr args 0) t) _
   rw [h]
   exact .top
 have hsize : (vs ++ Array.replicate (fn.ntmps - vs.size) undef).size = fn.ntmps := by simp; omega
 have fin : ∀ {a' : Act} {w' : World} {σ' : St} {ι' : Pl}, (∃ l rl, resW (frzLA l σ' []).1 rs [] fun vs => ress.length = vs.length ∧ Wk rl { (frzLA l σ' []).1 with fr := argsFr vs 0 } ⟨argsFr ress 0, mem', nx', nx⟩) → Sim w0 U σ' ι' a' w' → ∃ v, (results fn a'.tmps).run P w' = .ok v w' ∧
   ∃ v' ι', Ending.returned v = .returned v' ∧ Sim w0 U ⟨[], mem', nx', nx⟩ ι' { tmps := #[], defers := [] } w' ∧ RepV w' (Free w0.heap.size U ι' mem') ι' nx' (packV ress) v' := by
  rintro a' w' σ' ι' ⟨l, rl, hres⟩ hs'
  obtain ⟨hs2, _⟩ := frzLA_rep (l := l) (args := []) (us := []) hs' .nil rfl
  obtain ⟨vs', us', g1, g2, hlen', hwk⟩ := res_sound hs2 (us := []) h6 hres .nil
  have g1 : All2 (RepV w' (Free w0.heap.size U ι' (frzLA l σ' []).1.mem) ι' (frzLA l σ' []).1.nx) vs' us' := by simpa using g1
  have hs3 : Sim w0 U { (frzLA l σ' []).1 with fr := argsFr vs' 0 } ι' { tmps := us'.toArray, defers := [] } w' := by
   refine ⟨fun t => ?_, ⟨rfl, hs2.defers.2⟩, hs2.names, hs2.box, hs2.apart, hs2.below, hs2.keep, hs2.base⟩
   rcases look_args (vs := []) (k := 0) g1 t with h | h
   ·have e : us'.toArray.getD t undef = (us'[t - 0]?).getD undef := by simp [Array.getD_eq_getD_getElem?]
    rw [e]; exact h
   ·show RepV _ _ _ _ (look (argsFr vs' 0) t) _
    rw [h]; exact .top
  have hs4 := hs3.wk hwk
  have hall : All2 (RepV w' (Free w0.heap.size U (fun n => ι' (rn rl n)) mem') (fun n => ι' (rn rl n)) nx') ress us' := by
   refine All2.of_get (by rw [hlen', g1.length]) fun i x u hx hu => ?_
   have h := hs4.val i
   have e1 : look (argsFr ress 0) i = x := by
    have := look_argsFr (l := ress) (k := 0) i
    rw [Nat.zero_add] at this
    rw [this, hx]; rfl
   have e2 : (us'.toArray).getD i undef = u := by simp [Array.getD_eq_getD_getElem?, hu]
   simp only [e1, e2] at h
   exact h
  refine ⟨_, ?_, _, fun n => ι' (rn rl n), rfl, ⟨fun t => .top, ⟨rfl, hs4.defers.2⟩, hs4.names, hs4.box, hs4.apart, hs4.below, hs4.keep, hs4.base⟩, pack_rep hall⟩
  rw [results_eq, Array.mapM_eq_mapM_toList]
  simp [g2]
 refine calls_end h1 h2 (h (bnds_rep hargs) c h5 w0 U none [] _ _ w (fun _ e => by cases e) hs hsize) (fun i σ' h => h) ?_
 intro e a' w' σ' ι' hq hs'
 cases e with
 | normal => exact fin hq hs'
 | exit i => exact hq.elim
 | ret => exact fin hq hs'
end
end Go.Abs

set_option linter.unusedVariables false
set_option linter.unusedSimpArgs false
namespace Go.Abs
open Go.RowKit

def AWb (P : Program) (nt : Nat) (c : ACode) (σ : St) [Q : Blk (AExit → St → Prop)] : Prop := AW P nt c σ Q.out
def runW (P : Program) (nt : Nat) : ACode → St → (AExit → St → Prop) → Prop
 | .skip, σ, Q => Q .normal σ
 | .region gs false, σ, Q => opsW P gs σ (Q .normal)
 | .region gs true, σ, Q => AWb P nt (.region gs true) σ (Q := ⟨Q⟩)
 | .draw gss, σ, Q => drawW P gss σ (Q .normal)
 |.seq a b, σ, Q => runW P nt a σ fun
  | .normal, σ => runW P nt b σ Q
  | .exit i, σ => Q (.exit i) σ
  | .ret, σ => Q .ret σ
 |.cond c a b, σ, Q => match c.ev σ.fr with
  | .c (.pure (.val (.bool t))) => condW t (A := ⟨runW P nt a σ Q⟩) (B := ⟨runW P nt b σ Q⟩)
  | _ => False
 |.block id a, σ, Q => runW P nt a σ fun
  | .normal, σ => Q .normal σ
  | .exit i, σ => if i = id then Q .normal σ else Q (.exit i) σ
  | .ret, σ => Q .ret σ
 | .loop a, σ, Q => AWb P nt (.loop a) σ (Q := ⟨Q⟩)
 | .rangeF f ps x y, σ, Q => AWb P nt (.rangeF f ps x y) σ (Q := ⟨Q⟩)
 | .exit i, σ, Q => Q (.exit i) σ
 | .ret, σ, Q => Q .ret σ

theorem runW_sound {P : Program} {nt : Nat} : ∀ {c : ACode} {σ : St} {Q : AExit → St → Prop}, runW P nt c σ Q → AW P nt c σ Q
 | .skip, σ, Q, h => AW_skip h
 | .region gs false, σ, Q, h => AW_region h
 | .region gs true, σ, Q, h => h
 | .draw gss, σ, Q, h => AW_draw h
 |.seq a b, σ, Q, h => by
  simp only [runW] at h
  refine AW_seq ((runW_sound (c := a) h).mono ?_)
  intro e σ h
  cases e with
  | normal => exact runW_sound (c := b) h
  | exit i => exact h
  | ret => exact h
 |.cond c a b, σ, Q, h => by
  simp only [runW] at h
  split at h
  ·exact AW_cond ‹_› (fun e => runW_sound (c := a) (h.1 e)) (fun e => runW_sound (c := b) (h.2 e))
  ·exact h.elim
 |.block id a, σ, Q, h => by
  simp only [runW] at h
  refine AW_block ((runW_sound (c := a) h).mono ?_)
  intro e σ h
  cases e with
  | normal => exact h
  | exit i => exact h
  | ret => exact h
 | .loop a, σ, Q, h => h
 | .rangeF f ps x y, σ, Q, h => h
 | .exit i, σ, Q, h => AW_exit h
 | .ret, σ, Q, h => AW_ret h

theorem AW_bnd {P : Program} {nt : Nat} {c : ACode} {σ : St} {Q : AExit → St → Prop} (t : Nat) (h : bndV (look σ.fr t) → AW P nt c σ Q) : AW P nt c σ Q :=
 fun c' hc w0 U rd ds ι a w hrd hs hz => h (bnd_repV (hs.val t)) c' hc w0 U rd ds ι a w hrd hs hz

theorem callW_of {P : Program} {g z : Bool} {f : FuncId} {args pargs : List AV} {σ : St} {K : Blk (AV → St → Prop)} {res : AV} (h : PCalls P f pargs res) (hp : purVs σ.mem args = some pargs) (hs : flatV res = true ∨ args.all norefV = true) (hk : K.out res σ) : @callW P g z f args σ K :=
 ⟨[], σ, args, .inl rfl, rfl, .inl ⟨pargs, hp, res, .inl ⟨h, hs⟩, hk⟩⟩
theorem w_R {P : Program} {g z : Bool} {f : FuncId} {args pargs : List AV} {σ : St} {K : Blk (AV → St → Prop)} {res : AV} (h : PCalls P f pargs res) (hp : purVs σ.mem args = some pargs) (hs : args.all norefV = true) (hk : K.out res σ) : @callW P g z f args σ K := callW_of h hp (.inr hs) hk
theorem w_L {P : Program} {g z : Bool} {f : FuncId} {args pargs : List AV} {σ : St} {K : Blk (AV → St → Prop)} {res : AV} (h : PCalls P f pargs res) (hp : purVs σ.mem args = some pargs) (hs : flatV res = true) (hk : K.out res σ) : @callW P g z f args σ K := callW_of h hp (.inl hs) hk
theorem callW_i {P : Program} {z : Bool} {f : FuncId} {args : List AV} {σ : St} {K : Blk (AV → St → Prop)} {res : AV} {mem' : List (Nat × Box)} {nx' : Nat} (h : ICalls P f args σ.mem σ.nx res mem' nx') (hk : K.out res { σ with mem := mem', nx := nx' }) : @callW P true z f args σ K :=
 ⟨[], σ, args, .inl rfl, rfl, .inr ⟨rfl, res, mem', nx', h, hk⟩⟩
theorem callW_z (l : List Nat) {P : Program} {g : Bool} {f : FuncId} {args args' pargs : List AV} {σ σ' : St} {K : Blk (AV → St → Prop)} {res : AV} (h : PCalls P f pargs res) (hz : frzLA l σ args = (σ', args')) (hp : purVs σ'.mem args' = some pargs) (hs : flatV res = true ∨ args'.all norefV = true) (hk : K.out res σ') : @callW P g true f args σ K :=
 ⟨l, σ', args', .inr rfl, hz, .inl ⟨pargs, hp, res, .inl ⟨h, hs⟩, hk⟩⟩
theorem callW_zi (l : List Nat) {P : Program} {f : FuncId} {args args' : List AV} {σ σ' : St} {K : Blk (AV → St → Prop)} {res : AV} {mem' : List (Nat × Box)} {nx' : Nat} (hz : frzLA l σ args = (σ', args')) (h : ICalls P f args' σ'.mem σ'.nx res mem' nx') (hk : K.out res { σ' with mem := mem', nx := nx' }) : @callW P true true f args σ K :=
 ⟨l, σ', args', .inr rfl, hz, .inr ⟨rfl, res, mem', nx', h, hk⟩⟩
theorem AW_frz (l : List Nat) {P : Program} {nt : Nat} {c : ACode} {σ : St} {Q : AExit → St → Prop} (h : AW P nt c (frzLA l σ []).1 Q) : AW P nt c σ Q :=
 fun c' hc w0 U rd ds ι a w hrd hs hz => h c' hc w0 U rd ds ι a w hrd (frzLA_rep (l := l) (args := []) (us := []) hs .nil rfl).1 hz
theorem AW_bndM {P : Program} {nt : Nat} {c : ACode} {σ : St} {Q : AExit → St → Prop} (nm e sz : Nat) (rows : List (List PC)) (hf : findB σ.mem nm = some (.arr e sz rows)) (h : rows.length ≤ 9223372036854775807 → AW P nt c σ Q) : AW P nt c σ Q :=
 fun c' hc w0 U rd ds ι a w hrd hs hz => by
  obtain ⟨cells, g0, g1, g2, g3⟩ := hs.box _ _ hf
  exact h g2 c' hc w0 U rd ds ι a w hrd hs hz

theorem AW_arn (nm e sz : Nat) (rows : List (List PC)) {P : Program} {nt : Nat} {c : ACode} {σ : St} {Q : AExit → St → Prop} (hf : findB σ.mem nm = some (.arr e sz rows)) (h : AW P nt c { σ with mem := setB σ.mem nm (.arn e sz (rows.map fun r => r.map .pure)) } Q) : AW P nt c σ Q :=
 fun c' hc w0 U rd ds ι a w hrd hs hz => h c' hc w0 U rd ds ι a w hrd (hs.rebox hf (by
  obtain ⟨cells, g0, g1, g2, g3, g4, g5⟩ := hs.box _ _ hf
  refine ⟨cells, g0, by rw [List.length_map]; exact g1, by rw [List.length_map]; exact g2, by rw [List.length_map]; exact g3, fun i row hi => ?_, fun i row j p hi hj => ?_⟩
  ·rw [List.getElem?_map, Option.map_eq_some_iff] at hi
   obtain ⟨r, hi, rfl⟩ := hi
   rw [List.length_map]
   exact g4 _ _ hi
  ·rw [List.getElem?_map, Option.map_eq_some_iff] at hi
   obtain ⟨r, hi, rfl⟩ := hi
   rw [List.getElem?_map, Option.map_eq_some_iff] at hj
   obtain ⟨q, hj, rfl⟩ := hj
   obtain ⟨v, hv, hp⟩ := g5 _ _ _ _ hi hj
   exact ⟨v, hv, .pure hp⟩)) hz
theorem AW_arr (nm e sz : Nat) (rows : List (List PC)) {P : Program} {nt : Nat} {c : ACode} {σ : St} {Q : AExit → St → Prop} (hf : findB σ.mem nm = some (.arn e sz (rows.map fun r => r.map .pure))) (h : AW P nt c { σ with mem := setB σ.mem nm (.arr e sz rows) } Q) : AW P nt c σ Q :=
 fun c' hc w0 U rd ds ι a w hrd hs hz => h c' hc w0 U rd ds ι a w hrd (hs.rebox hf (by
  obtain ⟨cells, g0, g1, g2, g3, g4, g5⟩ := hs.box _ _ hf
  rw [List.length_map] at g1 g2 g3
  refine ⟨cells, g0, g1, g2, g3, fun i row hi => ?_, fun i row j p hi hj => ?_⟩
  ·have := g4 i _ (by rw [List.getElem?_map, hi]; rfl)
   rwa [List.length_map] at this
  ·obtain ⟨v, hv, hp⟩ := g5 i _ j _ (by rw [List.getElem?_map, hi]; rfl) (by rw [List.getElem?_map, hj]; rfl)
   cases hp with
   | pure hp => exact ⟨v, hv, hp⟩)) hz
theorem wrap_i64 {x : Int} (h1 : -9223372036854775808 ≤ x ∧ x ≤ 9223372036854775807) : IntKind.wrap .i64 x = x := by
 rw [IntKind.wrap_i64]; omega
theorem wrap_u64 {x : Int} (h1 : 0 ≤ x ∧ x ≤ 18446744073709551615) : IntKind.wrap .u64 x = x := by
 have : IntKind.wrap .u64 x = x % 18446744073709551616 := by simp [IntKind.wrap, IntKind.bits, IntKind.signed]
 rw [this]; omega
theorem rowsOk_nil {sz : Nat} : rowsOk sz [] := fun r h => by cases h
theorem rowsOk_one {sz : Nat} {r : List PC} (h : r.length = sz) : rowsOk sz [r] := fun x hx => by
 rw [List.mem_singleton] at hx; rw [hx]; exact h
theorem rowsOk_map {α : Type} {sz : Nat} {f : α → List PC} {l : List α} (h : ∀ x, (f x).length = sz) : rowsOk sz (l.map f) := fun r hr => by
 obtain ⟨x, _, rfl⟩ := List.mem_map.1 hr; exact h x
theorem rowsOk_append {sz : Nat} {r s : List (List PC)} (h : rowsOk sz r) (h' : rowsOk sz s) : rowsOk sz (r ++ s) := fun x hx => by
 rcases List.mem_append.1 hx with e | e
 ·exact h x e
 ·exact h' x e
theorem rowsOk_take {sz n : Nat} {r : List (List PC)} (h : rowsOk sz r) : rowsOk sz (r.take n) := fun x hx => h x (List.mem_of_mem_take hx)
theorem rowsOk_drop {sz n : Nat} {r : List (List PC)} (h : rowsOk sz r) : rowsOk sz (r.drop n) := fun x hx => h x (List.mem_of_mem_drop hx)

abbrev I (n : Int) : AV := .c (.pure (.val (.int .i64 n)))
abbrev B (b : Bool) : AV := .c (.pure (.val (.bool b)))
abbrev S (s : ByteArray) : AV := .c (.pure (.val (.string s)))
abbrev pInts (xs : List Int) : PC := .slice (xs.map fun n => [.val (.int .i64 n)])
abbrev aInts (xs : List Int) : AV := .c (.pure (pInts xs))

section
variable {P : Program} {nt : Nat} {σ : St} {Q : AExit → St → Prop} {K : St → Prop}
theorem runW_skip : runW P nt .skip σ Q = Q .normal σ := propext ⟨id, id⟩
theorem runW_region {gs : List AG} : runW P nt (.region gs false) σ Q = opsW P gs σ (Q .normal) := propext ⟨id, id⟩
theorem runW_draw {gs : List AG} : runW P nt (.region gs true) σ Q = AWb P nt (.region gs true) σ (Q := ⟨Q⟩) := propext ⟨id, id⟩
theorem runW_drawn {gss : List (List (Bool × AG))} : runW P nt (.draw gss) σ Q = drawW P gss σ (Q .normal) := propext ⟨id, id⟩
theorem runW_seq {a b : ACode} : runW P nt (.seq a b) σ Q = runW P nt a σ (fun e σ => match e with
  | .normal => runW P nt b σ Q
  | .exit i => Q (.exit i) σ
  | .ret => Q .ret σ) := by
 simp only [runW]
 congr 1
 funext e σ
 cases e <;> rfl
theorem runW_cond {c : AX} {a b : ACode} : runW P nt (.cond c a b) σ Q = match c.ev σ.fr with
  | .c (.pure (.val (.bool t))) => condW t (A := ⟨runW P nt a σ Q⟩) (B := ⟨runW P nt b σ Q⟩)
  | _ => False := propext ⟨id, id⟩
theorem runW_block {id : Nat} {a : ACode} : runW P nt (.block id a) σ Q = runW P nt a σ (fun e σ => match e with
  | .normal => Q .normal σ
  | .exit i => if i = id then Q .normal σ else Q (.exit i) σ
  | .ret => Q .ret σ) := by
 simp only [runW]
 congr 1
 funext e σ
 cases e <;> rfl
theorem runW_rangeF {f : AX} {ps : List Nat} {x y : ACode} : runW P nt (.rangeF f ps x y) σ Q = AWb P nt (.rangeF f ps x y) σ (Q := ⟨Q⟩) := propext ⟨id, id⟩
theorem runW_loop {a : ACode} : runW P nt (.loop a) σ Q = AWb P nt (.loop a) σ (Q := ⟨Q⟩) := propext ⟨id, id⟩
theorem runW_exit {i : Nat} : runW P nt (.exit i) σ Q = Q (.exit i) σ := propext ⟨id, id⟩
theorem runW_ret : runW P nt .ret σ Q = Q .ret σ := propext ⟨id, id⟩
theorem opsW_nil : opsW P [] σ K = K σ := propext ⟨id, id⟩
theorem opsW_cons {d : Option Nat} {op : AOp} {r : List AG} : opsW P (⟨d, none, op⟩ :: r) σ K = opW P op σ fun v σ' => opsW P r (σ'.put d v) K := propext ⟨id, id⟩
theorem opsW_guard {d : Option Nat} {op : AOp} {t : Nat} {want : Bool} {r : List AG} : opsW P (⟨d, some (t, want), op⟩ :: r) σ K = match look σ.fr t with
  | .c (.pure (.val (.bool b))) => condW (b == want) (A := ⟨opW P op σ fun v σ' => opsW P r (σ'.put d v) K⟩) (B := ⟨opsW P r (σ.put d (.tup [])) K⟩)
  | .tup [] => opsW P r (σ.put d (.tup [])) K
  | _ => False := propext ⟨id, id⟩
theorem opsX_nil : opsX P [] σ K = K σ := propext ⟨id, id⟩
theorem opsX_cons {d : Option Nat} {op : AOp} {r : List (Bool × AG)} : opsX P ((false, ⟨d, none, op⟩) :: r) σ K = opW P op σ fun v σ' => opsX P r (σ'.put d v) K := by
 have e : ∀ (p : Prop), (@andW (false = true → p) = fun K => K.out) := fun p => funext fun K => andW_of (fun e => by cases e)
 simp only [opsX, e]
theorem opsX_mark {d : Option Nat} {op : AOp} {r : List (Bool × AG)} : opsX P ((true, ⟨d, none, op⟩) :: r) σ K = opW P op σ fun v σ' => andW (extC σ.mem σ'.mem) (K := ⟨opsX P r (σ'.put d v) K⟩) := by
 simp only [opsX, forall_const]
theorem opsX_guard {d : Option Nat} {x : Bool} {op : AOp} {t : Nat} {want : Bool} {r : List (Bool × AG)} : opsX P ((x, ⟨d, some (t, want), op⟩) :: r) σ K = match look σ.fr t with
  | .c (.pure (.val (.bool b))) => condW (b == want) (A := ⟨opsX P ((x, ⟨d, none, op⟩) :: r) σ K⟩) (B := ⟨opsX P r (σ.put d (.tup [])) K⟩)
  | .tup [] => opsX P r (σ.put d (.tup [])) K
  | _ => False := propext ⟨id, id⟩
theorem drawW_one {gs : List (Bool × AG)} : drawW P [gs] σ K = opsX P gs σ K := propext ⟨id, id⟩
theorem drawW_two {gs hs : List (Bool × AG)} {r : List (List (Bool × AG))} : drawW P (gs :: hs :: r) σ K = bothW (A := ⟨opsX P gs σ K⟩) (B := ⟨drawW P (hs :: r) σ K⟩) := propext ⟨id, id⟩
theorem extC_refl {m : List (Nat × Box)} : extC m m = True := eq_true (.inl rfl)
theorem extC_cons {m : List (Nat × Box)} {n : Nat} {b : Box} : extC m ((n, b) :: m) = (findB m n = none) := propext ⟨fun h => by
 rcases h with h | ⟨n', b', h1, h2⟩
 ·have := congrArg List.length h
  simp at this
 ·cases h1
  exact h2, fun h => .inr ⟨n, b, rfl, h⟩⟩
end
section
variable {P : Program} {σ : St} {K : AV → St → Prop}
theorem opW_mv {x : AX} : opW P (.mv x) σ K = (K (x.ev σ.fr) σ) := propext ⟨id, id⟩
theorem opW_pick {c : AX} {a : AX} {b : AX} : opW P (.pick c a b) σ K = (match c.ev σ.fr with
  | .c (.pure (.val (.bool t))) => condW t (A := ⟨K (a.ev σ.fr) σ⟩) (B := ⟨K (b.ev σ.fr) σ⟩)
  | _ => False) := propext ⟨id, id⟩
theorem opW_box {x : AX} : opW P (.box x) σ K = (match (x.ev σ.fr).cells with
  | some xs => K (.c (.ptr σ.nx 0)) { σ with mem := (σ.nx, .var xs) :: σ.mem, nx := σ.nx + 1 }
  | none => False) := propext ⟨id, id⟩
theorem opW_load {n : Option Nat} {p : AX} : opW P (.load n p) σ K = (match p.ev σ.fr with
  |.c q => match loadCells? σ.mem q with
   |some xs => match n with
    |none => match xs with
     | x :: _ => K (.c x) σ
     | [] => False
    | some n => andW (n ≤ xs.length) (K := ⟨K (.agg (xs.take n)) σ⟩)
   | none => False
  | _ => False) := propext ⟨id, id⟩
theorem opW_store {n : Nat} {p : AX} {v : AX} : opW P (.store n p v) σ K = (match (v.ev σ.fr).cells, p.ev σ.fr with
  |some ys, .c (.ptr nm off) => match findB σ.mem nm with
   | some (.var xs) => andW (ys.length = n ∧ off + n ≤ xs.length) (K := ⟨K (.tup []) { σ with mem := setB σ.mem nm (.var (over xs off ys)) }⟩)
   | _ => False
  |some ys, .c (.eptr nm sz row off) => match findB σ.mem nm with
   | some (.arr e sz' rows) => andW (sz = sz' ∧ ys.length = n ∧ off + n ≤ sz) (K := ⟨optW (pcAs ys) (K := ⟨fun zs => optW rows[row]? (K := ⟨fun r =>
     K (.tup []) { σ with mem := setB σ.mem nm (.arr e sz (rows.set row (over r off zs))) }⟩)⟩)⟩)
   | some (.arn e sz' rows) => andW (sz = sz' ∧ ys.length = n ∧ off + n ≤ sz) (K := ⟨optW rows[row]? (K := ⟨fun r =>
     K (.tup []) { σ with mem := setB σ.mem nm (.arn e sz (rows.set row (over r off ys))) }⟩)⟩)
   | _ => False
  | _, _ => False) := propext ⟨id, id⟩
theorem opW_bin {op : BinOp} {x : AX} {y : AX} : opW P (.bin op x y) σ K = (match x.ev σ.fr, y.ev σ.fr with
  |.c (.pure (.val a)), .c (.pure (.val b)) => match op with
   | .shl | .shr => shiftW op a b fun v => K (.c (.pure (.val v))) σ
   | _ => binW op a b fun v => K (.c (.pure (.val v))) σ
  | _, _ => False) := propext ⟨id, id⟩
theorem opW_eqb {neg : Bool} {x : AX} {y : AX} : opW P (.eqb neg x y) σ K = (match x.ev σ.fr, y.ev σ.fr with
  | .c (.pure (.val (.bool a))), .c (.pure (.val (.bool b))) => K (.c (.pure (.val (.bool ((a == b) != neg))))) σ
  | _, _ => False) := propext ⟨id, id⟩
theorem opW_eqs {neg : Bool} {l : List ET} {x : AX} {y : AX} : opW P (.eqs neg l x y) σ K = (match x.ev σ.fr, y.ev σ.fr with
  | .agg xs, .agg ys => andW (eqOk l xs ys) (K := ⟨K (.c (.pure (.val (.bool (dec (eqP xs ys) != neg))))) σ⟩)
  | _, _ => False) := propext ⟨id, id⟩
theorem opW_un {op : UnOp} {x : AX} : opW P (.un op x) σ K = (match op, x.ev σ.fr with
  | .not, .c (.pure (.val (.bool b))) => K (.c (.pure (.val (.bool (!b))))) σ
  | .neg, .c (.pure (.val (.int k n))) => K (.c (.pure (.val (.int k (k.wrap (0 - n)))))) σ
  | .xor, .c (.pure (.val (.int k n))) => K (.c (.pure (.val (.int k (k.wrap (BitVec.ofInt k.bits (if k.signed then -1 else k.max) ^^^ BitVec.ofInt k.bits n).toNat))))) σ
  | _, _ => False) := propext ⟨id, id⟩
theorem opW_conv {k : IntKind} {x : AX} : opW P (.conv k x) σ K = (match x.ev σ.fr with
  | .c (.pure (.val (.int _ n))) => K (.c (.pure (.val (.int k (k.wrap n))))) σ
  | _ => False) := propext ⟨id, id⟩
theorem opW_fieldA {off : Nat} {p : AX} : opW P (.fieldA off p) σ K = (match p.ev σ.fr with
  | .c (.ptr nm o) => K (.c (.ptr nm (o + off))) σ
  | .c (.cptr cells) => K (.c (.cptr (cells.drop off))) σ
  | .c (.eptr nm sz row o) => K (.c (.eptr nm sz row (o + off))) σ
  | _ => False) := propext ⟨id, id⟩
theorem opW_field {off : Nat} {n : Option Nat} {x : AX} : opW P (.field off n x) σ K = (match x.ev σ.fr with
  |.agg xs => match n with
   |none => match xs.drop off with
    | x :: _ => K (.c x) σ
    | [] => False
   | some n => andW (off + n ≤ xs.length) (K := ⟨K (.agg ((xs.drop off).take n)) σ⟩)
  | _ => False) := propext ⟨id, id⟩
theorem opW_idxA {sz : Nat} {x : AX} {i : AX} : opW P (.idxA sz x i) σ K = (match x.ev σ.fr, i.ev σ.fr with
  | .c (.pure (.slice rows)), .c (.pure (.val (.int _ i))) | .c (.tsl rows), .c (.pure (.val (.int _ i))) => andW (0 ≤ i) (K := ⟨optW rows[i.toNat]? (K := ⟨fun r => andW (r.length = sz ∧ 0 < sz) (K := ⟨K (.c (.cptr r)) σ⟩)⟩)⟩)
  |.c (.ref nm), .c (.pure (.val (.int _ i))) => match findB σ.mem nm with
   | some (.arr _ sz' rows) => andW (sz' = sz ∧ 0 < sz ∧ 0 ≤ i ∧ i < rows.length) (K := ⟨K (.c (.eptr nm sz i.toNat 0)) σ⟩)
   | some (.arn _ sz' rows) => andW (sz' = sz ∧ 0 < sz ∧ 0 ≤ i ∧ i < rows.length) (K := ⟨K (.c (.eptr nm sz i.toNat 0)) σ⟩)
   | _ => False
  | _, _ => False) := propext ⟨id, id⟩
theorem opW_idxR {len : Nat} {sz : Nat} {x : AX} {i : AX} : opW P (.idxR len sz x i) σ K = (match x.ev σ.fr, i.ev σ.fr with
  | .c (.ptr nm o), .c (.pure (.val (.int _ i))) => andW (0 ≤ i ∧ i < len) (K := ⟨K (.c (.ptr nm (o + i.toNat * sz))) σ⟩)
  | .c (.cptr cells), .c (.pure (.val (.int _ i))) => andW (0 ≤ i ∧ i < len) (K := ⟨K (.c (.cptr (cells.drop (i.toNat * sz)))) σ⟩)
  | _, _ => False) := propext ⟨id, id⟩
theorem opW_nilc {x : AX} : opW P (.nilc x) σ K = (match x.ev σ.fr with
  | .c (.ptr nm o) => K (.c (.ptr nm o)) σ
  | .c (.cptr cells) => K (.c (.cptr cells)) σ
  | .c (.eptr nm sz row o) => K (.c (.eptr nm sz row o)) σ
  | .c (.clo f caps) => K (.c (.clo f caps)) σ
  | _ => False) := propext ⟨id, id⟩
theorem opW_idxS {x : AX} {i : AX} : opW P (.idxS x i) σ K = (match x.ev σ.fr, i.ev σ.fr with
  | .c (.pure (.val (.string s))), .c (.pure (.val (.int _ i))) => andW (0 ≤ i) (K := ⟨optW s[i.toNat]? (K := ⟨fun b => K (.c (.pure (.val (.int .u8 b.toNat)))) σ⟩)⟩)
  | _, _ => False) := propext ⟨id, id⟩
theorem opW_build {zero : List AC} {parts : List (Nat × Nat × AX)} : opW P (.build zero parts) σ K = (opW.buildW σ parts zero fun xs => K (.agg xs) σ) := propext ⟨id, id⟩
theorem opW_bslice {sz : Nat} {rows : List AX} : opW P (.bslice sz rows) σ K = (opW.bsliceW σ sz rows [] fun rs => K (.c (.tsl rs)) σ) := propext ⟨id, id⟩
theorem opW_mkslice {e : Nat} {sz : Nat} {bytes : Nat} {zero : List PC} {l : AX} : opW P (.mkslice e sz bytes zero l) σ K = (match l.ev σ.fr with
  | .c (.pure (.val (.int .i64 n))) => andW (0 ≤ n ∧ n ≤ 281474976710656 ∧ bytes * n ≤ 281474976710656) (K := ⟨
    K (.c (.ref σ.nx)) { σ with mem := (σ.nx, .arr e sz (List.replicate n.toNat zero)) :: σ.mem, nx := σ.nx + 1 }⟩)
  | _ => False) := propext ⟨id, id⟩
theorem opW_slc {sz : Nat} {x : AX} {lo : Option AX} {hi : Option AX} {mx : Option AX} : opW P (.slc sz x lo hi mx) σ K = (match x.ev σ.fr with
  | .c (.ref _) => False
  | v => optW (rowsOf? σ.mem v) (K := ⟨fun rows => optW (opW.boundOf σ lo) (K := ⟨fun lo => optW (opW.boundOf σ hi) (K := ⟨fun hi => optW (opW.boundOf σ mx) (K := ⟨fun mx =>
   andW (rowsOk sz rows ∧ 0 ≤ lo.getD 0 ∧ lo.getD 0 ≤ hi.getD rows.length ∧ hi.getD rows.length ≤ mx.getD rows.length ∧ mx.getD rows.length ≤ rows.length) (K := ⟨
   K (.c (if mx.isSome = true ∧ mx = hi then .tsl ((rows.take (hi.getD rows.length).toNat).drop (lo.getD 0).toNat) else .pure (.slice ((rows.take (hi.getD rows.length).toNat).drop (lo.getD 0).toNat)))) σ⟩)⟩)⟩)⟩)⟩)) := propext ⟨id, id⟩
theorem opW_slcS {x : AX} {lo : Option AX} {hi : Option AX} : opW P (.slcS x lo hi) σ K = (match x.ev σ.fr, opW.boundOf σ lo, opW.boundOf σ hi with
  |.c (.pure (.val (.string s))), some lo, some hi => andW (0 ≤ lo.getD 0 ∧ lo.getD 0 ≤ hi.getD s.size ∧ hi.getD s.size ≤ s.size) (K := ⟨
   K (.c (.pure (.val (.string (s.extract (lo.getD 0).toNat (hi.getD s.size).toNat))))) σ⟩)
  | _, _, _ => False) := propext ⟨id, id⟩
theorem opW_ext {x : AX} {i : Nat} : opW P (.ext x i) σ K = (match x.ev σ.fr with
  | .tup vs => optW vs[i]? (K := ⟨fun v => K v σ⟩)
  | _ => False) := propext ⟨id, id⟩
theorem opW_len {x : AX} : opW P (.len x) σ K = (match x.ev σ.fr with
  | .c (.pure (.slice rows)) | .c (.tsl rows) => K (.c (.pure (.val (.int .i64 rows.length)))) σ
  | .c .nils => K (.c (.pure (.val (.int .i64 0)))) σ
  |.c (.ref nm) => match findB σ.mem nm with
   | some (.arr _ _ rows) => K (.c (.pure (.val (.int .i64 rows.length)))) σ
   | some (.arn _ _ rows) => K (.c (.pure (.val (.int .i64 rows.length)))) σ
   | _ => False
  | _ => False) := propext ⟨id, id⟩
theorem opW_lenS {x : AX} : opW P (.lenS x) σ K = (match x.ev σ.fr with
  | .c (.pure (.val (.string s))) => K (.c (.pure (.val (.int .i64 s.size)))) σ
  | _ => False) := propext ⟨id, id⟩
theorem opW_mm {mx : Bool} {x : AX} {y : AX} : opW P (.mm mx x y) σ K = (match x.ev σ.fr, y.ev σ.fr with
  | .c (.pure (.val (.int k a))), .c (.pure (.val (.int _ b))) => K (.c (.pure (.val (.int k (if mx = true then max a b else min a b))))) σ
  | _, _ => False) := propext ⟨id, id⟩
theorem opW_mm4 {x y z t : AX} : opW P (.mm4 x y z t) σ K = (match x.ev σ.fr, y.ev σ.fr, z.ev σ.fr, t.ev σ.fr with
  | .c (.pure (.val (.int k a))), .c (.pure (.val (.int _ b))), .c (.pure (.val (.int _ c))), .c (.pure (.val (.int _ d))) => K (.c (.pure (.val (.int k (max (max (max a b) c) d))))) σ
  | _, _, _, _ => False) := propext ⟨id, id⟩
theorem opW_dead : opW P .dead σ K = False := propext ⟨id, id⟩
theorem opW_fnil {neg : Bool} {x : AX} : opW P (.fnil neg x) σ K = (match x.ev σ.fr with
  | .c (.clo _ _) => K (.c (.pure (.val (.bool neg)))) σ
  | .c (.pure (.val .nilFunc)) => K (.c (.pure (.val (.bool (!neg))))) σ
  | _ => False) := propext ⟨id, id⟩
theorem opW_snil {neg : Bool} {x : AX} : opW P (.snil neg x) σ K = (match x.ev σ.fr with
  | .c .nils => K (.c (.pure (.val (.bool (!neg))))) σ
  | .c (.pure (.slice rows)) | .c (.tsl rows) => nilW rows (A := ⟨K (.c (.pure (.val (.bool (!neg))))) σ⟩) (B := ⟨K (.c (.pure (.val (.bool neg)))) σ⟩)
  |.c (.ref nm) => match findB σ.mem nm with
   | some (.arr _ _ rows) => nilW rows (A := ⟨K (.c (.pure (.val (.bool (!neg))))) σ⟩) (B := ⟨K (.c (.pure (.val (.bool neg)))) σ⟩)
   | _ => False
  | _ => False) := propext ⟨id, id⟩
theorem opW_app {e : Nat} {sz : Nat} {bytes : Nat} {x : AX} {y : AX} : opW P (.app e sz bytes x y) σ K = (optW (rowsOf? σ.mem (y.ev σ.fr)) (K := ⟨fun ys => appW e sz bytes (x.ev σ.fr) (y.ev σ.fr) ys σ (K := ⟨K⟩)⟩)) := propext ⟨id, id⟩
theorem opW_mkfn {f : FuncId} {caps : List AX} : opW P (.mkfn f caps) σ K = (opW.mkfnW σ caps [] fun xs => K (.c (.clo f xs)) σ) := propext ⟨id, id⟩
theorem opW_call {g z : Bool} {f : AX} {args : List AX} : opW P (.call g z f args) σ K = (match f.ev σ.fr with
  | .c (.clo f caps) => callW P g z f (args.map (·.ev σ.fr) ++ caps.map .c) σ (K := ⟨K⟩)
  | _ => False) := propext ⟨id, id⟩
theorem opW_bsliceF {sz : Nat} {rows : List AX} : opW P (.bsliceF sz rows) σ K = (opW.bsliceFW σ sz rows σ.mem [] fun rs mem => K (.c (.tsl rs)) { σ with mem := mem }) := propext ⟨id, id⟩
theorem opW_mkmap {kt : KT} {n : Option Nat} : opW P (.mkmap kt n) σ K = (K (.c (.mref σ.nx)) { σ with mem := (σ.nx, .map kt n []) :: σ.mem, nx := σ.nx + 1 }) := propext ⟨id, id⟩
theorem opW_mget {kt : KT} {n : Option Nat} {zero : List AC} {ok : Bool} {m : AX} {k : AX} : opW P (.mget kt n zero ok m k) σ K = (match k.ev σ.fr with
  |.c (.pure (.val kv)) => optW (mkOf kt kv) (K := ⟨fun mk => match m.ev σ.fr with
   |.c (.mref nm) => match findB σ.mem nm with
    |some (.map kt' n' ents) => andW (kt' = kt ∧ n' = n) (K := ⟨caseW (mlook ents mk) (A := ⟨fun ps => K (if ok = true then .tup [mval n ps, .c (.pure (.val (.bool true)))] else mval n ps) σ⟩)
     (B := ⟨K (if ok = true then .tup [mval n zero, .c (.pure (.val (.bool false)))] else mval n zero) σ⟩)⟩)
    | _ => False
   | .c (.pure (.fmap kt' n' es)) => andW (kt' = kt ∧ n' = n) (K := ⟨caseW (mlook (entsOf es) mk) (A := ⟨fun ps => K (if ok = true then .tup [mval n ps, .c (.pure (.val (.bool true)))] else mval n ps) σ⟩)
     (B := ⟨K (if ok = true then .tup [mval n zero, .c (.pure (.val (.bool false)))] else mval n zero) σ⟩)⟩)
   | _ => False⟩)
  | _ => False) := propext ⟨id, id⟩
theorem opW_mput {kt : KT} {n : Option Nat} {m : AX} {k : AX} {v : AX} : opW P (.mput kt n m k v) σ K = (match k.ev σ.fr with
  |.c (.pure (.val kv)) => optW (mkOf kt kv) (K := ⟨fun mk => match m.ev σ.fr with
   |.c (.mref nm) => optW (mcells n (v.ev σ.fr)) (K := ⟨fun ys => match findB σ.mem nm with
    | some (.map kt' n' ents) => andW (kt' = kt ∧ n' = n) (K := ⟨K (.tup []) { σ with mem := setB σ.mem nm (.map kt n (mset ents mk ys)) }⟩)
    | _ => False⟩)
   | _ => False⟩)
  | _ => False) := propext ⟨id, id⟩
theorem opW_ment {kt : KT} {n : Option Nat} {zero : List AC} {m : AX} {k : AX} : opW P (.ment kt n zero m k) σ K = (match k.ev σ.fr with
  |.c (.pure (.val kv)) => optW (mkOf kt kv) (K := ⟨fun mk => match m.ev σ.fr with
   |.c (.mref nm) => match findB σ.mem nm with
    |some (.map kt' n' ents) => andW (kt' = kt ∧ n' = n) (K := ⟨caseW (mlook ents mk) (A := ⟨fun ps => K (.tup [mval n ps, .c (.pure (.val (.int .i64 (midx ents mk))))]) σ⟩)
     (B := ⟨K (.tup [mval n zero, .c (.pure (.val (.int .i64 ents.length)))]) { σ with mem := setB σ.mem nm (.map kt n (ents ++ [(mk, zero)])) }⟩)⟩)
    | _ => False
   | _ => False⟩)
  | _ => False) := propext ⟨id, id⟩
theorem opW_eput {kt : KT} {n : Option Nat} {m : AX} {s : AX} {v : AX} : opW P (.eput kt n m s v) σ K = (match s.ev σ.fr with
  |.c (.pure (.val (.int _ i))) => match m.ev σ.fr with
   |.c (.mref nm) => optW (mcells n (v.ev σ.fr)) (K := ⟨fun ys => match findB σ.mem nm with
    | some (.map kt' n' ents) => andW (kt' = kt ∧ n' = n ∧ 0 ≤ i ∧ i < ents.length) (K := ⟨K (.tup []) { σ with mem := setB σ.mem nm (.map kt n (eset ents i.toNat ys)) }⟩)
    | _ => False⟩)
   | _ => False
  | _ => False) := propext ⟨id, id⟩
end
section
variable {P : Program} {σ : St}
theorem bsliceW_nil {sz : Nat} {acc : List (List PC)} {K : List (List PC) → Prop} : opW.bsliceW σ sz [] acc K = K acc := propext ⟨id, id⟩
theorem bsliceW_cons {sz : Nat} {x : AX} {r : List AX} {acc : List (List PC)} {K : List (List PC) → Prop} : opW.bsliceW σ sz (x :: r) acc K = (match (x.ev σ.fr).cells with
   | some ys => optW (pcAs ys) (K := ⟨fun zs => andW (ys.length = sz) (K := ⟨opW.bsliceW σ sz r (acc ++ [zs]) K⟩)⟩)
   | none => False) := propext ⟨id, id⟩
theorem bsliceFW_nil {sz : Nat} {mem : List (Nat × Box)} {acc : List (List PC)} {K : List (List PC) → List (Nat × Box) → Prop} : opW.bsliceFW σ sz [] mem acc K = K acc mem := propext ⟨id, id⟩
theorem bsliceFW_cons {sz : Nat} {x : AX} {r : List AX} {mem : List (Nat × Box)} {acc : List (List PC)} {K : List (List PC) → List (Nat × Box) → Prop} : opW.bsliceFW σ sz (x :: r) mem acc K = (match (x.ev σ.fr).cells with
   | some ys => optW (frzAs mem ys) (K := ⟨fun z => andW (ys.length = sz) (K := ⟨opW.bsliceFW σ sz r z.2 (acc ++ [z.1]) K⟩)⟩)
   | none => False) := propext ⟨id, id⟩
theorem buildW_nil {acc : List AC} {K : List AC → Prop} : opW.buildW σ [] acc K = K acc := propext ⟨id, id⟩
theorem buildW_cons {off n : Nat} {x : AX} {r : List (Nat × Nat × AX)} {acc : List AC} {K : List AC → Prop} : opW.buildW σ ((off, n, x) :: r) acc K = (match (x.ev σ.fr).cells with
   | some ys => andW (ys.length = n ∧ off + n ≤ acc.length) (K := ⟨opW.buildW σ r (over acc off ys) K⟩)
   | none => False) := propext ⟨id, id⟩
theorem mkfnW_nil {acc : List AC} {K : List AC → Prop} : opW.mkfnW σ [] acc K = K acc := propext ⟨id, id⟩
theorem mkfnW_cons {x : AX} {r : List AX} {acc : List AC} {K : List AC → Prop} : opW.mkfnW σ (x :: r) acc K = (match x.ev σ.fr with
   | .c y => opW.mkfnW σ r (acc ++ [y]) K
   | _ => False) := propext ⟨id, id⟩
end
def andI (n : Nat) (a b : Int) : Int := (BitVec.ofInt n a &&& BitVec.ofInt n b).toNat
def orI (n : Nat) (a b : Int) : Int := (BitVec.ofInt n a ||| BitVec.ofInt n b).toNat
def xorI (n : Nat) (a b : Int) : Int := (BitVec.ofInt n a ^^^ BitVec.ofInt n b).toNat
def nandI (n : Nat) (a b : Int) : Int := (BitVec.ofInt n a &&& ~~~ BitVec.ofInt n b).toNat
section
variable {k : IntKind} {a b : Int} {s u : ByteArray} {K : Value → Prop}
theorem binI_add : binI .add k a b K = K (.int k (k.wrap (a + b))) := propext ⟨id, id⟩
theorem binI_sub : binI .sub k a b K = K (.int k (k.wrap (a - b))) := propext ⟨id, id⟩
theorem binI_mul : binI .mul k a b K = K (.int k (k.wrap (a * b))) := propext ⟨id, id⟩
theorem binI_quo : binI .quo k a b K = andW (b ≠ 0) (K := ⟨K (.int k (k.wrap (a.tdiv b)))⟩) := propext ⟨id, id⟩
theorem binI_rem : binI .rem k a b K = andW (b ≠ 0) (K := ⟨K (.int k (a.tmod b))⟩) := propext ⟨id, id⟩
theorem binI_and : binI .and k a b K = K (.int k (k.wrap (andI k.bits a b))) := propext ⟨id, id⟩
theorem binI_or : binI .or k a b K = K (.int k (k.wrap (orI k.bits a b))) := propext ⟨id, id⟩
theorem binI_xor : binI .xor k a b K = K (.int k (k.wrap (xorI k.bits a b))) := propext ⟨id, id⟩
theorem binI_andNot : binI .andNot k a b K = K (.int k (k.wrap (nandI k.bits a b))) := propext ⟨id, id⟩
theorem binI_eql : binI .eql k a b K = K (.bool (a == b)) := propext ⟨id, id⟩
theorem binI_neq : binI .neq k a b K = K (.bool (a != b)) := propext ⟨id, id⟩
theorem binI_lss : binI .lss k a b K = K (.bool (decide (a < b))) := propext ⟨id, id⟩
theorem binI_leq : binI .leq k a b K = K (.bool (decide (a ≤ b))) := propext ⟨id, id⟩
theorem binI_gtr : binI .gtr k a b K = K (.bool (decide (a > b))) := propext ⟨id, id⟩
theorem binI_geq : binI .geq k a b K = K (.bool (decide (a ≥ b))) := propext ⟨id, id⟩
theorem binS_add : binS .add s u K = andW (s.size + u.size ≤ 9223372036854775807) (K := ⟨K (.string (s ++ u))⟩) := propext ⟨id, id⟩
theorem binS_eql : binS .eql s u K = K (.bool (s.toList == u.toList)) := propext ⟨id, id⟩
theorem binS_neq : binS .neq s u K = K (.bool (!(s.toList == u.toList))) := propext ⟨id, id⟩
theorem binS_lss : binS .lss s u K = K (.bool (Op.bytesLess s.toList u.toList)) := propext ⟨id, id⟩
theorem binS_leq : binS .leq s u K = K (.bool (Op.bytesLess s.toList u.toList || s.toList == u.toList)) := propext ⟨id, id⟩
theorem binS_gtr : binS .gtr s u K = K (.bool (!(Op.bytesLess s.toList u.toList || s.toList == u.toList))) := propext ⟨id, id⟩
theorem binS_geq : binS .geq s u K = K (.bool (!(Op.bytesLess s.toList u.toList))) := propext ⟨id, id⟩
theorem binW_int {op : BinOp} {k' : IntKind} : binW op (.int k a) (.int k' b) K = andW (k = k') (K := ⟨binI op k a b K⟩) := propext ⟨id, id⟩
theorem binW_str {op : BinOp} : binW op (.string s) (.string u) K = binS op s u K := propext ⟨id, id⟩
theorem shiftI_shl : shiftI .shl k a b K = K (.int k (k.wrap (a * 2 ^ (min b.toNat k.bits)))) := propext ⟨id, id⟩
theorem shiftI_shr : shiftI .shr k a b K = K (.int k (a.fdiv (2 ^ (min b.toNat k.bits)))) := propext ⟨id, id⟩
theorem shiftW_int {op : BinOp} {k' : IntKind} : shiftW op (.int k a) (.int k' b) K = andW (0 ≤ b) (K := ⟨shiftI op k a b K⟩) := propext ⟨id, id⟩
end
section
variable {σ : St} {K : List AV → Prop} {L : AV → Prop}
theorem resW_nil {acc : List AV} : resW σ [] acc K = K acc := propext ⟨id, id⟩
theorem resW_cons {r : AR} {rs : List AR} {acc : List AV} : resW σ (r :: rs) acc K = resOne σ r fun v => resW σ rs (acc ++ [v]) K := propext ⟨id, id⟩
theorem resOne_t {n : Nat} : resOne σ (.t n) L = L (look σ.fr n) := propext ⟨id, id⟩
theorem resOne_cell {n : Option Nat} {a : Nat} : resOne σ (.cell n a) L = (match look σ.fr a with
  |.c q => match loadCells? σ.mem q with
   | some xs => loadW n xs L
   | none => False
  | _ => False) := propext ⟨id, id⟩
theorem loadW_one {x : AC} {xs : List AC} : loadW none (x :: xs) L = L (.c x) := propext ⟨id, id⟩
theorem loadW_row {n : Nat} {xs : List AC} : loadW (some n) xs L = andW (n ≤ xs.length) (K := ⟨L (.agg (xs.take n))⟩) := propext ⟨id, id⟩
end
theorem put_none {σ : St} {v : AV} : σ.put none v = σ := rfl
theorem put_some {σ : St} {d : Nat} {v : AV} : σ.put (some d) v = { σ with fr := (d, v) :: σ.fr } := rfl
theorem look_cons {m n : Nat} {v : AV} {r : List (Nat × AV)} : look ((m, v) :: r) n = if m = n then v else look r n := by rw [look]

theorem purQs_pure {mem : List (Nat × Box)} : ∀ {l : List PC}, purQs mem (l.map .pure) = some l
 | [] => rfl
 | p :: l => by simp only [List.map_cons, purQs, purQ, purQs_pure (l := l)]
theorem purEs_one {α : Type} {mem : List (Nat × Box)} {k : α → MK} {p : α → PC} : ∀ {l : List α}, purEs mem none (l.map fun x => (k x, [.pure (p x)])) = some (l.map fun x => (k x, [p x]))
 | [] => rfl
 | x :: l => by simp only [List.map_cons, purEs, purEnt, purQ, purEs_one (l := l)]
theorem purEs_row {α : Type} {mem : List (Nat × Box)} {k : α → MK} {ps : α → List PC} {m : Nat} : ∀ {l : List α}, purEs mem (some m) (l.map fun x => (k x, (ps x).map .pure)) = some (l.map fun x => (k x, ps x))
 | [] => rfl
 | x :: l => by simp only [List.map_cons, purEs, purEnt, purQs_pure, purEs_row (l := l)]
attribute [go_sem ↓] purEs_one purEs_row
attribute [go_sem ↓] runW_skip runW_region runW_draw runW_drawn opsX_nil opsX_cons opsX_mark opsX_guard drawW_one drawW_two extC_refl extC_cons runW_seq runW_cond runW_block runW_loop runW_rangeF runW_exit runW_ret opsW_nil opsW_cons opsW_guard look_cons
attribute [go_sem ↓] opW_mv opW_pick opW_box opW_load opW_store opW_bin opW_eqb opW_eqs opW_un opW_conv opW_fieldA opW_field opW_idxA opW_idxR opW_nilc opW_idxS opW_build opW_bslice opW_mkslice opW_slc opW_slcS opW_ext opW_len opW_lenS opW_mm opW_mm4 opW_dead opW_fnil opW_snil nilW_cons opW_app opW_mkfn opW_call opW_bsliceF opW_mkmap opW_mget opW_mput opW_ment opW_eput AX.ev andW_true optW_some condW_true condW_false caseW_some caseW_none put_none put_some
attribute [go_sem ↓] binI_add binI_sub binI_mul binI_quo binI_rem binI_and binI_or binI_xor binI_andNot binI_eql binI_neq binI_lss binI_leq binI_gtr binI_geq binS_add binS_eql binS_neq binS_lss binS_leq binS_gtr binS_geq shiftI_shl shiftI_shr
attribute [go_sem] binW_int binW_str shiftW_int bsliceW_nil bsliceW_cons bsliceFW_nil bsliceFW_cons buildW_nil buildW_cons mkfnW_nil mkfnW_cons
attribute [go_sem] eqOk eqP frzLA St.frz frz1 frzV frzB frzF frzM loadCells? findB setB delB AV.cells over purVs purV purAs purA purC purCs purP purPs purQ purQs purEnt purEs pcAs pcA frzAs frzA rowsOf? opW.boundOf argsFr mcells mval mkOf MK.val
attribute [go_sem ↓] retW retI retZ resW_nil resW_cons resOne_t resOne_cell loadW_one loadW_row
attribute [go_sem] packV purR thenW blockW loopW
end Go.Abs

set_option linter.unusedVariables false
set_option linter.unusedSimpArgs false
namespace Go.Abs
open Go.RowKit Go.WideShapes

inductive TS where
 | int (k : IntKind)
 | bool
 | str
 | slice (l : List TS)

inductive OkP : TS → PC → Prop
 | int {k : IntKind} {n : Int} (h : (Lit.int k n).wf = true) : OkP (.int k) (.val (.int k n))
 | bool {b : Bool} : OkP .bool (.val (.bool b))
 | str {s : ByteArray} (h : s.size ≤ maxLen) : OkP .str (.val (.string s))
 | slice {l : List TS} {rows : List (List PC)} (hm : rows.length ≤ maxLen) (hl : ∀ r ∈ rows, r.length = l.length) (h : ∀ (r : List PC), r ∈ rows → ∀ (i : Nat) s p, l[i]? = some s → r[i]? = some p → OkP s p) : OkP (.slice l) (.slice rows)
def OkPs (l : List TS) (ps : List PC) : Prop := ps.length = l.length ∧ ∀ (i : Nat) s p, l[i]? = some s → ps[i]? = some p → OkP s p

theorem OkPs.append {l l' : List TS} {ps ps' : List PC} (h : OkPs l ps) (h' : OkPs l' ps') : OkPs (l ++ l') (ps ++ ps') := by
 refine ⟨by simp [h.1, h'.1], fun i s p hs hp => ?_⟩
 by_cases hi : i < l.length
 ·rw [List.getElem?_append_left hi] at hs
  rw [List.getElem?_append_left (by rw [h.1]; exact hi)] at hp
  exact h.2 i s p hs hp
 ·rw [List.getElem?_append_right (by omega)] at hs
  rw [List.getElem?_append_right (by rw [h.1]; omega), h.1] at hp
  exact h'.2 _ s p hs hp
theorem OkPs.one {s : TS} {p : PC} (h : OkP s p) : OkPs [s] [p] := by
 refine ⟨rfl, fun i s' p' hs hp => ?_⟩
 cases i with
 | zero => simp at hs hp; subst hs; subst hp; exact h
 | succ i => simp at hs

def shFs (P : Program) (f : TypeId → Option (List TS)) : List Field → Nat → Nat → Option (List TS)
 | [], k, m => if k = m then some [] else none
 |fd :: r, k, m => if fd.offset = k then match f fd.type with
  |some l => if l.length = P.cellsOf fd.type then match shFs P f r (k + l.length) m with
   | some l' => some (l ++ l')
   | none => none else none
  | none => none else none
def shOf (P : Program) : Nat → TypeId → Option (List TS)
 | 0, _ => none
 |n + 1, t => match P.underlying t with
  | some (.int k) => some [.int k]
  | some .bool => some [.bool]
  | some .string => some [.str]
  |some (.slice e) => match shOf P n e with
   | some l => if l.length = P.cellsOf e then some [.slice l] else none
   | none => none
  | some (.struct fs) => shFs P (shOf P n) fs.toList 0 (P.cellsOf t)
  | _ => none

theorem list_of {X : Type} {Q : Nat → X → Prop} : ∀ {n : Nat}, (∀ i, i < n → ∃ x, Q i x) → ∃ l : List X, l.length = n ∧ ∀ (i : Nat) x, l[i]? = some x → Q i x
 | 0, _ => ⟨[], rfl, fun i x h => by simp at h⟩
 |n + 1, h => by
  obtain ⟨l, h1, h2⟩ := list_of (n := n) fun i hi => h i (by omega)
  obtain ⟨x, hx⟩ := h n (by omega)
  refine ⟨l ++ [x], by simp [h1], fun i y hy => ?_⟩
  by_cases hi : i < l.length
  ·rw [List.getElem?_append_left hi] at hy
   exact h2 i y hy
  ·rw [List.getElem?_append_right (by omega)] at hy
   have : i = n := by
    have := (List.getElem?_eq_some_iff.1 hy).1
    simp at this
    omega
   subst this
   simp [h1] at hy
   subst hy
   exact hx

section
variable {H : Type} {enc : TypeId × Value → H} {P : Program} {W : World} {base : Nat} {sp : Nat → Bool} {held : Bool}

abbrev All : Nat → Prop := fun _ => True

theorem fields_rep {f : TypeId → Option (List TS)} {n : Nat} {cs : List Value} (ih : ∀ t l cs x, f t = some l → DataW.trod enc P W base sp held n t cs = some x → ∃ ps, All2 (RepP W All) ps cs ∧ OkPs l ps) :
  ∀ {fs : List Field} {k m : Nat} {l : List TS}, shFs P f fs k m = some l → cs.length = m → (∀ fd ∈ fs, ∃ x, DataW.trod enc P W base sp held n fd.type ((cs.drop fd.offset).take (P.cellsOf fd.type)) = some x) →
   ∃ ps, All2 (RepP W All) ps (cs.drop k) ∧ OkPs l ps
 |[], k, m, l, h, hm, _ => by
  unfold shFs at h
  split at h
  ·cases h
   refine ⟨[], ?_, rfl, fun i s p hs => by simp at hs⟩
   rw [List.drop_eq_nil_of_le (by omega)]
   exact .nil
  ·cases h
 |fd :: fs, k, m, l, h, hm, hx => by
  unfold shFs at h
  split at h
  ·rename_i e
   split at h
   ·rename_i l1 h1
    split at h
    ·rename_i hc
     split at h
     ·rename_i l2 h2
      cases h
      obtain ⟨x, hx1⟩ := hx fd List.mem_cons_self
      obtain ⟨p1, g1, g2⟩ := ih _ _ _ _ h1 hx1
      obtain ⟨p2, g3, g4⟩ := fields_rep ih h2 hm fun fd h => hx fd (List.mem_cons_of_mem _ h)
      refine ⟨p1 ++ p2, ?_, g2.append g4⟩
      have : cs.drop k = (cs.drop k).take (P.cellsOf fd.type) ++ cs.drop (k + l1.length) := by
       rw [hc, ← List.drop_drop, List.take_append_drop]
      rw [this]
      subst e
      exact g1.append g3
     ·cases h
    ·cases h
   ·cases h
  ·cases h

theorem read_rep : ∀ {fuel sf : Nat} {t : TypeId} {l : List TS} {cs : List Value} {x : DataW H × List MemPlace}, shOf P sf t = some l → DataW.trod enc P W base sp held fuel t cs = some x → ∃ ps, All2 (RepP W All) ps cs ∧ OkPs l ps
 | fuel, 0, t, l, cs, x, h, _ => by cases h
 |fuel, sf + 1, t, l, cs, x, h, hr => by
  unfold shOf at h
  split at h
  ·rename_i k ht
   cases h
   obtain ⟨n, rfl, _, hw⟩ := DataW.trod_int ht hr
   exact ⟨[.val (.int k n)], .cons (.val rfl) .nil, .one (.int hw)⟩
  ·rename_i ht
   cases h
   obtain ⟨b, rfl, _⟩ := DataW.trod_bool ht hr
   exact ⟨[.val (.bool b)], .cons (.val rfl) .nil, .one .bool⟩
  ·rename_i ht
   cases h
   obtain ⟨s, rfl, _, hm⟩ := DataW.trod_string ht hr
   exact ⟨[.val (.string s)], .cons (.val rfl) .nil, .one (.str hm)⟩
  ·rename_i e ht
   split at h
   ·rename_i l' hl'
    split at h
    ·rename_i hc
     cases h
     rcases DataW.trod_slice ht hr with ⟨rfl, _⟩ | ⟨a, len, cap, elems, rest, n, _, rfl, _, _, hle, hmx, hlen, hel, _, _⟩
     ·exact ⟨[.slice []], .cons (.slice (sz := 0) (fun _ _ => undef) rfl (Nat.le_refl _) (by simp) (fun i row h => by simp at h) (fun i row j p h => by simp at h) (fun i row j p h => by simp at h)) .nil, .one (.slice (by simp) (fun r h => by cases h) (fun r h => by cases h))⟩
     ·have hall : ∀ i, i < len → ∃ x : List PC × List Value, W.cells? base (a.add (i * P.cellsOf e)) (P.cellsOf e) = some x.2 ∧ All2 (RepP W All) x.1 x.2 ∧ OkPs l' x.1 := by
       intro i hi
       have h1 := hel i hi
       rw [List.getElem?_eq_getElem (by omega)] at h1
       obtain ⟨cs', h2, h3⟩ := Option.bind_eq_some_iff.1 h1
       obtain ⟨ps, h4, h5⟩ := read_rep hl' h3
       exact ⟨(ps, cs'), h2, h4, h5⟩
      obtain ⟨L, hL, hQ⟩ := list_of hall
      have row : ∀ (i : Nat) r, (L.map Prod.fst)[i]? = some r → ∃ c, L[i]? = some (r, c) ∧ W.cells? base (a.add (i * P.cellsOf e)) (P.cellsOf e) = some c ∧ All2 (RepP W All) r c ∧ OkPs l' r := by
       intro i r hr
       rw [List.getElem?_map] at hr
       obtain ⟨y, hy, rfl⟩ := Option.map_eq_some_iff.1 hr
       exact ⟨y.2, hy, hQ i y hy⟩
      unfold maxLen at hmx
      refine ⟨[.slice (L.map Prod.fst)], .cons (.slice (sz := P.cellsOf e) (fun i j => (((L[i]?).map Prod.snd).getD []).getD j undef) (by simp [hL]) hle (by omega) ?_ ?_ ?_) .nil, .one (.slice (by unfold maxLen; simp [hL]; omega) ?_ ?_)⟩
      ·intro i r hr
       obtain ⟨c, _, _, _, h5⟩ := row i r hr
       rw [h5.1, hc]
      ·intro i r j p hr hp
       obtain ⟨c, h1, h2, h3, h5⟩ := row i r hr
       obtain ⟨v, hv, _⟩ := h3.get hp
       obtain ⟨_, h6, h7⟩ := World.cells?_some h2
       have hj : j < P.cellsOf e := by
        have := (List.getElem?_eq_some_iff.1 hv).1
        omega
       have h8 := h7 j hj
       rw [hv] at h8
       obtain ⟨b, off, spot⟩ := a
       have hspot : spot = none := by
        have hi0 : 0 < L.length := by
         have := (List.getElem?_eq_some_iff.1 h1).1
         omega
        obtain ⟨g1, _, _⟩ := hQ 0 L[0] (List.getElem?_eq_getElem hi0)
        obtain ⟨_, g2, g3⟩ := World.cells?_some g1
        have g4 := g3 0 (by omega)
        rw [List.getElem?_eq_getElem (by omega)] at g4
        simpa [Addr.add] using World.cell?_spot g4
       subst hspot
       rw [add_plain, add_plain] at h8
       refine ⟨b, off, rfl, trivial, ?_⟩
       rw [← Nat.add_assoc, h8]
       simp [h1, hv]
      ·intro i r j p hr hp
       obtain ⟨c, h1, h2, h3, h5⟩ := row i r hr
       obtain ⟨v, hv, hrep⟩ := h3.get hp
       simpa [h1, hv] using hrep
      ·intro r hr
       obtain ⟨i, hi⟩ := List.mem_iff_getElem?.1 hr
       obtain ⟨c, _, _, _, h5⟩ := row i r hi
       exact h5.1
      ·intro r hr
       obtain ⟨i, hi⟩ := List.mem_iff_getElem?.1 hr
       obtain ⟨c, _, _, _, h5⟩ := row i r hi
       exact h5.2
    ·cases h
   ·cases h
  ·rename_i fs ht
   obtain ⟨xs, n, _, _, hl, hlen, hf⟩ := DataW.trod_struct ht hr
   have := fields_rep (n := n) (fun t l cs x h hx => read_rep (sf := sf) h hx) h hl fun fd hfd => by
    obtain ⟨i, hi⟩ := List.mem_iff_getElem?.1 hfd
    have h1 := hf i fd (by simpa using hi)
    have hi' : i < xs.length := by
     have := (List.getElem?_eq_some_iff.1 hi).1
     simp at this
     omega
    exact ⟨xs[i], by rw [h1, List.getElem?_eq_getElem hi']⟩
   simpa using this
  ·cases h

def isRow (P : Program) (t : TypeId) : Bool := match P.underlying t with
 | some (.struct _) => true
 | _ => false
def argV (row : Bool) (ps : List PC) : AV := if row then .agg (ps.map .pure) else match ps with
 | p :: _ => .c (.pure p)
 | [] => .top

theorem arg_rep {r : Reach} {b0 : Nat} {t : TypeId} {v : Value} {d : DataW H} {p : List MemPlace} {sf : Nat} {l : List TS} (hs : shOf P sf t = some l) (hval : Value.okWide P W r b0 t v) (h : DataW.Trod enc P W base sp held t v d p) :
  ∃ ps, OkPs l ps ∧ RepV W All (fun _ => undef) 0 (argV (isRow P t) ps) v := by
 obtain ⟨fuel, hf⟩ := h
 obtain ⟨ps, h1, h2⟩ := read_rep hs hf
 refine ⟨ps, h2, ?_⟩
 have single : ∀ {v : Value}, v.cells = #[v] → All2 (RepP W All) ps v.cells.toList → RepV W All (fun _ => undef) 0 (argV false ps) v := by
  intro v hv h
  rw [hv] at h
  cases h with
  | cons h t => exact .c (.pure h)
 cases sf with
 | zero => cases hs
 | succ sf =>
  unfold shOf at hs
  split at hs
  ·rename_i k ht
   obtain ⟨n, rfl⟩ := okWide_int ht hval
   simp only [isRow, ht]
   exact single rfl h1
  ·rename_i ht
   obtain ⟨n, rfl⟩ := okWide_bool ht hval
   simp only [isRow, ht]
   exact single rfl h1
  ·rename_i ht
   obtain ⟨n, rfl⟩ := okWide_string ht hval
   simp only [isRow, ht]
   exact single rfl h1
  ·rename_i e ht
   obtain ⟨a, n, c, rfl⟩ := okWide_slice ht hval
   simp only [isRow, ht]
   exact single rfl h1
  ·rename_i fs ht
   obtain ⟨cs, rfl, _⟩ := okWide_struct ht hval
   simp only [isRow, ht]
   have h1 : All2 (RepP W All) ps cs.toList := h1
   refine .agg (All2.of_get (by simpa using h1.length) fun i x v hi hv => ?_)
   simp only [List.getElem?_map, Option.map_eq_some_iff] at hi
   obtain ⟨q, hq, rfl⟩ := hi
   obtain ⟨u, hu, hr⟩ := h1.get hq
   have : u = v := by
    rw [hv] at hu
    cases hu
    rfl
   subst this
   exact .pure hr
  ·cases hs
end
end Go.Abs

set_option linter.unusedVariables false
set_option linter.unusedSimpArgs false
namespace Go.Abs
open Go.RowKit

section
variable {t : Bool} {A B : Blk Prop}
theorem condW_not : @condW (!t) A B = @condW t B A := by
 cases t
 ·exact propext ⟨fun h => ⟨(fun e => by cases e), fun _ => h.1 rfl⟩, fun h => ⟨fun _ => h.2 rfl, (fun e => by cases e)⟩⟩
 ·exact propext ⟨fun h => ⟨fun _ => h.2 rfl, (fun e => by cases e)⟩, fun h => ⟨(fun e => by cases e), fun _ => h.1 rfl⟩⟩
theorem condW_beqT : @condW (t == true) A B = @condW t A B := by cases t <;> rfl
theorem condW_beqF : @condW (t == false) A B = @condW t B A := by
 have : (t == false) = !t := by cases t <;> rfl
 rw [this, condW_not]
theorem condD {p : Prop} [Decidable p] (h1 : p → A.out) (h2 : ¬ p → B.out) : @condW (decide p) A B :=
 ⟨fun e => h1 (of_decide_eq_true e), fun e => h2 (of_decide_eq_false e)⟩
end
theorem condX {p : Prop} {A B : Blk Prop} (h1 : p → A.out) (h2 : ¬ p → B.out) : @condW (dec p) A B :=
 ⟨fun e => h1 (@of_decide_eq_true p (Classical.propDecidable p) e), fun e => h2 (@of_decide_eq_false p (Classical.propDecidable p) e)⟩
class TestP (t : Bool) (p q : outParam Prop) : Prop where
 pos : t = true → p
 neg : t = false → q
instance (priority := low) testT (t : Bool) : TestP t (t = true) (t = false) := ⟨id, id⟩
instance testD (p : Prop) [Decidable p] : TestP (decide p) p (¬ p) := ⟨of_decide_eq_true, of_decide_eq_false⟩
instance testX (p : Prop) : TestP (dec p) p (¬ p) := ⟨@of_decide_eq_true p (Classical.propDecidable p), @of_decide_eq_false p (Classical.propDecidable p)⟩
theorem condT {t : Bool} {p q : Prop} [T : TestP t p q] {A B : Blk Prop} (h1 : p → A.out) (h2 : q → B.out) : @condW t A B := ⟨fun e => h1 (T.pos e), fun e => h2 (T.neg e)⟩
theorem dec_F {p : Prop} : (dec p != false) = dec p := by cases dec p <;> rfl
theorem dec_T {p : Prop} : (dec p != true) = !dec p := by cases dec p <;> rfl
theorem dec_true {p : Prop} (h : p) : dec p = true := @decide_eq_true p (Classical.propDecidable p) h
theorem dec_false {p : Prop} (h : ¬ p) : dec p = false := @decide_eq_false p (Classical.propDecidable p) h
theorem decT : dec True = true := dec_true trivial
theorem decF : dec False = false := dec_false id
theorem dec_eq {p : Prop} [Decidable p] : dec p = decide p := by by_cases h : p <;> simp [dec, h]
theorem int_beq {a b : Int} : (a == b) = decide (a = b) := rfl
theorem int_bne {a b : Int} : (a != b) = !decide (a = b) := rfl
theorem str_eq {a b : ByteArray} : a.toList = b.toList ↔ a = b := by
 constructor
 ·intro h
  rw [ByteArray.toList_eq, ByteArray.toList_eq] at h
  exact Go.WideShapes.bytes_inj h
 ·intro h; rw [h]
theorem str_beq {a b : ByteArray} : (a.toList == b.toList) = decide (a = b) := by
 by_cases h : a = b
 ·subst h; simp
 ·have : ¬ a.toList = b.toList := fun e => h (str_eq.1 e)
  simp [h, this]
theorem str_bne {a b : ByteArray} : (a.toList != b.toList) = !decide (a = b) := by rw [bne, str_beq]
instance memDec (s : ByteArray) (xs : List ByteArray) : Decidable (s ∈ xs) := decidable_of_iff (∃ x ∈ xs, x = s) (by simp)
theorem eqb_F {a b : Bool} : ((a == b) != false) = (a == b) := by cases a <;> cases b <;> rfl
theorem eqb_T {a b : Bool} : ((a == b) != true) = !(a == b) := by cases a <;> cases b <;> rfl

theorem app_nil {e sz bytes : Nat} {y : AV} {ys : List (List PC)} {σ : St} {K : Blk (AV → St → Prop)} (hok : rowsOk sz ys) (h1 : ys.length * bytes ≤ 140737488355328) (h2 : ys.length ≤ 140737488355328)
  (hk : K.out (.c (.ref σ.nx)) { σ with mem := (σ.nx, .arr e sz ys) :: σ.mem, nx := σ.nx + 1 }) : @appW e sz bytes (.c .nils) y ys σ K :=
 ⟨hok, .inr (.inl ⟨rfl, .inl ⟨by simpa using h1, by simpa using h2, hk⟩⟩)⟩
theorem app_nilP {e sz bytes : Nat} {y : AV} {ys : List (List PC)} {σ : St} {K : Blk (AV → St → Prop)} (hok : rowsOk sz ys) (h1 : ys.length * bytes ≤ 140737488355328) (h2 : ys.length ≤ 140737488355328)
  (hk : K.out (.c (.pure (.slice ys))) σ) : @appW e sz bytes (.c .nils) y ys σ K :=
 ⟨hok, .inr (.inl ⟨rfl, .inr ⟨by simpa using h1, by simpa using h2, hk⟩⟩)⟩
theorem app_own {e sz bytes nm : Nat} {y : AV} {rows ys : List (List PC)} {σ : St} {K : Blk (AV → St → Prop)} (hf : findB σ.mem nm = some (.arr e sz rows)) (hne : y ≠ .c (.ref nm)) (hok : rowsOk sz ys) (h1 : (rows.length + ys.length) * bytes ≤ 140737488355328) (h2 : rows.length + ys.length ≤ 140737488355328)
  (hk : K.out (.c (.ref σ.nx)) { σ with mem := (σ.nx, .arr e sz (rows ++ ys)) :: delB σ.mem nm, nx := σ.nx + 1 }) : @appW e sz bytes (.c (.ref nm)) y ys σ K :=
 ⟨hok, .inl ⟨nm, rfl, hne, rows, hf, h1, h2, hk⟩⟩
abbrev pSl {α : Type} (f : α → List PC) (xs : List α) : PC := .slice (xs.map f)
abbrev aSl {α : Type} (f : α → List PC) (xs : List α) : AV := .c (.pure (pSl f xs))
abbrev pI (n : Int) : PC := .val (.int .i64 n)
abbrev pS (s : ByteArray) : PC := .val (.string s)
abbrev pB (b : Bool) : PC := .val (.bool b)
theorem map_get {α β : Type} {f : α → β} {xs : List α} {k : Nat} (h : k < xs.length) : (xs.map f)[k]? = some (f xs[k]) := by simp [h]
end Go.Abs

set_option linter.unusedVariables false
set_option linter.unusedSimpArgs false
namespace Go.Abs
open Go.RowKit

def flatRows (rows : List (List PC)) : Prop := ∀ r ∈ rows, ∀ p ∈ r, ∃ v, p = .val v
theorem flatRows_map {α : Type} {f : α → Value} {xs : List α} : flatRows (xs.map fun x => [.val (f x)]) := by
 intro r hr p hp
 obtain ⟨x, _, rfl⟩ := List.mem_map.1 hr
 rw [List.mem_singleton] at hp
 exact ⟨_, hp⟩
theorem RowsRep.flat {w w' : World} {V V' : Nat → Prop} {sz : Nat} {rows : List (List PC)} {cells : List Value} (h : RowsRep w V sz rows cells) (hf : flatRows rows) : RowsRep w' V' sz rows cells := by
 refine ⟨h.1, h.2.1, fun i row j p hi hj => ?_⟩
 obtain ⟨v, hv, hp⟩ := h.2.2 i row j p hi hj
 obtain ⟨u, rfl⟩ := hf row (List.mem_of_getElem? hi) p (List.mem_of_getElem? hj)
 refine ⟨v, hv, ?_⟩
 cases hp with
 | val h => exact .val h

def OCalls (P : Program) (f : FuncId) (args : List AV) (e sz : Nat) (rows : List (List PC)) : Prop :=
 FnThere P f ∧
 ∀ (w : World) (U : Nat → Prop) (vs : Array Value), Glob w → All2 (RepV w U (fun _ => undef) 0) args vs.toList →
  Calls P f vs w fun en w' => ∃ v cells, en = .returned v ∧ 0 < sz ∧ w'.ownsRow w.heap.size e sz v rows.length cells ∧ rows.length ≤ 9223372036854775807 ∧ RowsRep w' (fun _ => False) sz rows cells ∧ Below w.heap.size w w'

def retO (rs : List AR) (e sz : Nat) (rows : List (List PC)) : AExit → St → Prop
 | .exit _, _ => False
 | .ret, σ => resW σ rs [] fun vs => ∃ nm, packV vs = .c (.ref nm) ∧ findB σ.mem nm = some (.arr e sz rows)
 | .normal, σ => resW σ rs [] fun vs => ∃ nm, packV vs = .c (.ref nm) ∧ findB σ.mem nm = some (.arr e sz rows)

theorem ownsRow_base {w : World} {B B' e sz n : Nat} {v : Value} {cells : List Value} (h : w.ownsRow B e sz v n cells) (hB : B' ≤ B) : w.ownsRow B' e sz v n cells := by
 refine ⟨h.1, ?_⟩
 rcases h.2 with h | ⟨g, cap, cur, e, hg, h⟩
 ·exact .inl h
 ·exact .inr ⟨g, cap, cur, e, Nat.le_trans hB hg, h⟩

theorem OCalls.of {P : Program} {f : FuncId} {nt : Nat} {body : ACode} {rs : List AR} {args : List AV} {e sz : Nat} {rows : List (List PC)} (hf : FnIs P f nt body rs) (hlen : args.length ≤ nt) (hfl : flatRows rows) (h : bndVs args → AW P nt body ⟨argsFr args 0, [], 0, 0⟩ (retO rs e sz rows)) : OCalls P f args e sz rows := by
 obtain ⟨fn, c, h1, h2, h3, rfl, h5, h6⟩ := hf.is
 refine ⟨⟨fn, h1, by rw [h2]; rfl, h3⟩, fun w U vs hG hargs => ?_⟩
 have hsz : vs.size = args.length := by rw [← Array.length_toList]; exact hargs.length.symm
 have hs : Sim w (Gh.of U) ⟨argsFr args 0, [], 0, 0⟩ (fun _ => undef) { tmps := vs ++ Array.replicate (fn.ntmps - vs.size) undef, defers := [] } w := by
  refine ⟨fun t => ?_, ⟨rfl, hG⟩, (fun nm bx hn => by cases hn), (fun nm bx hn => by cases hn), (fun nm nm' b1 b2 b hn => by cases hn), Below.refl _ _, trivial, ⟨Nat.le_refl _, fun _ h => absurd h (Nat.not_lt_zero _)⟩⟩
  have hmono : ∀ {x : AV} {v : Value}, RepV w U (fun _ => undef) 0 x v → RepV w (Free w.heap.size (Gh.of U) (fun _ => undef) []) (fun _ => undef) 0 x v := fun h =>
   h.mono (fun b _ h => ⟨.inl h, fun nm bx hn => by cases hn⟩) (fun _ _ _ => rfl) (fun _ _ => rfl) (Nat.le_refl _)
  rcases look_args (vs := vs.toList) (k := 0) hargs t with h | h
  ·by_cases hlt : t < vs.size
   ·have e : (vs ++ Array.replicate (fn.ntmps - vs.size) undef).getD t undef = (vs.toList[t - 0]?).getD undef := by
     simp [Array.getD_eq_getD_getElem?, Array.getElem?_append, hlt]
    rw [e]
    exact hmono h
   ·have : look (argsFr args 0) t = .top := by
     have key : ∀ (l : List AV) (j : Nat), j + l.length ≤ t → look (argsFr l j) t = .top := by
      intro l
      induction l with
      | nil => intro j _; rfl
      | cons x l ih =>
       intro j hj
       simp only [List.length_cons] at hj
       show (if j = t then x else look (argsFr l (j + 1)) t) = _
       rw [if_neg (by omega)]
       exact ih _ (by omega)
     exact key args 0 (by omega)
    show RepV _ _ _ _ (look (argsFr args 0) t) _
    rw [this]
    exact .top
  ·show RepV _ _ _ _ (look (argsFr args 0) t) _
   rw [h]
   exact .top
 have hsize : (vs ++ Array.replicate (fn.ntmps - vs.size) undef).size = fn.ntmps := by simp; omega
 have fin : ∀ {a' : Act} {w' : World} {σ' : St} {ι' : Pl}, (resW σ' rs [] fun vs => ∃ nm, packV vs = .c (.ref nm) ∧ findB σ'.mem nm = some (.arr e sz rows)) → Sim w (Gh.of U) σ' ι' a' w' → ∃ v, (results fn a'.tmps).run P w' = .ok v w' ∧
   ∃ v' cells, Ending.returned v = .returned v' ∧ 0 < sz ∧ w'.ownsRow w.heap.size e sz v' rows.length cells ∧ rows.length ≤ 9223372036854775807 ∧ RowsRep w' (fun _ => False) sz rows cells ∧ Below w.heap.size w w' := by
  intro a' w' σ' ι' hres hs'
  obtain ⟨vs', us', g1, g2, nm, g3, g4⟩ := res_sound hs' (us := []) h6 hres .nil
  have hp := pack_rep (by simpa using g1)
  rw [g3] at hp
  have hv := repV_ref hp
  obtain ⟨cells, k0, k1, k2, k3⟩ := hs'.box _ _ g4
  refine ⟨(if h : us'.toArray.size = 1 then us'.toArray[0] else .tuple us'.toArray), ?_, _, cells, rfl, k0, ?_, k2, k3.flat hfl, hs'.below⟩
  ·rw [results_eq, Array.mapM_eq_mapM_toList]
   simp [g2]
  ·rw [hv]; exact k1
 refine calls_end h1 h2 (h (bnds_rep hargs) c h5 w (Gh.of U) none [] _ _ w (fun _ e => by cases e) hs hsize) (fun i σ' h => h) ?_
 intro e a' w' σ' ι' hq hs'
 cases e with
 | normal => exact fin hq hs'
 | exit i => exact hq.elim
 | ret => exact fin hq hs'

theorem OCalls.inner {P : Program} {f : FuncId} {args pargs : List AV} {e sz : Nat} {rows : List (List PC)} {mem : List (Nat × Box)} {nx : Nat} (h : OCalls P f pargs e sz rows) (hfl : flatRows rows) (hp : purVs mem args = some pargs) :
  ICalls P f args mem nx (.c (.ref nx)) ((nx, .arr e sz rows) :: mem) (nx + 1) := by
 refine ⟨h.1, fun w0 U ι w vs hs hr => ?_⟩
 have hB := hs.below.size
 refine (h.2 w (fun _ => True) vs hs.glob (purVs_rep (σ := ⟨[], mem, nx, nx⟩) (V := fun _ => True) hs hr (fun _ _ => trivial) (.inr fun _ _ => trivial) hp)).mono ?_
 rintro en w' ⟨v, cells, rfl, h0, hown, hm, hrows, hbel⟩
 obtain ⟨ι', k1, k2, k3, k4⟩ := hs.newBox (pv := v) (bx := .arr e sz rows) hbel (fun b hb => by
  rcases hown.2 with ⟨e, _⟩ | ⟨g, cap, cur, e, hg, _⟩
  ·rw [e] at hb; cases hb
  ·rw [e] at hb
   simp [blockOf] at hb
   omega) (fun ι' e1 e2 hfree => ⟨cells, h0, by rw [e2]; exact ownsRow_base hown hB, hm, hrows.flat hfl⟩)
 refine ⟨v, ι', rfl, k1, ?_⟩
 rw [← k2]
 refine .c (.ref (Nat.lt_succ_self _) ?_)
 rw [k2]
 rcases hown.2 with ⟨e, _⟩ | ⟨g, cap, cur, e, _⟩
 ·exact ⟨_, _, _, e⟩
 ·exact ⟨_, _, _, e⟩
attribute [go_sem ↓] retO
end Go.Abs

set_option linter.unusedVariables false
set_option linter.unusedSimpArgs false
namespace Go.Abs
open Go.RowKit
def tabOf (P : Program) (f : FuncId) : Option (Nat × ACode × List AR) :=
 match P.funcs[f]? with
 |some fn => match fn.name == "runtime.NumGoroutine" with
  |false => match fn.body with
   |some c => match compC P fn.ntmps c with
    |some b => match compRs P fn.results.toList with
     | some rs => some (fn.ntmps, b, rs)
     | none => none
    | none => none
   | none => none
  | true => none
 | none => none
theorem tabOf_is {P : Program} {f : FuncId} {nt : Nat} {c : ACode} {rs : List AR} (h : tabOf P f = some (nt, c, rs)) : FnIs P f nt c rs := by
 unfold tabOf at h
 split at h
 ·rename_i fn e1
  split at h
  ·rename_i e2
   split at h
   ·rename_i c0 e3
    split at h
    ·rename_i b e4
     split at h
     ·rename_i rs' e5
      cases h
      exact ⟨fn, c0, e1, e3, e2, rfl, e4, e5⟩
     ·cases h
    ·cases h
   ·cases h
  ·cases h
 ·cases h
def cOf (P : Program) (f : FuncId) : ACode := match tabOf P f with
 | some (_, c, _) => c
 | none => .skip
theorem cI {P : Program} {f : FuncId} {nt : Nat} {rs : List AR} (h : tabOf P f = some (nt, cOf P f, rs) := by kernel_rfl) : FnIs P f nt (cOf P f) rs := tabOf_is h
abbrev o_ (d : Nat) (x : AOp) : AG := ⟨some d, none, x⟩
abbrev m_ (d s : Nat) : AG := ⟨some d, none, .mv (.t s)⟩
abbrev u_ (x : AOp) : AG := ⟨none, none, x⟩
abbrev k_ (n : Int) : AX := .k (.c (.pure (.val (.int .i64 n))))
abbrev i_ (n : Int) : AC := .pure (.val (.int .i64 n))
abbrev f_ (n : FuncId) : AX := .k (.c (.clo n []))
abbrev c_ (f : AX) (l : List AX) : AOp := .call true true f l
abbrev b_ (b : Bool) : AX := .k (.c (.pure (.val (.bool b))))
abbrev g_ (d t : Nat) (w : Bool) (x : AOp) : AG := ⟨some d, some (t, w), x⟩
abbrev r_ (l : List AG) : ACode := .region l false
abbrev l_ (n : Nat) : AOp := .load none (.t n)
abbrev L_ (k n : Nat) : AOp := .load (some k) (.t n)
abbrev a_ (k n : Nat) : AOp := .fieldA k (.t n)
abbrev x_ (k a b : Nat) : AOp := .idxA k (.t a) (.t b)
abbrev S_ (k a b : Nat) : AOp := .store k (.t a) (.t b)
abbrev e_ (n k : Nat) : AOp := .ext (.t n) k
abbrev z_ (n : Nat) : AOp := .len (.t n)
abbrev w_ (n : Int) : AOp := .mv (k_ n)
abbrev j_ (n : Nat) : AOp := .bin .add (.t n) (k_ 1)
abbrev q_ (a b : Nat) : AOp := .bin .lss (.t a) (.t b)
abbrev Q_ (o : BinOp) (a : Nat) (k : Int) : AOp := .bin o (.t a) (k_ k)
abbrev C_ (f : FuncId) (l : List AX) : AOp := .call true true (f_ f) l
abbrev P_ (d : Nat) (x : AOp) : Bool × AG := (false, o_ d x)
abbrev M_ (d s : Nat) : Bool × AG := (false, m_ d s)
abbrev U_ (x : AOp) : Bool × AG := (false, u_ x)
abbrev s_ (l : List AG) (c : ACode) : ACode := .seq (.region l false) c
abbrev y_ (n : Nat) (c d : ACode) : ACode := .cond (.t n) c d
abbrev X_ (n k : Nat) : ACode := .cond (.t n) .skip (.exit k)
attribute [go_sem ↓] List.map_cons List.map_nil
attribute [go_sem] true_and and_true List.nil_append andW_of Int.toNat_natCast List.length_map List.length_cons List.length_nil Option.some.injEq not_true_eq_false not_false_eq_true condW_not condW_beqT condW_beqF int_beq int_bne str_beq str_bne eqb_F eqb_T dec_F dec_T decT decF Bool.false_eq_true List.cons_append decide_true decide_false Nat.add_zero Nat.zero_add List.drop_succ_cons List.drop_zero List.take_succ_cons List.take_zero Option.map_some Option.map_none List.getElem?_cons_zero List.getElem?_cons_succ eq_self beq_self_eq_true Bool.bne_false Bool.bne_true Bool.true_beq Bool.false_beq
end Go.Abs
