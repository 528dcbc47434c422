/- The abstract machine: a range over a function. -/
import Derived.Test.YtehjbfljenpfoaaAbsQ
set_option linter.unusedVariables false
set_option linter.unusedSimpArgs false
namespace Go.Abs
open Go.RowKit

structure YSpec (P : Program) (l : Nat) (w : World) (xs : List (List AV)) (J : Option Nat → (Nat → Prop) → World → Prop) : Prop where
 grow : ∀ k S W W', J k S W → GrowL w.heap.size W W' → J k (fun b => S b ∨ W.heap.size ≤ b ∧ b < W'.heap.size) W'
 old : ∀ k S W, J k S W → (∀ b, S b → b < W.heap.size) ∧ w.heap.size ≤ W.heap.size ∧ Glob W
 sub : ∀ k S S' W, J k S W → (∀ b, S' b → S b) → J k S' W
 round : ∀ k x S W us, xs[k]? = some x → J (some k) S W → All2 (RepV W S (fun _ => undef) 0) x us.toList → ∀ m, YieldAt Fence.wide m P l us W fun e W' =>
  ∃ b : Bool, e = .returned (.bool b) ∧ J (if b = true then some (k + 1) else none) S W' ∧ ∀ c, S c → W'.heap[c]? = W.heap[c]?
def YCalls (P : Program) (f : FuncId) (args : List AV) (xs : List (List AV)) : Prop :=
 FnThere P f ∧ ∀ (l : Nat) (S : Nat → Prop) (J : Option Nat → (Nat → Prop) → World → Prop) (w : World) (vs : Array Value), Glob w →
  All2 (RepV w S (fun _ => undef) 0) args vs.toList → YSpec P l w xs J → J (some 0) S w →
  Calls P f (#[.func (.yield l) #[] #[]] ++ vs) w fun e w' => (∃ v, e = .returned v) ∧ ∃ k S', (k = some xs.length ∨ k = none) ∧ J k S' w'

def putL : List Nat → List AV → List (Nat × AV) → List (Nat × AV)
 | p :: ps, x :: xs, fr => putL ps xs ((p, x) :: fr)
 | _, _, fr => fr
def asgW (P : Program) (nt : Nat) (body : ACode) (Q : AExit → St → Prop) : AExit → St → Prop
 | .normal, σ => AW P nt body σ Q
 | _, _ => False
def roundW {τ : Type} (mk : Nat → τ → List (Nat × Box) × Nat) (I : Nat → τ → Prop) (bs : Nat) (fr0 : List (Nat × AV)) (base : Nat) (Q : AExit → St → Prop) (k : Nat) : AExit → St → Prop
 | .normal, σ => ∃ t l, I (k + 1) t ∧ Wk l { σ with fr := [] } ⟨[], (mk (k + 1) t).1, (mk (k + 1) t).2, bs⟩
 | .exit i, σ => σ.base = bs ∧ Q (.exit i) ⟨fr0, σ.mem, σ.nx, base⟩
 | .ret, σ => σ.base = bs ∧ Q .ret ⟨fr0, σ.mem, σ.nx, base⟩
def exitCode : AExit → Code
 | .normal => .skip
 | .exit i => .exit i
 | .ret => .ret

section
variable {P : Program} {nt : Nat} {σ : St} {Q : AExit → St → Prop}
theorem sh_nil {a : Act} : sh [] a = a := by
 cases a
 simp [sh]
theorem wpIn_room {rd : Option Nat} {n m : Nat} {c : Code} {Q : Exit → Act → World → Prop} {a : Act} {w : World} (h : c.wpIn (FR rd) n P Q a w) : c.wpIn (FR rd) m P Q a w :=
 fun b k cs h1 h2 _ => h b k cs h1 h2 (fun d hd => by cases hd)
theorem params_rep {w : World} {V : Nat → Prop} {ι : Pl} {N : Nat} : ∀ {ps : List Nat} {xs : List AV} {us : List Value} {fr : List (Nat × AV)} {tmps : Array Value}, All2 (RepV w V ι N) xs us → (∀ p ∈ ps, p < tmps.size) →
  (∀ t, RepV w V ι N (look fr t) (tmps.getD t undef)) → ∀ t, RepV w V ι N (look (putL ps xs fr) t) (((ps.zip us).foldl (fun tmps (x : Nat × Value) => tmps.setIfInBounds x.1 x.2) tmps).getD t undef)
 | [], _, _, _, _, _, _, h, t => by simpa [putL] using h t
 | p :: ps, _, _, fr, tmps, .nil, _, h, t => by simpa [putL] using h t
 |p :: ps, _, _, fr, tmps, .cons (a := x) (b := u) hx hr, hp, h, t => by
  refine params_rep (ps := ps) (fr := (p, x) :: fr) (tmps := tmps.setIfInBounds p u) hr (fun q hq => by rw [Array.size_setIfInBounds]; exact hp q (List.mem_cons_of_mem _ hq)) (fun s => ?_) t
  have hlt := hp p List.mem_cons_self
  rw [look_put]
  by_cases e : p = s
  ·subst e
   rw [if_pos rfl]
   have : (tmps.setIfInBounds p u).getD p undef = u := by simp [Array.getD_eq_getD_getElem?, hlt]
   rw [this]
   exact hx
  ·rw [if_neg e]
   have : (tmps.setIfInBounds p u).getD s undef = tmps.getD s undef := by simp [Array.getD_eq_getD_getElem?, Array.getElem?_setIfInBounds, e]
   rw [this]
   exact h s
theorem params_size : ∀ {ps : List Nat} {us : List Value} {tmps : Array Value}, ((ps.zip us).foldl (fun tmps (x : Nat × Value) => tmps.setIfInBounds x.1 x.2) tmps).size = tmps.size
 | [], _, _ => by simp
 | _ :: _, [], _ => by simp
 |p :: ps, u :: us, tmps => by
  rw [List.zip_cons_cons, List.foldl_cons, params_size, Array.size_setIfInBounds]

theorem AW_rangeF {fx : AX} {ps : List Nat} {asg body : ACode} {g : FuncId} {caps : List AC} {pcaps : List AV} {xs : List (List AV)} {τ : Type}
  (bs : Nat) (fr0 : List (Nat × AV)) (mk : Nat → τ → List (Nat × Box) × Nat) (I : Nat → τ → Prop)
  (hf : fx.ev σ.fr = .c (.clo g caps)) (hp : purVs σ.mem (caps.map .c) = some pcaps) (hnr : (caps.map AV.c).all norefV = true)
  (hY : YCalls P g pcaps xs) (hlen : ∀ x ∈ xs, x.length = ps.length) (hb : σ.base ≤ bs ∧ bs ≤ σ.nx) (hfr : wkF [] σ.fr bs fr0)
  (h0 : ∃ t l, I 0 t ∧ Wk l ⟨[], σ.mem, σ.nx, bs⟩ ⟨[], (mk 0 t).1, (mk 0 t).2, bs⟩)
  (hround : ∀ k x t, xs[k]? = some x → I k t → AW P nt asg ⟨putL ps x fr0, (mk k t).1, (mk k t).2, bs⟩ (asgW P nt body (roundW mk I bs fr0 σ.base Q k)))
  (hend : ∀ t, I xs.length t → Q .normal ⟨fr0, (mk xs.length t).1, (mk xs.length t).2, σ.base⟩) : AW P nt (.rangeF fx ps asg body) σ Q := by
 intro c' hc w0 U rd ds ι a w hrd hs hz
 cases c' <;> simp [compC] at hc
 all_goals (try (split at hc <;> simp at hc))
 rename_i f' ps' asg' body' _ _ _ _ x2 x3 x4 hfx hasg hbody hps
 obtain ⟨rfl, rfl, rfl, rfl⟩ := hc
 have hps' : ∀ p ∈ ps'.toList, p < nt := fun p hp => by simpa using Array.all_eq_true_iff_forall_mem.1 hps p (Array.mem_toList_iff.1 hp)
 have hsz0 := hs.below.size
 -- the iterator's value
 have hv := compX_rep hfx hs
 rw [hf] at hv
 obtain ⟨cv, hcl, hcap, hu⟩ : ∃ cv : Array Value, caps.length = cv.size ∧ (∀ (i : Nat) x, caps[i]? = some x → RepA w (Free w0.heap.size U ι σ.mem) ι σ.nx x (cv.toList[i]?.getD undef)) ∧ a.eval f' = .func (.func g) #[] cv := by
  generalize a.eval f' = u at hv
  cases hv with
  | c h =>
   cases h with
   | clo hl h => exact ⟨_, hl, h, rfl⟩
 have hall : All2 (RepV w (Free w0.heap.size U ι σ.mem) ι σ.nx) (caps.map .c) cv.toList := by
  refine All2.of_get (by simp [hcl]) fun i x v hi hvi => ?_
  rw [List.getElem?_map] at hi
  obtain ⟨y, hy, rfl⟩ := Option.map_eq_some_iff.1 hi
  have := hcap i y hy
  rw [hvi] at this
  exact .c this
 have hpc := purVs_rep (V := Free w0.heap.size U ι σ.mem) hs hall (fun _ h => h) (.inl hnr) hp
 have hfree_lt : ∀ {b : Nat}, Free w0.heap.size U ι σ.mem b → True := fun _ => trivial
 have hexec : ∀ args w, (callFunc g args).run P w = .ok (.enter g args) w := by
  obtain ⟨fn, hfn, hbody, hname⟩ := hY.1
  have hb : ¬ fn.body = none := by intro e; rw [e] at hbody; cases hbody
  have hname' : ¬ fn.name = "runtime.NumGoroutine" := by intro e; rw [e] at hname; simp at hname
  intro args w
  simp [callFunc, hfn, hname', hb]
 refine wpIn_rangeFunc (F := FR rd) fun fn _ => ?_
 -- the record is laid
 obtain ⟨l, D, dfr, mark, w1, hent, hg1, hl1, hl0, hw1l, hD1, hmark⟩ : ∃ (l D dfr : Nat) (mark : List Deferred) (w1 : World),
   (Instr.enterLoop fn (sh ds a).tmps ps' asg' body' (FR rd).round).run P w = .ok (l, mark) w1 ∧ Below w.heap.size w w1 ∧
   w1.heap[l]? = some (.loop { state := .ready, pending := none, fn, tmps := a.tmps, params := ps', assign := asg', body := body', defers := dfr }) ∧ w.heap.size ≤ l ∧
   w1.heap.size = l + 1 ∧ (rd = none → w.heap.size ≤ D ∧ D ≠ l ∧ w1.heap[D]? = some (.deferred (some []))) ∧ ((rd = none ∧ mark = [{ target := .collected D, args := #[] }]) ∨ ((∃ l0, rd = some l0) ∧ mark = [])) := by
  cases rd with
  | none =>
   refine ⟨w.heap.size + 1, w.heap.size, w.heap.size, _, _, run_enterLoop_outer _ _ _ _ _, ((Below.refl _ w).alloc (Nat.le_refl _) _).alloc (by simp) _, ?_, by omega, by simp, fun _ => ⟨Nat.le_refl _, by omega, ?_⟩, .inl ⟨rfl, rfl⟩⟩
   ·have := World.alloc_heap_new (w.alloc (.deferred (some []))) (.loop { state := .ready, pending := none, fn, tmps := a.tmps, params := ps', assign := asg', body := body', defers := w.heap.size })
    rwa [World.size_alloc] at this
   ·exact (Below.heap_alloc _ _ _ (by simp)).trans (World.alloc_heap_new w _)
  | some l0 =>
   obtain ⟨r0, hr0⟩ := hrd l0 rfl _ _ hs.keep
   exact ⟨w.heap.size, 0, r0.defers, [], _, run_enterLoop_inner hr0 _ _ _ _ _, (Below.refl _ w).alloc (Nat.le_refl _) _, World.alloc_heap_new w _, Nat.le_refl _, by simp, (fun h => by cases h), .inr ⟨⟨l0, rfl⟩, rfl⟩⟩
 generalize hrec : (fun (st : LoopState) (pe : Option Code) => ({ state := st, pending := pe, fn, tmps := a.tmps, params := ps', assign := asg', body := body', defers := dfr } : Loop)) = rec
 have hrec' : ∀ st pe, rec st pe = { state := st, pending := pe, fn, tmps := a.tmps, params := ps', assign := asg', body := body', defers := dfr } := fun st pe => by rw [← hrec]
 rw [← hrec'] at hl1
 have hl1' := (Array.getElem?_eq_some_iff.1 hl1).1
 refine ⟨l, mark, w1, { target := .fn (.func g) cv, args := #[.func (.yield l) #[] #[]] }, w1, g, #[.func (.yield l) #[] #[]] ++ cv, w1, hent, ?_, fun _ _ => trivial, ?_, fun h => by simp [FR, Fence.wide] at h, ?_⟩
 ·have he : (sh ds a).eval f' = .func (.func g) #[] cv := by rw [sh_eval]; exact hu
  simp only [resolve, he]
  simp [go_sem]
 ·simp [invoke, go_sem, hexec]
 -- what a round keeps
 let Stay : World → (Nat → Prop) → Prop := fun W V => (∀ b, b < w.heap.size → Free w0.heap.size U ι σ.mem b → V b ∧ W.heap[b]? = w.heap[b]?) ∧ (rd = none → V D ∧ W.heap[D]? = some (.deferred (some [])))
 have stay_mono : ∀ (W W' : World) (V V' : Nat → Prop), Stay W V → (∀ b, b < W.heap.size → V b → V' b) → (∀ b, b < W.heap.size → V b → W'.heap[b]? = W.heap[b]?) → Stay W' V' := by
  rintro W W' V V' ⟨h2, h3⟩ hV hw
  refine ⟨fun b hb hf => ?_, fun e => ?_⟩
  ·obtain ⟨k1, k2⟩ := h2 b hb hf
   have hlt : b < W.heap.size := by
    have : w.heap[b]? = some w.heap[b] := by simp [hb]
    rw [this] at k2
    exact (Array.getElem?_eq_some_iff.1 k2).1
   exact ⟨hV b hlt k1, (hw b hlt k1).trans k2⟩
  ·obtain ⟨k1, k2⟩ := h3 e
   have hlt := (Array.getElem?_eq_some_iff.1 k2).1
   exact ⟨hV D hlt k1, (hw D hlt k1).trans k2⟩
 let Us : Loop → (Nat → Prop) → World → Gh := fun r S Ws => ⟨U.p, ι, fun W V => Stay W V ∧ V l ∧ W.heap[l]? = some (.loop r) ∧ (∀ b, S b → b < Ws.heap.size ∧ V b ∧ W.heap[b]? = Ws.heap[b]?), fun W W' V V' ⟨h1, h2, h3, h4⟩ hV hw => by
  have hlt := (Array.getElem?_eq_some_iff.1 h3).1
  refine ⟨stay_mono W W' V V' h1 hV hw, hV l hlt h2, (hw l hlt h2).trans h3, fun b hb => ?_⟩
  obtain ⟨q1, q2, q3⟩ := h4 b hb
  have hlt : b < W.heap.size := by
   have : Ws.heap[b]? = some Ws.heap[b] := by simp [q1]
   rw [this] at q3
   exact (Array.getElem?_eq_some_iff.1 q3).1
  exact ⟨q1, hV b hlt q2, (hw b hlt q2).trans q3⟩⟩
 let Ur : Loop → Gh := fun r => Us r (fun _ => False) w
 let Ue : Gh := ⟨U.p, U.ι0, fun W V => Stay W V, fun W W' V V' h1 hV hw => stay_mono W W' V V' h1 hV hw⟩
 have stayU : ∀ W V, Stay W V → U.G W V := fun W V h => U.mono w W _ V hs.keep (fun b hb hf => (h.1 b hb hf).1) (fun b hb hf => (h.1 b hb hf).2)
 have free_new : ∀ {ι' : Pl} {mem : List (Nat × Box)} {W : World} {Ub : Gh} {nx b0 : Nat} {fr : List (Nat × AV)} {a' : Act} {q : Nat}, Sim w0 Ub ⟨fr, mem, nx, b0⟩ ι' a' W → w.heap.size ≤ q → W.heap.size ≤ q → Free w0.heap.size Ub ι' mem q := fun hS h1 h2 =>
  ⟨.inr (by omega), fun nm bx hn e => by have := ((hS.box nm bx hn).block e).2; omega⟩
 have free_lp : ∀ {ι' : Pl} {mem : List (Nat × Box)} {W : World} {Ub : Gh} {nx b0 : Nat} {fr : List (Nat × AV)} {a' : Act} {q : Nat} {o : Obj}, Sim w0 Ub ⟨fr, mem, nx, b0⟩ ι' a' W → w.heap.size ≤ q → W.heap[q]? = some o → isLp o = true → Free w0.heap.size Ub ι' mem q := fun hS h1 h2 h3 =>
  ⟨.inr (by omega), fun nm bx hn e => hS.not_lp hn e ⟨_, h2, h3⟩⟩
 -- the outer activation beside a round's
 have outer : ∀ {r : Loop} {S : Nat → Prop} {Ws : World} {σ2 : St} {ι2 : Pl} {a2 : Act} {W : World}, Sim w0 (Us r S Ws) σ2 ι2 a2 W → σ2.base = bs → Sim w0 (Us r S Ws) ⟨fr0, σ2.mem, σ2.nx, bs⟩ ι2 a W := by
  intro r S Ws σ2 ι2 a2 W h hbs
  refine ⟨fun t => ?_, hs.defers, h.names, h.box, h.apart, h.below, h.keep, by rw [← hbs]; exact h.base⟩
  obtain ⟨h1, h2⟩ := wkF_look hfr t
  rcases h1 with h1 | h1
  ·have hv := hs.val t
   rw [h1] at hv
   have hv2 := hv.cl (V' := Free w0.heap.size U ι σ.mem) (fun _ h => h) h2
   refine hv2.mono (fun b hlt hf => (h.keep.1.1 b hlt hf).1) (fun b hlt hf => (h.keep.1.1 b hlt hf).2) (fun nm hnm => ?_) (by rw [← hbs]; exact h.base.1)
   have := h.base.2 nm (by rw [hbs]; exact hnm)
   exact this
  ·show RepV _ _ _ _ (look fr0 t) _
   rw [h1]; exact .top
 -- the state between two rounds
 let rdy := rec .ready none
 let OkS : (Nat → Prop) → World → Pl → List (Nat × Box) → Prop := fun S W ι' mem => ∀ b, S b → b < W.heap.size ∧ b ≠ l ∧ Free w0.heap.size U ι' mem b
 let J : Option Nat → (Nat → Prop) → World → Prop := fun k S W => match k with
  | some k => ∃ t ι', I k t ∧ Sim w0 (Ur rdy) ⟨fr0, (mk k t).1, (mk k t).2, bs⟩ ι' a W ∧ OkS S W ι' (mk k t).1
  | none => ∃ (e : AExit) (σ2 : St) (ι' : Pl), e ≠ .normal ∧ Q e ⟨fr0, σ2.mem, σ2.nx, σ.base⟩ ∧ Sim w0 (Ur (rec .done (some (exitCode e)))) ⟨fr0, σ2.mem, σ2.nx, bs⟩ ι' a W ∧ OkS S W ι' σ2.mem
 have w1sz : w.heap.size ≤ w1.heap.size := hg1.size
 have grow : ∀ {r : Loop} {σ2 : St} {ι2 : Pl} {a2 : Act} {W W' : World}, Sim w0 (Ur r) σ2 ι2 a2 W → GrowL w1.heap.size W W' → Sim w0 (Ur r) σ2 ι2 a2 W' := by
  intro r σ2 ι2 a2 W W' h hg
  refine h.growL (n := w1.heap.size) (by omega) hg rfl rfl ?_
  obtain ⟨⟨k1, k2⟩, k3, k4, _⟩ := h.keep
  have hltl := (Array.getElem?_eq_some_iff.1 k4).1
  refine ⟨⟨fun b hb hf => ?_, fun e => ?_⟩, k3, (hg.old hl1' hltl).trans k4, fun b hb => hb.elim⟩
  ·obtain ⟨q1, q2⟩ := k1 b hb hf
   exact ⟨q1, (hg.old (by omega) (by omega)).trans q2⟩
  ·obtain ⟨q1, q2⟩ := k2 e
   have h1 := (Array.getElem?_eq_some_iff.1 (hD1 e).2.2).1
   exact ⟨q1, (hg.old h1 (Array.getElem?_eq_some_iff.1 q2).1).trans q2⟩
 -- a turn of the record
 have turn : ∀ {r r' : Loop} {S : Nat → Prop} {Ws : World} {σ2 : St} {ι2 : Pl} {a2 : Act} {W : World}, Sim w0 (Us r S Ws) σ2 ι2 a2 W → (∀ b, S b → b ≠ l) → Sim w0 (Us r' S Ws) σ2 ι2 a2 (W.putObj l (.loop r')) := by
  intro r r' S Ws σ2 ι2 a2 W h hSl
  obtain ⟨⟨k1, k2⟩, k3, k4, k5⟩ := h.keep
  refine h.turn (.loop r') k4 rfl (by omega) rfl rfl ⟨⟨fun b hb hf => ?_, fun e => ?_⟩, k3, World.putObj_heap_same (Array.getElem?_eq_some_iff.1 k4).1, fun b hb => ⟨(k5 b hb).1, (k5 b hb).2.1, (World.putObj_heap_other (hSl b hb)).trans (k5 b hb).2.2⟩⟩
  ·obtain ⟨q1, q2⟩ := k1 b hb hf
   exact ⟨q1, (World.putObj_heap_other (by omega)).trans q2⟩
  ·obtain ⟨q1, q2⟩ := k2 e
   exact ⟨q1, (World.putObj_heap_other (hD1 e).2.1).trans q2⟩
 have final : ∀ {e' : AExit} {r r' : Loop} {mem : List (Nat × Box)} {nx : Nat} {ι2 : Pl} {W : World}, Sim w0 (Ur r) ⟨fr0, mem, nx, bs⟩ ι2 a W → Q e' ⟨fr0, mem, nx, σ.base⟩ →
   Post w0 U rd ds nt Q (toExit e') { sh ds a with defers := mark ++ (sh ds a).defers } (W.putObj l (.loop r')) := by
  intro e' r r' mem nx ι2 W h hq
  have h1 := turn (r' := r') h (fun _ hb => hb.elim)
  have hE : Sim w0 Ue ⟨fr0, mem, nx, σ.base⟩ ι2 a (W.putObj l (.loop r')) :=
   ⟨h1.val, h1.defers, h1.names, h1.box, h1.apart, h1.below, h1.keep.1, ⟨Nat.le_trans hb.1 h1.base.1, fun nm hnm => (h1.base.2 nm (Nat.lt_of_lt_of_le hnm hb.1)).trans (hs.base.2 nm hnm)⟩⟩
  have he : ({ sh ds a with defers := mark ++ (sh ds a).defers } : Act) = sh (mark ++ ds) a := by simp [sh, hs.defers.1]
  rw [he]
  rcases hmark with ⟨hn, hm⟩ | ⟨⟨l0, hl0'⟩, hm⟩
  ·refine ⟨e', _, ι2, Ue, mark ++ ds, a, rfl, hq, hE, hz, rfl, ?_⟩
   rw [hm]
   refine Ext.mark (U' := U) (D := D) .refl hn (by have := (hD1 hn).1; omega) rfl rfl fun W V h => ⟨stayU W V h, (h.2 hn).1, (h.2 hn).2, ?_⟩
   exact U.mono w _ _ V hs.keep (fun b hb hf => (h.1 b hb hf).1) (fun b hb hf => (World.putObj_heap_other (by have := (hD1 hn).1; omega)).trans (h.1 b hb hf).2)
  ·refine ⟨e', _, ι2, U, mark ++ ds, a, rfl, hq, ⟨hE.val, hE.defers, hE.names, hE.box, hE.apart, hE.below, stayU _ _ hE.keep, hE.base⟩, hz, rfl, ?_⟩
   rw [hm]
   exact .refl
 have rdRound : ∀ r S Ws, RdOk (Us r S Ws) (some l) := fun r S Ws l' e W V hG => by
  cases e
  exact ⟨_, hG.2.2.1⟩
 have weak : ∀ {r : Loop} {S : Nat → Prop} {Ws : World} {σ2 : St} {ι2 : Pl} {a2 : Act} {W : World}, Sim w0 (Us r S Ws) σ2 ι2 a2 W → Sim w0 (Ur r) σ2 ι2 a2 W := fun h =>
  ⟨h.val, h.defers, h.names, h.box, h.apart, h.below, ⟨h.keep.1, h.keep.2.1, h.keep.2.2.1, fun b hb => hb.elim⟩, h.base⟩
 have okGrow : ∀ {S : Nat → Prop} {W W' : World} {ι' : Pl} {mem : List (Nat × Box)} {Ub : Gh} {nx b0 : Nat} {fr : List (Nat × AV)} {a' : Act}, Ub.p = U.p → Sim w0 Ub ⟨fr, mem, nx, b0⟩ ι' a' W → w1.heap.size ≤ W.heap.size → W.heap.size ≤ W'.heap.size → OkS S W ι' mem → OkS (fun b => S b ∨ W.heap.size ≤ b ∧ b < W'.heap.size) W' ι' mem := by
  intro S W W' ι' mem Ub nx b0 fr a' hUp hS hw hg h b hb
  rcases hb with hb | ⟨h1, h2⟩
  ·exact ⟨Nat.lt_of_lt_of_le (h b hb).1 hg, (h b hb).2⟩
  ·exact ⟨h2, by omega, .inr (by omega), fun nm bx hn e => by have := ((hS.box nm bx hn).block e).2; omega⟩
 have sz : ∀ {r : Loop} {S : Nat → Prop} {Ws : World} {σ2 : St} {ι2 : Pl} {a2 : Act} {W : World}, Sim w0 (Us r S Ws) σ2 ι2 a2 W → w1.heap.size ≤ W.heap.size := fun h => by
  have := (Array.getElem?_eq_some_iff.1 h.keep.2.2.1).1
  omega
 refine callsFR ((hY.2 l (fun b => Free w0.heap.size U ι σ.mem b ∧ b < w.heap.size) J w1 cv (hs.glob.below (Nat.le_refl _) hg1) ?_ ⟨?_, ?_, ?_, ?_⟩ ?_).mono ?_)
 ·exact hpc.mono fun _ _ h => h.mono (fun b hb hf => ⟨hf, hb⟩) (fun b hb _ => hg1.block b hb) (fun _ _ => rfl) (Nat.le_refl _)
 ·intro k S W W' h hg
  cases k with
  | some k =>
   obtain ⟨t, ι', hI, h, hok⟩ := h
   exact ⟨t, ι', hI, grow h hg, okGrow (Ub := Ur rdy) rfl h (sz h) hg.size hok⟩
  | none =>
   obtain ⟨e, σ2, ι', hne, hq, h, hok⟩ := h
   exact ⟨e, σ2, ι', hne, hq, grow h hg, okGrow (Ub := Ur (rec .done (some (exitCode e)))) rfl h (sz h) hg.size hok⟩
 ·intro k S W h
  cases k with
  | some k =>
   obtain ⟨t, ι', hI, h, hok⟩ := h
   exact ⟨fun b hb => (hok b hb).1, sz h, h.glob⟩
  | none =>
   obtain ⟨e, σ2, ι', hne, hq, h, hok⟩ := h
   exact ⟨fun b hb => (hok b hb).1, sz h, h.glob⟩
 ·intro k S S' W h hsub
  cases k with
  | some k =>
   obtain ⟨t, ι', hI, h, hok⟩ := h
   exact ⟨t, ι', hI, h, fun b hb => hok b (hsub b hb)⟩
  | none =>
   obtain ⟨e, σ2, ι', hne, hq, h, hok⟩ := h
   exact ⟨e, σ2, ι', hne, hq, h, fun b hb => hok b (hsub b hb)⟩
 ·rintro k x S W us hx ⟨t, ι', hI, hsW, hok⟩ hus m
  obtain ⟨⟨k1, k2⟩, k3, k4, _⟩ := hsW.keep
  have hSl : ∀ b, S b → b ≠ l := fun b hb => (hok b hb).2.1
  have hxl := hlen x (List.mem_of_getElem? hx)
  have hul : us.size = ps'.size := by
   rw [← Array.length_toList, ← hus.length, hxl, Array.length_toList]
  have hy := run_yield (P := P) (args := us) k4 (by simp only [rdy, hrec']; exact hul)
  refine ⟨fn, _, asg', body', by simp only [rdy, hrec'] at hy; exact hy, roundIn_of_wpIn trivial ?_⟩
  have etm : (ps'.zip us).foldl (fun tmps (x : Nat × Value) => tmps.setIfInBounds x.1 x.2) a.tmps = (ps'.toList.zip us.toList).foldl (fun tmps (x : Nat × Value) => tmps.setIfInBounds x.1 x.2) a.tmps := by
   rw [← Array.foldl_toList, Array.toList_zip]
  have hus' : All2 (RepV W (Free w0.heap.size (Us rdy S W) ι' (mk k t).1) ι' (mk k t).2) x us.toList := hus.mono fun _ _ h => h.mono (fun b hlt h => (hok b h).2.2) (fun _ _ _ => rfl) (fun nm hnm => absurd hnm (Nat.not_lt_zero _)) (Nat.zero_le _)
  have hsr : Sim w0 (Us rdy S W) ⟨putL ps'.toList x fr0, (mk k t).1, (mk k t).2, bs⟩ ι' { tmps := (ps'.zip us).foldl (fun tmps (x : Nat × Value) => tmps.setIfInBounds x.1 x.2) a.tmps, defers := [] } W := by
   refine ⟨fun s => ?_, ⟨rfl, hsW.defers.2⟩, hsW.names, hsW.box, hsW.apart, hsW.below, ⟨hsW.keep.1, hsW.keep.2.1, hsW.keep.2.2.1, fun b hb => ⟨(hok b hb).1, (hok b hb).2.2, rfl⟩⟩, hsW.base⟩
   rw [etm]
   exact params_rep hus' (by rw [hz]; exact hps') hsW.val s
  have h1 := hround k x t hx hI _ hasg w0 (Us rdy S W) (some l) [] ι' _ W (rdRound _ _ _) hsr (by rw [etm, params_size]; exact hz)
  rw [sh_nil] at h1
  refine wpIn_mono (wpIn_room h1) ?_
  rintro e a1 W1 ⟨e', σ1, ι1, U', ds', a0, rfl, hq, hs1, hz1, rfl, hx1⟩
  obtain ⟨rfl, rfl⟩ := hx1.inRound
  rw [sh_nil]
  cases e' with
  | exit i => exact hq.elim
  | ret => exact hq.elim
  | normal =>
   have k4' := hs1.keep.2.2.1
   refine ⟨_, run_beginRound k4' (by simp only [rdy, hrec']), ?_⟩
   have hs2 := turn (r' := { rdy with state := .busy }) hs1 hSl
   have h3 := hq _ hbody w0 (Us { rdy with state := .busy } S W) (some l) [] ι1 a0 _ (rdRound _ _ _) hs2 hz1
   rw [sh_nil] at h3
   refine wpIn_mono (wpIn_room h3) ?_
   rintro e a2 W2 ⟨e', σ2, ι2, U', ds', a3, rfl, hq2, hs3, hz3, rfl, hx2⟩
   obtain ⟨rfl, rfl⟩ := hx2.inRound
   have k5 := hs3.keep.2.2.1
   have er : ∀ jump : Option Code, ({ ({ rdy with state := .busy } : Loop) with state := if jump.isNone then .ready else .done, pending := jump } : Loop) = rec (if jump.isNone then .ready else .done) jump := fun jump => by simp only [rdy, hrec']
   have hr := fun jump => run_endRound (P := P) jump k5
   simp only [er] at hr
   have kept : ∀ r' c, S c → (W2.putObj l (.loop r')).heap[c]? = W.heap[c]? := fun r' c hc => (World.putObj_heap_other (hSl c hc)).trans (hs3.keep.2.2.2 c hc).2.2
   have okS : ∀ {ι3 : Pl} {mem : List (Nat × Box)} {σ3 : St} {a3 : Act} {r r' : Loop}, Sim w0 (Us r S W) σ3 ι3 a3 (W2.putObj l (.loop r')) → σ3.mem = mem → OkS S (W2.putObj l (.loop r')) ι3 mem := by
    intro ι3 mem σ3 a3 r r' h e b hb
    subst e
    obtain ⟨q1, q2, q3⟩ := h.keep.2.2.2 b hb
    refine ⟨?_, hSl b hb, q2⟩
    have : W.heap[b]? = some W.heap[b] := by simp [q1]
    rw [this] at q3
    exact (Array.getElem?_eq_some_iff.1 q3).1
   cases e' with
   | normal =>
    obtain ⟨t', l', hI', hwk⟩ := hq2
    have h4 := turn (r' := rdy) hs3 hSl
    have h5 : Sim w0 (Us rdy S W) { σ2 with fr := [] } ι2 a3 (W2.putObj l (.loop rdy)) := ⟨fun _ => .top, h4.defers, h4.names, h4.box, h4.apart, h4.below, h4.keep, h4.base⟩
    have h6 := outer (h5.wk hwk) rfl
    exact ⟨_, _, hr none, true, rfl, ⟨t', _, hI', weak h6, okS h6 rfl⟩, kept _⟩
   | exit i =>
    obtain ⟨hbs, hq3⟩ := hq2
    have h6 := outer (turn (r' := rec .done (some (exitCode (.exit i)))) hs3 hSl) hbs
    exact ⟨_, _, hr (some (.exit i)), false, rfl, ⟨.exit i, σ2, ι2, (fun h => by cases h), hq3, weak h6, okS h6 rfl⟩, kept _⟩
   | ret =>
    obtain ⟨hbs, hq3⟩ := hq2
    have h6 := outer (turn (r' := rec .done (some (exitCode .ret))) hs3 hSl) hbs
    exact ⟨_, _, hr (some .ret), false, rfl, ⟨.ret, σ2, ι2, (fun h => by cases h), hq3, weak h6, okS h6 rfl⟩, kept _⟩
 ·obtain ⟨t0, l0, hI0, hwk0⟩ := h0
  have hs1 := hs.grow hg1
  have hfr : ∀ q, w.heap.size ≤ q → Free w0.heap.size U ι σ.mem q := fun q hq => ⟨.inr (by omega), fun nm bx hn e => by have := ((hs.box nm bx hn).block e).2; omega⟩
  have h2 : Sim w0 (Us rdy (fun b => Free w0.heap.size U ι σ.mem b ∧ b < w.heap.size) w1) ⟨[], σ.mem, σ.nx, bs⟩ ι a w1 := ⟨fun _ => .top, hs.defers, hs1.names, hs1.box, hs1.apart, hs1.below,
   ⟨⟨fun b hb hf => ⟨hf, hg1.block b hb⟩, fun e => ⟨hfr D (hD1 e).1, (hD1 e).2.2⟩⟩, hfr l hl0, hl1, fun b hb => ⟨by omega, hb.1, rfl⟩⟩, ⟨hb.2, fun _ _ => rfl⟩⟩
  have h3 := outer (h2.wk hwk0) rfl
  exact ⟨t0, _, hI0, weak h3, fun b hb => ⟨by omega, by omega, (h3.keep.2.2.2 b hb).2.1⟩⟩
 ·rintro e W3 ⟨⟨v, rfl⟩, k, S', hk, h⟩
  cases k with
  | some k =>
   obtain rfl : k = xs.length := by simpa using hk
   obtain ⟨t, ι', hI, hsim, _⟩ := h
   have k := hsim.keep.2.2.1
   have hr := run_endLoop (P := P) k (by simp only [rdy, hrec']; simp)
   exact ⟨_, _, hr, by simp only [rdy, hrec']; exact final (e' := .normal) hsim (hend t hI)⟩
  | none =>
   obtain ⟨e, σ2, ι', hne, hq, hsim, _⟩ := h
   have k := hsim.keep.2.2.1
   have hr := run_endLoop (P := P) k (by simp only [hrec']; simp)
   refine ⟨_, _, hr, ?_⟩
   simp only [hrec']
   cases e with
   | normal => exact absurd rfl hne
   | exit i => exact wpIn_exit (final (e' := .exit i) hsim hq)
   | ret => exact wpIn_ret (final (e' := .ret) hsim hq)
def asgR (P : Program) (nt : Nat) (body : ACode) (Q : AExit → St → Prop) : AExit → St → Prop
 | .normal, σ => runW P nt body σ Q
 | _, _ => False
theorem asgR_normal {body : ACode} {σ : St} {Q : AExit → St → Prop} : asgR P nt body Q .normal σ = runW P nt body σ Q := propext ⟨id, id⟩
theorem roundW_normal {τ : Type} {mk : Nat → τ → List (Nat × Box) × Nat} {I : Nat → τ → Prop} {bs : Nat} {fr0 : List (Nat × AV)} {base : Nat} {Q : AExit → St → Prop} {k : Nat} {σ : St} : roundW mk I bs fr0 base Q k .normal σ = ∃ t l, I (k + 1) t ∧ Wk l { σ with fr := [] } ⟨[], (mk (k + 1) t).1, (mk (k + 1) t).2, bs⟩ := propext ⟨id, id⟩
theorem roundW_exit {τ : Type} {mk : Nat → τ → List (Nat × Box) × Nat} {I : Nat → τ → Prop} {bs : Nat} {fr0 : List (Nat × AV)} {base : Nat} {Q : AExit → St → Prop} {k i : Nat} {σ : St} : roundW mk I bs fr0 base Q k (.exit i) σ = (σ.base = bs ∧ Q (.exit i) ⟨fr0, σ.mem, σ.nx, base⟩) := propext ⟨id, id⟩
theorem roundW_ret {τ : Type} {mk : Nat → τ → List (Nat × Box) × Nat} {I : Nat → τ → Prop} {bs : Nat} {fr0 : List (Nat × AV)} {base : Nat} {Q : AExit → St → Prop} {k : Nat} {σ : St} : roundW mk I bs fr0 base Q k .ret σ = (σ.base = bs ∧ Q .ret ⟨fr0, σ.mem, σ.nx, base⟩) := propext ⟨id, id⟩
attribute [go_sem ↓] asgR_normal roundW_normal roundW_exit roundW_ret
attribute [go_sem] putL
theorem AW_rangeR {fx : AX} {ps : List Nat} {asg body : ACode} {g : FuncId} {caps : List AC} {pcaps : List AV} {xs : List (List AV)} {τ : Type}
  (bs : Nat) (fr0 : List (Nat × AV)) (mk : Nat → τ → List (Nat × Box) × Nat) (I : Nat → τ → Prop)
  (hf : fx.ev σ.fr = .c (.clo g caps)) (hp : purVs σ.mem (caps.map .c) = some pcaps) (hnr : (caps.map AV.c).all norefV = true)
  (hY : YCalls P g pcaps xs) (hlen : ∀ x ∈ xs, x.length = ps.length) (hb : σ.base ≤ bs ∧ bs ≤ σ.nx) (hfr : wkF [] σ.fr bs fr0)
  (h0 : ∃ t l, I 0 t ∧ Wk l ⟨[], σ.mem, σ.nx, bs⟩ ⟨[], (mk 0 t).1, (mk 0 t).2, bs⟩)
  (hround : ∀ k x t, xs[k]? = some x → I k t → runW P nt asg ⟨putL ps x fr0, (mk k t).1, (mk k t).2, bs⟩ (asgR P nt body (roundW mk I bs fr0 σ.base Q k)))
  (hend : ∀ t, I xs.length t → Q .normal ⟨fr0, (mk xs.length t).1, (mk xs.length t).2, σ.base⟩) : AW P nt (.rangeF fx ps asg body) σ Q :=
 AW_rangeF bs fr0 mk I hf hp hnr hY hlen hb hfr h0 (fun k x t hx hI => (runW_sound (hround k x t hx hI)).mono fun e σ h => by
  cases e with
  | normal => exact runW_sound h
  | exit i => exact h
  | ret => exact h) hend
end
end Go.Abs
