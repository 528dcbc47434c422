/- The abstract machine: the walk of an iterator. -/
import Derived.Test.YtehjbfljenpfoaaAbs26
set_option linter.unusedVariables false
set_option linter.unusedSimpArgs false
namespace Go.Abs
open Go.RowKit

def yv (l : Nat) : AV := .c (.pure (.val (.func (.yield l) #[] #[])))

section
variable {P : Program}
theorem compGs_take {dr : Bool} {nt : Nat} {ops : Array Oper} : ∀ {l : List Oper} {gs : List AG} (n : Nat), compGs P dr nt ops l = some gs → compGs P dr nt ops (l.take n) = some (gs.take n) ∧ compGs P dr nt ops (l.drop n) = some (gs.drop n) ∧
  ∀ g, gs[n]? = some g → ∃ o, l[n]? = some o ∧ compG P dr nt ops o = some g
 |[], gs, n, h => by
  cases h
  simp [compGs]
 |o :: l, gs, n, h => by
  have h0 := h
  unfold compGs at h
  split at h
  ·rename_i g gs' h1 h2
   cases h
   cases n with
   | zero =>
    refine ⟨rfl, h0, fun g' hg => ?_⟩
    simp at hg
    subst hg
    exact ⟨o, rfl, h1⟩
   | succ n =>
    obtain ⟨k1, k2, k3⟩ := compGs_take n h2
    refine ⟨?_, k2, k3⟩
    simp only [List.take_succ_cons]
    unfold compGs
    rw [h1, k1]
  ·cases h
theorem wpListIn_append {rd : Option Nat} {n : Nat} {ops : Array Oper} {Q1 Q : Exit → Act → World → Prop} {l2 : List Oper} (hq : ∀ a w, Q1 .normal a w → wpListIn (FR rd) n P ops Q l2 a w) (hx : ∀ e a w, Q1 e a w → e = .normal) : ∀ {l1 : List Oper} {a : Act} {w : World},
  wpListIn (FR rd) n P ops Q1 l1 a w → wpListIn (FR rd) n P ops Q (l1 ++ l2) a w
 | [], a, w, h => hq a w h
 |o :: l1, a, w, h => by
  rw [List.cons_append]
  unfold wpListIn at h ⊢
  split at h
  ·rename_i hw
   rw [if_pos hw]
   obtain ⟨h1, h2⟩ := h
   refine ⟨h1, ?_⟩
   generalize (o.semAt (FR rd).round a.eval).run P w = r at h2
   cases r with
   | ok nx w' =>
    cases nx <;> simp only [Oper.uponIn] at h2 ⊢
    case value v => exact wpListIn_append hq hx h2
    case skip => exact wpListIn_append hq hx h2
    case defer d => exact wpListIn_append hq hx h2
    case enter f args =>
     refine ⟨h2.1, h2.2.mono fun e w'' h => ?_⟩
     cases e with
     | returned v => exact wpListIn_append hq hx h
     | panicked ch => exact absurd (hx _ _ _ h) (by simp)
     | outgrown => obtain ⟨_, _, h⟩ := h; exact absurd (hx _ _ _ h) (by simp)
    case row row args => exact ⟨h2.1, h2.2.mono fun v w'' h => wpListIn_append hq hx h⟩
    case round l f tmps asg body =>
     refine ⟨h2.1, h2.2.mono fun e w'' h => ?_⟩
     cases e with
     | returned v => exact wpListIn_append hq hx h
     | panicked ch => exact absurd (hx _ _ _ h) (by simp)
     | outgrown => obtain ⟨_, _, h⟩ := h; exact absurd (hx _ _ _ h) (by simp)
   | halt hh w' =>
    cases hh <;> simp only [Oper.uponIn] at h2 ⊢
    case panic v => exact absurd (hx _ _ _ h2) (by simp)
  ·rename_i hw
   rw [if_neg hw]
   exact ⟨h.1, wpListIn_append hq hx h.2⟩

def SY (S : Nat → Prop) (fr : List (Nat × AV)) (a : Act) (W : World) : Prop := (∀ t, RepV W S (fun _ => undef) 0 (look fr t) (a.tmps.getD t undef)) ∧ a.defers = []
def Kept (S : Nat → Prop) (W : World) (S' : Nat → Prop) (W' : World) : Prop := ∀ b, S b → S' b ∧ W'.heap[b]? = W.heap[b]?
theorem Kept.refl {S : Nat → Prop} {W : World} : Kept S W S W := fun _ h => ⟨h, rfl⟩
theorem Kept.trans {S S' S'' : Nat → Prop} {W W' W'' : World} (h : Kept S W S' W') (k : Kept S' W' S'' W'') : Kept S W S'' W'' := fun b hb => ⟨(k b (h b hb).1).1, (k b (h b hb).1).2.trans (h b hb).2⟩
theorem SY.kept {S S' : Nat → Prop} {fr : List (Nat × AV)} {a : Act} {W W' : World} (h : SY S fr a W) (k : Kept S W S' W') : SY S' fr a W' :=
 ⟨fun t => (h.1 t).mono (fun b _ hb => (k b hb).1) (fun b _ hb => (k b hb).2) (fun _ _ => rfl) (Nat.le_refl _), h.2⟩
def PostY (nt : Nat) (J : Option Nat → (Nat → Prop) → World → Prop) (S0 : Nat → Prop) (W0 : World) (Q : AExit → Option Nat → List (Nat × AV) → Prop) : Exit → Act → World → Prop := fun e a W =>
 ∃ e' k fr S, e = toExit e' ∧ Q e' k fr ∧ J k S W ∧ SY S fr a W ∧ a.tmps.size = nt ∧ Kept S0 W0 S W
theorem PostY.kept {nt : Nat} {J : Option Nat → (Nat → Prop) → World → Prop} {S0 S1 : Nat → Prop} {W0 W1 : World} {Q : AExit → Option Nat → List (Nat × AV) → Prop} {e : Exit} {a : Act} {W : World} (h : PostY nt J S1 W1 Q e a W) (k : Kept S0 W0 S1 W1) : PostY nt J S0 W0 Q e a W := by
 obtain ⟨e', k', fr, S, h1, h2, h3, h4, h5, h6⟩ := h
 exact ⟨e', k', fr, S, h1, h2, h3, h4, h5, k.trans h6⟩
theorem PostY.here {nt : Nat} {J : Option Nat → (Nat → Prop) → World → Prop} {S : Nat → Prop} {W : World} {Q : AExit → Option Nat → List (Nat × AV) → Prop} {e' : AExit} {k : Option Nat} {fr : List (Nat × AV)} {a : Act} (hq : Q e' k fr) (hJ : J k S W) (hs : SY S fr a W) (hz : a.tmps.size = nt) : PostY nt J S W Q (toExit e') a W :=
 ⟨e', k, fr, S, rfl, hq, hJ, hs, hz, .refl⟩
def AY (P : Program) (nt : Nat) (J : Option Nat → (Nat → Prop) → World → Prop) (c : ACode) (k : Option Nat) (fr : List (Nat × AV)) (Q : AExit → Option Nat → List (Nat × AV) → Prop) : Prop :=
 ∀ (c' : Code), compC P nt c' = some c → ∀ S a W, J k S W → SY S fr a W → a.tmps.size = nt → c'.wpIn (FR none) 0 P (PostY nt J S W Q) a W
end

section
variable {P : Program} {nt : Nat} {J : Option Nat → (Nat → Prop) → World → Prop} {k : Option Nat} {fr : List (Nat × AV)} {Q : AExit → Option Nat → List (Nat × AV) → Prop}
theorem AY_skip (h : Q .normal k fr) : AY P nt J .skip k fr Q := by
 intro c' hc S a W hJ hs hz
 cases c' <;> simp [compC] at hc
 ·exact wpIn_skip (PostY.here (e' := .normal) h hJ hs hz)
 all_goals (try (split at hc <;> simp at hc))
theorem AY_ret (h : Q .ret k fr) : AY P nt J .ret k fr Q := by
 intro c' hc S a W hJ hs hz
 cases c' <;> simp [compC] at hc
 all_goals (try (split at hc <;> simp at hc))
 exact wpIn_ret (PostY.here (e' := .ret) h hJ hs hz)
theorem AY_exit {id : Nat} (h : Q (.exit id) k fr) : AY P nt J (.exit id) k fr Q := by
 intro c' hc S a W hJ hs hz
 cases c' <;> simp [compC] at hc
 all_goals (try (split at hc <;> simp at hc))
 subst hc
 exact wpIn_exit (PostY.here (e' := .exit _) h hJ hs hz)
def thenY (P : Program) (nt : Nat) (J : Option Nat → (Nat → Prop) → World → Prop) (y : ACode) (Q : AExit → Option Nat → List (Nat × AV) → Prop) : AExit → Option Nat → List (Nat × AV) → Prop
 | .normal, k, fr => AY P nt J y k fr Q
 | .exit i, k, fr => Q (.exit i) k fr
 | .ret, k, fr => Q .ret k fr
theorem AY_seq {x y : ACode} (h : AY P nt J x k fr (thenY P nt J y Q)) : AY P nt J (.seq x y) k fr Q := by
 intro c' hc S a W hJ hs hz
 cases c' <;> simp [compC] at hc
 all_goals (try (split at hc <;> simp at hc))
 rename_i b1 b2 c1 c2 h1 h2
 obtain ⟨rfl, rfl⟩ := hc
 refine wpIn_seq (wpIn_mono (h _ h1 S a W hJ hs hz) ?_)
 rintro e a1 W1 ⟨e', k', fr', S', rfl, hq, hJ', hs', hz', hk⟩
 cases e' with
 | normal => exact wpIn_mono (hq _ h2 S' a1 W1 hJ' hs' hz') fun e a w h => h.kept hk
 | exit id => exact ⟨.exit id, k', fr', S', rfl, hq, hJ', hs', hz', hk⟩
 | ret => exact ⟨.ret, k', fr', S', rfl, hq, hJ', hs', hz', hk⟩
def blockY (id : Nat) (Q : AExit → Option Nat → List (Nat × AV) → Prop) : AExit → Option Nat → List (Nat × AV) → Prop
 | .normal, k, fr => Q .normal k fr
 | .exit i, k, fr => if i = id then Q .normal k fr else Q (.exit i) k fr
 | .ret, k, fr => Q .ret k fr
theorem AY_block {x : ACode} {id : Nat} (h : AY P nt J x k fr (blockY id Q)) : AY P nt J (.block id x) k fr Q := by
 intro c' hc S a W hJ hs hz
 cases c' <;> simp [compC] at hc
 all_goals (try (split at hc <;> simp at hc))
 rename_i i1 c1
 obtain ⟨rfl, h1⟩ : i1 = id ∧ compC P nt c1 = some x := by simp_all
 refine wpIn_block (wpIn_mono (h _ h1 S a W hJ hs hz) ?_)
 rintro e a1 W1 ⟨e', k', fr', S', rfl, hq, hJ', hs', hz', hk⟩
 cases e' with
 | normal => exact ⟨.normal, k', fr', S', rfl, hq, hJ', hs', hz', hk⟩
 | exit i =>
  simp only [blockY] at hq
  by_cases hi : i = i1
  ·rw [if_pos hi] at hq
   simp only [toExit, Exit.inBlock, if_pos hi]
   exact ⟨.normal, k', fr', S', rfl, hq, hJ', hs', hz', hk⟩
  ·rw [if_neg hi] at hq
   simp only [toExit, Exit.inBlock, if_neg hi]
   exact ⟨.exit i, k', fr', S', rfl, hq, hJ', hs', hz', hk⟩
 | ret => exact ⟨.ret, k', fr', S', rfl, hq, hJ', hs', hz', hk⟩
theorem lt_same {W W1 : World} {b : Nat} (hl : b < W.heap.size) (h : W1.heap[b]? = W.heap[b]?) : b < W1.heap.size := by
 have : W.heap[b]? = some W.heap[b] := by simp [hl]
 rw [this] at h
 exact (Array.getElem?_eq_some_iff.1 h).1
def GhS (S : Nat → Prop) (W : World) (hlt : ∀ b, S b → b < W.heap.size) : Gh := ⟨S, fun _ => undef, fun W' V => ∀ b, S b → V b ∧ W'.heap[b]? = W.heap[b]?, fun W1 W2 V1 V2 h hV hw b hb => by
 obtain ⟨h1, h2⟩ := h b hb
 have hl := lt_same (hlt b hb) h2
 exact ⟨hV b hl h1, (hw b hl h1).trans h2⟩⟩
theorem SY.sim {S : Nat → Prop} {a : Act} {W : World} (hs : SY S fr a W) (hlt : ∀ b, S b → b < W.heap.size) (hG : Glob W) : Sim W (GhS S W hlt) ⟨fr, [], 0, 0⟩ (fun _ => undef) a W := by
 have hf : ∀ b, S b → Free W.heap.size (GhS S W hlt) (fun _ => undef) [] b := fun b hb => ⟨.inl hb, fun nm bx hn => by cases hn⟩
 exact ⟨fun t => (hs.1 t).mono (fun b _ h => hf b h) (fun _ _ _ => rfl) (fun _ _ => rfl) (Nat.le_refl _), ⟨hs.2, hG⟩, (fun nm bx hn => by cases hn), (fun nm bx hn => by cases hn), (fun nm nm' b1 b2 b hn => by cases hn), Below.refl _ _, fun b hb => ⟨hf b hb, rfl⟩, ⟨Nat.le_refl _, fun _ h => absurd h (Nat.not_lt_zero _)⟩⟩
def wkY (σ : St) : List (Nat × AV) → Prop
 | [] => True
 | (t, v) :: r => (look σ.fr t = v ∨ v = .top ∨ purV σ.mem (look σ.fr t) = some v) ∧ clV 0 v ∧ wkY σ r
theorem renV_nil {v : AV} : renV [] v = v := by
 have hC : ∀ x : AC, renC [] x = x := fun x => by cases x <;> rfl
 have hA : ∀ x : AC, renA [] x = x := fun x => by cases x <;> simp [renA, rn, List.map_congr_left (fun y _ => hC y)]
 cases v <;> simp [renV, hA, List.map_congr_left (fun y _ => hA y)]
theorem wkY_look {σ : St} {fr' : List (Nat × AV)} (h : wkY σ fr') (t : Nat) : (look σ.fr t = look fr' t ∨ look fr' t = .top ∨ purV σ.mem (look σ.fr t) = some (look fr' t)) ∧ clV 0 (look fr' t) := by
 induction fr' with
 | nil => exact ⟨.inr (.inl rfl), trivial⟩
 | cons x r ih =>
  obtain ⟨k, v⟩ := x
  obtain ⟨h1, h2, h3⟩ := h
  rw [look_put]
  by_cases e : k = t
  ·subst e
   rw [if_pos rfl]
   exact ⟨h1, h2⟩
  ·rw [if_neg e]
   exact ih h3
theorem SY.back {S : Nat → Prop} {W W' : World} {hlt : ∀ b, S b → b < W.heap.size} {σ : St} {ι : Pl} {a : Act} {fr' : List (Nat × AV)} (hs : Sim W (GhS S W hlt) σ ι a W') (hw : wkY σ fr') : SY (fun b => S b ∨ W.heap.size ≤ b ∧ b < W'.heap.size) fr' a W' := by
 refine ⟨fun t => ?_, hs.defers.1⟩
 obtain ⟨h1, h2⟩ := wkY_look hw t
 rcases h1 with h1 | h1 | h1
 ·have := hs.val t
  rw [h1] at this
  have h3 := (show RepV W' (Free W.heap.size (GhS S W hlt) ι σ.mem) ι σ.nx (renV [] (look fr' t)) _ by rw [renV_nil]; exact this).cl (V' := fun b => S b ∨ W.heap.size ≤ b) (fun b h => h.1) h2
  exact h3.mono (fun b hl h => h.imp id fun h => ⟨h, hl⟩) (fun _ _ _ => rfl) (fun nm h => absurd h (Nat.not_lt_zero _)) (Nat.le_refl _)
 ·rw [h1]; exact .top
 ·have h3 := purV_rep (V := fun b => S b ∨ W.heap.size ≤ b) hs (hs.val t) h1 (fun b h => h.1) (.inr fun b h => .inr h)
  exact h3.mono (fun b hl h => h.imp id fun h => ⟨h, hl⟩) (fun _ _ _ => rfl) (fun _ _ => rfl) (Nat.le_refl _)
theorem kept_back {S : Nat → Prop} {W W' : World} {hlt : ∀ b, S b → b < W.heap.size} {σ : St} {ι : Pl} {a : Act} (hs : Sim W (GhS S W hlt) σ ι a W') : Kept S W (fun b => S b ∨ W.heap.size ≤ b ∧ b < W'.heap.size) W' :=
 fun b hb => ⟨.inl hb, (hs.keep b hb).2⟩
theorem AY_cond {c : AX} {x y : ACode} {t : Bool} (hc : c.ev fr = .c (.pure (.val (.bool t)))) (h1 : t = true → AY P nt J x k fr Q) (h2 : t = false → AY P nt J y k fr Q) (hlt : ∀ k S W, J k S W → (∀ b, S b → b < W.heap.size) ∧ Glob W) : AY P nt J (.cond c x y) k fr Q := by
 intro c' hc' S a W hJ hs hz
 cases c' <;> simp [compC] at hc'
 all_goals (try (split at hc' <;> simp at hc'))
 rename_i o b1 b2 _ _ _ x1 x2 x3 g1 g2 g3
 obtain ⟨rfl, rfl, rfl⟩ := hc'
 have hsim := hs.sim (hlt _ _ _ hJ).1 (hlt _ _ _ hJ).2
 have r1 := compX_rep g1 hsim
 rw [hc] at r1
 have ho := (repV_val r1).1
 cases t with
 | true => exact wpIn_cond_true ho (h1 rfl _ g2 S a W hJ hs hz)
 | false => exact wpIn_cond_false ho (h2 rfl _ g3 S a W hJ hs hz)
def loopY {τ : Type} (mk : τ → Option Nat × List (Nat × AV)) (I : τ → Prop) (μ : τ → Nat) (t : τ) (Q : AExit → Option Nat → List (Nat × AV) → Prop) : AExit → Option Nat → List (Nat × AV) → Prop
 | .normal, k, fr => ∃ t', I t' ∧ μ t' < μ t ∧ (mk t').1 = k ∧ wkF [] fr 0 (mk t').2
 | .exit i, k, fr => Q (.exit i) k fr
 | .ret, k, fr => Q .ret k fr
theorem SY.wk {S : Nat → Prop} {a : Act} {W : World} {fr' : List (Nat × AV)} (hs : SY S fr a W) (h : wkF [] fr 0 fr') : SY S fr' a W := by
 refine ⟨fun t => ?_, hs.2⟩
 obtain ⟨h1, h2⟩ := wkF_look h t
 rcases h1 with h1 | h1
 ·have := hs.1 t
  rw [h1] at this
  exact this.cl (fun _ h => h) h2
 ·rw [h1]; exact .top
theorem AY_loop {τ : Type} {x : ACode} (mk : τ → Option Nat × List (Nat × AV)) (I : τ → Prop) (μ : τ → Nat) (h0 : ∃ t, I t ∧ (mk t).1 = k ∧ wkF [] fr 0 (mk t).2) (h : ∀ t, I t → AY P nt J x (mk t).1 (mk t).2 (loopY mk I μ t Q)) : AY P nt J (.loop x) k fr Q := by
 intro c' hc S a W hJ hs hz
 cases c' <;> simp [compC] at hc
 all_goals (try (split at hc <;> simp at hc))
 rename_i c1
 obtain ⟨t, ht, rfl, hw⟩ := h0
 refine wpIn_loop_rounds (μ t + 1) ?_
 have key : ∀ n t S1 a1 W1, μ t < n → I t → J (mk t).1 S1 W1 → SY S1 (mk t).2 a1 W1 → a1.tmps.size = nt → Kept S W S1 W1 → Code.roundsIn (FR none) 0 P c1 (PostY nt J S W Q) n a1 W1 := by
  intro n
  induction n with
  | zero => intro t S1 a1 W1 hm; omega
  | succ n ih =>
   intro t S1 a1 W1 hm ht hJ1 hs1 hz1 hk1
   rw [roundsIn_succ]
   refine wpIn_mono (h t ht _ hc S1 a1 W1 hJ1 hs1 hz1) ?_
   rintro e a2 W2 ⟨e', k', fr', S', rfl, hq, hJ', hs', hz', hk⟩
   cases e' with
   | normal =>
    obtain ⟨t', ht', hlt, rfl, hwk⟩ := hq
    exact ih t' S' a2 W2 (by omega) ht' hJ' (hs'.wk hwk) hz' (hk1.trans hk)
   | exit i => exact ⟨.exit i, k', fr', S', rfl, hq, hJ', hs', hz', hk1.trans hk⟩
   | ret => exact ⟨.ret, k', fr', S', rfl, hq, hJ', hs', hz', hk1.trans hk⟩
 exact key _ t S a W (Nat.lt_succ_self _) ht hJ (hs.wk hw) hz .refl

def StepY (P : Program) (J : Option Nat → (Nat → Prop) → World → Prop) (f : AV) (args : List AV) (k : Option Nat) (R : AV → Option Nat → Prop) : Prop :=
 ∀ S W fv us, J k S W → RepV W S (fun _ => undef) 0 f fv → All2 (RepV W S (fun _ => undef) 0) args us → ∀ (o : Oper) (a : Act) (c : Call) (fo : Operand) (next : Act → World → Prop) (Q : Exit → Act → World → Prop), o.op = .call c → c.callee = .value fo → a.eval fo = fv → (c.args.map a.eval).toList = us →
  (∀ v res k' S' W', R res k' → RepV W' S' (fun _ => undef) 0 res v → J k' S' W' → Kept S W S' W' → next (a.put o.dst v) W') → o.wpIn (FR none) 0 P a W next Q
theorem AY_region {gs : List AG} (hJ : ∀ k S W, J k S W → (∀ b, S b → b < W.heap.size) ∧ Glob W) (hg : ∀ k S W W', J k S W → Below W.heap.size W W' → J k (fun b => S b ∨ W.heap.size ≤ b ∧ b < W'.heap.size) W')
  (h : opsW P gs ⟨fr, [], 0, 0⟩ (fun σ' => ∃ fr', wkY σ' fr' ∧ Q .normal k fr')) : AY P nt J (.region gs false) k fr Q := by
 intro c' hc S a W hj hs hz
 cases c' <;> simp [compC] at hc
 all_goals (try (split at hc <;> simp at hc))
 rename_i id ops dr
 obtain ⟨g1, h1, hgs⟩ := hc
 cases dr with
 | false =>
  simp [regX] at hgs
  subst hgs
  have hsim := hs.sim (hJ _ _ _ hj).1 (hJ _ _ _ hj).2
  have := list_in (rd := none) (ds := []) (n := 0) (post_out (nt := nt) (w0 := W) (U := GhS S W (hJ _ _ _ hj).1) (Q := fun e σ' => ∃ fr', wkY σ' fr' ∧ Q .normal k fr')) (compGs_ops h1) (ops_sound h1 h hsim hz fun σ' ι' a' w' hq hs' hz' => ⟨σ', ι', rfl, hq, hs', hz'⟩)
  rw [sh_nil] at this
  refine wpIn_mono (wpIn_region_list this) ?_
  rintro e a1 W1 ⟨a0, rfl, σ', ι', rfl, ⟨fr', hw, hq⟩, hs', hz'⟩
  rw [sh_nil]
  exact ⟨.normal, k, fr', _, rfl, hq, hg _ _ _ _ hj hs'.below, SY.back hs' hw, hz', kept_back hs'⟩
 | true =>
  simp only [regX, if_true] at hgs
  rcases compDraw_cases (P := P) (ops := ops.toList) (gs := g1) with ⟨x, e⟩ | e <;> rw [e] at hgs <;> simp at hgs

theorem compOp_call {dr : Bool} {op : Op} {gg z : Bool} {fx : AX} {args : List AX} (h : compOp P dr op = some (.call gg z fx args)) : ∃ c fo, op = .call c ∧ c.callee = .value fo ∧ compX fo = some fx ∧ compXs c.args.toList = some args := by
 unfold compOp at h
 split at h
 case h_28 =>
  rename_i f as _
  split at h
  ·rename_i y xs h1 h2
   cases h
   exact ⟨_, f, rfl, rfl, h1, h2⟩
  ·cases h
 all_goals exfalso
 all_goals (try (simp at h; done))
 all_goals (try ((repeat' split at h) <;> first | (cases h; done) | (obtain ⟨_, _, e⟩ := Option.map_eq_some_iff.1 h; cases e; done) | (simp at h; done)))
theorem AY_op {gs : List AG} (n : Nat) {dst : Option Nat} {gg z : Bool} {fx : AX} {args : List AX} (hn : gs[n]? = some ⟨dst, none, .call gg z fx args⟩) (hJ : ∀ k S W, J k S W → (∀ b, S b → b < W.heap.size) ∧ Glob W)
  (hg : ∀ k S W W', J k S W → Below W.heap.size W W' → J k (fun b => S b ∨ W.heap.size ≤ b ∧ b < W'.heap.size) W')
  (h : opsW P (gs.take n) ⟨fr, [], 0, 0⟩ (fun σ1 => ∃ fr1, wkY σ1 fr1 ∧ ∃ R, StepY P J (fx.ev fr1) (args.map (·.ev fr1)) k R ∧
   ∀ res k', R res k' → opsW P (gs.drop (n + 1)) ((⟨fr1, [], 0, 0⟩ : St).put dst res) (fun σ2 => ∃ fr2, wkY σ2 fr2 ∧ Q .normal k' fr2))) : AY P nt J (.region gs false) k fr Q := by
 intro c' hc S a W hj hs hz
 cases c' <;> simp [compC] at hc
 all_goals (try (split at hc <;> simp at hc))
 rename_i id ops dr
 obtain ⟨g1, h1, hgs⟩ := hc
 cases dr with
 | true =>
  simp only [regX, if_true] at hgs
  rcases compDraw_cases (P := P) (ops := ops.toList) (gs := g1) with ⟨x, e⟩ | e <;> rw [e] at hgs <;> simp at hgs
 | false =>
  simp [regX] at hgs
  subst hgs
  have hsim := hs.sim (hJ _ _ _ hj).1 (hJ _ _ _ hj).2
  obtain ⟨c1, _, c3⟩ := compGs_take n h1
  obtain ⟨_, c2, _⟩ := compGs_take (n + 1) h1
  obtain ⟨o, ho, hog⟩ := c3 _ hn
  have hsplit : ops.toList = ops.toList.take n ++ (o :: ops.toList.drop (n + 1)) := by
   have hlt := (List.getElem?_eq_some_iff.1 ho).1
   have he := (List.getElem?_eq_some_iff.1 ho).2
   rw [← he, ← List.drop_eq_getElem_cons hlt, List.take_append_drop]
  -- the operation
  have hd := compG_op hog
  unfold compG at hog
  by_cases hdst : fitD nt o.dst = false
  ·rw [if_pos hdst] at hog; cases hog
  rw [if_neg hdst] at hog
  split at hog
  ·rename_i ao hao
   have hgd : o.guard = none ∧ o.dst = dst ∧ ao = .call gg z fx args := by
    cases hgu : o.guard with
    | none =>
     rw [hgu] at hog
     cases hog
     exact ⟨rfl, rfl, rfl⟩
    | some q =>
     rw [hgu] at hog
     dsimp only at hog
     split at hog
     ·cases hog
     ·cases hog
   obtain ⟨hgu, rfl, rfl⟩ := hgd
   have hdt : ∀ t, o.dst = some t → t < nt := by
    intro t ht
    rw [ht] at hdst
    simpa [fitD] using hdst
   obtain ⟨c, fo, hcall, hcallee, hfx, hargs⟩ := compOp_call hao
   refine wpIn_region_list ?_
   rw [hsplit]
   have h3 := list_in (rd := none) (ds := []) (n := 0) (ops := ops) (post_out (nt := nt) (w0 := W) (U := GhS S W (hJ _ _ _ hj).1) (Q := fun e σ1 => ∃ fr1, wkY σ1 fr1 ∧ ∃ R, StepY P J (fx.ev fr1) (args.map (·.ev fr1)) k R ∧
    ∀ res k', R res k' → opsW P (g1.drop (n + 1)) ((⟨fr1, [], 0, 0⟩ : St).put o.dst res) (fun σ2 => ∃ fr2, wkY σ2 fr2 ∧ Q .normal k' fr2))) (compGs_ops c1) (ops_sound c1 h hsim hz fun σ' ι' a' w' hq hs' hz' => ⟨σ', ι', rfl, hq, hs', hz'⟩)
   rw [sh_nil] at h3
   refine wpListIn_append ?_ ?_ h3
   ·rintro a1 W1 ⟨a0, rfl, σ1, ι1, _, ⟨fr1, hw1, R, hstep, hrest⟩, hs1, hz1⟩
    rw [sh_nil]
    have hj1 := hg _ _ _ _ hj hs1.below
    have hy1 := SY.back hs1 hw1
    have hk1 := kept_back hs1
    generalize (fun b => S b ∨ W.heap.size ≤ b ∧ b < W1.heap.size) = S1 at hj1 hy1 hk1
    have hsim1 := hy1.sim (hJ _ _ _ hj1).1 (hJ _ _ _ hj1).2
    -- the value that is called and its arguments
    have ev : ∀ {x : Operand} {y : AX}, compX x = some y → RepV W1 S1 (fun _ => undef) 0 (y.ev fr1) (a0.eval x) := by
     intro x y hx
     have := compX_rep hx hsim1
     exact this.mono (fun b hlt h => by
      rcases h.1 with h | h
      ·exact h
      ·omega) (fun _ _ _ => rfl) (fun _ _ => rfl) (Nat.le_refl _)
    have evs : ∀ {l : List Operand} {ys : List AX}, compXs l = some ys → All2 (RepV W1 S1 (fun _ => undef) 0) (ys.map (·.ev fr1)) (l.map a0.eval) := by
     intro l
     induction l with
     | nil => intro ys h; cases h; exact .nil
     | cons x l ih =>
      intro ys h
      unfold compXs at h
      split at h
      ·rename_i y ys' h1 h2
       cases h
       exact .cons (ev h1) (ih h2)
      ·cases h
    show wpListIn (FR none) 0 P ops _ (o :: ops.toList.drop (n + 1)) a0 W1
    unfold wpListIn
    rw [if_pos (by simp [Region.wanted, hgu])]
    refine hstep S1 W1 _ _ hj1 (ev hfx) (evs hargs) o a0 c fo _ _ hcall hcallee rfl (by simp) ?_
    intro v res k' S' W' hR hres hj2 hk2
    have hy2 := hy1.kept hk2
    have hy3 : SY S' ((⟨fr1, [], 0, 0⟩ : St).put o.dst res).fr (a0.put o.dst v) W' := by
     cases hdo : o.dst with
     | none => exact hy2
     | some t =>
      refine ⟨fun s => ?_, hy2.2⟩
      have hlt : t < a0.tmps.size := by rw [hz1]; exact hdt t hdo
      show RepV _ _ _ _ (look ((t, res) :: fr1) s) _
      rw [look_put]
      by_cases e : t = s
      ·subst e
       rw [if_pos rfl]
       have : (a0.put (some t) v).tmps.getD t undef = v := by simp [Act.put, Array.getD_eq_getD_getElem?, hlt]
       rw [this]
       exact hres
      ·rw [if_neg e]
       have : (a0.put (some t) v).tmps.getD s undef = a0.tmps.getD s undef := by simp [Act.put, Array.getD_eq_getD_getElem?, Array.getElem?_setIfInBounds, e]
       rw [this]
       exact hy2.1 s
    have hsim3 := hy3.sim (hJ _ _ _ hj2).1 (hJ _ _ _ hj2).2
    have hst : ((⟨fr1, [], 0, 0⟩ : St).put o.dst res) = ⟨((⟨fr1, [], 0, 0⟩ : St).put o.dst res).fr, [], 0, 0⟩ := by cases o.dst <;> rfl
    have h4 := hrest res k' hR
    rw [hst] at h4
    have h5 := list_in (rd := none) (ds := []) (n := 0) (ops := ops) (post_out (nt := nt) (w0 := W') (U := GhS S' W' (hJ _ _ _ hj2).1) (Q := fun e σ2 => ∃ fr2, wkY σ2 fr2 ∧ Q .normal k' fr2)) (compGs_ops c2) (ops_sound c2 h4 hsim3 (by rw [size_put]; exact hz1) fun σ' ι' a' w' hq hs' hz' => ⟨σ', ι', rfl, hq, hs', hz'⟩)
    rw [sh_nil] at h5
    have h6 := wpListIn_append (Q := PostY nt J S W Q) (l2 := []) ?_ ?_ h5
    ·rw [List.append_nil] at h6
     exact h6
    ·rintro a2 W2 ⟨a3, rfl, σ2, ι2, _, ⟨fr2, hw2, hq2⟩, hs2, hz2⟩
     rw [sh_nil]
     exact ⟨.normal, k', fr2, _, rfl, hq2, hg _ _ _ _ hj2 hs2.below, SY.back hs2 hw2, hz2, (hk1.trans hk2).trans (kept_back hs2)⟩
    ·rintro e a2 W2 ⟨a3, rfl, σ2, ι2, e2, _⟩
     exact e2
   ·rintro e a1 W1 ⟨a0, rfl, σ1, ι1, e2, _⟩
    exact e2
  ·cases hog

theorem stepY_yield {l : Nat} {w : World} {xs : List (List AV)} {args : List AV} {k : Nat} (hJ : YSpec P l w xs J) (hx : xs[k]? = some args) :
  StepY P J (yv l) args (some k) (fun res k' => ∃ b : Bool, res = .c (.pure (.val (.bool b))) ∧ k' = if b = true then some (k + 1) else none) := by
 intro S W fv us hj hf hus o a c fo next Q ho hc hfo hargs hnext
 obtain ⟨rfl, _⟩ := repV_val hf
 obtain ⟨fn, tmps, asg, body, hy, hR⟩ := hJ.round k args S W us.toArray hx hj (by simpa using hus) 0
 refine ⟨fun _ _ => trivial, ?_⟩
 rw [Oper.semAt_eq _ _ _ (by rw [ho]; intro c e; cases e)]
 have hexec : (execOp a.eval o).run P W = .ok (.round l fn tmps asg body) W := by
  have e : c.args.map a.eval = us.toArray := by rw [← hargs]
  simp [execOp, ho, resolve, hc, hfo, Deferred.ofValue, invoke, e, hy]
 rw [hexec, Oper.uponIn_round]
 refine ⟨by simp [FR, Fence.wide], hR.mono ?_⟩
 rintro e W' ⟨b, rfl, hj', hk⟩
 exact hnext (.bool b) _ _ S W' ⟨b, rfl, rfl⟩ (.c (.pure (.val rfl))) hj' fun b hb => ⟨hb, hk b hb⟩
def IYCalls (P : Program) (J : Option Nat → (Nat → Prop) → World → Prop) (f : FuncId) (args : List AV) (k : Option Nat) (R : AV → Option Nat → Prop) : Prop :=
 FnThere P f ∧ ∀ (S : Nat → Prop) (W : World) (us : Array Value), J k S W → All2 (RepV W S (fun _ => undef) 0) args us.toList →
  Calls P f us W fun e W' => ∃ v res k' S', e = .returned v ∧ R res k' ∧ RepV W' S' (fun _ => undef) 0 res v ∧ J k' S' W' ∧ Kept S W S' W'
theorem stepY_call {f : FuncId} {args : List AV} {R : AV → Option Nat → Prop} (h : IYCalls P J f args k R) : StepY P J (.c (.clo f [])) args k R := by
 intro S W fv us hj hf hus o a c fo next Q ho hc hfo hargs hnext
 obtain rfl : fv = .func (.func f) #[] #[] := by
  cases hf with
  | c hf =>
   cases hf with
   | @clo _ _ vs hl _ =>
    have : vs = #[] := Array.eq_empty_of_size_eq_zero (by simpa using hl.symm)
    rw [this]
 obtain ⟨⟨fn, hfn, hbody, hname⟩, hcall⟩ := h
 have hb : ¬ fn.body = none := by intro e; rw [e] at hbody; cases hbody
 have hname' : ¬ fn.name = "runtime.NumGoroutine" := by intro e; rw [e] at hname; simp at hname
 refine ⟨fun _ _ => trivial, ?_⟩
 rw [Oper.semAt_eq _ _ _ (by rw [ho]; intro c e; cases e)]
 have hexec : (execOp a.eval o).run P W = .ok (.enter f us.toArray) W := by
  have e : c.args.map a.eval = us.toArray := by rw [← hargs]
  simp [execOp, ho, resolve, hc, hfo, Deferred.ofValue, invoke, callFunc, hfn, hname', hb, e]
 rw [hexec, Oper.uponIn_enter]
 refine ⟨by simp [FR, Fence.wide], callsFR ((hcall S W us.toArray hj (by simpa using hus)).mono ?_)⟩
 rintro e W' ⟨v, res, k', S', rfl, hR, hres, hj', hk⟩
 exact hnext v res k' S' W' hR hres hj' hk
def retY (rs : List AR) (R : AV → Option Nat → Prop) : AExit → Option Nat → List (Nat × AV) → Prop
 | .exit _, _, _ => False
 | .ret, k, fr => resW ⟨fr, [], 0, 0⟩ rs [] fun vs => R (packV vs) k
 | .normal, k, fr => resW ⟨fr, [], 0, 0⟩ rs [] fun vs => R (packV vs) k
theorem IYCalls.of {f : FuncId} {body : ACode} {rs : List AR} {args : List AV} {R : AV → Option Nat → Prop} (hJ : ∀ k S W, J k S W → (∀ b, S b → b < W.heap.size) ∧ Glob W) (hf : FnIs P f nt body rs) (hlen : args.length ≤ nt)
  (h : bndVs args → AY P nt J body k (argsFr args 0) (retY rs R)) : IYCalls P J f args k R := by
 obtain ⟨fn, c, h1, h2, h3, rfl, h5, h6⟩ := hf.is
 refine ⟨⟨fn, h1, by rw [h2]; rfl, h3⟩, fun S W vs hj hargs => ?_⟩
 have hsz : vs.size = args.length := by rw [← Array.length_toList]; exact hargs.length.symm
 have hs : SY S (argsFr args 0) { tmps := vs ++ Array.replicate (fn.ntmps - vs.size) undef, defers := [] } W := by
  refine ⟨fun t => ?_, rfl⟩
  rcases look_args (vs := vs.toList) (k := 0) hargs t with h | h
  ·by_cases hlt : t < vs.size
   ·have e : (vs ++ Array.replicate (fn.ntmps - vs.size) undef).getD t undef = (vs.toList[t - 0]?).getD undef := by
     simp [Array.getD_eq_getD_getElem?, Array.getElem?_append, hlt]
    rw [e]
    exact h
   ·have : look (argsFr args 0) t = .top := by
     have key : ∀ (l : List AV) (j : Nat), j + l.length ≤ t → look (argsFr l j) t = .top := by
      intro l
      induction l with
      | nil => intro j _; rfl
      | cons x l ih =>
       intro j hj
       simp only [List.length_cons] at hj
       show (if j = t then x else look (argsFr l (j + 1)) t) = _
       rw [if_neg (by omega)]
       exact ih _ (by omega)
     exact key args 0 (by omega)
    rw [this]
    exact .top
  ·rw [h]
   exact .top
 have hsize : (vs ++ Array.replicate (fn.ntmps - vs.size) undef).size = fn.ntmps := by simp; omega
 refine (callsIn_wide (n := 0)).1 (callsIn_of_wp h1 h2 trivial (wpIn_mono (h (bnds_rep hargs) c h5 S _ W hj hs hsize) ?_))
 have fin : ∀ {a' : Act} {W' : World} {fr' : List (Nat × AV)} {k' : Option Nat} {S' : Nat → Prop}, resW ⟨fr', [], 0, 0⟩ rs [] (fun vs => R (packV vs) k') → J k' S' W' → SY S' fr' a' W' → Kept S W S' W' → a'.defers = [] ∧ ∃ v, (results fn a'.tmps).run P W' = .ok v W' ∧ ∃ v' res k' S', Ending.returned v = .returned v' ∧ R res k' ∧ RepV W' S' (fun _ => undef) 0 res v' ∧ J k' S' W' ∧ Kept S W S' W' := by
  intro a' W' fr' k' S' hres hj' hs' hk
  obtain ⟨vs', us', g1, g2, g3⟩ := res_sound (hs'.sim (hJ _ _ _ hj').1 (hJ _ _ _ hj').2) (us := []) h6 hres .nil
  refine ⟨hs'.2, (if h : us'.toArray.size = 1 then us'.toArray[0] else .tuple us'.toArray), ?_, _, _, k', S', rfl, g3, ?_, hj', hk⟩
  ·rw [results_eq, Array.mapM_eq_mapM_toList]
   simp [g2]
  ·have := pack_rep (by simpa using g1)
   exact this.mono (fun b hlt h => by
    rcases h.1 with h | h
    ·exact h
    ·omega) (fun _ _ _ => rfl) (fun _ _ => rfl) (Nat.le_refl _)
 rintro e a' W' ⟨e', k', fr', S', rfl, hq, hj', hs', hsz', hk⟩
 cases e' with
 | normal => exact fin hq hj' hs' hk
 | exit i => exact hq.elim
 | ret => exact fin hq hj' hs' hk
theorem YCalls.of {f : FuncId} {args : List AV} {xs : List (List AV)} (hf : FnThere P f) (h : ∀ (l : Nat) (w : World) (J' : Option Nat → (Nat → Prop) → World → Prop), YSpec P l w xs J' → IYCalls P J' f (yv l :: args) (some 0) (fun _ k' => k' = some xs.length ∨ k' = none)) : YCalls P f args xs := by
 refine ⟨hf, ?_⟩
 intro l S J' w vs hG hargs hJ h0
 have h1 := (h l w J' hJ).2 S w (#[.func (.yield l) #[] #[]] ++ vs) h0
 have e : (#[Value.func (.yield l) #[] #[]] ++ vs).toList = Value.func (.yield l) #[] #[] :: vs.toList := by simp
 rw [e] at h1
 have h2 := h1 (All2.cons (.c (.pure (.val rfl))) hargs)
 refine h2.mono ?_
 rintro e w' ⟨v, res, k', S', he, hk, _, hj, _⟩
 exact ⟨⟨v, he⟩, k', S', hk, hj⟩
end
end Go.Abs
