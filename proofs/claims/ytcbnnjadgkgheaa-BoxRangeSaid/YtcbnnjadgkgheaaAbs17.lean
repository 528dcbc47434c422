/- The abstract machine: weaker states, loops, functions. -/
import Derived.Test.YtcbnnjadgkgheaaAbs16
set_option linter.unusedVariables false
set_option linter.unusedSimpArgs false
namespace Go.Abs
open Go.RowKit

/-! Weaker states. -/

def clA (N : Nat) : AC → Prop
  | .ptr nm _ => nm < N
  | .eptr nm _ _ _ => nm < N
  | .ref nm => nm < N
  | .mref nm => nm < N
  | .clo _ caps => go caps
  | _ => True
where go : List AC → Prop
  | [] => True
  | .ptr nm _ :: r => nm < N ∧ go r
  | .mref nm :: r => nm < N ∧ go r
  | .ref nm :: r => nm < N ∧ go r
  | .pure _ :: r => go r
  | .cptr _ :: r => go r
  | .nils :: r => go r
  | .tsl _ :: r => go r
  | .top :: r => go r
  | _ :: _ => False
def clAs (N : Nat) : List AC → Prop
  | [] => True
  | x :: r => clA N x ∧ clAs N r
def clV (N : Nat) : AV → Prop
  | .c x => clA N x
  | .agg xs => clAs N xs
  | .tup [] => True
  | .tup _ => False
  | .top => True
def clB (N : Nat) : Box → Prop
  | .var xs => clAs N xs
  | _ => True
/-- Another name for a thing. -/
def rn : List (Nat × Nat) → Nat → Nat
  | [], n => n
  | (a, b) :: r, n => if a = n then b else rn r n
def renC (l : List (Nat × Nat)) : AC → AC
  | .ptr nm off => .ptr (rn l nm) off
  | .mref nm => .mref (rn l nm)
  | .ref nm => .ref (rn l nm)
  | x => x
def renA (l : List (Nat × Nat)) : AC → AC
  | .ptr nm off => .ptr (rn l nm) off
  | .eptr nm sz row off => .eptr (rn l nm) sz row off
  | .ref nm => .ref (rn l nm)
  | .mref nm => .mref (rn l nm)
  | .clo f caps => .clo f (caps.map (renC l))
  | x => x
def renV (l : List (Nat × Nat)) : AV → AV
  | .c x => .c (renA l x)
  | .agg xs => .agg (xs.map (renA l))
  | x => x
def renB (l : List (Nat × Nat)) : Box → Box
  | .var xs => .var (xs.map (renA l))
  | b => b
def wkF (l : List (Nat × Nat)) (fr : List (Nat × AV)) (N : Nat) : List (Nat × AV) → Prop
  | [] => True
  | (t, v) :: r => (look fr t = renV l v ∨ v = .top) ∧ clV N v ∧ wkF l fr N r
def notIn (n : Nat) : List Nat → Prop
  | [] => True
  | m :: r => n ≠ m ∧ notIn n r
def wkM (l : List (Nat × Nat)) (mem : List (Nat × Box)) (N : Nat) : List Nat → List (Nat × Box) → Prop
  | _, [] => True
  | seen, (nm, b) :: r => findB mem (rn l nm) = some (renB l b) ∧ nm < N ∧ clB N b ∧ notIn (rn l nm) seen ∧ wkM l mem N (rn l nm :: seen) r
/-- Names below N are not renamed. -/
def wkL (N : Nat) : List (Nat × Nat) → Prop
  | [] => True
  | (a, _) :: r => N ≤ a ∧ wkL N r
theorem wkL_rn {N : Nat} : ∀ {l : List (Nat × Nat)}, wkL N l → ∀ {n : Nat}, n < N → rn l n = n
  | [], _, n, _ => rfl
  | (a, b) :: r, h, n, hn => by
    simp only [rn]
    rw [if_neg (by have := h.1; omega)]
    exact wkL_rn h.2 hn
/-- σ' says less than σ; its names are others (l: a name of σ', the name of σ that it stands for). -/
def Wk (l : List (Nat × Nat)) (σ σ' : St) : Prop := wkF l σ.fr σ'.nx σ'.fr ∧ wkM l σ.mem σ'.nx [] σ'.mem ∧ σ'.base = σ.base ∧ σ.base ≤ σ'.nx ∧ wkL σ.base l

section
variable {P : Program} {a : Act} {w w' w0 : World} {U : Gh} {ι : Pl} {σ σ' : St} {nt : Nat}

theorem RepA.cl {V V' : Nat → Prop} {N N' : Nat} {x : AC} {v : Value} {l : List (Nat × Nat)} (h : RepA w V ι N (renA l x) v) (hV : ∀ b, V b → V' b) (hc : clA N' x) : RepA w V' (fun n => ι (rn l n)) N' x v := by
  have hp : ∀ {p : PC} {v : Value}, RepP w V p v → RepP w V' p v := fun h => h.mono (fun b _ h => hV b h) (fun _ _ _ => rfl)
  have hcp : ∀ {cells : List PC} {v : Value}, RepA w V ι N (.cptr cells) v → RepA w V' (fun n => ι (rn l n)) N' (.cptr cells) v := by
    intro cells v h
    cases h with
    | cptr g hc =>
      refine .cptr g fun j p hj => ?_
      obtain ⟨h1, h2, h3⟩ := hc j p hj
      exact ⟨hV _ h1, h2, hp h3⟩
  cases x with
  | pure p => cases h with | pure h => exact .pure (hp h)
  | nils => cases h; exact .nils
  | tsl rows => cases h with | tsl h => exact .tsl (hp h)
  | ptr nm off => cases h with | ptr hn h => exact .ptr hc h
  | eptr nm sz row off => cases h with | eptr hn h => exact .eptr hc h
  | cptr cells => exact hcp h
  | ref nm =>
    have e : v = ι (rn l nm) := by cases h; rfl
    subst e
    cases h with
    | ref hn h => exact .ref (ι := fun n => ι (rn l n)) hc h
  | mref nm => cases h with | mref hn h => exact .mref hc h
  | top => cases h with | top h => exact .top h
  | clo f caps =>
    cases h with
    | @clo _ _ vs hl h =>
      refine .clo (by simpa using hl) fun i x hi => ?_
      have key : ∀ (l : List AC), clA.go N' l → ∀ (i : Nat) x, l[i]? = some x → (∀ nm off, x = .ptr nm off → nm < N') ∧ (∀ nm sz row off, x ≠ .eptr nm sz row off) ∧ (∀ nm, x = .ref nm → nm < N') ∧ (∀ f cs, x ≠ .clo f cs) ∧ (∀ nm, x = .mref nm → nm < N') := by
        intro l
        induction l with
        | nil => intro _ i x hi; simp at hi
        | cons y ys ih =>
          intro hg i x hi
          cases i with
          | zero =>
            simp at hi
            subst hi
            cases y <;> simp_all [clA.go]
          | succ i =>
            simp at hi
            refine ih ?_ i x hi
            cases y <;> simp_all [clA.go]
      obtain ⟨k1, k2, k3, k4, k5⟩ := key caps hc i x hi
      have hx := h i (renC l x) (by rw [List.getElem?_map, hi]; rfl)
      generalize vs.toList[i]?.getD undef = z at hx ⊢
      cases x with
      | pure p => cases hx with | pure h => exact .pure (hp h)
      | nils => cases hx; exact .nils
      | tsl rows => cases hx with | tsl h => exact .tsl (hp h)
      | ptr nm off => cases hx with | ptr hn h => exact .ptr (k1 _ _ rfl) h
      | eptr => exact absurd rfl (k2 _ _ _ _)
      | cptr cells => exact hcp hx
      | ref nm =>
        have e : z = ι (rn l nm) := by cases hx; rfl
        subst e
        cases hx with
        | ref hn h => exact .ref (ι := fun n => ι (rn l n)) (k3 _ rfl) h
      | mref nm => cases hx with | mref hn h => exact .mref (k5 _ rfl) h
      | top => cases hx with | top h => exact .top h
      | clo => exact absurd rfl (k4 _ _)
theorem reps_cl {V V' : Nat → Prop} {N N' : Nat} {l : List (Nat × Nat)} : ∀ {xs : List AC} {vs : List Value}, All2 (RepA w V ι N) (xs.map (renA l)) vs → (∀ b, V b → V' b) → clAs N' xs → All2 (RepA w V' (fun n => ι (rn l n)) N') xs vs
  | [], vs, h, hV, hc => by cases h; exact .nil
  | x :: xs, vs, h, hV, hc => by
    cases h with
    | cons h1 h2 => exact .cons (h1.cl hV hc.1) (reps_cl h2 hV hc.2)
theorem RepV.cl {V V' : Nat → Prop} {N N' : Nat} {x : AV} {v : Value} {l : List (Nat × Nat)} (h : RepV w V ι N (renV l x) v) (hV : ∀ b, V b → V' b) (hc : clV N' x) : RepV w V' (fun n => ι (rn l n)) N' x v := by
  cases x with
  | c x => cases h with | c h => exact .c (h.cl hV hc)
  | agg xs => cases h with | agg h => exact .agg (reps_cl h hV hc)
  | tup xs =>
    cases xs with
    | nil => cases h with | tup hl h => exact .tup hl (by simp)
    | cons => exact hc.elim
  | top => exact .top

theorem notIn_mem {n : Nat} : ∀ {l : List Nat}, notIn n l → ¬ n ∈ l
  | [], _ => by simp
  | m :: r, h => by
    intro hm
    rcases List.mem_cons.1 hm with e | e
    · exact h.1 e
    · exact notIn_mem h.2 e
theorem wkM_find {l : List (Nat × Nat)} {mem mem' : List (Nat × Box)} {N : Nat} : ∀ {seen : List Nat}, wkM l mem N seen mem' → ∀ {nm : Nat} {b : Box}, findB mem' nm = some b → findB mem (rn l nm) = some (renB l b) ∧ nm < N ∧ clB N b ∧ ¬ rn l nm ∈ seen := by
  induction mem' with
  | nil => intro seen h nm b hf; cases hf
  | cons x r ih =>
    obtain ⟨k, c⟩ := x
    intro seen h nm b hf
    obtain ⟨h1, h2, h3, h4, h5⟩ := h
    rw [findB_cons] at hf
    by_cases e : k = nm
    · subst e
      rw [if_pos rfl] at hf
      cases hf
      exact ⟨h1, h2, h3, notIn_mem h4⟩
    · rw [if_neg e] at hf
      obtain ⟨g1, g2, g3, g4⟩ := ih h5 hf
      exact ⟨g1, g2, g3, fun hm => g4 (List.mem_cons_of_mem _ hm)⟩
theorem wkM_inj {l : List (Nat × Nat)} {mem mem' : List (Nat × Box)} {N : Nat} : ∀ {seen : List Nat}, wkM l mem N seen mem' → ∀ {nm nm' : Nat} {b b' : Box}, findB mem' nm = some b → findB mem' nm' = some b' → rn l nm = rn l nm' → nm = nm' := by
  induction mem' with
  | nil => intro seen h nm nm' b b' hf; cases hf
  | cons x r ih =>
    obtain ⟨k, c⟩ := x
    intro seen h nm nm' b b' h1 h2 he
    have h5 := h.2.2.2.2
    rw [findB_cons] at h1 h2
    by_cases e : k = nm
    · by_cases e' : k = nm'
      · omega
      · rw [if_neg e'] at h2
        have := (wkM_find h5 h2).2.2.2
        subst e
        rw [← he] at this
        exact absurd List.mem_cons_self this
    · rw [if_neg e] at h1
      by_cases e' : k = nm'
      · have := (wkM_find h5 h1).2.2.2
        subst e'
        rw [he] at this
        exact absurd List.mem_cons_self this
      · rw [if_neg e'] at h2
        exact ih h5 h1 h2 he
theorem wkF_look {l : List (Nat × Nat)} {fr fr' : List (Nat × AV)} {N : Nat} (h : wkF l fr N fr') (t : Nat) : (look fr t = renV l (look fr' t) ∨ look fr' t = .top) ∧ clV N (look fr' t) := by
  induction fr' with
  | nil => exact ⟨.inr rfl, trivial⟩
  | cons x r ih =>
    obtain ⟨k, v⟩ := x
    obtain ⟨h1, h2, h3⟩ := h
    rw [look_put]
    by_cases e : k = t
    · subst e
      rw [if_pos rfl]
      exact ⟨h1, h2⟩
    · rw [if_neg e]
      exact ih h3

theorem Sim.wk {l : List (Nat × Nat)} (hs : Sim w0 U σ ι a w) (h : Wk l σ σ') : Sim w0 U σ' (fun n => ι (rn l n)) a w := by
  obtain ⟨hf, hm, hb1, hb2, hb3⟩ := h
  have hfree : ∀ b, Free w0.heap.size U ι σ.mem b → Free w0.heap.size U (fun n => ι (rn l n)) σ'.mem b := fun b h => ⟨h.1, fun nm bx hn => h.2 _ _ (wkM_find hm hn).1⟩
  refine ⟨fun t => ?_, hs.defers, fun nm bx hn => (wkM_find hm hn).2.1, fun nm bx hn => ?_, fun nm nm' b1 b2 b h1 h2 h3 h4 => ?_, hs.below, U.mono _ _ _ _ hs.keep (fun b _ h => hfree b h) (fun _ _ _ => rfl), ⟨by rw [hb1]; exact hb2, fun nm hn => ?_⟩⟩
  · obtain ⟨h1, h2⟩ := wkF_look hf t
    have hv := hs.val t
    rcases h1 with h1 | h1
    · rw [h1] at hv
      exact hv.cl hfree h2
    · rw [h1]; exact .top
  · obtain ⟨h1, h2, h3, _⟩ := wkM_find hm hn
    have hb := hs.box _ _ h1
    cases bx with
    | var xs =>
      obtain ⟨b', vs, T, g1, g2, g3, g4⟩ := hb
      exact ⟨b', vs, T, g1, g2, g3, reps_cl g4 hfree h3⟩
    | arr e sz rows =>
      obtain ⟨cells, k0, k1, k2, k3⟩ := hb
      exact ⟨cells, k0, k1, k2, k3.mono (fun b _ h => hfree b h) (fun _ _ _ => rfl)⟩
    | map kt n ents =>
      obtain ⟨b', es, clock, g1, g2, g3, g4⟩ := hb
      exact ⟨b', es, clock, g1, g2, g3, g4.mono fun _ _ h => h.mono (fun b _ h => hfree b h) (fun _ _ _ => rfl)⟩
  · exact wkM_inj hm h1 h2 (hs.apart _ _ _ _ _ (wkM_find hm h1).1 (wkM_find hm h2).1 h3 h4)
  · rw [hb1] at hn
    rw [wkL_rn hb3 hn]
    exact hs.base.2 nm hn

theorem AW_wk {c : ACode} {Q : AExit → St → Prop} (l : List (Nat × Nat)) (hw : Wk l σ σ') (h : AW P nt c σ' Q) : AW P nt c σ Q :=
  fun c' hc w0 U ι a w hs hz => h c' hc w0 U _ a w (hs.wk hw) hz

/-- A nil slice becomes an array of the call's own. -/
theorem AW_adopt {c : ACode} {Q : AExit → St → Prop} (t e sz : Nat) (ht : look σ.fr t = .c .nils) (h0 : 0 < sz)
    (h : AW P nt c { σ with fr := (t, .c (.ref σ.nx)) :: σ.fr, mem := (σ.nx, .arr e sz []) :: σ.mem, nx := σ.nx + 1 } Q) : AW P nt c σ Q := by
  intro c' hc w0 U ι a w hs hz
  obtain ⟨ι', h1, h2, h3, h4⟩ := hs.newBox (w' := w) (pv := .slice none 0 0) (bx := .arr e sz []) (Below.refl _ _) (fun b hb => by simp [blockOf] at hb) (fun ι' e1 e2 hfree => ⟨[], h0, by rw [e2]; exact World.ownsRow_nil _ _ _ _, by simp, RowsRep.nil⟩)
  refine h c' hc w0 U ι' a w ⟨fun s => ?_, h1.defers, h1.names, h1.box, h1.apart, h1.below, h1.keep, h1.base⟩ hz
  rw [look_put]
  by_cases es : t = s
  · subst es
    rw [if_pos rfl]
    have hv := hs.val t
    rw [ht] at hv
    rw [repV_nils hv, ← h2]
    exact .c (.ref (Nat.lt_succ_self _) ⟨_, _, _, h2⟩)
  · rw [if_neg es]
    exact h1.val s
/-- The same, where the nil slice lies in a variable. -/
theorem AW_adoptM {c : ACode} {Q : AExit → St → Prop} (nm i e sz : Nat) (xs : List AC) (hf : findB σ.mem nm = some (.var xs)) (hi : xs[i]? = some .nils) (h0 : 0 < sz)
    (h : AW P nt c { σ with mem := (σ.nx, .arr e sz []) :: setB σ.mem nm (.var (xs.set i (.ref σ.nx))), nx := σ.nx + 1 } Q) : AW P nt c σ Q := by
  intro c' hc w0 U ι a w hs hz
  obtain ⟨ι', h1, h2, h3, h4⟩ := hs.newBox (w' := w) (pv := .slice none 0 0) (bx := .arr e sz []) (Below.refl _ _) (fun b hb => by simp [blockOf] at hb) (fun ι' e1 e2 hfree => ⟨[], h0, by rw [e2]; exact World.ownsRow_nil _ _ _ _, by simp, RowsRep.nil⟩)
  have hnm := hs.names _ _ hf
  have hf1 : findB ((σ.nx, Box.arr e sz []) :: σ.mem) nm = some (.var xs) := by rw [findB_cons, if_neg (by omega)]; exact hf
  obtain ⟨b, vs, T, g1, g2, g3, g4⟩ := h1.box _ _ hf1
  have hset := h1.setBox (cs := vs) hf1 (b := b) (by rw [g1]; rfl) (bx := .var (xs.set i (.ref σ.nx))) ⟨b, vs, T, g1, g2, setRow_heap _ _ _ _ _ _ g3, by
    rw [setRow_self w b vs T _ g3]
    refine All2.of_get (by rw [List.length_set]; exact g4.length) fun j x v hj hv => ?_
    rw [List.getElem?_set] at hj
    by_cases e1 : i = j
    · subst e1
      have hlt := (List.getElem?_eq_some_iff.1 hi).1
      rw [if_pos rfl, if_pos hlt] at hj
      cases hj
      obtain ⟨v', hv', hr⟩ := g4.get hi
      rw [hv'] at hv
      cases hv
      have : v = .slice none 0 0 := by cases hr; rfl
      rw [this, ← h2]
      exact .ref (Nat.lt_succ_self _) ⟨_, _, _, h2⟩
    · rw [if_neg e1] at hj
      obtain ⟨v', hv', hr⟩ := g4.get hj
      rw [hv'] at hv
      cases hv
      exact hr⟩
  rw [setRow_self w b vs T _ g3] at hset
  have e5 : setB ((σ.nx, Box.arr e sz []) :: σ.mem) nm (.var (xs.set i (.ref σ.nx))) = (σ.nx, .arr e sz []) :: setB σ.mem nm (.var (xs.set i (.ref σ.nx))) := by
    simp only [setB]
    rw [if_neg (by omega)]
  simp only [e5] at hset
  exact h c' hc w0 U ι' a w hset hz

def loopW {τ : Type} (mk : τ → St) (I : τ → Prop) (μ : τ → Nat) (t : τ) (Q : AExit → St → Prop) : AExit → St → Prop
  | .normal, σ => ∃ t' l, I t' ∧ μ t' < μ t ∧ Wk l σ (mk t')
  | .exit i, σ => Q (.exit i) σ
  | .ret, σ => Q .ret σ

/-- A loop: at each head the state is of the form 'mk t'. -/
theorem AW_loop {τ : Type} {x : ACode} {Q : AExit → St → Prop} (mk : τ → St) (I : τ → Prop) (μ : τ → Nat) (h0 : ∃ t l, I t ∧ Wk l σ (mk t)) (h : ∀ t, I t → AW P nt x (mk t) (loopW mk I μ t Q)) : AW P nt (.loop x) σ Q := by
  intro c' hc w0 U ι a w hs hz
  cases c' <;> simp [compC] at hc
  all_goals (try (split at hc <;> simp at hc))
  rename_i c1
  obtain ⟨t, l, ht, hw⟩ := h0
  refine wp_loop_rounds (μ t + 1) ?_
  have key : ∀ n t ι a w, μ t < n → I t → Sim w0 U (mk t) ι a w → a.tmps.size = nt → Code.rounds P c1 (Post w0 U nt Q) n a w := by
    intro n
    induction n with
    | zero => intro t ι a w hm; omega
    | succ n ih =>
      intro t ι a w hm ht hs hz
      rw [rounds_succ]
      refine wp_mono (h t ht _ hc w0 U ι a w hs hz) ?_
      rintro e a1 w1 ⟨e', σ', ι', rfl, hq, hs', hz'⟩
      cases e' with
      | normal =>
        obtain ⟨t', l', ht', hlt, hwk⟩ := hq
        exact ih t' _ a1 w1 (by omega) ht' (hs'.wk hwk) hz'
      | exit i => exact ⟨.exit i, σ', ι', rfl, hq, hs', hz'⟩
      | ret => exact ⟨.ret, σ', ι', rfl, hq, hs', hz'⟩
  exact key _ t _ a w (Nat.lt_succ_self _) ht (hs.wk hw) hz
end
end Go.Abs
