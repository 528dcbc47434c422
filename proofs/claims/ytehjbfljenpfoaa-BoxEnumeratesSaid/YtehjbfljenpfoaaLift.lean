/- The abstract machine: functions whose result is the caller's own, at any memory. -/
import Derived.Test.YtehjbfljenpfoaaAbsQ
set_option linter.unusedVariables false
set_option linter.unusedSimpArgs false
namespace Go.Abs
open Go.RowKit

section
variable {P : Program} {f : FuncId} {args pargs : List AV} {mem : List (Nat × Box)} {nx : Nat}
theorem lift_start {w0 w : World} {U : Gh} {ι : Pl} {vs : Array Value} (hs : Sim w0 U ⟨[], mem, nx, nx⟩ ι { tmps := #[], defers := [] } w) (hr : All2 (RepV w (Free w0.heap.size U ι mem) ι nx) args vs.toList) (hp : purVs mem args = some pargs) (hn : args.all norefV = true) :
  Sim w (Gh.of (Free w0.heap.size U ι mem)) ⟨[], [], 0, 0⟩ (fun _ => undef) { tmps := #[], defers := [] } w ∧ All2 (RepV w (Free w.heap.size (Gh.of (Free w0.heap.size U ι mem)) (fun _ => undef) []) (fun _ => undef) 0) pargs vs.toList :=
 ⟨⟨fun t => .top, ⟨rfl, hs.glob⟩, (fun nm bx hn => by cases hn), (fun nm bx hn => by cases hn), (fun nm nm' b1 b2 b hn => by cases hn), Below.refl _ _, trivial, ⟨Nat.le_refl _, fun _ h => absurd h (Nat.not_lt_zero _)⟩⟩,
  (purVs_rep (σ := ⟨[], mem, nx, nx⟩) (V := Free w0.heap.size U ι mem) hs hr (fun _ h => h) (.inl hn) hp).mono fun _ _ h => h.mono (fun b _ h => ⟨.inl h, fun nm bx hf => by cases hf⟩) (fun _ _ _ => rfl) (fun _ _ => rfl) (Nat.le_refl _)⟩
theorem ICalls.lift0 {res : AV} (h : ICalls P f pargs [] 0 res [] 0) (hp : purVs mem args = some pargs) (hn : args.all norefV = true) : ICalls P f args mem nx res mem nx := by
 refine ⟨h.1, fun w0 U ι w vs hs hr => ?_⟩
 have hB := hs.below.size
 obtain ⟨g1, g2⟩ := lift_start hs hr hp hn
 refine (h.2 w _ _ w vs g1 g2).mono ?_
 rintro en w' ⟨v, ι', rfl, h1, h2⟩
 refine ⟨v, ι, rfl, hs.grow h1.below, h2.mono (fun b _ hf => ?_) (fun b _ _ => rfl) (fun nm hn => absurd hn (Nat.not_lt_zero _)) (Nat.zero_le _)⟩
 obtain ⟨hf | hf, _⟩ := hf
 ·exact hf
 ·refine ⟨.inr (Nat.le_trans hB hf), fun nm bx hfm hc => ?_⟩
  have := ((hs.box _ _ hfm).block hc).2
  omega
theorem ICalls.lift1 {e sz : Nat} {rows : List (List PC)} {y : Value} (hy : scalar y = true) (h : ICalls P f pargs [] 0 (.tup [.c (.ref 0), .c (.pure (.val y))]) [(0, .arr e sz rows)] 1) (hp : purVs mem args = some pargs) (hn : args.all norefV = true) :
  ICalls P f args mem nx (.tup [.c (.ref nx), .c (.pure (.val y))]) ((nx, .arr e sz rows) :: mem) (nx + 1) := by
 refine ⟨h.1, fun w0 U ι w vs hs hr => ?_⟩
 have hB := hs.below.size
 obtain ⟨g1, g2⟩ := lift_start hs hr hp hn
 refine (h.2 w _ _ w vs g1 g2).mono ?_
 rintro en w' ⟨v, ι', rfl, h1, h2⟩
 obtain ⟨cells, k0, k1, k2, k3⟩ := h1.box 0 (.arr e sz rows) rfl
 have hU : ∀ ι'' : Pl, (∀ nm, nm < nx → ι'' nm = ι nm) → ι'' nx = ι' 0 → ∀ b, Free w.heap.size (Gh.of (Free w0.heap.size U ι mem)) ι' [(0, .arr e sz rows)] b → Free w0.heap.size U ι'' ((nx, .arr e sz rows) :: mem) b := by
  intro ι'' e1 e2 b hf
  have hnot := hf.2 0 _ rfl
  obtain ⟨hf1, _⟩ := hf
  rcases hf1 with hf1 | hf1
  ·refine ⟨hf1.1, fun nm bx hfm => ?_⟩
   rw [findB_cons] at hfm
   by_cases hh : nx = nm
   ·subst hh
    rw [e2]
    exact hnot
   ·rw [if_neg hh] at hfm
    rw [e1 _ (hs.names _ _ hfm)]
    exact hf1.2 _ _ hfm
  ·refine ⟨.inr (Nat.le_trans hB hf1), fun nm bx hfm hc => ?_⟩
   rw [findB_cons] at hfm
   by_cases hh : nx = nm
   ·subst hh
    rw [e2] at hc
    exact hnot hc
   ·rw [if_neg hh] at hfm
    rw [e1 _ (hs.names _ _ hfm)] at hc
    have := ((hs.box _ _ hfm).block hc).2
    have h9 : w.heap.size ≤ b := hf1
    exact absurd this (by show ¬ b < _; omega)
 obtain ⟨ι'', j1, j2, j3, j4⟩ := hs.newBox (pv := ι' 0) (bx := .arr e sz rows) h1.below (fun b hb => by
  rcases k1.2 with ⟨e, _⟩ | ⟨g, cap, cur, e, hg, _⟩
  ·rw [e] at hb; cases hb
  ·rw [e] at hb
   simp [blockOf] at hb
   omega) (fun ι'' e1 e2 hfree => ⟨cells, k0, by rw [e2]; exact ownsRow_base k1 hB, k2, k3.mono (fun b _ hf => hU ι'' e1 e2 b hf) (fun b _ _ => rfl)⟩)
 cases h2 with
  | tup hl hx =>
   rename_i us
   have x0 := hx 0 _ rfl
   have x1 := hx 1 _ rfl
   refine ⟨_, ι'', rfl, j1, .tup hl fun i x hi => ?_⟩
   match i, hi with
   | 0, hi =>
    cases hi
    have : us.toList[0]?.getD undef = ι' 0 := by
     generalize us.toList[0]?.getD undef = z at x0
     cases x0 with
     |c x0 => cases x0 with
      | ref _ _ => rfl
    rw [this, ← j2]
    refine .c (.ref (Nat.lt_succ_self _) ?_)
    rw [j2]
    rcases k1.2 with ⟨e, _⟩ | ⟨g, cap, cur, e, _⟩
    ·exact ⟨_, _, _, e⟩
    ·exact ⟨_, _, _, e⟩
   | 1, hi =>
    cases hi
    generalize us.toList[1]?.getD undef = z at x1 ⊢
    cases x1 with
    |c x1 => cases x1 with
     |pure x1 => cases x1 with
      | val _ => exact .c (.pure (.val hy))
theorem ICalls.toP {res pres : AV} {mem' : List (Nat × Box)} {nx' : Nat} (h : ICalls P f pargs [] 0 res mem' nx') (hp : purR mem' res = some pres) : PCalls P f pargs pres := by
 refine ⟨h.1, fun w U vs hG hargs => ?_⟩
 have hs : Sim w (Gh.of U) ⟨[], [], 0, 0⟩ (fun _ => undef) { tmps := #[], defers := [] } w := ⟨fun t => .top, ⟨rfl, hG⟩, (fun nm bx hn => by cases hn), (fun nm bx hn => by cases hn), (fun nm nm' b1 b2 b hn => by cases hn), Below.refl _ _, trivial, ⟨Nat.le_refl _, fun _ h => absurd h (Nat.not_lt_zero _)⟩⟩
 refine (h.2 w _ _ w vs hs (hargs.mono fun _ _ h => h.mono (fun b _ h => ⟨.inl h, fun nm bx hn => by cases hn⟩) (fun _ _ _ => rfl) (fun _ _ => rfl) (Nat.le_refl _))).mono ?_
 rintro en w' ⟨v, ι', rfl, h1, h2⟩
 exact ⟨v, rfl, purR_rep h1 h2 hp (fun b h => h.1) (fun b h => .inr h), h1.below⟩
theorem nil_pure {w : World} {V : Nat → Prop} {ι : Pl} {N : Nat} {v : Value} (h : RepV w V ι N (.c .nils) v) : RepV w V ι N (.c (.pure (.slice []))) v := by
 cases h with
 |c h => cases h with
  | nils => exact .c (.pure (.slice (sz := 1) (fun _ _ => undef) rfl (Nat.le_refl _) (Nat.zero_le _) (fun i row h => by simp at h) (fun i row j p h => by simp at h) (fun i row j p h => by simp at h)))
theorem ICalls.alike {args' : List AV} {res : AV} {mem' : List (Nat × Box)} {nx' : Nat} (h : ICalls P f args mem nx res mem' nx') (hw : ∀ (w : World) (V : Nat → Prop) (ι : Pl) (N : Nat) (vs : List Value), All2 (RepV w V ι N) args' vs → All2 (RepV w V ι N) args vs) : ICalls P f args' mem nx res mem' nx' :=
 ⟨h.1, fun w0 U ι w vs hs hr => h.2 w0 U ι w vs hs (hw _ _ _ _ _ hr)⟩
theorem ICalls.nil3 {a b : AV} {res : AV} {mem' : List (Nat × Box)} {nx' : Nat} (h : ICalls P f [a, b, .c (.pure (.slice []))] mem nx res mem' nx') : ICalls P f [a, b, .c .nils] mem nx res mem' nx' :=
 h.alike fun w V ι N vs hr => by
  cases hr with
  |cons h1 t1 => cases t1 with
   |cons h2 t2 => cases t2 with
    | cons h3 t3 => exact .cons h1 (.cons h2 (.cons (nil_pure h3) t3))
theorem ICalls.nil4 {a b c d e : AV} {res : AV} {mem' : List (Nat × Box)} {nx' : Nat} (h : ICalls P f [a, b, c, .c (.pure (.slice [])), d, e] mem nx res mem' nx') : ICalls P f [a, b, c, .c .nils, d, e] mem nx res mem' nx' :=
 h.alike fun w V ι N vs hr => by
  cases hr with
  |cons h1 t1 => cases t1 with
   |cons h2 t2 => cases t2 with
    |cons h3 t3 => cases t3 with
     | cons h4 t4 => exact .cons h1 (.cons h2 (.cons h3 (.cons (nil_pure h4) t4)))
end
end Go.Abs
