/- The abstract machine: what it means that a state of the model is of an abstract one. -/
import Derived.Test.YtcbnnjadgkgheaaAbs3
set_option linter.unusedVariables false
set_option linter.unusedSimpArgs false
namespace Go.Abs
open Go.RowKit

theorem RepP.one {w : World} {U : Nat → Prop} {p : PC} {v : Value} (h : RepP w U p v) : v.oneCell' = true := by
  cases h with
  | val h => cases v <;> simp_all [scalar, Value.oneCell']
  | slice => rfl
theorem RepA.one {w : World} {U : Nat → Prop} {ι : Pl} {N : Nat} {x : AC} {v : Value} (h : RepA w U ι N x v) : v.oneCell' = true := by
  cases h with
  | pure h => exact h.one
  | nils => rfl
  | tsl h => rfl
  | ptr => rfl
  | eptr => rfl
  | cptr => rfl
  | ref _ h => obtain ⟨a, n, c, e⟩ := h; rw [e]; rfl
  | clo => rfl
  | mref => rfl
  | top h => exact h
theorem cells_one {v : Value} (h : v.oneCell' = true) : v.cells = #[v] := by cases v <;> simp_all [Value.oneCell', Value.cells]

theorem RepA.mono {w w' : World} {U U' : Nat → Prop} {ι ι' : Pl} {N N' : Nat} {x : AC} {v : Value} (h : RepA w U ι N x v) (hU : ∀ b, b < w.heap.size → U b → U' b)
    (hw : ∀ b, b < w.heap.size → U b → w'.heap[b]? = w.heap[b]?) (hι : ∀ nm, nm < N → ι' nm = ι nm) (hN : N ≤ N') : RepA w' U' ι' N' x v := by
  induction h with
  | pure h => exact .pure (h.mono hU hw)
  | nils => exact .nils
  | tsl h => exact .tsl (h.mono hU hw)
  | ptr hn h => exact .ptr (by omega) (by rw [hι _ hn]; exact h)
  | eptr hn h => exact .eptr (by omega) (by rw [hι _ hn]; exact h)
  | cptr g hc =>
    refine .cptr g fun j p hj => ?_
    obtain ⟨h1, h2, h3⟩ := hc j p hj
    have hlt := World.block_lt_of_cell? w _ h2
    exact ⟨hU _ hlt h1, by rw [World.cell?_of_block (hw _ hlt h1)]; exact h2, h3.mono hU hw⟩
  | ref hn h => rw [← hι _ hn]; exact .ref (by omega) (by rw [hι _ hn]; exact h)
  | clo hl _ ih => exact .clo hl ih
  | mref hn h => exact .mref (by omega) (by rw [hι _ hn]; exact h)
  | top h => exact .top h

theorem RepV.mono {w w' : World} {U U' : Nat → Prop} {ι ι' : Pl} {N N' : Nat} {x : AV} {v : Value} (h : RepV w U ι N x v) (hU : ∀ b, b < w.heap.size → U b → U' b)
    (hw : ∀ b, b < w.heap.size → U b → w'.heap[b]? = w.heap[b]?) (hι : ∀ nm, nm < N → ι' nm = ι nm) (hN : N ≤ N') : RepV w' U' ι' N' x v := by
  induction h with
  | c h => exact .c (h.mono hU hw hι hN)
  | agg h => exact .agg (h.mono fun _ _ h => h.mono hU hw hι hN)
  | tup hl _ ih => exact .tup hl ih
  | top => exact .top

theorem look_put {fr : List (Nat × AV)} {d : Nat} {v : AV} {t : Nat} : look ((d, v) :: fr) t = if d = t then v else look fr t := rfl

theorem Sim.put {w0 : World} {U : Gh} {σ : St} {ι : Pl} {a : Act} {w : World} {d : Option Nat} {v : AV} {u : Value} (h : Sim w0 U σ ι a w)
    (hd : ∀ t, d = some t → t < a.tmps.size) (hv : RepV w (Free w0.heap.size U ι σ.mem) ι σ.nx v u) : Sim w0 U (σ.put d v) ι (a.put d u) w := by
  cases d with
  | none => exact h
  | some t =>
    refine ⟨fun s => ?_, h.defers, h.names, h.box, h.apart, h.below, h.keep, h.base⟩
    show RepV w (Free w0.heap.size U ι σ.mem) ι σ.nx (look ((t, v) :: σ.fr) s) ((a.tmps.setIfInBounds t u).getD s undef)
    rw [look_put]
    by_cases hs : t = s
    · subst hs
      rw [if_pos rfl]
      have := hd t rfl
      simp [Array.getD_eq_getD_getElem?, this, hv]
    · rw [if_neg hs]
      have := h.val s
      simpa [Array.getD_eq_getD_getElem?, Array.getElem?_setIfInBounds_ne hs] using this

theorem free_lt {B : Nat} {U : Gh} {ι : Pl} {mem : List (Nat × Box)} {b : Nat} (h : Free B U ι mem b) : ∀ nm bx, findB mem nm = some bx → blockOf (ι nm) ≠ some b := h.2

/-- The block of an owned thing. -/
theorem BoxRep.block {B : Nat} {w : World} {U : Nat → Prop} {ι : Pl} {N nm : Nat} {bx : Box} (h : BoxRep B w U ι N nm bx) {b : Nat} (hb : blockOf (ι nm) = some b) : B ≤ b ∧ b < w.heap.size := by
  cases bx with
  | var xs =>
    obtain ⟨b', vs, T, h1, h2, h3, _⟩ := h
    rw [h1] at hb
    simp [blockOf] at hb
    subst hb
    exact ⟨h2, (Array.getElem?_eq_some_iff.1 h3).1⟩
  | arr e sz rows =>
    obtain ⟨cells, _, h1, _⟩ := h
    refine World.ownsRow.lt h1 b ?_
    generalize ι nm = v at *
    unfold blockOf at hb
    unfold Value.ownBlock
    split at hb <;> simp_all
    all_goals (rcases h1.2 with ⟨h, _⟩ | ⟨g, cap, cur, h, _⟩ <;> cases h)
  | map kt n ents =>
    obtain ⟨b', es, clock, h1, h2, h3, _⟩ := h
    rw [h1] at hb
    simp [blockOf] at hb
    subst hb
    exact ⟨h2, (Array.getElem?_eq_some_iff.1 h3).1⟩

theorem EntRep.mono {w w' : World} {U U' : Nat → Prop} {kt : KT} {n : Option Nat} {x : MK × List PC} {e : MapEntry} (h : EntRep w U kt n x e) (hU : ∀ b, b < w.heap.size → U b → U' b)
    (hw : ∀ b, b < w.heap.size → U b → w'.heap[b]? = w.heap[b]?) : EntRep w' U' kt n x e := ⟨h.1, h.2.mono hU hw (fun _ h => by omega) (Nat.le_refl _)⟩

/-- The world has grown, no old block has turned. -/
theorem BoxRep.grow {B : Nat} {w w' : World} {U U' : Nat → Prop} {ι ι' : Pl} {N N' nm : Nat} {bx : Box} (h : BoxRep B w U ι N nm bx) (hg : Below w.heap.size w w')
    (hU : ∀ b, b < w.heap.size → U b → U' b) (hι : ∀ nm, nm < N → ι' nm = ι nm) (hN : N ≤ N') (hn : nm < N) : BoxRep B w' U' ι' N' nm bx := by
  have hw : ∀ b, b < w.heap.size → U b → w'.heap[b]? = w.heap[b]? := fun b hb _ => hg.block b hb
  cases bx with
  | var xs =>
    obtain ⟨b, vs, T, h1, h2, h3, h4⟩ := h
    exact ⟨b, vs, T, by rw [hι _ hn]; exact h1, h2, by rw [hg.block b (Array.getElem?_eq_some_iff.1 h3).1]; exact h3, h4.mono fun _ _ h => h.mono hU hw hι hN⟩
  | arr e sz rows =>
    obtain ⟨cells, h0, h1, h2, h3, h4, h5⟩ := h
    refine ⟨cells, h0, ?_, h2, h3, h4, fun i row j p hi hj => ?_⟩
    · rw [hι _ hn]
      exact World.ownsRow.kept (row := none) h1 ⟨hg.os, hg.tape, hg.output, hg.size, fun k hk _ => hg.block k hk⟩ (by cases (ι nm).ownBlock <;> simp)
    · obtain ⟨v, hv, hp⟩ := h5 i row j p hi hj
      exact ⟨v, hv, hp.mono hU hw⟩
  | map kt n ents =>
    obtain ⟨b, es, clock, h1, h2, h3, h4⟩ := h
    exact ⟨b, es, clock, by rw [hι _ hn]; exact h1, h2, by rw [hg.block b (Array.getElem?_eq_some_iff.1 h3).1]; exact h3, h4.mono fun _ _ h => h.mono hU hw⟩

theorem Sim.grow {w0 : World} {U : Gh} {σ : St} {ι : Pl} {a : Act} {w w' : World} (h : Sim w0 U σ ι a w) (hg : Below w.heap.size w w') : Sim w0 U σ ι a w' :=
  ⟨fun t => (h.val t).mono (fun _ _ h => h) (fun b hb _ => hg.block b hb) (fun _ _ => rfl) (Nat.le_refl _), h.defers, h.names,
   fun nm bx hf => (h.box nm bx hf).grow hg (fun _ _ h => h) (fun _ _ => rfl) (Nat.le_refl _) (h.names _ _ hf), h.apart, h.below.trans (hg.mono h.below.size),
   U.mono _ _ _ _ h.keep (fun _ _ h => h) (fun b hb _ => hg.block b hb), h.base⟩

theorem findB_cons {m : List (Nat × Box)} {k : Nat} {c : Box} {n : Nat} : findB ((k, c) :: m) n = if k = n then some c else findB m n := rfl

/-- A new thing of the call's own, in a new block. -/
theorem Sim.newBox {w0 : World} {U : Gh} {σ : St} {ι : Pl} {a : Act} {w w' : World} {bx : Box} {pv : Value} (h : Sim w0 U σ ι a w) (hg : Below w.heap.size w w')
    (hfresh : ∀ b, blockOf pv = some b → w.heap.size ≤ b)
    (hb : ∀ ι', (∀ nm, nm < σ.nx → ι' nm = ι nm) → ι' σ.nx = pv → (∀ b, b < w.heap.size → Free w0.heap.size U ι σ.mem b → Free w0.heap.size U ι' ((σ.nx, bx) :: σ.mem) b) → BoxRep w0.heap.size w' (Free w0.heap.size U ι' ((σ.nx, bx) :: σ.mem)) ι' (σ.nx + 1) σ.nx bx) :
    ∃ ι', Sim w0 U { σ with mem := (σ.nx, bx) :: σ.mem, nx := σ.nx + 1 } ι' a w' ∧ ι' σ.nx = pv ∧ (∀ nm, nm < σ.nx → ι' nm = ι nm) ∧
      (∀ b, b < w.heap.size → Free w0.heap.size U ι σ.mem b → Free w0.heap.size U ι' ((σ.nx, bx) :: σ.mem) b) := by
  let ι' : Pl := fun n => if n = σ.nx then pv else ι n
  have e1 : ι' σ.nx = pv := if_pos rfl
  have e2 : ∀ nm, nm < σ.nx → ι' nm = ι nm := fun nm hn => if_neg (by omega)
  have hfree : ∀ b, b < w.heap.size → Free w0.heap.size U ι σ.mem b → Free w0.heap.size U ι' ((σ.nx, bx) :: σ.mem) b := by
    intro b hb hf
    refine ⟨hf.1, fun nm bx' hn => ?_⟩
    rw [findB_cons] at hn
    by_cases e : σ.nx = nm
    · subst e
      rw [e1]
      intro hc
      have := hfresh b hc
      omega
    · rw [if_neg e] at hn
      rw [e2 _ (h.names _ _ hn)]
      exact hf.2 _ _ hn
  refine ⟨ι', ⟨fun t => ?_, h.defers, fun nm bx' hn => ?_, fun nm bx' hn => ?_, ?_, h.below.trans (hg.mono h.below.size), U.mono _ _ _ _ h.keep hfree (fun b hb _ => hg.block b hb), ⟨Nat.le_succ_of_le h.base.1, fun nm hn => (e2 nm (Nat.lt_of_lt_of_le hn h.base.1)).trans (h.base.2 nm hn)⟩⟩, e1, e2, hfree⟩
  · exact (h.val t).mono hfree (fun b hb _ => hg.block b hb) e2 (Nat.le_succ _)
  · rw [findB_cons] at hn
    show nm < σ.nx + 1
    by_cases e : σ.nx = nm
    · omega
    · rw [if_neg e] at hn
      have := h.names _ _ hn
      omega
  · rw [findB_cons] at hn
    by_cases e : σ.nx = nm
    · subst e
      rw [if_pos rfl] at hn
      cases hn
      exact hb ι' e2 e1 hfree
    · rw [if_neg e] at hn
      exact (h.box nm bx' hn).grow hg hfree e2 (Nat.le_succ _) (h.names _ _ hn)
  · intro nm nm' b1 b2 b h1 h2 h3 h4
    rw [findB_cons] at h1 h2
    by_cases e : σ.nx = nm
    · by_cases e' : σ.nx = nm'
      · omega
      · rw [if_neg e'] at h2
        subst e
        rw [e1] at h3
        rw [e2 _ (h.names _ _ h2)] at h4
        have := hfresh b h3
        have := ((h.box _ _ h2).block h4).2
        omega
    · rw [if_neg e] at h1
      by_cases e' : σ.nx = nm'
      · subst e'
        rw [e1] at h4
        rw [e2 _ (h.names _ _ h1)] at h3
        have := hfresh b h4
        have := ((h.box _ _ h1).block h3).2
        omega
      · rw [if_neg e'] at h2
        rw [e2 _ (h.names _ _ h1)] at h3
        rw [e2 _ (h.names _ _ h2)] at h4
        exact h.apart _ _ _ _ _ h1 h2 h3 h4

theorem findB_setB {m : List (Nat × Box)} {k : Nat} {c : Box} : ∀ {n : Nat}, findB (setB m k c) n = if k = n then (findB m n).map (fun _ => c) else findB m n := by
  induction m with
  | nil => intro n; simp [setB, findB]
  | cons x m ih =>
    intro n
    obtain ⟨k', b⟩ := x
    simp only [setB]
    by_cases e : k' = k
    · subst e
      rw [if_pos rfl, findB_cons, findB_cons]
      by_cases e' : k' = n
      · simp [e']
      · simp [e']
    · rw [if_neg e, findB_cons, findB_cons, ih]
      by_cases e' : k' = n
      · subst e'
        simp [Ne.symm e]
      · simp [e']
end Go.Abs
