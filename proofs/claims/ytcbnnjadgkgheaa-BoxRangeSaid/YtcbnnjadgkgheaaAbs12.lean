/- The abstract machine: each of its operations is sound. Part 8: an array of the call's own that grows. -/
import Derived.Test.YtcbnnjadgkgheaaAbs11
set_option linter.unusedVariables false
set_option linter.unusedSimpArgs false
namespace Go.Abs
open Go.RowKit

section
variable {P : Program} {o : Oper} {a : Act} {w w' w0 : World} {U : Gh} {ι : Pl} {σ : St} {next : Act → World → Prop} {Q : Exit → Act → World → Prop} {K : AV → St → Prop}

theorem findB_delB {nm t : Nat} : ∀ {m : List (Nat × Box)}, findB (delB m nm) t = if t = nm then none else findB m t
  | [] => by simp [delB, findB]
  | (s, b) :: m => by
    simp only [delB]
    by_cases e : s = nm
    · rw [if_pos e, findB_delB, findB_cons]
      by_cases e2 : t = nm
      · rw [if_pos e2, if_pos e2]
      · rw [if_neg e2, if_neg e2, if_neg (by omega)]
    · rw [if_neg e, findB_cons, findB_cons, findB_delB]
      by_cases e2 : t = nm
      · rw [if_pos e2, if_pos e2, if_neg (by omega)]
      · rw [if_neg e2, if_neg e2]

/-- An array of the call's own has grown, perhaps into a new block: it has a new name. -/
theorem Sim.replace (hs : Sim w0 U σ ι a w) {nm e sz : Nat} {rows rows' : List (List PC)} {pv : Value} {cells : List Value} (hf : findB σ.mem nm = some (.arr e sz rows)) (hg : w.grownBy w' (blockOf (ι nm)))
    (hpv : ∀ b, blockOf pv = some b → blockOf (ι nm) = some b ∨ w.heap.size ≤ b) (hsl : ∃ a n c, pv = .slice a n c) (h0 : 0 < sz) (how : w'.ownsRow w0.heap.size e sz pv rows'.length cells) (hm : rows'.length ≤ 9223372036854775807)
    (hrows : RowsRep w (Free w0.heap.size U ι σ.mem) sz rows' cells) (hbelow : Below w0.heap.size w0 w') :
    ∃ ι', ι' σ.nx = pv ∧ σ.nx < σ.nx + 1 ∧ Sim w0 U { σ with mem := (σ.nx, .arr e sz rows') :: delB σ.mem nm, nx := σ.nx + 1 } ι' a w' := by
  let ι' : Pl := fun n => if n = σ.nx then pv else ι n
  have e1 : ι' σ.nx = pv := if_pos rfl
  have e2 : ∀ m, m < σ.nx → ι' m = ι m := fun m hm => if_neg (by omega)
  let mem' := (σ.nx, Box.arr e sz rows') :: delB σ.mem nm
  have hdom : ∀ n bx, findB mem' n = some bx → (n = σ.nx ∧ bx = .arr e sz rows') ∨ (n ≠ nm ∧ n < σ.nx ∧ findB σ.mem n = some bx) := by
    intro n bx h
    simp only [mem', findB_cons, findB_delB] at h
    by_cases en : σ.nx = n
    · rw [if_pos en] at h
      cases h
      exact .inl ⟨en.symm, rfl⟩
    · rw [if_neg en] at h
      by_cases en' : n = nm
      · rw [if_pos en'] at h; cases h
      · rw [if_neg en'] at h
        exact .inr ⟨en', hs.names _ _ h, h⟩
  have hfree : ∀ b, b < w.heap.size → Free w0.heap.size U ι σ.mem b → Free w0.heap.size U ι' mem' b := by
    intro b hb h
    refine ⟨h.1, fun n bx hn => ?_⟩
    rcases hdom n bx hn with ⟨rfl, _⟩ | ⟨h1, h2, h3⟩
    · rw [e1]
      intro hc
      rcases hpv b hc with h2 | h2
      · exact h.2 _ _ hf h2
      · omega
    · rw [e2 n h2]
      exact h.2 _ _ h3
  have hw : ∀ b, b < w.heap.size → Free w0.heap.size U ι σ.mem b → w'.heap[b]? = w.heap[b]? := fun b hb h => hg.block b hb (fun e => h.2 _ _ hf e.symm)
  refine ⟨ι', e1, Nat.lt_succ_self _, ⟨fun t => ?_, hs.defers, fun n bx hn => ?_, fun n bx hn => ?_, fun n n' b1 b2 b h1 h2 h3 h4 => ?_, hbelow, U.mono _ _ _ _ hs.keep hfree hw,
    ⟨Nat.le_succ_of_le hs.base.1, fun m hm => (e2 m (Nat.lt_of_lt_of_le hm hs.base.1)).trans (hs.base.2 m hm)⟩⟩⟩
  · exact (hs.val t).mono hfree hw e2 (Nat.le_succ _)
  · show n < σ.nx + 1
    rcases hdom n bx hn with ⟨rfl, _⟩ | ⟨h1, h2, h3⟩ <;> omega
  · rcases hdom n bx hn with ⟨rfl, rfl⟩ | ⟨h1, h2, h3⟩
    · exact ⟨cells, h0, by rw [e1]; exact how, hm, hrows.mono hfree hw⟩
    · have hbn : ∀ c, blockOf (ι n) = some c → blockOf (ι nm) ≠ some c := fun c hc e' => h1 (hs.apart _ _ _ _ c h3 hf hc e')
      have hbx := hs.box _ _ h3
      cases bx with
      | var xs =>
        obtain ⟨b', vs, T, g1, g2, g3, g4⟩ := hbx
        refine ⟨b', vs, T, by rw [e2 n h2]; exact g1, g2, ?_, g4.mono fun _ _ h => h.mono hfree hw e2 (Nat.le_succ _)⟩
        rw [hg.block b' (Array.getElem?_eq_some_iff.1 g3).1 (fun e => hbn b' (by rw [g1]; rfl) e.symm)]
        exact g3
      | arr e' sz' rows0 =>
        obtain ⟨cells', k0, k1, k2, k3⟩ := hbx
        refine ⟨cells', k0, ?_, k2, k3.mono hfree hw⟩
        rw [e2 n h2]
        refine World.ownsRow.kept k1 hg ?_
        rcases k1.2 with ⟨h, _⟩ | ⟨g, cap, cur, h, _⟩
        · rw [h]; exact .inl rfl
        · right
          rw [h]
          intro e'
          exact hbn g (by rw [h]; rfl) e'.symm
      | map kt m ents =>
        obtain ⟨b', es, clock, k1, k2, k3, k4⟩ := hbx
        refine ⟨b', es, clock, by rw [e2 n h2]; exact k1, k2, ?_, k4.mono fun _ _ h => h.mono hfree hw⟩
        rw [hg.block b' (Array.getElem?_eq_some_iff.1 k3).1 (fun e => hbn b' (by rw [k1]; rfl) e.symm)]
        exact k3
  · rcases hdom n b1 h1 with ⟨rfl, _⟩ | ⟨k1, k2, k3⟩
    · rcases hdom n' b2 h2 with ⟨rfl, _⟩ | ⟨k1', k2', k3'⟩
      · rfl
      · rw [e1] at h3
        rw [e2 _ k2'] at h4
        rcases hpv b h3 with h5 | h5
        · exact absurd (hs.apart _ _ _ _ b k3' hf h4 h5) k1'
        · have := ((hs.box _ _ k3').block h4).2
          omega
    · rw [e2 _ k2] at h3
      rcases hdom n' b2 h2 with ⟨rfl, _⟩ | ⟨k1', k2', k3'⟩
      · rw [e1] at h4
        rcases hpv b h4 with h5 | h5
        · exact absurd (hs.apart _ _ _ _ b k3 hf h3 h5) k1
        · have := ((hs.box _ _ k3).block h3).2
          omega
      · rw [e2 _ k2'] at h4
        exact hs.apart _ _ _ _ b k3 k3' h3 h4
end
end Go.Abs
