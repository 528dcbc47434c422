/- The abstract machine: a nil slice as one that nobody writes. -/
import Derived.Test.YtfjnhdfhgenkdaaGreatDoorAbsQ
set_option linter.unusedVariables false
set_option linter.unusedSimpArgs false
namespace Go.Abs
open Go.RowKit

section
variable {P : Program} {σ : St} {nt : Nat}
theorem AW_nilM {c : ACode} {Q : AExit → St → Prop} (nm i : Nat) (xs : List AC) (hf : findB σ.mem nm = some (.var xs)) (hi : xs[i]? = some .nils)
  (h : AW P nt c { σ with mem := setB σ.mem nm (.var (xs.set i (.pure (.slice [])))) } Q) : AW P nt c σ Q := by
 intro c' hc w0 U rd ds ι a w hrd hs hz
 obtain ⟨b, vs, T, g1, g2, g3, g4⟩ := hs.box _ _ hf
 have hset := hs.setBox (cs := vs) hf (b := b) (by rw [g1]; rfl) (bx := .var (xs.set i (.pure (.slice [])))) ⟨b, vs, T, g1, g2, setRow_heap _ _ _ _ _ _ g3, by
  rw [setRow_self w b vs T _ g3]
  refine All2.of_get (by rw [List.length_set]; exact g4.length) fun j x v hj hv => ?_
  rw [List.getElem?_set] at hj
  by_cases e1 : i = j
  ·subst e1
   have hlt := (List.getElem?_eq_some_iff.1 hi).1
   rw [if_pos rfl, if_pos hlt] at hj
   cases hj
   obtain ⟨v', hv', hr⟩ := g4.get hi
   rw [hv'] at hv
   cases hv
   have : v = .slice none 0 0 := by cases hr; rfl
   rw [this]
   exact .pure .nil
  ·rw [if_neg e1] at hj
   obtain ⟨v', hv', hr⟩ := g4.get hj
   rw [hv'] at hv
   cases hv
   exact hr⟩
 rw [setRow_self w b vs T _ g3] at hset
 exact h c' hc w0 U rd ds ι a w hrd hset hz
theorem AW_nilF {c : ACode} {Q : AExit → St → Prop} (t : Nat) (ht : look σ.fr t = .c .nils) (h : AW P nt c { σ with fr := (t, .c (.pure (.slice []))) :: σ.fr } Q) : AW P nt c σ Q := by
 intro c' hc w0 U rd ds ι a w hrd hs hz
 refine h c' hc w0 U rd ds ι a w hrd ⟨fun s => ?_, hs.defers, hs.names, hs.box, hs.apart, hs.below, hs.keep, hs.base⟩ hz
 show RepV w (Free w0.heap.size U ι σ.mem) ι σ.nx (look ((t, .c (.pure (.slice []))) :: σ.fr) s) _
 rw [look_put]
 by_cases es : t = s
 ·subst es
  rw [if_pos rfl]
  have hv := hs.val t
  rw [ht] at hv
  generalize a.tmps.getD t undef = v at hv
  cases hv with
  | c hv => cases hv; exact .c (.pure .nil)
 ·rw [if_neg es]
  exact hs.val s
/-- A nil slice as a literal without elements. -/
theorem AW_nilT {c : ACode} {Q : AExit → St → Prop} (t : Nat) (ht : look σ.fr t = .c .nils) (h : AW P nt c { σ with fr := (t, .c (.tsl [])) :: σ.fr } Q) : AW P nt c σ Q := by
 intro c' hc w0 U rd ds ι a w hrd hs hz
 refine h c' hc w0 U rd ds ι a w hrd ⟨fun s => ?_, hs.defers, hs.names, hs.box, hs.apart, hs.below, hs.keep, hs.base⟩ hz
 show RepV w (Free w0.heap.size U ι σ.mem) ι σ.nx (look ((t, .c (.tsl [])) :: σ.fr) s) _
 rw [look_put]
 by_cases es : t = s
 ·subst es
  rw [if_pos rfl]
  have hv := hs.val t
  rw [ht] at hv
  generalize a.tmps.getD t undef = v at hv
  cases hv with
  | c hv => cases hv; exact .c (.tsl .nil)
 ·rw [if_neg es]
  exact hs.val s
end
/-! A frame of the caller's variables beside a call that works on the caller's memory. -/

theorem ICalls.perm {P : Program} {f : FuncId} {args : List AV} {mem mem2 mem' : List (Nat × Box)} {nx nx' : Nat} {res : AV} (h : ICalls P f args mem nx res mem' nx') (hp : ∀ nm, findB mem2 nm = findB mem nm) : ICalls P f args mem2 nx res mem' nx' := by
 refine ⟨h.1, fun w0 U ι w vs hs hr => ?_⟩
 have hs' : Sim w0 U ⟨[], mem, nx, nx⟩ ι { tmps := #[], defers := [] } w := hs.sub (mem := mem) (fun n bx hf => by show findB mem2 n = _; rw [hp]; exact hf)
 exact h.2 w0 U ι w vs hs' (hr.mono fun a b h => h.mono (fun b _ h => ⟨h.1, fun nm bx hf => h.2 nm bx (by rw [hp]; exact hf)⟩) (fun _ _ _ => rfl) (fun _ _ => rfl) (Nat.le_refl _))

def flatC : AC → Bool
 | .pure _ => true
 | .nils => true
 | _ => false
def flatX : Box → Bool
 | .var xs => xs.all flatC
 | _ => false
/-- Variables without names in them; their own names lie below N and are not those that were seen. -/
def frOk (N : Nat) : List Nat → List (Nat × Box) → Prop
 | _, [] => True
 | seen, (nm, b) :: r => nm < N ∧ flatX b = true ∧ notIn nm seen ∧ frOk N (nm :: seen) r
theorem notIn_iff {n : Nat} : ∀ {l : List Nat}, notIn n l ↔ ∀ m ∈ l, n ≠ m
 | [] => by simp [notIn]
 | m :: r => by simp [notIn, notIn_iff (l := r)]
theorem frOk.mem {N : Nat} : ∀ {F : List (Nat × Box)} {s : List Nat}, frOk N s F → ∀ x ∈ F, x.1 < N ∧ flatX x.2 = true ∧ notIn x.1 s
 | [], s, _, x, hx => by cases hx
 |(nm, b) :: r, s, h, x, hx => by
  rcases List.mem_cons.1 hx with rfl | hx
  ·exact ⟨h.1, h.2.1, h.2.2.1⟩
  ·obtain ⟨h1, h2, h3⟩ := frOk.mem h.2.2.2 x hx
   exact ⟨h1, h2, h3.2⟩
theorem frOk.find {N : Nat} : ∀ {F : List (Nat × Box)} {s : List Nat}, frOk N s F → ∀ x ∈ F, findB F x.1 = some x.2
 | [], s, _, x, hx => by cases hx
 |(nm, b) :: r, s, h, x, hx => by
  rcases List.mem_cons.1 hx with rfl | hx
  ·simp [findB]
  ·have h3 := (frOk.mem h.2.2.2 x hx).2.2.1
   rw [findB, if_neg (fun e => h3 e.symm)]
   exact frOk.find h.2.2.2 x hx
theorem frOk.mono {N N' : Nat} (hN : N ≤ N') : ∀ {F : List (Nat × Box)} {s s' : List Nat}, frOk N s F → (∀ n, n < N → notIn n s → notIn n s') → frOk N' s' F
 | [], s, s', _, _ => trivial
 | (nm, b) :: r, s, s', h, hs => ⟨Nat.lt_of_lt_of_le h.1 hN, h.2.1, hs _ h.1 h.2.2.1, frOk.mono hN h.2.2.2 (fun n hn h' => ⟨h'.1, hs _ hn h'.2⟩)⟩
theorem delB_not {n : Nat} : ∀ {F : List (Nat × Box)}, (∀ x ∈ F, x.1 ≠ n) → delB F n = F
 | [], _ => rfl
 |(nm, b) :: r, h => by
  rw [delB, if_neg (h _ List.mem_cons_self), delB_not (fun x hx => h x (List.mem_cons_of_mem _ hx))]
theorem frOk.del {N n : Nat} {F : List (Nat × Box)} {s : List Nat} (h : frOk N s F) (hn : n ∈ s ∨ N ≤ n) : delB F n = F :=
 delB_not fun x hx e => by
  obtain ⟨h1, _, h3⟩ := h.mem x hx
  rcases hn with hn | hn
  ·exact notIn_iff.1 h3 n hn e
  ·omega
theorem flat_cell {x : AC} (h : flatC x = true) (nm : Nat) (rows : List (List PC)) : frz1 nm rows x = x := by cases x <;> simp_all [flatC, frz1]
theorem flat_frz {b : Box} (h : flatX b = true) (nm : Nat) (rows : List (List PC)) : frzB nm rows b = b := by
 cases b with
 | var xs =>
  simp only [flatX, List.all_eq_true] at h
  simp only [frzB]
  rw [List.map_congr_left (fun x hx => flat_cell (h x hx) nm rows)]
  simp
 | arr => rfl
 | map => cases h
theorem frOk.frz {N n : Nat} {rows : List (List PC)} : ∀ {F : List (Nat × Box)} {s : List Nat}, frOk N s F → n ∈ s ∨ N ≤ n → frzM n rows F = F
 | [], s, _, _ => rfl
 |(nm, b) :: r, s, h, hn => by
  have h0 : ¬ nm = n := by
   rcases hn with hn | hn
   ·exact notIn_iff.1 h.2.2.1 n hn
   ·have := h.1; omega
  rw [frzM, if_neg h0, flat_frz h.2.1, frOk.frz h.2.2.2 (hn.imp_left (List.mem_cons_of_mem _))]
theorem flat_ren {b : Box} (h : flatX b = true) (l : List (Nat × Nat)) : renB l b = b := by
 cases b with
 | var xs =>
  simp only [flatX, List.all_eq_true] at h
  simp only [renB]
  have : ∀ x ∈ xs, renA l x = x := fun x hx => by have := h x hx; cases x <;> simp_all [flatC, renA]
  rw [List.map_congr_left this]
  simp
 | arr => rfl
 | map => cases h
theorem flat_cl {b : Box} (h : flatX b = true) (N : Nat) : clB N b := by
 cases b with
 | var xs =>
  simp only [flatX, List.all_eq_true] at h
  simp only [clB]
  induction xs with
  | nil => trivial
  | cons x xs ih => exact ⟨by have := h x List.mem_cons_self; cases x <;> simp_all [flatC, clA], ih fun y hy => h y (List.mem_cons_of_mem _ hy)⟩
 | arr => trivial
 | map => cases h
theorem frOk.wkAux {base N' : Nat} {l : List (Nat × Nat)} {mem : List (Nat × Box)} (hl : wkL base l) (hN : base ≤ N') : ∀ {F : List (Nat × Box)} {s seen : List Nat}, frOk base s F → (∀ n ∈ seen, n ∈ s ∨ base ≤ n) → (∀ x ∈ F, findB mem x.1 = some x.2) → wkM l mem N' seen F
 | [], s, seen, _, _, _ => trivial
 |(nm, b) :: r, s, seen, h, hs, hm => by
  have e : rn l nm = nm := wkL_rn hl h.1
  refine ⟨?_, Nat.lt_of_lt_of_le h.1 hN, flat_cl h.2.1 _, ?_, ?_⟩
  ·rw [e, flat_ren h.2.1]
   exact hm _ List.mem_cons_self
  ·rw [e]
   refine notIn_iff.2 fun m hm e => ?_
   rcases hs m hm with h' | h'
   ·exact notIn_iff.1 h.2.2.1 m h' e
   ·have := h.1; omega
  ·rw [e]
   refine frOk.wkAux hl hN h.2.2.2 (fun n hn => ?_) (fun x hx => hm x (List.mem_cons_of_mem _ hx))
   rcases List.mem_cons.1 hn with rfl | hn
   ·exact .inl List.mem_cons_self
   ·exact (hs n hn).imp_left (List.mem_cons_of_mem _)
/-- The frame in a weaker state. -/
theorem frOk.wk {base N' : Nat} {l : List (Nat × Nat)} {mem F : List (Nat × Box)} {s seen : List Nat} (h : frOk base s F) (hl : wkL base l) (hN : base ≤ N') (hs : ∀ n ∈ seen, n ∈ s ∨ base ≤ n)
  (hm : ∀ nm bx, nm < base → notIn nm s → findB F nm = some bx → findB mem nm = some bx) : wkM l mem N' seen F :=
 frOk.wkAux hl hN h hs fun x hx => by
  obtain ⟨h1, _, h3⟩ := h.mem x hx
  exact hm _ _ h1 h3 (h.find x hx)
theorem wkM_cons {l : List (Nat × Nat)} {mem r : List (Nat × Box)} {N nm : Nat} {seen : List Nat} {b : Box} (h1 : findB mem (rn l nm) = some (renB l b)) (h2 : nm < N) (h3 : clB N b) (h4 : notIn (rn l nm) seen) (h5 : wkM l mem N (rn l nm :: seen) r) : wkM l mem N seen ((nm, b) :: r) := ⟨h1, h2, h3, h4, h5⟩
theorem wkM_nil {l : List (Nat × Nat)} {mem : List (Nat × Box)} {N : Nat} {seen : List Nat} : wkM l mem N seen [] := trivial
theorem Wk_intro {l : List (Nat × Nat)} {σ σ' : St} (h1 : wkF l σ.fr σ'.nx σ'.fr) (h2 : wkM l σ.mem σ'.nx [] σ'.mem) (h3 : σ'.base = σ.base) (h4 : σ.base ≤ σ'.nx) (h5 : wkL σ.base l) : Wk l σ σ' := ⟨h1, h2, h3, h4, h5⟩
/-- At a call, one array of the call's own is given away. -/
theorem callW_z1 (nm e sz : Nat) (rows : List (List PC)) {P : Program} {g : Bool} {f : FuncId} {args pargs : List AV} {σ : St} {K : Blk (AV → St → Prop)} {res : AV} (h : PCalls P f pargs res) (hf : findB σ.mem nm = some (.arr e sz rows))
  (hp : purVs (σ.frz nm rows).mem (args.map (frzV nm rows)) = some pargs) (hs : flatV res = true ∨ (args.map (frzV nm rows)).all norefV = true) (hk : K.out res (σ.frz nm rows)) : @callW P g true f args σ K :=
 callW_z [nm] h (by rw [frzLA, hf]; rfl) hp hs hk
theorem callW_zi1 (nm e sz : Nat) (rows : List (List PC)) {P : Program} {f : FuncId} {args : List AV} {σ : St} {K : Blk (AV → St → Prop)} {res : AV} {mem' : List (Nat × Box)} {nx' : Nat} (hf : findB σ.mem nm = some (.arr e sz rows))
  (h : ICalls P f (args.map (frzV nm rows)) (σ.frz nm rows).mem σ.nx res mem' nx') (hk : K.out res { σ.frz nm rows with mem := mem', nx := nx' }) : @callW P true true f args σ K :=
 callW_zi [nm] (by rw [frzLA, hf]; rfl) h hk
/-- Two names that are not the same. -/
theorem ifN {α : Type} {k n : Nat} {a b : α} (h : ¬ k = n) : (if k = n then a else b) = b := if_neg h
theorem ifNP {k n : Nat} {a b : Prop} (h : ¬ k = n) : (if k = n then a else b) = b := if_neg h
end Go.Abs
