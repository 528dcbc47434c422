/- The abstract machine: each of its operations is sound. Part 3: new variables, stores, fields, elements. -/
import Derived.Test.YtcbnnjadgkgheaaAbs6
set_option linter.unusedVariables false
set_option linter.unusedSimpArgs false
namespace Go.Abs
open Go.RowKit

section
variable {P : Program} {o : Oper} {a : Act} {w w0 : World} {U : Gh} {ι : Pl} {σ : St} {next : Act → World → Prop} {Q : Exit → Act → World → Prop} {K : AV → St → Prop}

theorem box_step {x : AV} {u : Value} {T : TypeId} {xs : List AC} (hx : x.cells = some xs) (hr : RepV w (Free w0.heap.size U ι σ.mem) ι σ.nx x u) (h : K (.c (.ptr σ.nx 0)) { σ with mem := (σ.nx, .var xs) :: σ.mem, nx := σ.nx + 1 })
    (hs : Sim w0 U σ ι a w) (hrun : (execOp a.eval o).run P w = .ok (.value (.pointer (some ⟨w.heap.size, 0, none⟩))) (w.alloc (.cells u.cells T))) (hn : Goes w0 U a o K next) : o.wp P a w next Q := by
  have hg : Below w.heap.size w (w.alloc (.cells u.cells T)) := (Below.refl _ _).alloc (Nat.le_refl _) _
  obtain ⟨ι', h1, h2, h3, h4⟩ := hs.newBox (pv := .pointer (some ⟨w.heap.size, 0, none⟩)) (bx := .var xs) hg (fun b hb => by simp [blockOf] at hb; omega) (fun ι' e1 e2 hfree => by
    refine ⟨w.heap.size, u.cells, T, e2, hs.below.size, heap_alloc_new _ _, ?_⟩
    exact (hr.cells hx).mono fun _ _ hr => hr.mono hfree (fun b hb _ => hg.block b hb) e1 (Nat.le_succ _))
  exact wp_value hrun (hn _ _ ι' _ _ h h1 (.c (.ptr (Nat.lt_succ_self _) h2)))

theorem op_box {T : TypeId} {x : Operand} {y : AX} (ho : o.op = .box T x) (hx : compX x = some y) (h : opW P (.box y) σ K) (hs : Sim w0 U σ ι a w) (hn : Goes w0 U a o K next) : o.wp P a w next Q := by
  have r1 := compX_rep hx hs
  simp only [opW] at h
  split at h
  · rename_i xs e
    exact box_step e r1 h hs (by simp [execOp, ho, Instr.box, newVar, newRow]; rfl) hn
  · exact h.elim
theorem op_alloc {T : TypeId} {z : Value} {y : AV} (ho : o.op = .alloc T) (hz : zeroOf P T = some z) (hx : constOf z = some y) (h : opW P (.box (.k y)) σ K) (hs : Sim w0 U σ ι a w) (hn : Goes w0 U a o K next) : o.wp P a w next Q := by
  simp only [opW] at h
  split at h
  · rename_i xs e
    unfold zeroOf at hz
    cases hi : P.info? T with
    | none => simp [hi] at hz
    | some i =>
      simp [hi] at hz
      refine box_step e (constOf_rep hx) h hs (T := T) ?_ hn
      simp [execOp, ho, Instr.alloc, zeroValue, typeInfo, hi, hz, newVar, newRow]
      try rfl
  · exact h.elim

theorem free_setB {B : Nat} {mem : List (Nat × Box)} {nm : Nat} {bx : Box} {b : Nat} : Free B U ι (setB mem nm bx) b ↔ Free B U ι mem b := by
  constructor
  · intro h
    refine ⟨h.1, fun n bx' hf => ?_⟩
    by_cases e : nm = n
    · exact h.2 n bx (by rw [findB_setB, if_pos e, hf]; rfl)
    · exact h.2 n bx' (by rw [findB_setB, if_neg e]; exact hf)
  · intro h
    refine ⟨h.1, fun n bx' hf => ?_⟩
    rw [findB_setB] at hf
    by_cases e : nm = n
    · rw [if_pos e] at hf
      cases hm : findB mem n with
      | none => simp [hm] at hf
      | some c => exact h.2 n c hm
    · rw [if_neg e] at hf
      exact h.2 n bx' hf

/-- A store into one of the call's own blocks. -/
theorem Sim.setBox (hs : Sim w0 U σ ι a w) {nm : Nat} {bx0 bx : Box} {b : Nat} {cs : Array Value} (hf : findB σ.mem nm = some bx0) (hb : blockOf (ι nm) = some b)
    (hbx : BoxRep w0.heap.size (w.setRow b cs) (Free w0.heap.size U ι σ.mem) ι σ.nx nm bx) : Sim w0 U { σ with mem := setB σ.mem nm bx } ι a (w.setRow b cs) := by
  have hB := ((hs.box _ _ hf).block hb).1
  have hfree : ∀ c, Free w0.heap.size U ι σ.mem c → Free w0.heap.size U ι (setB σ.mem nm bx) c := fun c h => free_setB.2 h
  have hne : ∀ c, Free w0.heap.size U ι σ.mem c → c ≠ b := fun c h e => h.2 _ _ hf (by rw [hb, e])
  have hw : ∀ c, c < w.heap.size → Free w0.heap.size U ι σ.mem c → (w.setRow b cs).heap[c]? = w.heap[c]? := fun c _ h => setRow_other _ _ _ _ (hne c h)
  refine ⟨fun t => (hs.val t).mono (fun c _ h => hfree c h) hw (fun _ _ => rfl) (Nat.le_refl _), hs.defers, fun n bx' hn => ?_, fun n bx' hn => ?_, fun n n' b1 b2 c h1 h2 h3 h4 => ?_, hs.below.trans ⟨rfl, rfl, rfl, by simp, fun k hk => setRow_other _ _ _ _ (by omega)⟩,
    U.mono _ _ _ _ hs.keep (fun c _ h => hfree c h) hw, hs.base⟩
  · rw [findB_setB] at hn
    by_cases e : nm = n
    · subst e; exact hs.names _ _ hf
    · rw [if_neg e] at hn; exact hs.names _ _ hn
  · rw [findB_setB] at hn
    by_cases e : nm = n
    · subst e
      rw [if_pos rfl, hf] at hn
      cases hn
      cases bx with
      | var xs =>
        obtain ⟨b', vs, T, h1, h2, h3, h4⟩ := hbx
        exact ⟨b', vs, T, h1, h2, h3, h4.mono fun _ _ h => h.mono (fun c _ h => hfree c h) (fun _ _ _ => rfl) (fun _ _ => rfl) (Nat.le_refl _)⟩
      | arr e sz rows =>
        obtain ⟨cells, h0, h1, h2, h3, h4, h5⟩ := hbx
        refine ⟨cells, h0, h1, h2, h3, h4, fun i row j p hi hj => ?_⟩
        obtain ⟨v, hv, hp⟩ := h5 i row j p hi hj
        exact ⟨v, hv, hp.mono (fun c _ h => hfree c h) (fun _ _ _ => rfl)⟩
      | map kt m ents =>
        obtain ⟨b', es, clock, h1, h2, h3, h4⟩ := hbx
        exact ⟨b', es, clock, h1, h2, h3, h4.mono fun _ _ h => h.mono (fun c _ h => hfree c h) (fun _ _ _ => rfl)⟩
    · rw [if_neg e] at hn
      have hbn : ∀ c, blockOf (ι n) = some c → c ≠ b := fun c hc e' => e (hs.apart _ _ _ _ b hf hn hb (by rw [hc, e']))
      have hold := hs.box _ _ hn
      cases bx' with
      | var xs =>
        obtain ⟨b', vs, T, h1, h2, h3, h4⟩ := hold
        exact ⟨b', vs, T, h1, h2, by rw [setRow_other _ _ _ _ (hbn b' (by rw [h1]; rfl))]; exact h3, h4.mono fun _ _ h => h.mono (fun c _ h => hfree c h) hw (fun _ _ => rfl) (Nat.le_refl _)⟩
      | arr e sz rows =>
        obtain ⟨cells, h0, h1, h2, h3, h4, h5⟩ := hold
        refine ⟨cells, h0, World.ownsRow.kept (row := some b) h1 ⟨rfl, rfl, rfl, by simp, fun k _ hk => setRow_other _ _ _ _ (fun e => hk (by rw [e]))⟩ ?_, h2, h3, h4, fun i row j p hi hj => ?_⟩
        · rcases h1.2 with ⟨h, _⟩ | ⟨g, cap, cur, h, _⟩
          · rw [h]; exact .inl rfl
          · right
            rw [h]
            intro e'
            simp [Value.ownBlock] at e'
            exact hbn g (by rw [h]; rfl) e'
        · obtain ⟨v, hv, hp⟩ := h5 i row j p hi hj
          exact ⟨v, hv, hp.mono (fun c _ h => hfree c h) hw⟩
      | map kt m ents =>
        obtain ⟨b', es, clock, h1, h2, h3, h4⟩ := hold
        exact ⟨b', es, clock, h1, h2, by rw [setRow_other _ _ _ _ (hbn b' (by rw [h1]; rfl))]; exact h3, h4.mono fun _ _ h => h.mono (fun c _ h => hfree c h) hw⟩
  · have h1' : ∃ c, findB σ.mem n = some c := by
      rw [findB_setB] at h1
      by_cases e : nm = n
      · subst e; exact ⟨_, hf⟩
      · rw [if_neg e] at h1; exact ⟨_, h1⟩
    have h2' : ∃ c, findB σ.mem n' = some c := by
      rw [findB_setB] at h2
      by_cases e : nm = n'
      · subst e; exact ⟨_, hf⟩
      · rw [if_neg e] at h2; exact ⟨_, h2⟩
    obtain ⟨c1, h1'⟩ := h1'
    obtain ⟨c2, h2'⟩ := h2'
    exact hs.apart _ _ _ _ _ h1' h2' h3 h4

theorem All2.over {α β : Type} {R : α → β → Prop} {as as' : List α} {bs bs' : List β} (h : All2 R as bs) (h' : All2 R as' bs') (off : Nat) : All2 R (over as off as') (over bs off bs') := by
  unfold Abs.over
  rw [← h'.length]
  exact ((h.take off).append h').append (h.drop _)

theorem oneCells {xs : List AC} {vs : List Value} {N : Nat} {V : Nat → Prop} (h : All2 (RepA w V ι N) xs vs) : ∀ v ∈ vs, v.oneCell' = true := by
  induction h with
  | nil => simp
  | cons h _ ih =>
    intro v hv
    rcases List.mem_cons.1 hv with rfl | hv
    · exact h.one
    · exact ih v hv

theorem pcA_rep {V : Nat → Prop} {N : Nat} {x : AC} {z : PC} {v : Value} (h : RepA w V ι N x v) (hz : pcA x = some z) : RepP w V z v := by
  cases h with
  | pure h => cases hz; exact h
  | nils => cases hz; exact .nil
  | tsl h => cases hz; exact h
  | _ => cases hz
theorem pcAs_rep {V : Nat → Prop} {N : Nat} {xs : List AC} {vs : List Value} (h : All2 (RepA w V ι N) xs vs) : ∀ {zs : List PC}, pcAs xs = some zs → All2 (RepP w V) zs vs := by
  induction h with
  | nil => intro zs hz; cases hz; exact .nil
  | cons h t ih =>
    intro zs hz
    unfold pcAs at hz
    split at hz
    · cases hz
      exact .cons (pcA_rep h ‹_›) (ih ‹_›)
    · cases hz

theorem run_storeVar {t : TypeId} {n b off : Nat} {u : Value} {cur : Array Value} {T : TypeId} (ht : sizeOf? P t = some n) (hn : u.cells.size = n) (hcur : w.heap[b]? = some (.cells cur T (0, 0))) (hle : off + n ≤ cur.size) (h1 : ∀ v ∈ u.cells.toList, v.oneCell' = true) :
    (storeVar t ⟨b, off, none⟩ u).run P w = .ok () (w.setRow b (over cur.toList off u.cells.toList).toArray) := by
  unfold sizeOf? at ht
  cases hi : P.info? t with
  | none => simp [hi] at ht
  | some i =>
    simp [hi] at ht
    have h := run_storeCells_at (P := P) b off T u.cells.toList 0 cur w hcur (by simp; omega) h1
    simp only [Nat.add_zero] at h
    simp [storeVar, sizeOf, typeInfo, hi, ht, hn, h, over]
end
end Go.Abs
