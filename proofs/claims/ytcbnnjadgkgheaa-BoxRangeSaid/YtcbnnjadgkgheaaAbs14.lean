/- The abstract machine: each of its operations is sound. Part 10: closures, calls; all together. -/
import Derived.Test.YtcbnnjadgkgheaaAbs13
set_option linter.unusedVariables false
set_option linter.unusedSimpArgs false
namespace Go.Abs
open Go.RowKit

section
variable {P : Program} {o : Oper} {a : Act} {w w' w0 : World} {U : Gh} {ι : Pl} {σ : St} {next : Act → World → Prop} {Q : Exit → Act → World → Prop} {K : AV → St → Prop}

theorem All2.ofMem {R : AC → Value → Prop} {xs : List AC} {vs : List Value} (h : All2 R xs vs) (i : Nat) (x : AC) (hi : xs[i]? = some x) : R x (vs[i]?.getD undef) := by
  obtain ⟨v, hv, hr⟩ := h.get hi
  rw [hv]
  exact hr

theorem mkfn_caps (hs : Sim w0 U σ ι a w) : ∀ {caps : List Operand} {xs : List AX} {acc : List AC} {vs : List Value} {R : List AC → Prop}, compXs caps = some xs → opW.mkfnW σ xs acc R → All2 (RepA w (Free w0.heap.size U ι σ.mem) ι σ.nx) acc vs →
    ∃ ys, All2 (RepA w (Free w0.heap.size U ι σ.mem) ι σ.nx) ys (vs ++ caps.map a.eval) ∧ R ys
  | [], xs, acc, vs, R, hx, h, hacc => by
    cases hx
    exact ⟨acc, by simpa using hacc, h⟩
  | x :: caps, xs, acc, vs, R, hx, h, hacc => by
    unfold compXs at hx
    split at hx
    · rename_i y ys h1 h2
      cases hx
      simp only [opW.mkfnW] at h
      have r1 := compX_rep h1 hs
      split at h
      · rename_i z e
        rw [e] at r1
        cases r1 with
        | c r1 =>
          obtain ⟨ys', hr, hR⟩ := mkfn_caps hs (vs := vs ++ [a.eval x]) h2 h (hacc.append (.cons r1 .nil))
          exact ⟨ys', by simpa using hr, hR⟩
      · exact h.elim
    · cases hx

theorem op_mkfn {f : FuncId} {first caps : Array Operand} {xs : List AX} (ho : o.op = .makeFunc (.func f) first caps) (hf : first.size = 0) (hx : compXs caps.toList = some xs) (h : opW P (.mkfn f xs) σ K) (hs : Sim w0 U σ ι a w) (hn : Goes w0 U a o K next) : o.wp P a w next Q := by
  simp only [opW] at h
  obtain ⟨ys, hr, hR⟩ := mkfn_caps hs hx h .nil
  have hf0 : first = #[] := Array.eq_empty_of_size_eq_zero hf
  refine wp_value (u := .func (.func f) #[] (caps.map a.eval)) (w' := w) ?_ (hn _ σ ι _ w hR hs (.c (.clo ?_ fun i x hi => ?_)))
  · simp [execOp, ho, Instr.makeFunc, hf0]
  · have := hr.length
    simpa using this
  · have := hr.ofMem i x hi
    simpa using this

theorem purP_rep {V : Nat → Prop} {x : AC} {y : PC} {v : Value} (hs : Sim w0 U σ ι a w) (h : RepA w (Free w0.heap.size U ι σ.mem) ι σ.nx x v) (hp : purP σ.mem x = some y) (hV : ∀ b, Free w0.heap.size U ι σ.mem b → V b) (hN : norefC x = true ∨ ∀ b, w0.heap.size ≤ b → V b) : RepP w V y v := by
  have hmono : ∀ {p : PC} {v : Value}, RepP w (Free w0.heap.size U ι σ.mem) p v → RepP w V p v := fun h => h.mono (fun b _ h => hV b h) (fun _ _ _ => rfl)
  cases h with
  | pure h => cases hp; exact hmono h
  | nils => cases hp; exact .nil
  | tsl h => cases hp; exact hmono h
  | ref hn hex =>
    simp only [purP] at hp
    split at hp
    · rename_i e sz rows hf
      cases hp
      have hall : ∀ b, w0.heap.size ≤ b → V b := by
        rcases hN with h | h
        · simp [norefC] at h
        · exact h
      obtain ⟨cells, g0, g1, g2, g3⟩ := hs.box _ _ hf
      rcases g1.2 with ⟨e1, e2⟩ | ⟨g, cap, cur, e1, hB, _⟩
      · have : rows = [] := List.eq_nil_of_length_eq_zero e2
        subst this
        rw [e1]
        exact .nil
      · rw [e1] at g1 ⊢
        exact own_pure g1 rfl (g3.mono (fun b _ h => hV b h) (fun _ _ _ => rfl)) (hall _ hB) g2
    · cases hp
  | _ => cases hp
theorem purPs_reps {V : Nat → Prop} {xs : List AC} {vs : List Value} (hs : Sim w0 U σ ι a w) (h : All2 (RepA w (Free w0.heap.size U ι σ.mem) ι σ.nx) xs vs) (hV : ∀ b, Free w0.heap.size U ι σ.mem b → V b) (hN : ∀ b, w0.heap.size ≤ b → V b) : ∀ {ys : List PC}, purPs σ.mem xs = some ys → All2 (RepP w V) ys vs := by
  induction h with
  | nil => intro ys hp; cases hp; exact .nil
  | cons h t ih =>
    intro ys hp
    unfold purPs at hp
    split at hp
    · cases hp
      exact .cons (purP_rep hs h ‹_› hV (.inr hN)) (ih ‹_›)
    · cases hp
/-- What is pure reads so in whatever memory holds it. -/
theorem purC_rep {V : Nat → Prop} {x y : AC} {v : Value} (hs : Sim w0 U σ ι a w) (h : RepA w (Free w0.heap.size U ι σ.mem) ι σ.nx x v) (hp : purC σ.mem x = some y) (hV : ∀ b, Free w0.heap.size U ι σ.mem b → V b) (hN : norefC x = true ∨ ∀ b, w0.heap.size ≤ b → V b) : RepA w V (fun _ => undef) 0 y v := by
  have hmono : ∀ {p : PC} {v : Value}, RepP w (Free w0.heap.size U ι σ.mem) p v → RepP w V p v := fun h => h.mono (fun b _ h => hV b h) (fun _ _ _ => rfl)
  have h' := h
  cases h with
  | pure h => cases hp; exact .pure (hmono h)
  | nils => cases hp; exact .pure .nil
  | tsl h => cases hp; exact .pure (hmono h)
  | cptr g hc =>
    cases hp
    refine .cptr g fun j p hj => ?_
    obtain ⟨h1, h2, h3⟩ := hc j p hj
    exact ⟨hV _ h1, h2, hmono h3⟩
  | ref hn hex =>
    simp only [purC] at hp
    split at hp
    · rename_i e sz rows hf
      cases hp
      exact .pure (purP_rep hs h' (by simp [purP, hf]) hV hN)
    · cases hp
  | @ptr nm off b hn hι =>
    simp only [purC] at hp
    split at hp
    · rename_i xs hf
      split at hp
      · rename_i ps hps
        cases hp
        have hall : ∀ b, w0.heap.size ≤ b → V b := by
          rcases hN with h | h
          · simp [norefC] at h
          · exact h
        obtain ⟨b', vs, T, g1, g2, g3, g4⟩ := hs.box _ _ hf
        rw [hι] at g1
        simp at g1
        subst g1
        have hr := purPs_reps hs g4 hV hall hps
        refine .cptr (fun j => (vs.toList[off + j]?).getD undef) fun j p hj => ?_
        rw [List.getElem?_drop] at hj
        obtain ⟨u, hu, hrp⟩ := hr.get hj
        refine ⟨hall _ g2, ?_, ?_⟩
        · rw [cell_of_row w b _ vs T (0, 0) g3, hu]
          simpa using hu
        · rw [hu]; exact hrp
      · cases hp
    · cases hp
  | _ => cases hp
theorem purCs_reps {V : Nat → Prop} : ∀ {xs : List AC} {vs : List Value}, Sim w0 U σ ι a w → xs.length = vs.length → (∀ (i : Nat) x, xs[i]? = some x → RepA w (Free w0.heap.size U ι σ.mem) ι σ.nx x (vs[i]?.getD undef)) → (∀ b, Free w0.heap.size U ι σ.mem b → V b) → (xs.all norefC = true ∨ ∀ b, w0.heap.size ≤ b → V b) →
    ∀ {ys : List AC}, purCs σ.mem xs = some ys → ys.length = vs.length ∧ ∀ (i : Nat) y, ys[i]? = some y → RepA w V (fun _ => undef) 0 y (vs[i]?.getD undef)
  | [], vs, hs, hl, h, hV, hN, ys, hp => by cases hp; exact ⟨hl, by simp⟩
  | x :: xs, [], hs, hl, h, hV, hN, ys, hp => by simp at hl
  | x :: xs, v :: vs, hs, hl, h, hV, hN, ys, hp => by
    unfold purCs at hp
    split at hp
    · rename_i y ys' h1 h2
      cases hp
      have hN1 : norefC x = true ∨ ∀ b, w0.heap.size ≤ b → V b := by
        rcases hN with h | h
        · simp only [List.all_cons, Bool.and_eq_true] at h; exact .inl h.1
        · exact .inr h
      have hN2 : xs.all norefC = true ∨ ∀ b, w0.heap.size ≤ b → V b := by
        rcases hN with h | h
        · simp only [List.all_cons, Bool.and_eq_true] at h; exact .inl h.2
        · exact .inr h
      obtain ⟨k1, k2⟩ := purCs_reps (xs := xs) (vs := vs) hs (by simpa using hl) (fun i x hi => by simpa using h (i + 1) x (by simpa using hi)) hV hN2 h2
      refine ⟨by simp [k1], fun i z hi => ?_⟩
      cases i with
      | zero =>
        simp at hi
        subst hi
        exact purC_rep hs (by simpa using h 0 x rfl) h1 hV hN1
      | succ i => simpa using k2 i z (by simpa using hi)
    · cases hp
theorem pur_rep {V : Nat → Prop} {x y : AC} {v : Value} (hs : Sim w0 U σ ι a w) (h : RepA w (Free w0.heap.size U ι σ.mem) ι σ.nx x v) (hp : purA σ.mem x = some y) (hV : ∀ b, Free w0.heap.size U ι σ.mem b → V b) (hN : norefA x = true ∨ ∀ b, w0.heap.size ≤ b → V b) : RepA w V (fun _ => undef) 0 y v := by
  cases x with
  | clo f caps =>
    cases h with
    | @clo _ _ vs hl h =>
      simp only [purA] at hp
      split at hp
      · rename_i ys hys
        cases hp
        obtain ⟨k1, k2⟩ := purCs_reps (vs := vs.toList) hs (by simpa using hl) h hV (by simpa [norefA] using hN) hys
        exact .clo (by simpa using k1) k2
      · cases hp
  | _ => exact purC_rep hs h hp hV hN
theorem purs_reps {V : Nat → Prop} {xs : List AC} {vs : List Value} (hs : Sim w0 U σ ι a w) (h : All2 (RepA w (Free w0.heap.size U ι σ.mem) ι σ.nx) xs vs) (hV : ∀ b, Free w0.heap.size U ι σ.mem b → V b) (hN : xs.all norefA = true ∨ ∀ b, w0.heap.size ≤ b → V b) : ∀ {ys : List AC}, purAs σ.mem xs = some ys → All2 (RepA w V (fun _ => undef) 0) ys vs := by
  induction h with
  | nil => intro ys hp; cases hp; exact .nil
  | cons h t ih =>
    intro ys hp
    unfold purAs at hp
    split at hp
    · cases hp
      refine .cons (pur_rep hs h ‹_› hV ?_) (ih ?_ ‹_›)
      · rcases hN with h | h
        · simp only [List.all_cons, Bool.and_eq_true] at h; exact .inl h.1
        · exact .inr h
      · rcases hN with h | h
        · simp only [List.all_cons, Bool.and_eq_true] at h; exact .inl h.2
        · exact .inr h
    · cases hp
theorem purV_rep {V : Nat → Prop} {x y : AV} {v : Value} (hs : Sim w0 U σ ι a w) (h : RepV w (Free w0.heap.size U ι σ.mem) ι σ.nx x v) (hp : purV σ.mem x = some y) (hV : ∀ b, Free w0.heap.size U ι σ.mem b → V b) (hN : norefV x = true ∨ ∀ b, w0.heap.size ≤ b → V b) : RepV w V (fun _ => undef) 0 y v := by
  cases h with
  | c h =>
    simp only [purV] at hp
    split at hp
    · cases hp
      exact .c (pur_rep hs h ‹_› hV (by simpa [norefV] using hN))
    · cases hp
  | agg h =>
    simp only [purV] at hp
    split at hp
    · cases hp
      exact .agg (purs_reps hs h hV (by simpa [norefV] using hN) ‹_›)
    · cases hp
  | tup => cases hp
  | top => cases hp

theorem compXs_rep (hs : Sim w0 U σ ι a w) : ∀ {xs : List Operand} {ys : List AX}, compXs xs = some ys → All2 (RepV w (Free w0.heap.size U ι σ.mem) ι σ.nx) (ys.map (·.ev σ.fr)) (xs.map a.eval)
  | [], ys, h => by cases h; exact .nil
  | x :: xs, ys, h => by
    unfold compXs at h
    split at h
    · cases h
      exact .cons (compX_rep ‹_› hs) (compXs_rep hs ‹_›)
    · cases h

theorem purVs_rep {V : Nat → Prop} {xs : List AV} {vs : List Value} (hs : Sim w0 U σ ι a w) (h : All2 (RepV w (Free w0.heap.size U ι σ.mem) ι σ.nx) xs vs) (hV : ∀ b, Free w0.heap.size U ι σ.mem b → V b) (hN : xs.all norefV = true ∨ ∀ b, w0.heap.size ≤ b → V b) : ∀ {ys : List AV}, purVs σ.mem xs = some ys → All2 (RepV w V (fun _ => undef) 0) ys vs := by
  induction h with
  | nil => intro ys hp; cases hp; exact .nil
  | cons h t ih =>
    intro ys hp
    unfold purVs at hp
    split at hp
    · cases hp
      refine .cons (purV_rep hs h ‹_› hV ?_) (ih ?_ ‹_›)
      · rcases hN with h | h
        · simp only [List.all_cons, Bool.and_eq_true] at h; exact .inl h.1
        · exact .inr h
      · rcases hN with h | h
        · simp only [List.all_cons, Bool.and_eq_true] at h; exact .inl h.2
        · exact .inr h
    · cases hp

theorem flat_repA {V V' : Nat → Prop} {x : AC} {v : Value} (h : RepA w V (fun _ => undef) 0 x v) (hf : flatA x = true) : RepA w V' ι σ.nx x v := by
  cases h with
  | pure h =>
    cases h with
    | val h => exact .pure (.val h)
    | slice => simp [flatA] at hf
  | _ => simp [flatA] at hf
theorem flat_repAs {V V' : Nat → Prop} {xs : List AC} {vs : List Value} (h : All2 (RepA w V (fun _ => undef) 0) xs vs) (hf : xs.all flatA = true) : All2 (RepA w V' ι σ.nx) xs vs := by
  induction h with
  | nil => exact .nil
  | cons h _ ih =>
    simp only [List.all_cons, Bool.and_eq_true] at hf
    exact .cons (flat_repA h hf.1) (ih hf.2)
theorem flat_repV {V V' : Nat → Prop} {x : AV} {v : Value} (h : RepV w V (fun _ => undef) 0 x v) (hf : flatV x = true) : RepV w V' ι σ.nx x v := by
  cases h with
  | c h => exact .c (flat_repA h hf)
  | agg h => exact .agg (flat_repAs h hf)
  | tup hl h =>
    refine .tup hl fun i x hi => ?_
    have hx : ∀ (xs : List AV), flatV.go xs = true → ∀ (i : Nat) x, xs[i]? = some x → (∃ y, x = .c y ∧ flatA y = true) ∨ ∃ ys, x = .agg ys ∧ ys.all flatA = true := by
      intro xs
      induction xs with
      | nil => intro _ i x hi; simp at hi
      | cons y ys ih =>
        intro hg i x hi
        cases y with
        | c y =>
          simp only [flatV.go, Bool.and_eq_true] at hg
          cases i with
          | zero => simp at hi; subst hi; exact .inl ⟨_, rfl, hg.1⟩
          | succ i => simp at hi; exact ih hg.2 i x hi
        | agg zs =>
          simp only [flatV.go, Bool.and_eq_true] at hg
          cases i with
          | zero => simp at hi; subst hi; exact .inr ⟨_, rfl, hg.1⟩
          | succ i => simp at hi; exact ih hg.2 i x hi
        | tup => simp [flatV.go] at hg
        | top => simp [flatV.go] at hg
    have hi' := h i x hi
    generalize (‹Array Value›.toList[i]?.getD undef) = z at hi' ⊢
    rcases hx _ (by simpa [flatV] using hf) i x hi with ⟨y, rfl, hy⟩ | ⟨ys, rfl, hy⟩
    · cases hi' with | c h => exact .c (flat_repA h hy)
    · cases hi' with | agg h => exact .agg (flat_repAs h hy)
  | top => simp [flatV] at hf

theorem bnd_repA {V : Nat → Prop} {N : Nat} {x : AC} {v : Value} (h : RepA w V ι N x v) : bndA x := by
  cases h with
  | pure h =>
    cases h with
    | val h => trivial
    | slice g hn hc hm => subst hn; exact hm
  | _ => trivial
theorem bnd_repAs {V : Nat → Prop} {N : Nat} {xs : List AC} {vs : List Value} (h : All2 (RepA w V ι N) xs vs) : bndAs xs := by
  induction h with
  | nil => trivial
  | cons h _ ih => exact ⟨bnd_repA h, ih⟩
theorem bnd_repV {V : Nat → Prop} {N : Nat} {x : AV} {v : Value} (h : RepV w V ι N x v) : bndV x := by
  cases h with
  | c h => exact bnd_repA h
  | agg h => exact bnd_repAs h
  | tup hl h =>
    rename_i xs vs
    have key : ∀ (xs : List AV), (∀ (i : Nat) x, xs[i]? = some x → ∃ u, RepV w V ι N x u) → bndV.go xs := by
      intro xs
      induction xs with
      | nil => intro _; trivial
      | cons y ys ih =>
        intro hx
        have ht := ih fun i x hi => hx (i + 1) x (by simpa using hi)
        obtain ⟨u, hu⟩ := hx 0 y rfl
        cases y with
        | c y => cases hu with | c hu => exact ⟨bnd_repA hu, ht⟩
        | agg zs => cases hu with | agg hu => exact ⟨bnd_repAs hu, ht⟩
        | tup => exact ht
        | top => exact ht
    exact key xs fun i x hi => ⟨_, h i x hi⟩
  | top => trivial

theorem op_call {f : Operand} {args : List Operand} {p : AX} {xs : List AX} {c : Call} (hc : c.callee = .value f) (hargs : c.args.toList = args) (ho : o.op = .call c) (hf : compX f = some p) (hx : compXs args = some xs) {bg : Bool} (h : opW P (.call bg p xs) σ K) (hs : Sim w0 U σ ι a w) (hn : Goes w0 U a o K next) : o.wp P a w next Q := by
  have r1 := compX_rep hf hs
  generalize hu : a.eval f = u at r1
  simp only [opW] at h
  split at h
  · rename_i g caps e
    rw [e] at r1
    cases r1 with
    | c r1 => cases r1 with
      | clo hl hcap =>
        rename_i cv
        have hB := hs.below.size
        -- the arguments
        have hall : All2 (RepV w (Free w0.heap.size U ι σ.mem) ι σ.nx) (xs.map (·.ev σ.fr) ++ caps.map .c) (args.map a.eval ++ cv.toList) := by
          refine (compXs_rep hs hx).append (All2.of_get (by simpa using hl) fun i x v hi hv => ?_)
          rw [List.getElem?_map] at hi
          cases ec : caps[i]? with
          | none => simp [ec] at hi
          | some y =>
            simp [ec] at hi
            subst hi
            have := hcap i y ec
            rw [hv] at this
            exact .c this
        have hvs : (args.map a.eval ++ cv.toList) = ((args.map a.eval).toArray ++ cv).toList := by simp
        rw [hvs] at hall
        have hargv : c.args.map a.eval = (args.map a.eval).toArray := by rw [← hargs]; apply Array.ext'; simp
        have hexec : FnThere P g → (execOp a.eval o).run P w = .ok (.enter g ((args.map a.eval).toArray ++ cv)) w := by
          rintro ⟨fn, hfn, hbody, hname⟩
          have hb : ¬ fn.body = none := by intro e; rw [e] at hbody; cases hbody
          have hname' : ¬ fn.name = "runtime.NumGoroutine" := by intro e; rw [e] at hname; simp at hname
          simp [execOp, ho, resolve, hc, hu, Deferred.ofValue, invoke, callFunc, hfn, hname', hb, hargv]
        have fresh : ∀ {res : AV} {v : Value} {w1 : World}, Below w.heap.size w w1 → RepV w1 (fun b => w.heap.size ≤ b) (fun _ => undef) 0 res v → RepV w1 (Free w0.heap.size U ι σ.mem) ι σ.nx res v := by
          intro res v w1 hb hr
          refine hr.mono (fun b hlt h => ⟨.inr (by omega), fun nm bx hf e => ?_⟩) (fun _ _ _ => rfl) (fun nm hnm => by omega) (Nat.zero_le _)
          have := ((hs.box _ _ hf).block e).2
          omega
        rcases h with ⟨pargs, hpur, res, hcs, hK⟩ | ⟨rfl, res, mem', nx', ⟨hthere, hcalls⟩, hK⟩
        · have hthere : FnThere P g := by rcases hcs with ⟨h, _⟩ | h <;> exact h.1
          unfold Oper.wp
          rw [hexec hthere]
          show Calls P g _ w _
          rcases hcs with ⟨⟨_, hcalls⟩, hflat | hnoref⟩ | ⟨_, hcalls⟩
          · have hc2 := hcalls w (fun _ => True) _ (purVs_rep (V := fun _ => True) hs hall (fun _ _ => trivial) (.inr fun _ _ => trivial) hpur)
            refine hc2.mono ?_
            rintro e w1 ⟨v, rfl, hr, hb⟩
            exact hn _ σ ι _ w1 hK (hs.grow hb) (flat_repV hr hflat)
          · have hc2 := hcalls w (Free w0.heap.size U ι σ.mem) _ (purVs_rep (V := Free w0.heap.size U ι σ.mem) hs hall (fun _ h => h) (.inl hnoref) hpur)
            refine hc2.mono ?_
            rintro e w1 ⟨v, rfl, hr, hb⟩
            refine hn _ σ ι _ w1 hK (hs.grow hb) (hr.mono (fun b hlt h => ?_) (fun _ _ _ => rfl) (fun nm hnm => by omega) (Nat.zero_le _))
            rcases h with h | h
            · exact h
            · refine ⟨.inr (by omega), fun nm bx hf e => ?_⟩
              have := ((hs.box _ _ hf).block e).2
              omega
          · have hc2 := hcalls w (fun _ => True) _ (purVs_rep (V := fun _ => True) hs hall (fun _ _ => trivial) (.inr fun _ _ => trivial) hpur)
            refine hc2.mono ?_
            rintro e w1 ⟨v, rfl, hr, hb⟩
            exact hn _ σ ι _ w1 hK (hs.grow hb) (fresh hb hr)
        · unfold Oper.wp
          rw [hexec hthere]
          show Calls P g _ w _
          -- what the caller knows is carried along
          let U' : Gh := ⟨U.p, ι, fun w V => U.G w V ∧ ∀ t, RepV w V ι σ.nx (look σ.fr t) (a.tmps.getD t undef), fun w w' V V' h hU hw => ⟨U.mono w w' V V' h.1 hU hw, fun t => (h.2 t).mono hU hw (fun _ _ => rfl) (Nat.le_refl _)⟩⟩
          have hs' : Sim w0 U' ⟨[], σ.mem, σ.nx, σ.nx⟩ ι { tmps := #[], defers := [] } w := ⟨fun t => .top, rfl, hs.names, hs.box, hs.apart, hs.below, ⟨hs.keep, hs.val⟩, ⟨Nat.le_refl _, fun _ _ => rfl⟩⟩
          refine (hcalls w0 U' ι w _ hs' hall).mono ?_
          rintro e w1 ⟨v, ι', rfl, hsim, hr⟩
          have hle : σ.nx ≤ nx' := hsim.base.1
          refine hn _ _ ι' _ w1 hK ⟨fun t => ?_, hs.defers, hsim.names, hsim.box, hsim.apart, hsim.below, hsim.keep.1, ⟨Nat.le_trans hs.base.1 hle, fun nm hnm => ?_⟩⟩ hr
          · exact (hsim.keep.2 t).mono (fun _ _ h => h) (fun _ _ _ => rfl) (fun nm hnm => hsim.base.2 nm hnm) hle
          · exact (hsim.base.2 nm (Nat.lt_of_lt_of_le hnm hs.base.1)).trans (hs.base.2 nm hnm)
  · exact h.elim
end
end Go.Abs
