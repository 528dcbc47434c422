/- The abstract machine: what a row's input reads as. -/
import Derived.Test.YtcbnnjadgkgheaaAbs19
import Derived.ChangeArms
import Derived.WideShapes
set_option linter.unusedVariables false
set_option linter.unusedSimpArgs false
namespace Go.Abs
open Go.RowKit Go.WideShapes

/-- The shape of a cell. -/
inductive TS where
  | int (k : IntKind)
  | bool
  | str
  | slice (l : List TS)

inductive OkP : TS → PC → Prop
  | int {k : IntKind} {n : Int} (h : (Lit.int k n).wf = true) : OkP (.int k) (.val (.int k n))
  | bool {b : Bool} : OkP .bool (.val (.bool b))
  | str {s : ByteArray} (h : s.size ≤ maxLen) : OkP .str (.val (.string s))
  | slice {l : List TS} {rows : List (List PC)} (hm : rows.length ≤ maxLen) (hl : ∀ r ∈ rows, r.length = l.length) (h : ∀ (r : List PC), r ∈ rows → ∀ (i : Nat) s p, l[i]? = some s → r[i]? = some p → OkP s p) : OkP (.slice l) (.slice rows)
def OkPs (l : List TS) (ps : List PC) : Prop := ps.length = l.length ∧ ∀ (i : Nat) s p, l[i]? = some s → ps[i]? = some p → OkP s p

theorem OkPs.append {l l' : List TS} {ps ps' : List PC} (h : OkPs l ps) (h' : OkPs l' ps') : OkPs (l ++ l') (ps ++ ps') := by
  refine ⟨by simp [h.1, h'.1], fun i s p hs hp => ?_⟩
  by_cases hi : i < l.length
  · rw [List.getElem?_append_left hi] at hs
    rw [List.getElem?_append_left (by rw [h.1]; exact hi)] at hp
    exact h.2 i s p hs hp
  · rw [List.getElem?_append_right (by omega)] at hs
    rw [List.getElem?_append_right (by rw [h.1]; omega), h.1] at hp
    exact h'.2 _ s p hs hp
theorem OkPs.one {s : TS} {p : PC} (h : OkP s p) : OkPs [s] [p] := by
  refine ⟨rfl, fun i s' p' hs hp => ?_⟩
  cases i with
  | zero => simp at hs hp; subst hs; subst hp; exact h
  | succ i => simp at hs

def shFs (P : Program) (f : TypeId → Option (List TS)) : List Field → Nat → Nat → Option (List TS)
  | [], k, m => if k = m then some [] else none
  | fd :: r, k, m => if fd.offset = k then match f fd.type with
    | some l => if l.length = P.cellsOf fd.type then match shFs P f r (k + l.length) m with
      | some l' => some (l ++ l')
      | none => none else none
    | none => none else none
/-- The shape of a type: its cells in a row. -/
def shOf (P : Program) : Nat → TypeId → Option (List TS)
  | 0, _ => none
  | n + 1, t => match P.underlying t with
    | some (.int k) => some [.int k]
    | some .bool => some [.bool]
    | some .string => some [.str]
    | some (.slice e) => match shOf P n e with
      | some l => if l.length = P.cellsOf e then some [.slice l] else none
      | none => none
    | some (.struct fs) => shFs P (shOf P n) fs.toList 0 (P.cellsOf t)
    | _ => none

theorem list_of {X : Type} {Q : Nat → X → Prop} : ∀ {n : Nat}, (∀ i, i < n → ∃ x, Q i x) → ∃ l : List X, l.length = n ∧ ∀ (i : Nat) x, l[i]? = some x → Q i x
  | 0, _ => ⟨[], rfl, fun i x h => by simp at h⟩
  | n + 1, h => by
    obtain ⟨l, h1, h2⟩ := list_of (n := n) fun i hi => h i (by omega)
    obtain ⟨x, hx⟩ := h n (by omega)
    refine ⟨l ++ [x], by simp [h1], fun i y hy => ?_⟩
    by_cases hi : i < l.length
    · rw [List.getElem?_append_left hi] at hy
      exact h2 i y hy
    · rw [List.getElem?_append_right (by omega)] at hy
      have : i = n := by
        have := (List.getElem?_eq_some_iff.1 hy).1
        simp at this
        omega
      subst this
      simp [h1] at hy
      subst hy
      exact hx

section
variable {H : Type} {enc : TypeId × Value → H} {P : Program} {W : World} {base : Nat} {sp : Nat → Bool} {held : Bool}

abbrev All : Nat → Prop := fun _ => True

theorem fields_rep {f : TypeId → Option (List TS)} {n : Nat} {cs : List Value} (ih : ∀ t l cs x, f t = some l → DataW.trod enc P W base sp held n t cs = some x → ∃ ps, All2 (RepP W All) ps cs ∧ OkPs l ps) :
    ∀ {fs : List Field} {k m : Nat} {l : List TS}, shFs P f fs k m = some l → cs.length = m → (∀ fd ∈ fs, ∃ x, DataW.trod enc P W base sp held n fd.type ((cs.drop fd.offset).take (P.cellsOf fd.type)) = some x) →
      ∃ ps, All2 (RepP W All) ps (cs.drop k) ∧ OkPs l ps
  | [], k, m, l, h, hm, _ => by
    unfold shFs at h
    split at h
    · cases h
      refine ⟨[], ?_, rfl, fun i s p hs => by simp at hs⟩
      rw [List.drop_eq_nil_of_le (by omega)]
      exact .nil
    · cases h
  | fd :: fs, k, m, l, h, hm, hx => by
    unfold shFs at h
    split at h
    · rename_i e
      split at h
      · rename_i l1 h1
        split at h
        · rename_i hc
          split at h
          · rename_i l2 h2
            cases h
            obtain ⟨x, hx1⟩ := hx fd List.mem_cons_self
            obtain ⟨p1, g1, g2⟩ := ih _ _ _ _ h1 hx1
            obtain ⟨p2, g3, g4⟩ := fields_rep ih h2 hm fun fd h => hx fd (List.mem_cons_of_mem _ h)
            refine ⟨p1 ++ p2, ?_, g2.append g4⟩
            have : cs.drop k = (cs.drop k).take (P.cellsOf fd.type) ++ cs.drop (k + l1.length) := by
              rw [hc, ← List.drop_drop, List.take_append_drop]
            rw [this]
            subst e
            exact g1.append g3
          · cases h
        · cases h
      · cases h
    · cases h

/-- What can be read at a type of a known shape stands for pure cells of that shape. -/
theorem read_rep : ∀ {fuel sf : Nat} {t : TypeId} {l : List TS} {cs : List Value} {x : DataW H × List MemPlace}, shOf P sf t = some l → DataW.trod enc P W base sp held fuel t cs = some x → ∃ ps, All2 (RepP W All) ps cs ∧ OkPs l ps
  | fuel, 0, t, l, cs, x, h, _ => by cases h
  | fuel, sf + 1, t, l, cs, x, h, hr => by
    unfold shOf at h
    split at h
    · rename_i k ht
      cases h
      obtain ⟨n, rfl, _, hw⟩ := DataW.trod_int ht hr
      exact ⟨[.val (.int k n)], .cons (.val rfl) .nil, .one (.int hw)⟩
    · rename_i ht
      cases h
      obtain ⟨b, rfl, _⟩ := DataW.trod_bool ht hr
      exact ⟨[.val (.bool b)], .cons (.val rfl) .nil, .one .bool⟩
    · rename_i ht
      cases h
      obtain ⟨s, rfl, _, hm⟩ := DataW.trod_string ht hr
      exact ⟨[.val (.string s)], .cons (.val rfl) .nil, .one (.str hm)⟩
    · rename_i e ht
      split at h
      · rename_i l' hl'
        split at h
        · rename_i hc
          cases h
          rcases DataW.trod_slice ht hr with ⟨rfl, _⟩ | ⟨a, len, cap, elems, rest, n, _, rfl, _, _, hle, hmx, hlen, hel, _, _⟩
          · exact ⟨[.slice []], .cons (.slice (sz := 0) (fun _ _ => undef) rfl (Nat.le_refl _) (by simp) (fun i row h => by simp at h) (fun i row j p h => by simp at h) (fun i row j p h => by simp at h)) .nil, .one (.slice (by simp) (fun r h => by cases h) (fun r h => by cases h))⟩
          · have hall : ∀ i, i < len → ∃ x : List PC × List Value, W.cells? base (a.add (i * P.cellsOf e)) (P.cellsOf e) = some x.2 ∧ All2 (RepP W All) x.1 x.2 ∧ OkPs l' x.1 := by
              intro i hi
              have h1 := hel i hi
              rw [List.getElem?_eq_getElem (by omega)] at h1
              obtain ⟨cs', h2, h3⟩ := Option.bind_eq_some_iff.1 h1
              obtain ⟨ps, h4, h5⟩ := read_rep hl' h3
              exact ⟨(ps, cs'), h2, h4, h5⟩
            obtain ⟨L, hL, hQ⟩ := list_of hall
            have row : ∀ (i : Nat) r, (L.map Prod.fst)[i]? = some r → ∃ c, L[i]? = some (r, c) ∧ W.cells? base (a.add (i * P.cellsOf e)) (P.cellsOf e) = some c ∧ All2 (RepP W All) r c ∧ OkPs l' r := by
              intro i r hr
              rw [List.getElem?_map] at hr
              obtain ⟨y, hy, rfl⟩ := Option.map_eq_some_iff.1 hr
              exact ⟨y.2, hy, hQ i y hy⟩
            unfold maxLen at hmx
            refine ⟨[.slice (L.map Prod.fst)], .cons (.slice (sz := P.cellsOf e) (fun i j => (((L[i]?).map Prod.snd).getD []).getD j undef) (by simp [hL]) hle (by omega) ?_ ?_ ?_) .nil, .one (.slice (by unfold maxLen; simp [hL]; omega) ?_ ?_)⟩
            · intro i r hr
              obtain ⟨c, _, _, _, h5⟩ := row i r hr
              rw [h5.1, hc]
            · intro i r j p hr hp
              obtain ⟨c, h1, h2, h3, h5⟩ := row i r hr
              obtain ⟨v, hv, _⟩ := h3.get hp
              obtain ⟨_, h6, h7⟩ := World.cells?_some h2
              have hj : j < P.cellsOf e := by
                have := (List.getElem?_eq_some_iff.1 hv).1
                omega
              have h8 := h7 j hj
              rw [hv] at h8
              obtain ⟨b, off, spot⟩ := a
              have hspot : spot = none := by
                have hi0 : 0 < L.length := by
                  have := (List.getElem?_eq_some_iff.1 h1).1
                  omega
                obtain ⟨g1, _, _⟩ := hQ 0 L[0] (List.getElem?_eq_getElem hi0)
                obtain ⟨_, g2, g3⟩ := World.cells?_some g1
                have g4 := g3 0 (by omega)
                rw [List.getElem?_eq_getElem (by omega)] at g4
                simpa [Addr.add] using World.cell?_spot g4
              subst hspot
              rw [add_plain, add_plain] at h8
              refine ⟨b, off, rfl, trivial, ?_⟩
              rw [← Nat.add_assoc, h8]
              simp [h1, hv]
            · intro i r j p hr hp
              obtain ⟨c, h1, h2, h3, h5⟩ := row i r hr
              obtain ⟨v, hv, hrep⟩ := h3.get hp
              simpa [h1, hv] using hrep
            · intro r hr
              obtain ⟨i, hi⟩ := List.mem_iff_getElem?.1 hr
              obtain ⟨c, _, _, _, h5⟩ := row i r hi
              exact h5.1
            · intro r hr
              obtain ⟨i, hi⟩ := List.mem_iff_getElem?.1 hr
              obtain ⟨c, _, _, _, h5⟩ := row i r hi
              exact h5.2
        · cases h
      · cases h
    · rename_i fs ht
      obtain ⟨xs, n, _, _, hl, hlen, hf⟩ := DataW.trod_struct ht hr
      have := fields_rep (n := n) (fun t l cs x h hx => read_rep (sf := sf) h hx) h hl fun fd hfd => by
        obtain ⟨i, hi⟩ := List.mem_iff_getElem?.1 hfd
        have h1 := hf i fd (by simpa using hi)
        have hi' : i < xs.length := by
          have := (List.getElem?_eq_some_iff.1 hi).1
          simp at this
          omega
        exact ⟨xs[i], by rw [h1, List.getElem?_eq_getElem hi']⟩
      simpa using this
    · cases h

/-- One cell, or a row: how an argument stands. -/
def isRow (P : Program) (t : TypeId) : Bool := match P.underlying t with
  | some (.struct _) => true
  | _ => false
def argV (row : Bool) (ps : List PC) : AV := if row then .agg (ps.map .pure) else match ps with
  | p :: _ => .c (.pure p)
  | [] => .top

theorem arg_rep {r : Reach} {b0 : Nat} {t : TypeId} {v : Value} {d : DataW H} {p : List MemPlace} {sf : Nat} {l : List TS} (hs : shOf P sf t = some l) (hval : Value.okWide P W r b0 t v) (h : DataW.Trod enc P W base sp held t v d p) :
    ∃ ps, OkPs l ps ∧ RepV W All (fun _ => undef) 0 (argV (isRow P t) ps) v := by
  obtain ⟨fuel, hf⟩ := h
  obtain ⟨ps, h1, h2⟩ := read_rep hs hf
  refine ⟨ps, h2, ?_⟩
  have single : ∀ {v : Value}, v.cells = #[v] → All2 (RepP W All) ps v.cells.toList → RepV W All (fun _ => undef) 0 (argV false ps) v := by
    intro v hv h
    rw [hv] at h
    cases h with
    | cons h t => exact .c (.pure h)
  cases sf with
  | zero => cases hs
  | succ sf =>
    unfold shOf at hs
    split at hs
    · rename_i k ht
      obtain ⟨n, rfl⟩ := okWide_int ht hval
      simp only [isRow, ht]
      exact single rfl h1
    · rename_i ht
      obtain ⟨n, rfl⟩ := okWide_bool ht hval
      simp only [isRow, ht]
      exact single rfl h1
    · rename_i ht
      obtain ⟨n, rfl⟩ := okWide_string ht hval
      simp only [isRow, ht]
      exact single rfl h1
    · rename_i e ht
      obtain ⟨a, n, c, rfl⟩ := okWide_slice ht hval
      simp only [isRow, ht]
      exact single rfl h1
    · rename_i fs ht
      obtain ⟨cs, rfl, _⟩ := okWide_struct ht hval
      simp only [isRow, ht]
      have h1 : All2 (RepP W All) ps cs.toList := h1
      refine .agg (All2.of_get (by simpa using h1.length) fun i x v hi hv => ?_)
      simp only [List.getElem?_map, Option.map_eq_some_iff] at hi
      obtain ⟨q, hq, rfl⟩ := hi
      obtain ⟨u, hu, hr⟩ := h1.get hq
      have : u = v := by
        rw [hv] at hu
        cases hu
        rfl
      subst this
      exact .pure hr
    · cases hs
end
end Go.Abs
