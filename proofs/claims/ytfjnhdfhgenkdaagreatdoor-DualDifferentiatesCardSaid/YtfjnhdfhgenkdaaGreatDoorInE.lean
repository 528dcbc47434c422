/- What an input with a recursive type reads as: a slice type whose rows end in a slice of such rows. -/
import Derived.Test.YtfjnhdfhgenkdaaGreatDoorIn0
set_option linter.unusedVariables false
set_option linter.unusedSimpArgs false
namespace Go.Abs
open Go.RowKit Go.WideShapes

/-- A slice of rows: cells of the shapes l, then such a slice again. -/
inductive OkX (l : List TS) : PC → Prop
 | mk {rows : List (List PC)} (hm : rows.length ≤ maxLen) (h0 : ∀ r ∈ rows, r.length = l.length + 1) (h1 : ∀ r ∈ rows, ∀ (i : Nat) s p, l[i]? = some s → r[i]? = some p → OkP s p) (h2 : ∀ r ∈ rows, ∀ p, r[l.length]? = some p → OkX l p) : OkX l (.slice rows)
inductive TE where
 | t (s : TS)
 | ex (l : List TS)
 | sl (l : List TE)
inductive OkE : TE → PC → Prop
 | t {s : TS} {p : PC} (h : OkP s p) : OkE (.t s) p
 | ex {l : List TS} {p : PC} (h : OkX l p) : OkE (.ex l) p
 | sl {l : List TE} {rows : List (List PC)} (hm : rows.length ≤ maxLen) (hl : ∀ r ∈ rows, r.length = l.length) (h : ∀ (r : List PC), r ∈ rows → ∀ (i : Nat) s p, l[i]? = some s → r[i]? = some p → OkE s p) : OkE (.sl l) (.slice rows)
def OkEs (l : List TE) (ps : List PC) : Prop := ps.length = l.length ∧ ∀ (i : Nat) s p, l[i]? = some s → ps[i]? = some p → OkE s p
theorem OkEs.append {l l' : List TE} {ps ps' : List PC} (h : OkEs l ps) (h' : OkEs l' ps') : OkEs (l ++ l') (ps ++ ps') := by
 refine ⟨by simp [h.1, h'.1], fun i s p hs hp => ?_⟩
 by_cases hi : i < l.length
 ·rw [List.getElem?_append_left hi] at hs
  rw [List.getElem?_append_left (by rw [h.1]; exact hi)] at hp
  exact h.2 i s p hs hp
 ·rw [List.getElem?_append_right (by omega)] at hs
  rw [List.getElem?_append_right (by rw [h.1]; omega), h.1] at hp
  exact h'.2 _ s p hs hp
theorem OkEs.one {s : TE} {p : PC} (h : OkE s p) : OkEs [s] [p] := by
 refine ⟨rfl, fun i s' p' hs hp => ?_⟩
 cases i with
 | zero => simp at hs hp; subst hs; subst hp; exact h
 | succ i => simp at hs
theorem OkEs.of {l : List TS} {ps : List PC} (h : OkPs l ps) : OkEs (l.map .t) ps := by
 refine ⟨by simpa using h.1, fun i s p hs hp => ?_⟩
 rw [List.getElem?_map] at hs
 obtain ⟨s0, h0, rfl⟩ := Option.map_eq_some_iff.1 hs
 exact .t (h.2 i s0 p h0 hp)
def feFs (P : Program) (f : TypeId → Option (List TE)) : List Field → Nat → Nat → Option (List TE)
 | [], k, m => if k = m then some [] else none
 |fd :: r, k, m => if fd.offset = k then match f fd.type with
  |some l => if l.length = P.cellsOf fd.type then match feFs P f r (k + l.length) m with
   | some l' => some (l ++ l')
   | none => none else none
  | none => none else none
/-- The shape of a type: E is the type of the rows that hold rows, lE their other cells. -/
def shE (P : Program) (E : TypeId) (lE : List TS) : Nat → TypeId → Option (List TE)
 | 0, _ => none
 |n + 1, t => match shOf P 9 t with
  | some l => some (l.map .t)
  |none => match P.underlying t with
   |some (.slice e) => if e = E then some [.ex lE] else match shE P E lE n e with
    | some l => if l.length = P.cellsOf e then some [.sl l] else none
    | none => none
   | some (.struct fs) => feFs P (shE P E lE n) fs.toList 0 (P.cellsOf t)
   | _ => none
section
variable {H : Type} {enc : TypeId × Value → H} {P : Program} {W : World} {base : Nat} {sp : Nat → Bool} {held : Bool}
theorem fieldsE_rep {f : TypeId → Option (List TE)} {n : Nat} {cs : List Value} (ih : ∀ t l cs x, f t = some l → DataW.trod enc P W base sp held n t cs = some x → ∃ ps, All2 (RepP W All) ps cs ∧ OkEs l ps) :
  ∀ {fs : List Field} {k m : Nat} {l : List TE}, feFs P f fs k m = some l → cs.length = m → (∀ fd ∈ fs, ∃ x, DataW.trod enc P W base sp held n fd.type ((cs.drop fd.offset).take (P.cellsOf fd.type)) = some x) →
   ∃ ps, All2 (RepP W All) ps (cs.drop k) ∧ OkEs l ps
 |[], k, m, l, h, hm, _ => by
  unfold feFs at h
  split at h
  ·cases h
   refine ⟨[], ?_, rfl, fun i s p hs => by simp at hs⟩
   rw [List.drop_eq_nil_of_le (by omega)]
   exact .nil
  ·cases h
 |fd :: fs, k, m, l, h, hm, hx => by
  unfold feFs at h
  split at h
  ·rename_i e
   split at h
   ·rename_i l1 h1
    split at h
    ·rename_i hc
     split at h
     ·rename_i l2 h2
      cases h
      obtain ⟨x, hx1⟩ := hx fd List.mem_cons_self
      obtain ⟨p1, g1, g2⟩ := ih _ _ _ _ h1 hx1
      obtain ⟨p2, g3, g4⟩ := fieldsE_rep ih h2 hm fun fd h => hx fd (List.mem_cons_of_mem _ h)
      refine ⟨p1 ++ p2, ?_, g2.append g4⟩
      have : cs.drop k = (cs.drop k).take (P.cellsOf fd.type) ++ cs.drop (k + l1.length) := by
       rw [hc, ← List.drop_drop, List.take_append_drop]
      rw [this]
      subst e
      exact g1.append g3
     ·cases h
    ·cases h
   ·cases h
  ·cases h
/-- A slice whose elements can be read. -/
theorem slice_rep {Q : List PC → Prop} {e t : TypeId} {fuel : Nat} {cs : List Value} {x : DataW H × List MemPlace} (ht : P.underlying t = some (.slice e)) (hr : DataW.trod enc P W base sp held fuel t cs = some x)
  (ih : ∀ n cs x, n < fuel → DataW.trod enc P W base sp held n e cs = some x → ∃ ps, All2 (RepP W All) ps cs ∧ ps.length = P.cellsOf e ∧ Q ps) :
  ∃ rows, All2 (RepP W All) [.slice rows] cs ∧ rows.length ≤ maxLen ∧ ∀ r ∈ rows, r.length = P.cellsOf e ∧ Q r := by
 rcases DataW.trod_slice ht hr with ⟨rfl, _⟩ | ⟨a, len, cap, elems, rest, n, rfl, rfl, _, _, hle, hmx, hlen, hel, _, _⟩
 ·exact ⟨[], .cons (.slice (sz := 0) (fun _ _ => undef) rfl (Nat.le_refl _) (by simp) (fun i row h => by simp at h) (fun i row j p h => by simp at h) (fun i row j p h => by simp at h)) .nil, by simp, fun r h => by cases h⟩
 ·have hall : ∀ i, i < len → ∃ x : List PC × List Value, W.cells? base (a.add (i * P.cellsOf e)) (P.cellsOf e) = some x.2 ∧ All2 (RepP W All) x.1 x.2 ∧ x.1.length = P.cellsOf e ∧ Q x.1 := by
   intro i hi
   have h1 := hel i hi
   rw [List.getElem?_eq_getElem (by omega)] at h1
   obtain ⟨cs', h2, h3⟩ := Option.bind_eq_some_iff.1 h1
   obtain ⟨ps, h4, h5⟩ := ih n _ _ (by omega) h3
   exact ⟨(ps, cs'), h2, h4, h5⟩
  obtain ⟨L, hL, hQ⟩ := list_of hall
  have row : ∀ (i : Nat) r, (L.map Prod.fst)[i]? = some r → ∃ c, L[i]? = some (r, c) ∧ W.cells? base (a.add (i * P.cellsOf e)) (P.cellsOf e) = some c ∧ All2 (RepP W All) r c ∧ r.length = P.cellsOf e ∧ Q r := by
   intro i r hr
   rw [List.getElem?_map] at hr
   obtain ⟨y, hy, rfl⟩ := Option.map_eq_some_iff.1 hr
   exact ⟨y.2, hy, hQ i y hy⟩
  unfold maxLen at hmx
  refine ⟨L.map Prod.fst, .cons (.slice (sz := P.cellsOf e) (fun i j => (((L[i]?).map Prod.snd).getD []).getD j undef) (by simp [hL]) hle (by omega) ?_ ?_ ?_) .nil, by unfold maxLen; simp [hL]; omega, ?_⟩
  ·intro i r hr
   obtain ⟨c, _, _, _, h5⟩ := row i r hr
   exact h5.1
  ·intro i r j p hr hp
   obtain ⟨c, h1, h2, h3, h5⟩ := row i r hr
   obtain ⟨v, hv, _⟩ := h3.get hp
   obtain ⟨_, h6, h7⟩ := World.cells?_some h2
   have hj : j < P.cellsOf e := by
    have := (List.getElem?_eq_some_iff.1 hv).1
    omega
   have h8 := h7 j hj
   rw [hv] at h8
   obtain ⟨b, off, spot⟩ := a
   have hspot : spot = none := by
    have hi0 : 0 < L.length := by
     have := (List.getElem?_eq_some_iff.1 h1).1
     omega
    obtain ⟨g1, _, _⟩ := hQ 0 L[0] (List.getElem?_eq_getElem hi0)
    obtain ⟨_, g2, g3⟩ := World.cells?_some g1
    have g4 := g3 0 (by omega)
    rw [List.getElem?_eq_getElem (by omega)] at g4
    simpa [Addr.add] using World.cell?_spot g4
   subst hspot
   rw [add_plain, add_plain] at h8
   refine ⟨b, off, rfl, trivial, ?_⟩
   rw [← Nat.add_assoc, h8]
   simp [h1, hv]
  ·intro i r j p hr hp
   obtain ⟨c, h1, h2, h3, h5⟩ := row i r hr
   obtain ⟨v, hv, hrep⟩ := h3.get hp
   simpa [h1, hv] using hrep
  ·intro r hr
   obtain ⟨i, hi⟩ := List.mem_iff_getElem?.1 hr
   obtain ⟨c, _, _, _, h5⟩ := row i r hi
   exact h5
/-- What can be read at a type of a known shape stands for pure cells of that shape. -/
theorem readE_rep {E : TypeId} {lE : List TS} {SF : Nat} (hE : shE P E lE SF E = some (lE.map .t ++ [.ex lE])) (hc : P.cellsOf E = lE.length + 1) : ∀ (fuel : Nat) {sf : Nat} {t : TypeId} {l : List TE} {cs : List Value} {x : DataW H × List MemPlace}, shE P E lE sf t = some l → DataW.trod enc P W base sp held fuel t cs = some x → ∃ ps, All2 (RepP W All) ps cs ∧ OkEs l ps := by
 intro fuel
 induction fuel using Nat.strongRecOn with
 | ind fuel ih =>
  intro sf t l cs x h hr
  cases sf with
  | zero => cases h
  | succ sf =>
   unfold shE at h
   split at h
   ·rename_i l0 h0
    cases h
    obtain ⟨ps, h1, h2⟩ := read_rep h0 hr
    exact ⟨ps, h1, .of h2⟩
   ·split at h
    ·rename_i e ht
     split at h
     ·rename_i he
      subst he
      cases h
      obtain ⟨rows, g1, g2, g3⟩ := slice_rep (Q := fun ps => OkEs (lE.map .t ++ [.ex lE]) ps) ht hr fun n cs x hn hx => by
       obtain ⟨ps, k1, k2⟩ := ih n hn hE hx
       exact ⟨ps, k1, by rw [k2.1, hc]; simp, k2⟩
      refine ⟨[.slice rows], g1, .one (.ex (.mk g2 (fun r hr => by rw [(g3 r hr).1, hc]) (fun r hr i s p hs hp => ?_) (fun r hr p hp => ?_)))⟩
      ·have := (g3 r hr).2.2 i (.t s) p (by rw [List.getElem?_append_left (by simpa using (List.getElem?_eq_some_iff.1 hs).1), List.getElem?_map, hs]; rfl) hp
       cases this with
       | t h => exact h
      ·have := (g3 r hr).2.2 lE.length (.ex lE) p (by rw [List.getElem?_append_right (by simp)]; simp) hp
       cases this with
       | ex h => exact h
     ·split at h
      ·rename_i l' hl'
       split at h
       ·rename_i hcl
        cases h
        obtain ⟨rows, g1, g2, g3⟩ := slice_rep (Q := fun ps => OkEs l' ps) ht hr fun n cs x hn hx => by
         obtain ⟨ps, k1, k2⟩ := ih n hn hl' hx
         exact ⟨ps, k1, by rw [k2.1, hcl], k2⟩
        exact ⟨[.slice rows], g1, .one (.sl g2 (fun r hr => by rw [(g3 r hr).1, hcl]) fun r hr => (g3 r hr).2.2)⟩
       ·cases h
      ·cases h
    ·rename_i fs ht
     obtain ⟨xs, n, hn, _, hl, hlen, hf⟩ := DataW.trod_struct ht hr
     have := fieldsE_rep (n := n) (fun t l cs x h hx => ih n (by omega) h hx) h hl fun fd hfd => by
      obtain ⟨i, hi⟩ := List.mem_iff_getElem?.1 hfd
      have h1 := hf i fd (by simpa using hi)
      have hi' : i < xs.length := by
       have := (List.getElem?_eq_some_iff.1 hi).1
       simp at this
       omega
      exact ⟨xs[i], by rw [h1, List.getElem?_eq_getElem hi']⟩
     simpa using this
    ·cases h
theorem argE_rep {E : TypeId} {lE : List TS} {SF : Nat} (hE : shE P E lE SF E = some (lE.map .t ++ [.ex lE])) (hc : P.cellsOf E = lE.length + 1) {r : Reach} {b0 : Nat} {t : TypeId} {fs : Array Field} {v : Value} {d : DataW H} {p : List MemPlace} {sf : Nat} {l : List TE} (ht : P.underlying t = some (.struct fs)) (hs : shE P E lE sf t = some l) (hval : Value.okWide P W r b0 t v) (h : DataW.Trod enc P W base sp held t v d p) :
  ∃ ps, OkEs l ps ∧ RepV W All (fun _ => undef) 0 (.agg (ps.map .pure)) v := by
 obtain ⟨fuel, hf⟩ := h
 obtain ⟨ps, h1, h2⟩ := readE_rep hE hc fuel hs hf
 refine ⟨ps, h2, ?_⟩
 obtain ⟨cs, rfl, _⟩ := okWide_struct ht hval
 have h1 : All2 (RepP W All) ps cs.toList := h1
 refine .agg (All2.of_get (by simpa using h1.length) fun i x v hi hv => ?_)
 simp only [List.getElem?_map, Option.map_eq_some_iff] at hi
 obtain ⟨q, hq, rfl⟩ := hi
 obtain ⟨u, hu, hr⟩ := h1.get hq
 have : u = v := by
  rw [hv] at hu
  cases hu
  rfl
 subst this
 exact .pure hr
end
end Go.Abs
