/- The abstract machine: each of its operations is sound. Part 6: literals, new slices, closures, calls. -/
import Derived.Test.YtcbnnjadgkgheaaAbs9
set_option linter.unusedVariables false
set_option linter.unusedSimpArgs false
namespace Go.Abs
open Go.RowKit

theorem fold_over : ∀ (vs : List Value) (off j : Nat) (cs : Array Value), off + j + vs.length ≤ cs.size → ((vs.zipIdx j).foldl (fun cs (x : Value × Nat) => cs.setIfInBounds (off + x.2) x.1) cs).toList = over cs.toList (off + j) vs
  | [], off, j, cs, _ => by simp [over]
  | v :: vs, off, j, cs, h => by
    simp only [List.length_cons] at h
    rw [List.zipIdx_cons, List.foldl_cons, fold_over vs off (j + 1) _ (by simp; omega)]
    unfold over
    have hk : off + j < cs.toList.length := by simp; omega
    rw [Array.toList_setIfInBounds, List.take_set, List.drop_set, List.length_cons]
    have e1 : (cs.toList.take (off + (j + 1))).set (off + j) v = cs.toList.take (off + j) ++ [v] := by
      rw [← Nat.add_assoc, List.take_succ_eq_append_getElem hk, List.set_append_right _ _ (by simp; omega)]
      have : (off + j) - (cs.toList.take (off + j)).length = 0 := by simp; omega
      rw [this]
      rfl
    rw [e1, if_pos (by omega), show off + (j + 1) + vs.length = off + j + (vs.length + 1) from by omega]
    simp

theorem fill_cons {place : Nat → Option (Nat × Nat)} {cells : Array Value} {i off size : Nat} {v : Value} {rest : List (Nat × Value)} (hp : place i = some (off, size)) (hv : v.cells.size = size) (hle : off + size ≤ cells.size) :
    Instr.fill place cells ((i, v) :: rest) = Instr.fill place (over cells.toList off v.cells.toList).toArray rest := by
  simp only [Instr.fill, hp]
  rw [if_neg (by simp; omega)]
  congr 1
  have := fold_over v.cells.toList off 0 cells (by simp; omega)
  rw [← Array.foldl_toList, Array.toList_zipIdx]
  simp only [Nat.add_zero] at this
  rw [← this, Array.toArray_toList]

section
variable {P : Program} {o : Oper} {a : Act} {w w0 : World} {U : Gh} {ι : Pl} {σ : St} {next : Act → World → Prop} {Q : Exit → Act → World → Prop} {K : AV → St → Prop}

theorem over_len_eq {α : Type} {xs ys : List α} {off : Nat} (h : off + ys.length ≤ xs.length) : (over xs off ys).length = xs.length := over_length xs off ys h

theorem build_fill (hs : Sim w0 U σ ι a w) {places : List (Nat × Nat)} : ∀ {parts : List (Nat × Operand)} {ps : List (Nat × Nat × AX)} {acc : List AC} {cells : Array Value} {R : List AC → Prop}, partsOf places parts = some ps → opW.buildW σ ps acc R →
    All2 (RepA w (Free w0.heap.size U ι σ.mem) ι σ.nx) acc cells.toList → ∃ cells' xs, Instr.fill (fun i => places[i]?) cells (parts.map fun (i, x) => (i, a.eval x)) = some cells' ∧ All2 (RepA w (Free w0.heap.size U ι σ.mem) ι σ.nx) xs cells'.toList ∧ R xs
  | [], ps, acc, cells, R, hp, h, hc => by
    cases hp
    exact ⟨cells, acc, rfl, hc, h⟩
  | (i, x) :: parts, ps, acc, cells, R, hp, h, hc => by
    unfold partsOf at hp
    split at hp
    · rename_i off n y ys h1 h2 h3
      cases hp
      simp only [opW.buildW] at h
      split at h
      · rename_i zs e
        obtain ⟨⟨hl, hle⟩, h⟩ := h
        have hz := (compX_rep h2 hs).cells e
        have hzl := hz.length
        have hcl := hc.length
        have e0 := Array.length_toList (xs := (a.eval x).cells)
        have e00 := Array.length_toList (xs := cells)
        obtain ⟨cells', xs, hf, hr, hR⟩ := build_fill hs (cells := (over cells.toList off (a.eval x).cells.toList).toArray) h3 h (hc.over hz off)
        refine ⟨cells', xs, ?_, hr, hR⟩
        rw [List.map_cons, fill_cons h1 (by omega) (by omega)]
        exact hf
      · exact h.elim
    · cases hp

theorem op_build {t : TypeId} {parts : Array (Nat × Operand)} {z : List AC} {ps : List (Nat × Nat × AX)} (ho : o.op = .build t parts) (hz : (zeroOf P t).bind (fun z => cellsOf z.cells.toList) = some z) (hp : (placesOf P t).bind (partsOf · parts.toList) = some ps)
    (h : opW P (.build z ps) σ K) (hs : Sim w0 U σ ι a w) (hn : Goes w0 U a o K next) : o.wp P a w next Q := by
  simp only [opW] at h
  unfold zeroOf placesOf at *
  cases hi : P.info? t with
  | none => simp [hi] at hz
  | some it =>
    cases hz0 : it.zero with
    | none => simp [hi, hz0] at hz
    | some z0 =>
      simp [hi, hz0] at hz
      split at hp
      · rename_i fs hd
        cases hpl : fs.toList.mapM (fun f => (P.info? f.type).map fun i => (f.offset, i.size)) with
        | none => simp [hpl] at hp
        | some places =>
          simp only [hpl, Option.bind_some] at hp
          obtain ⟨cells', xs, hf, hr, hR⟩ := build_fill hs hp h (cells := z0.cells) (cellsOf_rep hz)
          refine wp_value (w' := w) ?_ (hn _ σ ι _ w hR hs (.agg hr))
          have hb : P.built t (parts.map fun (i, x) => (i, a.eval x)).toList = some cells' := by
            unfold Program.built
            simp only [hi, hd, hz0, hpl]
            rw [Array.toList_map]
            simpa using hf
          simp only [execOp, ho, Sem.run_bind]
          rw [run_build w t _ cells' hb]
          rfl
      · simp at hp

theorem RowsRep.append {V : Nat → Prop} {sz : Nat} {rows rows' : List (List PC)} {cs cs' : List Value} (h : RowsRep w V sz rows cs) (h' : RowsRep w V sz rows' cs') : RowsRep w V sz (rows ++ rows') (cs ++ cs') := by
  obtain ⟨h3, h4, h5⟩ := h
  obtain ⟨g3, g4, g5⟩ := h'
  refine ⟨by rw [List.length_append, List.length_append, h3, g3, Nat.add_mul], fun i row hi => ?_, fun i row j p hi hj => ?_⟩
  · by_cases hlt : i < rows.length
    · rw [List.getElem?_append_left hlt] at hi; exact h4 i row hi
    · rw [List.getElem?_append_right (by omega)] at hi; exact g4 _ row hi
  · by_cases hlt : i < rows.length
    · rw [List.getElem?_append_left hlt] at hi
      obtain ⟨v, hv, hp⟩ := h5 i row j p hi hj
      exact ⟨v, by rw [List.getElem?_append_left ((List.getElem?_eq_some_iff.1 hv).1)]; exact hv, hp⟩
    · rw [List.getElem?_append_right (by omega)] at hi
      obtain ⟨v, hv, hp⟩ := g5 _ row j p hi hj
      have hge : rows.length * sz ≤ i * sz := Nat.mul_le_mul_right _ (by omega)
      refine ⟨v, ?_, hp⟩
      rw [List.getElem?_append_right (by omega), ← hv, h3, Nat.sub_mul]
      congr 1
      omega
theorem RowsRep.nil {V : Nat → Prop} {sz : Nat} : RowsRep w V sz [] [] := ⟨by simp, by simp, by simp⟩
theorem RowsRep.one {V : Nat → Prop} {sz : Nat} {r : List PC} {vs : List Value} (h : All2 (RepP w V) r vs) (hl : r.length = sz) : RowsRep w V sz [r] vs := by
  refine ⟨by rw [← h.length, hl]; simp, fun i row hi => ?_, fun i row j p hi hj => ?_⟩
  · cases i with
    | zero => simp at hi; subst hi; exact hl
    | succ i => simp at hi
  · cases i with
    | zero =>
      simp at hi
      subst hi
      obtain ⟨v, hv, hp⟩ := h.get hj
      exact ⟨v, by simpa using hv, hp⟩
    | succ i => simp at hi

theorem cell_row {b k : Nat} {cs : Array Value} {T : TypeId} {fz : Nat × Nat} (h : w.heap[b]? = some (.cells cs T fz)) : w.cell? ⟨b, k, none⟩ = cs.toList[k]? := by
  rw [cell_of_row w b k cs T fz h]
  simp

/-- A block of rows as a slice. -/
theorem RowsRep.slice {V : Nat → Prop} {sz b c : Nat} {rows : List (List PC)} {cells : List Value} (h : RowsRep w V sz rows cells) (hb : V b) (hc : rows.length ≤ c) (hm : rows.length ≤ 9223372036854775807)
    (hcell : ∀ (k : Nat) v, cells[k]? = some v → w.cell? ⟨b, k, none⟩ = some v) : RepP w V (.slice rows) (.slice (some ⟨b, 0, none⟩) rows.length c) := by
  refine .slice (sz := sz) (fun i j => (cells[i * sz + j]?).getD undef) rfl hc hm h.2.1 (fun i row j p hi hj => ?_) (fun i row j p hi hj => ?_)
  · obtain ⟨v, hv, hp⟩ := h.2.2 i row j p hi hj
    exact ⟨b, 0, rfl, hb, by rw [Nat.zero_add, hv]; exact hcell _ _ hv⟩
  · obtain ⟨v, hv, hp⟩ := h.2.2 i row j p hi hj
    rw [hv]
    exact hp

theorem free_new (hs : Sim w0 U σ ι a w) : Free w0.heap.size U ι σ.mem w.heap.size :=
  ⟨.inr hs.below.size, fun nm bx hf e => by have := ((hs.box _ _ hf).block e).2; omega⟩

theorem bslice_fill (hs : Sim w0 U σ ι a w) {sz n : Nat} : ∀ {k : Nat} {parts : List (Nat × Operand)} {rs : List AX} {acc : List (List PC)} {cells : Array Value} {R : List (List PC) → Prop}, rowsOf k parts = some rs → opW.bsliceW σ sz rs acc R → acc.length = k → k + rs.length = n → cells.size = n * sz →
    RowsRep w (Free w0.heap.size U ι σ.mem) sz acc (cells.toList.take (k * sz)) → ∃ cells' rows, Instr.fill (fun i => some (i * sz, sz)) cells (parts.map fun (i, x) => (i, a.eval x)) = some cells' ∧ RowsRep w (Free w0.heap.size U ι σ.mem) sz rows cells'.toList ∧ rows.length = n ∧ R rows
  | k, [], rs, acc, cells, R, hp, h, hl, hkn, hcs, hc => by
    cases hp
    simp at hkn
    subst hkn
    exact ⟨cells, acc, rfl, by rw [List.take_of_length_le (by simp; omega)] at hc; exact hc, hl, h⟩
  | k, (i, x) :: parts, rs, acc, cells, R, hp, h, hl, hkn, hcs, hc => by
    unfold rowsOf at hp
    split at hp
    · rename_i hik
      subst hik
      split at hp
      · rename_i y ys h2 h3
        cases hp
        simp only [opW.bsliceW] at h
        split at h
        · rename_i zs e
          obtain ⟨r, hr, hrl, h⟩ := h
          have hz := (compX_rep h2 hs).cells e
          have hpz := pcAs_rep hz hr
          have hzl := hz.length
          have e0 := Array.length_toList (xs := (a.eval x).cells)
          have e00 := Array.length_toList (xs := cells)
          simp only [List.length_cons] at hkn
          have hle : i * sz + sz ≤ n * sz := by
            have : (i + 1) * sz ≤ n * sz := Nat.mul_le_mul_right _ (by omega)
            rw [Nat.succ_mul] at this
            exact this
          have hol : (over cells.toList (i * sz) (a.eval x).cells.toList).length = cells.toList.length := over_len_eq (by simp; omega)
          obtain ⟨cells', rows, hf, h4, h5, hR⟩ := bslice_fill hs (n := n) (cells := (over cells.toList (i * sz) (a.eval x).cells.toList).toArray) h3 h (by simp [hl]) (by omega) (by simp only [List.size_toArray, hol, Array.length_toList, hcs]) (by
            have e1 : (over cells.toList (i * sz) (a.eval x).cells.toList).take ((i + 1) * sz) = cells.toList.take (i * sz) ++ (a.eval x).cells.toList := by
              unfold over
              rw [List.append_assoc, Nat.succ_mul]
              have e2 : (cells.toList.take (i * sz)).length = i * sz := by simp; omega
              rw [List.take_append, e2, List.take_of_length_le (by omega), Nat.add_sub_cancel_left, List.take_append, List.take_of_length_le (l := (a.eval x).cells.toList) (by simp; omega)]
              have e3 : sz - (a.eval x).cells.toList.length = 0 := by simp; omega
              rw [e3]
              simp
            simp only [List.toList_toArray] at e1 ⊢
            rw [e1]
            exact hc.append (RowsRep.one hpz (by have := hpz.length; omega)))
          refine ⟨cells', rows, ?_, h4, h5, hR⟩
          rw [List.map_cons, fill_cons rfl (by omega) (by omega)]
          exact hf
        · exact h.elim
      · cases hp
    · cases hp
theorem op_bslice {t : TypeId} {n e sz bytes : Nat} {parts : Array (Nat × Operand)} {rs : List AX} {z : Value} (ho : o.op = .buildSlice t n parts) (ht : elemOf? P t = some (e, sz, bytes)) (hr : rowsOf 0 parts.toList = some rs) (hl : rs.length = n) (hm : n * sz ≤ 16777216) (h0 : 0 < sz) (hz : zeroOf P e = some z) (hzs : z.cells.size = sz)
    (h : opW P (.bslice sz rs) σ K) (hs : Sim w0 U σ ι a w) (hn : Goes w0 U a o K next) : o.wp P a w next Q := by
  simp only [opW] at h
  unfold elemOf? zeroOf at *
  split at ht
  · rename_i e' hd
    cases hi : P.info? e' with
    | none => simp [hi] at ht
    | some inf =>
      simp [hi] at ht
      obtain ⟨rfl, rfl, _⟩ := ht
      simp [hi] at hz
      let base : Array Value := (Array.range (n * inf.size)).map (fun k => (if n * inf.size = 0 then #[] else z.cells)[k % (if n * inf.size = 0 then #[] else z.cells).size]!)
      have hbase : base.size = n * inf.size := by simp [base]
      obtain ⟨cells', rows, hf, h4, h5, hR⟩ := bslice_fill hs (n := n) (cells := base) hr h rfl (by omega) hbase (by simp; exact RowsRep.nil)
      have hg : Below w.heap.size w (w.alloc (.cells cells' e')) := (Below.refl _ _).alloc (Nat.le_refl _) _
      have hrep : RepP (w.alloc (.cells cells' e')) (Free w0.heap.size U ι σ.mem) (.slice rows) (.slice (some ⟨w.heap.size, 0, none⟩) rows.length rows.length) := by
        refine (h4.mono (fun _ _ h => h) (fun b hb _ => hg.block b hb)).slice (free_new hs) (Nat.le_refl _) (by have : n * 1 ≤ n * inf.size := Nat.mul_le_mul_left _ h0; omega) fun k v hk => ?_
        rw [cell_row (heap_alloc_new _ _)]
        exact hk
      rw [h5] at hrep
      refine wp_value (w' := w.alloc (.cells cells' e')) ?_ (hn _ σ ι _ _ hR (hs.grow hg) (.c (.tsl hrep)))
      have hf' : Instr.fill (fun i => some (i * inf.size, inf.size)) base (parts.map fun (i, x) => (i, a.eval x)).toList = some cells' := by
        rw [Array.toList_map]; exact hf
      by_cases hn0 : n * inf.size = 0
      · simp only [base, hn0, if_true] at hf'
        have e1 : ¬ (16777216 < n * inf.size) := by omega
        simp [execOp, ho, Instr.buildSlice, run_underlying hd, sizeOf, typeInfo, hi, hn0, newRow]
        simp [Array.range_zero'] at hf'
        simp [hf', Array.range_zero']
        try rfl
      · simp only [base, hn0, if_false] at hf'
        have e1 : ¬ (16777216 < n * inf.size) := by omega
        simp [execOp, ho, Instr.buildSlice, run_underlying hd, sizeOf, typeInfo, hi, hn0, newRow, zeroValue, hz, e1]
        simp at hf'
        simp [hf']
        try rfl
  · cases ht
end
end Go.Abs
