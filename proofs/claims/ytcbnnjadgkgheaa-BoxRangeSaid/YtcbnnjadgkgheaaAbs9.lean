/- The abstract machine: each of its operations is sound. Part 5: fields, elements, lengths, texts. -/
import Derived.Test.YtcbnnjadgkgheaaAbs8
set_option linter.unusedVariables false
set_option linter.unusedSimpArgs false
namespace Go.Abs
open Go.RowKit

section
variable {P : Program} {o : Oper} {a : Act} {w w0 : World} {U : Gh} {ι : Pl} {σ : St} {next : Act → World → Prop} {Q : Exit → Act → World → Prop} {K : AV → St → Prop}

theorem cptr_drop {V : Nat → Prop} {N b off : Nat} {cells : List PC} (k : Nat) (h : RepA w V ι N (.cptr cells) (.pointer (some ⟨b, off, none⟩))) : RepA w V ι N (.cptr (cells.drop k)) (.pointer (some ⟨b, off + k, none⟩)) := by
  cases h with
  | cptr g hc =>
    refine .cptr (fun j => g (k + j)) fun j p hj => ?_
    rw [List.getElem?_drop] at hj
    have := hc (k + j) p hj
    rw [← Nat.add_assoc] at this
    exact this

theorem run_fieldAt {s : TypeId} {f : Nat} {fd : Field} {b off : Nat} (hf : fieldOf P s f = some fd) (hz : ¬ (sizeOf? P fd.type).getD 0 = 0) : (Instr.fieldAt s (.pointer (some ⟨b, off, none⟩)) f).run P w = .ok (.pointer (some ⟨b, off + fd.offset, none⟩)) w := by
  unfold fieldOf at hf
  split at hf
  · rename_i fs hd
    unfold sizeOf? at hz
    cases hi : P.info? fd.type with
    | none => simp [hi] at hz
    | some i =>
      simp [hi] at hz
      simp [Instr.fieldAt, run_underlying hd, hf, Instr.sureAddr, fieldPlace, sizeOf, typeInfo, hi, hz, add_off]
  · cases hf

theorem op_fieldA {s : TypeId} {x : Operand} {y : AX} {f : Nat} {fd : Field} (ho : o.op = .fieldAddr s x f) (hf : fieldOf P s f = some fd) (hz : ¬ (sizeOf? P fd.type).getD 0 = 0) (hx : compX x = some y) (h : opW P (.fieldA fd.offset y) σ K) (hs : Sim w0 U σ ι a w) (hn : Goes w0 U a o K next) : o.wp P a w next Q := by
  have r1 := compX_rep hx hs
  generalize hu : a.eval x = u at r1
  simp only [opW] at h
  split at h
  · rename_i e
    rw [e] at r1
    cases r1 with
    | c r1 =>
      cases r1 with
      | ptr h1 h2 => exact wp_value (w' := w) (by simp [execOp, ho, hu, run_fieldAt hf hz]; try rfl) (hn _ σ ι _ w h hs (.c (.ptr h1 h2)))
  · rename_i e
    rw [e] at r1
    cases r1 with
    | c r1 =>
      have r2 := r1
      cases r1 with
      | cptr g hc => exact wp_value (w' := w) (by simp [execOp, ho, hu, run_fieldAt hf hz]; try rfl) (hn _ σ ι _ w h hs (.c (cptr_drop _ r2)))
  · rename_i e
    rw [e] at r1
    cases r1 with
    | c r1 =>
      cases r1 with
      | eptr h1 h2 => exact wp_value (w' := w) (by simp [execOp, ho, hu, run_fieldAt hf hz]; try rfl) (hn _ σ ι _ w h hs (.c (by rw [Nat.add_assoc]; exact .eptr h1 h2)))
  · exact h.elim

theorem run_part_one {t : TypeId} {cs : Array Value} {off : Nat} {v : Value} (h : rowOf P t = some none) (hv : cs[off]? = some v) : (part t cs off).run P w = .ok v w := by
  unfold rowOf at h
  split at h
  · cases h
  · cases h
  · rename_i d i n1 n2 hd hi
    have hag : (isAgg t).run P w = .ok false w := by
      unfold isAgg
      cases d <;> first | (simp [run_underlying hd]; done) | exact absurd rfl (n1 _) | exact absurd rfl (n2 _ _)
    simp [part, hag, hv]
  · cases h
theorem run_part_row {t : TypeId} {cs : Array Value} {off n : Nat} (h : rowOf P t = some (some n)) : (part t cs off).run P w = .ok (.agg (cs.extract off (off + n))) w := by
  unfold rowOf at h
  split at h
  · rename_i fs i hd hi
    simp at h
    have hag : (isAgg t).run P w = .ok true w := by simp [isAgg, run_underlying hd]
    simp [part, hag, sizeOf, typeInfo, hi, h]
  · rename_i fs i hd hi
    simp at h
    have hag : (isAgg t).run P w = .ok true w := by simp [isAgg, run_underlying hd]
    simp [part, hag, sizeOf, typeInfo, hi, h]
  · split at h <;> cases h
  · cases h

theorem op_field {s : TypeId} {x : Operand} {y : AX} {f : Nat} {fd : Field} {n : Option Nat} (ho : o.op = .field s x f) (hf : fieldOf P s f = some fd) (ht : rowOf P fd.type = some n) (hx : compX x = some y) (h : opW P (.field fd.offset n y) σ K) (hs : Sim w0 U σ ι a w) (hn : Goes w0 U a o K next) : o.wp P a w next Q := by
  have r1 := compX_rep hx hs
  generalize hu : a.eval x = u at r1
  simp only [opW] at h
  split at h
  · rename_i xs e
    rw [e] at r1
    cases r1 with
    | agg r1 =>
      rename_i vs
      have hrun : ∀ {v : Value}, (part fd.type vs fd.offset).run P w = .ok v w → (execOp a.eval o).run P w = .ok (.value v) w := by
        intro v hp
        unfold fieldOf at hf
        split at hf
        · rename_i fs hd
          simp [execOp, ho, hu, Instr.field, run_underlying hd, hf, asAgg, hp]
        · cases hf
      cases n with
      | none =>
        simp only at h
        split at h
        · rename_i z zs ez
          have hz : xs[fd.offset]? = some z := by
            have : (xs.drop fd.offset)[0]? = some z := by rw [ez]; rfl
            rw [List.getElem?_drop] at this
            simpa using this
          obtain ⟨v, hv, hr⟩ := r1.get hz
          exact wp_value (u := v) (w' := w) (hrun (run_part_one ht (by simpa using hv))) (hn _ σ ι _ w h hs (.c hr))
        · exact h.elim
      | some n =>
        obtain ⟨hle, h⟩ := h
        refine wp_value (w' := w) (hrun (run_part_row ht)) (hn _ σ ι _ w h hs (.agg ?_))
        have := (r1.drop fd.offset).take n
        have e2 : (vs.extract fd.offset (fd.offset + n)).toList = (vs.toList.drop fd.offset).take n := by
          rw [Array.toList_extract, List.extract_eq_take_drop]
          simp
        rw [e2]
        exact this
  · exact h.elim

theorem run_indexAt {t e : TypeId} {sz bytes : Nat} {b off n c : Nat} {k : IntKind} {i : Int} (ht : elemOf? P t = some (e, sz, bytes)) (h0 : 0 ≤ i) (h1 : i < n) : (Instr.indexAt t (.slice (some ⟨b, off, none⟩) n c) (.int k i)).run P w = .ok (.pointer (some ⟨b, off + i.toNat * sz, none⟩)) w := by
  unfold elemOf? at ht
  split at ht
  · rename_i e' hd
    cases hi : P.info? e' with
    | none => simp [hi] at ht
    | some inf =>
      simp [hi] at ht
      obtain ⟨rfl, rfl, _⟩ := ht
      simp [Instr.indexAt, asIntOf, run_underlying hd, h0, h1, sizeOf, typeInfo, hi, add_off]
  · cases ht

theorem op_idxA {t e : TypeId} {sz bytes : Nat} {x z : Operand} {y q : AX} (ho : o.op = .indexAddr t x z) (ht : elemOf? P t = some (e, sz, bytes)) (hx : compX x = some y) (hz : compX z = some q) (h : opW P (.idxA sz y q) σ K) (hs : Sim w0 U σ ι a w) (hn : Goes w0 U a o K next) : o.wp P a w next Q := by
  have r1 := compX_rep hx hs
  have r2 := compX_rep hz hs
  generalize hu : a.eval x = u at r1
  simp only [opW] at h
  have hpure : ∀ {rows : List (List PC)} {k : IntKind} {i : Int}, RepP w (Free w0.heap.size U ι σ.mem) (.slice rows) u → AX.ev σ.fr q = .c (.pure (.val (.int k i))) → (0 ≤ i ∧ ∃ r, rows[i.toNat]? = some r ∧ (r.length = sz ∧ 0 < sz) ∧ K (.c (.cptr r)) σ) → o.wp P a w next Q := by
    intro rows k i hr hi h
    rw [hi] at r2
    have e2 := (repV_val r2).1
    obtain ⟨h0, r, hrow, ⟨hrl, hsz⟩, hk⟩ := h
    cases hr with
    | @slice sz' _ ad n c g hl hc hm hlen hcell hp =>
      obtain rfl : sz' = sz := by rw [← hrl]; exact (hlen _ _ hrow).symm
      have hil : i.toNat < rows.length := (List.getElem?_eq_some_iff.1 hrow).1
      have hlr := hlen _ _ hrow
      have h0r : r[0]? = some (r[0]'(by omega)) := List.getElem?_eq_getElem (by omega)
      obtain ⟨b, off, rfl, hb, _⟩ := hcell _ r 0 _ hrow h0r
      refine wp_value (w' := w) (by simp only [execOp, ho, hu, e2]; rw [Sem.run_bind, run_indexAt ht h0 (by omega)]; rfl) (hn _ σ ι _ w hk hs (.c (.cptr (fun j => g i.toNat j) fun j p hj => ?_)))
      obtain ⟨b', off', e', hb', hc'⟩ := hcell _ r j p hrow hj
      cases e'
      exact ⟨hb', by rw [← hc']; congr 2; omega, hp _ r j p hrow hj⟩
  split at h
  · rename_i rows k i e1 e2
    rw [e1] at r1
    cases r1 with
    | c r1 => cases r1 with | pure r1 => exact hpure r1 e2 h
  · rename_i rows k i e1 e2
    rw [e1] at r1
    cases r1 with
    | c r1 => cases r1 with | tsl r1 => exact hpure r1 e2 h
  · rename_i nm k i e1 e2
    rw [e1] at r1
    rw [e2] at r2
    have e2' := (repV_val r2).1
    split at h
    · rename_i e' sz' rows hf
      obtain ⟨⟨rfl, hsz, h0, hlt⟩, h⟩ := h
      cases r1 with
      | c r1 => cases r1 with
        | ref hnm hex =>
          obtain ⟨cells, g0, g1, g2, g3⟩ := hs.box _ _ hf
          rcases g1.2 with ⟨e', hz'⟩ | ⟨g, cap, cur, e', hB, hg, hnc, hcm, hcs', htake⟩
          · omega
          · refine wp_value (w' := w) (by simp only [execOp, ho, hu, e', e2']; rw [Sem.run_bind, run_indexAt ht h0 (by omega)]; rfl) (hn _ σ ι _ w h hs (.c ?_))
            have := RepA.eptr (w := w) (U := Free w0.heap.size U ι σ.mem) (sz := sz') (row := i.toNat) (off := 0) hnm e'
            simpa using this
    · exact h.elim
  · exact h.elim

theorem op_idxR {t e : TypeId} {len sz : Nat} {x z : Operand} {y q : AX} (ho : o.op = .indexAddr t x z) (ht : P.underlying t = some (.array len e)) (hsz : sizeOf? P e = some sz) (hx : compX x = some y) (hz : compX z = some q) (h : opW P (.idxR len sz y q) σ K) (hs : Sim w0 U σ ι a w) (hn : Goes w0 U a o K next) : o.wp P a w next Q := by
  have r1 := compX_rep hx hs
  have r2 := compX_rep hz hs
  generalize hu : a.eval x = u at r1
  simp only [opW] at h
  have hrun : ∀ {b off : Nat} {k : IntKind} {i : Int}, 0 ≤ i → i < len → (Instr.indexAt t (.pointer (some ⟨b, off, none⟩)) (.int k i)).run P w = .ok (.pointer (some ⟨b, off + i.toNat * sz, none⟩)) w := by
    intro b off k i h0 h1
    unfold sizeOf? at hsz
    cases hi : P.info? e with
    | none => simp [hi] at hsz
    | some inf =>
      simp [hi] at hsz
      simp [Instr.indexAt, asIntOf, run_underlying ht, Instr.sureAddr, h0, h1, sizeOf, typeInfo, hi, hsz, add_off]
  split at h
  · rename_i nm off k i e1 e2
    rw [e1] at r1
    rw [e2] at r2
    have e2' := (repV_val r2).1
    obtain ⟨⟨h0, h1⟩, h⟩ := h
    cases r1 with
    | c r1 => cases r1 with
      | ptr g1 g2 => exact wp_value (w' := w) (by simp only [execOp, ho, hu, e2']; rw [Sem.run_bind, hrun h0 h1]; rfl) (hn _ σ ι _ w h hs (.c (.ptr g1 g2)))
  · rename_i cells k i e1 e2
    rw [e1] at r1
    rw [e2] at r2
    have e2' := (repV_val r2).1
    obtain ⟨⟨h0, h1⟩, h⟩ := h
    cases r1 with
    | c r1 =>
      have r3 := r1
      cases r1 with
      | cptr g hc => exact wp_value (w' := w) (by simp only [execOp, ho, hu, e2']; rw [Sem.run_bind, hrun h0 h1]; rfl) (hn _ σ ι _ w h hs (.c (cptr_drop _ r3)))
  · exact h.elim

theorem op_idxS {t : TypeId} {x z : Operand} {y q : AX} (ho : o.op = .index t x z) (ht : isStr P t = true) (hx : compX x = some y) (hz : compX z = some q) (h : opW P (.idxS y q) σ K) (hs : Sim w0 U σ ι a w) (hn : Goes w0 U a o K next) : o.wp P a w next Q := by
  have r1 := compX_rep hx hs
  have r2 := compX_rep hz hs
  simp only [opW] at h
  split at h
  · rename_i s k i e1 e2
    rw [e1] at r1
    rw [e2] at r2
    have e1' := (repV_val r1).1
    have e2' := (repV_val r2).1
    obtain ⟨h0, b, hb, h⟩ := h
    have hd : P.underlying t = some .string := by
      unfold isStr at ht
      split at ht
      · assumption
      · cases ht
    refine wp_value (u := .int .u8 b.toNat) (w' := w) ?_ (hn _ σ ι _ w h hs (repV_int _ _))
    simp [execOp, ho, e1', e2', Instr.index, asIntOf, run_underlying hd, h0, hb]
  · exact h.elim

theorem op_ext {x : Operand} {y : AX} {i : Nat} (ho : o.op = .extract x i) (hx : compX x = some y) (h : opW P (.ext y i) σ K) (hs : Sim w0 U σ ι a w) (hn : Goes w0 U a o K next) : o.wp P a w next Q := by
  have r1 := compX_rep hx hs
  generalize hu : a.eval x = u at r1
  simp only [opW] at h
  split at h
  · rename_i vs e
    rw [e] at r1
    obtain ⟨v, hv, h⟩ := h
    · cases r1 with
      | tup hl hr =>
        rename_i us
        have hi : i < us.size := by rw [← hl]; exact (List.getElem?_eq_some_iff.1 hv).1
        have := hr i v hv
        rw [List.getElem?_eq_getElem (by simpa using hi)] at this
        refine wp_value (u := us[i]) (w' := w) ?_ (hn _ σ ι _ w h hs (by simpa using this))
        simp [execOp, ho, hu, Instr.extract, hi]
  · exact h.elim

/-- The length of a slice. -/
theorem rows_len {v : AV} {u : Value} {rows : List (List PC)} (hs : Sim w0 U σ ι a w) (h : RepV w (Free w0.heap.size U ι σ.mem) ι σ.nx v u) (hr : rowsOf? σ.mem v = some rows) : ∃ ad c, u = .slice ad rows.length c ∧ rows.length ≤ c ∧ rows.length ≤ 9223372036854775807 := by
  unfold rowsOf? at hr
  split at hr
  · cases hr
    cases h with | c h => cases h with | pure h => cases h with | slice g hl hc hm => subst hl; exact ⟨_, _, rfl, hc, hm⟩
  · cases hr
    cases h with | c h => cases h with | tsl h => cases h with | slice g hl hc hm => subst hl; exact ⟨_, _, rfl, hc, hm⟩
  · cases hr
    cases h with | c h => cases h with | nils => exact ⟨none, 0, rfl, Nat.le_refl _, by simp⟩
  · split at hr
    · rename_i nm e sz' rows' hf
      cases hr
      cases h with
      | c h => cases h with
        | ref hnm hex =>
          obtain ⟨cells, g0, g1, g2, g3⟩ := hs.box _ _ hf
          rcases g1.2 with ⟨e', hz'⟩ | ⟨g, cap, cur, e', hB, hg, hnc, hcm, hcs', htake⟩
          · exact ⟨none, 0, by rw [e', hz'], by omega, g2⟩
          · exact ⟨_, cap, e', hnc, g2⟩
    · cases hr
  · cases hr

theorem run_len_slice {t e : TypeId} {ad : Option Addr} {n c : Nat} (ht : P.underlying t = some (.slice e)) (ty : TypeId) : (Builtin.len_ #[t] ty #[.slice ad n c]).run P w = .ok (.int .i64 n) w := by
  simp [Builtin.len_, run_underlying ht, goInt]

theorem op_len {t e : TypeId} {x : Operand} {y : AX} {c : Call} (hc : c.callee = .builtin .len) (hargs : c.args.toList = [x]) (htys : c.argTypes.toList = [t]) (ho : o.op = .call c) (ht : P.underlying t = some (.slice e)) (hx : compX x = some y) (h : opW P (.len y) σ K) (hs : Sim w0 U σ ι a w) (hn : Goes w0 U a o K next) : o.wp P a w next Q := by
  have r1 := compX_rep hx hs
  have ha : c.args = #[x] := by rw [← Array.toArray_toList (xs := c.args), hargs]
  have hty : c.argTypes = #[t] := by rw [← Array.toArray_toList (xs := c.argTypes), htys]
  have key : ∀ {rows : List (List PC)}, rowsOf? σ.mem (AX.ev σ.fr y) = some rows → K (.c (.pure (.val (.int .i64 rows.length)))) σ → o.wp P a w next Q := by
    intro rows hr h
    obtain ⟨ad, cc, e1, _, _⟩ := rows_len hs r1 hr
    refine wp_value (u := .int .i64 rows.length) (w' := w) ?_ (hn _ σ ι _ w h hs (repV_int _ _))
    simp [execOp, ho, resolve, hc, invoke, builtin, ha, hty, e1, run_len_slice ht]
  simp only [opW] at h
  split at h
  · rename_i rows e
    exact key (by rw [e]; rfl) h
  · rename_i rows e
    exact key (by rw [e]; rfl) h
  · rename_i e
    exact key (rows := []) (by rw [e]; rfl) h
  · rename_i nm e
    split at h
    · rename_i e' sz rows hf
      exact key (by rw [e]; simp [rowsOf?, hf]) h
    · exact h.elim
  · exact h.elim
theorem op_lenS {t : TypeId} {x : Operand} {y : AX} {c : Call} (hc : c.callee = .builtin .len) (hargs : c.args.toList = [x]) (htys : c.argTypes.toList = [t]) (ho : o.op = .call c) (ht : P.underlying t = some .string) (hx : compX x = some y) (h : opW P (.lenS y) σ K) (hs : Sim w0 U σ ι a w) (hn : Goes w0 U a o K next) : o.wp P a w next Q := by
  have r1 := compX_rep hx hs
  have ha : c.args = #[x] := by rw [← Array.toArray_toList (xs := c.args), hargs]
  have hty : c.argTypes = #[t] := by rw [← Array.toArray_toList (xs := c.argTypes), htys]
  simp only [opW] at h
  split at h
  · rename_i s e
    rw [e] at r1
    have e1 := (repV_val r1).1
    refine wp_value (u := .int .i64 s.size) (w' := w) ?_ (hn _ σ ι _ w h hs (repV_int _ _))
    simp [execOp, ho, resolve, hc, invoke, builtin, ha, hty, e1, Builtin.len_, run_underlying ht, goInt]
  · exact h.elim
theorem op_mm {mx : Bool} {x y : Operand} {p q : AX} {c : Call} (hc : (c.callee = .builtin .min ∧ mx = false) ∨ (c.callee = .builtin .max ∧ mx = true)) (hargs : c.args.toList = [x, y]) (ho : o.op = .call c) (hx : compX x = some p) (hy : compX y = some q) (h : opW P (.mm mx p q) σ K) (hs : Sim w0 U σ ι a w) (hn : Goes w0 U a o K next) : o.wp P a w next Q := by
  have r1 := compX_rep hx hs
  have r2 := compX_rep hy hs
  have ha : c.args = #[x, y] := by rw [← Array.toArray_toList (xs := c.args), hargs]
  simp only [opW] at h
  split at h
  · rename_i k m k' n e e'
    rw [e] at r1
    rw [e'] at r2
    have e1 := (repV_val r1).1
    have e2 := (repV_val r2).1
    refine wp_value (w' := w) ?_ (hn _ σ ι _ w h hs (repV_int _ _))
    rcases hc with ⟨hc, rfl⟩ | ⟨hc, rfl⟩
    · have : (if n < m then n else m) = min m n := by split <;> omega
      simp [execOp, ho, resolve, hc, invoke, builtin, ha, e1, e2, Builtin.min_, Builtin.min2, this]
    · have : (if m < n then n else m) = max m n := by split <;> omega
      simp [execOp, ho, resolve, hc, invoke, builtin, ha, e1, e2, Builtin.max_, Builtin.max2, this]
  · exact h.elim
end
end Go.Abs
