/- The abstract machine: each of its operations is sound. Part 7: make, slicing, closures, calls. -/
import Derived.Test.YtcbnnjadgkgheaaAbs10
set_option linter.unusedVariables false
set_option linter.unusedSimpArgs false
namespace Go.Abs
open Go.RowKit

section
variable {P : Program} {o : Oper} {a : Act} {w w0 : World} {U : Gh} {ι : Pl} {σ : St} {next : Act → World → Prop} {Q : Exit → Act → World → Prop} {K : AV → St → Prop}

theorem madeCells_get {z : Array Value} {m k : Nat} (h : k < m) : (madeCells z m).toList[k]? = some (z[k % z.size]!) := by
  unfold madeCells
  simp [h]

theorem mod_row {i j sz : Nat} (h : j < sz) : (i * sz + j) % sz = j := by
  rw [Nat.add_comm, Nat.add_mul_mod_self_right, Nat.mod_eq_of_lt h]

theorem row_lt {i n j sz : Nat} (hi : i < n) (hj : j < sz) : i * sz + j < n * sz := by
  have : (i + 1) * sz ≤ n * sz := Nat.mul_le_mul_right _ hi
  rw [Nat.succ_mul] at this
  omega

theorem RowsRep.made {V : Nat → Prop} {sz n : Nat} {zs : List PC} {z : Array Value} (hz : All2 (RepP w V) zs z.toList) (hs : z.size = sz) : RowsRep w V sz (List.replicate n zs) (madeCells z (n * sz)).toList := by
  have hl : zs.length = sz := by rw [hz.length, Array.length_toList, hs]
  refine ⟨by simp [madeCells], fun i row hi => ?_, fun i row j p hi hj => ?_⟩
  · have := List.mem_of_getElem? hi
    rw [List.mem_replicate] at this
    rw [this.2, hl]
  · have hil : i < n := by have := (List.getElem?_eq_some_iff.1 hi).1; simpa using this
    have := List.mem_of_getElem? hi
    rw [List.mem_replicate] at this
    obtain ⟨_, rfl⟩ := this
    obtain ⟨v, hv, hp⟩ := hz.get hj
    have hjl : j < sz := by rw [← hl]; exact (List.getElem?_eq_some_iff.1 hj).1
    refine ⟨v, ?_, hp⟩
    rw [madeCells_get (row_lt hil hjl), hs, mod_row hjl, ← hv]
    simp [hs, hjl]

theorem op_mkslice {t e : TypeId} {sz bytes l : Nat} {z : Value} {zs : List PC} (ho : o.op = .makeSlice t (.tmp l) (.tmp l)) (ht : elemOf? P t = some (e, sz, bytes)) (h0 : 0 < sz) (hz : zeroOf P e = some z) (hzs : z.cells.size = sz) (hpz : pcellsOf z.cells.toList = some zs)
    (h : opW P (.mkslice e sz bytes zs (.t l)) σ K) (hs : Sim w0 U σ ι a w) (hn : Goes w0 U a o K next) : o.wp P a w next Q := by
  have r1 := compX_rep (x := .tmp l) rfl hs
  simp only [opW] at h
  unfold elemOf? zeroOf at *
  split at ht
  · rename_i e' hd
    cases hi : P.info? e' with
    | none => simp [hi] at ht
    | some inf =>
      simp [hi] at ht
      obtain ⟨rfl, rfl, rfl⟩ := ht
      simp [hi] at hz
      split at h
      · rename_i n en
        rw [en] at r1
        have e1 := (repV_val r1).1
        obtain ⟨⟨hn0, hm, hb⟩, h⟩ := h
        have hrun := run_make (P := P) w t e' inf z hd hi hz .i64 .i64 n n hn0 (Int.le_refl _) hb (by omega)
        have hg : Below w.heap.size w (w.alloc (.cells (madeCells z.cells (n.toNat * inf.size)) e')) := (Below.refl _ _).alloc (Nat.le_refl _) _
        obtain ⟨ι', h1, h2, h3, h4⟩ := hs.newBox (pv := .slice (some ⟨w.heap.size, 0, none⟩) n.toNat n.toNat) (bx := .arr e' inf.size (List.replicate n.toNat zs)) hg (fun b hb => by simp [blockOf] at hb; omega) (fun ι' e1 e2 hfree => by
          refine ⟨(madeCells z.cells (n.toNat * inf.size)).toList, h0, ?_, by simp; omega, RowsRep.made (pcellsOf_rep hpz) hzs⟩
          rw [e2, List.length_replicate]
          refine ⟨by simp [madeCells], .inr ⟨w.heap.size, n.toNat, madeCells z.cells (n.toNat * inf.size), rfl, hs.below.size, heap_alloc_new _ _, Nat.le_refl _, by unfold maxLen; omega, by simp [madeCells], ?_⟩⟩
          exact List.take_of_length_le (by simp [madeCells]))
        refine wp_value (u := ι' σ.nx) (w' := w.alloc (.cells (madeCells z.cells (n.toNat * inf.size)) e')) ?_ (hn _ _ ι' _ _ h h1 (.c (.ref (Nat.lt_succ_self _) ⟨_, _, _, h2⟩)))
        rw [h2]
        simp only [execOp, ho, e1, Sem.run_bind, hrun]
        rfl
      · exact h.elim
  · cases ht

/-- A part of a slice. -/
theorem RepP.part {V : Nat → Prop} {sz n c l h m : Nat} {rows : List (List PC)} {ad : Option Addr} (hp : RepP w V (.slice rows) (.slice ad n c)) (hsz : rowsOk sz rows) (hlh : l ≤ h) (hhn : h ≤ rows.length) (hhm : h ≤ m) :
    RepP w V (.slice ((rows.take h).drop l)) (.slice (if m = l then ad else ad.map (·.add (l * sz))) (h - l) (m - l)) := by
  cases hp with
  | @slice sz' _ _ _ _ g hn hc hm hr hcell hp =>
    have hss : ∀ (i : Nat) row, rows[i]? = some row → sz' = sz := fun i row hi => by rw [← hr i row hi]; exact hsz row (List.mem_of_getElem? hi)
    have hget : ∀ i row, ((rows.take h).drop l)[i]? = some row → rows[l + i]? = some row := by
      intro i row hi
      rw [List.getElem?_drop] at hi
      have := (List.getElem?_eq_some_iff.1 hi).1
      rw [List.getElem?_take_of_lt (by simp at this; omega)] at hi
      exact hi
    refine .slice (fun i j => g (l + i) j) (by simp; omega) (by omega) (by omega) (fun i row hi => hr _ row (hget i row hi)) (fun i row j p hi hj => ?_) (fun i row j p hi hj => hp _ row j p (hget i row hi) hj)
    have hil : i < h - l := by have := (List.getElem?_eq_some_iff.1 hi).1; simp at this; omega
    obtain ⟨b, off, rfl, hb, hcl⟩ := hcell _ row j p (hget i row hi) hj
    rw [if_neg (by omega)]
    have := hss _ row (hget i row hi)
    subst this
    refine ⟨b, off + l * sz', by simp [add_off], hb, ?_⟩
    rw [← hcl, Nat.add_mul]
    congr 2
    omega

theorem bound_rep {x : Option Operand} {y : Option AX} {r : Option Int} (h : compO? x = some y) (hs : Sim w0 U σ ι a w) (hb : opW.boundOf σ y = some r) : (x.map a.eval = none ∧ r = none) ∨ ∃ k i, (x.map a.eval) = some (.int k i) ∧ r = some i := by
  cases x with
  | none =>
    cases h
    left
    simp [opW.boundOf] at hb
    exact ⟨rfl, hb.symm⟩
  | some x =>
    simp [compO?] at h
    obtain ⟨z, hz, rfl⟩ := h
    have r1 := compX_rep hz hs
    simp only [opW.boundOf] at hb
    split at hb
    · rename_i k i e
      cases hb
      rw [e] at r1
      exact .inr ⟨k, i, by simp [(repV_val r1).1], rfl⟩
    · cases hb

theorem run_bound {k : IntKind} {i : Int} {y : Nat} {code : BoundsCode} (h0 : 0 ≤ i) (h1 : i ≤ y) : (Instr.sliceBound (.int k i) y code).run P w = .ok i.toNat w := by
  simp [Instr.sliceBound, asIntOf, h0, h1]

/-- The bounds of a slice expression. -/
theorem run_bounds {b : Bool} {n c : Nat} {lo hi mx : Option Value} {l h m : Option Int} (hlo : (lo = none ∧ l = none) ∨ ∃ k i, lo = some (.int k i) ∧ l = some i) (hhi : (hi = none ∧ h = none) ∨ ∃ k i, hi = some (.int k i) ∧ h = some i)
    (hmx : (mx = none ∧ m = none) ∨ ∃ k i, mx = some (.int k i) ∧ m = some i) (g1 : 0 ≤ l.getD 0) (g2 : l.getD 0 ≤ h.getD n) (g3 : h.getD n ≤ m.getD n) (g4 : m.getD n ≤ n) (hc : n ≤ c) (hm : m.isSome = true → h.isSome = true) :
    (Instr.sliceBounds b n c lo hi mx).run P w = .ok ((l.getD 0).toNat, (h.getD n).toNat, (m.map Int.toNat).getD c) w := by
  rcases hlo with ⟨rfl, rfl⟩ | ⟨kl, l, rfl, rfl⟩ <;> rcases hhi with ⟨rfl, rfl⟩ | ⟨kh, h, rfl, rfl⟩ <;> rcases hmx with ⟨rfl, rfl⟩ | ⟨km, m, rfl, rfl⟩ <;> simp only [Option.getD_none, Option.getD_some] at g1 g2 g3 g4
  all_goals first
    | (simp at hm; done)
    | skip
  · simp [Instr.sliceBounds]
  · unfold Instr.sliceBounds
    simp [run_bound (P := P) (w := w) (show 0 ≤ h by omega) (show h ≤ (c : Int) by omega)]
  · unfold Instr.sliceBounds
    have e1 := run_bound (P := P) (w := w) (k := km) (code := if b = true then .slice3Acap else .slice3Alen) (show 0 ≤ m by omega) (show m ≤ (c : Int) by omega)
    have e2 := run_bound (P := P) (w := w) (k := kh) (code := .slice3B) (show 0 ≤ h by omega) (show h ≤ (m.toNat : Int) by omega)
    simp [e1, e2]
  · unfold Instr.sliceBounds
    have e1 := run_bound (P := P) (w := w) (k := kl) (code := .sliceB) (show 0 ≤ l by omega) (show l ≤ (n : Int) by omega)
    simp [e1]
  · unfold Instr.sliceBounds
    have e1 := run_bound (P := P) (w := w) (k := kh) (code := if b = true then .sliceAcap else .sliceAlen) (show 0 ≤ h by omega) (show h ≤ (c : Int) by omega)
    have e2 := run_bound (P := P) (w := w) (k := kl) (code := .sliceB) (show 0 ≤ l by omega) (show l ≤ (h.toNat : Int) by omega)
    simp [e1, e2]
  · unfold Instr.sliceBounds
    have e1 := run_bound (P := P) (w := w) (k := km) (code := if b = true then .slice3Acap else .slice3Alen) (show 0 ≤ m by omega) (show m ≤ (c : Int) by omega)
    have e2 := run_bound (P := P) (w := w) (k := kh) (code := .slice3B) (show 0 ≤ h by omega) (show h ≤ (m.toNat : Int) by omega)
    have e3 := run_bound (P := P) (w := w) (k := kl) (code := .slice3C) (show 0 ≤ l by omega) (show l ≤ (h.toNat : Int) by omega)
    simp [e1, e2, e3]

theorem op_slcS {t : TypeId} {x : Operand} {lo hi : Option Operand} {y : AX} {l h' : Option AX} (ho : o.op = .slice t x lo hi none) (ht : P.underlying t = some .string) (hx : compX x = some y) (hl : compO? lo = some l) (hh : compO? hi = some h')
    (h : opW P (.slcS y l h') σ K) (hs : Sim w0 U σ ι a w) (hn : Goes w0 U a o K next) : o.wp P a w next Q := by
  have r1 := compX_rep hx hs
  simp only [opW] at h
  split at h
  · rename_i s lo' hi' e e1 e2
    rw [e] at r1
    have es := (repV_val r1).1
    obtain ⟨⟨g1, g2, g3⟩, h⟩ := h
    have b1 := bound_rep hl hs e1
    have b2 := bound_rep hh hs e2
    have hrun := run_bounds (P := P) (w := w) (b := false) (n := s.size) (c := s.size) (lo := lo.map a.eval) (hi := hi.map a.eval) (mx := none) (m := none) b1 b2 (.inl ⟨rfl, rfl⟩) g1 g2 g3 (by simp) (Nat.le_refl _) (by simp)
    refine wp_value (w' := w) ?_ (hn _ σ ι _ w h hs (repV_of_val rfl))
    simp [execOp, ho, es, Instr.sliceAt, Instr.slice, run_underlying ht, hrun]
  · exact h.elim

theorem op_slc {t e : TypeId} {sz bytes : Nat} {x : Operand} {lo hi mx : Option Operand} {y : AX} {l h' m : Option AX} (ho : o.op = .slice t x lo hi mx) (ht : elemOf? P t = some (e, sz, bytes)) (hx : compX x = some y) (hl : compO? lo = some l) (hh : compO? hi = some h') (hm : compO? mx = some m) (hhm : mx.isSome = true → hi.isSome = true)
    (h : opW P (.slc sz y l h' m) σ K) (hs : Sim w0 U σ ι a w) (hn : Goes w0 U a o K next) : o.wp P a w next Q := by
  have r1 := compX_rep hx hs
  simp only [opW] at h
  split at h
  · exact h.elim
  · rename_i nref
    obtain ⟨rows, e0, lo', e1, hi', e2, mx', e3, ⟨hok, g1, g2, g3, g4⟩, h⟩ := h
    have b1 := bound_rep hl hs e1
    have b2 := bound_rep hh hs e2
    have b3 := bound_rep hm hs e3
    obtain ⟨ad, c, eu, hc, hmax⟩ := rows_len hs r1 e0
    have hrep : RepP w (Free w0.heap.size U ι σ.mem) (.slice rows) (.slice ad rows.length c) := by
      unfold rowsOf? at e0
      generalize AX.ev σ.fr y = v at *
      split at e0
      · cases e0
        cases r1 with | c r1 => cases r1 with | pure r1 => rw [eu] at r1; exact r1
      · cases e0
        cases r1 with | c r1 =>
          rw [eu] at r1
          cases r1 with | tsl r1 => exact r1
      · cases e0
        cases r1 with | c r1 =>
          rw [eu] at r1
          cases r1
          exact .nil
      · exact absurd rfl (nref _)
      · cases e0
    unfold elemOf? at ht
    split at ht
    · rename_i e' hd
      cases hinf : P.info? e' with
      | none => simp [hinf] at ht
      | some inf =>
        simp [hinf] at ht
        obtain ⟨rfl, rfl, _⟩ := ht
        have hsome : mx'.isSome = true → hi'.isSome = true := by
          intro h1
          have h2 : mx.isSome = true := by
            rcases b3 with ⟨_, h3⟩ | ⟨k, i, h3, _⟩
            · rw [h3] at h1; cases h1
            · cases mx with
              | none => cases h3
              | some _ => rfl
          have h4 := hhm h2
          rcases b2 with ⟨h5, _⟩ | ⟨k, i, _, h5⟩
          · cases hi with
            | none => cases h4
            | some _ => cases h5
          · rw [h5]; rfl
        have hrun := run_bounds (P := P) (w := w) (b := true) (n := rows.length) (c := c) b1 b2 b3 g1 g2 g3 g4 hc hsome
        have hpart := hrep.part hok (l := (lo'.getD 0).toNat) (h := (hi'.getD rows.length).toNat) (m := (mx'.map Int.toNat).getD c) (by omega) (by omega) (by cases mx' with | none => simp at g3 ⊢; omega | some m => simp at g3 ⊢; omega)
        refine wp_value (u := .slice (if ((mx'.map Int.toNat).getD c) = (lo'.getD 0).toNat then ad else ad.map (·.add ((lo'.getD 0).toNat * inf.size))) ((hi'.getD rows.length).toNat - (lo'.getD 0).toNat) (((mx'.map Int.toNat).getD c) - (lo'.getD 0).toNat)) (w' := w) ?_ (hn _ σ ι _ w h hs ?_)
        · simp only [execOp, ho, Sem.run_bind, Instr.sliceAt, Instr.slice, run_underlying hd, Result.andThen_ok, eu, hrun, sizeOf, typeInfo, run_program, hinf, Sem.run_pure]
        · split
          · rename_i hms
            obtain ⟨hm1, hm2⟩ := hms
            cases mx' with
            | none => cases hm1
            | some m =>
              subst hm2
              exact .c (.tsl hpart)
          · exact .c (.pure hpart)
    · cases ht
end
end Go.Abs
