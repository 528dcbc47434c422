/- The abstract machine: each of its operations is sound. Part 11: what is given away, maps. -/
import Derived.Test.YtcbnnjadgkgheaaAbs14
import Derived.MapKept
import Derived.Carry
set_option linter.unusedVariables false
set_option linter.unusedSimpArgs false
namespace Go.Abs
open Go.RowKit

section
variable {P : Program} {o : Oper} {a : Act} {w w' w0 : World} {U : Gh} {ι : Pl} {σ : St} {next : Act → World → Prop} {Q : Exit → Act → World → Prop} {K : AV → St → Prop}

theorem free_delB {B : Nat} {mem : List (Nat × Box)} {nm b : Nat} (h : Free B U ι mem b) : Free B U ι (delB mem nm) b := by
  refine ⟨h.1, fun n bx hf => ?_⟩
  rw [findB_delB] at hf
  by_cases e : n = nm
  · rw [if_pos e] at hf; cases hf
  · rw [if_neg e] at hf; exact h.2 n bx hf

/-- Less is known: the memory changes its names. -/
theorem Sim.sub (hs : Sim w0 U σ ι a w) {mem : List (Nat × Box)} (h : ∀ n bx, findB mem n = some bx → findB σ.mem n = some bx) : Sim w0 U { σ with mem := mem } ι a w := by
  have hfree : ∀ b, b < w.heap.size → Free w0.heap.size U ι σ.mem b → Free w0.heap.size U ι mem b := fun b _ hf => ⟨hf.1, fun n bx hn => hf.2 n bx (h n bx hn)⟩
  refine ⟨fun t => (hs.val t).mono hfree (fun _ _ _ => rfl) (fun _ _ => rfl) (Nat.le_refl _), hs.defers, fun n bx hn => hs.names _ _ (h _ _ hn), fun n bx hn => ?_,
    fun n n' b1 b2 b h1 h2 => hs.apart _ _ _ _ _ (h _ _ h1) (h _ _ h2), hs.below, U.mono _ _ _ _ hs.keep hfree (fun _ _ _ => rfl), hs.base⟩
  exact (hs.box _ _ (h _ _ hn)).grow (Below.refl _ _) hfree (fun _ _ => rfl) (Nat.le_refl _) (hs.names _ _ (h _ _ hn))
theorem Sim.del (hs : Sim w0 U σ ι a w) (nm : Nat) : Sim w0 U { σ with mem := delB σ.mem nm } ι a w := by
  refine hs.sub fun n bx hn => ?_
  rw [findB_delB] at hn
  by_cases e : n = nm
  · rw [if_pos e] at hn; cases hn
  · rw [if_neg e] at hn; exact hn

theorem frzA_rep {x : AC} {p : PC} {v : Value} {mem' : List (Nat × Box)} (hs : Sim w0 U σ ι a w) (h : RepA w (Free w0.heap.size U ι σ.mem) ι σ.nx x v) (hf : frzA σ.mem x = some (p, mem')) :
    Sim w0 U { σ with mem := mem' } ι a w ∧ RepP w (Free w0.heap.size U ι mem') p v ∧ ∀ b, Free w0.heap.size U ι σ.mem b → Free w0.heap.size U ι mem' b := by
  cases h with
  | pure h => cases hf; exact ⟨hs, h, fun _ h => h⟩
  | nils => cases hf; exact ⟨hs, .nil, fun _ h => h⟩
  | tsl h => cases hf; exact ⟨hs, h, fun _ h => h⟩
  | @ref nm hn hex =>
    simp only [frzA] at hf
    split at hf
    · rename_i e sz rows hfb
      cases hf
      refine ⟨hs.del nm, ?_, fun b h => free_delB h⟩
      obtain ⟨cells, g0, g1, g2, g3⟩ := hs.box _ _ hfb
      rcases g1.2 with ⟨e1, e2⟩ | ⟨g, cap, cur, e1, hB, _⟩
      · have : rows = [] := List.eq_nil_of_length_eq_zero e2
        subst this
        rw [e1]
        exact .nil
      · have hb : blockOf (ι nm) = some g := by rw [e1]; rfl
        rw [e1] at g1 ⊢
        refine own_pure g1 rfl (g3.mono (fun b _ h => free_delB h) (fun _ _ _ => rfl)) ⟨.inr hB, fun n bx hnb e => ?_⟩ g2
        rw [findB_delB] at hnb
        by_cases en : n = nm
        · rw [if_pos en] at hnb; cases hnb
        · rw [if_neg en] at hnb
          exact en (hs.apart _ _ _ _ _ hnb hfb e hb)
    · cases hf
  | _ => cases hf
theorem frzAs_rep : ∀ {xs : List AC} {σ : St} {vs : List Value} {ps : List PC} {mem' : List (Nat × Box)}, Sim w0 U σ ι a w → All2 (RepA w (Free w0.heap.size U ι σ.mem) ι σ.nx) xs vs → frzAs σ.mem xs = some (ps, mem') →
    Sim w0 U { σ with mem := mem' } ι a w ∧ All2 (RepP w (Free w0.heap.size U ι mem')) ps vs ∧ ∀ b, Free w0.heap.size U ι σ.mem b → Free w0.heap.size U ι mem' b
  | [], σ, vs, ps, mem', hs, h, hf => by
    cases h
    cases hf
    exact ⟨hs, .nil, fun _ h => h⟩
  | x :: xs, σ, vs, ps, mem', hs, h, hf => by
    cases h with
    | cons h1 h2 =>
      unfold frzAs at hf
      split at hf
      · rename_i y m1 e1
        split at hf
        · rename_i ys m2 e2
          cases hf
          obtain ⟨k1, k2, k3⟩ := frzA_rep hs h1 e1
          obtain ⟨j1, j2, j3⟩ := frzAs_rep (σ := { σ with mem := m1 }) k1 (h2.mono fun _ _ h => h.mono (fun b _ h => k3 b h) (fun _ _ _ => rfl) (fun _ _ => rfl) (Nat.le_refl _)) e2
          exact ⟨j1, .cons (k2.mono (fun b _ h => j3 b h) (fun _ _ _ => rfl)) j2, fun b h => j3 b (k3 b h)⟩
        · cases hf
      · cases hf

theorem bsliceF_fill {sz n : Nat} : ∀ {k : Nat} {mem : List (Nat × Box)} {parts : List (Nat × Operand)} {rs : List AX} {acc : List (List PC)} {cells : Array Value} {R : List (List PC) → List (Nat × Box) → Prop}, Sim w0 U { σ with mem := mem } ι a w → rowsOf k parts = some rs → opW.bsliceFW σ sz rs mem acc R → acc.length = k → k + rs.length = n → cells.size = n * sz →
    RowsRep w (Free w0.heap.size U ι mem) sz acc (cells.toList.take (k * sz)) → ∃ cells' rows mem', Instr.fill (fun i => some (i * sz, sz)) cells (parts.map fun (i, x) => (i, a.eval x)) = some cells' ∧ Sim w0 U { σ with mem := mem' } ι a w ∧ RowsRep w (Free w0.heap.size U ι mem') sz rows cells'.toList ∧ rows.length = n ∧ R rows mem'
  | k, mem, [], rs, acc, cells, R, hs, hp, h, hl, hkn, hcs, hc => by
    cases hp
    simp at hkn
    subst hkn
    exact ⟨cells, acc, mem, rfl, hs, by rw [List.take_of_length_le (by simp; omega)] at hc; exact hc, hl, h⟩
  | k, mem, (i, x) :: parts, rs, acc, cells, R, hs, hp, h, hl, hkn, hcs, hc => by
    unfold rowsOf at hp
    split at hp
    · rename_i hik
      subst hik
      split at hp
      · rename_i y ys h2 h3
        cases hp
        simp only [opW.bsliceFW] at h
        split at h
        · rename_i zs e
          obtain ⟨⟨r, mem1⟩, hr, hrl, h⟩ := h
          have hz := (compX_rep h2 hs).cells e
          obtain ⟨hs1, hpz, hfr⟩ := frzAs_rep hs hz hr
          have hzl := hz.length
          have e0 := Array.length_toList (xs := (a.eval x).cells)
          have e00 := Array.length_toList (xs := cells)
          simp only [List.length_cons] at hkn
          have hle : i * sz + sz ≤ n * sz := by
            have : (i + 1) * sz ≤ n * sz := Nat.mul_le_mul_right _ (by omega)
            rw [Nat.succ_mul] at this
            exact this
          have hol : (over cells.toList (i * sz) (a.eval x).cells.toList).length = cells.toList.length := over_len_eq (by simp; omega)
          obtain ⟨cells', rows, mem', hf, h3', h4, h5, hR⟩ := bsliceF_fill (n := n) (cells := (over cells.toList (i * sz) (a.eval x).cells.toList).toArray) hs1 h3 h (by simp [hl]) (by omega) (by simp only [List.size_toArray, hol, Array.length_toList, hcs]) (by
            have e1 : (over cells.toList (i * sz) (a.eval x).cells.toList).take ((i + 1) * sz) = cells.toList.take (i * sz) ++ (a.eval x).cells.toList := by
              unfold over
              rw [List.append_assoc, Nat.succ_mul]
              have e2 : (cells.toList.take (i * sz)).length = i * sz := by simp; omega
              rw [List.take_append, e2, List.take_of_length_le (by omega), Nat.add_sub_cancel_left, List.take_append, List.take_of_length_le (l := (a.eval x).cells.toList) (by simp; omega)]
              have e3 : sz - (a.eval x).cells.toList.length = 0 := by simp; omega
              rw [e3]
              simp
            simp only [List.toList_toArray] at e1 ⊢
            rw [e1]
            exact (hc.mono (fun b _ h => hfr b h) (fun _ _ _ => rfl)).append (RowsRep.one hpz (by have := hpz.length; omega)))
          refine ⟨cells', rows, mem', ?_, h3', h4, h5, hR⟩
          rw [List.map_cons, fill_cons rfl (by omega) (by omega)]
          exact hf
        · exact h.elim
      · cases hp
    · cases hp
theorem op_bsliceF {t : TypeId} {n e sz bytes : Nat} {parts : Array (Nat × Operand)} {rs : List AX} {z : Value} (ho : o.op = .buildSlice t n parts) (ht : elemOf? P t = some (e, sz, bytes)) (hr : rowsOf 0 parts.toList = some rs) (hl : rs.length = n) (hm : n * sz ≤ 16777216) (h0 : 0 < sz) (hz : zeroOf P e = some z) (hzs : z.cells.size = sz)
    (h : opW P (.bsliceF sz rs) σ K) (hs : Sim w0 U σ ι a w) (hn : Goes w0 U a o K next) : o.wp P a w next Q := by
  simp only [opW] at h
  unfold elemOf? zeroOf at *
  split at ht
  · rename_i e' hd
    cases hi : P.info? e' with
    | none => simp [hi] at ht
    | some inf =>
      simp [hi] at ht
      obtain ⟨rfl, rfl, _⟩ := ht
      simp [hi] at hz
      let base : Array Value := (Array.range (n * inf.size)).map (fun k => (if n * inf.size = 0 then #[] else z.cells)[k % (if n * inf.size = 0 then #[] else z.cells).size]!)
      have hbase : base.size = n * inf.size := by simp [base]
      obtain ⟨cells', rows, mem', hf, hs', h4, h5, hR⟩ := bsliceF_fill (n := n) (cells := base) (mem := σ.mem) hs hr h rfl (by omega) hbase (by simp; exact RowsRep.nil)
      have hg : Below w.heap.size w (w.alloc (.cells cells' e')) := (Below.refl _ _).alloc (Nat.le_refl _) _
      have hrep : RepP (w.alloc (.cells cells' e')) (Free w0.heap.size U ι mem') (.slice rows) (.slice (some ⟨w.heap.size, 0, none⟩) rows.length rows.length) := by
        refine (h4.mono (fun _ _ h => h) (fun b hb _ => hg.block b hb)).slice (free_new hs') (Nat.le_refl _) (by have : n * 1 ≤ n * inf.size := Nat.mul_le_mul_left _ h0; omega) fun k v hk => ?_
        rw [cell_row (heap_alloc_new _ _)]
        exact hk
      rw [h5] at hrep
      refine wp_value (w' := w.alloc (.cells cells' e')) ?_ (hn _ _ ι _ _ hR (hs'.grow hg) (.c (.tsl hrep)))
      have hf' : Instr.fill (fun i => some (i * inf.size, inf.size)) base (parts.map fun (i, x) => (i, a.eval x)).toList = some cells' := by
        rw [Array.toList_map]; exact hf
      by_cases hn0 : n * inf.size = 0
      · simp only [base, hn0, if_true] at hf'
        have e1 : ¬ (16777216 < n * inf.size) := by omega
        simp [execOp, ho, Instr.buildSlice, run_underlying hd, sizeOf, typeInfo, hi, hn0, newRow]
        simp [Array.range_zero'] at hf'
        simp [hf', Array.range_zero']
        try rfl
      · simp only [base, hn0, if_false] at hf'
        have e1 : ¬ (16777216 < n * inf.size) := by omega
        simp [execOp, ho, Instr.buildSlice, run_underlying hd, sizeOf, typeInfo, hi, hn0, newRow, zeroValue, hz, e1]
        simp at hf'
        simp [hf']
        try rfl
  · cases ht

/-! Maps. -/

theorem op_mkmap {t : TypeId} {kt : KT} {n : Option Nat} (ho : o.op = .makeMap t none) (h : opW P (.mkmap kt n) σ K) (hs : Sim w0 U σ ι a w) (hn : Goes w0 U a o K next) : o.wp P a w next Q := by
  simp only [opW] at h
  have hg : Below w.heap.size w (w.alloc (.map #[] 0)) := (Below.refl _ _).alloc (Nat.le_refl _) _
  obtain ⟨ι', h1, h2, h3, h4⟩ := hs.newBox (pv := .map (some w.heap.size)) (bx := .map kt n []) hg (fun b hb => by simp [blockOf] at hb; omega) (fun ι' e1 e2 hfree =>
    ⟨w.heap.size, #[], 0, e2, hs.below.size, (MapKept.heap_alloc w _).1, .nil⟩)
  exact wp_value (u := .map (some w.heap.size)) (w' := w.alloc (.map #[] 0)) (by simp [execOp, ho, run_makeMap]) (hn _ _ ι' _ _ h h1 (.c (.mref (Nat.lt_succ_self _) h2)))

def KT.desc : KT → TypeDesc
  | .int k => .int k
  | .str => .string
  | .bool => .bool
theorem mapOf_parts {t : TypeId} {kt : KT} {e : TypeId} {n : Option Nat} (h : mapOf? P t = some (kt, e, n)) : ∃ k, P.underlying t = some (.map k e) ∧ P.underlying k = some kt.desc ∧ rowOf P e = some n := by
  unfold mapOf? at h
  split at h
  · rename_i k e' hd
    split at h <;> cases h
    · exact ⟨k, hd, ‹_›, ‹_›⟩
    · exact ⟨k, hd, ‹_›, ‹_›⟩
    · exact ⟨k, hd, ‹_›, ‹_›⟩
  · cases h
theorem mkOf_key {kt : KT} {kv : Value} {mk : MK} (h : mkOf kt kv = some mk) : MapKept.IsKey kt.desc kv ∧ mk.val kt = some kv := by
  unfold mkOf at h
  split at h
  · split at h
    · rename_i e
      cases h
      subst e
      exact ⟨rfl, rfl⟩
    · cases h
  · cases h
    exact ⟨trivial, rfl⟩
  · cases h
    exact ⟨trivial, rfl⟩
  · cases h
theorem val_key {kt : KT} {kv : Value} {mk : MK} (h : mk.val kt = some kv) : MapKept.IsKey kt.desc kv := by
  unfold MK.val at h
  split at h <;> cases h
  · rfl
  · trivial
  · trivial
theorem val_inj {kt : KT} {kv : Value} {mk mk' : MK} (h : mk.val kt = some kv) (h' : mk'.val kt = some kv) : mk = mk' := by
  unfold MK.val at h h'
  split at h <;> cases h <;> split at h' <;> simp_all

theorem find_look {V : Nat → Prop} {kt : KT} {n : Option Nat} {kv : Value} {mk : MK} (hk : MapKept.IsKey kt.desc kv) (hv : mk.val kt = some kv) : ∀ {ents : List (MK × List PC)} {es : List MapEntry} {i : Nat}, All2 (EntRep w V kt n) ents es →
    (mlook ents mk = none ∧ Instr.findNow kt.desc kv es i = some none) ∨ ∃ j ps e, mlook ents mk = some ps ∧ Instr.findNow kt.desc kv es i = some (some (i + j, e.val)) ∧ es[j]? = some e ∧ e.key = kv ∧ ents[j]? = some (mk, ps) ∧ ∀ ps', mset ents mk ps' = ents.set j (mk, ps')
  | [], es, i, h => by cases h; exact .inl ⟨rfl, rfl⟩
  | (mk0, ps0) :: ents, es, i, h => by
    cases h with
    | @cons _ e _ es h1 h2 =>
      obtain ⟨r, hr, hiff⟩ := MapKept.sameNow_of_keys hk (val_key h1.1)
      by_cases hm : mk0 = mk
      · subst hm
        have hkv : e.key = kv := by have := h1.1.symm.trans hv; simpa using this
        cases r with
        | false => exact absurd (hiff.2 hkv.symm) (by simp)
        | true => exact .inr ⟨0, ps0, e, by simp [mlook], by simp [Instr.findNow, hr], rfl, hkv, rfl, fun ps' => by simp [mset]⟩
      · cases r with
        | true =>
          have := hiff.1 rfl
          exact absurd (val_inj (this ▸ h1.1) hv) hm
        | false =>
          rcases find_look hk hv (i := i + 1) h2 with ⟨k1, k2⟩ | ⟨j, ps, e', k1, k2, k3, k4, k5, k6⟩
          · exact .inl ⟨by simp [mlook, hm, k1], by simp [Instr.findNow, hr, k2]⟩
          · exact .inr ⟨j + 1, ps, e', by simp [mlook, hm, k1], by simp [Instr.findNow, hr, k2]; omega, by simpa using k3, k4, by simpa using k5, fun ps' => by simp [mset, hm, k6]⟩
theorem mset_new {mk : MK} {ps : List PC} : ∀ {ents : List (MK × List PC)}, mlook ents mk = none → mset ents mk ps = ents ++ [(mk, ps)]
  | [], _ => rfl
  | (k, v) :: r, h => by
    simp only [mlook] at h
    by_cases e : k = mk
    · rw [if_pos e] at h; cases h
    · rw [if_neg e] at h
      simp [mset, e, mset_new h]

theorem tup2 {V : Nat → Prop} {N : Nat} {x y : AV} {u v : Value} (hx : RepV w V ι N x u) (hy : RepV w V ι N y v) : RepV w V ι N (.tup [x, y]) (.tuple #[u, v]) := by
  refine .tup rfl fun i z hi => ?_
  cases i with
  | zero => simp at hi; subst hi; exact hx
  | succ i =>
    cases i with
    | zero => simp at hi; subst hi; exact hy
    | succ i => simp at hi
theorem op_mget {t e : TypeId} {kt : KT} {n : Option Nat} {ok : Bool} {x y : Operand} {m k : AX} {z : Value} {zs : List PC} (ho : o.op = .lookup t x y ok) (ht : mapOf? P t = some (kt, e, n)) (hz : zeroOf P e = some z) (hzs : zeroPs n z = some zs) (hx : compX x = some m) (hy : compX y = some k)
    (h : opW P (.mget kt n zs ok m k) σ K) (hs : Sim w0 U σ ι a w) (hn : Goes w0 U a o K next) : o.wp P a w next Q := by
  have r1 := compX_rep hx hs
  have r2 := compX_rep hy hs
  have hzn : RepV w (Free w0.heap.size U ι σ.mem) ι σ.nx (mval n zs) z := by
    unfold zeroPs at hzs
    split at hzs
    · split at hzs
      · cases hzs; exact .c (.pure (pcellOf_rep ‹_›))
      · cases hzs
    · split at hzs
      · have : ∀ {ps : List PC} {vs : List Value}, All2 (RepP w (Free w0.heap.size U ι σ.mem)) ps vs → All2 (RepA w (Free w0.heap.size U ι σ.mem) ι σ.nx) (ps.map .pure) vs := by
          intro ps vs h
          induction h with
          | nil => exact .nil
          | cons h _ ih => exact .cons (.pure h) ih
        exact .agg (this (pcellsOf_rep hzs))
      · cases hzs
  generalize hu : a.eval x = u at r1
  obtain ⟨kty, g1, g2, g3⟩ := mapOf_parts ht
  simp only [opW] at h
  split at h
  · rename_i kv ek
    rw [ek] at r2
    have e2 := (repV_val r2).1
    obtain ⟨mk, hmk, h⟩ := h
    obtain ⟨q1, q2⟩ := mkOf_key hmk
    simp only at h
    split at h
    · rename_i nm em
      rw [em] at r1
      split at h
      · rename_i kt' n' ents hf
        obtain ⟨⟨rfl, rfl⟩, h⟩ := h
        cases r1 with
        | c r1 => cases r1 with
          | @mref _ b hnm hι =>
            obtain ⟨b', es, clock, k1, k2, k3, k4⟩ := hs.box _ _ hf
            rw [hι] at k1
            simp at k1
            subst k1
            have hck : ∀ em, (Instr.checkKey em 10000 kty kv).run P w = .ok () w := fun em => MapKept.run_checkKey g2 q1 em 9999
            have hz' : (zeroValue e).run P w = .ok z w := by
              unfold zeroOf at hz
              cases hi : P.info? e with
              | none => simp [hi] at hz
              | some i => simp [hi] at hz; simp [zeroValue, typeInfo, hi, hz]
            rcases find_look q1 q2 (i := 0) k4 with ⟨l1, l2⟩ | ⟨j, ps, en, l1, l2, l3, l4, l5, _⟩
            · have hfk := MapKept.run_findKey (w := w) g2 l2
              have hk := h.2 l1
              refine wp_value (u := if ok = true then .tuple #[z, .bool false] else z) (w' := w) ?_ (hn _ σ ι _ w hk hs ?_)
              · cases ok <;> simp [execOp, ho, hu, e2, Instr.lookup, run_underlying g1, MapKept.run_getObj_map k3, hck, hfk, hz']
              · cases ok with
                | false => exact hzn
                | true => exact tup2 hzn (repV_bool _)
            · have hfk := MapKept.run_findKey (w := w) g2 l2
              have hk := h.1 ps l1
              obtain ⟨en', hen, hent⟩ := k4.get l5
              rw [l3] at hen
              cases hen
              have hval : RepV w (Free w0.heap.size U ι σ.mem) ι σ.nx (mval n' ps) en.val := hent.2.mono (fun _ _ h => h) (fun _ _ _ => rfl) (fun _ h => by omega) (Nat.zero_le _)
              refine wp_value (u := if ok = true then .tuple #[en.val, .bool true] else en.val) (w' := w) ?_ (hn _ σ ι _ w hk hs ?_)
              · cases ok <;> simp [execOp, ho, hu, e2, Instr.lookup, run_underlying g1, MapKept.run_getObj_map k3, hck, hfk]
              · cases ok with
                | false => exact hval
                | true => exact tup2 hval (repV_bool _)
      · exact h.elim
    · exact h.elim
  · exact h.elim

/-- A map of the call's own is written. -/
theorem Sim.setMap (hs : Sim w0 U σ ι a w) {nm b : Nat} {bx0 : Box} {kt : KT} {n : Option Nat} {ents : List (MK × List PC)} {es : Array MapEntry} {clock : Nat} {o0 : Obj} (hf : findB σ.mem nm = some bx0) (hι : ι nm = .map (some b)) (h0 : w.heap[b]? = some o0)
    (hents : All2 (EntRep w (Free w0.heap.size U ι σ.mem) kt n) ents es.toList) : Sim w0 U { σ with mem := setB σ.mem nm (.map kt n ents) } ι a { w with heap := w.heap.setIfInBounds b (.map es clock) } := by
  have hb : blockOf (ι nm) = some b := by rw [hι]; rfl
  have hB := ((hs.box _ _ hf).block hb).1
  obtain ⟨s1, s2⟩ := MapKept.heap_set (o' := .map es clock) h0
  have hfree : ∀ c, Free w0.heap.size U ι σ.mem c → Free w0.heap.size U ι (setB σ.mem nm (.map kt n ents)) c := fun c h => free_setB.2 h
  have hne : ∀ c, Free w0.heap.size U ι σ.mem c → c ≠ b := fun c h e => h.2 _ _ hf (by rw [hb, e])
  have hw : ∀ c, c < w.heap.size → Free w0.heap.size U ι σ.mem c → ({ w with heap := w.heap.setIfInBounds b (.map es clock) } : World).heap[c]? = w.heap[c]? := fun c _ h => s2 c (hne c h)
  have hsub : ∀ n' bx', findB (setB σ.mem nm (.map kt n ents)) n' = some bx' → ∃ c, findB σ.mem n' = some c := by
    intro n' bx' h1
    rw [findB_setB] at h1
    by_cases e : nm = n'
    · subst e; exact ⟨_, hf⟩
    · rw [if_neg e] at h1; exact ⟨_, h1⟩
  refine ⟨fun t => (hs.val t).mono (fun c _ h => hfree c h) hw (fun _ _ => rfl) (Nat.le_refl _), hs.defers, fun n' bx' hn => ?_, fun n' bx' hn => ?_, fun n' n'' b1 b2 c h1 h2 h3 h4 => ?_,
    hs.below.trans ⟨rfl, rfl, rfl, by simp, fun k hk => s2 k (by omega)⟩, U.mono _ _ _ _ hs.keep (fun c _ h => hfree c h) hw, hs.base⟩
  · obtain ⟨c, hc⟩ := hsub _ _ hn
    exact hs.names _ _ hc
  · rw [findB_setB] at hn
    by_cases e : nm = n'
    · subst e
      rw [if_pos rfl, hf] at hn
      cases hn
      exact ⟨b, es, clock, hι, hB, s1, hents.mono fun _ _ h => h.mono (fun c _ h => hfree c h) hw⟩
    · rw [if_neg e] at hn
      have hbn : ∀ c, blockOf (ι n') = some c → c ≠ b := fun c hc e' => e (hs.apart _ _ _ _ b hf hn hb (by rw [hc, e']))
      have hold := hs.box _ _ hn
      cases bx' with
      | var xs =>
        obtain ⟨b', vs, T, h1, h2, h3, h4⟩ := hold
        exact ⟨b', vs, T, h1, h2, by rw [s2 _ (hbn b' (by rw [h1]; rfl))]; exact h3, h4.mono fun _ _ h => h.mono (fun c _ h => hfree c h) hw (fun _ _ => rfl) (Nat.le_refl _)⟩
      | arr e' sz rows =>
        obtain ⟨cells, h0, h1, h2, h3⟩ := hold
        refine ⟨cells, h0, World.ownsRow.kept (row := some b) h1 ⟨rfl, rfl, rfl, by simp, fun k _ hk => s2 k (fun e => hk (by rw [e]))⟩ ?_, h2, h3.mono (fun c _ h => hfree c h) hw⟩
        rcases h1.2 with ⟨h, _⟩ | ⟨g, cap, cur, h, _⟩
        · rw [h]; exact .inl rfl
        · right
          rw [h]
          intro e'
          simp [Value.ownBlock] at e'
          exact hbn g (by rw [h]; rfl) e'
      | map kt' m ents' =>
        obtain ⟨b', es', clock', h1, h2, h3, h4⟩ := hold
        exact ⟨b', es', clock', h1, h2, by rw [s2 _ (hbn b' (by rw [h1]; rfl))]; exact h3, h4.mono fun _ _ h => h.mono (fun c _ h => hfree c h) hw⟩
  · obtain ⟨c1, h1'⟩ := hsub _ _ h1
    obtain ⟨c2, h2'⟩ := hsub _ _ h2
    exact hs.apart _ _ _ _ _ h1' h2' h3 h4

theorem All2.set {α β : Type} {R : α → β → Prop} {as : List α} {bs : List β} (h : All2 R as bs) (j : Nat) {x : α} {y : β} (hr : R x y) : All2 R (as.set j x) (bs.set j y) := by
  induction h generalizing j with
  | nil => exact .nil
  | cons h t ih =>
    cases j with
    | zero => exact .cons hr t
    | succ j => exact .cons h (ih j)

theorem mcells_rep {V : Nat → Prop} {N : Nat} {n : Option Nat} {v : AV} {u : Value} {ys : List AC} (h : RepV w V ι N v u) (hm : mcells n v = some ys) : All2 (RepA w V ι N) ys u.cells.toList ∧
    ∀ (V' : Nat → Prop) (ps : List PC), All2 (RepP w V') ps u.cells.toList → RepV w V' (fun _ => undef) 0 (mval n ps) u := by
  unfold mcells at hm
  split at hm
  · rename_i x
    cases hm
    refine ⟨h.cells rfl, fun V' ps hp => ?_⟩
    cases h with
    | c h =>
      rw [cells_one h.one] at hp
      cases hp with
      | cons h1 t => cases t; exact .c (.pure h1)
  · rename_i k xs
    split at hm
    · cases hm
      refine ⟨h.cells rfl, fun V' ps hp => ?_⟩
      cases h with
      | agg h =>
        refine .agg ?_
        have : ∀ {ps : List PC} {vs : List Value}, All2 (RepP w V') ps vs → All2 (RepA w V' (fun _ => undef) 0) (ps.map .pure) vs := by
          intro ps vs h
          induction h with
          | nil => exact .nil
          | cons h _ ih => exact .cons (.pure h) ih
        exact this hp
    · cases hm
  · cases hm

theorem op_mput {t e : TypeId} {kt : KT} {n : Option Nat} {x y v : Operand} {m k q : AX} (ho : o.op = .mapUpdate t x y v ∨ o.op = .insert t x y v) (ht : mapOf? P t = some (kt, e, n)) (hx : compX x = some m) (hy : compX y = some k) (hv : compX v = some q)
    (h : opW P (.mput kt n m k q) σ K) (hs : Sim w0 U σ ι a w) (hn : Goes w0 U a o K next) : o.wp P a w next Q := by
  have r1 := compX_rep hx hs
  have r2 := compX_rep hy hs
  have r3 := compX_rep hv hs
  generalize hu : a.eval x = u at r1
  obtain ⟨kty, g1, g2, g3⟩ := mapOf_parts ht
  simp only [opW] at h
  split at h
  · rename_i kv ek
    rw [ek] at r2
    have e2 := (repV_val r2).1
    obtain ⟨mk, hmk, h⟩ := h
    obtain ⟨q1, q2⟩ := mkOf_key hmk
    simp only at h
    split at h
    · rename_i nm em
      rw [em] at r1
      obtain ⟨ys, hys, ⟨zs, mem'⟩, hz, h⟩ := h
      obtain ⟨c1, c2⟩ := mcells_rep r3 hys
      obtain ⟨hs1, hp, hfr⟩ := frzAs_rep hs c1 hz
      simp only at h
      split at h
      · rename_i kt' n' ents hf
        obtain ⟨⟨rfl, rfl⟩, h⟩ := h
        cases r1 with
        | c r1 => cases r1 with
          | @mref _ b hnm hι =>
            obtain ⟨b', es, clock, k1, k2, k3, k4⟩ := hs1.box _ _ hf
            rw [hι] at k1
            simp at k1
            subst k1
            have hck : (Instr.checkKey false 10000 kty kv).run P w = .ok () w := MapKept.run_checkKey g2 q1 false 9999
            have hent : ∀ born, EntRep w (Free w0.heap.size U ι mem') kt' n' (mk, zs) { key := kv, val := a.eval v, born := born } := fun born => ⟨q2, c2 _ _ hp⟩
            rcases find_look q1 q2 (i := 0) k4 with ⟨l1, l2⟩ | ⟨j, ps, en, l1, l2, l3, l4, l5, l6⟩
            · have hfk := MapKept.run_findKey (w := w) g2 l2
              rw [mset_new l1] at h
              refine wp_skipped (w' := { w with heap := w.heap.setIfInBounds b (.map (es.push { key := kv, val := a.eval v, born := clock }) (clock + 1)) }) ?_ (hn _ _ ι _ _ h (hs1.setMap hf hι k3 ?_) repV_undef)
              · rcases ho with ho | ho <;> simp [execOp, ho, hu, e2, Instr.mapUpdate, run_underlying g1, MapKept.run_getObj_map k3, hck, hfk, MapKept.run_setObj_map _ k3]
              · rw [Array.toList_push]
                exact k4.append (.cons (hent _) .nil)
            · have hfk := MapKept.run_findKey (w := w) g2 l2
              rw [l6] at h
              have hj : es[j]? = some en := by simpa using l3
              refine wp_skipped (w' := { w with heap := w.heap.setIfInBounds b (.map (es.modify j fun e => { e with key := kv, val := a.eval v }) clock) }) ?_ (hn _ _ ι _ _ h (hs1.setMap hf hι k3 ?_) repV_undef)
              · rcases ho with ho | ho <;> simp [execOp, ho, hu, e2, Instr.mapUpdate, run_underlying g1, MapKept.run_getObj_map k3, hck, hfk, MapKept.run_setObj_map _ k3, hj, l4, MapKept.run_keyThatStays q1]
              · rw [Array.toList_modify, ChangeMaps.modify_eq_set _ _ _ _ l3]
                exact k4.set j ⟨q2, c2 _ _ hp⟩
      · exact h.elim
    · exact h.elim
  · exact h.elim
end
end Go.Abs
