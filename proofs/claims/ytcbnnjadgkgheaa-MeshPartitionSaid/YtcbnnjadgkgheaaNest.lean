/- Slices of slices of ints: how they lie in memory; append of one row. -/
import Derived.Test.YtcbnnjadgkgheaaCommon
set_option linter.unusedVariables false
set_option linter.unusedSimpArgs false
namespace Go.Proofs.Ytcbnnjadgkgheaa
open Go.RowKit

/-- The slices vs read as the rows. -/
def Reads (w : World) (vs : List Value) (rows : List (List Int)) : Prop := vs.length = rows.length ∧ ∀ i, i < rows.length → IsInts w (vs[i]?.getD undef) (rows[i]?.getD [])
/-- The slices vs read as the rows, each in memory of its own kind. -/
def Rowed (w : World) (B : Nat) (vs : List Value) (rows : List (List Int)) : Prop := vs.length = rows.length ∧ ∀ i, i < rows.length → Own w B (vs[i]?.getD undef) (rows[i]?.getD [])
theorem Reads.ext {w w' : World} {vs : List Value} {rows : List (List Int)} (h : Reads w vs rows) (hb : Ext w w') : Reads w' vs rows := ⟨h.1, fun i hi => (h.2 i hi).ext hb⟩
theorem Rowed.ext {w w' : World} {B : Nat} {vs : List Value} {rows : List (List Int)} (h : Rowed w B vs rows) (hb : Ext w w') : Rowed w' B vs rows := ⟨h.1, fun i hi => (h.2 i hi).ext hb⟩
theorem Own.base {w : World} {B : Nat} {v : Value} {xs : List Int} (h : Own w B v xs) : Own w 0 v xs := by
  refine ⟨h.1, ?_⟩
  rcases h.2 with h | ⟨g, cap, cur, hv, hb, r⟩
  · exact .inl h
  · exact .inr ⟨g, cap, cur, hv, Nat.zero_le _, r⟩
theorem Own.low {w : World} {B B' : Nat} {v : Value} {xs : List Int} (h : Own w B v xs) (hb : B' ≤ B) : Own w B' v xs := by
  refine ⟨h.1, ?_⟩
  rcases h.2 with h | ⟨g, cap, cur, hv, hb, r⟩
  · exact .inl h
  · exact .inr ⟨g, cap, cur, hv, by omega, r⟩
/-- The slice v of slices, whose own array lies in the call's own memory from block B on. -/
def OwnRows (w : World) (B : Nat) (v : Value) (rows : List (List Int)) : Prop := ∃ vs, w.ownsRow B 22 1 v rows.length vs ∧ Rowed w B vs rows
theorem OwnRows.nil (w : World) (B : Nat) : OwnRows w B (.slice none 0 0) [] := ⟨[], World.ownsRow_nil _ _ _ _, rfl, fun i hi => by simp at hi⟩
theorem OwnRows.ext {w w' : World} {B : Nat} {v : Value} {rows : List (List Int)} (h : OwnRows w B v rows) (hb : Ext w w') : OwnRows w' B v rows := by
  obtain ⟨vs, h1, h2⟩ := h
  exact ⟨vs, World.ownsRow.kept h1 hb.grown (by cases v.ownBlock <;> simp), h2.ext hb⟩
/-- The value v is a slice of slices that reads as the rows. -/
def IsRows (w : World) (v : Value) (rows : List (List Int)) : Prop := ∃ vs a c, v = .slice a rows.length c ∧ rows.length ≤ c ∧ rows.length ≤ 9223372036854775807 ∧ Cells w a vs ∧ Reads w vs rows
theorem IsRows.ext {w w' : World} {v : Value} {rows : List (List Int)} (h : IsRows w v rows) (hb : Ext w w') : IsRows w' v rows := by
  obtain ⟨vs, a, c, h1, h2, h3, h4, h5⟩ := h
  exact ⟨vs, a, c, h1, h2, h3, h4.ext hb, h5.ext hb⟩
theorem IsRows.nil (w : World) : IsRows w (.slice none 0 0) [] := ⟨[], none, 0, rfl, Nat.le_refl _, by simp, ⟨fun k hk => by simp at hk, fun k hk => by simp at hk⟩, rfl, fun i hi => by simp at hi⟩
theorem IsRows.open {w : World} {v : Value} {rows : List (List Int)} (h : IsRows w v rows) : ∃ vs a n c, Hid (n = rows.length) ∧ n ≤ c ∧ n ≤ 9223372036854775807 ∧ v = .slice a n c ∧ Hid (Cells w a vs) ∧ Hid (Reads w vs rows) := by
  obtain ⟨vs, a, c, h1, h2, h3, h4, h5⟩ := h
  exact ⟨vs, a, _, c, rfl, h2, h3, h1, h4, h5⟩
theorem OwnRows.isRows {w : World} {B : Nat} {v : Value} {rows : List (List Int)} (h : OwnRows w B v rows) (hl : rows.length ≤ 9223372036854775807) (hr : ∀ r ∈ rows, r.length ≤ 9223372036854775807) : IsRows w v rows := by
  obtain ⟨vs, h1, h2⟩ := h
  have hreads : Reads w vs rows := ⟨h2.1, fun i hi => (h2.2 i hi).isInts (by
    rw [List.getElem?_eq_getElem hi]
    exact hr _ (List.getElem_mem hi))⟩
  have h1' := h1
  rcases h1.2 with ⟨rfl, hn⟩ | ⟨g, cap, cur, rfl, hb, hg, hnc, hcm, hcs, htake⟩
  · obtain rfl : rows = [] := List.eq_nil_of_length_eq_zero hn
    exact IsRows.nil w
  · refine ⟨vs, _, _, rfl, hnc, hl, ⟨fun k _ => ⟨g, 0, rfl⟩, fun k hk => ?_⟩, hreads⟩
    rw [adr_some, Nat.zero_add]
    exact World.ownsRow.cellAt h1' k (by rw [h2.1] at hk; omega)
theorem Cells.slot {w : World} {a : Option Addr} {vs : List Value} {rows : List (List Int)} (h : Cells w a vs) (hr : Reads w vs rows) {k : Nat} (hk : k < rows.length) : w.cell? (adr a k) = Option.some (vs[k]?.getD undef) := by
  have hk' : k < vs.length := by rw [hr.1]; exact hk
  rw [h.cell k hk', List.getElem?_eq_getElem hk']
  rfl

theorem infoRow : (Try.prog.info? 22).map (fun i => (i.zero, i.size, i.bytes)) = some (some (.slice none 0 0), 1, 24) := by kernel_rfl
theorem idx_rows {w : World} {a : Option Addr} {vs : List Value} {rows : List (List Int)} (h : Cells w a vs) (hr : Reads w vs rows) (n c : Nat) (hn : n = rows.length) (u : World) (k : Int) (h0 : 0 ≤ k) (h1 : k < n) :
    (Instr.indexAt 46 (.slice a n c) (.int .i64 k)).run Try.prog u = .ok (.pointer (some (adr a k.toNat))) u := by
  subst hn
  obtain ⟨b, off, rfl⟩ := h.some k.toNat (by rw [hr.1]; omega)
  simp only [adr, addr_add]
  go_simp

/-- 'append(v, u)' of one row. -/
theorem append_row {W w : World} {B : Nat} {v u : Value} {rows : List (List Int)} {ys : List Int} {ops : Array Oper} {rest : List Oper} {o : Oper} {a : Act} {Q : Exit → Act → World → Prop} (hg : o.guard = none) (s y : Operand)
    (hop : o.op = Op.call { callee := Callee.builtin Builtin.append, args := #[s, y], argTypes := #[46, 46] })
    (N : Nat) (hN : w.heap.size = N) (hs : a.eval s = v) (hy : a.eval y = .slice (some ⟨N, 0, none⟩) 1 1) (hown : OwnRows w B v rows) (hu : Own w B u ys) (hn : rows.length + 1 ≤ 4398046511104) (hW : Ext W w) (hB : W.heap.size ≤ B) (hB' : B ≤ w.heap.size)
    (hK : ∀ w' v', OwnRows w' B v' (rows ++ [ys]) → Ext W w' → Below B w w' → wpList Try.prog ops Q rest (a.put o.dst v') w') :
    wpList Try.prog ops Q (o :: rest) a (w.alloc (.cells #[u] 22)) := by
  subst hN
  obtain ⟨vs, ho, hrw⟩ := hown
  obtain ⟨i0, hi, hz0, hz1, hz2⟩ := info_parts infoRow
  have hone : u.oneCell' = true := by
    rcases hu.2 with ⟨rfl, _⟩ | ⟨g, cap, cur, rfl, _⟩ <;> rfl
  refine wpList_append_own _ hg s y 46 hop B 22 i0 (.slice none 0 0) 1 24 Try.underlying46 hi hz0 hz1 hz2 rfl (by decide) v rows.length vs hs (World.ownsRow.alloc ho _) ⟨w.heap.size, 0, none⟩ 1 1 [u] hy rfl ?_ ?_ (by unfold maxLen; omega) (by omega) (by simp; omega) fun v' w' h1 h2 _ => ?_
  · intro j x hx
    match j, hx with
    | 0, hx =>
      simp at hx
      subst hx
      simp [Addr.add]
  · intro x hx
    simp at hx
    subst hx
    exact hone
  · have hbb : Below B w w' := Below.grown ((Below.refl B w).alloc hB' _) h2 (by simp; omega) (fun k hk => (World.ownsRow.lt ho k hk).1)
    have keep : ∀ (x : Value) (zs : List Int), Own w B x zs → Own w' B x zs := by
      intro x zs hx
      refine World.ownsRow.kept (World.ownsRow.alloc hx _) h2 ?_
      rcases hx.2 with ⟨rfl, _⟩ | ⟨g, cap, cur, rfl, _, hgx, _⟩
      · exact .inl rfl
      · refine .inr fun e => ?_
        rcases ho.2 with ⟨rfl, _⟩ | ⟨g', cap', cur', rfl, _, hgo, _⟩
        · simp [Value.ownBlock] at e
        · simp [Value.ownBlock] at e
          subst e
          rw [hgx] at hgo
          simp at hgo
    refine hK w' v' ⟨vs ++ [u], ?_, ?_, ?_⟩ (hW.trans' hbb hB) hbb
    · rw [List.length_append]
      exact h1
    · rw [List.length_append, List.length_append, hrw.1]
      rfl
    · intro i hi
      rw [List.length_append] at hi
      by_cases hlt : i < rows.length
      · rw [List.getElem?_append_left (by rw [hrw.1]; exact hlt), List.getElem?_append_left hlt]
        exact keep _ _ (hrw.2 i hlt)
      · obtain rfl : i = rows.length := by simp at hi; omega
        rw [List.getElem?_append_right (by rw [hrw.1]; exact Nat.le_refl _), List.getElem?_append_right (Nat.le_refl _), hrw.1, Nat.sub_self]
        exact keep _ _ hu
end Go.Proofs.Ytcbnnjadgkgheaa
