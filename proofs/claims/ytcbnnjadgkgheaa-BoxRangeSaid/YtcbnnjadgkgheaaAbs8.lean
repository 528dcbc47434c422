/- The abstract machine: each of its operations is sound. Part 4: stores, fields, elements, lengths. -/
import Derived.Test.YtcbnnjadgkgheaaAbs7
set_option linter.unusedVariables false
set_option linter.unusedSimpArgs false
namespace Go.Abs
open Go.RowKit

section
variable {P : Program} {o : Oper} {a : Act} {w w0 : World} {U : Gh} {ι : Pl} {σ : St} {next : Act → World → Prop} {Q : Exit → Act → World → Prop} {K : AV → St → Prop}

theorem take_mul {α : Type} (xs : List α) (n m : Nat) (h : n * m ≤ xs.length) : (xs.take (n * m)).length = n * m := by simp; omega

/-- One row is written over. -/
theorem RowsRep.set {V : Nat → Prop} {sz row off : Nat} {rows : List (List PC)} {cells : List Value} {r zs : List PC} {vs : List Value} (h : RowsRep w V sz rows cells) (hr : rows[row]? = some r) (hz : All2 (RepP w V) zs vs) (ho : off + zs.length ≤ sz) :
    RowsRep w V sz (rows.set row (over r off zs)) (over cells (row * sz + off) vs) := by
  obtain ⟨h3, h4, h5⟩ := h
  have hrow : row < rows.length := (List.getElem?_eq_some_iff.1 hr).1
  have hlr := h4 row r hr
  have hlz := hz.length
  have hm : row * sz + sz ≤ cells.length := by
    rw [h3]
    have : (row + 1) * sz ≤ rows.length * sz := Nat.mul_le_mul_right _ hrow
    rw [Nat.succ_mul] at this
    exact this
  have hget : ∀ k, k < cells.length → (over cells (row * sz + off) vs)[k]? = if row * sz + off ≤ k ∧ k < row * sz + off + vs.length then vs[k - (row * sz + off)]? else cells[k]? := by
    intro k hk
    unfold over
    rw [List.append_assoc]
    by_cases h1 : k < row * sz + off
    · rw [List.getElem?_append_left (by simp; omega), List.getElem?_take_of_lt h1, if_neg (by omega)]
    · rw [List.getElem?_append_right (by simp; omega)]
      have e1 : (cells.take (row * sz + off)).length = row * sz + off := by simp; omega
      rw [e1]
      by_cases h2 : k < row * sz + off + vs.length
      · rw [List.getElem?_append_left (by omega), if_pos ⟨by omega, h2⟩]
      · rw [List.getElem?_append_right (by omega), List.getElem?_drop, if_neg (by omega)]
        congr 1
        omega
  have hgr : ∀ j, j < r.length → (over r off zs)[j]? = if off ≤ j ∧ j < off + zs.length then zs[j - off]? else r[j]? := by
    intro k hk
    unfold over
    rw [List.append_assoc]
    by_cases h1 : k < off
    · rw [List.getElem?_append_left (by simp; omega), List.getElem?_take_of_lt h1, if_neg (by omega)]
    · rw [List.getElem?_append_right (by simp; omega)]
      have e1 : (r.take off).length = off := by simp; omega
      rw [e1]
      by_cases h2 : k < off + zs.length
      · rw [List.getElem?_append_left (by omega), if_pos ⟨by omega, h2⟩]
      · rw [List.getElem?_append_right (by omega), List.getElem?_drop, if_neg (by omega)]
        congr 1
        omega
  have hlo : (over r off zs).length = sz := by
    unfold over
    simp
    omega
  refine ⟨?_, fun i row' hi => ?_, fun i row' j p hi hj => ?_⟩
  · unfold over
    simp
    rw [← h3]
    omega
  · rw [List.getElem?_set] at hi
    by_cases e : row = i
    · rw [if_pos e, if_pos (by omega)] at hi
      cases hi; exact hlo
    · rw [if_neg e] at hi
      exact h4 i row' hi
  · rw [List.getElem?_set] at hi
    by_cases e : row = i
    · subst e
      rw [if_pos rfl, if_pos hrow] at hi
      cases hi
      have hjl : j < sz := by rw [← hlo]; exact (List.getElem?_eq_some_iff.1 hj).1
      rw [hgr j (by omega)] at hj
      rw [hget (row * sz + j) (by omega)]
      by_cases h1 : off ≤ j ∧ j < off + zs.length
      · rw [if_pos h1] at hj
        rw [if_pos ⟨by omega, by omega⟩]
        obtain ⟨v, hv, hp⟩ := hz.get hj
        exact ⟨v, by rw [← hv]; congr 1; omega, hp⟩
      · rw [if_neg h1] at hj
        rw [if_neg (by omega)]
        exact h5 row r j p hr hj
    · rw [if_neg e] at hi
      obtain ⟨v, hv, hp⟩ := h5 i row' j p hi hj
      have hjl : j < sz := by rw [← h4 i row' hi]; exact (List.getElem?_eq_some_iff.1 hj).1
      have hil : i < rows.length := (List.getElem?_eq_some_iff.1 hi).1
      refine ⟨v, ?_, hp⟩
      rw [hget (i * sz + j) ((List.getElem?_eq_some_iff.1 hv).1), if_neg ?_]
      · exact hv
      · rintro ⟨g1, g2⟩
        rcases Nat.lt_or_gt_of_ne e with hlt | hgt
        · have : (row + 1) * sz ≤ i * sz := Nat.mul_le_mul_right _ hlt
          rw [Nat.succ_mul] at this
          omega
        · have : (i + 1) * sz ≤ row * sz := Nat.mul_le_mul_right _ hgt
          rw [Nat.succ_mul] at this
          omega

theorem RowsRep.mono {w' : World} {V V' : Nat → Prop} {sz : Nat} {rows : List (List PC)} {cells : List Value} (h : RowsRep w V sz rows cells) (hU : ∀ b, b < w.heap.size → V b → V' b)
    (hw : ∀ b, b < w.heap.size → V b → w'.heap[b]? = w.heap[b]?) : RowsRep w' V' sz rows cells := by
  obtain ⟨h3, h4, h5⟩ := h
  refine ⟨h3, h4, fun i row j p hi hj => ?_⟩
  obtain ⟨v, hv, hp⟩ := h5 i row j p hi hj
  exact ⟨v, hv, hp.mono hU hw⟩

theorem over_length {α : Type} (xs : List α) (off : Nat) (ys : List α) (h : off + ys.length ≤ xs.length) : (over xs off ys).length = xs.length := by
  unfold over
  simp
  omega
theorem over_take {α : Type} (xs : List α) (off m : Nat) (ys : List α) (h : off + ys.length ≤ m) (hm : m ≤ xs.length) : (over xs off ys).take m = over (xs.take m) off ys := by
  unfold over
  rw [List.take_append, List.take_append, List.take_take, List.drop_take, List.length_append, List.length_take]
  have e1 : min m off = off := by omega
  have e2 : min off xs.length = off := by omega
  rw [e1, e2, List.take_take, List.take_of_length_le (l := ys) (by omega)]
  congr 2
  all_goals (first | omega | (congr 1; omega))
theorem op_store {t : TypeId} {x y : Operand} {p q : AX} {n : Nat} (ho : o.op = .store t x y) (ht : sizeOf? P t = some n) (hx : compX x = some p) (hy : compX y = some q) (h : opW P (.store n p q) σ K) (hs : Sim w0 U σ ι a w) (hn : Goes w0 U a o K next) : o.wp P a w next Q := by
  have r1 := compX_rep hx hs
  have r2 := compX_rep hy hs
  simp only [opW] at h
  split at h
  · rename_i ys nm off e1 e2
    rw [e2] at r1
    have hcs := r2.cells e1
    split at h
    · rename_i xs hf
      obtain ⟨⟨hl, hle⟩, h⟩ := h
      cases r1 with
      | c r1 =>
        generalize hu : a.eval x = u at r1
        cases r1 with
        | ptr hnm hι =>
          rename_i b
          obtain ⟨b', vs, T, g1, g2, g3, g4⟩ := hs.box _ _ hf
          rw [hι] at g1
          simp at g1
          subst g1
          have hvl : (a.eval y).cells.size = n := by rw [← hl, hcs.length, Array.length_toList]
          have hrun := run_storeVar (P := P) (off := off) ht hvl g3 (by rw [← Array.length_toList, ← g4.length]; exact hle) (oneCells hcs)
          refine wp_skipped (w' := w.setRow b (over vs.toList off (a.eval y).cells.toList).toArray) ?_ (hn _ _ ι _ _ h ?_ repV_undef)
          · simp [execOp, ho, hu, Instr.storeAt, Instr.sureAddr, hrun]
          · refine hs.setBox hf (by rw [hι]; rfl) ⟨b, _, T, hι, g2, setRow_heap _ _ _ _ _ _ g3, ?_⟩
            have hne : ∀ c, Free w0.heap.size U ι σ.mem c → c ≠ b := fun c h e => h.2 _ _ hf (by rw [hι, e]; rfl)
            have := (g4.over hcs off).mono fun _ _ (h : RepA w (Free w0.heap.size U ι σ.mem) ι σ.nx _ _) => h.mono (w' := w.setRow b (over vs.toList off (a.eval y).cells.toList).toArray) (fun c _ h => h) (fun c _ h => setRow_other _ _ _ _ (hne c h)) (fun _ _ => rfl) (Nat.le_refl _)
            simpa using this
    · exact h.elim
  · rename_i ys nm sz row off e1 e2
    rw [e2] at r1
    have hcs := r2.cells e1
    split at h
    · rename_i e sz' rows hf
      obtain ⟨⟨hsz, hl, hle⟩, zs, hz, r, hr, h⟩ := h
      subst hsz
      cases r1 with
      | c r1 =>
        generalize hu : a.eval x = u at r1
        cases r1 with
        | eptr hnm hι =>
          rename_i b n' c'
          have hpz := pcAs_rep hcs hz
          have hvl : (a.eval y).cells.size = n := by rw [← hl, hcs.length, Array.length_toList]
          have hzl : zs.length = n := by rw [hpz.length, Array.length_toList, hvl]
          obtain ⟨cells, g0, g1, g2, g3⟩ := hs.box _ _ hf
          have g1' := g1
          rcases g1.2 with ⟨e', _⟩ | ⟨g, cap, cur, e', hB, hg, hnc, hcm, hcs', htake⟩
          · rw [hι] at e'; cases e'
          · rw [hι] at e'
            simp at e'
            obtain ⟨rfl, rfl, rfl⟩ := e'
            have hrow : row < rows.length := (List.getElem?_eq_some_iff.1 hr).1
            have hm : row * sz + sz ≤ rows.length * sz := by
              have : (row + 1) * sz ≤ rows.length * sz := Nat.mul_le_mul_right _ hrow
              rw [Nat.succ_mul] at this
              exact this
            have hm2 : rows.length * sz ≤ cur.size := by
              have : rows.length * sz ≤ c' * sz := Nat.mul_le_mul_right _ hnc
              omega
            have hvs : (a.eval y).cells.toList.length = n := by rw [Array.length_toList, hvl]
            have hrun := run_storeVar (P := P) (off := row * sz + off) ht hvl hg (by omega) (oneCells hcs)
            refine wp_skipped (w' := w.setRow b (over cur.toList (row * sz + off) (a.eval y).cells.toList).toArray) ?_ (hn _ _ ι _ _ h ?_ repV_undef)
            · simp [execOp, ho, hu, Instr.storeAt, Instr.sureAddr, hrun]
            · have hne : ∀ c, Free w0.heap.size U ι σ.mem c → c ≠ b := fun c h e => h.2 _ _ hf (by rw [hι, e]; rfl)
              refine hs.setBox hf (by rw [hι]; rfl) ⟨over cells (row * sz + off) (a.eval y).cells.toList, g0, ⟨?_, .inr ⟨b, c', (over cur.toList (row * sz + off) (a.eval y).cells.toList).toArray, ?_, hB, setRow_heap _ _ _ _ _ _ hg, ?_, hcm, ?_, ?_⟩⟩, ?_, ?_⟩
              · rw [over_length _ _ _ (by rw [g1.1]; omega), List.length_set, g1.1]
              · rw [hι, List.length_set]
              · rw [List.length_set]; exact hnc
              · rw [List.size_toArray, over_length _ _ _ (by simp; omega), Array.length_toList]; exact hcs'
              · rw [List.length_set, ← htake, List.toList_toArray, over_take _ _ _ _ (by omega) (by simp; omega)]
              · rw [List.length_set]; exact g2
              · exact (g3.mono (w' := w.setRow b (over cur.toList (row * sz + off) (a.eval y).cells.toList).toArray) (fun c _ h => h) (fun c _ h => setRow_other _ _ _ _ (hne c h))).set hr (hpz.mono fun _ _ h => h.mono (fun c _ h => h) (fun c _ h => setRow_other _ _ _ _ (hne c h))) (by omega)
    · exact h.elim
  · exact h.elim
end
end Go.Abs
