/- The abstract machine: each of its operations is sound. Part 2: places, loads, stores, new variables. -/
import Derived.Test.YtcbnnjadgkgheaaAbs5
set_option linter.unusedVariables false
set_option linter.unusedSimpArgs false
namespace Go.Abs
open Go.RowKit

theorem add_off (b off k : Nat) : (⟨b, off, none⟩ : Addr).add k = ⟨b, off + k, none⟩ := by
  unfold Addr.add
  split <;> simp_all

section
variable {P : Program} {o : Oper} {a : Act} {w w0 : World} {U : Gh} {ι : Pl} {σ : St} {next : Act → World → Prop} {Q : Exit → Act → World → Prop} {K : AV → St → Prop}

theorem rowOf_one {t : TypeId} (h : rowOf P t = some none) {v : Value} {ad : Addr} (hc : w.cell? ad = some v) : (loadVar t ad).run P w = .ok v w := by
  unfold rowOf at h
  split at h
  · cases h
  · cases h
  · rename_i d i n1 n2 hd hi
    have hag : (isAgg t).run P w = .ok false w := by
      unfold isAgg
      cases d <;> first | (simp [run_underlying hd]; done) | exact absurd rfl (n1 _) | exact absurd rfl (n2 _ _)
    simp [loadVar, hag, hc]
  · cases h
theorem rowOf_row {t : TypeId} {n : Nat} (h : rowOf P t = some (some n)) {vs : List Value} {ad : Addr} (hn : vs.length = n) (hc : ∀ (j : Nat) v, vs[j]? = some v → w.cell? (ad.add j) = some v) : (loadVar t ad).run P w = .ok (.agg vs.toArray) w := by
  have hl := run_loadCells_list (P := P) w ad vs hc
  unfold rowOf at h
  split at h
  · rename_i fs i hd hi
    simp at h
    have hag : (isAgg t).run P w = .ok true w := by simp [isAgg, run_underlying hd]
    simp [loadVar, hag, sizeOf, typeInfo, hi, h, ← hn, hl]
  · rename_i fs i hd hi
    simp at h
    have hag : (isAgg t).run P w = .ok true w := by simp [isAgg, run_underlying hd]
    simp [loadVar, hag, sizeOf, typeInfo, hi, h, ← hn, hl]
  · split at h <;> cases h
  · cases h

/-- What lies behind a pointer. -/
theorem load_cells {q : AC} {u : Value} {xs : List AC} (hs : Sim w0 U σ ι a w) (h : RepA w (Free w0.heap.size U ι σ.mem) ι σ.nx q u) (hx : loadCells? σ.mem q = some xs) :
    ∃ b off, u = .pointer (some ⟨b, off, none⟩) ∧ ∀ (j : Nat) x, xs[j]? = some x → ∃ v, w.cell? ⟨b, off + j, none⟩ = some v ∧ RepA w (Free w0.heap.size U ι σ.mem) ι σ.nx x v := by
  cases h with
  | ptr hn h =>
    rename_i nm off b
    unfold loadCells? at hx
    split at hx
    · rename_i nm' off' e
      cases e
      split at hx
      · rename_i ys hf
        cases hx
        obtain ⟨b', vs, T, h1, h2, h3, h4⟩ := hs.box _ _ hf
        rw [h] at h1
        simp at h1
        subst h1
        refine ⟨b, off, rfl, fun j x hj => ?_⟩
        rw [List.getElem?_drop] at hj
        obtain ⟨v, hv, hr⟩ := h4.get hj
        exact ⟨v, by rw [cell_of_row w b _ vs T (0, 0) h3]; simpa using hv, hr⟩
      · cases hx
    all_goals simp at *
  | cptr g hc =>
    rename_i cells b off
    simp [loadCells?] at hx
    subst hx
    refine ⟨b, off, rfl, fun j x hj => ?_⟩
    rw [List.getElem?_map] at hj
    cases e : cells[j]? with
    | none => simp [e] at hj
    | some p =>
      simp [e] at hj
      subst hj
      obtain ⟨_, h2, h3⟩ := hc j p e
      exact ⟨_, h2, .pure h3⟩
  | eptr hn h =>
    rename_i nm sz row off b n c
    simp only [loadCells?] at hx
    split at hx
    · rename_i e sz' rows hf
      split at hx
      · rename_i hsz
        subst hsz
        cases hr : rows[row]? with
        | none => simp [hr] at hx
        | some r =>
          simp [hr] at hx
          subst hx
          obtain ⟨cells, h0, h1, h2, h3, h4, h5⟩ := hs.box _ _ hf
          refine ⟨b, row * sz + off, rfl, fun j x hj => ?_⟩
          rw [List.getElem?_drop, List.getElem?_map] at hj
          cases e : r[off + j]? with
          | none => simp [e] at hj
          | some p =>
            simp [e] at hj
            subst hj
            obtain ⟨v, hv, hp⟩ := h5 row r (off + j) p hr e
            rw [h] at h1
            have := World.ownsRow.cells h1 (g := b) rfl (row * sz + (off + j)) v hv
            rw [add_off] at this
            exact ⟨v, by rw [← this]; congr 2; omega, .pure hp⟩
      · cases hx
    · cases hx
  | pure => simp [loadCells?] at hx
  | nils => simp [loadCells?] at hx
  | tsl => simp [loadCells?] at hx
  | ref => simp [loadCells?] at hx
  | mref => simp [loadCells?] at hx
  | clo => simp [loadCells?] at hx
  | top => simp [loadCells?] at hx

theorem All2.choose {α β : Type} {R : α → β → Prop} : ∀ {xs : List α}, (∀ (j : Nat) x, xs[j]? = some x → ∃ y, R x y) → ∃ ys, All2 R xs ys
  | [], _ => ⟨[], .nil⟩
  | x :: xs, h => by
    obtain ⟨y, hy⟩ := h 0 x rfl
    obtain ⟨ys, hys⟩ := All2.choose (xs := xs) fun j z hz => h (j + 1) z hz
    exact ⟨y :: ys, .cons hy hys⟩

theorem op_load {t : TypeId} {x : Operand} {y : AX} {n : Option Nat} (ho : o.op = .load t x) (ht : rowOf P t = some n) (hx : compX x = some y) (h : opW P (.load n y) σ K) (hs : Sim w0 U σ ι a w) (hn : Goes w0 U a o K next) : o.wp P a w next Q := by
  have r1 := compX_rep hx hs
  simp only [opW] at h
  split at h
  · rename_i q e
    rw [e] at r1
    cases r1 with
    | c r1 =>
      split at h
      · rename_i xs hxs
        obtain ⟨b, off, e1, hc⟩ := load_cells hs r1 hxs
        cases n with
        | none =>
          simp only at h
          split at h
          · rename_i z zs
            obtain ⟨v, hv, hr⟩ := hc 0 z rfl
            refine wp_value (u := v) (w' := w) ?_ (hn _ σ ι _ w h hs (.c hr))
            have := rowOf_one (P := P) ht hv
            simp only [Nat.add_zero] at this
            simp [execOp, ho, e1, Instr.loadAt, Instr.sureAddr, this]
          · exact h.elim
        | some n =>
          obtain ⟨hle, h⟩ := h
          have hg : ∃ ys : List Value, ys.length = n ∧ ∀ (j : Nat) x v, (xs.take n)[j]? = some x → ys[j]? = some v → w.cell? ⟨b, off + j, none⟩ = some v ∧ RepA w (Free w0.heap.size U ι σ.mem) ι σ.nx x v := by
            refine ⟨(List.range n).map fun j => (w.cell? ⟨b, off + j, none⟩).getD undef, by simp, fun j x v hj hv => ?_⟩
            have hjn : j < n := by have := (List.getElem?_eq_some_iff.1 hj).1; simp at this; omega
            rw [List.getElem?_take_of_lt hjn] at hj
            obtain ⟨u, hu, hr⟩ := hc j x hj
            simp [List.getElem?_map, List.getElem?_range hjn, hu] at hv
            subst hv
            exact ⟨hu, hr⟩
          obtain ⟨ys, hl, hy⟩ := hg
          have hlt : (xs.take n).length = n := by simp; omega
          refine wp_value (u := .agg ys.toArray) (w' := w) ?_ (hn _ σ ι _ w h hs (.agg (All2.of_get (by rw [hlt]; simp [hl]) fun j x v hj hv => (hy j x v hj (by simpa using hv)).2)))
          have := rowOf_row (P := P) (w := w) (ad := ⟨b, off, none⟩) ht (vs := ys) hl fun j v hv => by
            have hjn : j < (xs.take n).length := by rw [hlt, ← hl]; exact (List.getElem?_eq_some_iff.1 hv).1
            rw [add_off]
            exact (hy j _ v (List.getElem?_eq_getElem hjn) hv).1
          simp [execOp, ho, e1, Instr.loadAt, Instr.sureAddr, this]
      · exact h.elim
  · exact h.elim

theorem op_nilc {x : Operand} {y : AX} (ho : o.op = .nilCheck x) (hx : compX x = some y) (h : opW P (.nilc y) σ K) (hs : Sim w0 U σ ι a w) (hn : Goes w0 U a o K next) : o.wp P a w next Q := by
  have r1 := compX_rep hx hs
  generalize hu : a.eval x = u at r1
  simp only [opW] at h
  split at h
  · rename_i e
    rw [e] at r1
    cases r1 with
    | c r1 =>
      have r2 := r1
      cases r1
      exact wp_value (w' := w) (by simp [execOp, ho, hu]) (hn _ σ ι _ w h hs (.c r2))
  · rename_i e
    rw [e] at r1
    cases r1 with
    | c r1 =>
      have r2 := r1
      cases r1
      exact wp_value (w' := w) (by simp [execOp, ho, hu]) (hn _ σ ι _ w h hs (.c r2))
  · rename_i e
    rw [e] at r1
    cases r1 with
    | c r1 =>
      have r2 := r1
      cases r1
      exact wp_value (w' := w) (by simp [execOp, ho, hu]) (hn _ σ ι _ w h hs (.c r2))
  · rename_i e
    rw [e] at r1
    cases r1 with
    | c r1 =>
      have r2 := r1
      cases r1
      exact wp_value (w' := w) (by simp [execOp, ho, hu]) (hn _ σ ι _ w h hs (.c r2))
  · exact h.elim
end
end Go.Abs
