/- What the walks share, more: a block of the call's own, known whole. -/
import Derived.Test.YtehjbfljenpfoaaBase
set_option linter.unusedVariables false
set_option linter.unusedSimpArgs false
namespace Go.Proofs.Ytehjbfljenpfoaa
open Go.RowKit

def Arr (w : World) (g : Nat) (T : TypeId) (cs : List Value) : Prop := w.heap[g]? = some (.cells cs.toArray T (0, 0))
theorem Arr.lt {w : World} {g : Nat} {T : TypeId} {cs : List Value} (h : Arr w g T cs) : g < w.heap.size := (Array.getElem?_eq_some_iff.1 h).1
theorem Arr.below {w w' : World} {B g : Nat} {T : TypeId} {cs : List Value} (h : Arr w g T cs) (hb : Below B w w') (hg : g < B) : Arr w' g T cs := (hb.block g hg).trans h
theorem Arr.ext {w w' : World} {g : Nat} {T : TypeId} {cs : List Value} (h : Arr w g T cs) (hb : Ext w w') : Arr w' g T cs := h.below hb h.lt
theorem Arr.cell {w : World} {g : Nat} {T : TypeId} {cs : List Value} (h : Arr w g T cs) (k : Nat) : w.cell? ⟨g, k, none⟩ = cs[k]? := by
 rw [cell_of_row w g k _ T (0, 0) h]
 simp
theorem Arr.int {w : World} {g : Nat} {T : TypeId} {xs : List Int} (h : Arr w g T (xs.map (.int .i64))) {k : Nat} (hk : k < xs.length) : w.cell? ⟨g, k, none⟩ = some (.int .i64 (xs[k]?.getD 0)) := by
 rw [h.cell, List.getElem?_map, List.getElem?_eq_getElem hk]
 rfl
theorem Arr.free {w : World} {g : Nat} {T : TypeId} {cs : List Value} (h : Arr w g T cs) (k : Nat) : w.frozen? ⟨g, k, none⟩ = false := frozen_of_row w g k _ T h
theorem Arr.store {w : World} {g : Nat} {T : TypeId} {cs : List Value} (h : Arr w g T cs) (k : Nat) (u : Value) : Arr (w.setCell ⟨g, k, none⟩ u) g T (cs.set k u) := by
 have := heap_setCell_same w g k _ T u h
 unfold Arr
 rw [this]
 simp
theorem Arr.far {w : World} {g g' k : Nat} {T : TypeId} {cs : List Value} {u : Value} (h : Arr w g T cs) (hne : g ≠ g') : Arr (w.setCell ⟨g', k, none⟩ u) g T cs :=
 (Below.heap_setCell _ _ _ _ (by simpa using hne)).trans h
theorem Arr.alloc {w : World} {g : Nat} {T : TypeId} {cs : List Value} (h : Arr w g T cs) (o : Obj) : Arr (w.alloc o) g T cs := h.ext ((Ext.refl w).alloc o)
theorem Arr.drewN {w : World} {g : Nat} {T : TypeId} {cs : List Value} (h : Arr w g T cs) (n : Nat) : Arr (w.drewN n) g T cs := h.ext ((Ext.refl w).drewN n)
theorem Arr.new (w : World) (cs : Array Value) (T : TypeId) : Arr (w.alloc (.cells cs T)) w.heap.size T cs.toList := by
 unfold Arr
 rw [heap_alloc_new]
theorem Arr.isInts {w : World} {g n c : Nat} {xs : List Int} {T : TypeId} (h : Arr w g T (xs.map (.int .i64))) (hn : n = xs.length) (hc : n ≤ c) (hl : n ≤ 9223372036854775807) : IsInts w (.slice (some ⟨g, 0, none⟩) n c) xs := by
 subst hn
 refine IsInts.mk rfl hc ⟨hl, fun k _ => ⟨g, 0, rfl⟩, fun k hk => ?_⟩
 rw [adr_some, Nat.zero_add]
 exact h.cell k

theorem Arr.isInts' {w : World} {g n c : Nat} {xs zs : List Int} {T : TypeId} (h : Arr w g T ((xs ++ zs).map (.int .i64))) (hn : n = xs.length) (hc : n ≤ c) (hl : n ≤ 9223372036854775807) : IsInts w (.slice (some ⟨g, 0, none⟩) n c) xs := by
 subst hn
 refine IsInts.mk rfl hc ⟨hl, fun k _ => ⟨g, 0, rfl⟩, fun k hk => ?_⟩
 rw [adr_some, Nat.zero_add, h.cell, List.map_append, List.getElem?_append_left hk]

theorem Own.under {w : World} {B : Nat} {v : Value} {xs : List Int} (h : Own w B v xs) {g k : Nat} (hg : g < B) (u : Value) : Own (w.setCell ⟨g, k, none⟩ u) B v xs := ownsRow_setCell_below h hg u

theorem Own.open {w : World} {B : Nat} {v : Value} {xs : List Int} (h : Own w B v xs) : ∃ a n c, Hid (n = xs.length) ∧ n ≤ c ∧ v = .slice a n c := by
 rcases h.2 with ⟨rfl, hn⟩ | ⟨g, cap, cur, rfl, hb, hg, hnc, hcm, hcs, htake⟩
 ·exact ⟨none, 0, 0, hn.symm, Nat.le_refl _, rfl⟩
 ·exact ⟨_, _, cap, rfl, hnc, rfl⟩
theorem Own.at {w : World} {B n c k : Nat} {a : Option Addr} {xs : List Int} (hn : n = xs.length) (h : Own w B (.slice a n c) xs) (hk : k < n) :
  w.cell? (adr a k) = some (.int .i64 (xs[k]?.getD 0)) ∧ w.frozen? (adr a k) = false ∧ B ≤ (adr a k).block ∧ ∀ x, Own (w.setCell (adr a k) (.int .i64 x)) B (.slice a n c) (xs.set k x) := by
 have h' := h
 rcases h.2 with ⟨h1, h2⟩ | ⟨g, cap, cur, h1, hb, _⟩
 ·omega
 ·simp only [Value.slice.injEq] at h1
  obtain ⟨rfl, _, rfl⟩ := h1
  rw [adr_some, Nat.zero_add]
  exact ⟨h'.cell hn k hk, h'.free hn k, hb, fun x => h'.store hn k x⟩

theorem make_arr {w : World} {ops : Array Oper} {rest : List Oper} {o : Oper} {a : Act} {Q : Exit → Act → World → Prop} {T E : TypeId} {z : Value} {bytes : Nat}
  (hg : o.guard = none) (l c : Operand) (hop : o.op = Op.makeSlice T l c) (hT : Try.prog.underlying T = some (.slice E))
  (hE : (Try.prog.info? E).map (fun i => (i.zero, i.size, i.bytes)) = some (some z, 1, bytes)) (hz : z.cells = #[z])
  (n : Nat) (L C : Int) (hl : a.eval l = .int .i64 L) (hc : a.eval c = .int .i64 C) (hL : L = n) (hC : C = n) (hn : bytes * n ≤ 281474976710656) (hn' : n ≤ 9223372036854775807)
  (hK : ∀ w' g, Arr w' g E (List.replicate n z) → w.heap.size ≤ g → Ext w w' → wpList Try.prog ops Q rest (a.put o.dst (.slice (some ⟨g, 0, none⟩) n n)) w') :
  wpList Try.prog ops Q (o :: rest) a w := by
 obtain ⟨i0, hi, hz0, hz1, hz2⟩ := info_parts hE
 subst hL
 subst hC
 refine wpList_plain hg fun K hK' => ?_
 have hb : ((bytes : Nat) : Int) * (n : Int) ≤ 281474976710656 := by
  have h : ((bytes * n : Nat) : Int) ≤ 281474976710656 := by omega
  rwa [Int.natCast_mul] at h
 have hrun := run_make (P := Try.prog) w T E i0 z hT hi hz0 .i64 .i64 n n (by omega) (Int.le_refl _) (by rw [hz2]; exact hb) (by omega)
 unfold Oper.wp
 simp only [Int.toNat_natCast, hz1, Nat.mul_one, hz] at hrun
 simp [execOp, hop, hl, hc, hrun, Result.andThen]
 refine hK' _ _ (hK _ _ ?_ (Nat.le_refl _) ((Ext.refl w).alloc _))
 have := Arr.new w (madeCells #[z] n) E
 rw [toList_madeCells_one] at this
 exact this

theorem append_int' {W w : World} {B : Nat} {v : Value} {xs : List Int} {x : Int} {ops : Array Oper} {rest : List Oper} {o : Oper} {a : Act} {Q : Exit → Act → World → Prop} (hg : o.guard = none) (s y : Operand)
  (hop : o.op = Op.call { callee := Callee.builtin Builtin.append, args := #[s, y], argTypes := #[22, 22] })
  (N : Nat) (hN : w.heap.size = N) (hs : a.eval s = v) (hy : a.eval y = .slice (some ⟨N, 0, none⟩) 1 1) (hown : Own w B v xs) (hn : xs.length + 1 ≤ 17592186044416) (hW : Ext W w) (hB : W.heap.size ≤ B) (hB' : B ≤ w.heap.size)
  (hK : ∀ w' v', Own w' B v' (xs ++ [x]) → Ext W w' → Below B w w' → wpList Try.prog ops Q rest (a.put o.dst v') w') :
  wpList Try.prog ops Q (o :: rest) a (w.alloc (.cells #[.int .i64 x] 3)) := by
 subst hN
 obtain ⟨i0, hi, hz0, hz1, hz2⟩ := info_parts infoInt
 refine wpList_append_own _ hg s y 22 hop B 3 i0 (.int .i64 0) 1 8 Try.underlying22 hi hz0 hz1 hz2 rfl (by decide) v xs.length (xs.map (.int .i64)) hs (World.ownsRow.alloc hown _) ⟨w.heap.size, 0, none⟩ 1 1 [.int .i64 x] hy rfl ?_ ?_ (by unfold maxLen; omega) (by omega) (by simp; omega) fun v' w' h1 h2 _ => ?_
 ·intro j u hu
  match j, hu with
  | 0, hu =>
   simp at hu
   subst hu
   simp [Addr.add]
 ·intro u hu
  simp at hu
  subst hu
  rfl
 ·have hbb : Below B w w' := Below.grown ((Below.refl B w).alloc hB' _) h2 (by simp; omega) (fun k hk => (World.ownsRow.lt hown k hk).1)
  refine hK w' v' ?_ (hW.trans' hbb hB) hbb
  unfold Own
  rw [List.map_append, List.length_append]
  exact h1

theorem make_ints' {w : World} {ops : Array Oper} {rest : List Oper} {o : Oper} {a : Act} {Q : Exit → Act → World → Prop} (hg : o.guard = none) (l c : Operand) (hop : o.op = Op.makeSlice 22 l c)
  (n : Nat) (L C : Int) (hl : a.eval l = .int .i64 L) (hc : a.eval c = .int .i64 C) (hL : L = n) (hC : C = n) (hn : n ≤ 35184372088832)
  (hK : ∀ w' g, Arr w' g 3 ((List.replicate n (0 : Int)).map (.int .i64)) → w.heap.size ≤ g → Ext w w' → wpList Try.prog ops Q rest (a.put o.dst (.slice (some ⟨g, 0, none⟩) n n)) w') :
  wpList Try.prog ops Q (o :: rest) a w :=
 make_arr hg l c hop Try.underlying22 infoInt rfl n L C hl hc hL hC (by omega) (by omega) fun w' g h1 h2 h3 => hK w' g (by rw [List.map_replicate]; exact h1) h2 h3

theorem infoBool : (Try.prog.info? 4).map (fun i => (i.zero, i.size, i.bytes)) = some (some (.bool false), 1, 1) := by kernel_rfl
end Go.Proofs.Ytehjbfljenpfoaa
