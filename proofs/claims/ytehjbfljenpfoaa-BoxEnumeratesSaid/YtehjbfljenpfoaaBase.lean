/- What the walks share: how slices lie in memory, and that a call leaves old memory alone. -/
import Derived.Test.YtehjbfljenpfoaaRows
import Derived.WalkKit
import Derived.WalkSpells
import Derived.Lib.Hide
import Derived.Deep.QuietTactic
import Derived.BigQuiet
set_option linter.unusedVariables false
set_option linter.unusedSimpArgs false
namespace Go.Proofs.Ytehjbfljenpfoaa
open Go.RowKit

def adr (a : Option Addr) (k : Nat) : Addr := match a with | some p => p.add k | none => ⟨0, 0, none⟩

theorem addr_add (b off k : Nat) : (⟨b, off, none⟩ : Addr).add k = ⟨b, off + k, none⟩ := by
 unfold Addr.add
 split <;> simp_all
theorem adr_some (b off k : Nat) : adr (some ⟨b, off, none⟩) k = ⟨b, off + k, none⟩ := addr_add b off k

structure Cells (w : World) (a : Option Addr) (cs : List Value) : Prop where
 some : ∀ k, k < cs.length → ∃ b off, a = .some ⟨b, off, none⟩
 cell : ∀ k, k < cs.length → w.cell? (adr a k) = cs[k]?

def Ext (w w' : World) : Prop := Below w.heap.size w w'
theorem Ext.refl (w : World) : Ext w w := Below.refl _ _
theorem Ext.trans {a b c : World} (h : Ext a b) (k : Ext b c) : Ext a c := Below.trans h (Below.mono k (Below.size h))
theorem Ext.drew {a b : World} (h : Ext a b) : Ext a b.drew := Below.drew h
theorem Ext.drewN {a b : World} (h : Ext a b) (n : Nat) : Ext a (b.drewN n) := h.trans ⟨rfl, rfl, rfl, Nat.le_refl _, fun _ _ => rfl⟩
theorem Ext.alloc {a b : World} (h : Ext a b) (o : Obj) : Ext a (b.alloc o) := Below.alloc h (Below.size h) o
theorem Ext.size {a b : World} (h : Ext a b) : a.heap.size ≤ b.heap.size := Below.size h
theorem Ext.below {a b : World} (h : Ext a b) : Below a.heap.size a b := h

theorem Ext.trans' {a b c : World} {B : Nat} (h : Ext a b) (k : Below B b c) (hB : a.heap.size ≤ B) : Ext a c := Below.trans h (Below.mono k hB)

theorem Cells.block {w : World} {a : Option Addr} {cs : List Value} (h : Cells w a cs) (k : Nat) (hk : k < cs.length) : (adr a k).block < w.heap.size :=
 World.block_lt_of_cell? w _ (u := cs[k]) (by rw [h.cell k hk, List.getElem?_eq_getElem hk])
theorem Cells.ext {w w' : World} {a : Option Addr} {cs : List Value} (h : Cells w a cs) (hb : Ext w w') : Cells w' a cs :=
 ⟨h.some, fun k hk => (Below.cell hb (h.block k hk)).trans (h.cell k hk)⟩

structure Ints (w : World) (a : Option Addr) (xs : List Int) : Prop where
 len : xs.length ≤ 9223372036854775807
 cells : Cells w a (xs.map (.int .i64))
theorem Ints.cell {w : World} {a : Option Addr} {xs : List Int} (h : Ints w a xs) (k : Nat) (hk : k < xs.length) : w.cell? (adr a k) = some (.int .i64 (xs[k]?.getD 0)) := by
 rw [h.cells.cell k (by simpa using hk)]
 simp [List.getElem?_eq_getElem hk]
theorem Ints.ext {w w' : World} {a : Option Addr} {xs : List Int} (h : Ints w a xs) (hb : Ext w w') : Ints w' a xs := ⟨h.len, h.cells.ext hb⟩
theorem Ints.nil (w : World) : Ints w none [] := ⟨by simp, ⟨fun k hk => by simp at hk, fun k hk => by simp at hk⟩⟩

def IsInts (w : World) (v : Value) (xs : List Int) : Prop := ∃ a c, v = .slice a xs.length c ∧ xs.length ≤ c ∧ Ints w a xs
theorem IsInts.ext {w w' : World} {v : Value} {xs : List Int} (h : IsInts w v xs) (hb : Ext w w') : IsInts w' v xs := by
 obtain ⟨a, c, e, hc, h⟩ := h
 exact ⟨a, c, e, hc, h.ext hb⟩
theorem IsInts.nil (w : World) : IsInts w (.slice none 0 0) [] := ⟨none, 0, rfl, Nat.le_refl _, Ints.nil w⟩
theorem IsInts.open {w : World} {v : Value} {xs : List Int} (h : IsInts w v xs) : ∃ a n c, Hid (n = xs.length) ∧ n ≤ c ∧ v = .slice a n c ∧ Ints w a xs := by
 obtain ⟨a, c, rfl, hc, h⟩ := h
 exact ⟨a, _, c, rfl, hc, rfl, h⟩
theorem IsInts.mk {w : World} {a : Option Addr} {n c : Nat} {xs : List Int} (hn : n = xs.length) (hc : n ≤ c) (h : Ints w a xs) : IsInts w (.slice a n c) xs := by
 subst hn
 exact ⟨a, c, rfl, hc, h⟩
theorem IsInts.ints {w : World} {a : Option Addr} {n c : Nat} {xs : List Int} (h : IsInts w (.slice a n c) xs) (hn : n = xs.length) : Ints w a xs := by
 obtain ⟨a', c', e, _, h⟩ := h
 simp only [Value.slice.injEq] at e
 obtain ⟨rfl, _, rfl⟩ := e
 exact h
theorem adr_add (a : Option Addr) (l k : Nat) (h : ∃ b off, a = some ⟨b, off, none⟩) : adr (a.map (·.add l)) k = adr a (l + k) := by
 obtain ⟨b, off, rfl⟩ := h
 simp only [Option.map_some, adr, addr_add, Nat.add_assoc]
theorem IsInts.from {w : World} {a : Option Addr} {n c l : Nat} {xs : List Int} (hn : n = xs.length) (hc : n ≤ c) (hl : l ≤ n) (h : Ints w a xs) : IsInts w (.slice (if c = l then a else a.map (·.add l)) (n - l) (c - l)) (xs.drop l) := by
 subst hn
 refine IsInts.mk (by simp) (by omega) ⟨by have := h.len; simp; omega, ⟨fun k hk => ?_, fun k hk => ?_⟩⟩
 ·simp at hk
  obtain ⟨b, off, e⟩ := h.cells.some (l + k) (by simp; omega)
  rw [if_neg (by omega), e]
  exact ⟨b, off + l, by simp [addr_add]⟩
 ·simp at hk
  rw [if_neg (by omega), adr_add a l k (h.cells.some (l + k) (by simp; omega)), h.cells.cell (l + k) (by simp; omega)]
  simp [Nat.add_comm]
theorem IsInts.to {w : World} {a : Option Addr} {n c m : Nat} {xs : List Int} (hn : n = xs.length) (hc : n ≤ c) (hm : m ≤ n) (h : Ints w a xs) : IsInts w (.slice a m c) (xs.take m) := by
 subst hn
 refine IsInts.mk (by simp; omega) (by omega) ⟨by have := h.len; simp; omega, ⟨fun k hk => ?_, fun k hk => ?_⟩⟩
 ·simp at hk
  exact h.cells.some k (by simp; omega)
 ·simp at hk
  rw [h.cells.cell k (by simp; omega), List.getElem?_map, List.getElem?_map, List.getElem?_take_of_lt (by omega)]

theorem ret_int {k : IntKind} {a b : Int} (h : a = b) : Ending.returned (.int k a) = .returned (.int k b) := by rw [h]
theorem ret_bool {a b : Bool} (h : a = b) : Ending.returned (.bool a) = .returned (.bool b) := by rw [h]

def RetInts (w : World) (ys : List Int) (e : Ending) (w' : World) : Prop := ∃ v, e = .returned v ∧ IsInts w' v ys ∧ Ext w w'
def RetInts2 (w : World) (ys : List Int) (u : Value) (e : Ending) (w' : World) : Prop := ∃ v, e = .returned (.tuple #[v, u]) ∧ IsInts w' v ys ∧ Ext w w'

theorem infoInt : (Try.prog.info? 3).map (fun i => (i.zero, i.size, i.bytes)) = some (some (.int .i64 0), 1, 8) := by kernel_rfl

def Own (w : World) (B : Nat) (v : Value) (xs : List Int) : Prop := w.ownsRow B 3 1 v xs.length (xs.map (.int .i64))
theorem Ext.grown {w w' : World} (h : Ext w w') : w.grownBy w' none := ⟨Below.os h, Below.tape h, Below.output h, Below.size h, fun k hk _ => Below.block h k hk⟩
theorem Own.ext {w w' : World} {B : Nat} {v : Value} {xs : List Int} (h : Own w B v xs) (hb : Ext w w') : Own w' B v xs :=
 World.ownsRow.kept h hb.grown (by cases v.ownBlock <;> simp)
theorem Own.isInts {w : World} {B : Nat} {v : Value} {xs : List Int} (h : Own w B v xs) (hl : xs.length ≤ 9223372036854775807) : IsInts w v xs := by
 have h' := h
 rcases h.2 with ⟨rfl, hn⟩ | ⟨g, cap, cur, rfl, hb, hg, hnc, hcm, hcs, htake⟩
 ·obtain rfl : xs = [] := List.eq_nil_of_length_eq_zero hn
  exact IsInts.nil w
 ·refine ⟨_, _, rfl, hnc, hl, fun k _ => ⟨g, 0, rfl⟩, fun k hk => ?_⟩
  rw [adr_some, Nat.zero_add]
  exact World.ownsRow.cellAt h' k (by simpa using hk)
theorem Own.nil (w : World) (B : Nat) : Own w B (.slice none 0 0) [] := World.ownsRow_nil _ _ _ _
theorem Own.cell {w : World} {B g n c : Nat} {xs : List Int} (hn : n = xs.length) (h : Own w B (.slice (some ⟨g, 0, none⟩) n c) xs) (k : Nat) (hk : k < n) : w.cell? ⟨g, k, none⟩ = some (.int .i64 (xs[k]?.getD 0)) := by
 subst hn
 rw [World.ownsRow.cellAt h k (by simpa using hk)]
 simp [List.getElem?_eq_getElem hk]
theorem Own.free {w : World} {B g n c : Nat} {xs : List Int} (hn : n = xs.length) (h : Own w B (.slice (some ⟨g, 0, none⟩) n c) xs) (k : Nat) : w.frozen? ⟨g, k, none⟩ = false := by
 subst hn
 exact World.ownsRow.frozenAt h k
theorem Own.ge {w : World} {B g n c : Nat} {xs : List Int} (h : Own w B (.slice (some ⟨g, 0, none⟩) n c) xs) : B ≤ g := (World.ownsRow.lt h g rfl).1
theorem Own.store {w : World} {B g n c : Nat} {xs : List Int} (hn : n = xs.length) (h : Own w B (.slice (some ⟨g, 0, none⟩) n c) xs) (k : Nat) (x : Int) : Own (w.setCell ⟨g, k, none⟩ (.int .i64 x)) B (.slice (some ⟨g, 0, none⟩) n c) (xs.set k x) := by
 subst hn
 have := (World.ownsRow.stored h k (.int .i64 x)).1
 rw [← List.map_set] at this
 unfold Own
 simpa using this
theorem Ext.setCell {W w : World} (h : Ext W w) {p : Addr} (hp : W.heap.size ≤ p.block) (u : Value) : Ext W (w.setCell p u) := Below.setCell h hp u

theorem setCell_far {w : World} {g k : Nat} {x : Value} {p : Addr} (h : p.block ≠ g) : (w.setCell ⟨g, k, none⟩ x).cell? p = w.cell? p :=
 World.cell?_setCell_other _ _ _ _ (fun e => h (by rw [← e]))

theorem make_ints {W w : World} {ops : Array Oper} {rest : List Oper} {o : Oper} {a : Act} {Q : Exit → Act → World → Prop} (hg : o.guard = none) (l c : Operand) (hop : o.op = Op.makeSlice 22 l c)
  (n : Nat) (L C : Int) (hl : a.eval l = .int .i64 L) (hc : a.eval c = .int .i64 C) (hL : L = n) (hC : C = n) (hn : n ≤ 35184372088832) (hW : Ext W w)
  (hK : ∀ w' g, Own w' W.heap.size (.slice (some ⟨g, 0, none⟩) n n) (List.replicate n 0) → Ext W w' → wpList Try.prog ops Q rest (a.put o.dst (.slice (some ⟨g, 0, none⟩) n n)) w') :
  wpList Try.prog ops Q (o :: rest) a w := by
 obtain ⟨i0, hi, hz0, hz1, hz2⟩ := info_parts infoInt
 refine wpList_make_full w hg l c 22 hop W.heap.size 3 i0 (.int .i64 0) 1 Try.underlying22 hi hz0 hz1 .i64 .i64 L C n hl hc hL hC (by rw [hz2]; omega) (by unfold maxLen; omega) hW.size fun w' h1 h2 => ?_
 refine hK w' _ ?_ (Below.grown hW h2 hW.size (fun k hk => by cases hk))
 unfold Own
 have e : (madeCells (Value.int .i64 0).cells (n * 1)).toList = (List.replicate n (0 : Int)).map (.int .i64) := by
  rw [Nat.mul_one, List.map_replicate]
  exact toList_madeCells_one _ _
 rw [e] at h1
 rw [List.length_replicate]
 exact h1

theorem append_int {W w : World} {B : Nat} {v : Value} {xs : List Int} {x : Int} {ops : Array Oper} {rest : List Oper} {o : Oper} {a : Act} {Q : Exit → Act → World → Prop} (hg : o.guard = none) (s y : Operand)
  (hop : o.op = Op.call { callee := Callee.builtin Builtin.append, args := #[s, y], argTypes := #[22, 22] })
  (hs : a.eval s = v) (hy : a.eval y = .slice (some ⟨w.heap.size, 0, none⟩) 1 1) (hown : Own w B v xs) (hn : xs.length + 1 ≤ 17592186044416) (hW : Ext W w) (hB : W.heap.size ≤ B) (hB' : B ≤ w.heap.size)
  (hK : ∀ w' v', Own w' B v' (xs ++ [x]) → Ext W w' → wpList Try.prog ops Q rest (a.put o.dst v') w') :
  wpList Try.prog ops Q (o :: rest) a (w.alloc (.cells #[.int .i64 x] 3)) := by
 obtain ⟨i0, hi, hz0, hz1, hz2⟩ := info_parts infoInt
 refine wpList_append_own _ hg s y 22 hop B 3 i0 (.int .i64 0) 1 8 Try.underlying22 hi hz0 hz1 hz2 rfl (by decide) v xs.length (xs.map (.int .i64)) hs (World.ownsRow.alloc hown _) ⟨w.heap.size, 0, none⟩ 1 1 [.int .i64 x] hy rfl ?_ ?_ (by unfold maxLen; omega) (by omega) (by simp; omega) fun v' w' h1 h2 _ => ?_
 ·intro j u hu
  match j, hu with
  | 0, hu =>
   simp at hu
   subst hu
   simp [Addr.add]
 ·intro u hu
  simp at hu
  subst hu
  rfl
 ·refine hK w' v' ?_ (Below.grown (hW.alloc _) h2 (by have := hW.size; simp; omega) ?_)
  ·unfold Own
   rw [List.map_append, List.length_append]
   exact h1
  ·intro k hk
   have := (World.ownsRow.lt hown k hk).1
   omega

theorem append_copy {W w : World} {p : Addr} {n c : Nat} {xs : List Int} {ops : Array Oper} {rest : List Oper} {o : Oper} {a : Act} {Q : Exit → Act → World → Prop} (hg : o.guard = none) (s y : Operand)
  (hop : o.op = Op.call { callee := Callee.builtin Builtin.append, args := #[s, y], argTypes := #[22, 22] })
  (hs : a.eval s = .slice (some ⟨w.heap.size, 0, none⟩) 0 0) (hy : a.eval y = .slice (some p) n c) (hn : n = xs.length) (h : Ints w (some p) xs) (hm : n ≤ 17592186044416) (hW : Ext W w)
  (hK : ∀ w' v', Own w' W.heap.size v' xs → Ext W w' → wpList Try.prog ops Q rest (a.put o.dst v') w') :
  wpList Try.prog ops Q (o :: rest) a (w.alloc (.cells #[] 3)) := by
 subst hn
 obtain ⟨i0, hi, hz0, hz1, hz2⟩ := info_parts infoInt
 have hown := World.ownsRow_lit (e := 3) (size := 1) w #[] 0 hW.size (by unfold maxLen; omega) rfl
 have hb := (Ext.refl w).alloc (.cells #[] 3)
 refine wpList_append_own _ hg s y 22 hop W.heap.size 3 i0 (.int .i64 0) 1 8 Try.underlying22 hi hz0 hz1 hz2 rfl (by decide) _ 0 [] hs hown p xs.length c (xs.map (.int .i64)) hy (by simp) ?_ (ints_oneCell _ _) (by unfold maxLen; omega) (by omega) (by have := hW.size; simp; omega) fun v' w' h1 h2 _ => ?_
 ·intro j u hu
  have hj : j < (xs.map (Value.int .i64)).length := (List.getElem?_eq_some_iff.1 hu).1
  have := (h.ext hb).cells.cell j hj
  rw [hu] at this
  exact this
 ·refine hK w' v' ?_ (Below.grown (hW.alloc _) h2 (by have := hW.size; simp; omega) ?_)
  ·unfold Own
   simpa using h1
  ·intro k hk
   have := (World.ownsRow.lt hown k hk).1
   exact this

theorem idx_ints {w : World} {a : Option Addr} {xs : List Int} (h : Ints w a xs) (n c : Nat) (hn : n = xs.length) (u : World) (k : Int) (h0 : 0 ≤ k) (h1 : k < n) :
  (Instr.indexAt 22 (.slice a n c) (.int .i64 k)).run Try.prog u = .ok (.pointer (some (adr a k.toNat))) u := by
 subst hn
 obtain ⟨b, off, rfl⟩ := h.cells.some k.toNat (by simp; omega)
 simp only [adr, addr_add]
 go_simp

end Go.Proofs.Ytehjbfljenpfoaa
