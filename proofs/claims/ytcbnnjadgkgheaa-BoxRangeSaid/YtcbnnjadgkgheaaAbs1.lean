/- The abstract machine: its values, and how they stand for the values and the memory of the model. -/
import Derived.WalkKit
import Derived.WalkSpells
import Derived.Below
set_option linter.unusedVariables false
set_option linter.unusedSimpArgs false
namespace Go.Abs
open Go.RowKit

/-- A cell that holds no memory of the call's own: a number, a text, a slice that nobody writes any more. -/
inductive PC where
  | val (v : Value)
  | slice (rows : List (List PC))

/-- A cell of the call. -/
inductive AC where
  | pure (p : PC)
  | nils
  | tsl (rows : List (List PC))
  | ptr (nm off : Nat)
  | eptr (nm sz row off : Nat)
  | cptr (cells : List PC)
  | ref (nm : Nat)
  | clo (f : FuncId) (caps : List AC)
  | mref (nm : Nat)
  | top

inductive AV where
  | c (x : AC)
  | agg (xs : List AC)
  | tup (xs : List AV)
  | top

/-- The kinds of a map's keys, and the keys. -/
inductive KT where
  | int (k : IntKind)
  | str
  | bool
inductive MK where
  | int (n : Int)
  | str (s : List UInt8)
  | bool (b : Bool)
  deriving DecidableEq
def MK.val : KT → MK → Option Value
  | .int k, .int n => some (.int k n)
  | .str, .str s => some (.string ⟨⟨s⟩⟩)
  | .bool, .bool b => some (.bool b)
  | _, _ => none
def mkOf : KT → Value → Option MK
  | .int k, .int k' n => if k = k' then some (.int n) else none
  | .str, .string s => some (.str s.data.toList)
  | .bool, .bool b => some (.bool b)
  | _, _ => none

/-- What the call owns: a variable, the array of a slice, or a map (n: none: an element is one cell). -/
inductive Box where
  | var (xs : List AC)
  | arr (e sz : Nat) (rows : List (List PC))
  | map (kt : KT) (n : Option Nat) (ents : List (MK × List PC))

/-- base: the names below it are not renamed (they belong to who called). -/
structure St where
  fr : List (Nat × AV)
  mem : List (Nat × Box)
  nx : Nat
  base : Nat

/-- A value that is one cell and points to no memory. -/
def scalar : Value → Bool
  | .bool _ | .int _ _ | .float _ _ | .string _ | .pointer none | .map none | .nilFunc | .nilIface => true
  | _ => false

inductive All2 {α β : Type} (R : α → β → Prop) : List α → List β → Prop
  | nil : All2 R [] []
  | cons {a : α} {b : β} {as : List α} {bs : List β} (h : R a b) (t : All2 R as bs) : All2 R (a :: as) (b :: bs)

theorem All2.length {α β : Type} {R : α → β → Prop} {as : List α} {bs : List β} (h : All2 R as bs) : as.length = bs.length := by
  induction h with
  | nil => rfl
  | cons _ _ ih => simp [ih]
theorem All2.mono {α β : Type} {R S : α → β → Prop} {as : List α} {bs : List β} (h : All2 R as bs) (hs : ∀ a b, R a b → S a b) : All2 S as bs := by
  induction h with
  | nil => exact .nil
  | cons h _ ih => exact .cons (hs _ _ h) ih
theorem All2.get {α β : Type} {R : α → β → Prop} {as : List α} {bs : List β} (h : All2 R as bs) {i : Nat} {a : α} (ha : as[i]? = some a) : ∃ b, bs[i]? = some b ∧ R a b := by
  induction h generalizing i with
  | nil => simp at ha
  | cons h _ ih =>
    cases i with
    | zero => simp at ha; subst ha; exact ⟨_, rfl, h⟩
    | succ i => simp at ha; exact ih ha
theorem All2.of_get {α β : Type} {R : α → β → Prop} : ∀ {as : List α} {bs : List β}, as.length = bs.length → (∀ (i : Nat) a b, as[i]? = some a → bs[i]? = some b → R a b) → All2 R as bs
  | [], [], _, _ => .nil
  | a :: as, b :: bs, hl, h => .cons (h 0 a b rfl rfl) (All2.of_get (by simpa using hl) fun i x y hx hy => h (i + 1) x y hx hy)
theorem All2.append {α β : Type} {R : α → β → Prop} {as as' : List α} {bs bs' : List β} (h : All2 R as bs) (h' : All2 R as' bs') : All2 R (as ++ as') (bs ++ bs') := by
  induction h with
  | nil => exact h'
  | cons h _ ih => exact .cons h ih
theorem All2.drop {α β : Type} {R : α → β → Prop} {as : List α} {bs : List β} (h : All2 R as bs) (n : Nat) : All2 R (as.drop n) (bs.drop n) := by
  induction h generalizing n with
  | nil => simp; exact .nil
  | cons h t ih =>
    cases n with
    | zero => exact .cons h t
    | succ n => exact ih n
theorem All2.take {α β : Type} {R : α → β → Prop} {as : List α} {bs : List β} (h : All2 R as bs) (n : Nat) : All2 R (as.take n) (bs.take n) := by
  induction h generalizing n with
  | nil => simp; exact .nil
  | cons h t ih =>
    cases n with
    | zero => exact .nil
    | succ n => exact .cons h (ih n)

/-- The pure cell p reads as v in w; its memory lies in blocks that U lets. -/
inductive RepP (w : World) (U : Nat → Prop) : PC → Value → Prop
  | val {v : Value} (h : scalar v = true) : RepP w U (.val v) v
  | slice {sz : Nat} {rows : List (List PC)} {a : Option Addr} {n c : Nat} (g : Nat → Nat → Value) (hn : n = rows.length) (hc : n ≤ c) (hm : n ≤ 9223372036854775807)
      (hr : ∀ (i : Nat) row, rows[i]? = some row → row.length = sz)
      (hcell : ∀ (i : Nat) (row : List PC) (j : Nat) p, rows[i]? = some row → row[j]? = some p → ∃ b off, a = some ⟨b, off, none⟩ ∧ U b ∧ w.cell? ⟨b, off + (i * sz + j), none⟩ = some (g i j))
      (hp : ∀ (i : Nat) (row : List PC) (j : Nat) p, rows[i]? = some row → row[j]? = some p → RepP w U p (g i j)) : RepP w U (.slice rows) (.slice a n c)

theorem RepP.mono {w w' : World} {U U' : Nat → Prop} {p : PC} {v : Value} (h : RepP w U p v) (hU : ∀ b, b < w.heap.size → U b → U' b)
    (hw : ∀ b, b < w.heap.size → U b → w'.heap[b]? = w.heap[b]?) : RepP w' U' p v := by
  induction h with
  | val h => exact .val h
  | slice g hn hc hm hr hcell hp ih =>
    refine .slice g hn hc hm hr (fun i row j p h1 h2 => ?_) ih
    obtain ⟨b, off, ha, hb, hcl⟩ := hcell i row j p h1 h2
    have hlt : b < w.heap.size := World.block_lt_of_cell? w _ hcl
    exact ⟨b, off, ha, hU b hlt hb, by rw [World.cell?_of_block (hw b hlt hb)]; exact hcl⟩

/-- The names' places. -/
abbrev Pl := Nat → Value

inductive RepA (w : World) (U : Nat → Prop) (ι : Pl) (N : Nat) : AC → Value → Prop
  | pure {p : PC} {v : Value} (h : RepP w U p v) : RepA w U ι N (.pure p) v
  | nils : RepA w U ι N .nils (.slice none 0 0)
  | tsl {rows : List (List PC)} {a : Option Addr} {n : Nat} (h : RepP w U (.slice rows) (.slice a n n)) : RepA w U ι N (.tsl rows) (.slice a n n)
  | ptr {nm off b : Nat} (hn : nm < N) (h : ι nm = .pointer (some ⟨b, 0, none⟩)) : RepA w U ι N (.ptr nm off) (.pointer (some ⟨b, off, none⟩))
  | eptr {nm sz row off b n c : Nat} (hn : nm < N) (h : ι nm = .slice (some ⟨b, 0, none⟩) n c) : RepA w U ι N (.eptr nm sz row off) (.pointer (some ⟨b, row * sz + off, none⟩))
  | cptr {cells : List PC} {b off : Nat} (g : Nat → Value) (hcell : ∀ (j : Nat) p, cells[j]? = some p → U b ∧ w.cell? ⟨b, off + j, none⟩ = some (g j) ∧ RepP w U p (g j)) : RepA w U ι N (.cptr cells) (.pointer (some ⟨b, off, none⟩))
  | ref {nm : Nat} (hn : nm < N) (h : ∃ a n c, ι nm = .slice a n c) : RepA w U ι N (.ref nm) (ι nm)
  | clo {f : FuncId} {caps : List AC} {vs : Array Value} (hl : caps.length = vs.size) (h : ∀ (i : Nat) x, caps[i]? = some x → RepA w U ι N x (vs.toList[i]?.getD undef)) : RepA w U ι N (.clo f caps) (.func (.func f) #[] vs)
  | mref {nm b : Nat} (hn : nm < N) (h : ι nm = .map (some b)) : RepA w U ι N (.mref nm) (.map (some b))
  | top {v : Value} (h : v.oneCell' = true) : RepA w U ι N .top v

inductive RepV (w : World) (U : Nat → Prop) (ι : Pl) (N : Nat) : AV → Value → Prop
  | c {x : AC} {v : Value} (h : RepA w U ι N x v) : RepV w U ι N (.c x) v
  | agg {xs : List AC} {vs : Array Value} (h : All2 (RepA w U ι N) xs vs.toList) : RepV w U ι N (.agg xs) (.agg vs)
  | tup {xs : List AV} {vs : Array Value} (hl : xs.length = vs.size) (h : ∀ (i : Nat) x, xs[i]? = some x → RepV w U ι N x (vs.toList[i]?.getD undef)) : RepV w U ι N (.tup xs) (.tuple vs)
  | top {v : Value} : RepV w U ι N .top v

end Go.Abs
