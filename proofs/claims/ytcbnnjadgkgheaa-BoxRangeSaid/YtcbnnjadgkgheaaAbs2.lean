/- The abstract machine: its operations, and how the model's operations are brought into its form. -/
import Derived.Test.YtcbnnjadgkgheaaAbs1
set_option linter.unusedVariables false
set_option linter.unusedSimpArgs false
namespace Go.Abs
open Go.RowKit

inductive AX where
  | t (n : Nat)
  | k (v : AV)

inductive AOp where
  | mv (x : AX)
  | pick (c a b : AX)
  | box (x : AX)
  | load (n : Option Nat) (p : AX)
  | store (n : Nat) (p v : AX)
  | bin (op : BinOp) (x y : AX)
  | eqb (neg : Bool) (x y : AX)
  | un (op : UnOp) (x : AX)
  | conv (k : IntKind) (x : AX)
  | fieldA (off : Nat) (p : AX)
  | field (off : Nat) (n : Option Nat) (x : AX)
  | idxA (sz : Nat) (x i : AX)
  | idxR (len sz : Nat) (x i : AX)
  | idxS (x i : AX)
  | nilc (x : AX)
  | build (zero : List AC) (parts : List (Nat × Nat × AX))
  | bslice (sz : Nat) (rows : List AX)
  | mkslice (e sz bytes : Nat) (zero : List PC) (l : AX)
  | slc (sz : Nat) (x : AX) (lo hi mx : Option AX)
  | slcS (x : AX) (lo hi : Option AX)
  | ext (x : AX) (i : Nat)
  | len (x : AX)
  | lenS (x : AX)
  | mm (mx : Bool) (x y : AX)
  | fnil (neg : Bool) (x : AX)
  | app (e sz bytes : Nat) (x y : AX)
  | mkfn (f : FuncId) (caps : List AX)
  | call (g : Bool) (f : AX) (args : List AX)
  | bsliceF (sz : Nat) (rows : List AX)
  | mkmap (kt : KT) (n : Option Nat)
  | mget (kt : KT) (n : Option Nat) (zero : List PC) (ok : Bool) (m k : AX)
  | mput (kt : KT) (n : Option Nat) (m k v : AX)

/-- An operation with its slot and its guard (a slot, and what it must hold). -/
structure AG where
  dst : Option Nat
  guard : Option (Nat × Bool)
  op : AOp

inductive ACode where
  | skip
  | region (ops : List AG) (draw : Bool)
  | seq (a b : ACode)
  | cond (c : AX) (thn els : ACode)
  | block (id : Nat) (body : ACode)
  | loop (body : ACode)
  | exit (id : Nat)
  | ret

def look : List (Nat × AV) → Nat → AV
  | [], _ => .top
  | (m, v) :: r, n => if m = n then v else look r n
def St.put (σ : St) : Option Nat → AV → St
  | some d, v => { σ with fr := (d, v) :: σ.fr }
  | none, _ => σ
def findB : List (Nat × Box) → Nat → Option Box
  | [], _ => none
  | (m, b) :: r, n => if m = n then some b else findB r n
def delB : List (Nat × Box) → Nat → List (Nat × Box)
  | [], _ => []
  | (m, b) :: r, n => if m = n then delB r n else (m, b) :: delB r n
def setB : List (Nat × Box) → Nat → Box → List (Nat × Box)
  | [], _, _ => []
  | (m, b) :: r, n, c => if m = n then (m, c) :: r else (m, b) :: setB r n c
def AX.ev (fr : List (Nat × AV)) : AX → AV
  | .t n => look fr n
  | .k v => v
def AV.cells : AV → Option (List AC)
  | .c x => some [x]
  | .agg xs => some xs
  | _ => none
/-- ys written into xs from off on. -/
def over {α : Type} (xs : List α) (off : Nat) (ys : List α) : List α := xs.take off ++ ys ++ xs.drop (off + ys.length)

/-- Something that simp leaves alone (it stands where an instance stands). -/
class Blk (α : Type) where
  out : α
/-- A side condition, and what follows. -/
def andW (p : Prop) [K : Blk Prop] : Prop := p ∧ K.out
/-- What follows, where o is there. -/
def optW {α : Type} (o : Option α) [K : Blk (α → Prop)] : Prop := ∃ x, o = some x ∧ K.out x
/-- Two ways. -/
def condW (t : Bool) [A : Blk Prop] [B : Blk Prop] : Prop := (t = true → A.out) ∧ (t = false → B.out)
theorem andW_of {p : Prop} {K : Blk Prop} (h : p) : @andW p K = K.out := propext ⟨fun h => h.2, fun k => ⟨h, k⟩⟩
theorem andW_true {K : Blk Prop} : @andW True K = K.out := andW_of trivial
theorem optW_some {α : Type} {x : α} {K : Blk (α → Prop)} : @optW _ (some x) K = K.out x := propext ⟨fun ⟨_, e, k⟩ => by cases e; exact k, fun k => ⟨x, rfl, k⟩⟩
theorem condW_true {A B : Blk Prop} : @condW true A B = A.out := propext ⟨fun h => h.1 rfl, fun a => ⟨fun _ => a, (fun e => by cases e)⟩⟩
theorem condW_false {A B : Blk Prop} : @condW false A B = B.out := propext ⟨fun h => h.2 rfl, fun a => ⟨(fun e => by cases e), fun _ => a⟩⟩
/-- What follows, where o is there and where it is not. -/
def caseW {α : Type} (o : Option α) [A : Blk (α → Prop)] [B : Blk Prop] : Prop := (∀ x, o = some x → A.out x) ∧ (o = none → B.out)
theorem caseW_some {α : Type} {x : α} {A : Blk (α → Prop)} {B : Blk Prop} : @caseW _ (some x) A B = A.out x := propext ⟨fun h => h.1 x rfl, fun a => ⟨fun y e => by cases e; exact a, (fun e => by cases e)⟩⟩
theorem caseW_none {α : Type} {A : Blk (α → Prop)} {B : Blk Prop} : @caseW α none A B = B.out := propext ⟨fun h => h.2 rfl, fun b => ⟨(fun x e => by cases e), fun _ => b⟩⟩
theorem caseW_intro {α : Type} {o : Option α} {A : Blk (α → Prop)} {B : Blk Prop} (h1 : ∀ x, o = some x → A.out x) (h2 : o = none → B.out) : @caseW α o A B := ⟨h1, h2⟩
theorem condW_intro {t : Bool} {A B : Blk Prop} (h1 : t = true → A.out) (h2 : t = false → B.out) : @condW t A B := ⟨h1, h2⟩

/-- Rows of one length. -/
def rowsOk (sz : Nat) (rows : List (List PC)) : Prop := ∀ r ∈ rows, r.length = sz

/-- The cell as a pure one. -/
def pcA : AC → Option PC
  | .pure p => some p
  | .nils => some (.slice [])
  | .tsl rows => some (.slice rows)
  | _ => none
def pcAs : List AC → Option (List PC)
  | [] => some []
  | x :: xs => match pcA x, pcAs xs with
    | some y, some ys => some (y :: ys)
    | _, _ => none
/-- The cell as a pure one, once it has been given away: what is left of the memory. -/
def frzA (mem : List (Nat × Box)) : AC → Option (PC × List (Nat × Box))
  | .pure p => some (p, mem)
  | .nils => some (.slice [], mem)
  | .tsl rows => some (.slice rows, mem)
  | .ref nm => match findB mem nm with
    | some (.arr _ _ rows) => some (.slice rows, delB mem nm)
    | _ => none
  | _ => none
def frzAs (mem : List (Nat × Box)) : List AC → Option (List PC × List (Nat × Box))
  | [] => some ([], mem)
  | x :: xs => match frzA mem x with
    | some (y, mem) => match frzAs mem xs with
      | some (ys, mem) => some (y :: ys, mem)
      | none => none
    | none => none
/-- x, seen as a cell that holds no memory of the call's own. -/
def purP (mem : List (Nat × Box)) : AC → Option PC
  | .pure p => some p
  | .nils => some (.slice [])
  | .tsl rows => some (.slice rows)
  | .ref nm => match findB mem nm with
    | some (.arr _ _ rows) => some (.slice rows)
    | _ => none
  | _ => none
def purPs (mem : List (Nat × Box)) : List AC → Option (List PC)
  | [] => some []
  | x :: xs => match purP mem x, purPs mem xs with
    | some y, some ys => some (y :: ys)
    | _, _ => none
def purC (mem : List (Nat × Box)) : AC → Option AC
  | .pure p => some (.pure p)
  | .nils => some (.pure (.slice []))
  | .tsl rows => some (.pure (.slice rows))
  | .ref nm => match findB mem nm with
    | some (.arr _ _ rows) => some (.pure (.slice rows))
    | _ => none
  | .cptr cells => some (.cptr cells)
  | .ptr nm off => match findB mem nm with
    | some (.var xs) => match purPs mem xs with
      | some ps => some (.cptr (ps.drop off))
      | none => none
    | _ => none
  | _ => none
def purCs (mem : List (Nat × Box)) : List AC → Option (List AC)
  | [] => some []
  | x :: xs => match purC mem x, purCs mem xs with
    | some y, some ys => some (y :: ys)
    | _, _ => none
def purA (mem : List (Nat × Box)) : AC → Option AC
  | .clo f caps => match purCs mem caps with
    | some ys => some (.clo f ys)
    | none => none
  | x => purC mem x
def purAs (mem : List (Nat × Box)) : List AC → Option (List AC)
  | [] => some []
  | x :: xs => match purA mem x, purAs mem xs with
    | some y, some ys => some (y :: ys)
    | _, _ => none
def purV (mem : List (Nat × Box)) : AV → Option AV
  | .c x => match purA mem x with
    | some y => some (.c y)
    | none => none
  | .agg xs => match purAs mem xs with
    | some ys => some (.agg ys)
    | none => none
  | _ => none
def purVs (mem : List (Nat × Box)) : List AV → Option (List AV)
  | [] => some []
  | x :: xs => match purV mem x, purVs mem xs with
    | some y, some ys => some (y :: ys)
    | _, _ => none
/-- A value without a slice in it. -/
def flatA : AC → Bool
  | .pure (.val _) => true
  | _ => false
def flatV : AV → Bool
  | .c x => flatA x
  | .agg xs => xs.all flatA
  | .tup vs => go vs
  | .top => false
where go : List AV → Bool
  | [] => true
  | .c x :: r => flatA x && go r
  | .agg xs :: r => xs.all flatA && go r
  | _ :: _ => false
def norefC : AC → Bool
  | .ref _ | .ptr _ _ => false
  | _ => true
def norefA : AC → Bool
  | .clo _ caps => caps.all norefC
  | x => norefC x
def norefV : AV → Bool
  | .c x => norefA x
  | .agg xs => xs.all norefA
  | _ => true

/-- How long the slices of a value can be. -/
def bndA : AC → Prop
  | .pure (.slice rows) => rows.length ≤ 9223372036854775807
  | _ => True
def bndAs : List AC → Prop
  | [] => True
  | x :: r => bndA x ∧ bndAs r
def bndV : AV → Prop
  | .c x => bndA x
  | .agg xs => bndAs xs
  | .tup vs => go vs
  | .top => True
where go : List AV → Prop
  | [] => True
  | .c x :: r => bndA x ∧ go r
  | .agg xs :: r => bndAs xs ∧ go r
  | _ :: r => go r

/-- The block of a name. -/
def blockOf (v : Value) : Option Nat := match v with
  | .pointer (some a) => some a.block
  | .slice (some a) _ _ => some a.block
  | .map (some b) => some b
  | _ => none

/-- What a call carries along for who called it: the blocks of old that may be read, the places of the caller's names, and what the caller knows of the memory. -/
structure Gh where
  p : Nat → Prop
  ι0 : Pl
  G : World → (Nat → Prop) → Prop
  mono : ∀ (w w' : World) (V V' : Nat → Prop), G w V → (∀ b, b < w.heap.size → V b → V' b) → (∀ b, b < w.heap.size → V b → w'.heap[b]? = w.heap[b]?) → G w' V'
/-- Nothing is carried along. -/
def Gh.of (p : Nat → Prop) : Gh := ⟨p, fun _ => undef, fun _ _ => True, fun _ _ _ _ _ _ _ => trivial⟩

/-- The blocks that nobody writes: those of old that U lets, and new ones, without the call's own. -/
def Free (B : Nat) (U : Gh) (ι : Pl) (mem : List (Nat × Box)) (b : Nat) : Prop :=
  (U.p b ∨ B ≤ b) ∧ ∀ nm bx, findB mem nm = some bx → blockOf (ι nm) ≠ some b

/-- The rows lie flat in the cells. -/
def RowsRep (w : World) (U : Nat → Prop) (sz : Nat) (rows : List (List PC)) (cells : List Value) : Prop :=
  cells.length = rows.length * sz ∧ (∀ (i : Nat) row, rows[i]? = some row → row.length = sz) ∧
  ∀ (i : Nat) (row : List PC) (j : Nat) p, rows[i]? = some row → row[j]? = some p → ∃ v, cells[i * sz + j]? = some v ∧ RepP w U p v

/-- An element of a map, as a value. -/
def mval (n : Option Nat) (ps : List PC) : AV :=
  match n with
  | none => match ps with
    | p :: _ => .c (.pure p)
    | [] => .top
  | some _ => .agg (ps.map .pure)
/-- An entry of a map. -/
def EntRep (w : World) (U : Nat → Prop) (kt : KT) (n : Option Nat) (x : MK × List PC) (e : MapEntry) : Prop :=
  x.1.val kt = some e.key ∧ RepV w U (fun _ => undef) 0 (mval n x.2) e.val

/-- One thing that the call owns, in memory. -/
def BoxRep (B : Nat) (w : World) (U : Nat → Prop) (ι : Pl) (N : Nat) (nm : Nat) : Box → Prop
  | .var xs => ∃ b vs T, ι nm = .pointer (some ⟨b, 0, none⟩) ∧ B ≤ b ∧ w.heap[b]? = some (.cells vs T (0, 0)) ∧ All2 (RepA w U ι N) xs vs.toList
  | .arr e sz rows => ∃ cells, 0 < sz ∧ w.ownsRow B e sz (ι nm) rows.length cells ∧ rows.length ≤ 9223372036854775807 ∧ RowsRep w U sz rows cells
  | .map kt n ents => ∃ b es clock, ι nm = .map (some b) ∧ B ≤ b ∧ w.heap[b]? = some (.map es clock) ∧ All2 (EntRep w U kt n) ents es.toList

structure Sim (w0 : World) (U : Gh) (σ : St) (ι : Pl) (a : Act) (w : World) : Prop where
  val : ∀ t, RepV w (Free w0.heap.size U ι σ.mem) ι σ.nx (look σ.fr t) (a.tmps.getD t undef)
  defers : a.defers = []
  names : ∀ nm bx, findB σ.mem nm = some bx → nm < σ.nx
  box : ∀ nm bx, findB σ.mem nm = some bx → BoxRep w0.heap.size w (Free w0.heap.size U ι σ.mem) ι σ.nx nm bx
  apart : ∀ nm nm' bx bx' b, findB σ.mem nm = some bx → findB σ.mem nm' = some bx' → blockOf (ι nm) = some b → blockOf (ι nm') = some b → nm = nm'
  below : Below w0.heap.size w0 w
  keep : U.G w (Free w0.heap.size U ι σ.mem)
  base : σ.base ≤ σ.nx ∧ ∀ nm, nm < σ.base → ι nm = U.ι0 nm

/-- The function f is there. -/
def FnThere (P : Program) (f : FuncId) : Prop := ∃ fn, P.funcs[f]? = some fn ∧ fn.body.isSome = true ∧ (fn.name == "runtime.NumGoroutine") = false
/-- What the function f answers to args, whatever the memory: res, in memory of its own or of args. -/
def PCalls (P : Program) (f : FuncId) (args : List AV) (res : AV) : Prop :=
  FnThere P f ∧
  ∀ (w : World) (U : Nat → Prop) (vs : Array Value), All2 (RepV w U (fun _ => undef) 0) args vs.toList →
    Calls P f vs w fun e w' => ∃ v, e = .returned v ∧ RepV w' (fun b => U b ∨ w.heap.size ≤ b) (fun _ => undef) 0 res v ∧ Below w.heap.size w w'
/-- The same, with the result in memory of its own. -/
def FCalls (P : Program) (f : FuncId) (args : List AV) (res : AV) : Prop :=
  FnThere P f ∧
  ∀ (w : World) (U : Nat → Prop) (vs : Array Value), All2 (RepV w U (fun _ => undef) 0) args vs.toList →
    Calls P f vs w fun e w' => ∃ v, e = .returned v ∧ RepV w' (fun b => w.heap.size ≤ b) (fun _ => undef) 0 res v ∧ Below w.heap.size w w'
/-- What the function f answers to args where the caller's memory is mem, and what it makes of that memory. -/
def ICalls (P : Program) (f : FuncId) (args : List AV) (mem : List (Nat × Box)) (nx : Nat) (res : AV) (mem' : List (Nat × Box)) (nx' : Nat) : Prop :=
  FnThere P f ∧
  ∀ (w0 : World) (U : Gh) (ι : Pl) (w : World) (vs : Array Value), Sim w0 U ⟨[], mem, nx, nx⟩ ι { tmps := #[], defers := [] } w → All2 (RepV w (Free w0.heap.size U ι mem) ι nx) args vs.toList →
    Calls P f vs w fun e w' => ∃ v ι', e = .returned v ∧ Sim w0 U ⟨[], mem', nx', nx⟩ ι' { tmps := #[], defers := [] } w' ∧ RepV w' (Free w0.heap.size U ι' mem') ι' nx' res v

def callW (P : Program) (g : Bool) (f : FuncId) (args : List AV) (σ : St) [K : Blk (AV → St → Prop)] : Prop :=
  (∃ pargs, purVs σ.mem args = some pargs ∧ ∃ res, ((PCalls P f pargs res ∧ (flatV res = true ∨ args.all norefV = true)) ∨ FCalls P f pargs res) ∧ K.out res σ) ∨
  (g = true ∧ ∃ res mem' nx', ICalls P f args σ.mem σ.nx res mem' nx' ∧ K.out res { σ with mem := mem', nx := nx' })

def binI (op : BinOp) (k : IntKind) (a b : Int) (K : Value → Prop) : Prop :=
  match op with
  | .add => K (.int k (k.wrap (a + b)))
  | .sub => K (.int k (k.wrap (a - b)))
  | .mul => K (.int k (k.wrap (a * b)))
  | .quo => andW (b ≠ 0) (K := ⟨K (.int k (k.wrap (a.tdiv b)))⟩)
  | .rem => andW (b ≠ 0) (K := ⟨K (.int k (a.tmod b))⟩)
  | .and => K (.int k (k.wrap (BitVec.ofInt k.bits a &&& BitVec.ofInt k.bits b).toNat))
  | .or => K (.int k (k.wrap (BitVec.ofInt k.bits a ||| BitVec.ofInt k.bits b).toNat))
  | .xor => K (.int k (k.wrap (BitVec.ofInt k.bits a ^^^ BitVec.ofInt k.bits b).toNat))
  | .andNot => K (.int k (k.wrap (BitVec.ofInt k.bits a &&& ~~~ BitVec.ofInt k.bits b).toNat))
  | .eql => K (.bool (a == b))
  | .neq => K (.bool (a != b))
  | .lss => K (.bool (decide (a < b)))
  | .leq => K (.bool (decide (a ≤ b)))
  | .gtr => K (.bool (decide (a > b)))
  | .geq => K (.bool (decide (a ≥ b)))
  | _ => False
def binS (op : BinOp) (a b : ByteArray) (K : Value → Prop) : Prop :=
  match op with
  | .add => andW (a.size + b.size ≤ 9223372036854775807) (K := ⟨K (.string (a ++ b))⟩)
  | .eql => K (.bool (a.toList == b.toList))
  | .neq => K (.bool (!(a.toList == b.toList)))
  | .lss => K (.bool (Op.bytesLess a.toList b.toList))
  | .leq => K (.bool (Op.bytesLess a.toList b.toList || a.toList == b.toList))
  | .gtr => K (.bool (!(Op.bytesLess a.toList b.toList || a.toList == b.toList)))
  | .geq => K (.bool (!(Op.bytesLess a.toList b.toList)))
  | _ => False
def binW (op : BinOp) (x y : Value) (K : Value → Prop) : Prop :=
  match x, y with
  | .int k a, .int k' b => andW (k = k') (K := ⟨binI op k a b K⟩)
  | .string a, .string b => binS op a b K
  | _, _ => False
def shiftI (op : BinOp) (k : IntKind) (a b : Int) (K : Value → Prop) : Prop :=
  match op with
  | .shl => K (.int k (k.wrap (a * 2 ^ (min b.toNat k.bits))))
  | .shr => K (.int k (a.fdiv (2 ^ (min b.toNat k.bits))))
  | _ => False
def shiftW (op : BinOp) (x y : Value) (K : Value → Prop) : Prop :=
  match x, y with
  | .int k a, .int _ b => andW (0 ≤ b) (K := ⟨shiftI op k a b K⟩)
  | _, _ => False

/-- The rows of a slice. -/
def rowsOf? (mem : List (Nat × Box)) : AV → Option (List (List PC))
  | .c (.pure (.slice rows)) => some rows
  | .c (.tsl rows) => some rows
  | .c .nils => some []
  | .c (.ref nm) => match findB mem nm with
    | some (.arr _ _ rows) => some rows
    | _ => none
  | _ => none

/-- 'append' to a slice of the call's own. -/
def appOwn (e sz bytes nm : Nat) (ys : List (List PC)) (σ : St) (K : AV → St → Prop) : Prop :=
  ∃ rows, findB σ.mem nm = some (.arr e sz rows) ∧ (rows.length + ys.length) * bytes ≤ 140737488355328 ∧ rows.length + ys.length ≤ 140737488355328 ∧
    K (.c (.ref σ.nx)) { σ with mem := (σ.nx, .arr e sz (rows ++ ys)) :: delB σ.mem nm, nx := σ.nx + 1 }
/-- 'append' to a slice without room. -/
def appNew (e sz bytes : Nat) (rows ys : List (List PC)) (σ : St) (K : AV → St → Prop) : Prop :=
  (rows.length + ys.length) * bytes ≤ 140737488355328 ∧ rows.length + ys.length ≤ 140737488355328 ∧ K (.c (.ref σ.nx)) { σ with mem := (σ.nx, .arr e sz (rows ++ ys)) :: σ.mem, nx := σ.nx + 1 }
/-- 'append' to a slice without room: nobody writes the result. -/
def appPure (bytes : Nat) (rows ys : List (List PC)) (σ : St) (K : AV → St → Prop) : Prop :=
  (rows.length + ys.length) * bytes ≤ 140737488355328 ∧ rows.length + ys.length ≤ 140737488355328 ∧ K (.c (.pure (.slice (rows ++ ys)))) σ
/-- 'append' of the rows ys. -/
def appW (e sz bytes : Nat) (x y : AV) (ys : List (List PC)) (σ : St) [K : Blk (AV → St → Prop)] : Prop :=
  rowsOk sz ys ∧ (
    (∃ nm, x = .c (.ref nm) ∧ y ≠ .c (.ref nm) ∧ appOwn e sz bytes nm ys σ K.out) ∨
    (x = .c .nils ∧ (appNew e sz bytes [] ys σ K.out ∨ appPure bytes [] ys σ K.out)) ∨
    (∃ rows, x = .c (.tsl rows) ∧ rowsOk sz rows ∧ ((ys ≠ [] ∧ appNew e sz bytes rows ys σ K.out) ∨ appPure bytes rows ys σ K.out)))

def loadCells? (mem : List (Nat × Box)) : AC → Option (List AC)
  | .ptr nm off => match findB mem nm with
    | some (.var xs) => some (xs.drop off)
    | _ => none
  | .cptr cells => some (cells.map .pure)
  | .eptr nm sz row off => match findB mem nm with
    | some (.arr _ sz' rows) => if sz = sz' then (rows[row]?).map fun r => (r.drop off).map .pure else none
    | _ => none
  | _ => none

/-- Looking up in a map, and writing. -/
def mlook : List (MK × List PC) → MK → Option (List PC)
  | [], _ => none
  | (k, v) :: r, k' => if k = k' then some v else mlook r k'
def mset : List (MK × List PC) → MK → List PC → List (MK × List PC)
  | [], k, v => [(k, v)]
  | (k, u) :: r, k', v => if k = k' then (k', v) :: r else (k, u) :: mset r k' v
theorem mlook_mset {k k' : MK} {v : List PC} : ∀ {l : List (MK × List PC)}, mlook (mset l k v) k' = if k = k' then some v else mlook l k'
  | [] => rfl
  | (k0, u) :: r => by
    simp only [mset]
    by_cases e : k0 = k
    · subst e
      rw [if_pos rfl]
      simp only [mlook]
      by_cases e' : k0 = k' <;> simp [e']
    · rw [if_neg e]
      simp only [mlook, mlook_mset (l := r)]
      by_cases e' : k0 = k'
      · subst e'
        rw [if_pos rfl, if_pos rfl, if_neg (fun h => e h.symm)]
      · rw [if_neg e', if_neg e']
/-- The cells of an element of a map. -/
def mcells (n : Option Nat) (v : AV) : Option (List AC) :=
  match n, v with
  | none, .c x => some [x]
  | some k, .agg xs => if xs.length = k then some xs else none
  | _, _ => none

def opW (P : Program) (o : AOp) (σ : St) (K : AV → St → Prop) : Prop :=
  match o with
  | .mv x => K (x.ev σ.fr) σ
  | .pick c a b => match c.ev σ.fr with
    | .c (.pure (.val (.bool t))) => condW t (A := ⟨K (a.ev σ.fr) σ⟩) (B := ⟨K (b.ev σ.fr) σ⟩)
    | _ => False
  | .box x => match (x.ev σ.fr).cells with
    | some xs => K (.c (.ptr σ.nx 0)) { σ with mem := (σ.nx, .var xs) :: σ.mem, nx := σ.nx + 1 }
    | none => False
  | .load n p => match p.ev σ.fr with
    | .c q => match loadCells? σ.mem q with
      | some xs => match n with
        | none => match xs with
          | x :: _ => K (.c x) σ
          | [] => False
        | some n => andW (n ≤ xs.length) (K := ⟨K (.agg (xs.take n)) σ⟩)
      | none => False
    | _ => False
  | .store n p v => match (v.ev σ.fr).cells, p.ev σ.fr with
    | some ys, .c (.ptr nm off) => match findB σ.mem nm with
      | some (.var xs) => andW (ys.length = n ∧ off + n ≤ xs.length) (K := ⟨K (.tup []) { σ with mem := setB σ.mem nm (.var (over xs off ys)) }⟩)
      | _ => False
    | some ys, .c (.eptr nm sz row off) => match findB σ.mem nm with
      | some (.arr e sz' rows) => andW (sz = sz' ∧ ys.length = n ∧ off + n ≤ sz) (K := ⟨optW (pcAs ys) (K := ⟨fun zs => optW rows[row]? (K := ⟨fun r =>
          K (.tup []) { σ with mem := setB σ.mem nm (.arr e sz (rows.set row (over r off zs))) }⟩)⟩)⟩)
      | _ => False
    | _, _ => False
  | .bin op x y => match x.ev σ.fr, y.ev σ.fr with
    | .c (.pure (.val a)), .c (.pure (.val b)) => match op with
      | .shl | .shr => shiftW op a b fun v => K (.c (.pure (.val v))) σ
      | _ => binW op a b fun v => K (.c (.pure (.val v))) σ
    | _, _ => False
  | .eqb neg x y => match x.ev σ.fr, y.ev σ.fr with
    | .c (.pure (.val (.bool a))), .c (.pure (.val (.bool b))) => K (.c (.pure (.val (.bool ((a == b) != neg))))) σ
    | _, _ => False
  | .un op x => match op, x.ev σ.fr with
    | .not, .c (.pure (.val (.bool b))) => K (.c (.pure (.val (.bool (!b))))) σ
    | .neg, .c (.pure (.val (.int k n))) => K (.c (.pure (.val (.int k (k.wrap (0 - n)))))) σ
    | .xor, .c (.pure (.val (.int k n))) => K (.c (.pure (.val (.int k (k.wrap (BitVec.ofInt k.bits (if k.signed then -1 else k.max) ^^^ BitVec.ofInt k.bits n).toNat))))) σ
    | _, _ => False
  | .conv k x => match x.ev σ.fr with
    | .c (.pure (.val (.int _ n))) => K (.c (.pure (.val (.int k (k.wrap n))))) σ
    | _ => False
  | .fieldA off p => match p.ev σ.fr with
    | .c (.ptr nm o) => K (.c (.ptr nm (o + off))) σ
    | .c (.cptr cells) => K (.c (.cptr (cells.drop off))) σ
    | .c (.eptr nm sz row o) => K (.c (.eptr nm sz row (o + off))) σ
    | _ => False
  | .field off n x => match x.ev σ.fr with
    | .agg xs => match n with
      | none => match xs.drop off with
        | x :: _ => K (.c x) σ
        | [] => False
      | some n => andW (off + n ≤ xs.length) (K := ⟨K (.agg ((xs.drop off).take n)) σ⟩)
    | _ => False
  | .idxA sz x i => match x.ev σ.fr, i.ev σ.fr with
    | .c (.pure (.slice rows)), .c (.pure (.val (.int _ i))) | .c (.tsl rows), .c (.pure (.val (.int _ i))) => andW (0 ≤ i) (K := ⟨optW rows[i.toNat]? (K := ⟨fun r => andW (r.length = sz ∧ 0 < sz) (K := ⟨K (.c (.cptr r)) σ⟩)⟩)⟩)
    | .c (.ref nm), .c (.pure (.val (.int _ i))) => match findB σ.mem nm with
      | some (.arr _ sz' rows) => andW (sz' = sz ∧ 0 < sz ∧ 0 ≤ i ∧ i < rows.length) (K := ⟨K (.c (.eptr nm sz i.toNat 0)) σ⟩)
      | _ => False
    | _, _ => False
  | .idxR len sz x i => match x.ev σ.fr, i.ev σ.fr with
    | .c (.ptr nm o), .c (.pure (.val (.int _ i))) => andW (0 ≤ i ∧ i < len) (K := ⟨K (.c (.ptr nm (o + i.toNat * sz))) σ⟩)
    | .c (.cptr cells), .c (.pure (.val (.int _ i))) => andW (0 ≤ i ∧ i < len) (K := ⟨K (.c (.cptr (cells.drop (i.toNat * sz)))) σ⟩)
    | _, _ => False
  | .nilc x => match x.ev σ.fr with
    | .c (.ptr nm o) => K (.c (.ptr nm o)) σ
    | .c (.cptr cells) => K (.c (.cptr cells)) σ
    | .c (.eptr nm sz row o) => K (.c (.eptr nm sz row o)) σ
    | .c (.clo f caps) => K (.c (.clo f caps)) σ
    | _ => False
  | .idxS x i => match x.ev σ.fr, i.ev σ.fr with
    | .c (.pure (.val (.string s))), .c (.pure (.val (.int _ i))) => andW (0 ≤ i) (K := ⟨optW s[i.toNat]? (K := ⟨fun b => K (.c (.pure (.val (.int .u8 b.toNat)))) σ⟩)⟩)
    | _, _ => False
  | .build zero parts => buildW σ parts zero fun xs => K (.agg xs) σ
  | .bslice sz rows => bsliceW σ sz rows [] fun rs => K (.c (.tsl rs)) σ
  | .mkslice e sz bytes zero l => match l.ev σ.fr with
    | .c (.pure (.val (.int .i64 n))) => andW (0 ≤ n ∧ n ≤ 281474976710656 ∧ bytes * n ≤ 281474976710656) (K := ⟨
        K (.c (.ref σ.nx)) { σ with mem := (σ.nx, .arr e sz (List.replicate n.toNat zero)) :: σ.mem, nx := σ.nx + 1 }⟩)
    | _ => False
  | .slc sz x lo hi mx => match x.ev σ.fr with
    | .c (.ref _) => False
    | v => optW (rowsOf? σ.mem v) (K := ⟨fun rows => optW (boundOf σ lo) (K := ⟨fun lo => optW (boundOf σ hi) (K := ⟨fun hi => optW (boundOf σ mx) (K := ⟨fun mx =>
      andW (rowsOk sz rows ∧ 0 ≤ lo.getD 0 ∧ lo.getD 0 ≤ hi.getD rows.length ∧ hi.getD rows.length ≤ mx.getD rows.length ∧ mx.getD rows.length ≤ rows.length) (K := ⟨
      K (.c (if mx.isSome = true ∧ mx = hi then .tsl ((rows.take (hi.getD rows.length).toNat).drop (lo.getD 0).toNat) else .pure (.slice ((rows.take (hi.getD rows.length).toNat).drop (lo.getD 0).toNat)))) σ⟩)⟩)⟩)⟩)⟩)
  | .slcS x lo hi => match x.ev σ.fr, boundOf σ lo, boundOf σ hi with
    | .c (.pure (.val (.string s))), some lo, some hi => andW (0 ≤ lo.getD 0 ∧ lo.getD 0 ≤ hi.getD s.size ∧ hi.getD s.size ≤ s.size) (K := ⟨
      K (.c (.pure (.val (.string (s.extract (lo.getD 0).toNat (hi.getD s.size).toNat))))) σ⟩)
    | _, _, _ => False
  | .ext x i => match x.ev σ.fr with
    | .tup vs => optW vs[i]? (K := ⟨fun v => K v σ⟩)
    | _ => False
  | .len x => match x.ev σ.fr with
    | .c (.pure (.slice rows)) | .c (.tsl rows) => K (.c (.pure (.val (.int .i64 rows.length)))) σ
    | .c .nils => K (.c (.pure (.val (.int .i64 0)))) σ
    | .c (.ref nm) => match findB σ.mem nm with
      | some (.arr _ _ rows) => K (.c (.pure (.val (.int .i64 rows.length)))) σ
      | _ => False
    | _ => False
  | .lenS x => match x.ev σ.fr with
    | .c (.pure (.val (.string s))) => K (.c (.pure (.val (.int .i64 s.size)))) σ
    | _ => False
  | .mm mx x y => match x.ev σ.fr, y.ev σ.fr with
    | .c (.pure (.val (.int k a))), .c (.pure (.val (.int _ b))) => K (.c (.pure (.val (.int k (if mx = true then max a b else min a b))))) σ
    | _, _ => False
  | .fnil neg x => match x.ev σ.fr with
    | .c (.clo _ _) => K (.c (.pure (.val (.bool neg)))) σ
    | .c (.pure (.val .nilFunc)) => K (.c (.pure (.val (.bool (!neg))))) σ
    | _ => False
  | .app e sz bytes x y => optW (rowsOf? σ.mem (y.ev σ.fr)) (K := ⟨fun ys => appW e sz bytes (x.ev σ.fr) (y.ev σ.fr) ys σ (K := ⟨K⟩)⟩)
  | .mkfn f caps => mkfnW σ caps [] fun xs => K (.c (.clo f xs)) σ
  | .call g f args => match f.ev σ.fr with
    | .c (.clo f caps) => callW P g f (args.map (·.ev σ.fr) ++ caps.map .c) σ (K := ⟨K⟩)
    | _ => False
  | .bsliceF sz rows => bsliceFW σ sz rows σ.mem [] fun rs mem => K (.c (.tsl rs)) { σ with mem := mem }
  | .mkmap kt n => K (.c (.mref σ.nx)) { σ with mem := (σ.nx, .map kt n []) :: σ.mem, nx := σ.nx + 1 }
  | .mget kt n zero ok m k => match k.ev σ.fr with
    | .c (.pure (.val kv)) => optW (mkOf kt kv) (K := ⟨fun mk => match m.ev σ.fr with
      | .c (.mref nm) => match findB σ.mem nm with
        | some (.map kt' n' ents) => andW (kt' = kt ∧ n' = n) (K := ⟨caseW (mlook ents mk) (A := ⟨fun ps => K (if ok = true then .tup [mval n ps, .c (.pure (.val (.bool true)))] else mval n ps) σ⟩)
          (B := ⟨K (if ok = true then .tup [mval n zero, .c (.pure (.val (.bool false)))] else mval n zero) σ⟩)⟩)
        | _ => False
      | _ => False⟩)
    | _ => False
  | .mput kt n m k v => match k.ev σ.fr with
    | .c (.pure (.val kv)) => optW (mkOf kt kv) (K := ⟨fun mk => match m.ev σ.fr with
      | .c (.mref nm) => optW (mcells n (v.ev σ.fr)) (K := ⟨fun ys => optW (frzAs σ.mem ys) (K := ⟨fun z => match findB z.2 nm with
        | some (.map kt' n' ents) => andW (kt' = kt ∧ n' = n) (K := ⟨K (.tup []) { σ with mem := setB z.2 nm (.map kt n (mset ents mk z.1)) }⟩)
        | _ => False⟩)⟩)
      | _ => False⟩)
    | _ => False
where
  boundOf (σ : St) : Option AX → Option (Option Int)
    | none => some none
    | some x => match x.ev σ.fr with
      | .c (.pure (.val (.int _ i))) => some (some i)
      | _ => none
  buildW (σ : St) : List (Nat × Nat × AX) → List AC → (List AC → Prop) → Prop
    | [], acc, K => K acc
    | (off, n, x) :: r, acc, K => match (x.ev σ.fr).cells with
      | some ys => andW (ys.length = n ∧ off + n ≤ acc.length) (K := ⟨buildW σ r (over acc off ys) K⟩)
      | none => False
  bsliceW (σ : St) (sz : Nat) : List AX → List (List PC) → (List (List PC) → Prop) → Prop
    | [], acc, K => K acc
    | x :: r, acc, K => match (x.ev σ.fr).cells with
      | some ys => optW (pcAs ys) (K := ⟨fun zs => andW (ys.length = sz) (K := ⟨bsliceW σ sz r (acc ++ [zs]) K⟩)⟩)
      | none => False
  bsliceFW (σ : St) (sz : Nat) : List AX → List (Nat × Box) → List (List PC) → (List (List PC) → List (Nat × Box) → Prop) → Prop
    | [], mem, acc, K => K acc mem
    | x :: r, mem, acc, K => match (x.ev σ.fr).cells with
      | some ys => optW (frzAs mem ys) (K := ⟨fun z => andW (ys.length = sz) (K := ⟨bsliceFW σ sz r z.2 (acc ++ [z.1]) K⟩)⟩)
      | none => False
  mkfnW (σ : St) : List AX → List AC → (List AC → Prop) → Prop
    | [], acc, K => K acc
    | x :: r, acc, K => match x.ev σ.fr with
      | .c y => mkfnW σ r (acc ++ [y]) K
      | _ => False

def opsW (P : Program) : List AG → St → (St → Prop) → Prop
  | [], σ, K => K σ
  | g :: r, σ, K => match g.guard with
    | none => opW P g.op σ fun v σ' => opsW P r (σ'.put g.dst v) K
    | some (t, want) => match look σ.fr t with
      | .c (.pure (.val (.bool b))) => condW (b == want) (A := ⟨opW P g.op σ fun v σ' => opsW P r (σ'.put g.dst v) K⟩) (B := ⟨opsW P r (σ.put g.dst (.tup [])) K⟩)
      | .tup [] => opsW P r (σ.put g.dst (.tup [])) K
      | _ => False
end Go.Abs
