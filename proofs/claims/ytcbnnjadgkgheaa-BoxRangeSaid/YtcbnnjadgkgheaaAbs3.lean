/- The abstract machine: the model's code brought into its form. -/
import Derived.Test.YtcbnnjadgkgheaaAbs2
set_option linter.unusedVariables false
set_option linter.unusedSimpArgs false
namespace Go.Abs
open Go.RowKit

def cellOf : Value → Option AC
  | .slice none 0 0 => some .nils
  | v => if scalar v then some (.pure (.val v)) else none
def cellsOf : List Value → Option (List AC)
  | [] => some []
  | v :: r => match cellOf v, cellsOf r with
    | some x, some xs => some (x :: xs)
    | _, _ => none
def pcellOf : Value → Option PC
  | .slice none 0 0 => some (.slice [])
  | v => if scalar v then some (.val v) else none
def pcellsOf : List Value → Option (List PC)
  | [] => some []
  | v :: r => match pcellOf v, pcellsOf r with
    | some x, some xs => some (x :: xs)
    | _, _ => none
def constOf : Value → Option AV
  | .agg vs => (cellsOf vs.toList).map .agg
  | .tuple vs => if vs.size = 0 then some (.tup []) else none
  | v => (cellOf v).map .c

def compX : Operand → Option AX
  | .tmp t => some (.t t)
  | .const v => (constOf v).map .k
  | .func f => some (.k (.c (.clo f [])))
  | .global _ => none
def compXs : List Operand → Option (List AX)
  | [] => some []
  | x :: r => match compX x, compXs r with
    | some y, some ys => some (y :: ys)
    | _, _ => none

/-- The layout of a type: none: one cell; some n: n cells in a row. -/
def rowOf (P : Program) (t : TypeId) : Option (Option Nat) :=
  match P.underlying t, P.info? t with
  | some (.struct _), some i => some (some i.size)
  | some (.array _ _), some i => some (some i.size)
  | some _, some i => if i.size = 1 then some none else none
  | _, _ => none
/-- The element of a slice type: its number, its cells, its bytes. -/
def elemOf? (P : Program) (t : TypeId) : Option (TypeId × Nat × Nat) :=
  match P.underlying t with
  | some (.slice e) => (P.info? e).map fun i => (e, i.size, i.bytes)
  | _ => none
def zeroOf (P : Program) (t : TypeId) : Option Value := (P.info? t).bind (·.zero)
def fieldOf (P : Program) (s : TypeId) (f : Nat) : Option Field :=
  match P.underlying s with
  | some (.struct fs) => fs[f]?
  | _ => none
def sizeOf? (P : Program) (t : TypeId) : Option Nat := (P.info? t).map (·.size)
def isStr (P : Program) (t : TypeId) : Bool := match P.underlying t with | some .string => true | _ => false
def isBool (P : Program) (t : TypeId) : Bool := match P.underlying t with | some .bool => true | _ => false

def isFunc (P : Program) (t : TypeId) : Bool := match P.underlying t with | some (.func _ _ _) => true | _ => false
def isNilF : AX → Bool
  | .k (.c (.pure (.val .nilFunc))) => true
  | _ => false
def partsOf (places : List (Nat × Nat)) : List (Nat × Operand) → Option (List (Nat × Nat × AX))
  | [] => some []
  | (i, x) :: r => match places[i]?, compX x, partsOf places r with
    | some (off, n), some y, some ys => some ((off, n, y) :: ys)
    | _, _, _ => none
def placesOf (P : Program) (t : TypeId) : Option (List (Nat × Nat)) :=
  match P.underlying t with
  | some (.struct fs) => fs.toList.mapM fun f => (P.info? f.type).map fun i => (f.offset, i.size)
  | _ => none
/-- The rows of a literal: each place once, in order. -/
def rowsOf : Nat → List (Nat × Operand) → Option (List AX)
  | _, [] => some []
  | k, (i, x) :: r => if i = k then match compX x, rowsOf (k + 1) r with
    | some y, some ys => some (y :: ys)
    | _, _ => none else none
/-- The key's kind and the element's layout of a map type. -/
def mapOf? (P : Program) (t : TypeId) : Option (KT × TypeId × Option Nat) :=
  match P.underlying t with
  | some (.map k e) => match P.underlying k, rowOf P e with
    | some (.int i), some n => some (.int i, e, n)
    | some .string, some n => some (.str, e, n)
    | some .bool, some n => some (.bool, e, n)
    | _, _ => none
  | _ => none
/-- The zero value of a map's elements. -/
def zeroPs (n : Option Nat) (z : Value) : Option (List PC) :=
  match n with
  | none => match pcellOf z with
    | some p => some [p]
    | none => none
  | some _ => match z with
    | .agg vs => pcellsOf vs.toList
    | _ => none
def holdsSlice : List PC → Bool
  | [] => false
  | .slice _ :: _ => true
  | _ :: r => holdsSlice r
/-- The elements hold slices. -/
def deepElem (P : Program) (e : TypeId) : Bool :=
  match (zeroOf P e).bind fun z => pcellsOf z.cells.toList with
  | some zs => holdsSlice zs
  | none => false
def compO? : Option Operand → Option (Option AX)
  | none => some none
  | some x => (compX x).map some

def compOp (P : Program) (dr : Bool) : Op → Option AOp
  | .move x | .assign x => (compX x).map .mv
  | .pick c a b => match compX c, compX a, compX b with
    | some c, some a, some b => some (.pick c a b)
    | _, _, _ => none
  | .alloc t => ((zeroOf P t).bind constOf).map fun v => .box (.k v)
  | .box _ x => (compX x).map .box
  | .build t parts => match (zeroOf P t).bind (fun z => cellsOf z.cells.toList), (placesOf P t).bind (partsOf · parts.toList) with
    | some z, some ps => some (.build z ps)
    | _, _ => none
  | .buildSlice t n parts => match elemOf? P t, rowsOf 0 parts.toList with
    | some (e, sz, _), some rs => if rs.length = n ∧ n * sz ≤ 16777216 ∧ 0 < sz ∧ ((zeroOf P e).map fun z => decide (z.cells.size = sz)) = some true then some (if (!dr && deepElem P e) = true then .bsliceF sz rs else .bslice sz rs) else none
    | _, _ => none
  | .load t p => match rowOf P t, compX p with
    | some n, some p => some (.load n p)
    | _, _ => none
  | .store t p v => match sizeOf? P t, compX p, compX v with
    | some n, some p, some v => some (.store n p v)
    | _, _, _ => none
  | .binOp op t x y _ => match compX x, compX y with
    | some x, some y => match op with
      | .eql => if isBool P t then some (.eqb false x y) else if isFunc P t then (if isNilF y then some (.fnil false x) else none) else some (.bin .eql x y)
      | .neq => if isBool P t then some (.eqb true x y) else if isFunc P t then (if isNilF y then some (.fnil true x) else none) else some (.bin .neq x y)
      | op => some (.bin op x y)
    | _, _ => none
  | .unOp op _ x => (compX x).map (.un op)
  | .convert s d x => match P.underlying s, P.underlying d, compX x with
    | some (.int _), some (.int k), some x => some (.conv k x)
    | _, _, _ => none
  | .nilCheck x => (compX x).map .nilc
  | .slice t x lo' hi' mx' => match P.underlying t, compX x, compO? lo', compO? hi', compO? mx' with
    | some (.slice _), some x, some lo, some hi, some mx => match elemOf? P t with
      | some (_, sz, _) => if 0 < sz ∧ (mx'.isSome = true → hi'.isSome = true) then some (.slc sz x lo hi mx) else none
      | none => none
    | some .string, some x, some lo, some hi, some none => some (.slcS x lo hi)
    | _, _, _, _, _ => none
  | .fieldAddr s x f => match fieldOf P s f, compX x with
    | some fd, some x => if (sizeOf? P fd.type).getD 0 = 0 then none else some (.fieldA fd.offset x)
    | _, _ => none
  | .field s x f => match fieldOf P s f, compX x with
    | some fd, some x => (rowOf P fd.type).map fun n => .field fd.offset n x
    | _, _ => none
  | .indexAddr t x i => match elemOf? P t, compX x, compX i with
    | some (_, sz, _), some x, some i => some (.idxA sz x i)
    | none, some x, some i => match P.underlying t with
      | some (.array n e) => (sizeOf? P e).map fun sz => .idxR n sz x i
      | _ => none
    | _, _, _ => none
  | .index t x i => if isStr P t then match compX x, compX i with
    | some x, some i => some (.idxS x i)
    | _, _ => none else none
  | .makeSlice t l c => match elemOf? P t, compX l, compX c with
    | some (e, sz, bytes), some (.t a), some (.t b) => if a = b ∧ 0 < sz ∧ ((zeroOf P e).map fun z => decide (z.cells.size = sz)) = some true then ((zeroOf P e).bind fun z => pcellsOf z.cells.toList).map fun z => .mkslice e sz bytes z (.t a) else none
    | _, _, _ => none
  | .extract x i => (compX x).map fun x => .ext x i
  | .makeFunc (.func f) first caps => if first.size = 0 then (compXs caps.toList).map (.mkfn f) else none
  | .call { callee := .builtin .len, args, argTypes } => match args.toList, argTypes.toList with
    | [x], [t] => match compX x, P.underlying t with
      | some x, some (.slice _) => some (.len x)
      | some x, some .string => some (.lenS x)
      | _, _ => none
    | _, _ => none
  | .call { callee := .builtin .min, args, .. } => match args.toList with
    | [x, y] => match compX x, compX y with
      | some x, some y => some (.mm false x y)
      | _, _ => none
    | _ => none
  | .call { callee := .builtin .max, args, .. } => match args.toList with
    | [x, y] => match compX x, compX y with
      | some x, some y => some (.mm true x y)
      | _, _ => none
    | _ => none
  | .call { callee := .builtin .append, args, argTypes } => match args.toList, argTypes.toList with
    | [x, y], [t, u] => if t = u then match elemOf? P t, compX x, compX y with
      | some (e, sz, bytes), some x, some y => if 0 < sz ∧ ((zeroOf P e).map fun z => decide (z.cells.size = sz)) = some true then some (.app e sz bytes x y) else none
      | _, _, _ => none else none
    | _, _ => none
  | .call { callee := .value f, args, .. } => match compX f, compXs args.toList with
    | some f, some xs => some (.call (!dr) f xs)
    | _, _ => none
  | .makeMap t none => match mapOf? P t with
    | some (kt, _, n) => some (.mkmap kt n)
    | none => none
  | .lookup t m k ok => match mapOf? P t, compX m, compX k with
    | some (kt, e, n), some m, some k => ((zeroOf P e).bind (zeroPs n)).map fun z => .mget kt n z ok m k
    | _, _, _ => none
  | .mapUpdate t m k v | .insert t m k v => match mapOf? P t, compX m, compX k, compX v with
    | some (kt, _, n), some m, some k, some v => some (.mput kt n m k v)
    | _, _, _, _ => none
  | _ => none

def fitD (nt : Nat) : Option Nat → Bool
  | some d => decide (d < nt)
  | none => true
def compG (P : Program) (dr : Bool) (nt : Nat) (ops : Array Oper) (o : Oper) : Option AG :=
  if fitD nt o.dst = false then none else match compOp P dr o.op with
  | some ao => match o.guard with
    | none => some ⟨o.dst, none, ao⟩
    | some (j, want) => match (ops[j]?).bind (·.dst) with
      | some t => some ⟨o.dst, some (t, want), ao⟩
      | none => none
  | none => none
def compGs (P : Program) (dr : Bool) (nt : Nat) (ops : Array Oper) : List Oper → Option (List AG)
  | [] => some []
  | o :: r => match compG P dr nt ops o, compGs P dr nt ops r with
    | some g, some gs => some (g :: gs)
    | _, _ => none

/-- The slots that an operand names. -/
def AX.tmps : AX → List Nat
  | .t n => [n]
  | .k _ => []
def oTmps : Option AX → List Nat
  | none => []
  | some x => x.tmps
def psTmps : List (Nat × Nat × AX) → List Nat
  | [] => []
  | (_, _, x) :: r => x.tmps ++ psTmps r
def xsTmps : List AX → List Nat
  | [] => []
  | x :: r => x.tmps ++ xsTmps r
def AOp.tmps : AOp → List Nat
  | .mv x | .box x | .load _ x | .un _ x | .conv _ x | .fieldA _ x | .field _ _ x | .nilc x | .mkslice _ _ _ _ x | .ext x _ | .len x | .lenS x | .fnil _ x => x.tmps
  | .pick c a b => c.tmps ++ a.tmps ++ b.tmps
  | .store _ x y | .bin _ x y | .eqb _ x y | .idxA _ x y | .idxR _ _ x y | .idxS x y | .app _ _ _ x y | .mm _ x y => x.tmps ++ y.tmps
  | .build _ ps => psTmps ps
  | .bslice _ xs | .mkfn _ xs | .bsliceF _ xs => xsTmps xs
  | .slc _ x l h m => x.tmps ++ oTmps l ++ oTmps h ++ oTmps m
  | .slcS x l h => x.tmps ++ oTmps l ++ oTmps h
  | .call _ f xs => f.tmps ++ xsTmps xs
  | .mkmap _ _ => []
  | .mget _ _ _ _ m k => m.tmps ++ k.tmps
  | .mput _ _ m k v => m.tmps ++ k.tmps ++ v.tmps
/-- It changes the memory of the call's own. -/
def AOp.eff : AOp → Bool
  | .box _ | .store .. | .mkslice .. | .app .. | .bsliceF .. | .mkmap .. | .mput .. => true
  | .call g _ _ => g
  | _ => false
/-- It looks at that memory. -/
def AOp.sens : AOp → Bool
  | .load .. | .idxA .. | .len _ | .slc .. | .call .. | .mget .. => true
  | _ => false

/-! Orders. -/

def maskOf (acc : List Nat) : List Edge → Nat
  | [] => 0
  | e :: r => if Region.binds .any e then (2 ^ e.on ||| (acc[e.on]?).getD 0) ||| maskOf acc r else maskOf acc r
def masks : List Oper → List Nat → List Nat
  | [], acc => acc
  | o :: r, acc => masks r (acc ++ [maskOf acc o.after.toList])
def AG.looks (g : AG) : List Nat := (match g.guard with | some (t, _) => [t] | none => []) ++ g.op.tmps
def clash (g h : AG) : Bool :=
  (match g.dst with | some d => h.looks.contains d || h.dst == some d | none => false) ||
  (match h.dst with | some d => g.looks.contains d | none => false) ||
  (g.op.eff && (h.op.eff || h.op.sens)) || (g.op.sens && h.op.eff)
def pairOk (gs : List AG) (m : List Nat) (i j : Nat) : Bool :=
  match gs[i]?, gs[j]?, m[j]? with
  | some g, some h, some k => !clash g h || k.testBit i
  | _, _, _ => false
def edgesOk : Nat → List Oper → Bool
  | _, [] => true
  | j, o :: r => (o.after.toList.all fun e => !Region.binds .any e || decide (e.on < j)) && edgesOk (j + 1) r
/-- Whatever the order, the outcome is that of the text's order. -/
def orderly (ops : List Oper) (gs : List AG) : Bool :=
  edgesOk 0 ops && (List.range gs.length).all fun j => (List.range j).all fun i => pairOk gs (masks ops []) i j

def compC (P : Program) (nt : Nat) : Code → Option ACode
  | .skip => some .skip
  | .region _ ops draw => (compGs P draw nt ops ops.toList).map fun gs => .region gs (draw && !(orderly ops.toList gs && P.follows .mixedOrders))
  | .seq a b => match compC P nt a, compC P nt b with
    | some a, some b => some (.seq a b)
    | _, _ => none
  | .cond c a b => match compX c, compC P nt a, compC P nt b with
    | some c, some a, some b => some (.cond c a b)
    | _, _, _ => none
  | .block id a => (compC P nt a).map (.block id)
  | .loop a => (compC P nt a).map .loop
  | .exit id => some (.exit id)
  | .scope a => none
  | .ret => some .ret
  | _ => none
end Go.Abs
