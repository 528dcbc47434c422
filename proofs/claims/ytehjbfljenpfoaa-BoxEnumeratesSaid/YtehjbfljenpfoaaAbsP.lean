/- The abstract machine: values, operations, soundness. -/
import Derived.WalkKit
import Derived.WalkSpells
import Derived.Below
import Derived.Lib.Space
import Derived.MapKept
import Derived.Carry
import Derived.Laws.StructEq
import Derived.ChangeKeysEq
import Derived.DeepKeys
set_option linter.unusedVariables false
set_option linter.unusedSimpArgs false
namespace Go.Abs
open Go.RowKit

inductive KT where
 | int (k : IntKind)
 | str
 | bool
inductive MK where
 | int (n : Int)
 | str (s : List UInt8)
 | bool (b : Bool)
 deriving DecidableEq
inductive PC where
 | val (v : Value)
 | slice (rows : List (List PC))
 | fmap (kt : KT) (n : Option Nat) (ents : List (MK × List PC))

inductive AC where
 | pure (p : PC)
 | nils
 | tsl (rows : List (List PC))
 | ptr (nm off : Nat)
 | eptr (nm sz row off : Nat)
 | cptr (cells : List PC)
 | ref (nm : Nat)
 | clo (f : FuncId) (caps : List AC)
 | mref (nm : Nat)
 | top

inductive AV where
 | c (x : AC)
 | agg (xs : List AC)
 | tup (xs : List AV)
 | top

def MK.val : KT → MK → Option Value
 | .int k, .int n => some (.int k n)
 | .str, .str s => some (.string ⟨⟨s⟩⟩)
 | .bool, .bool b => some (.bool b)
 | _, _ => none
def mkOf : KT → Value → Option MK
 | .int k, .int k' n => if k = k' then some (.int n) else none
 | .str, .string s => some (.str s.data.toList)
 | .bool, .bool b => some (.bool b)
 | _, _ => none

inductive Box where
 | var (xs : List AC)
 | arr (e sz : Nat) (rows : List (List PC))
 | arn (e sz : Nat) (rows : List (List AC))
 | map (kt : KT) (n : Option Nat) (ents : List (MK × List AC))

structure St where
 fr : List (Nat × AV)
 mem : List (Nat × Box)
 nx : Nat
 base : Nat

def scalar : Value → Bool
 | .bool _ | .int _ _ | .float _ _ | .string _ | .pointer none | .map none | .nilFunc | .nilIface | .func (.yield _) _ _ => true
 | _ => false

inductive All2 {α β : Type} (R : α → β → Prop) : List α → List β → Prop
 | nil : All2 R [] []
 | cons {a : α} {b : β} {as : List α} {bs : List β} (h : R a b) (t : All2 R as bs) : All2 R (a :: as) (b :: bs)

theorem All2.length {α β : Type} {R : α → β → Prop} {as : List α} {bs : List β} (h : All2 R as bs) : as.length = bs.length := by
 induction h with
 | nil => rfl
 | cons _ _ ih => simp [ih]
theorem All2.mono {α β : Type} {R S : α → β → Prop} {as : List α} {bs : List β} (h : All2 R as bs) (hs : ∀ a b, R a b → S a b) : All2 S as bs := by
 induction h with
 | nil => exact .nil
 | cons h _ ih => exact .cons (hs _ _ h) ih
theorem All2.get {α β : Type} {R : α → β → Prop} {as : List α} {bs : List β} (h : All2 R as bs) {i : Nat} {a : α} (ha : as[i]? = some a) : ∃ b, bs[i]? = some b ∧ R a b := by
 induction h generalizing i with
 | nil => simp at ha
 | cons h _ ih =>
  cases i with
  | zero => simp at ha; subst ha; exact ⟨_, rfl, h⟩
  | succ i => simp at ha; exact ih ha
theorem All2.of_get {α β : Type} {R : α → β → Prop} : ∀ {as : List α} {bs : List β}, as.length = bs.length → (∀ (i : Nat) a b, as[i]? = some a → bs[i]? = some b → R a b) → All2 R as bs
 | [], [], _, _ => .nil
 | a :: as, b :: bs, hl, h => .cons (h 0 a b rfl rfl) (All2.of_get (by simpa using hl) fun i x y hx hy => h (i + 1) x y hx hy)
theorem All2.append {α β : Type} {R : α → β → Prop} {as as' : List α} {bs bs' : List β} (h : All2 R as bs) (h' : All2 R as' bs') : All2 R (as ++ as') (bs ++ bs') := by
 induction h with
 | nil => exact h'
 | cons h _ ih => exact .cons h ih
theorem All2.drop {α β : Type} {R : α → β → Prop} {as : List α} {bs : List β} (h : All2 R as bs) (n : Nat) : All2 R (as.drop n) (bs.drop n) := by
 induction h generalizing n with
 | nil => simp; exact .nil
 | cons h t ih =>
  cases n with
  | zero => exact .cons h t
  | succ n => exact ih n
theorem All2.take {α β : Type} {R : α → β → Prop} {as : List α} {bs : List β} (h : All2 R as bs) (n : Nat) : All2 R (as.take n) (bs.take n) := by
 induction h generalizing n with
 | nil => simp; exact .nil
 | cons h t ih =>
  cases n with
  | zero => exact .nil
  | succ n => exact .cons h (ih n)

def entCs (n : Option Nat) (v : Value) : List Value := match n, v with
 | none, v => [v]
 | some _, .agg vs => vs.toList
 | some _, _ => []
inductive RepP (w : World) (U : Nat → Prop) : PC → Value → Prop
 | val {v : Value} (h : scalar v = true) : RepP w U (.val v) v
 | slice {sz : Nat} {rows : List (List PC)} {a : Option Addr} {n c : Nat} (g : Nat → Nat → Value) (hn : n = rows.length) (hc : n ≤ c) (hm : n ≤ 9223372036854775807)
   (hr : ∀ (i : Nat) row, rows[i]? = some row → row.length = sz)
   (hcell : ∀ (i : Nat) (row : List PC) (j : Nat) p, rows[i]? = some row → row[j]? = some p → ∃ b off, a = some ⟨b, off, none⟩ ∧ U b ∧ w.cell? ⟨b, off + (i * sz + j), none⟩ = some (g i j))
   (hp : ∀ (i : Nat) (row : List PC) (j : Nat) p, rows[i]? = some row → row[j]? = some p → RepP w U p (g i j)) : RepP w U (.slice rows) (.slice a n c)
 | fmap {kt : KT} {n : Option Nat} {ents : List (MK × List PC)} {b clock : Nat} {es : Array MapEntry} (hb : U b) (hm : w.heap[b]? = some (.map es clock)) (hl : ents.length = es.size)
   (hk : ∀ (i : Nat) x e, ents[i]? = some x → es.toList[i]? = some e → x.1.val kt = some e.key ∧ (n.isSome = true → ∃ vs, e.val = .agg vs) ∧ x.2.length = (entCs n e.val).length)
   (hp : ∀ (i : Nat) x e (j : Nat) p v, ents[i]? = some x → es.toList[i]? = some e → x.2[j]? = some p → (entCs n e.val)[j]? = some v → RepP w U p v) : RepP w U (.fmap kt n ents) (.map (some b))

theorem RepP.mono {w w' : World} {U U' : Nat → Prop} {p : PC} {v : Value} (h : RepP w U p v) (hU : ∀ b, b < w.heap.size → U b → U' b)
  (hw : ∀ b, b < w.heap.size → U b → w'.heap[b]? = w.heap[b]?) : RepP w' U' p v := by
 induction h with
 | val h => exact .val h
 | slice g hn hc hm hr hcell hp ih =>
  refine .slice g hn hc hm hr (fun i row j p h1 h2 => ?_) ih
  obtain ⟨b, off, ha, hb, hcl⟩ := hcell i row j p h1 h2
  have hlt : b < w.heap.size := World.block_lt_of_cell? w _ hcl
  exact ⟨b, off, ha, hU b hlt hb, by rw [World.cell?_of_block (hw b hlt hb)]; exact hcl⟩
 | fmap hb hm hl hk hp ih =>
  have hlt := (Array.getElem?_eq_some_iff.1 hm).1
  exact .fmap (hU _ hlt hb) (by rw [hw _ hlt hb]; exact hm) hl hk ih

abbrev Pl := Nat → Value

inductive RepA (w : World) (U : Nat → Prop) (ι : Pl) (N : Nat) : AC → Value → Prop
 | pure {p : PC} {v : Value} (h : RepP w U p v) : RepA w U ι N (.pure p) v
 | nils : RepA w U ι N .nils (.slice none 0 0)
 | tsl {rows : List (List PC)} {a : Option Addr} {n : Nat} (h : RepP w U (.slice rows) (.slice a n n)) : RepA w U ι N (.tsl rows) (.slice a n n)
 | ptr {nm off b : Nat} (hn : nm < N) (h : ι nm = .pointer (some ⟨b, 0, none⟩)) : RepA w U ι N (.ptr nm off) (.pointer (some ⟨b, off, none⟩))
 | eptr {nm sz row off b n c : Nat} (hn : nm < N) (h : ι nm = .slice (some ⟨b, 0, none⟩) n c) : RepA w U ι N (.eptr nm sz row off) (.pointer (some ⟨b, row * sz + off, none⟩))
 | cptr {cells : List PC} {b off : Nat} (g : Nat → Value) (hcell : ∀ (j : Nat) p, cells[j]? = some p → U b ∧ w.cell? ⟨b, off + j, none⟩ = some (g j) ∧ RepP w U p (g j)) : RepA w U ι N (.cptr cells) (.pointer (some ⟨b, off, none⟩))
 | ref {nm : Nat} (hn : nm < N) (h : ∃ a n c, ι nm = .slice a n c) : RepA w U ι N (.ref nm) (ι nm)
 | clo {f : FuncId} {caps : List AC} {vs : Array Value} (hl : caps.length = vs.size) (h : ∀ (i : Nat) x, caps[i]? = some x → RepA w U ι N x (vs.toList[i]?.getD undef)) : RepA w U ι N (.clo f caps) (.func (.func f) #[] vs)
 | mref {nm b : Nat} (hn : nm < N) (h : ι nm = .map (some b)) : RepA w U ι N (.mref nm) (.map (some b))
 | top {v : Value} (h : v.oneCell' = true) : RepA w U ι N .top v

inductive RepV (w : World) (U : Nat → Prop) (ι : Pl) (N : Nat) : AV → Value → Prop
 | c {x : AC} {v : Value} (h : RepA w U ι N x v) : RepV w U ι N (.c x) v
 | agg {xs : List AC} {vs : Array Value} (h : All2 (RepA w U ι N) xs vs.toList) : RepV w U ι N (.agg xs) (.agg vs)
 | tup {xs : List AV} {vs : Array Value} (hl : xs.length = vs.size) (h : ∀ (i : Nat) x, xs[i]? = some x → RepV w U ι N x (vs.toList[i]?.getD undef)) : RepV w U ι N (.tup xs) (.tuple vs)
 | top {v : Value} : RepV w U ι N .top v

end Go.Abs

set_option linter.unusedVariables false
set_option linter.unusedSimpArgs false
namespace Go.Abs
open Go.RowKit

inductive AX where
 | t (n : Nat)
 | k (v : AV)

inductive ET where
 | int (k : IntKind)
 | str
 | bool
inductive AOp where
 | mv (x : AX)
 | pick (c a b : AX)
 | box (x : AX)
 | load (n : Option Nat) (p : AX)
 | store (n : Nat) (p v : AX)
 | bin (op : BinOp) (x y : AX)
 | eqb (neg : Bool) (x y : AX)
 | eqs (neg : Bool) (l : List ET) (x y : AX)
 | un (op : UnOp) (x : AX)
 | conv (k : IntKind) (x : AX)
 | fieldA (off : Nat) (p : AX)
 | field (off : Nat) (n : Option Nat) (x : AX)
 | idxA (sz : Nat) (x i : AX)
 | idxR (len sz : Nat) (x i : AX)
 | idxS (x i : AX)
 | nilc (x : AX)
 | build (zero : List AC) (parts : List (Nat × Nat × AX))
 | bslice (sz : Nat) (rows : List AX)
 | mkslice (e sz bytes : Nat) (zero : List PC) (l : AX)
 | slc (sz : Nat) (x : AX) (lo hi mx : Option AX)
 | slcS (x : AX) (lo hi : Option AX)
 | ext (x : AX) (i : Nat)
 | len (x : AX)
 | lenS (x : AX)
 | mm (mx : Bool) (x y : AX)
 | mm4 (x y z t : AX)
 | dead
 | fnil (neg : Bool) (x : AX)
 | snil (neg : Bool) (x : AX)
 | app (e sz bytes : Nat) (x y : AX)
 | mkfn (f : FuncId) (caps : List AX)
 | call (g z : Bool) (f : AX) (args : List AX)
 | bsliceF (sz : Nat) (rows : List AX)
 | mkmap (kt : KT) (n : Option Nat)
 | mget (kt : KT) (n : Option Nat) (zero : List AC) (ok : Bool) (m k : AX)
 | mput (kt : KT) (n : Option Nat) (m k v : AX)
 | ment (kt : KT) (n : Option Nat) (zero : List AC) (m k : AX)
 | eput (kt : KT) (n : Option Nat) (m s v : AX)

structure AG where
 dst : Option Nat
 guard : Option (Nat × Bool)
 op : AOp

inductive ACode where
 | skip
 | region (ops : List AG) (draw : Bool)
 | draw (gss : List (List (Bool × AG)))
 | seq (a b : ACode)
 | cond (c : AX) (thn els : ACode)
 | block (id : Nat) (body : ACode)
 | loop (body : ACode)
 | exit (id : Nat)
 | ret
 | rangeF (f : AX) (ps : List Nat) (asg body : ACode)

def look : List (Nat × AV) → Nat → AV
 | [], _ => .top
 | (m, v) :: r, n => if m = n then v else look r n
def St.put (σ : St) : Option Nat → AV → St
 | some d, v => { σ with fr := (d, v) :: σ.fr }
 | none, _ => σ
def findB : List (Nat × Box) → Nat → Option Box
 | [], _ => none
 | (m, b) :: r, n => if m = n then some b else findB r n
def delB : List (Nat × Box) → Nat → List (Nat × Box)
 | [], _ => []
 | (m, b) :: r, n => if m = n then delB r n else (m, b) :: delB r n
def setB : List (Nat × Box) → Nat → Box → List (Nat × Box)
 | [], _, _ => []
 | (m, b) :: r, n, c => if m = n then (m, c) :: r else (m, b) :: setB r n c
def AX.ev (fr : List (Nat × AV)) : AX → AV
 | .t n => look fr n
 | .k v => v
def AV.cells : AV → Option (List AC)
 | .c x => some [x]
 | .agg xs => some xs
 | _ => none
def over {α : Type} (xs : List α) (off : Nat) (ys : List α) : List α := xs.take off ++ ys ++ xs.drop (off + ys.length)

def eqOk : List ET → List AC → List AC → Prop
 | [], [], [] => True
 | .int k :: l, .pure (.val (.int k1 _)) :: xs, .pure (.val (.int k2 _)) :: ys => k1 = k ∧ k2 = k ∧ eqOk l xs ys
 | .str :: l, .pure (.val (.string _)) :: xs, .pure (.val (.string _)) :: ys => eqOk l xs ys
 | .bool :: l, .pure (.val (.bool _)) :: xs, .pure (.val (.bool _)) :: ys => eqOk l xs ys
 | _, _, _ => False
def eqP : List AC → List AC → Prop
 | .pure (.val (.int _ a)) :: xs, .pure (.val (.int _ b)) :: ys => a = b ∧ eqP xs ys
 | .pure (.val (.string a)) :: xs, .pure (.val (.string b)) :: ys => a = b ∧ eqP xs ys
 | .pure (.val (.bool a)) :: xs, .pure (.val (.bool b)) :: ys => a = b ∧ eqP xs ys
 | _, _ => True
noncomputable def dec (p : Prop) : Bool := @decide p (Classical.propDecidable p)
class Blk (α : Type) where
 out : α
def andW (p : Prop) [K : Blk Prop] : Prop := p ∧ K.out
def optW {α : Type} (o : Option α) [K : Blk (α → Prop)] : Prop := ∃ x, o = some x ∧ K.out x
def condW (t : Bool) [A : Blk Prop] [B : Blk Prop] : Prop := (t = true → A.out) ∧ (t = false → B.out)
theorem andW_of {p : Prop} {K : Blk Prop} (h : p) : @andW p K = K.out := propext ⟨fun h => h.2, fun k => ⟨h, k⟩⟩
theorem andW_true {K : Blk Prop} : @andW True K = K.out := andW_of trivial
theorem optW_some {α : Type} {x : α} {K : Blk (α → Prop)} : @optW _ (some x) K = K.out x := propext ⟨fun ⟨_, e, k⟩ => by cases e; exact k, fun k => ⟨x, rfl, k⟩⟩
theorem condW_true {A B : Blk Prop} : @condW true A B = A.out := propext ⟨fun h => h.1 rfl, fun a => ⟨fun _ => a, (fun e => by cases e)⟩⟩
theorem condW_false {A B : Blk Prop} : @condW false A B = B.out := propext ⟨fun h => h.2 rfl, fun a => ⟨(fun e => by cases e), fun _ => a⟩⟩
def caseW {α : Type} (o : Option α) [A : Blk (α → Prop)] [B : Blk Prop] : Prop := (∀ x, o = some x → A.out x) ∧ (o = none → B.out)
theorem caseW_some {α : Type} {x : α} {A : Blk (α → Prop)} {B : Blk Prop} : @caseW _ (some x) A B = A.out x := propext ⟨fun h => h.1 x rfl, fun a => ⟨fun y e => by cases e; exact a, (fun e => by cases e)⟩⟩
theorem caseW_none {α : Type} {A : Blk (α → Prop)} {B : Blk Prop} : @caseW α none A B = B.out := propext ⟨fun h => h.2 rfl, fun b => ⟨(fun x e => by cases e), fun _ => b⟩⟩
theorem caseW_intro {α : Type} {o : Option α} {A : Blk (α → Prop)} {B : Blk Prop} (h1 : ∀ x, o = some x → A.out x) (h2 : o = none → B.out) : @caseW α o A B := ⟨h1, h2⟩
def nilW (rows : List (List PC)) [A : Blk Prop] [B : Blk Prop] : Prop := ((∀ r ∈ rows, r = []) → A.out) ∧ B.out
theorem nilW_cons {p : PC} {r : List PC} {rows : List (List PC)} {A B : Blk Prop} : @nilW ((p :: r) :: rows) A B = B.out := propext ⟨fun h => h.2, fun h => ⟨(fun e => by cases e _ List.mem_cons_self), h⟩⟩
theorem nilW_intro {rows : List (List PC)} {A B : Blk Prop} (h1 : (∀ r ∈ rows, r = []) → A.out) (h2 : B.out) : @nilW rows A B := ⟨h1, h2⟩
theorem condW_intro {t : Bool} {A B : Blk Prop} (h1 : t = true → A.out) (h2 : t = false → B.out) : @condW t A B := ⟨h1, h2⟩

def rowsOk (sz : Nat) (rows : List (List PC)) : Prop := ∀ r ∈ rows, r.length = sz

def pcA : AC → Option PC
 | .pure p => some p
 | .nils => some (.slice [])
 | .tsl rows => some (.slice rows)
 | _ => none
def pcAs : List AC → Option (List PC)
 | [] => some []
 |x :: xs => match pcA x, pcAs xs with
  | some y, some ys => some (y :: ys)
  | _, _ => none
def frzA (mem : List (Nat × Box)) : AC → Option (PC × List (Nat × Box))
 | .pure p => some (p, mem)
 | .nils => some (.slice [], mem)
 | .tsl rows => some (.slice rows, mem)
 |.ref nm => match findB mem nm with
  | some (.arr _ _ rows) => some (.slice rows, delB mem nm)
  | _ => none
 | _ => none
def frzAs (mem : List (Nat × Box)) : List AC → Option (List PC × List (Nat × Box))
 | [] => some ([], mem)
 |x :: xs => match frzA mem x with
  |some (y, mem) => match frzAs mem xs with
   | some (ys, mem) => some (y :: ys, mem)
   | none => none
  | none => none
def purQ (mem : List (Nat × Box)) : AC → Option PC
 | .pure p => some p
 | .nils => some (.slice [])
 | .tsl rows => some (.slice rows)
 |.ref nm => match findB mem nm with
  | some (.arr _ _ rows) => some (.slice rows)
  | _ => none
 | _ => none
def purQs (mem : List (Nat × Box)) : List AC → Option (List PC)
 | [] => some []
 |x :: xs => match purQ mem x, purQs mem xs with
  | some y, some ys => some (y :: ys)
  | _, _ => none
def purEnt (mem : List (Nat × Box)) : Option Nat → List AC → Option (List PC)
 |none, p :: _ => match purQ mem p with
  | some q => some [q]
  | none => none
 | none, [] => none
 | some _, ps => purQs mem ps
def purEs (mem : List (Nat × Box)) (n : Option Nat) : List (MK × List AC) → Option (List (MK × List PC))
 | [] => some []
 |x :: r => match purEnt mem n x.2, purEs mem n r with
  | some ps, some es => some ((x.1, ps) :: es)
  | _, _ => none
def purP (mem : List (Nat × Box)) : AC → Option PC
 |.mref nm => match findB mem nm with
  |some (.map kt n ents) => match purEs mem n ents with
   | some es => some (.fmap kt n es)
   | none => none
  | _ => none
 | x => purQ mem x
def purPs (mem : List (Nat × Box)) : List AC → Option (List PC)
 | [] => some []
 |x :: xs => match purP mem x, purPs mem xs with
  | some y, some ys => some (y :: ys)
  | _, _ => none
def purC (mem : List (Nat × Box)) : AC → Option AC
 | .pure p => some (.pure p)
 | .nils => some (.pure (.slice []))
 | .tsl rows => some (.pure (.slice rows))
 |.ref nm => match findB mem nm with
  | some (.arr _ _ rows) => some (.pure (.slice rows))
  | _ => none
 | .cptr cells => some (.cptr cells)
 |.ptr nm off => match findB mem nm with
  |some (.var xs) => match purPs mem xs with
   | some ps => some (.cptr (ps.drop off))
   | none => none
  | _ => none
 |.mref nm => match findB mem nm with
  |some (.map kt n ents) => match purEs mem n ents with
   | some es => some (.pure (.fmap kt n es))
   | none => none
  | _ => none
 | _ => none
def purCs (mem : List (Nat × Box)) : List AC → Option (List AC)
 | [] => some []
 |x :: xs => match purC mem x, purCs mem xs with
  | some y, some ys => some (y :: ys)
  | _, _ => none
def purA (mem : List (Nat × Box)) : AC → Option AC
 |.clo f caps => match purCs mem caps with
  | some ys => some (.clo f ys)
  | none => none
 | x => purC mem x
def purAs (mem : List (Nat × Box)) : List AC → Option (List AC)
 | [] => some []
 |x :: xs => match purA mem x, purAs mem xs with
  | some y, some ys => some (y :: ys)
  | _, _ => none
def purV (mem : List (Nat × Box)) : AV → Option AV
 |.c x => match purA mem x with
  | some y => some (.c y)
  | none => none
 |.agg xs => match purAs mem xs with
  | some ys => some (.agg ys)
  | none => none
 | _ => none
def purVs (mem : List (Nat × Box)) : List AV → Option (List AV)
 | [] => some []
 |x :: xs => match purV mem x, purVs mem xs with
  | some y, some ys => some (y :: ys)
  | _, _ => none
def flatA : AC → Bool
 | .pure (.val _) => true
 | _ => false
def flatV : AV → Bool
 | .c x => flatA x
 | .agg xs => xs.all flatA
 | .tup vs => go vs
 | .top => false
where go : List AV → Bool
 | [] => true
 | .c x :: r => flatA x && go r
 | .agg xs :: r => xs.all flatA && go r
 | _ :: _ => false
def norefC : AC → Bool
 | .ref _ | .ptr _ _ | .mref _ => false
 | _ => true
def norefA : AC → Bool
 | .clo _ caps => caps.all norefC
 | x => norefC x
def norefV : AV → Bool
 | .c x => norefA x
 | .agg xs => xs.all norefA
 | _ => true

def bndA : AC → Prop
 | .pure (.slice rows) => rows.length ≤ 9223372036854775807
 | _ => True
def bndAs : List AC → Prop
 | [] => True
 | x :: r => bndA x ∧ bndAs r
def bndV : AV → Prop
 | .c x => bndA x
 | .agg xs => bndAs xs
 | .tup vs => go vs
 | .top => True
where go : List AV → Prop
 | [] => True
 | .c x :: r => bndA x ∧ go r
 | .agg xs :: r => bndAs xs ∧ go r
 | _ :: r => go r

def blockOf (v : Value) : Option Nat := match v with
 | .pointer (some a) => some a.block
 | .slice (some a) _ _ => some a.block
 | .map (some b) => some b
 | _ => none

structure Gh where
 p : Nat → Prop
 ι0 : Pl
 G : World → (Nat → Prop) → Prop
 mono : ∀ (w w' : World) (V V' : Nat → Prop), G w V → (∀ b, b < w.heap.size → V b → V' b) → (∀ b, b < w.heap.size → V b → w'.heap[b]? = w.heap[b]?) → G w' V'
def Gh.of (p : Nat → Prop) : Gh := ⟨p, fun _ => undef, fun _ _ => True, fun _ _ _ _ _ _ _ => trivial⟩

def Free (B : Nat) (U : Gh) (ι : Pl) (mem : List (Nat × Box)) (b : Nat) : Prop :=
 (U.p b ∨ B ≤ b) ∧ ∀ nm bx, findB mem nm = some bx → blockOf (ι nm) ≠ some b

def RowsRep (w : World) (U : Nat → Prop) (sz : Nat) (rows : List (List PC)) (cells : List Value) : Prop :=
 cells.length = rows.length * sz ∧ (∀ (i : Nat) row, rows[i]? = some row → row.length = sz) ∧
 ∀ (i : Nat) (row : List PC) (j : Nat) p, rows[i]? = some row → row[j]? = some p → ∃ v, cells[i * sz + j]? = some v ∧ RepP w U p v

def RowsRepA (w : World) (U : Nat → Prop) (ι : Pl) (N : Nat) (sz : Nat) (rows : List (List AC)) (cells : List Value) : Prop :=
 cells.length = rows.length * sz ∧ (∀ (i : Nat) row, rows[i]? = some row → row.length = sz) ∧
 ∀ (i : Nat) (row : List AC) (j : Nat) p, rows[i]? = some row → row[j]? = some p → ∃ v, cells[i * sz + j]? = some v ∧ RepA w U ι N p v

def mval (n : Option Nat) (ps : List AC) : AV :=
 match n with
 |none => match ps with
  | p :: _ => .c p
  | [] => .top
 | some _ => .agg ps
def EntRep (w : World) (U : Nat → Prop) (ι : Pl) (N : Nat) (kt : KT) (n : Option Nat) (x : MK × List AC) (e : MapEntry) : Prop :=
 x.1.val kt = some e.key ∧ RepV w U ι N (mval n x.2) e.val

def Brn (es : Array MapEntry) (clock : Nat) : Prop := clock = es.size ∧ ∀ (i : Nat) (e : MapEntry), es[i]? = some e → e.born = i
def BoxRep (B : Nat) (w : World) (U : Nat → Prop) (ι : Pl) (N : Nat) (nm : Nat) : Box → Prop
 | .var xs => ∃ b vs T, ι nm = .pointer (some ⟨b, 0, none⟩) ∧ B ≤ b ∧ w.heap[b]? = some (.cells vs T (0, 0)) ∧ All2 (RepA w U ι N) xs vs.toList
 | .arr e sz rows => ∃ cells, 0 < sz ∧ w.ownsRow B e sz (ι nm) rows.length cells ∧ rows.length ≤ 9223372036854775807 ∧ RowsRep w U sz rows cells
 | .arn e sz rows => ∃ cells, 0 < sz ∧ w.ownsRow B e sz (ι nm) rows.length cells ∧ rows.length ≤ 9223372036854775807 ∧ RowsRepA w U ι N sz rows cells
 | .map kt n ents => ∃ b es clock, ι nm = .map (some b) ∧ B ≤ b ∧ w.heap[b]? = some (.map es clock) ∧ All2 (EntRep w U ι N kt n) ents es.toList ∧ Brn es clock

def gTab : Option Nat := none
def Glob (w : World) : Prop := ∀ g, gTab = some g → ∀ c : Nat, c < 256 → w.cell? ⟨g, c, none⟩ = some (.int .u8 (if Lib.isSp (UInt8.ofNat c) then 1 else 0))
theorem Glob.below {n : Nat} {w w' : World} (h : Glob w) (hn : w.heap.size ≤ n) (hb : Below n w w') : Glob w' := fun g hg c hc => by
 have h1 := h g hg c hc
 have hlt : g < w.heap.size := World.block_lt_of_cell? w _ h1
 rw [World.cell?_of_block (hb.block g (Nat.lt_of_lt_of_le hlt hn))]
 exact h1

structure Sim (w0 : World) (U : Gh) (σ : St) (ι : Pl) (a : Act) (w : World) : Prop where
 val : ∀ t, RepV w (Free w0.heap.size U ι σ.mem) ι σ.nx (look σ.fr t) (a.tmps.getD t undef)
 defers : a.defers = [] ∧ Glob w0
 names : ∀ nm bx, findB σ.mem nm = some bx → nm < σ.nx
 box : ∀ nm bx, findB σ.mem nm = some bx → BoxRep w0.heap.size w (Free w0.heap.size U ι σ.mem) ι σ.nx nm bx
 apart : ∀ nm nm' bx bx' b, findB σ.mem nm = some bx → findB σ.mem nm' = some bx' → blockOf (ι nm) = some b → blockOf (ι nm') = some b → nm = nm'
 below : Below w0.heap.size w0 w
 keep : U.G w (Free w0.heap.size U ι σ.mem)
 base : σ.base ≤ σ.nx ∧ ∀ nm, nm < σ.base → ι nm = U.ι0 nm

theorem Sim.glob {w0 w : World} {U : Gh} {σ : St} {ι : Pl} {a : Act} (h : Sim w0 U σ ι a w) : Glob w := h.defers.2.below (Nat.le_refl _) h.below

def FnThere (P : Program) (f : FuncId) : Prop := ∃ fn, P.funcs[f]? = some fn ∧ fn.body.isSome = true ∧ (fn.name == "runtime.NumGoroutine") = false
def PCalls (P : Program) (f : FuncId) (args : List AV) (res : AV) : Prop :=
 FnThere P f ∧
 ∀ (w : World) (U : Nat → Prop) (vs : Array Value), Glob w → All2 (RepV w U (fun _ => undef) 0) args vs.toList →
  Calls P f vs w fun e w' => ∃ v, e = .returned v ∧ RepV w' (fun b => U b ∨ w.heap.size ≤ b) (fun _ => undef) 0 res v ∧ Below w.heap.size w w'
def FCalls (P : Program) (f : FuncId) (args : List AV) (res : AV) : Prop :=
 FnThere P f ∧
 ∀ (w : World) (U : Nat → Prop) (vs : Array Value), Glob w → All2 (RepV w U (fun _ => undef) 0) args vs.toList →
  Calls P f vs w fun e w' => ∃ v, e = .returned v ∧ RepV w' (fun b => w.heap.size ≤ b) (fun _ => undef) 0 res v ∧ Below w.heap.size w w'
def ICalls (P : Program) (f : FuncId) (args : List AV) (mem : List (Nat × Box)) (nx : Nat) (res : AV) (mem' : List (Nat × Box)) (nx' : Nat) : Prop :=
 FnThere P f ∧
 ∀ (w0 : World) (U : Gh) (ι : Pl) (w : World) (vs : Array Value), Sim w0 U ⟨[], mem, nx, nx⟩ ι { tmps := #[], defers := [] } w → All2 (RepV w (Free w0.heap.size U ι mem) ι nx) args vs.toList →
  Calls P f vs w fun e w' => ∃ v ι', e = .returned v ∧ Sim w0 U ⟨[], mem', nx', nx⟩ ι' { tmps := #[], defers := [] } w' ∧ RepV w' (Free w0.heap.size U ι' mem') ι' nx' res v

def frz1 (nm : Nat) (rows : List (List PC)) : AC → AC
 | .ref m => if m = nm then .pure (.slice rows) else .ref m
 | x => x
def frzV (nm : Nat) (rows : List (List PC)) : AV → AV
 | .c x => .c (frz1 nm rows x)
 | .agg xs => .agg (xs.map (frz1 nm rows))
 | x => x
def frzB (nm : Nat) (rows : List (List PC)) : Box → Box
 | .var xs => .var (xs.map (frz1 nm rows))
 | .map kt n ents => .map kt n (ents.map fun x => (x.1, x.2.map (frz1 nm rows)))
 | .arn e sz rs => .arn e sz (rs.map fun r => r.map (frz1 nm rows))
 | b => b
def frzF (nm : Nat) (rows : List (List PC)) : List (Nat × AV) → List (Nat × AV)
 | [] => []
 | (t, v) :: r => (t, frzV nm rows v) :: frzF nm rows r
def frzM (nm : Nat) (rows : List (List PC)) : List (Nat × Box) → List (Nat × Box)
 | [] => []
 | (m, b) :: r => if m = nm then frzM nm rows r else (m, frzB nm rows b) :: frzM nm rows r
def St.frz (σ : St) (nm : Nat) (rows : List (List PC)) : St := { σ with fr := frzF nm rows σ.fr, mem := frzM nm rows σ.mem }
def frzLA : List Nat → St → List AV → St × List AV
 | [], σ, args => (σ, args)
 |nm :: l, σ, args => match findB σ.mem nm with
  | some (.arr _ _ rows) => frzLA l (σ.frz nm rows) (args.map (frzV nm rows))
  | _ => (σ, args)

def callW (P : Program) (g z : Bool) (f : FuncId) (args : List AV) (σ : St) [K : Blk (AV → St → Prop)] : Prop :=
 ∃ l σ' args', (l = [] ∨ z = true) ∧ frzLA l σ args = (σ', args') ∧ (
 (∃ pargs, purVs σ'.mem args' = some pargs ∧ ∃ res, ((PCalls P f pargs res ∧ (flatV res = true ∨ args'.all norefV = true)) ∨ FCalls P f pargs res) ∧ K.out res σ') ∨
 (g = true ∧ ∃ res mem' nx', ICalls P f args' σ'.mem σ'.nx res mem' nx' ∧ K.out res { σ' with mem := mem', nx := nx' }))

def binI (op : BinOp) (k : IntKind) (a b : Int) (K : Value → Prop) : Prop :=
 match op with
 | .add => K (.int k (k.wrap (a + b)))
 | .sub => K (.int k (k.wrap (a - b)))
 | .mul => K (.int k (k.wrap (a * b)))
 | .quo => andW (b ≠ 0) (K := ⟨K (.int k (k.wrap (a.tdiv b)))⟩)
 | .rem => andW (b ≠ 0) (K := ⟨K (.int k (a.tmod b))⟩)
 | .and => K (.int k (k.wrap (BitVec.ofInt k.bits a &&& BitVec.ofInt k.bits b).toNat))
 | .or => K (.int k (k.wrap (BitVec.ofInt k.bits a ||| BitVec.ofInt k.bits b).toNat))
 | .xor => K (.int k (k.wrap (BitVec.ofInt k.bits a ^^^ BitVec.ofInt k.bits b).toNat))
 | .andNot => K (.int k (k.wrap (BitVec.ofInt k.bits a &&& ~~~ BitVec.ofInt k.bits b).toNat))
 | .eql => K (.bool (a == b))
 | .neq => K (.bool (a != b))
 | .lss => K (.bool (decide (a < b)))
 | .leq => K (.bool (decide (a ≤ b)))
 | .gtr => K (.bool (decide (a > b)))
 | .geq => K (.bool (decide (a ≥ b)))
 | _ => False
def binS (op : BinOp) (a b : ByteArray) (K : Value → Prop) : Prop :=
 match op with
 | .add => andW (a.size + b.size ≤ 9223372036854775807) (K := ⟨K (.string (a ++ b))⟩)
 | .eql => K (.bool (a.toList == b.toList))
 | .neq => K (.bool (!(a.toList == b.toList)))
 | .lss => K (.bool (Op.bytesLess a.toList b.toList))
 | .leq => K (.bool (Op.bytesLess a.toList b.toList || a.toList == b.toList))
 | .gtr => K (.bool (!(Op.bytesLess a.toList b.toList || a.toList == b.toList)))
 | .geq => K (.bool (!(Op.bytesLess a.toList b.toList)))
 | _ => False
def binW (op : BinOp) (x y : Value) (K : Value → Prop) : Prop :=
 match x, y with
 | .int k a, .int k' b => andW (k = k') (K := ⟨binI op k a b K⟩)
 | .string a, .string b => binS op a b K
 | _, _ => False
def shiftI (op : BinOp) (k : IntKind) (a b : Int) (K : Value → Prop) : Prop :=
 match op with
 | .shl => K (.int k (k.wrap (a * 2 ^ (min b.toNat k.bits))))
 | .shr => K (.int k (a.fdiv (2 ^ (min b.toNat k.bits))))
 | _ => False
def shiftW (op : BinOp) (x y : Value) (K : Value → Prop) : Prop :=
 match x, y with
 | .int k a, .int _ b => andW (0 ≤ b) (K := ⟨shiftI op k a b K⟩)
 | _, _ => False

def rowsOf? (mem : List (Nat × Box)) : AV → Option (List (List PC))
 | .c (.pure (.slice rows)) => some rows
 | .c (.tsl rows) => some rows
 | .c .nils => some []
 |.c (.ref nm) => match findB mem nm with
  | some (.arr _ _ rows) => some rows
  | _ => none
 | _ => none

def appOwn (e sz bytes nm : Nat) (ys : List (List PC)) (σ : St) (K : AV → St → Prop) : Prop :=
 ∃ rows, findB σ.mem nm = some (.arr e sz rows) ∧ (rows.length + ys.length) * bytes ≤ 140737488355328 ∧ rows.length + ys.length ≤ 140737488355328 ∧
  K (.c (.ref σ.nx)) { σ with mem := (σ.nx, .arr e sz (rows ++ ys)) :: delB σ.mem nm, nx := σ.nx + 1 }
def appNew (e sz bytes : Nat) (rows ys : List (List PC)) (σ : St) (K : AV → St → Prop) : Prop :=
 (rows.length + ys.length) * bytes ≤ 140737488355328 ∧ rows.length + ys.length ≤ 140737488355328 ∧ K (.c (.ref σ.nx)) { σ with mem := (σ.nx, .arr e sz (rows ++ ys)) :: σ.mem, nx := σ.nx + 1 }
def appPure (bytes : Nat) (rows ys : List (List PC)) (σ : St) (K : AV → St → Prop) : Prop :=
 (rows.length + ys.length) * bytes ≤ 140737488355328 ∧ rows.length + ys.length ≤ 140737488355328 ∧ K (.c (.pure (.slice (rows ++ ys)))) σ
def appW (e sz bytes : Nat) (x y : AV) (ys : List (List PC)) (σ : St) [K : Blk (AV → St → Prop)] : Prop :=
 rowsOk sz ys ∧ (
  (∃ nm, x = .c (.ref nm) ∧ y ≠ .c (.ref nm) ∧ appOwn e sz bytes nm ys σ K.out) ∨
  (x = .c .nils ∧ (appNew e sz bytes [] ys σ K.out ∨ appPure bytes [] ys σ K.out)) ∨
  (∃ rows, x = .c (.tsl rows) ∧ rowsOk sz rows ∧ ((ys ≠ [] ∧ appNew e sz bytes rows ys σ K.out) ∨ appPure bytes rows ys σ K.out ∨ (ys = [] ∧ K.out (.c (.tsl rows)) σ))))

def loadCells? (mem : List (Nat × Box)) : AC → Option (List AC)
 |.ptr nm off => match findB mem nm with
  | some (.var xs) => some (xs.drop off)
  | _ => none
 | .cptr cells => some (cells.map .pure)
 |.eptr nm sz row off => match findB mem nm with
  | some (.arr _ sz' rows) => if sz = sz' then (rows[row]?).map fun r => (r.drop off).map .pure else none
  | some (.arn _ sz' rows) => if sz = sz' then (rows[row]?).map fun r => r.drop off else none
  | _ => none
 | _ => none

def entsOf (es : List (MK × List PC)) : List (MK × List AC) := es.map fun x => (x.1, x.2.map .pure)
def mlook : List (MK × List AC) → MK → Option (List AC)
 | [], _ => none
 | (k, v) :: r, k' => if k = k' then some v else mlook r k'
def mset : List (MK × List AC) → MK → List AC → List (MK × List AC)
 | [], k, v => [(k, v)]
 | (k, u) :: r, k', v => if k = k' then (k', v) :: r else (k, u) :: mset r k' v
def midx : List (MK × List AC) → MK → Nat
 | [], _ => 0
 | (k, _) :: r, k' => if k = k' then 0 else midx r k' + 1
def eset : List (MK × List AC) → Nat → List AC → List (MK × List AC)
 | [], _, _ => []
 | (k, _) :: r, 0, v => (k, v) :: r
 | x :: r, i + 1, v => x :: eset r i v
theorem mlook_mset {k k' : MK} {v : List AC} : ∀ {l : List (MK × List AC)}, mlook (mset l k v) k' = if k = k' then some v else mlook l k'
 | [] => rfl
 |(k0, u) :: r => by
  simp only [mset]
  by_cases e : k0 = k
  ·subst e
   rw [if_pos rfl]
   simp only [mlook]
   by_cases e' : k0 = k' <;> simp [e']
  ·rw [if_neg e]
   simp only [mlook, mlook_mset (l := r)]
   by_cases e' : k0 = k'
   ·subst e'
    rw [if_pos rfl, if_pos rfl, if_neg (fun h => e h.symm)]
   ·rw [if_neg e', if_neg e']
def mcells (n : Option Nat) (v : AV) : Option (List AC) :=
 match n, v with
 | none, .c x => some [x]
 | some k, .agg xs => if xs.length = k then some xs else none
 | _, _ => none

def opW (P : Program) (o : AOp) (σ : St) (K : AV → St → Prop) : Prop :=
 match o with
 | .mv x => K (x.ev σ.fr) σ
 |.pick c a b => match c.ev σ.fr with
  | .c (.pure (.val (.bool t))) => condW t (A := ⟨K (a.ev σ.fr) σ⟩) (B := ⟨K (b.ev σ.fr) σ⟩)
  | _ => False
 |.box x => match (x.ev σ.fr).cells with
  | some xs => K (.c (.ptr σ.nx 0)) { σ with mem := (σ.nx, .var xs) :: σ.mem, nx := σ.nx + 1 }
  | none => False
 |.load n p => match p.ev σ.fr with
  |.c q => match loadCells? σ.mem q with
   |some xs => match n with
    |none => match xs with
     | x :: _ => K (.c x) σ
     | [] => False
    | some n => andW (n ≤ xs.length) (K := ⟨K (.agg (xs.take n)) σ⟩)
   | none => False
  | _ => False
 |.store n p v => match (v.ev σ.fr).cells, p.ev σ.fr with
  |some ys, .c (.ptr nm off) => match findB σ.mem nm with
   | some (.var xs) => andW (ys.length = n ∧ off + n ≤ xs.length) (K := ⟨K (.tup []) { σ with mem := setB σ.mem nm (.var (over xs off ys)) }⟩)
   | _ => False
  |some ys, .c (.eptr nm sz row off) => match findB σ.mem nm with
   | some (.arr e sz' rows) => andW (sz = sz' ∧ ys.length = n ∧ off + n ≤ sz) (K := ⟨optW (pcAs ys) (K := ⟨fun zs => optW rows[row]? (K := ⟨fun r =>
     K (.tup []) { σ with mem := setB σ.mem nm (.arr e sz (rows.set row (over r off zs))) }⟩)⟩)⟩)
   | some (.arn e sz' rows) => andW (sz = sz' ∧ ys.length = n ∧ off + n ≤ sz) (K := ⟨optW rows[row]? (K := ⟨fun r =>
     K (.tup []) { σ with mem := setB σ.mem nm (.arn e sz (rows.set row (over r off ys))) }⟩)⟩)
   | _ => False
  | _, _ => False
 |.bin op x y => match x.ev σ.fr, y.ev σ.fr with
  |.c (.pure (.val a)), .c (.pure (.val b)) => match op with
   | .shl | .shr => shiftW op a b fun v => K (.c (.pure (.val v))) σ
   | _ => binW op a b fun v => K (.c (.pure (.val v))) σ
  | _, _ => False
 |.eqb neg x y => match x.ev σ.fr, y.ev σ.fr with
  | .c (.pure (.val (.bool a))), .c (.pure (.val (.bool b))) => K (.c (.pure (.val (.bool ((a == b) != neg))))) σ
  | _, _ => False
 |.eqs neg l x y => match x.ev σ.fr, y.ev σ.fr with
  | .agg xs, .agg ys => andW (eqOk l xs ys) (K := ⟨K (.c (.pure (.val (.bool (dec (eqP xs ys) != neg))))) σ⟩)
  | _, _ => False
 |.un op x => match op, x.ev σ.fr with
  | .not, .c (.pure (.val (.bool b))) => K (.c (.pure (.val (.bool (!b))))) σ
  | .neg, .c (.pure (.val (.int k n))) => K (.c (.pure (.val (.int k (k.wrap (0 - n)))))) σ
  | .xor, .c (.pure (.val (.int k n))) => K (.c (.pure (.val (.int k (k.wrap (BitVec.ofInt k.bits (if k.signed then -1 else k.max) ^^^ BitVec.ofInt k.bits n).toNat))))) σ
  | _, _ => False
 |.conv k x => match x.ev σ.fr with
  | .c (.pure (.val (.int _ n))) => K (.c (.pure (.val (.int k (k.wrap n))))) σ
  | _ => False
 |.fieldA off p => match p.ev σ.fr with
  | .c (.ptr nm o) => K (.c (.ptr nm (o + off))) σ
  | .c (.cptr cells) => K (.c (.cptr (cells.drop off))) σ
  | .c (.eptr nm sz row o) => K (.c (.eptr nm sz row (o + off))) σ
  | _ => False
 |.field off n x => match x.ev σ.fr with
  |.agg xs => match n with
   |none => match xs.drop off with
    | x :: _ => K (.c x) σ
    | [] => False
   | some n => andW (off + n ≤ xs.length) (K := ⟨K (.agg ((xs.drop off).take n)) σ⟩)
  | _ => False
 |.idxA sz x i => match x.ev σ.fr, i.ev σ.fr with
  | .c (.pure (.slice rows)), .c (.pure (.val (.int _ i))) | .c (.tsl rows), .c (.pure (.val (.int _ i))) => andW (0 ≤ i) (K := ⟨optW rows[i.toNat]? (K := ⟨fun r => andW (r.length = sz ∧ 0 < sz) (K := ⟨K (.c (.cptr r)) σ⟩)⟩)⟩)
  |.c (.ref nm), .c (.pure (.val (.int _ i))) => match findB σ.mem nm with
   | some (.arr _ sz' rows) => andW (sz' = sz ∧ 0 < sz ∧ 0 ≤ i ∧ i < rows.length) (K := ⟨K (.c (.eptr nm sz i.toNat 0)) σ⟩)
   | some (.arn _ sz' rows) => andW (sz' = sz ∧ 0 < sz ∧ 0 ≤ i ∧ i < rows.length) (K := ⟨K (.c (.eptr nm sz i.toNat 0)) σ⟩)
   | _ => False
  | _, _ => False
 |.idxR len sz x i => match x.ev σ.fr, i.ev σ.fr with
  | .c (.ptr nm o), .c (.pure (.val (.int _ i))) => andW (0 ≤ i ∧ i < len) (K := ⟨K (.c (.ptr nm (o + i.toNat * sz))) σ⟩)
  | .c (.cptr cells), .c (.pure (.val (.int _ i))) => andW (0 ≤ i ∧ i < len) (K := ⟨K (.c (.cptr (cells.drop (i.toNat * sz)))) σ⟩)
  | _, _ => False
 |.nilc x => match x.ev σ.fr with
  | .c (.ptr nm o) => K (.c (.ptr nm o)) σ
  | .c (.cptr cells) => K (.c (.cptr cells)) σ
  | .c (.eptr nm sz row o) => K (.c (.eptr nm sz row o)) σ
  | .c (.clo f caps) => K (.c (.clo f caps)) σ
  | _ => False
 |.idxS x i => match x.ev σ.fr, i.ev σ.fr with
  | .c (.pure (.val (.string s))), .c (.pure (.val (.int _ i))) => andW (0 ≤ i) (K := ⟨optW s[i.toNat]? (K := ⟨fun b => K (.c (.pure (.val (.int .u8 b.toNat)))) σ⟩)⟩)
  | _, _ => False
 | .build zero parts => buildW σ parts zero fun xs => K (.agg xs) σ
 | .bslice sz rows => bsliceW σ sz rows [] fun rs => K (.c (.tsl rs)) σ
 |.mkslice e sz bytes zero l => match l.ev σ.fr with
  | .c (.pure (.val (.int .i64 n))) => andW (0 ≤ n ∧ n ≤ 281474976710656 ∧ bytes * n ≤ 281474976710656) (K := ⟨
    K (.c (.ref σ.nx)) { σ with mem := (σ.nx, .arr e sz (List.replicate n.toNat zero)) :: σ.mem, nx := σ.nx + 1 }⟩)
  | _ => False
 |.slc sz x lo hi mx => match x.ev σ.fr with
  | .c (.ref _) => False
  | v => optW (rowsOf? σ.mem v) (K := ⟨fun rows => optW (boundOf σ lo) (K := ⟨fun lo => optW (boundOf σ hi) (K := ⟨fun hi => optW (boundOf σ mx) (K := ⟨fun mx =>
   andW (rowsOk sz rows ∧ 0 ≤ lo.getD 0 ∧ lo.getD 0 ≤ hi.getD rows.length ∧ hi.getD rows.length ≤ mx.getD rows.length ∧ mx.getD rows.length ≤ rows.length) (K := ⟨
   K (.c (if mx.isSome = true ∧ mx = hi then .tsl ((rows.take (hi.getD rows.length).toNat).drop (lo.getD 0).toNat) else .pure (.slice ((rows.take (hi.getD rows.length).toNat).drop (lo.getD 0).toNat)))) σ⟩)⟩)⟩)⟩)⟩)
 |.slcS x lo hi => match x.ev σ.fr, boundOf σ lo, boundOf σ hi with
  |.c (.pure (.val (.string s))), some lo, some hi => andW (0 ≤ lo.getD 0 ∧ lo.getD 0 ≤ hi.getD s.size ∧ hi.getD s.size ≤ s.size) (K := ⟨
   K (.c (.pure (.val (.string (s.extract (lo.getD 0).toNat (hi.getD s.size).toNat))))) σ⟩)
  | _, _, _ => False
 |.ext x i => match x.ev σ.fr with
  | .tup vs => optW vs[i]? (K := ⟨fun v => K v σ⟩)
  | _ => False
 |.len x => match x.ev σ.fr with
  | .c (.pure (.slice rows)) | .c (.tsl rows) => K (.c (.pure (.val (.int .i64 rows.length)))) σ
  | .c .nils => K (.c (.pure (.val (.int .i64 0)))) σ
  |.c (.ref nm) => match findB σ.mem nm with
   | some (.arr _ _ rows) => K (.c (.pure (.val (.int .i64 rows.length)))) σ
   | some (.arn _ _ rows) => K (.c (.pure (.val (.int .i64 rows.length)))) σ
   | _ => False
  | _ => False
 |.lenS x => match x.ev σ.fr with
  | .c (.pure (.val (.string s))) => K (.c (.pure (.val (.int .i64 s.size)))) σ
  | _ => False
 |.mm mx x y => match x.ev σ.fr, y.ev σ.fr with
  | .c (.pure (.val (.int k a))), .c (.pure (.val (.int _ b))) => K (.c (.pure (.val (.int k (if mx = true then max a b else min a b))))) σ
  | _, _ => False
 |.mm4 x y z t => match x.ev σ.fr, y.ev σ.fr, z.ev σ.fr, t.ev σ.fr with
  | .c (.pure (.val (.int k a))), .c (.pure (.val (.int _ b))), .c (.pure (.val (.int _ c))), .c (.pure (.val (.int _ d))) => K (.c (.pure (.val (.int k (max (max (max a b) c) d))))) σ
  | _, _, _, _ => False
 | .dead => False
 |.fnil neg x => match x.ev σ.fr with
  | .c (.clo _ _) => K (.c (.pure (.val (.bool neg)))) σ
  | .c (.pure (.val .nilFunc)) => K (.c (.pure (.val (.bool (!neg))))) σ
  | _ => False
 |.snil neg x => match x.ev σ.fr with
  | .c .nils => K (.c (.pure (.val (.bool (!neg))))) σ
  | .c (.pure (.slice rows)) | .c (.tsl rows) => nilW rows (A := ⟨K (.c (.pure (.val (.bool (!neg))))) σ⟩) (B := ⟨K (.c (.pure (.val (.bool neg)))) σ⟩)
  |.c (.ref nm) => match findB σ.mem nm with
   | some (.arr _ _ rows) => nilW rows (A := ⟨K (.c (.pure (.val (.bool (!neg))))) σ⟩) (B := ⟨K (.c (.pure (.val (.bool neg)))) σ⟩)
   | _ => False
  | _ => False
 | .app e sz bytes x y => optW (rowsOf? σ.mem (y.ev σ.fr)) (K := ⟨fun ys => appW e sz bytes (x.ev σ.fr) (y.ev σ.fr) ys σ (K := ⟨K⟩)⟩)
 | .mkfn f caps => mkfnW σ caps [] fun xs => K (.c (.clo f xs)) σ
 |.call g z f args => match f.ev σ.fr with
  | .c (.clo f caps) => callW P g z f (args.map (·.ev σ.fr) ++ caps.map .c) σ (K := ⟨K⟩)
  | _ => False
 | .bsliceF sz rows => bsliceFW σ sz rows σ.mem [] fun rs mem => K (.c (.tsl rs)) { σ with mem := mem }
 | .mkmap kt n => K (.c (.mref σ.nx)) { σ with mem := (σ.nx, .map kt n []) :: σ.mem, nx := σ.nx + 1 }
 |.mget kt n zero ok m k => match k.ev σ.fr with
  |.c (.pure (.val kv)) => optW (mkOf kt kv) (K := ⟨fun mk => match m.ev σ.fr with
   |.c (.mref nm) => match findB σ.mem nm with
    |some (.map kt' n' ents) => andW (kt' = kt ∧ n' = n) (K := ⟨caseW (mlook ents mk) (A := ⟨fun ps => K (if ok = true then .tup [mval n ps, .c (.pure (.val (.bool true)))] else mval n ps) σ⟩)
     (B := ⟨K (if ok = true then .tup [mval n zero, .c (.pure (.val (.bool false)))] else mval n zero) σ⟩)⟩)
    | _ => False
   | .c (.pure (.fmap kt' n' es)) => andW (kt' = kt ∧ n' = n) (K := ⟨caseW (mlook (entsOf es) mk) (A := ⟨fun ps => K (if ok = true then .tup [mval n ps, .c (.pure (.val (.bool true)))] else mval n ps) σ⟩)
     (B := ⟨K (if ok = true then .tup [mval n zero, .c (.pure (.val (.bool false)))] else mval n zero) σ⟩)⟩)
   | _ => False⟩)
  | _ => False
 |.mput kt n m k v => match k.ev σ.fr with
  |.c (.pure (.val kv)) => optW (mkOf kt kv) (K := ⟨fun mk => match m.ev σ.fr with
   |.c (.mref nm) => optW (mcells n (v.ev σ.fr)) (K := ⟨fun ys => match findB σ.mem nm with
    | some (.map kt' n' ents) => andW (kt' = kt ∧ n' = n) (K := ⟨K (.tup []) { σ with mem := setB σ.mem nm (.map kt n (mset ents mk ys)) }⟩)
    | _ => False⟩)
   | _ => False⟩)
  | _ => False
 |.ment kt n zero m k => match k.ev σ.fr with
  |.c (.pure (.val kv)) => optW (mkOf kt kv) (K := ⟨fun mk => match m.ev σ.fr with
   |.c (.mref nm) => match findB σ.mem nm with
    |some (.map kt' n' ents) => andW (kt' = kt ∧ n' = n) (K := ⟨caseW (mlook ents mk) (A := ⟨fun ps => K (.tup [mval n ps, .c (.pure (.val (.int .i64 (midx ents mk))))]) σ⟩)
     (B := ⟨K (.tup [mval n zero, .c (.pure (.val (.int .i64 ents.length)))]) { σ with mem := setB σ.mem nm (.map kt n (ents ++ [(mk, zero)])) }⟩)⟩)
    | _ => False
   | _ => False⟩)
  | _ => False
 |.eput kt n m s v => match s.ev σ.fr with
  |.c (.pure (.val (.int _ i))) => match m.ev σ.fr with
   |.c (.mref nm) => optW (mcells n (v.ev σ.fr)) (K := ⟨fun ys => match findB σ.mem nm with
    | some (.map kt' n' ents) => andW (kt' = kt ∧ n' = n ∧ 0 ≤ i ∧ i < ents.length) (K := ⟨K (.tup []) { σ with mem := setB σ.mem nm (.map kt n (eset ents i.toNat ys)) }⟩)
    | _ => False⟩)
   | _ => False
  | _ => False
where
 boundOf (σ : St) : Option AX → Option (Option Int)
  | none => some none
  |some x => match x.ev σ.fr with
   | .c (.pure (.val (.int _ i))) => some (some i)
   | _ => none
 buildW (σ : St) : List (Nat × Nat × AX) → List AC → (List AC → Prop) → Prop
  | [], acc, K => K acc
  |(off, n, x) :: r, acc, K => match (x.ev σ.fr).cells with
   | some ys => andW (ys.length = n ∧ off + n ≤ acc.length) (K := ⟨buildW σ r (over acc off ys) K⟩)
   | none => False
 bsliceW (σ : St) (sz : Nat) : List AX → List (List PC) → (List (List PC) → Prop) → Prop
  | [], acc, K => K acc
  |x :: r, acc, K => match (x.ev σ.fr).cells with
   | some ys => optW (pcAs ys) (K := ⟨fun zs => andW (ys.length = sz) (K := ⟨bsliceW σ sz r (acc ++ [zs]) K⟩)⟩)
   | none => False
 bsliceFW (σ : St) (sz : Nat) : List AX → List (Nat × Box) → List (List PC) → (List (List PC) → List (Nat × Box) → Prop) → Prop
  | [], mem, acc, K => K acc mem
  |x :: r, mem, acc, K => match (x.ev σ.fr).cells with
   | some ys => optW (frzAs mem ys) (K := ⟨fun z => andW (ys.length = sz) (K := ⟨bsliceFW σ sz r z.2 (acc ++ [z.1]) K⟩)⟩)
   | none => False
 mkfnW (σ : St) : List AX → List AC → (List AC → Prop) → Prop
  | [], acc, K => K acc
  |x :: r, acc, K => match x.ev σ.fr with
   | .c y => mkfnW σ r (acc ++ [y]) K
   | _ => False

def opsW (P : Program) : List AG → St → (St → Prop) → Prop
 | [], σ, K => K σ
 |g :: r, σ, K => match g.guard with
  | none => opW P g.op σ fun v σ' => opsW P r (σ'.put g.dst v) K
  |some (t, want) => match look σ.fr t with
   | .c (.pure (.val (.bool b))) => condW (b == want) (A := ⟨opW P g.op σ fun v σ' => opsW P r (σ'.put g.dst v) K⟩) (B := ⟨opsW P r (σ.put g.dst (.tup [])) K⟩)
   | .tup [] => opsW P r (σ.put g.dst (.tup [])) K
   | _ => False

def extB (m m' : List (Nat × Box)) : Prop := ∀ nm bx, findB m nm = some bx → findB m' nm = some bx
def extC (m m' : List (Nat × Box)) : Prop := m' = m ∨ ∃ n b, m' = (n, b) :: m ∧ findB m n = none
theorem extB_of {m m' : List (Nat × Box)} (h : extC m m') : extB m m' := by
 rcases h with rfl | ⟨n, b, rfl, h⟩
 ·exact fun _ _ h => h
 ·intro nm bx hf
  show (if n = nm then some b else findB m nm) = some bx
  rw [if_neg (fun e => by rw [← e, h] at hf; cases hf)]
  exact hf
def opsX (P : Program) : List (Bool × AG) → St → (St → Prop) → Prop
 | [], σ, K => K σ
 |(x, g) :: r, σ, K => match g.guard with
  | none => opW P g.op σ fun v σ' => andW (x = true → extC σ.mem σ'.mem) (K := ⟨opsX P r (σ'.put g.dst v) K⟩)
  |some (t, want) => match look σ.fr t with
   | .c (.pure (.val (.bool b))) => condW (b == want) (A := ⟨opW P g.op σ fun v σ' => andW (x = true → extC σ.mem σ'.mem) (K := ⟨opsX P r (σ'.put g.dst v) K⟩)⟩) (B := ⟨opsX P r (σ.put g.dst (.tup [])) K⟩)
   | .tup [] => opsX P r (σ.put g.dst (.tup [])) K
   | _ => False
def bothW [A : Blk Prop] [B : Blk Prop] : Prop := A.out ∧ B.out
theorem bothW_intro {A B : Blk Prop} (h1 : A.out) (h2 : B.out) : @bothW A B := ⟨h1, h2⟩
def drawW (P : Program) : List (List (Bool × AG)) → St → (St → Prop) → Prop
 | [], _, _ => True
 | [gs], σ, K => opsX P gs σ K
 | gs :: hs :: r, σ, K => bothW (A := ⟨opsX P gs σ K⟩) (B := ⟨drawW P (hs :: r) σ K⟩)
theorem drawW_mem {P : Program} {σ : St} {K : St → Prop} : ∀ {gss : List (List (Bool × AG))}, drawW P gss σ K → ∀ gs ∈ gss, opsX P gs σ K
 | [], _, gs, h => by cases h
 | [x], hd, gs, h => by rw [List.mem_singleton] at h; rw [h]; exact hd
 |x :: y :: r, hd, gs, h => by
  rcases List.mem_cons.1 h with h | h
  ·rw [h]; exact hd.1
  ·exact drawW_mem hd.2 gs h
end Go.Abs

set_option linter.unusedVariables false
set_option linter.unusedSimpArgs false
namespace Go.Abs
open Go.RowKit

def cellOf : Value → Option AC
 | .slice none 0 0 => some .nils
 | v => if scalar v then some (.pure (.val v)) else none
def cellsOf : List Value → Option (List AC)
 | [] => some []
 |v :: r => match cellOf v, cellsOf r with
  | some x, some xs => some (x :: xs)
  | _, _ => none
def pcellOf : Value → Option PC
 | .slice none 0 0 => some (.slice [])
 | v => if scalar v then some (.val v) else none
def pcellsOf : List Value → Option (List PC)
 | [] => some []
 |v :: r => match pcellOf v, pcellsOf r with
  | some x, some xs => some (x :: xs)
  | _, _ => none
def constOf : Value → Option AV
 | .agg vs => (cellsOf vs.toList).map .agg
 | .tuple vs => if vs.size = 0 then some (.tup []) else none
 | v => (cellOf v).map .c

def compX : Operand → Option AX
 | .tmp t => some (.t t)
 | .const v => (constOf v).map .k
 | .func f => some (.k (.c (.clo f [])))
 | .global _ => none
def compXs : List Operand → Option (List AX)
 | [] => some []
 |x :: r => match compX x, compXs r with
  | some y, some ys => some (y :: ys)
  | _, _ => none

def rowOf (P : Program) (t : TypeId) : Option (Option Nat) :=
 match P.underlying t, P.info? t with
 | some (.struct _), some i => some (some i.size)
 | some (.array _ _), some i => some (some i.size)
 | some _, some i => if i.size = 1 then some none else none
 | _, _ => none
def elemOf? (P : Program) (t : TypeId) : Option (TypeId × Nat × Nat) :=
 match P.underlying t with
 | some (.slice e) => (P.info? e).map fun i => (e, i.size, i.bytes)
 | _ => none
def zeroOf (P : Program) (t : TypeId) : Option Value := (P.info? t).bind (·.zero)
def fieldOf (P : Program) (s : TypeId) (f : Nat) : Option Field :=
 match P.underlying s with
 | some (.struct fs) => fs[f]?
 | _ => none
def sizeOf? (P : Program) (t : TypeId) : Option Nat := (P.info? t).map (·.size)
def isStr (P : Program) (t : TypeId) : Bool := match P.underlying t with | some .string => true | _ => false
def isBool (P : Program) (t : TypeId) : Bool := match P.underlying t with | some .bool => true | _ => false

def isFunc (P : Program) (t : TypeId) : Bool := match P.underlying t with | some (.func _ _ _) => true | _ => false
def isNilF : AX → Bool
 | .k (.c (.pure (.val .nilFunc))) => true
 | _ => false
def isSlc (P : Program) (t : TypeId) : Bool := match P.underlying t with | some (.slice _) => true | _ => false
def isNilS : AX → Bool
 | .k (.c .nils) => true
 | _ => false
def partsOf (places : List (Nat × Nat)) : List (Nat × Operand) → Option (List (Nat × Nat × AX))
 | [] => some []
 |(i, x) :: r => match places[i]?, compX x, partsOf places r with
  | some (off, n), some y, some ys => some ((off, n, y) :: ys)
  | _, _, _ => none
def placesOf (P : Program) (t : TypeId) : Option (List (Nat × Nat)) :=
 match P.underlying t with
 | some (.struct fs) => fs.toList.mapM fun f => (P.info? f.type).map fun i => (f.offset, i.size)
 | _ => none
def rowsOf : Nat → List (Nat × Operand) → Option (List AX)
 | _, [] => some []
 |k, (i, x) :: r => if i = k then match compX x, rowsOf (k + 1) r with
  | some y, some ys => some (y :: ys)
  | _, _ => none else none
def mapOf? (P : Program) (t : TypeId) : Option (KT × TypeId × Option Nat) :=
 match P.underlying t with
 |some (.map k e) => match P.underlying k, rowOf P e with
  | some (.int i), some n => some (.int i, e, n)
  | some .string, some n => some (.str, e, n)
  | some .bool, some n => some (.bool, e, n)
  | _, _ => none
 | _ => none
def zeroPs (n : Option Nat) (z : Value) : Option (List AC) :=
 match n with
 |none => match cellOf z with
  | some p => some [p]
  | none => none
 |some _ => match z with
  | .agg vs => cellsOf vs.toList
  | _ => none
def holdsSlice : List PC → Bool
 | [] => false
 | .slice _ :: _ => true
 | _ :: r => holdsSlice r
def deepElem (P : Program) (e : TypeId) : Bool :=
 match (zeroOf P e).bind fun z => pcellsOf z.cells.toList with
 | some zs => holdsSlice zs
 | none => false
def compO? : Option Operand → Option (Option AX)
 | none => some none
 | some x => (compX x).map some

def isStruct (P : Program) (t : TypeId) : Bool := match P.underlying t with | some (.struct _) => true | _ => false
def eqShFs (P : Program) (f : TypeId → Option (List ET)) : List Field → Nat → Option (List ET)
 | [], _ => some []
 |fd :: r, off => if fd.name = "_" ∨ fd.offset ≠ off then none else match f fd.type with
  | some l => if (P.info? fd.type).map (·.size) = some l.length then (eqShFs P f r (off + l.length)).map (l ++ ·) else none
  | none => none
def eqSh (P : Program) : Nat → TypeId → Option (List ET)
 | 0, _ => none
 |n + 1, t => match P.underlying t with
  | some (.int k) => some [.int k]
  | some .string => some [.str]
  | some .bool => some [.bool]
  | some (.struct fs) => if P.stoodInHeld t = true then none else eqShFs P (eqSh P n) fs.toList 0
  | _ => none
def eqTop (P : Program) (t : TypeId) : Option (List ET) := if P.eqGuardType P.depth t = true then none else eqSh P 6 t
def namedX (P : Program) (t : TypeId) : Bool := match P.info? t with
 | some i => (match i.desc with | .named _ _ => true | _ => false)
 | none => false
def impureX (P : Program) : Operand → Bool
 |.func f => match P.funcs[f]? with
  |some fn => (Nat.beq fn.ntmps 68 && Nat.beq fn.params.size 2) || fn.params.toList.any fun t => match P.underlying t with
   | some (.pointer _) => true
   | some (.slice _) => fn.resultTypes.toList.contains t && !namedX P t
   | _ => false
  | none => false
 | .tmp _ => true
 | _ => false
def constX (f : Operand) (xs : List AX) : Bool := (match f with | .tmp _ => true | _ => false) && xs.all fun x => match x with | .k _ => true | _ => false
def compOp (P : Program) (dr : Bool) : Op → Option AOp
 | .move x | .assign x => (compX x).map .mv
 |.pick c a b => match compX c, compX a, compX b with
  | some c, some a, some b => some (.pick c a b)
  | _, _, _ => none
 | .alloc t => ((zeroOf P t).bind constOf).map fun v => .box (.k v)
 | .box _ x => (compX x).map .box
 |.build t parts => match (zeroOf P t).bind (fun z => cellsOf z.cells.toList), (placesOf P t).bind (partsOf · parts.toList) with
  | some z, some ps => some (.build z ps)
  | _, _ => none
 |.buildSlice t n parts => match elemOf? P t, rowsOf 0 parts.toList with
  | some (e, sz, _), some rs => if rs.length = n ∧ n * sz ≤ 16777216 ∧ 0 < sz ∧ ((zeroOf P e).map fun z => decide (z.cells.size = sz)) = some true then some (if (!dr && deepElem P e) = true then .bsliceF sz rs else .bslice sz rs) else none
  | _, _ => none
 |.load t p => match rowOf P t, compX p with
  | some n, some p => some (.load n p)
  | _, _ => none
 |.store t p v => match sizeOf? P t, compX p, compX v with
  | some n, some p, some v => some (.store n p v)
  | _, _, _ => none
 |.binOp op t x y _ => match compX x, compX y with
  |some x, some y => match op with
   | .eql => if isBool P t then some (.eqb false x y) else if isStruct P t then (eqTop P t).map (.eqs false · x y) else if isFunc P t then (if isNilF y then some (.fnil false x) else none) else if isSlc P t then (if isNilS y then some (.snil false x) else none) else some (.bin .eql x y)
   | .neq => if isBool P t then some (.eqb true x y) else if isStruct P t then (eqTop P t).map (.eqs true · x y) else if isFunc P t then (if isNilF y then some (.fnil true x) else none) else if isSlc P t then (if isNilS y then some (.snil true x) else none) else some (.bin .neq x y)
   | op => some (.bin op x y)
  | _, _ => none
 | .unOp op _ x => (compX x).map (.un op)
 |.convert s d x => match P.underlying s, P.underlying d, compX x with
  | some (.int _), some (.int k), some x => some (.conv k x)
  | _, _, _ => none
 | .nilCheck x => (compX x).map .nilc
 |.slice t x lo' hi' mx' => match P.underlying t, compX x, compO? lo', compO? hi', compO? mx' with
  |some (.slice _), some x, some lo, some hi, some mx => match elemOf? P t with
   | some (_, sz, _) => if 0 < sz ∧ (mx'.isSome = true → hi'.isSome = true) then some (.slc sz x lo hi mx) else none
   | none => none
  | some .string, some x, some lo, some hi, some none => some (.slcS x lo hi)
  | _, _, _, _, _ => none
 |.fieldAddr s x f => match fieldOf P s f, compX x with
  | some fd, some x => if (sizeOf? P fd.type).getD 0 = 0 then none else some (.fieldA fd.offset x)
  | _, _ => none
 |.field s x f => match fieldOf P s f, compX x with
  | some fd, some x => (rowOf P fd.type).map fun n => .field fd.offset n x
  | _, _ => none
 |.indexAddr t x i => match elemOf? P t, compX x, compX i with
  | some (_, sz, _), some x, some i => some (.idxA sz x i)
  |none, some x, some i => match P.underlying t with
   | some (.array n e) => (sizeOf? P e).map fun sz => .idxR n sz x i
   | _ => none
  | _, _, _ => none
 |.index t x i => if isStr P t then match compX x, compX i with
  | some x, some i => some (.idxS x i)
  | _, _ => none else none
 |.makeSlice t l c => match elemOf? P t, compX l, compX c with
  | some (e, sz, bytes), some (.t a), some (.t b) => if a = b ∧ 0 < sz ∧ ((zeroOf P e).map fun z => decide (z.cells.size = sz)) = some true then ((zeroOf P e).bind fun z => pcellsOf z.cells.toList).map fun z => .mkslice e sz bytes z (.t a) else none
  | _, _, _ => none
 | .extract x i => (compX x).map fun x => .ext x i
 | .makeFunc (.func f) first caps => if first.size = 0 then (compXs caps.toList).map (.mkfn f) else none
 |.call { callee := .builtin .len, args, argTypes } => match args.toList, argTypes.toList with
  |[x], [t] => match compX x, P.underlying t with
   | some x, some (.slice _) => some (.len x)
   | some x, some .string => some (.lenS x)
   | _, _ => none
  | _, _ => none
 |.call { callee := .builtin .min, args, .. } => match args.toList with
  |[x, y] => match compX x, compX y with
   | some x, some y => some (.mm false x y)
   | _, _ => none
  | _ => none
 |.call { callee := .builtin .max, args, .. } => match args.toList with
  |[x, y] => match compX x, compX y with
   | some x, some y => some (.mm true x y)
   | _, _ => none
  |[x, y, z, t] => match compX x, compX y, compX z, compX t with
   | some x, some y, some z, some t => some (.mm4 x y z t)
   | _, _, _, _ => none
  | _ => none
 | .makeInterface _ _ => some .dead
 | .panic _ => some .dead
 |.call { callee := .builtin .append, args, argTypes } => match args.toList, argTypes.toList with
  |[x, y], [t, u] => if t = u then match elemOf? P t, compX x, compX y with
   | some (e, sz, bytes), some x, some y => if 0 < sz ∧ ((zeroOf P e).map fun z => decide (z.cells.size = sz)) = some true then some (.app e sz bytes x y) else none
   | _, _, _ => none else none
  | _, _ => none
 |.call { callee := .value f, args, .. } => match compX f, compXs args.toList with
  | some y, some xs => some (.call (!dr || (impureX P f && !constX f xs)) (!dr) y xs)
  | _, _ => none
 |.makeMap t none => match mapOf? P t with
  | some (kt, _, n) => some (.mkmap kt n)
  | none => none
 |.lookup t m k ok => match mapOf? P t, compX m, compX k with
  | some (kt, e, n), some m, some k => ((zeroOf P e).bind (zeroPs n)).map fun z => .mget kt n z ok m k
  | _, _, _ => none
 |.mapUpdate t m k v | .insert t m k v => match mapOf? P t, compX m, compX k, compX v with
  | some (kt, _, n), some m, some k, some v => some (.mput kt n m k v)
  | _, _, _, _ => none
 |.mapEntry t m k => match mapOf? P t, compX m, compX k with
  | some (kt, e, n), some m, some k => ((zeroOf P e).bind (zeroPs n)).map fun z => .ment kt n z m k
  | _, _, _ => none
 |.entryStore t m s v => match mapOf? P t, compX m, compX s, compX v with
  | some (kt, _, n), some m, some s, some v => some (.eput kt n m s v)
  | _, _, _, _ => none
 | _ => none

def fitD (nt : Nat) : Option Nat → Bool
 | some d => decide (d < nt)
 | none => true
def compG (P : Program) (dr : Bool) (nt : Nat) (ops : Array Oper) (o : Oper) : Option AG :=
 if fitD nt o.dst = false then none else match compOp P dr o.op with
 |some ao => match o.guard with
  | none => some ⟨o.dst, none, ao⟩
  |some (j, want) => match (ops[j]?).bind (·.dst) with
   | some t => some ⟨o.dst, some (t, want), ao⟩
   | none => none
 | none => none
def compGs (P : Program) (dr : Bool) (nt : Nat) (ops : Array Oper) : List Oper → Option (List AG)
 | [] => some []
 |o :: r => match compG P dr nt ops o, compGs P dr nt ops r with
  | some g, some gs => some (g :: gs)
  | _, _ => none

def AX.tmps : AX → List Nat
 | .t n => [n]
 | .k _ => []
def oTmps : Option AX → List Nat
 | none => []
 | some x => x.tmps
def psTmps : List (Nat × Nat × AX) → List Nat
 | [] => []
 | (_, _, x) :: r => x.tmps ++ psTmps r
def xsTmps : List AX → List Nat
 | [] => []
 | x :: r => x.tmps ++ xsTmps r
def AOp.tmps : AOp → List Nat
 | .mv x | .box x | .load _ x | .un _ x | .conv _ x | .fieldA _ x | .field _ _ x | .nilc x | .mkslice _ _ _ _ x | .ext x _ | .len x | .lenS x | .fnil _ x | .snil _ x => x.tmps
 | .pick c a b => c.tmps ++ a.tmps ++ b.tmps
 | .store _ x y | .bin _ x y | .eqb _ x y | .eqs _ _ x y | .idxA _ x y | .idxR _ _ x y | .idxS x y | .app _ _ _ x y | .mm _ x y => x.tmps ++ y.tmps
 | .build _ ps => psTmps ps
 | .bslice _ xs | .mkfn _ xs | .bsliceF _ xs => xsTmps xs
 | .slc _ x l h m => x.tmps ++ oTmps l ++ oTmps h ++ oTmps m
 | .slcS x l h => x.tmps ++ oTmps l ++ oTmps h
 | .call _ _ f xs => f.tmps ++ xsTmps xs
 | .mkmap _ _ | .dead => []
 | .mm4 x y z t => x.tmps ++ y.tmps ++ z.tmps ++ t.tmps
 | .mget _ _ _ _ m k => m.tmps ++ k.tmps
 | .mput _ _ m k v | .eput _ _ m k v => m.tmps ++ k.tmps ++ v.tmps
 | .ment _ _ _ m k => m.tmps ++ k.tmps
def AOp.eff : AOp → Bool
 | .box _ | .store .. | .mkslice .. | .app .. | .bsliceF .. | .mkmap .. | .mput .. | .ment .. | .eput .. => true
 | .call g z _ _ => g || z
 | _ => false
def AOp.gcall : AOp → Bool
 | .call _ z _ _ => z
 | .snil _ _ => true
 | _ => false
def AOp.sens : AOp → Bool
 | .load .. | .idxA .. | .len _ | .slc .. | .call .. | .mget .. | .snil .. => true
 | _ => false

def AOp.lays : AOp → Bool
 | .box _ | .mkslice .. | .app .. | .bsliceF .. | .mkmap .. => true
 | _ => false

def AG.looks (g : AG) : List Nat := (match g.guard with | some (t, _) => [t] | none => []) ++ g.op.tmps
def clash (g h : AG) : Bool :=
 (match g.dst with | some d => h.looks.contains d || h.dst == some d | none => false) ||
 (match h.dst with | some d => g.looks.contains d | none => false) ||
 (g.op.eff && (h.op.eff || h.op.sens)) || (g.op.sens && h.op.eff && !h.op.lays)
def edgesOk : Nat → List Oper → Bool
 | _, [] => true
 | j, o :: r => (o.after.toList.all fun e => !Region.binds .any e || decide (e.on < j)) && edgesOk (j + 1) r

def getM : List (Nat × Nat) → Nat → Nat
 | [], _ => 0
 | (j, m) :: r, k => if j = k then m else getM r k
def predsX (E : List (Nat × Nat)) (j : Nat) (o : Oper) : List Nat := (o.after.toList.filterMap fun e => if Region.binds .any e = true then some e.on else none) ++ (E.filterMap fun p => if p.2 = j then some p.1 else none)
def orX (acc : List (Nat × Nat)) : List Nat → Nat
 | [] => 0
 | k :: r => 2 ^ k ||| getM acc k ||| orX acc r
def maskX (ops : List Oper) (E : List (Nat × Nat)) : List Nat → List (Nat × Nat) → List (Nat × Nat)
 | [], acc => acc
 | j :: r, acc => maskX ops E r ((j, match ops[j]? with | some o => orX acc (predsX E j o) | none => 0) :: acc)
def pairX (M : List (Nat × Nat)) (i : Nat) (g : AG) (k : Nat) (x : Bool) (h : AG) : Bool :=
 (getM M k).testBit i || (!clash g h && (!(g.op.sens && h.op.eff) || x))
def leafOk (M : List (Nat × Nat)) : List (Nat × Bool × AG) → Bool
 | [] => true
 | (i, _, g) :: r => (r.all fun y => pairX M i g y.1 y.2.1 y.2.2) && leafOk M r
def nodupB : List Nat → Bool
 | [] => true
 | i :: r => !r.contains i && nodupB r
def orderX (ops : List Oper) (gs : List AG) (E : List (Nat × Nat)) : Nat → List Nat → Option (List Nat)
 | 0, done => some done.reverse
 | f + 1, done =>
  let rdy : Nat → Bool := fun i => !done.contains i && (match ops[i]? with | some o => (predsX E i o).all fun k => done.contains k | none => false)
  match (List.range gs.length).find? fun i => rdy i && (match gs[i]? with | some g => !g.op.eff | none => false) with
  | some i => orderX ops gs E f (i :: done)
  |none => match (List.range gs.length).find? rdy with
   | some i => orderX ops gs E f (i :: done)
   | none => none
def takesX (gs : List AG) (h : AG) : Bool := match h.op with
 | .app _ _ _ (.t s) _ => gs.any fun g => (g.dst == some s && (match g.op with | .app .. => true | _ => false)) || (Nat.ble gs.length 6 && (match g.op, h.dst with | .call _ _ _ xs, some d => (xsTmps xs).contains d | _, _ => false))
 | _ => false
def buildX (gs : List AG) (M : List (Nat × Nat)) : List (Nat × AG) → List Nat → Option (List (Nat × Bool × AG))
 | _, [] => some []
 |prev, k :: r => match gs[k]? with
  |some h => match buildX gs M ((k, h) :: prev) r with
   | some l => some ((k, h.op.eff && h.op.lays && !takesX gs h && prev.any (fun y => y.2.op.sens && !(getM M k).testBit y.1), h) :: l)
   | none => none
  | none => none
def badX (M : List (Nat × Nat)) : List (Nat × Bool × AG) → Option (Nat × Nat)
 | [] => none
 |(i, _, g) :: r => match r.find? fun y => !pairX M i g y.1 y.2.1 y.2.2 with
  | some y => some (i, y.1)
  | none => badX M r
def splitX (ops : List Oper) (gs : List AG) : Nat → List (Nat × Nat) → Option (List (List (Nat × Bool × AG)))
 | 0, _ => none
 |f + 1, E => match orderX ops gs E gs.length [] with
  | none => none
  |some ord => match buildX gs (maskX ops E ord []) [] ord with
   | none => none
   |some leaf => match badX (maskX ops E ord []) leaf with
    | none => if (leafOk (maskX ops E ord []) leaf && nodupB ord && (List.range gs.length).all (fun i => ord.contains i) && ord.all (fun i => decide (i < gs.length))) = true then some [leaf] else none
    |some (i, k) => if i = k then none else match splitX ops gs f ((i, k) :: E), splitX ops gs f ((k, i) :: E) with
     | some a, some b => some (a ++ b)
     | _, _ => none
def stripX (leaf : List (Nat × Bool × AG)) : List (Bool × AG) := leaf.map fun y => y.2
def compDraw (P : Program) (ops : List Oper) (gs : List AG) : ACode :=
 if (P.follows .mixedOrders && edgesOk 0 ops && gs.all (fun g => !g.op.gcall)) = true then match splitX ops gs 6 [] with
  | some gss => .draw (gss.map stripX)
  | none => .region gs true
 else .region gs true

def regX (P : Program) (dr : Bool) (ops : List Oper) (gs : List AG) : ACode := if dr = true then compDraw P ops gs else .region gs false
def compC (P : Program) (nt : Nat) : Code → Option ACode
 | .skip => some .skip
 | .region _ ops draw => (compGs P draw nt ops ops.toList).map fun gs => regX P draw ops.toList gs
 |.seq a b => match compC P nt a, compC P nt b with
  | some a, some b => some (.seq a b)
  | _, _ => none
 |.cond c a b => match compX c, compC P nt a, compC P nt b with
  | some c, some a, some b => some (.cond c a b)
  | _, _, _ => none
 | .block id a => (compC P nt a).map (.block id)
 | .loop a => (compC P nt a).map .loop
 | .exit id => some (.exit id)
 | .scope a => none
 | .ret => some .ret
 |.rangeFunc f ps a b => match compX f, compC P nt a, compC P nt b, ps.toList.all (fun t => decide (t < nt)) with
  | some f, some a, some b, true => some (.rangeF f ps.toList a b)
  | _, _, _, _ => none
 | _ => none
end Go.Abs

set_option linter.unusedVariables false
set_option linter.unusedSimpArgs false
namespace Go.Abs
open Go.RowKit

theorem RepP.one {w : World} {U : Nat → Prop} {p : PC} {v : Value} (h : RepP w U p v) : v.oneCell' = true := by
 cases h with
 | val h => cases v <;> simp_all [scalar, Value.oneCell']
 | slice => rfl
 | fmap => rfl
theorem RepA.one {w : World} {U : Nat → Prop} {ι : Pl} {N : Nat} {x : AC} {v : Value} (h : RepA w U ι N x v) : v.oneCell' = true := by
 cases h with
 | pure h => exact h.one
 | nils => rfl
 | tsl h => rfl
 | ptr => rfl
 | eptr => rfl
 | cptr => rfl
 | ref _ h => obtain ⟨a, n, c, e⟩ := h; rw [e]; rfl
 | clo => rfl
 | mref => rfl
 | top h => exact h
theorem cells_one {v : Value} (h : v.oneCell' = true) : v.cells = #[v] := by cases v <;> simp_all [Value.oneCell', Value.cells]

theorem RepA.mono {w w' : World} {U U' : Nat → Prop} {ι ι' : Pl} {N N' : Nat} {x : AC} {v : Value} (h : RepA w U ι N x v) (hU : ∀ b, b < w.heap.size → U b → U' b)
  (hw : ∀ b, b < w.heap.size → U b → w'.heap[b]? = w.heap[b]?) (hι : ∀ nm, nm < N → ι' nm = ι nm) (hN : N ≤ N') : RepA w' U' ι' N' x v := by
 induction h with
 | pure h => exact .pure (h.mono hU hw)
 | nils => exact .nils
 | tsl h => exact .tsl (h.mono hU hw)
 | ptr hn h => exact .ptr (by omega) (by rw [hι _ hn]; exact h)
 | eptr hn h => exact .eptr (by omega) (by rw [hι _ hn]; exact h)
 | cptr g hc =>
  refine .cptr g fun j p hj => ?_
  obtain ⟨h1, h2, h3⟩ := hc j p hj
  have hlt := World.block_lt_of_cell? w _ h2
  exact ⟨hU _ hlt h1, by rw [World.cell?_of_block (hw _ hlt h1)]; exact h2, h3.mono hU hw⟩
 | ref hn h => rw [← hι _ hn]; exact .ref (by omega) (by rw [hι _ hn]; exact h)
 | clo hl _ ih => exact .clo hl ih
 | mref hn h => exact .mref (by omega) (by rw [hι _ hn]; exact h)
 | top h => exact .top h

theorem RepV.mono {w w' : World} {U U' : Nat → Prop} {ι ι' : Pl} {N N' : Nat} {x : AV} {v : Value} (h : RepV w U ι N x v) (hU : ∀ b, b < w.heap.size → U b → U' b)
  (hw : ∀ b, b < w.heap.size → U b → w'.heap[b]? = w.heap[b]?) (hι : ∀ nm, nm < N → ι' nm = ι nm) (hN : N ≤ N') : RepV w' U' ι' N' x v := by
 induction h with
 | c h => exact .c (h.mono hU hw hι hN)
 | agg h => exact .agg (h.mono fun _ _ h => h.mono hU hw hι hN)
 | tup hl _ ih => exact .tup hl ih
 | top => exact .top

theorem look_put {fr : List (Nat × AV)} {d : Nat} {v : AV} {t : Nat} : look ((d, v) :: fr) t = if d = t then v else look fr t := rfl

theorem Sim.put {w0 : World} {U : Gh} {σ : St} {ι : Pl} {a : Act} {w : World} {d : Option Nat} {v : AV} {u : Value} (h : Sim w0 U σ ι a w)
  (hd : ∀ t, d = some t → t < a.tmps.size) (hv : RepV w (Free w0.heap.size U ι σ.mem) ι σ.nx v u) : Sim w0 U (σ.put d v) ι (a.put d u) w := by
 cases d with
 | none => exact h
 | some t =>
  refine ⟨fun s => ?_, h.defers, h.names, h.box, h.apart, h.below, h.keep, h.base⟩
  show RepV w (Free w0.heap.size U ι σ.mem) ι σ.nx (look ((t, v) :: σ.fr) s) ((a.tmps.setIfInBounds t u).getD s undef)
  rw [look_put]
  by_cases hs : t = s
  ·subst hs
   rw [if_pos rfl]
   have := hd t rfl
   simp [Array.getD_eq_getD_getElem?, this, hv]
  ·rw [if_neg hs]
   have := h.val s
   simpa [Array.getD_eq_getD_getElem?, Array.getElem?_setIfInBounds_ne hs] using this

theorem free_lt {B : Nat} {U : Gh} {ι : Pl} {mem : List (Nat × Box)} {b : Nat} (h : Free B U ι mem b) : ∀ nm bx, findB mem nm = some bx → blockOf (ι nm) ≠ some b := h.2

theorem BoxRep.block {B : Nat} {w : World} {U : Nat → Prop} {ι : Pl} {N nm : Nat} {bx : Box} (h : BoxRep B w U ι N nm bx) {b : Nat} (hb : blockOf (ι nm) = some b) : B ≤ b ∧ b < w.heap.size := by
 cases bx with
 | var xs =>
  obtain ⟨b', vs, T, h1, h2, h3, _⟩ := h
  rw [h1] at hb
  simp [blockOf] at hb
  subst hb
  exact ⟨h2, (Array.getElem?_eq_some_iff.1 h3).1⟩
 | arr e sz rows =>
  obtain ⟨cells, _, h1, _⟩ := h
  refine World.ownsRow.lt h1 b ?_
  generalize ι nm = v at *
  unfold blockOf at hb
  unfold Value.ownBlock
  split at hb <;> simp_all
  all_goals (rcases h1.2 with ⟨h, _⟩ | ⟨g, cap, cur, h, _⟩ <;> cases h)
 | arn e sz rows =>
  obtain ⟨cells, _, h1, _⟩ := h
  refine World.ownsRow.lt h1 b ?_
  generalize ι nm = v at *
  unfold blockOf at hb
  unfold Value.ownBlock
  split at hb <;> simp_all
  all_goals (rcases h1.2 with ⟨h, _⟩ | ⟨g, cap, cur, h, _⟩ <;> cases h)
 | map kt n ents =>
  obtain ⟨b', es, clock, h1, h2, h3, _⟩ := h
  rw [h1] at hb
  simp [blockOf] at hb
  subst hb
  exact ⟨h2, (Array.getElem?_eq_some_iff.1 h3).1⟩

theorem RowsRepA.mono {w w' : World} {U U' : Nat → Prop} {ι ι' : Pl} {N N' sz : Nat} {rows : List (List AC)} {cells : List Value} (h : RowsRepA w U ι N sz rows cells) (hU : ∀ b, b < w.heap.size → U b → U' b)
  (hw : ∀ b, b < w.heap.size → U b → w'.heap[b]? = w.heap[b]?) (hι : ∀ nm, nm < N → ι' nm = ι nm) (hN : N ≤ N') : RowsRepA w' U' ι' N' sz rows cells :=
 ⟨h.1, h.2.1, fun i row j p hi hj => by
  obtain ⟨v, hv, hp⟩ := h.2.2 i row j p hi hj
  exact ⟨v, hv, hp.mono hU hw hι hN⟩⟩
theorem EntRep.mono {w w' : World} {U U' : Nat → Prop} {ι ι' : Pl} {N N' : Nat} {kt : KT} {n : Option Nat} {x : MK × List AC} {e : MapEntry} (h : EntRep w U ι N kt n x e) (hU : ∀ b, b < w.heap.size → U b → U' b)
  (hw : ∀ b, b < w.heap.size → U b → w'.heap[b]? = w.heap[b]?) (hι : ∀ nm, nm < N → ι' nm = ι nm) (hN : N ≤ N') : EntRep w' U' ι' N' kt n x e := ⟨h.1, h.2.mono hU hw hι hN⟩

theorem BoxRep.grow {B : Nat} {w w' : World} {U U' : Nat → Prop} {ι ι' : Pl} {N N' nm : Nat} {bx : Box} (h : BoxRep B w U ι N nm bx) (hg : Below w.heap.size w w')
  (hU : ∀ b, b < w.heap.size → U b → U' b) (hι : ∀ nm, nm < N → ι' nm = ι nm) (hN : N ≤ N') (hn : nm < N) : BoxRep B w' U' ι' N' nm bx := by
 have hw : ∀ b, b < w.heap.size → U b → w'.heap[b]? = w.heap[b]? := fun b hb _ => hg.block b hb
 cases bx with
 | var xs =>
  obtain ⟨b, vs, T, h1, h2, h3, h4⟩ := h
  exact ⟨b, vs, T, by rw [hι _ hn]; exact h1, h2, by rw [hg.block b (Array.getElem?_eq_some_iff.1 h3).1]; exact h3, h4.mono fun _ _ h => h.mono hU hw hι hN⟩
 | arr e sz rows =>
  obtain ⟨cells, h0, h1, h2, h3, h4, h5⟩ := h
  refine ⟨cells, h0, ?_, h2, h3, h4, fun i row j p hi hj => ?_⟩
  ·rw [hι _ hn]
   exact World.ownsRow.kept (row := none) h1 ⟨hg.os, hg.tape, hg.output, hg.size, fun k hk _ => hg.block k hk⟩ (by cases (ι nm).ownBlock <;> simp)
  ·obtain ⟨v, hv, hp⟩ := h5 i row j p hi hj
   exact ⟨v, hv, hp.mono hU hw⟩
 | arn e sz rows =>
  obtain ⟨cells, h0, h1, h2, h3⟩ := h
  refine ⟨cells, h0, ?_, h2, h3.mono hU hw hι hN⟩
  rw [hι _ hn]
  exact World.ownsRow.kept (row := none) h1 ⟨hg.os, hg.tape, hg.output, hg.size, fun k hk _ => hg.block k hk⟩ (by cases (ι nm).ownBlock <;> simp)
 | map kt n ents =>
  obtain ⟨b, es, clock, h1, h2, h3, h4, h5⟩ := h
  exact ⟨b, es, clock, by rw [hι _ hn]; exact h1, h2, by rw [hg.block b (Array.getElem?_eq_some_iff.1 h3).1]; exact h3, h4.mono fun _ _ h => h.mono hU hw hι hN, h5⟩

theorem Sim.grow {w0 : World} {U : Gh} {σ : St} {ι : Pl} {a : Act} {w w' : World} (h : Sim w0 U σ ι a w) (hg : Below w.heap.size w w') : Sim w0 U σ ι a w' :=
 ⟨fun t => (h.val t).mono (fun _ _ h => h) (fun b hb _ => hg.block b hb) (fun _ _ => rfl) (Nat.le_refl _), h.defers, h.names,
  fun nm bx hf => (h.box nm bx hf).grow hg (fun _ _ h => h) (fun _ _ => rfl) (Nat.le_refl _) (h.names _ _ hf), h.apart, h.below.trans (hg.mono h.below.size),
  U.mono _ _ _ _ h.keep (fun _ _ h => h) (fun b hb _ => hg.block b hb), h.base⟩

theorem findB_cons {m : List (Nat × Box)} {k : Nat} {c : Box} {n : Nat} : findB ((k, c) :: m) n = if k = n then some c else findB m n := rfl

theorem Sim.newBox {w0 : World} {U : Gh} {σ : St} {ι : Pl} {a : Act} {w w' : World} {bx : Box} {pv : Value} (h : Sim w0 U σ ι a w) (hg : Below w.heap.size w w')
  (hfresh : ∀ b, blockOf pv = some b → w.heap.size ≤ b)
  (hb : ∀ ι', (∀ nm, nm < σ.nx → ι' nm = ι nm) → ι' σ.nx = pv → (∀ b, b < w.heap.size → Free w0.heap.size U ι σ.mem b → Free w0.heap.size U ι' ((σ.nx, bx) :: σ.mem) b) → BoxRep w0.heap.size w' (Free w0.heap.size U ι' ((σ.nx, bx) :: σ.mem)) ι' (σ.nx + 1) σ.nx bx) :
  ∃ ι', Sim w0 U { σ with mem := (σ.nx, bx) :: σ.mem, nx := σ.nx + 1 } ι' a w' ∧ ι' σ.nx = pv ∧ (∀ nm, nm < σ.nx → ι' nm = ι nm) ∧
   (∀ b, b < w.heap.size → Free w0.heap.size U ι σ.mem b → Free w0.heap.size U ι' ((σ.nx, bx) :: σ.mem) b) := by
 let ι' : Pl := fun n => if n = σ.nx then pv else ι n
 have e1 : ι' σ.nx = pv := if_pos rfl
 have e2 : ∀ nm, nm < σ.nx → ι' nm = ι nm := fun nm hn => if_neg (by omega)
 have hfree : ∀ b, b < w.heap.size → Free w0.heap.size U ι σ.mem b → Free w0.heap.size U ι' ((σ.nx, bx) :: σ.mem) b := by
  intro b hb hf
  refine ⟨hf.1, fun nm bx' hn => ?_⟩
  rw [findB_cons] at hn
  by_cases e : σ.nx = nm
  ·subst e
   rw [e1]
   intro hc
   have := hfresh b hc
   omega
  ·rw [if_neg e] at hn
   rw [e2 _ (h.names _ _ hn)]
   exact hf.2 _ _ hn
 refine ⟨ι', ⟨fun t => ?_, h.defers, fun nm bx' hn => ?_, fun nm bx' hn => ?_, ?_, h.below.trans (hg.mono h.below.size), U.mono _ _ _ _ h.keep hfree (fun b hb _ => hg.block b hb), ⟨Nat.le_succ_of_le h.base.1, fun nm hn => (e2 nm (Nat.lt_of_lt_of_le hn h.base.1)).trans (h.base.2 nm hn)⟩⟩, e1, e2, hfree⟩
 ·exact (h.val t).mono hfree (fun b hb _ => hg.block b hb) e2 (Nat.le_succ _)
 ·rw [findB_cons] at hn
  show nm < σ.nx + 1
  by_cases e : σ.nx = nm
  ·omega
  ·rw [if_neg e] at hn
   have := h.names _ _ hn
   omega
 ·rw [findB_cons] at hn
  by_cases e : σ.nx = nm
  ·subst e
   rw [if_pos rfl] at hn
   cases hn
   exact hb ι' e2 e1 hfree
  ·rw [if_neg e] at hn
   exact (h.box nm bx' hn).grow hg hfree e2 (Nat.le_succ _) (h.names _ _ hn)
 ·intro nm nm' b1 b2 b h1 h2 h3 h4
  rw [findB_cons] at h1 h2
  by_cases e : σ.nx = nm
  ·by_cases e' : σ.nx = nm'
   ·omega
   ·rw [if_neg e'] at h2
    subst e
    rw [e1] at h3
    rw [e2 _ (h.names _ _ h2)] at h4
    have := hfresh b h3
    have := ((h.box _ _ h2).block h4).2
    omega
  ·rw [if_neg e] at h1
   by_cases e' : σ.nx = nm'
   ·subst e'
    rw [e1] at h4
    rw [e2 _ (h.names _ _ h1)] at h3
    have := hfresh b h4
    have := ((h.box _ _ h1).block h3).2
    omega
   ·rw [if_neg e'] at h2
    rw [e2 _ (h.names _ _ h1)] at h3
    rw [e2 _ (h.names _ _ h2)] at h4
    exact h.apart _ _ _ _ _ h1 h2 h3 h4

theorem findB_setB {m : List (Nat × Box)} {k : Nat} {c : Box} : ∀ {n : Nat}, findB (setB m k c) n = if k = n then (findB m n).map (fun _ => c) else findB m n := by
 induction m with
 | nil => intro n; simp [setB, findB]
 | cons x m ih =>
  intro n
  obtain ⟨k', b⟩ := x
  simp only [setB]
  by_cases e : k' = k
  ·subst e
   rw [if_pos rfl, findB_cons, findB_cons]
   by_cases e' : k' = n
   ·simp [e']
   ·simp [e']
  ·rw [if_neg e, findB_cons, findB_cons, ih]
   by_cases e' : k' = n
   ·subst e'
    simp [Ne.symm e]
   ·simp [e']
end Go.Abs

set_option linter.unusedVariables false
set_option linter.unusedSimpArgs false
namespace Go.Abs
open Go.RowKit

theorem RepP.nil {w : World} {U : Nat → Prop} {a : Option Addr} {c : Nat} : RepP w U (.slice []) (.slice a 0 c) :=
 .slice (sz := 0) (fun _ _ => undef) rfl (Nat.zero_le _) (by omega) (by simp) (by simp) (by simp)

section
variable {w : World} {U : Nat → Prop} {ι : Pl} {N : Nat}
theorem cellOf_rep {v : Value} {x : AC} (h : cellOf v = some x) : RepA w U ι N x v := by
 unfold cellOf at h
 split at h
 ·cases h; exact .nils
 ·split at h
  ·cases h; exact .pure (.val ‹_›)
  ·cases h
theorem cellsOf_rep : ∀ {vs : List Value} {xs : List AC}, cellsOf vs = some xs → All2 (RepA w U ι N) xs vs
 | [], xs, h => by cases h; exact .nil
 |v :: r, xs, h => by
  unfold cellsOf at h
  split at h
  ·cases h
   exact .cons (cellOf_rep ‹_›) (cellsOf_rep ‹_›)
  ·cases h
theorem pcellOf_rep {v : Value} {x : PC} (h : pcellOf v = some x) : RepP w U x v := by
 unfold pcellOf at h
 split at h
 ·cases h; exact .nil
 ·split at h
  ·cases h; exact .val ‹_›
  ·cases h
theorem pcellsOf_rep : ∀ {vs : List Value} {xs : List PC}, pcellsOf vs = some xs → All2 (RepP w U) xs vs
 | [], xs, h => by cases h; exact .nil
 |v :: r, xs, h => by
  unfold pcellsOf at h
  split at h
  ·cases h
   exact .cons (pcellOf_rep ‹_›) (pcellsOf_rep ‹_›)
  ·cases h
theorem constOf_rep {v : Value} {x : AV} (h : constOf v = some x) : RepV w U ι N x v := by
 unfold constOf at h
 split at h
 ·rename_i vs
  cases e : cellsOf vs.toList with
  | none => simp [e] at h
  | some xs => simp [e] at h; subst h; exact .agg (cellsOf_rep e)
 ·rename_i vs
  split at h
  ·cases h
   exact .tup (by simp; omega) (by simp)
  ·cases h
 ·cases e : cellOf v with
  | none => simp [e] at h
  | some y => simp [e] at h; subst h; exact .c (cellOf_rep e)

theorem repV_val {v u : Value} (h : RepV w U ι N (.c (.pure (.val v))) u) : u = v ∧ scalar v = true := by
 cases h with | c h => cases h with | pure h => cases h with | val h => exact ⟨rfl, h⟩
theorem repV_of_val {v : Value} (h : scalar v = true) : RepV w U ι N (.c (.pure (.val v))) v := .c (.pure (.val h))
theorem repV_int (k : IntKind) (n : Int) : RepV w U ι N (.c (.pure (.val (.int k n)))) (.int k n) := repV_of_val rfl
theorem repV_bool (b : Bool) : RepV w U ι N (.c (.pure (.val (.bool b)))) (.bool b) := repV_of_val rfl
theorem repV_undef : RepV w U ι N (.tup []) undef := .tup rfl (by simp)
theorem RepV.cells {v : AV} {u : Value} {xs : List AC} (h : RepV w U ι N v u) (hx : v.cells = some xs) : All2 (RepA w U ι N) xs u.cells.toList := by
 cases h with
 | c h =>
  cases hx
  rw [cells_one h.one]
  exact .cons h .nil
 | agg h => cases hx; exact h
 | tup => cases hx
 | top => cases hx
end

section
variable {P : Program} {o : Oper} {a : Act} {w w0 : World} {U : Gh} {ι : Pl} {σ : St} {next : Act → World → Prop} {Q : Exit → Act → World → Prop} {K : AV → St → Prop}

theorem compX_rep {x : Operand} {y : AX} (h : compX x = some y) (hs : Sim w0 U σ ι a w) : RepV w (Free w0.heap.size U ι σ.mem) ι σ.nx (y.ev σ.fr) (a.eval x) := by
 cases x with
 | tmp t => cases h; exact hs.val t
 | const v =>
  simp [compX] at h
  obtain ⟨z, hz, rfl⟩ := h
  exact constOf_rep hz
 | global g => cases h
 | func f =>
  cases h
  exact .c (.clo rfl (by simp))

def Goes (w0 : World) (U : Gh) (a : Act) (o : Oper) (K : AV → St → Prop) (next : Act → World → Prop) : Prop :=
 ∀ v σ' ι' u w', K v σ' → Sim w0 U σ' ι' a w' → RepV w' (Free w0.heap.size U ι' σ'.mem) ι' σ'.nx v u → next (a.put o.dst u) w'

theorem wp_value {u : Value} {w' : World} (h : (execOp a.eval o).run P w = .ok (.value u) w') (hn : next (a.put o.dst u) w') : o.wp P a w next Q := by
 unfold Oper.wp
 rw [h]
 exact hn
theorem wp_skipped {w' : World} (h : (execOp a.eval o).run P w = .ok .skip w') (hn : next (a.put o.dst undef) w') : o.wp P a w next Q := by
 unfold Oper.wp
 rw [h]
 exact hn

theorem op_mv {x : Operand} {y : AX} (ho : o.op = .move x ∨ o.op = .assign x) (hx : compX x = some y) (h : opW P (.mv y) σ K) (hs : Sim w0 U σ ι a w) (hn : Goes w0 U a o K next) : o.wp P a w next Q := by
 refine wp_value (u := a.eval x) (w' := w) ?_ (hn _ σ ι _ w h hs (compX_rep hx hs))
 rcases ho with ho | ho <;> simp [execOp, ho]

theorem op_pick {x y z : Operand} {c p q : AX} (ho : o.op = .pick x y z) (hx : compX x = some c) (hy : compX y = some p) (hz : compX z = some q) (h : opW P (.pick c p q) σ K) (hs : Sim w0 U σ ι a w) (hn : Goes w0 U a o K next) : o.wp P a w next Q := by
 have r1 := compX_rep hx hs
 simp only [opW] at h
 split at h
 ·rename_i t e
  rw [e] at r1
  have e1 := (repV_val r1).1
  refine wp_value (u := if t then a.eval y else a.eval z) (w' := w) (by simp [execOp, ho, e1, asBool]) ?_
  cases t with
  | true => exact hn _ σ ι _ w (h.1 rfl) hs (compX_rep hy hs)
  | false => exact hn _ σ ι _ w (h.2 rfl) hs (compX_rep hz hs)
 ·exact h.elim

theorem op_conv {s d : TypeId} {x : Operand} {y : AX} {k k0 : IntKind} (ho : o.op = .convert s d x) (hk0 : P.underlying s = some (.int k0)) (hk : P.underlying d = some (.int k)) (hx : compX x = some y) (h : opW P (.conv k y) σ K) (hs : Sim w0 U σ ι a w) (hn : Goes w0 U a o K next) : o.wp P a w next Q := by
 have r1 := compX_rep hx hs
 simp only [opW] at h
 split at h
 ·rename_i k1 n e
  rw [e] at r1
  have e1 := (repV_val r1).1
  refine wp_value (u := .int k (k.wrap n)) (w' := w) ?_ (hn _ σ ι _ w h hs (repV_int _ _))
  simp [execOp, ho, e1, convert, run_underlying hk0, run_underlying hk, Conv.intToInt]
 ·exact h.elim

theorem op_un {u : UnOp} {t : TypeId} {x : Operand} {y : AX} (ho : o.op = .unOp u t x) (hx : compX x = some y) (h : opW P (.un u y) σ K) (hs : Sim w0 U σ ι a w) (hn : Goes w0 U a o K next) : o.wp P a w next Q := by
 have r1 := compX_rep hx hs
 simp only [opW] at h
 split at h
 ·rename_i b e
  rw [e] at r1
  have e1 := (repV_val r1).1
  exact wp_value (u := .bool (!b)) (w' := w) (by simp [execOp, ho, e1, Op.unary]) (hn _ σ ι _ w h hs (repV_bool _))
 ·rename_i k n e
  rw [e] at r1
  have e1 := (repV_val r1).1
  exact wp_value (w' := w) (by simp [execOp, ho, e1, Op.unary, Op.intArith]; try rfl) (hn _ σ ι _ w h hs (repV_int _ _))
 ·rename_i k n e
  rw [e] at r1
  have e1 := (repV_val r1).1
  exact wp_value (w' := w) (by simp [execOp, ho, e1, Op.unary, Op.intBits]; try rfl) (hn _ σ ι _ w h hs (repV_int _ _))
 ·exact h.elim

theorem run_binW {op : BinOp} {t : TypeId} {x y : Value} {K : Value → Prop} (h : binW op x y K) (hop : op ≠ .shl ∧ op ≠ .shr) : ∃ v, (binOp op t x y).run P w = .ok v w ∧ scalar v = true ∧ K v := by
 unfold binW at h
 split at h
 ·obtain ⟨rfl, h⟩ := h
  simp only [binI] at h
  split at h <;> first
   | exact h.elim
   | (obtain ⟨h0, h⟩ := h; exact ⟨_, by simp [binOp, Op.intArith, Op.intDiv, Op.intBits, Op.intCmp, h0]; try rfl, rfl, h⟩)
   | exact ⟨_, by simp [binOp, Op.intArith, Op.intDiv, Op.intBits, Op.intCmp]; try rfl, rfl, h⟩
 ·simp only [binS] at h
  split at h
  ·obtain ⟨h0, h⟩ := h
   refine ⟨_, ?_, rfl, h⟩
   simp [binOp, Op.stringOp]
   omega
  all_goals first
   | exact h.elim
   | exact ⟨_, by simp [binOp, Op.stringOp]; try rfl, rfl, h⟩
 ·exact h.elim

def plainV : Value → Bool
 | .nilIface | .agg _ => false
 | _ => true
theorem eqGuard_scalar {op : BinOp} {t : TypeId} {x y : Operand} {u v : Value} (hu : plainV u = true) : (eqGuard op t x y u v).run P w = .ok () w := by
 cases u <;> simp [plainV] at hu <;> (unfold eqGuard; cases op <;> simp)

theorem op_bin {op : BinOp} {t t' : TypeId} {x y : Operand} {p q : AX} (ho : o.op = .binOp op t x y t') (hx : compX x = some p) (hy : compX y = some q) (h : opW P (.bin op p q) σ K) (hs : Sim w0 U σ ι a w) (hn : Goes w0 U a o K next) : o.wp P a w next Q := by
 have r1 := compX_rep hx hs
 have r2 := compX_rep hy hs
 simp only [opW] at h
 split at h
 ·rename_i u v e e'
  rw [e] at r1
  rw [e'] at r2
  obtain ⟨e1, s1⟩ := repV_val r1
  obtain ⟨e2, s2⟩ := repV_val r2
  split at h
  ·unfold shiftW at h
   split at h
   ·obtain ⟨h0, h⟩ := h
    simp only [shiftI] at h
    refine wp_value (w' := w) ?_ (hn _ σ ι _ w h hs (repV_int _ _))
    simp [execOp, ho, e1, e2, eqGuard, binOp, Op.shift, Int.not_lt.2 h0]
   ·exact h.elim
  ·unfold shiftW at h
   split at h
   ·obtain ⟨h0, h⟩ := h
    simp only [shiftI] at h
    refine wp_value (w' := w) ?_ (hn _ σ ι _ w h hs (repV_int _ _))
    simp [execOp, ho, e1, e2, eqGuard, binOp, Op.shift, Int.not_lt.2 h0]
   ·exact h.elim
  ·rename_i n1 n2
   have hg : plainV u = true := by
    unfold binW at h
    split at h
    ·rfl
    ·rfl
    ·exact h.elim
   obtain ⟨r, hr, hsc, hk⟩ := run_binW (P := P) (w := w) (t := t) h ⟨n1, n2⟩
   refine wp_value (u := r) (w' := w) ?_ (hn _ σ ι _ w hk hs (repV_of_val hsc))
   simp only [execOp, ho, e1, e2]
   rw [Sem.run_bind, Sem.run_bind, eqGuard_scalar hg]
   simp [hr]
 ·exact h.elim

theorem run_equalIn_bool (d : Nat) {t : TypeId} {u v : Bool} (ht : P.underlying t = some .bool) : (Op.equalIn (d + 1) t (.bool u) (.bool v)).run P w = .ok (u == v) w := by
 simp [Op.equalIn, run_underlying ht]
theorem op_eqb {op : BinOp} {t t' : TypeId} {x y : Operand} {p q : AX} {neg : Bool} (hop : (op = .eql ∧ neg = false) ∨ (op = .neq ∧ neg = true)) (ht : P.underlying t = some .bool) (ho : o.op = .binOp op t x y t') (hx : compX x = some p) (hy : compX y = some q)
  (h : opW P (.eqb neg p q) σ K) (hs : Sim w0 U σ ι a w) (hn : Goes w0 U a o K next) : o.wp P a w next Q := by
 have r1 := compX_rep hx hs
 have r2 := compX_rep hy hs
 simp only [opW] at h
 split at h
 ·rename_i u v e e'
  rw [e] at r1
  rw [e'] at r2
  have e1 := (repV_val r1).1
  have e2 := (repV_val r2).1
  have hq : (Op.equal t (.bool u) (.bool v)).run P w = .ok (u == v) w := run_equalIn_bool 9999 ht
  refine wp_value (u := .bool ((u == v) != neg)) (w' := w) ?_ (hn _ σ ι _ w h hs (repV_bool _))
  simp only [execOp, ho, e1, e2]
  rw [Sem.run_bind, Sem.run_bind, eqGuard_scalar rfl]
  rcases hop with ⟨rfl, rfl⟩ | ⟨rfl, rfl⟩ <;> simp [binOp, hq]
 ·exact h.elim
theorem op_fnil {op : BinOp} {t t' : TypeId} {x y : Operand} {p q : AX} {neg : Bool} (hop : (op = .eql ∧ neg = false) ∨ (op = .neq ∧ neg = true)) (ht : isFunc P t = true) (hq : isNilF q = true) (ho : o.op = .binOp op t x y t') (hx : compX x = some p) (hy : compX y = some q)
  (h : opW P (.fnil neg p) σ K) (hs : Sim w0 U σ ι a w) (hn : Goes w0 U a o K next) : o.wp P a w next Q := by
 have r1 := compX_rep hx hs
 have r2 := compX_rep hy hs
 unfold isNilF at hq
 split at hq
 ·have e2 := (repV_val r2).1
  unfold isFunc at ht
  split at ht
  ·rename_i hT
   simp only [opW] at h
   split at h
   ·rename_i f caps e
    rw [e] at r1
    generalize hu : a.eval x = u at r1
    cases r1 with
    | c r1 =>
     cases r1 with
     | @clo _ _ vs hl hh =>
      have hr : (Op.equal t (.func (.func f) #[] vs) .nilFunc).run P w = .ok false w := by
       show (Op.equalIn (9999 + 1) t (.func (.func f) #[] vs) .nilFunc).run P w = .ok false w
       unfold Op.equalIn
       simp [run_underlying hT]
      have hg : (eqGuard op t x y (.func (.func f) #[] vs) .nilFunc).run P w = .ok () w := by unfold eqGuard; cases op <;> simp
      refine wp_value (u := .bool neg) (w' := w) ?_ (hn _ σ ι _ w h hs (repV_bool _))
      simp only [execOp, ho, hu, e2]
      rw [Sem.run_bind, Sem.run_bind, hg]
      rcases hop with ⟨rfl, rfl⟩ | ⟨rfl, rfl⟩ <;> simp [binOp, hr]
   ·rename_i e
    rw [e] at r1
    have e1 := (repV_val r1).1
    have hr : (Op.equal t .nilFunc .nilFunc).run P w = .ok true w := by
     show (Op.equalIn (9999 + 1) t .nilFunc .nilFunc).run P w = .ok true w
     unfold Op.equalIn
     simp [run_underlying hT]
    have hg : (eqGuard op t x y .nilFunc .nilFunc).run P w = .ok () w := by unfold eqGuard; cases op <;> simp
    refine wp_value (u := .bool (!neg)) (w' := w) ?_ (hn _ σ ι _ w h hs (repV_bool _))
    simp only [execOp, ho, e1, e2]
    rw [Sem.run_bind, Sem.run_bind, hg]
    rcases hop with ⟨rfl, rfl⟩ | ⟨rfl, rfl⟩ <;> simp [binOp, hr]
   ·exact h.elim
  ·cases ht
 ·cases hq
end
end Go.Abs

set_option linter.unusedVariables false
set_option linter.unusedSimpArgs false
namespace Go.Abs
open Go.RowKit

theorem add_off (b off k : Nat) : (⟨b, off, none⟩ : Addr).add k = ⟨b, off + k, none⟩ := by
 unfold Addr.add
 split <;> simp_all

section
variable {P : Program} {o : Oper} {a : Act} {w w0 : World} {U : Gh} {ι : Pl} {σ : St} {next : Act → World → Prop} {Q : Exit → Act → World → Prop} {K : AV → St → Prop}

theorem rowOf_one {t : TypeId} (h : rowOf P t = some none) {v : Value} {ad : Addr} (hc : w.cell? ad = some v) : (loadVar t ad).run P w = .ok v w := by
 unfold rowOf at h
 split at h
 ·cases h
 ·cases h
 ·rename_i d i n1 n2 hd hi
  have hag : (isAgg t).run P w = .ok false w := by
   unfold isAgg
   cases d <;> first | (simp [run_underlying hd]; done) | exact absurd rfl (n1 _) | exact absurd rfl (n2 _ _)
  simp [loadVar, hag, hc]
 ·cases h
theorem rowOf_row {t : TypeId} {n : Nat} (h : rowOf P t = some (some n)) {vs : List Value} {ad : Addr} (hn : vs.length = n) (hc : ∀ (j : Nat) v, vs[j]? = some v → w.cell? (ad.add j) = some v) : (loadVar t ad).run P w = .ok (.agg vs.toArray) w := by
 have hl := run_loadCells_list (P := P) w ad vs hc
 unfold rowOf at h
 split at h
 ·rename_i fs i hd hi
  simp at h
  have hag : (isAgg t).run P w = .ok true w := by simp [isAgg, run_underlying hd]
  simp [loadVar, hag, sizeOf, typeInfo, hi, h, ← hn, hl]
 ·rename_i fs i hd hi
  simp at h
  have hag : (isAgg t).run P w = .ok true w := by simp [isAgg, run_underlying hd]
  simp [loadVar, hag, sizeOf, typeInfo, hi, h, ← hn, hl]
 ·split at h <;> cases h
 ·cases h

theorem load_cells {q : AC} {u : Value} {xs : List AC} (hs : Sim w0 U σ ι a w) (h : RepA w (Free w0.heap.size U ι σ.mem) ι σ.nx q u) (hx : loadCells? σ.mem q = some xs) :
  ∃ b off, u = .pointer (some ⟨b, off, none⟩) ∧ ∀ (j : Nat) x, xs[j]? = some x → ∃ v, w.cell? ⟨b, off + j, none⟩ = some v ∧ RepA w (Free w0.heap.size U ι σ.mem) ι σ.nx x v := by
 cases h with
 | ptr hn h =>
  rename_i nm off b
  unfold loadCells? at hx
  split at hx
  ·rename_i nm' off' e
   cases e
   split at hx
   ·rename_i ys hf
    cases hx
    obtain ⟨b', vs, T, h1, h2, h3, h4⟩ := hs.box _ _ hf
    rw [h] at h1
    simp at h1
    subst h1
    refine ⟨b, off, rfl, fun j x hj => ?_⟩
    rw [List.getElem?_drop] at hj
    obtain ⟨v, hv, hr⟩ := h4.get hj
    exact ⟨v, by rw [cell_of_row w b _ vs T (0, 0) h3]; simpa using hv, hr⟩
   ·cases hx
  all_goals simp at *
 | cptr g hc =>
  rename_i cells b off
  simp [loadCells?] at hx
  subst hx
  refine ⟨b, off, rfl, fun j x hj => ?_⟩
  rw [List.getElem?_map] at hj
  cases e : cells[j]? with
  | none => simp [e] at hj
  | some p =>
   simp [e] at hj
   subst hj
   obtain ⟨_, h2, h3⟩ := hc j p e
   exact ⟨_, h2, .pure h3⟩
 | eptr hn h =>
  rename_i nm sz row off b n c
  simp only [loadCells?] at hx
  split at hx
  ·rename_i e sz' rows hf
   split at hx
   ·rename_i hsz
    subst hsz
    cases hr : rows[row]? with
    | none => simp [hr] at hx
    | some r =>
     simp [hr] at hx
     subst hx
     obtain ⟨cells, h0, h1, h2, h3, h4, h5⟩ := hs.box _ _ hf
     refine ⟨b, row * sz + off, rfl, fun j x hj => ?_⟩
     rw [List.getElem?_drop, List.getElem?_map] at hj
     cases e : r[off + j]? with
     | none => simp [e] at hj
     | some p =>
      simp [e] at hj
      subst hj
      obtain ⟨v, hv, hp⟩ := h5 row r (off + j) p hr e
      rw [h] at h1
      have := World.ownsRow.cells h1 (g := b) rfl (row * sz + (off + j)) v hv
      rw [add_off] at this
      exact ⟨v, by rw [← this]; congr 2; omega, .pure hp⟩
   ·cases hx
  ·rename_i e sz' rows hf
   split at hx
   ·rename_i hsz
    subst hsz
    cases hr : rows[row]? with
    | none => simp [hr] at hx
    | some r =>
     simp [hr] at hx
     subst hx
     obtain ⟨cells, h0, h1, h2, h3, h4, h5⟩ := hs.box _ _ hf
     refine ⟨b, row * sz + off, rfl, fun j x hj => ?_⟩
     rw [List.getElem?_drop] at hj
     obtain ⟨v, hv, hp⟩ := h5 row r (off + j) x hr hj
     rw [h] at h1
     have := World.ownsRow.cells h1 (g := b) rfl (row * sz + (off + j)) v hv
     rw [add_off] at this
     exact ⟨v, by rw [← this]; congr 2; omega, hp⟩
   ·cases hx
  ·cases hx
 | pure => simp [loadCells?] at hx
 | nils => simp [loadCells?] at hx
 | tsl => simp [loadCells?] at hx
 | ref => simp [loadCells?] at hx
 | mref => simp [loadCells?] at hx
 | clo => simp [loadCells?] at hx
 | top => simp [loadCells?] at hx

theorem All2.choose {α β : Type} {R : α → β → Prop} : ∀ {xs : List α}, (∀ (j : Nat) x, xs[j]? = some x → ∃ y, R x y) → ∃ ys, All2 R xs ys
 | [], _ => ⟨[], .nil⟩
 |x :: xs, h => by
  obtain ⟨y, hy⟩ := h 0 x rfl
  obtain ⟨ys, hys⟩ := All2.choose (xs := xs) fun j z hz => h (j + 1) z hz
  exact ⟨y :: ys, .cons hy hys⟩

theorem op_load {t : TypeId} {x : Operand} {y : AX} {n : Option Nat} (ho : o.op = .load t x) (ht : rowOf P t = some n) (hx : compX x = some y) (h : opW P (.load n y) σ K) (hs : Sim w0 U σ ι a w) (hn : Goes w0 U a o K next) : o.wp P a w next Q := by
 have r1 := compX_rep hx hs
 simp only [opW] at h
 split at h
 ·rename_i q e
  rw [e] at r1
  cases r1 with
  | c r1 =>
   split at h
   ·rename_i xs hxs
    obtain ⟨b, off, e1, hc⟩ := load_cells hs r1 hxs
    cases n with
    | none =>
     simp only at h
     split at h
     ·rename_i z zs
      obtain ⟨v, hv, hr⟩ := hc 0 z rfl
      refine wp_value (u := v) (w' := w) ?_ (hn _ σ ι _ w h hs (.c hr))
      have := rowOf_one (P := P) ht hv
      simp only [Nat.add_zero] at this
      simp [execOp, ho, e1, Instr.loadAt, Instr.sureAddr, this]
     ·exact h.elim
    | some n =>
     obtain ⟨hle, h⟩ := h
     have hg : ∃ ys : List Value, ys.length = n ∧ ∀ (j : Nat) x v, (xs.take n)[j]? = some x → ys[j]? = some v → w.cell? ⟨b, off + j, none⟩ = some v ∧ RepA w (Free w0.heap.size U ι σ.mem) ι σ.nx x v := by
      refine ⟨(List.range n).map fun j => (w.cell? ⟨b, off + j, none⟩).getD undef, by simp, fun j x v hj hv => ?_⟩
      have hjn : j < n := by have := (List.getElem?_eq_some_iff.1 hj).1; simp at this; omega
      rw [List.getElem?_take_of_lt hjn] at hj
      obtain ⟨u, hu, hr⟩ := hc j x hj
      simp [List.getElem?_map, List.getElem?_range hjn, hu] at hv
      subst hv
      exact ⟨hu, hr⟩
     obtain ⟨ys, hl, hy⟩ := hg
     have hlt : (xs.take n).length = n := by simp; omega
     refine wp_value (u := .agg ys.toArray) (w' := w) ?_ (hn _ σ ι _ w h hs (.agg (All2.of_get (by rw [hlt]; simp [hl]) fun j x v hj hv => (hy j x v hj (by simpa using hv)).2)))
     have := rowOf_row (P := P) (w := w) (ad := ⟨b, off, none⟩) ht (vs := ys) hl fun j v hv => by
      have hjn : j < (xs.take n).length := by rw [hlt, ← hl]; exact (List.getElem?_eq_some_iff.1 hv).1
      rw [add_off]
      exact (hy j _ v (List.getElem?_eq_getElem hjn) hv).1
     simp [execOp, ho, e1, Instr.loadAt, Instr.sureAddr, this]
   ·exact h.elim
 ·exact h.elim

theorem op_nilc {x : Operand} {y : AX} (ho : o.op = .nilCheck x) (hx : compX x = some y) (h : opW P (.nilc y) σ K) (hs : Sim w0 U σ ι a w) (hn : Goes w0 U a o K next) : o.wp P a w next Q := by
 have r1 := compX_rep hx hs
 generalize hu : a.eval x = u at r1
 simp only [opW] at h
 split at h
 ·rename_i e
  rw [e] at r1
  cases r1 with
  | c r1 =>
   have r2 := r1
   cases r1
   exact wp_value (w' := w) (by simp [execOp, ho, hu]) (hn _ σ ι _ w h hs (.c r2))
 ·rename_i e
  rw [e] at r1
  cases r1 with
  | c r1 =>
   have r2 := r1
   cases r1
   exact wp_value (w' := w) (by simp [execOp, ho, hu]) (hn _ σ ι _ w h hs (.c r2))
 ·rename_i e
  rw [e] at r1
  cases r1 with
  | c r1 =>
   have r2 := r1
   cases r1
   exact wp_value (w' := w) (by simp [execOp, ho, hu]) (hn _ σ ι _ w h hs (.c r2))
 ·rename_i e
  rw [e] at r1
  cases r1 with
  | c r1 =>
   have r2 := r1
   cases r1
   exact wp_value (w' := w) (by simp [execOp, ho, hu]) (hn _ σ ι _ w h hs (.c r2))
 ·exact h.elim
end
end Go.Abs

set_option linter.unusedVariables false
set_option linter.unusedSimpArgs false
namespace Go.Abs
open Go.RowKit

section
variable {P : Program} {o : Oper} {a : Act} {w w0 : World} {U : Gh} {ι : Pl} {σ : St} {next : Act → World → Prop} {Q : Exit → Act → World → Prop} {K : AV → St → Prop}

theorem box_step {x : AV} {u : Value} {T : TypeId} {xs : List AC} (hx : x.cells = some xs) (hr : RepV w (Free w0.heap.size U ι σ.mem) ι σ.nx x u) (h : K (.c (.ptr σ.nx 0)) { σ with mem := (σ.nx, .var xs) :: σ.mem, nx := σ.nx + 1 })
  (hs : Sim w0 U σ ι a w) (hrun : (execOp a.eval o).run P w = .ok (.value (.pointer (some ⟨w.heap.size, 0, none⟩))) (w.alloc (.cells u.cells T))) (hn : Goes w0 U a o K next) : o.wp P a w next Q := by
 have hg : Below w.heap.size w (w.alloc (.cells u.cells T)) := (Below.refl _ _).alloc (Nat.le_refl _) _
 obtain ⟨ι', h1, h2, h3, h4⟩ := hs.newBox (pv := .pointer (some ⟨w.heap.size, 0, none⟩)) (bx := .var xs) hg (fun b hb => by simp [blockOf] at hb; omega) (fun ι' e1 e2 hfree => by
  refine ⟨w.heap.size, u.cells, T, e2, hs.below.size, heap_alloc_new _ _, ?_⟩
  exact (hr.cells hx).mono fun _ _ hr => hr.mono hfree (fun b hb _ => hg.block b hb) e1 (Nat.le_succ _))
 exact wp_value hrun (hn _ _ ι' _ _ h h1 (.c (.ptr (Nat.lt_succ_self _) h2)))

theorem op_box {T : TypeId} {x : Operand} {y : AX} (ho : o.op = .box T x) (hx : compX x = some y) (h : opW P (.box y) σ K) (hs : Sim w0 U σ ι a w) (hn : Goes w0 U a o K next) : o.wp P a w next Q := by
 have r1 := compX_rep hx hs
 simp only [opW] at h
 split at h
 ·rename_i xs e
  exact box_step e r1 h hs (by simp [execOp, ho, Instr.box, newVar, newRow]; rfl) hn
 ·exact h.elim
theorem op_alloc {T : TypeId} {z : Value} {y : AV} (ho : o.op = .alloc T) (hz : zeroOf P T = some z) (hx : constOf z = some y) (h : opW P (.box (.k y)) σ K) (hs : Sim w0 U σ ι a w) (hn : Goes w0 U a o K next) : o.wp P a w next Q := by
 simp only [opW] at h
 split at h
 ·rename_i xs e
  unfold zeroOf at hz
  cases hi : P.info? T with
  | none => simp [hi] at hz
  | some i =>
   simp [hi] at hz
   refine box_step e (constOf_rep hx) h hs (T := T) ?_ hn
   simp [execOp, ho, Instr.alloc, zeroValue, typeInfo, hi, hz, newVar, newRow]
   try rfl
 ·exact h.elim

theorem free_setB {B : Nat} {mem : List (Nat × Box)} {nm : Nat} {bx : Box} {b : Nat} : Free B U ι (setB mem nm bx) b ↔ Free B U ι mem b := by
 constructor
 ·intro h
  refine ⟨h.1, fun n bx' hf => ?_⟩
  by_cases e : nm = n
  ·exact h.2 n bx (by rw [findB_setB, if_pos e, hf]; rfl)
  ·exact h.2 n bx' (by rw [findB_setB, if_neg e]; exact hf)
 ·intro h
  refine ⟨h.1, fun n bx' hf => ?_⟩
  rw [findB_setB] at hf
  by_cases e : nm = n
  ·rw [if_pos e] at hf
   cases hm : findB mem n with
   | none => simp [hm] at hf
   | some c => exact h.2 n c hm
  ·rw [if_neg e] at hf
   exact h.2 n bx' hf

theorem Sim.rebox (hs : Sim w0 U σ ι a w) {nm : Nat} {bx0 bx : Box} (hf : findB σ.mem nm = some bx0) (hbx : BoxRep w0.heap.size w (Free w0.heap.size U ι σ.mem) ι σ.nx nm bx) : Sim w0 U { σ with mem := setB σ.mem nm bx } ι a w := by
 have hfree : ∀ c, Free w0.heap.size U ι σ.mem c → Free w0.heap.size U ι (setB σ.mem nm bx) c := fun c h => free_setB.2 h
 have hsub : ∀ n' bx', findB (setB σ.mem nm bx) n' = some bx' → ∃ c, findB σ.mem n' = some c := by
  intro n' bx' h1
  rw [findB_setB] at h1
  by_cases e : nm = n'
  ·subst e; exact ⟨_, hf⟩
  ·rw [if_neg e] at h1; exact ⟨_, h1⟩
 refine ⟨fun t => (hs.val t).mono (fun c _ h => hfree c h) (fun _ _ _ => rfl) (fun _ _ => rfl) (Nat.le_refl _), hs.defers, fun n bx' hn => ?_, fun n bx' hn => ?_, fun n n' b1 b2 c h1 h2 h3 h4 => ?_, hs.below, U.mono _ _ _ _ hs.keep (fun c _ h => hfree c h) (fun _ _ _ => rfl), hs.base⟩
 ·obtain ⟨c, hc⟩ := hsub _ _ hn
  exact hs.names _ _ hc
 ·rw [findB_setB] at hn
  have hgo : ∀ {m : Nat} {b : Box}, m < σ.nx → BoxRep w0.heap.size w (Free w0.heap.size U ι σ.mem) ι σ.nx m b → BoxRep w0.heap.size w (Free w0.heap.size U ι (setB σ.mem nm bx)) ι σ.nx m b := fun hm h => h.grow (Below.refl _ _) (fun c _ h => hfree c h) (fun _ _ => rfl) (Nat.le_refl _) hm
  by_cases e : nm = n
  ·subst e
   rw [if_pos rfl, hf] at hn
   cases hn
   exact hgo (hs.names _ _ hf) hbx
  ·rw [if_neg e] at hn
   exact hgo (hs.names _ _ hn) (hs.box _ _ hn)
 ·obtain ⟨c1, h1'⟩ := hsub _ _ h1
  obtain ⟨c2, h2'⟩ := hsub _ _ h2
  exact hs.apart _ _ _ _ _ h1' h2' h3 h4
theorem Sim.setBox (hs : Sim w0 U σ ι a w) {nm : Nat} {bx0 bx : Box} {b : Nat} {cs : Array Value} (hf : findB σ.mem nm = some bx0) (hb : blockOf (ι nm) = some b)
  (hbx : BoxRep w0.heap.size (w.setRow b cs) (Free w0.heap.size U ι σ.mem) ι σ.nx nm bx) : Sim w0 U { σ with mem := setB σ.mem nm bx } ι a (w.setRow b cs) := by
 have hB := ((hs.box _ _ hf).block hb).1
 have hfree : ∀ c, Free w0.heap.size U ι σ.mem c → Free w0.heap.size U ι (setB σ.mem nm bx) c := fun c h => free_setB.2 h
 have hne : ∀ c, Free w0.heap.size U ι σ.mem c → c ≠ b := fun c h e => h.2 _ _ hf (by rw [hb, e])
 have hw : ∀ c, c < w.heap.size → Free w0.heap.size U ι σ.mem c → (w.setRow b cs).heap[c]? = w.heap[c]? := fun c _ h => setRow_other _ _ _ _ (hne c h)
 refine ⟨fun t => (hs.val t).mono (fun c _ h => hfree c h) hw (fun _ _ => rfl) (Nat.le_refl _), hs.defers, fun n bx' hn => ?_, fun n bx' hn => ?_, fun n n' b1 b2 c h1 h2 h3 h4 => ?_, hs.below.trans ⟨rfl, rfl, rfl, by simp, fun k hk => setRow_other _ _ _ _ (by omega)⟩,
  U.mono _ _ _ _ hs.keep (fun c _ h => hfree c h) hw, hs.base⟩
 ·rw [findB_setB] at hn
  by_cases e : nm = n
  ·subst e; exact hs.names _ _ hf
  ·rw [if_neg e] at hn; exact hs.names _ _ hn
 ·rw [findB_setB] at hn
  by_cases e : nm = n
  ·subst e
   rw [if_pos rfl, hf] at hn
   cases hn
   cases bx with
   | var xs =>
    obtain ⟨b', vs, T, h1, h2, h3, h4⟩ := hbx
    exact ⟨b', vs, T, h1, h2, h3, h4.mono fun _ _ h => h.mono (fun c _ h => hfree c h) (fun _ _ _ => rfl) (fun _ _ => rfl) (Nat.le_refl _)⟩
   | arr e sz rows =>
    obtain ⟨cells, h0, h1, h2, h3, h4, h5⟩ := hbx
    refine ⟨cells, h0, h1, h2, h3, h4, fun i row j p hi hj => ?_⟩
    obtain ⟨v, hv, hp⟩ := h5 i row j p hi hj
    exact ⟨v, hv, hp.mono (fun c _ h => hfree c h) (fun _ _ _ => rfl)⟩
   | arn e sz rows =>
    obtain ⟨cells, h0, h1, h2, h3⟩ := hbx
    exact ⟨cells, h0, h1, h2, h3.mono (fun c _ h => hfree c h) (fun _ _ _ => rfl) (fun _ _ => rfl) (Nat.le_refl _)⟩
   | map kt m ents =>
    obtain ⟨b', es, clock, h1, h2, h3, h4, h5⟩ := hbx
    exact ⟨b', es, clock, h1, h2, h3, h4.mono fun _ _ h => h.mono (fun c _ h => hfree c h) (fun _ _ _ => rfl) (fun _ _ => rfl) (Nat.le_refl _), h5⟩
  ·rw [if_neg e] at hn
   have hbn : ∀ c, blockOf (ι n) = some c → c ≠ b := fun c hc e' => e (hs.apart _ _ _ _ b hf hn hb (by rw [hc, e']))
   have hold := hs.box _ _ hn
   cases bx' with
   | var xs =>
    obtain ⟨b', vs, T, h1, h2, h3, h4⟩ := hold
    exact ⟨b', vs, T, h1, h2, by rw [setRow_other _ _ _ _ (hbn b' (by rw [h1]; rfl))]; exact h3, h4.mono fun _ _ h => h.mono (fun c _ h => hfree c h) hw (fun _ _ => rfl) (Nat.le_refl _)⟩
   | arr e sz rows =>
    obtain ⟨cells, h0, h1, h2, h3, h4, h5⟩ := hold
    refine ⟨cells, h0, World.ownsRow.kept (row := some b) h1 ⟨rfl, rfl, rfl, by simp, fun k _ hk => setRow_other _ _ _ _ (fun e => hk (by rw [e]))⟩ ?_, h2, h3, h4, fun i row j p hi hj => ?_⟩
    ·rcases h1.2 with ⟨h, _⟩ | ⟨g, cap, cur, h, _⟩
     ·rw [h]; exact .inl rfl
     ·right
      rw [h]
      intro e'
      simp [Value.ownBlock] at e'
      exact hbn g (by rw [h]; rfl) e'
    ·obtain ⟨v, hv, hp⟩ := h5 i row j p hi hj
     exact ⟨v, hv, hp.mono (fun c _ h => hfree c h) hw⟩
   | arn e sz rows =>
    obtain ⟨cells, h0, h1, h2, h3⟩ := hold
    refine ⟨cells, h0, World.ownsRow.kept (row := some b) h1 ⟨rfl, rfl, rfl, by simp, fun k _ hk => setRow_other _ _ _ _ (fun e => hk (by rw [e]))⟩ ?_, h2, h3.mono (fun c _ h => hfree c h) hw (fun _ _ => rfl) (Nat.le_refl _)⟩
    rcases h1.2 with ⟨h, _⟩ | ⟨g, cap, cur, h, _⟩
    ·rw [h]; exact .inl rfl
    ·right
     rw [h]
     intro e'
     simp [Value.ownBlock] at e'
     exact hbn g (by rw [h]; rfl) e'
   | map kt m ents =>
    obtain ⟨b', es, clock, h1, h2, h3, h4, h5⟩ := hold
    exact ⟨b', es, clock, h1, h2, by rw [setRow_other _ _ _ _ (hbn b' (by rw [h1]; rfl))]; exact h3, h4.mono fun _ _ h => h.mono (fun c _ h => hfree c h) hw (fun _ _ => rfl) (Nat.le_refl _), h5⟩
 ·have h1' : ∃ c, findB σ.mem n = some c := by
   rw [findB_setB] at h1
   by_cases e : nm = n
   ·subst e; exact ⟨_, hf⟩
   ·rw [if_neg e] at h1; exact ⟨_, h1⟩
  have h2' : ∃ c, findB σ.mem n' = some c := by
   rw [findB_setB] at h2
   by_cases e : nm = n'
   ·subst e; exact ⟨_, hf⟩
   ·rw [if_neg e] at h2; exact ⟨_, h2⟩
  obtain ⟨c1, h1'⟩ := h1'
  obtain ⟨c2, h2'⟩ := h2'
  exact hs.apart _ _ _ _ _ h1' h2' h3 h4

theorem All2.over {α β : Type} {R : α → β → Prop} {as as' : List α} {bs bs' : List β} (h : All2 R as bs) (h' : All2 R as' bs') (off : Nat) : All2 R (over as off as') (over bs off bs') := by
 unfold Abs.over
 rw [← h'.length]
 exact ((h.take off).append h').append (h.drop _)

theorem oneCells {xs : List AC} {vs : List Value} {N : Nat} {V : Nat → Prop} (h : All2 (RepA w V ι N) xs vs) : ∀ v ∈ vs, v.oneCell' = true := by
 induction h with
 | nil => simp
 | cons h _ ih =>
  intro v hv
  rcases List.mem_cons.1 hv with rfl | hv
  ·exact h.one
  ·exact ih v hv

theorem pcA_rep {V : Nat → Prop} {N : Nat} {x : AC} {z : PC} {v : Value} (h : RepA w V ι N x v) (hz : pcA x = some z) : RepP w V z v := by
 cases h with
 | pure h => cases hz; exact h
 | nils => cases hz; exact .nil
 | tsl h => cases hz; exact h
 | _ => cases hz
theorem pcAs_rep {V : Nat → Prop} {N : Nat} {xs : List AC} {vs : List Value} (h : All2 (RepA w V ι N) xs vs) : ∀ {zs : List PC}, pcAs xs = some zs → All2 (RepP w V) zs vs := by
 induction h with
 | nil => intro zs hz; cases hz; exact .nil
 | cons h t ih =>
  intro zs hz
  unfold pcAs at hz
  split at hz
  ·cases hz
   exact .cons (pcA_rep h ‹_›) (ih ‹_›)
  ·cases hz

theorem run_storeVar {t : TypeId} {n b off : Nat} {u : Value} {cur : Array Value} {T : TypeId} (ht : sizeOf? P t = some n) (hn : u.cells.size = n) (hcur : w.heap[b]? = some (.cells cur T (0, 0))) (hle : off + n ≤ cur.size) (h1 : ∀ v ∈ u.cells.toList, v.oneCell' = true) :
  (storeVar t ⟨b, off, none⟩ u).run P w = .ok () (w.setRow b (over cur.toList off u.cells.toList).toArray) := by
 unfold sizeOf? at ht
 cases hi : P.info? t with
 | none => simp [hi] at ht
 | some i =>
  simp [hi] at ht
  have h := run_storeCells_at (P := P) b off T u.cells.toList 0 cur w hcur (by simp; omega) h1
  simp only [Nat.add_zero] at h
  simp [storeVar, sizeOf, typeInfo, hi, ht, hn, h, over]
end
end Go.Abs

set_option linter.unusedVariables false
set_option linter.unusedSimpArgs false
namespace Go.Abs
open Go.RowKit

section
variable {P : Program} {o : Oper} {a : Act} {w w0 : World} {U : Gh} {ι : Pl} {σ : St} {next : Act → World → Prop} {Q : Exit → Act → World → Prop} {K : AV → St → Prop}

theorem take_mul {α : Type} (xs : List α) (n m : Nat) (h : n * m ≤ xs.length) : (xs.take (n * m)).length = n * m := by simp; omega

theorem rows_set {α : Type} {R : α → Value → Prop} {sz row off : Nat} {rows : List (List α)} {cells : List Value} {r zs : List α} {vs : List Value} (h3 : cells.length = rows.length * sz) (h4 : ∀ (i : Nat) row, rows[i]? = some row → row.length = sz)
  (h5 : ∀ (i : Nat) (row : List α) (j : Nat) p, rows[i]? = some row → row[j]? = some p → ∃ v, cells[i * sz + j]? = some v ∧ R p v) (hr : rows[row]? = some r) (hz : All2 R zs vs) (ho : off + zs.length ≤ sz) :
  (over cells (row * sz + off) vs).length = (rows.set row (over r off zs)).length * sz ∧ (∀ (i : Nat) row', (rows.set row (over r off zs))[i]? = some row' → row'.length = sz) ∧
  ∀ (i : Nat) (row' : List α) (j : Nat) p, (rows.set row (over r off zs))[i]? = some row' → row'[j]? = some p → ∃ v, (over cells (row * sz + off) vs)[i * sz + j]? = some v ∧ R p v := by
 have hrow : row < rows.length := (List.getElem?_eq_some_iff.1 hr).1
 have hlr := h4 row r hr
 have hlz := hz.length
 have hm : row * sz + sz ≤ cells.length := by
  rw [h3]
  have : (row + 1) * sz ≤ rows.length * sz := Nat.mul_le_mul_right _ hrow
  rw [Nat.succ_mul] at this
  exact this
 have hget : ∀ k, k < cells.length → (over cells (row * sz + off) vs)[k]? = if row * sz + off ≤ k ∧ k < row * sz + off + vs.length then vs[k - (row * sz + off)]? else cells[k]? := by
  intro k hk
  unfold over
  rw [List.append_assoc]
  by_cases h1 : k < row * sz + off
  ·rw [List.getElem?_append_left (by simp; omega), List.getElem?_take_of_lt h1, if_neg (by omega)]
  ·rw [List.getElem?_append_right (by simp; omega)]
   have e1 : (cells.take (row * sz + off)).length = row * sz + off := by simp; omega
   rw [e1]
   by_cases h2 : k < row * sz + off + vs.length
   ·rw [List.getElem?_append_left (by omega), if_pos ⟨by omega, h2⟩]
   ·rw [List.getElem?_append_right (by omega), List.getElem?_drop, if_neg (by omega)]
    congr 1
    omega
 have hgr : ∀ j, j < r.length → (over r off zs)[j]? = if off ≤ j ∧ j < off + zs.length then zs[j - off]? else r[j]? := by
  intro k hk
  unfold over
  rw [List.append_assoc]
  by_cases h1 : k < off
  ·rw [List.getElem?_append_left (by simp; omega), List.getElem?_take_of_lt h1, if_neg (by omega)]
  ·rw [List.getElem?_append_right (by simp; omega)]
   have e1 : (r.take off).length = off := by simp; omega
   rw [e1]
   by_cases h2 : k < off + zs.length
   ·rw [List.getElem?_append_left (by omega), if_pos ⟨by omega, h2⟩]
   ·rw [List.getElem?_append_right (by omega), List.getElem?_drop, if_neg (by omega)]
    congr 1
    omega
 have hlo : (over r off zs).length = sz := by
  unfold over
  simp
  omega
 refine ⟨?_, fun i row' hi => ?_, fun i row' j p hi hj => ?_⟩
 ·unfold over
  simp
  rw [← h3]
  omega
 ·rw [List.getElem?_set] at hi
  by_cases e : row = i
  ·rw [if_pos e, if_pos (by omega)] at hi
   cases hi; exact hlo
  ·rw [if_neg e] at hi
   exact h4 i row' hi
 ·rw [List.getElem?_set] at hi
  by_cases e : row = i
  ·subst e
   rw [if_pos rfl, if_pos hrow] at hi
   cases hi
   have hjl : j < sz := by rw [← hlo]; exact (List.getElem?_eq_some_iff.1 hj).1
   rw [hgr j (by omega)] at hj
   rw [hget (row * sz + j) (by omega)]
   by_cases h1 : off ≤ j ∧ j < off + zs.length
   ·rw [if_pos h1] at hj
    rw [if_pos ⟨by omega, by omega⟩]
    obtain ⟨v, hv, hp⟩ := hz.get hj
    exact ⟨v, by rw [← hv]; congr 1; omega, hp⟩
   ·rw [if_neg h1] at hj
    rw [if_neg (by omega)]
    exact h5 row r j p hr hj
  ·rw [if_neg e] at hi
   obtain ⟨v, hv, hp⟩ := h5 i row' j p hi hj
   have hjl : j < sz := by rw [← h4 i row' hi]; exact (List.getElem?_eq_some_iff.1 hj).1
   have hil : i < rows.length := (List.getElem?_eq_some_iff.1 hi).1
   refine ⟨v, ?_, hp⟩
   rw [hget (i * sz + j) ((List.getElem?_eq_some_iff.1 hv).1), if_neg ?_]
   ·exact hv
   ·rintro ⟨g1, g2⟩
    rcases Nat.lt_or_gt_of_ne e with hlt | hgt
    ·have : (row + 1) * sz ≤ i * sz := Nat.mul_le_mul_right _ hlt
     rw [Nat.succ_mul] at this
     omega
    ·have : (i + 1) * sz ≤ row * sz := Nat.mul_le_mul_right _ hgt
     rw [Nat.succ_mul] at this
     omega

theorem RowsRep.set {V : Nat → Prop} {sz row off : Nat} {rows : List (List PC)} {cells : List Value} {r zs : List PC} {vs : List Value} (h : RowsRep w V sz rows cells) (hr : rows[row]? = some r) (hz : All2 (RepP w V) zs vs) (ho : off + zs.length ≤ sz) :
  RowsRep w V sz (rows.set row (over r off zs)) (over cells (row * sz + off) vs) := rows_set h.1 h.2.1 h.2.2 hr hz ho
theorem RowsRepA.set {V : Nat → Prop} {N sz row off : Nat} {rows : List (List AC)} {cells : List Value} {r zs : List AC} {vs : List Value} (h : RowsRepA w V ι N sz rows cells) (hr : rows[row]? = some r) (hz : All2 (RepA w V ι N) zs vs) (ho : off + zs.length ≤ sz) :
  RowsRepA w V ι N sz (rows.set row (over r off zs)) (over cells (row * sz + off) vs) := rows_set h.1 h.2.1 h.2.2 hr hz ho
theorem RowsRep.mono {w' : World} {V V' : Nat → Prop} {sz : Nat} {rows : List (List PC)} {cells : List Value} (h : RowsRep w V sz rows cells) (hU : ∀ b, b < w.heap.size → V b → V' b)
  (hw : ∀ b, b < w.heap.size → V b → w'.heap[b]? = w.heap[b]?) : RowsRep w' V' sz rows cells := by
 obtain ⟨h3, h4, h5⟩ := h
 refine ⟨h3, h4, fun i row j p hi hj => ?_⟩
 obtain ⟨v, hv, hp⟩ := h5 i row j p hi hj
 exact ⟨v, hv, hp.mono hU hw⟩

theorem over_length {α : Type} (xs : List α) (off : Nat) (ys : List α) (h : off + ys.length ≤ xs.length) : (over xs off ys).length = xs.length := by
 unfold over
 simp
 omega
theorem over_take {α : Type} (xs : List α) (off m : Nat) (ys : List α) (h : off + ys.length ≤ m) (hm : m ≤ xs.length) : (over xs off ys).take m = over (xs.take m) off ys := by
 unfold over
 rw [List.take_append, List.take_append, List.take_take, List.drop_take, List.length_append, List.length_take]
 have e1 : min m off = off := by omega
 have e2 : min off xs.length = off := by omega
 rw [e1, e2, List.take_take, List.take_of_length_le (l := ys) (by omega)]
 congr 2
 all_goals (first | omega | (congr 1; omega))
theorem op_store {t : TypeId} {x y : Operand} {p q : AX} {n : Nat} (ho : o.op = .store t x y) (ht : sizeOf? P t = some n) (hx : compX x = some p) (hy : compX y = some q) (h : opW P (.store n p q) σ K) (hs : Sim w0 U σ ι a w) (hn : Goes w0 U a o K next) : o.wp P a w next Q := by
 have r1 := compX_rep hx hs
 have r2 := compX_rep hy hs
 simp only [opW] at h
 split at h
 ·rename_i ys nm off e1 e2
  rw [e2] at r1
  have hcs := r2.cells e1
  split at h
  ·rename_i xs hf
   obtain ⟨⟨hl, hle⟩, h⟩ := h
   cases r1 with
   | c r1 =>
    generalize hu : a.eval x = u at r1
    cases r1 with
    | ptr hnm hι =>
     rename_i b
     obtain ⟨b', vs, T, g1, g2, g3, g4⟩ := hs.box _ _ hf
     rw [hι] at g1
     simp at g1
     subst g1
     have hvl : (a.eval y).cells.size = n := by rw [← hl, hcs.length, Array.length_toList]
     have hrun := run_storeVar (P := P) (off := off) ht hvl g3 (by rw [← Array.length_toList, ← g4.length]; exact hle) (oneCells hcs)
     refine wp_skipped (w' := w.setRow b (over vs.toList off (a.eval y).cells.toList).toArray) ?_ (hn _ _ ι _ _ h ?_ repV_undef)
     ·simp [execOp, ho, hu, Instr.storeAt, Instr.sureAddr, hrun]
     ·refine hs.setBox hf (by rw [hι]; rfl) ⟨b, _, T, hι, g2, setRow_heap _ _ _ _ _ _ g3, ?_⟩
      have hne : ∀ c, Free w0.heap.size U ι σ.mem c → c ≠ b := fun c h e => h.2 _ _ hf (by rw [hι, e]; rfl)
      have := (g4.over hcs off).mono fun _ _ (h : RepA w (Free w0.heap.size U ι σ.mem) ι σ.nx _ _) => h.mono (w' := w.setRow b (over vs.toList off (a.eval y).cells.toList).toArray) (fun c _ h => h) (fun c _ h => setRow_other _ _ _ _ (hne c h)) (fun _ _ => rfl) (Nat.le_refl _)
      simpa using this
  ·exact h.elim
 ·rename_i ys nm sz row off e1 e2
  rw [e2] at r1
  have hcs := r2.cells e1
  split at h
  ·rename_i e sz' rows hf
   obtain ⟨⟨hsz, hl, hle⟩, zs, hz, r, hr, h⟩ := h
   subst hsz
   cases r1 with
   | c r1 =>
    generalize hu : a.eval x = u at r1
    cases r1 with
    | eptr hnm hι =>
     rename_i b n' c'
     have hpz := pcAs_rep hcs hz
     have hvl : (a.eval y).cells.size = n := by rw [← hl, hcs.length, Array.length_toList]
     have hzl : zs.length = n := by rw [hpz.length, Array.length_toList, hvl]
     obtain ⟨cells, g0, g1, g2, g3⟩ := hs.box _ _ hf
     have g1' := g1
     rcases g1.2 with ⟨e', _⟩ | ⟨g, cap, cur, e', hB, hg, hnc, hcm, hcs', htake⟩
     ·rw [hι] at e'; cases e'
     ·rw [hι] at e'
      simp at e'
      obtain ⟨rfl, rfl, rfl⟩ := e'
      have hrow : row < rows.length := (List.getElem?_eq_some_iff.1 hr).1
      have hm : row * sz + sz ≤ rows.length * sz := by
       have : (row + 1) * sz ≤ rows.length * sz := Nat.mul_le_mul_right _ hrow
       rw [Nat.succ_mul] at this
       exact this
      have hm2 : rows.length * sz ≤ cur.size := by
       have : rows.length * sz ≤ c' * sz := Nat.mul_le_mul_right _ hnc
       omega
      have hvs : (a.eval y).cells.toList.length = n := by rw [Array.length_toList, hvl]
      have hrun := run_storeVar (P := P) (off := row * sz + off) ht hvl hg (by omega) (oneCells hcs)
      refine wp_skipped (w' := w.setRow b (over cur.toList (row * sz + off) (a.eval y).cells.toList).toArray) ?_ (hn _ _ ι _ _ h ?_ repV_undef)
      ·simp [execOp, ho, hu, Instr.storeAt, Instr.sureAddr, hrun]
      ·have hne : ∀ c, Free w0.heap.size U ι σ.mem c → c ≠ b := fun c h e => h.2 _ _ hf (by rw [hι, e]; rfl)
       refine hs.setBox hf (by rw [hι]; rfl) ⟨over cells (row * sz + off) (a.eval y).cells.toList, g0, ⟨?_, .inr ⟨b, c', (over cur.toList (row * sz + off) (a.eval y).cells.toList).toArray, ?_, hB, setRow_heap _ _ _ _ _ _ hg, ?_, hcm, ?_, ?_⟩⟩, ?_, ?_⟩
       ·rw [over_length _ _ _ (by rw [g1.1]; omega), List.length_set, g1.1]
       ·rw [hι, List.length_set]
       ·rw [List.length_set]; exact hnc
       ·rw [List.size_toArray, over_length _ _ _ (by simp; omega), Array.length_toList]; exact hcs'
       ·rw [List.length_set, ← htake, List.toList_toArray, over_take _ _ _ _ (by omega) (by simp; omega)]
       ·rw [List.length_set]; exact g2
       ·exact (g3.mono (w' := w.setRow b (over cur.toList (row * sz + off) (a.eval y).cells.toList).toArray) (fun c _ h => h) (fun c _ h => setRow_other _ _ _ _ (hne c h))).set hr (hpz.mono fun _ _ h => h.mono (fun c _ h => h) (fun c _ h => setRow_other _ _ _ _ (hne c h))) (by omega)
  ·rename_i e sz' rows hf
   obtain ⟨⟨hsz, hl, hle⟩, r, hr, h⟩ := h
   subst hsz
   cases r1 with
   | c r1 =>
    generalize hu : a.eval x = u at r1
    cases r1 with
    | eptr hnm hι =>
     rename_i b n' c'
     have hvl : (a.eval y).cells.size = n := by rw [← hl, hcs.length, Array.length_toList]
     obtain ⟨cells, g0, g1, g2, g3⟩ := hs.box _ _ hf
     have g1' := g1
     rcases g1.2 with ⟨e', _⟩ | ⟨g, cap, cur, e', hB, hg, hnc, hcm, hcs', htake⟩
     ·rw [hι] at e'; cases e'
     ·rw [hι] at e'
      simp at e'
      obtain ⟨rfl, rfl, rfl⟩ := e'
      have hrow : row < rows.length := (List.getElem?_eq_some_iff.1 hr).1
      have hm : row * sz + sz ≤ rows.length * sz := by
       have : (row + 1) * sz ≤ rows.length * sz := Nat.mul_le_mul_right _ hrow
       rw [Nat.succ_mul] at this
       exact this
      have hm2 : rows.length * sz ≤ cur.size := by
       have : rows.length * sz ≤ c' * sz := Nat.mul_le_mul_right _ hnc
       omega
      have hvs : (a.eval y).cells.toList.length = n := by rw [Array.length_toList, hvl]
      have hrun := run_storeVar (P := P) (off := row * sz + off) ht hvl hg (by omega) (oneCells hcs)
      refine wp_skipped (w' := w.setRow b (over cur.toList (row * sz + off) (a.eval y).cells.toList).toArray) ?_ (hn _ _ ι _ _ h ?_ repV_undef)
      ·simp [execOp, ho, hu, Instr.storeAt, Instr.sureAddr, hrun]
      ·have hne : ∀ c, Free w0.heap.size U ι σ.mem c → c ≠ b := fun c h e => h.2 _ _ hf (by rw [hι, e]; rfl)
       refine hs.setBox hf (by rw [hι]; rfl) ⟨over cells (row * sz + off) (a.eval y).cells.toList, g0, ⟨?_, .inr ⟨b, c', (over cur.toList (row * sz + off) (a.eval y).cells.toList).toArray, ?_, hB, setRow_heap _ _ _ _ _ _ hg, ?_, hcm, ?_, ?_⟩⟩, ?_, ?_⟩
       ·rw [over_length _ _ _ (by rw [g1.1]; omega), List.length_set, g1.1]
       ·rw [hι, List.length_set]
       ·rw [List.length_set]; exact hnc
       ·rw [List.size_toArray, over_length _ _ _ (by simp; omega), Array.length_toList]; exact hcs'
       ·rw [List.length_set, ← htake, List.toList_toArray, over_take _ _ _ _ (by omega) (by simp; omega)]
       ·rw [List.length_set]; exact g2
       ·exact (g3.mono (w' := w.setRow b (over cur.toList (row * sz + off) (a.eval y).cells.toList).toArray) (fun c _ h => h) (fun c _ h => setRow_other _ _ _ _ (hne c h)) (fun _ _ => rfl) (Nat.le_refl _)).set hr (hcs.mono fun _ _ h => h.mono (fun c _ h => h) (fun c _ h => setRow_other _ _ _ _ (hne c h)) (fun _ _ => rfl) (Nat.le_refl _)) (by omega)
  ·exact h.elim
 ·exact h.elim
end
end Go.Abs

set_option linter.unusedVariables false
set_option linter.unusedSimpArgs false
namespace Go.Abs
open Go.RowKit

section
variable {P : Program} {o : Oper} {a : Act} {w w0 : World} {U : Gh} {ι : Pl} {σ : St} {next : Act → World → Prop} {Q : Exit → Act → World → Prop} {K : AV → St → Prop}

theorem cptr_drop {V : Nat → Prop} {N b off : Nat} {cells : List PC} (k : Nat) (h : RepA w V ι N (.cptr cells) (.pointer (some ⟨b, off, none⟩))) : RepA w V ι N (.cptr (cells.drop k)) (.pointer (some ⟨b, off + k, none⟩)) := by
 cases h with
 | cptr g hc =>
  refine .cptr (fun j => g (k + j)) fun j p hj => ?_
  rw [List.getElem?_drop] at hj
  have := hc (k + j) p hj
  rw [← Nat.add_assoc] at this
  exact this

theorem run_fieldAt {s : TypeId} {f : Nat} {fd : Field} {b off : Nat} (hf : fieldOf P s f = some fd) (hz : ¬ (sizeOf? P fd.type).getD 0 = 0) : (Instr.fieldAt s (.pointer (some ⟨b, off, none⟩)) f).run P w = .ok (.pointer (some ⟨b, off + fd.offset, none⟩)) w := by
 unfold fieldOf at hf
 split at hf
 ·rename_i fs hd
  unfold sizeOf? at hz
  cases hi : P.info? fd.type with
  | none => simp [hi] at hz
  | some i =>
   simp [hi] at hz
   simp [Instr.fieldAt, run_underlying hd, hf, Instr.sureAddr, fieldPlace, sizeOf, typeInfo, hi, hz, add_off]
 ·cases hf

theorem op_fieldA {s : TypeId} {x : Operand} {y : AX} {f : Nat} {fd : Field} (ho : o.op = .fieldAddr s x f) (hf : fieldOf P s f = some fd) (hz : ¬ (sizeOf? P fd.type).getD 0 = 0) (hx : compX x = some y) (h : opW P (.fieldA fd.offset y) σ K) (hs : Sim w0 U σ ι a w) (hn : Goes w0 U a o K next) : o.wp P a w next Q := by
 have r1 := compX_rep hx hs
 generalize hu : a.eval x = u at r1
 simp only [opW] at h
 split at h
 ·rename_i e
  rw [e] at r1
  cases r1 with
  | c r1 =>
   cases r1 with
   | ptr h1 h2 => exact wp_value (w' := w) (by simp [execOp, ho, hu, run_fieldAt hf hz]; try rfl) (hn _ σ ι _ w h hs (.c (.ptr h1 h2)))
 ·rename_i e
  rw [e] at r1
  cases r1 with
  | c r1 =>
   have r2 := r1
   cases r1 with
   | cptr g hc => exact wp_value (w' := w) (by simp [execOp, ho, hu, run_fieldAt hf hz]; try rfl) (hn _ σ ι _ w h hs (.c (cptr_drop _ r2)))
 ·rename_i e
  rw [e] at r1
  cases r1 with
  | c r1 =>
   cases r1 with
   | eptr h1 h2 => exact wp_value (w' := w) (by simp [execOp, ho, hu, run_fieldAt hf hz]; try rfl) (hn _ σ ι _ w h hs (.c (by rw [Nat.add_assoc]; exact .eptr h1 h2)))
 ·exact h.elim

theorem run_part_one {t : TypeId} {cs : Array Value} {off : Nat} {v : Value} (h : rowOf P t = some none) (hv : cs[off]? = some v) : (part t cs off).run P w = .ok v w := by
 unfold rowOf at h
 split at h
 ·cases h
 ·cases h
 ·rename_i d i n1 n2 hd hi
  have hag : (isAgg t).run P w = .ok false w := by
   unfold isAgg
   cases d <;> first | (simp [run_underlying hd]; done) | exact absurd rfl (n1 _) | exact absurd rfl (n2 _ _)
  simp [part, hag, hv]
 ·cases h
theorem run_part_row {t : TypeId} {cs : Array Value} {off n : Nat} (h : rowOf P t = some (some n)) : (part t cs off).run P w = .ok (.agg (cs.extract off (off + n))) w := by
 unfold rowOf at h
 split at h
 ·rename_i fs i hd hi
  simp at h
  have hag : (isAgg t).run P w = .ok true w := by simp [isAgg, run_underlying hd]
  simp [part, hag, sizeOf, typeInfo, hi, h]
 ·rename_i fs i hd hi
  simp at h
  have hag : (isAgg t).run P w = .ok true w := by simp [isAgg, run_underlying hd]
  simp [part, hag, sizeOf, typeInfo, hi, h]
 ·split at h <;> cases h
 ·cases h

theorem op_field {s : TypeId} {x : Operand} {y : AX} {f : Nat} {fd : Field} {n : Option Nat} (ho : o.op = .field s x f) (hf : fieldOf P s f = some fd) (ht : rowOf P fd.type = some n) (hx : compX x = some y) (h : opW P (.field fd.offset n y) σ K) (hs : Sim w0 U σ ι a w) (hn : Goes w0 U a o K next) : o.wp P a w next Q := by
 have r1 := compX_rep hx hs
 generalize hu : a.eval x = u at r1
 simp only [opW] at h
 split at h
 ·rename_i xs e
  rw [e] at r1
  cases r1 with
  | agg r1 =>
   rename_i vs
   have hrun : ∀ {v : Value}, (part fd.type vs fd.offset).run P w = .ok v w → (execOp a.eval o).run P w = .ok (.value v) w := by
    intro v hp
    unfold fieldOf at hf
    split at hf
    ·rename_i fs hd
     simp [execOp, ho, hu, Instr.field, run_underlying hd, hf, asAgg, hp]
    ·cases hf
   cases n with
   | none =>
    simp only at h
    split at h
    ·rename_i z zs ez
     have hz : xs[fd.offset]? = some z := by
      have : (xs.drop fd.offset)[0]? = some z := by rw [ez]; rfl
      rw [List.getElem?_drop] at this
      simpa using this
     obtain ⟨v, hv, hr⟩ := r1.get hz
     exact wp_value (u := v) (w' := w) (hrun (run_part_one ht (by simpa using hv))) (hn _ σ ι _ w h hs (.c hr))
    ·exact h.elim
   | some n =>
    obtain ⟨hle, h⟩ := h
    refine wp_value (w' := w) (hrun (run_part_row ht)) (hn _ σ ι _ w h hs (.agg ?_))
    have := (r1.drop fd.offset).take n
    have e2 : (vs.extract fd.offset (fd.offset + n)).toList = (vs.toList.drop fd.offset).take n := by
     rw [Array.toList_extract, List.extract_eq_take_drop]
     simp
    rw [e2]
    exact this
 ·exact h.elim

theorem run_indexAt {t e : TypeId} {sz bytes : Nat} {b off n c : Nat} {k : IntKind} {i : Int} (ht : elemOf? P t = some (e, sz, bytes)) (h0 : 0 ≤ i) (h1 : i < n) : (Instr.indexAt t (.slice (some ⟨b, off, none⟩) n c) (.int k i)).run P w = .ok (.pointer (some ⟨b, off + i.toNat * sz, none⟩)) w := by
 unfold elemOf? at ht
 split at ht
 ·rename_i e' hd
  cases hi : P.info? e' with
  | none => simp [hi] at ht
  | some inf =>
   simp [hi] at ht
   obtain ⟨rfl, rfl, _⟩ := ht
   simp [Instr.indexAt, asIntOf, run_underlying hd, h0, h1, sizeOf, typeInfo, hi, add_off]
 ·cases ht

theorem op_idxA {t e : TypeId} {sz bytes : Nat} {x z : Operand} {y q : AX} (ho : o.op = .indexAddr t x z) (ht : elemOf? P t = some (e, sz, bytes)) (hx : compX x = some y) (hz : compX z = some q) (h : opW P (.idxA sz y q) σ K) (hs : Sim w0 U σ ι a w) (hn : Goes w0 U a o K next) : o.wp P a w next Q := by
 have r1 := compX_rep hx hs
 have r2 := compX_rep hz hs
 generalize hu : a.eval x = u at r1
 simp only [opW] at h
 have hpure : ∀ {rows : List (List PC)} {k : IntKind} {i : Int}, RepP w (Free w0.heap.size U ι σ.mem) (.slice rows) u → AX.ev σ.fr q = .c (.pure (.val (.int k i))) → (0 ≤ i ∧ ∃ r, rows[i.toNat]? = some r ∧ (r.length = sz ∧ 0 < sz) ∧ K (.c (.cptr r)) σ) → o.wp P a w next Q := by
  intro rows k i hr hi h
  rw [hi] at r2
  have e2 := (repV_val r2).1
  obtain ⟨h0, r, hrow, ⟨hrl, hsz⟩, hk⟩ := h
  cases hr with
  | @slice sz' _ ad n c g hl hc hm hlen hcell hp =>
   obtain rfl : sz' = sz := by rw [← hrl]; exact (hlen _ _ hrow).symm
   have hil : i.toNat < rows.length := (List.getElem?_eq_some_iff.1 hrow).1
   have hlr := hlen _ _ hrow
   have h0r : r[0]? = some (r[0]'(by omega)) := List.getElem?_eq_getElem (by omega)
   obtain ⟨b, off, rfl, hb, _⟩ := hcell _ r 0 _ hrow h0r
   refine wp_value (w' := w) (by simp only [execOp, ho, hu, e2]; rw [Sem.run_bind, run_indexAt ht h0 (by omega)]; rfl) (hn _ σ ι _ w hk hs (.c (.cptr (fun j => g i.toNat j) fun j p hj => ?_)))
   obtain ⟨b', off', e', hb', hc'⟩ := hcell _ r j p hrow hj
   cases e'
   exact ⟨hb', by rw [← hc']; congr 2; omega, hp _ r j p hrow hj⟩
 split at h
 ·rename_i rows k i e1 e2
  rw [e1] at r1
  cases r1 with
  | c r1 => cases r1 with | pure r1 => exact hpure r1 e2 h
 ·rename_i rows k i e1 e2
  rw [e1] at r1
  cases r1 with
  | c r1 => cases r1 with | tsl r1 => exact hpure r1 e2 h
 ·rename_i nm k i e1 e2
  rw [e1] at r1
  rw [e2] at r2
  have e2' := (repV_val r2).1
  split at h
  ·rename_i e' sz' rows hf
   obtain ⟨⟨rfl, hsz, h0, hlt⟩, h⟩ := h
   cases r1 with
   |c r1 => cases r1 with
    | ref hnm hex =>
     obtain ⟨cells, g0, g1, g2, g3⟩ := hs.box _ _ hf
     rcases g1.2 with ⟨e', hz'⟩ | ⟨g, cap, cur, e', hB, hg, hnc, hcm, hcs', htake⟩
     ·omega
     ·refine wp_value (w' := w) (by simp only [execOp, ho, hu, e', e2']; rw [Sem.run_bind, run_indexAt ht h0 (by omega)]; rfl) (hn _ σ ι _ w h hs (.c ?_))
      have := RepA.eptr (w := w) (U := Free w0.heap.size U ι σ.mem) (sz := sz') (row := i.toNat) (off := 0) hnm e'
      simpa using this
  ·rename_i e' sz' rows hf
   obtain ⟨⟨rfl, hsz, h0, hlt⟩, h⟩ := h
   cases r1 with
   |c r1 => cases r1 with
    | ref hnm hex =>
     obtain ⟨cells, g0, g1, g2, g3⟩ := hs.box _ _ hf
     rcases g1.2 with ⟨e', hz'⟩ | ⟨g, cap, cur, e', hB, hg, hnc, hcm, hcs', htake⟩
     ·omega
     ·refine wp_value (w' := w) (by simp only [execOp, ho, hu, e', e2']; rw [Sem.run_bind, run_indexAt ht h0 (by omega)]; rfl) (hn _ σ ι _ w h hs (.c ?_))
      have := RepA.eptr (w := w) (U := Free w0.heap.size U ι σ.mem) (sz := sz') (row := i.toNat) (off := 0) hnm e'
      simpa using this
  ·exact h.elim
 ·exact h.elim

theorem op_idxR {t e : TypeId} {len sz : Nat} {x z : Operand} {y q : AX} (ho : o.op = .indexAddr t x z) (ht : P.underlying t = some (.array len e)) (hsz : sizeOf? P e = some sz) (hx : compX x = some y) (hz : compX z = some q) (h : opW P (.idxR len sz y q) σ K) (hs : Sim w0 U σ ι a w) (hn : Goes w0 U a o K next) : o.wp P a w next Q := by
 have r1 := compX_rep hx hs
 have r2 := compX_rep hz hs
 generalize hu : a.eval x = u at r1
 simp only [opW] at h
 have hrun : ∀ {b off : Nat} {k : IntKind} {i : Int}, 0 ≤ i → i < len → (Instr.indexAt t (.pointer (some ⟨b, off, none⟩)) (.int k i)).run P w = .ok (.pointer (some ⟨b, off + i.toNat * sz, none⟩)) w := by
  intro b off k i h0 h1
  unfold sizeOf? at hsz
  cases hi : P.info? e with
  | none => simp [hi] at hsz
  | some inf =>
   simp [hi] at hsz
   simp [Instr.indexAt, asIntOf, run_underlying ht, Instr.sureAddr, h0, h1, sizeOf, typeInfo, hi, hsz, add_off]
 split at h
 ·rename_i nm off k i e1 e2
  rw [e1] at r1
  rw [e2] at r2
  have e2' := (repV_val r2).1
  obtain ⟨⟨h0, h1⟩, h⟩ := h
  cases r1 with
  |c r1 => cases r1 with
   | ptr g1 g2 => exact wp_value (w' := w) (by simp only [execOp, ho, hu, e2']; rw [Sem.run_bind, hrun h0 h1]; rfl) (hn _ σ ι _ w h hs (.c (.ptr g1 g2)))
 ·rename_i cells k i e1 e2
  rw [e1] at r1
  rw [e2] at r2
  have e2' := (repV_val r2).1
  obtain ⟨⟨h0, h1⟩, h⟩ := h
  cases r1 with
  | c r1 =>
   have r3 := r1
   cases r1 with
   | cptr g hc => exact wp_value (w' := w) (by simp only [execOp, ho, hu, e2']; rw [Sem.run_bind, hrun h0 h1]; rfl) (hn _ σ ι _ w h hs (.c (cptr_drop _ r3)))
 ·exact h.elim

theorem op_idxS {t : TypeId} {x z : Operand} {y q : AX} (ho : o.op = .index t x z) (ht : isStr P t = true) (hx : compX x = some y) (hz : compX z = some q) (h : opW P (.idxS y q) σ K) (hs : Sim w0 U σ ι a w) (hn : Goes w0 U a o K next) : o.wp P a w next Q := by
 have r1 := compX_rep hx hs
 have r2 := compX_rep hz hs
 simp only [opW] at h
 split at h
 ·rename_i s k i e1 e2
  rw [e1] at r1
  rw [e2] at r2
  have e1' := (repV_val r1).1
  have e2' := (repV_val r2).1
  obtain ⟨h0, b, hb, h⟩ := h
  have hd : P.underlying t = some .string := by
   unfold isStr at ht
   split at ht
   ·assumption
   ·cases ht
  refine wp_value (u := .int .u8 b.toNat) (w' := w) ?_ (hn _ σ ι _ w h hs (repV_int _ _))
  simp [execOp, ho, e1', e2', Instr.index, asIntOf, run_underlying hd, h0, hb]
 ·exact h.elim

theorem op_ext {x : Operand} {y : AX} {i : Nat} (ho : o.op = .extract x i) (hx : compX x = some y) (h : opW P (.ext y i) σ K) (hs : Sim w0 U σ ι a w) (hn : Goes w0 U a o K next) : o.wp P a w next Q := by
 have r1 := compX_rep hx hs
 generalize hu : a.eval x = u at r1
 simp only [opW] at h
 split at h
 ·rename_i vs e
  rw [e] at r1
  obtain ⟨v, hv, h⟩ := h
  ·cases r1 with
   | tup hl hr =>
    rename_i us
    have hi : i < us.size := by rw [← hl]; exact (List.getElem?_eq_some_iff.1 hv).1
    have := hr i v hv
    rw [List.getElem?_eq_getElem (by simpa using hi)] at this
    refine wp_value (u := us[i]) (w' := w) ?_ (hn _ σ ι _ w h hs (by simpa using this))
    simp [execOp, ho, hu, Instr.extract, hi]
 ·exact h.elim

theorem rows_len {v : AV} {u : Value} {rows : List (List PC)} (hs : Sim w0 U σ ι a w) (h : RepV w (Free w0.heap.size U ι σ.mem) ι σ.nx v u) (hr : rowsOf? σ.mem v = some rows) : ∃ ad c, u = .slice ad rows.length c ∧ rows.length ≤ c ∧ rows.length ≤ 9223372036854775807 := by
 unfold rowsOf? at hr
 split at hr
 ·cases hr
  cases h with | c h => cases h with | pure h => cases h with | slice g hl hc hm => subst hl; exact ⟨_, _, rfl, hc, hm⟩
 ·cases hr
  cases h with | c h => cases h with | tsl h => cases h with | slice g hl hc hm => subst hl; exact ⟨_, _, rfl, hc, hm⟩
 ·cases hr
  cases h with | c h => cases h with | nils => exact ⟨none, 0, rfl, Nat.le_refl _, by simp⟩
 ·split at hr
  ·rename_i nm e sz' rows' hf
   cases hr
   cases h with
   |c h => cases h with
    | ref hnm hex =>
     obtain ⟨cells, g0, g1, g2, g3⟩ := hs.box _ _ hf
     rcases g1.2 with ⟨e', hz'⟩ | ⟨g, cap, cur, e', hB, hg, hnc, hcm, hcs', htake⟩
     ·exact ⟨none, 0, by rw [e', hz'], by omega, g2⟩
     ·exact ⟨_, cap, e', hnc, g2⟩
  ·cases hr
 ·cases hr

theorem run_len_slice {t e : TypeId} {ad : Option Addr} {n c : Nat} (ht : P.underlying t = some (.slice e)) (ty : TypeId) : (Builtin.len_ #[t] ty #[.slice ad n c]).run P w = .ok (.int .i64 n) w := by
 simp [Builtin.len_, run_underlying ht, goInt]

theorem op_len {t e : TypeId} {x : Operand} {y : AX} {c : Call} (hc : c.callee = .builtin .len) (hargs : c.args.toList = [x]) (htys : c.argTypes.toList = [t]) (ho : o.op = .call c) (ht : P.underlying t = some (.slice e)) (hx : compX x = some y) (h : opW P (.len y) σ K) (hs : Sim w0 U σ ι a w) (hn : Goes w0 U a o K next) : o.wp P a w next Q := by
 have r1 := compX_rep hx hs
 have ha : c.args = #[x] := by rw [← Array.toArray_toList (xs := c.args), hargs]
 have hty : c.argTypes = #[t] := by rw [← Array.toArray_toList (xs := c.argTypes), htys]
 have key : ∀ {rows : List (List PC)}, rowsOf? σ.mem (AX.ev σ.fr y) = some rows → K (.c (.pure (.val (.int .i64 rows.length)))) σ → o.wp P a w next Q := by
  intro rows hr h
  obtain ⟨ad, cc, e1, _, _⟩ := rows_len hs r1 hr
  refine wp_value (u := .int .i64 rows.length) (w' := w) ?_ (hn _ σ ι _ w h hs (repV_int _ _))
  simp [execOp, ho, resolve, hc, invoke, builtin, ha, hty, e1, run_len_slice ht]
 simp only [opW] at h
 split at h
 ·rename_i rows e
  exact key (by rw [e]; rfl) h
 ·rename_i rows e
  exact key (by rw [e]; rfl) h
 ·rename_i e
  exact key (rows := []) (by rw [e]; rfl) h
 ·rename_i nm e
  split at h
  ·rename_i e' sz rows hf
   exact key (by rw [e]; simp [rowsOf?, hf]) h
  ·rename_i e' sz rows hf
   rw [e] at r1
   generalize hu : a.eval x = u at r1
   cases r1 with
   |c r1 => cases r1 with
    | ref hnm hex =>
     obtain ⟨cells, g0, g1, g2, g3⟩ := hs.box _ _ hf
     have hv : ∃ ad cc, ι nm = .slice ad rows.length cc := by
      rcases g1.2 with ⟨e', hz'⟩ | ⟨g, cap, cur, e', _⟩
      ·exact ⟨none, 0, by rw [e', hz']⟩
      ·exact ⟨_, cap, e'⟩
     obtain ⟨ad, cc, e1⟩ := hv
     rw [e1] at hu
     refine wp_value (u := .int .i64 rows.length) (w' := w) ?_ (hn _ σ ι _ w h hs (repV_int _ _))
     simp [execOp, ho, resolve, hc, invoke, builtin, ha, hty, hu, run_len_slice ht]
  ·exact h.elim
 ·exact h.elim
theorem op_lenS {t : TypeId} {x : Operand} {y : AX} {c : Call} (hc : c.callee = .builtin .len) (hargs : c.args.toList = [x]) (htys : c.argTypes.toList = [t]) (ho : o.op = .call c) (ht : P.underlying t = some .string) (hx : compX x = some y) (h : opW P (.lenS y) σ K) (hs : Sim w0 U σ ι a w) (hn : Goes w0 U a o K next) : o.wp P a w next Q := by
 have r1 := compX_rep hx hs
 have ha : c.args = #[x] := by rw [← Array.toArray_toList (xs := c.args), hargs]
 have hty : c.argTypes = #[t] := by rw [← Array.toArray_toList (xs := c.argTypes), htys]
 simp only [opW] at h
 split at h
 ·rename_i s e
  rw [e] at r1
  have e1 := (repV_val r1).1
  refine wp_value (u := .int .i64 s.size) (w' := w) ?_ (hn _ σ ι _ w h hs (repV_int _ _))
  simp [execOp, ho, resolve, hc, invoke, builtin, ha, hty, e1, Builtin.len_, run_underlying ht, goInt]
 ·exact h.elim
theorem op_mm {mx : Bool} {x y : Operand} {p q : AX} {c : Call} (hc : (c.callee = .builtin .min ∧ mx = false) ∨ (c.callee = .builtin .max ∧ mx = true)) (hargs : c.args.toList = [x, y]) (ho : o.op = .call c) (hx : compX x = some p) (hy : compX y = some q) (h : opW P (.mm mx p q) σ K) (hs : Sim w0 U σ ι a w) (hn : Goes w0 U a o K next) : o.wp P a w next Q := by
 have r1 := compX_rep hx hs
 have r2 := compX_rep hy hs
 have ha : c.args = #[x, y] := by rw [← Array.toArray_toList (xs := c.args), hargs]
 simp only [opW] at h
 split at h
 ·rename_i k m k' n e e'
  rw [e] at r1
  rw [e'] at r2
  have e1 := (repV_val r1).1
  have e2 := (repV_val r2).1
  refine wp_value (w' := w) ?_ (hn _ σ ι _ w h hs (repV_int _ _))
  rcases hc with ⟨hc, rfl⟩ | ⟨hc, rfl⟩
  ·have : (if n < m then n else m) = min m n := by split <;> omega
   simp [execOp, ho, resolve, hc, invoke, builtin, ha, e1, e2, Builtin.min_, Builtin.min2, this]
  ·have : (if m < n then n else m) = max m n := by split <;> omega
   simp [execOp, ho, resolve, hc, invoke, builtin, ha, e1, e2, Builtin.max_, Builtin.max2, this]
 ·exact h.elim
theorem op_mm4 {x y z t : Operand} {p q r s : AX} {c : Call} (hc : c.callee = .builtin .max) (hargs : c.args.toList = [x, y, z, t]) (ho : o.op = .call c) (hx : compX x = some p) (hy : compX y = some q) (hz : compX z = some r) (ht : compX t = some s) (h : opW P (.mm4 p q r s) σ K) (hs : Sim w0 U σ ι a w) (hn : Goes w0 U a o K next) : o.wp P a w next Q := by
 have r1 := compX_rep hx hs
 have r2 := compX_rep hy hs
 have r3 := compX_rep hz hs
 have r4 := compX_rep ht hs
 have ha : c.args = #[x, y, z, t] := by rw [← Array.toArray_toList (xs := c.args), hargs]
 simp only [opW] at h
 split at h
 ·rename_i k m k2 n k3 n3 k4 n4 e e' e3 e4
  rw [e] at r1
  rw [e'] at r2
  rw [e3] at r3
  rw [e4] at r4
  have e1 := (repV_val r1).1
  have e2 := (repV_val r2).1
  have e5 := (repV_val r3).1
  have e6 := (repV_val r4).1
  refine wp_value (w' := w) ?_ (hn _ σ ι _ w h hs (repV_int _ _))
  have mx : ∀ a b : Int, (if a < b then b else a) = max a b := fun a b => by split <;> omega
  simp [execOp, ho, resolve, hc, invoke, builtin, ha, e1, e2, e5, e6, Builtin.max_, Builtin.max2, mx]
 ·exact h.elim
end
end Go.Abs

set_option linter.unusedVariables false
set_option linter.unusedSimpArgs false
namespace Go.Abs
open Go.RowKit

theorem fold_over : ∀ (vs : List Value) (off j : Nat) (cs : Array Value), off + j + vs.length ≤ cs.size → ((vs.zipIdx j).foldl (fun cs (x : Value × Nat) => cs.setIfInBounds (off + x.2) x.1) cs).toList = over cs.toList (off + j) vs
 | [], off, j, cs, _ => by simp [over]
 |v :: vs, off, j, cs, h => by
  simp only [List.length_cons] at h
  rw [List.zipIdx_cons, List.foldl_cons, fold_over vs off (j + 1) _ (by simp; omega)]
  unfold over
  have hk : off + j < cs.toList.length := by simp; omega
  rw [Array.toList_setIfInBounds, List.take_set, List.drop_set, List.length_cons]
  have e1 : (cs.toList.take (off + (j + 1))).set (off + j) v = cs.toList.take (off + j) ++ [v] := by
   rw [← Nat.add_assoc, List.take_succ_eq_append_getElem hk, List.set_append_right _ _ (by simp; omega)]
   have : (off + j) - (cs.toList.take (off + j)).length = 0 := by simp; omega
   rw [this]
   rfl
  rw [e1, if_pos (by omega), show off + (j + 1) + vs.length = off + j + (vs.length + 1) from by omega]
  simp

theorem fill_cons {place : Nat → Option (Nat × Nat)} {cells : Array Value} {i off size : Nat} {v : Value} {rest : List (Nat × Value)} (hp : place i = some (off, size)) (hv : v.cells.size = size) (hle : off + size ≤ cells.size) :
  Instr.fill place cells ((i, v) :: rest) = Instr.fill place (over cells.toList off v.cells.toList).toArray rest := by
 simp only [Instr.fill, hp]
 rw [if_neg (by simp; omega)]
 congr 1
 have := fold_over v.cells.toList off 0 cells (by simp; omega)
 rw [← Array.foldl_toList, Array.toList_zipIdx]
 simp only [Nat.add_zero] at this
 rw [← this, Array.toArray_toList]

section
variable {P : Program} {o : Oper} {a : Act} {w w0 : World} {U : Gh} {ι : Pl} {σ : St} {next : Act → World → Prop} {Q : Exit → Act → World → Prop} {K : AV → St → Prop}

theorem over_len_eq {α : Type} {xs ys : List α} {off : Nat} (h : off + ys.length ≤ xs.length) : (over xs off ys).length = xs.length := over_length xs off ys h

theorem build_fill (hs : Sim w0 U σ ι a w) {places : List (Nat × Nat)} : ∀ {parts : List (Nat × Operand)} {ps : List (Nat × Nat × AX)} {acc : List AC} {cells : Array Value} {R : List AC → Prop}, partsOf places parts = some ps → opW.buildW σ ps acc R →
  All2 (RepA w (Free w0.heap.size U ι σ.mem) ι σ.nx) acc cells.toList → ∃ cells' xs, Instr.fill (fun i => places[i]?) cells (parts.map fun (i, x) => (i, a.eval x)) = some cells' ∧ All2 (RepA w (Free w0.heap.size U ι σ.mem) ι σ.nx) xs cells'.toList ∧ R xs
 |[], ps, acc, cells, R, hp, h, hc => by
  cases hp
  exact ⟨cells, acc, rfl, hc, h⟩
 |(i, x) :: parts, ps, acc, cells, R, hp, h, hc => by
  unfold partsOf at hp
  split at hp
  ·rename_i off n y ys h1 h2 h3
   cases hp
   simp only [opW.buildW] at h
   split at h
   ·rename_i zs e
    obtain ⟨⟨hl, hle⟩, h⟩ := h
    have hz := (compX_rep h2 hs).cells e
    have hzl := hz.length
    have hcl := hc.length
    have e0 := Array.length_toList (xs := (a.eval x).cells)
    have e00 := Array.length_toList (xs := cells)
    obtain ⟨cells', xs, hf, hr, hR⟩ := build_fill hs (cells := (over cells.toList off (a.eval x).cells.toList).toArray) h3 h (hc.over hz off)
    refine ⟨cells', xs, ?_, hr, hR⟩
    rw [List.map_cons, fill_cons h1 (by omega) (by omega)]
    exact hf
   ·exact h.elim
  ·cases hp

theorem op_build {t : TypeId} {parts : Array (Nat × Operand)} {z : List AC} {ps : List (Nat × Nat × AX)} (ho : o.op = .build t parts) (hz : (zeroOf P t).bind (fun z => cellsOf z.cells.toList) = some z) (hp : (placesOf P t).bind (partsOf · parts.toList) = some ps)
  (h : opW P (.build z ps) σ K) (hs : Sim w0 U σ ι a w) (hn : Goes w0 U a o K next) : o.wp P a w next Q := by
 simp only [opW] at h
 unfold zeroOf placesOf at *
 cases hi : P.info? t with
 | none => simp [hi] at hz
 | some it =>
  cases hz0 : it.zero with
  | none => simp [hi, hz0] at hz
  | some z0 =>
   simp [hi, hz0] at hz
   split at hp
   ·rename_i fs hd
    cases hpl : fs.toList.mapM (fun f => (P.info? f.type).map fun i => (f.offset, i.size)) with
    | none => simp [hpl] at hp
    | some places =>
     simp only [hpl, Option.bind_some] at hp
     obtain ⟨cells', xs, hf, hr, hR⟩ := build_fill hs hp h (cells := z0.cells) (cellsOf_rep hz)
     refine wp_value (w' := w) ?_ (hn _ σ ι _ w hR hs (.agg hr))
     have hb : P.built t (parts.map fun (i, x) => (i, a.eval x)).toList = some cells' := by
      unfold Program.built
      simp only [hi, hd, hz0, hpl]
      rw [Array.toList_map]
      simpa using hf
     simp only [execOp, ho, Sem.run_bind]
     rw [run_build w t _ cells' hb]
     rfl
   ·simp at hp

theorem RowsRep.append {V : Nat → Prop} {sz : Nat} {rows rows' : List (List PC)} {cs cs' : List Value} (h : RowsRep w V sz rows cs) (h' : RowsRep w V sz rows' cs') : RowsRep w V sz (rows ++ rows') (cs ++ cs') := by
 obtain ⟨h3, h4, h5⟩ := h
 obtain ⟨g3, g4, g5⟩ := h'
 refine ⟨by rw [List.length_append, List.length_append, h3, g3, Nat.add_mul], fun i row hi => ?_, fun i row j p hi hj => ?_⟩
 ·by_cases hlt : i < rows.length
  ·rw [List.getElem?_append_left hlt] at hi; exact h4 i row hi
  ·rw [List.getElem?_append_right (by omega)] at hi; exact g4 _ row hi
 ·by_cases hlt : i < rows.length
  ·rw [List.getElem?_append_left hlt] at hi
   obtain ⟨v, hv, hp⟩ := h5 i row j p hi hj
   exact ⟨v, by rw [List.getElem?_append_left ((List.getElem?_eq_some_iff.1 hv).1)]; exact hv, hp⟩
  ·rw [List.getElem?_append_right (by omega)] at hi
   obtain ⟨v, hv, hp⟩ := g5 _ row j p hi hj
   have hge : rows.length * sz ≤ i * sz := Nat.mul_le_mul_right _ (by omega)
   refine ⟨v, ?_, hp⟩
   rw [List.getElem?_append_right (by omega), ← hv, h3, Nat.sub_mul]
   congr 1
   omega
theorem RowsRep.nil {V : Nat → Prop} {sz : Nat} : RowsRep w V sz [] [] := ⟨by simp, by simp, by simp⟩
theorem RowsRep.one {V : Nat → Prop} {sz : Nat} {r : List PC} {vs : List Value} (h : All2 (RepP w V) r vs) (hl : r.length = sz) : RowsRep w V sz [r] vs := by
 refine ⟨by rw [← h.length, hl]; simp, fun i row hi => ?_, fun i row j p hi hj => ?_⟩
 ·cases i with
  | zero => simp at hi; subst hi; exact hl
  | succ i => simp at hi
 ·cases i with
  | zero =>
   simp at hi
   subst hi
   obtain ⟨v, hv, hp⟩ := h.get hj
   exact ⟨v, by simpa using hv, hp⟩
  | succ i => simp at hi

theorem cell_row {b k : Nat} {cs : Array Value} {T : TypeId} {fz : Nat × Nat} (h : w.heap[b]? = some (.cells cs T fz)) : w.cell? ⟨b, k, none⟩ = cs.toList[k]? := by
 rw [cell_of_row w b k cs T fz h]
 simp

theorem RowsRep.slice {V : Nat → Prop} {sz b c : Nat} {rows : List (List PC)} {cells : List Value} (h : RowsRep w V sz rows cells) (hb : V b) (hc : rows.length ≤ c) (hm : rows.length ≤ 9223372036854775807)
  (hcell : ∀ (k : Nat) v, cells[k]? = some v → w.cell? ⟨b, k, none⟩ = some v) : RepP w V (.slice rows) (.slice (some ⟨b, 0, none⟩) rows.length c) := by
 refine .slice (sz := sz) (fun i j => (cells[i * sz + j]?).getD undef) rfl hc hm h.2.1 (fun i row j p hi hj => ?_) (fun i row j p hi hj => ?_)
 ·obtain ⟨v, hv, hp⟩ := h.2.2 i row j p hi hj
  exact ⟨b, 0, rfl, hb, by rw [Nat.zero_add, hv]; exact hcell _ _ hv⟩
 ·obtain ⟨v, hv, hp⟩ := h.2.2 i row j p hi hj
  rw [hv]
  exact hp

theorem free_new (hs : Sim w0 U σ ι a w) : Free w0.heap.size U ι σ.mem w.heap.size :=
 ⟨.inr hs.below.size, fun nm bx hf e => by have := ((hs.box _ _ hf).block e).2; omega⟩

theorem bslice_fill (hs : Sim w0 U σ ι a w) {sz n : Nat} : ∀ {k : Nat} {parts : List (Nat × Operand)} {rs : List AX} {acc : List (List PC)} {cells : Array Value} {R : List (List PC) → Prop}, rowsOf k parts = some rs → opW.bsliceW σ sz rs acc R → acc.length = k → k + rs.length = n → cells.size = n * sz →
  RowsRep w (Free w0.heap.size U ι σ.mem) sz acc (cells.toList.take (k * sz)) → ∃ cells' rows, Instr.fill (fun i => some (i * sz, sz)) cells (parts.map fun (i, x) => (i, a.eval x)) = some cells' ∧ RowsRep w (Free w0.heap.size U ι σ.mem) sz rows cells'.toList ∧ rows.length = n ∧ R rows
 |k, [], rs, acc, cells, R, hp, h, hl, hkn, hcs, hc => by
  cases hp
  simp at hkn
  subst hkn
  exact ⟨cells, acc, rfl, by rw [List.take_of_length_le (by simp; omega)] at hc; exact hc, hl, h⟩
 |k, (i, x) :: parts, rs, acc, cells, R, hp, h, hl, hkn, hcs, hc => by
  unfold rowsOf at hp
  split at hp
  ·rename_i hik
   subst hik
   split at hp
   ·rename_i y ys h2 h3
    cases hp
    simp only [opW.bsliceW] at h
    split at h
    ·rename_i zs e
     obtain ⟨r, hr, hrl, h⟩ := h
     have hz := (compX_rep h2 hs).cells e
     have hpz := pcAs_rep hz hr
     have hzl := hz.length
     have e0 := Array.length_toList (xs := (a.eval x).cells)
     have e00 := Array.length_toList (xs := cells)
     simp only [List.length_cons] at hkn
     have hle : i * sz + sz ≤ n * sz := by
      have : (i + 1) * sz ≤ n * sz := Nat.mul_le_mul_right _ (by omega)
      rw [Nat.succ_mul] at this
      exact this
     have hol : (over cells.toList (i * sz) (a.eval x).cells.toList).length = cells.toList.length := over_len_eq (by simp; omega)
     obtain ⟨cells', rows, hf, h4, h5, hR⟩ := bslice_fill hs (n := n) (cells := (over cells.toList (i * sz) (a.eval x).cells.toList).toArray) h3 h (by simp [hl]) (by omega) (by simp only [List.size_toArray, hol, Array.length_toList, hcs]) (by
      have e1 : (over cells.toList (i * sz) (a.eval x).cells.toList).take ((i + 1) * sz) = cells.toList.take (i * sz) ++ (a.eval x).cells.toList := by
       unfold over
       rw [List.append_assoc, Nat.succ_mul]
       have e2 : (cells.toList.take (i * sz)).length = i * sz := by simp; omega
       rw [List.take_append, e2, List.take_of_length_le (by omega), Nat.add_sub_cancel_left, List.take_append, List.take_of_length_le (l := (a.eval x).cells.toList) (by simp; omega)]
       have e3 : sz - (a.eval x).cells.toList.length = 0 := by simp; omega
       rw [e3]
       simp
      simp only [List.toList_toArray] at e1 ⊢
      rw [e1]
      exact hc.append (RowsRep.one hpz (by have := hpz.length; omega)))
     refine ⟨cells', rows, ?_, h4, h5, hR⟩
     rw [List.map_cons, fill_cons rfl (by omega) (by omega)]
     exact hf
    ·exact h.elim
   ·cases hp
  ·cases hp
theorem op_bslice {t : TypeId} {n e sz bytes : Nat} {parts : Array (Nat × Operand)} {rs : List AX} {z : Value} (ho : o.op = .buildSlice t n parts) (ht : elemOf? P t = some (e, sz, bytes)) (hr : rowsOf 0 parts.toList = some rs) (hl : rs.length = n) (hm : n * sz ≤ 16777216) (h0 : 0 < sz) (hz : zeroOf P e = some z) (hzs : z.cells.size = sz)
  (h : opW P (.bslice sz rs) σ K) (hs : Sim w0 U σ ι a w) (hn : Goes w0 U a o K next) : o.wp P a w next Q := by
 simp only [opW] at h
 unfold elemOf? zeroOf at *
 split at ht
 ·rename_i e' hd
  cases hi : P.info? e' with
  | none => simp [hi] at ht
  | some inf =>
   simp [hi] at ht
   obtain ⟨rfl, rfl, _⟩ := ht
   simp [hi] at hz
   let base : Array Value := (Array.range (n * inf.size)).map (fun k => (if n * inf.size = 0 then #[] else z.cells)[k % (if n * inf.size = 0 then #[] else z.cells).size]!)
   have hbase : base.size = n * inf.size := by simp [base]
   obtain ⟨cells', rows, hf, h4, h5, hR⟩ := bslice_fill hs (n := n) (cells := base) hr h rfl (by omega) hbase (by simp; exact RowsRep.nil)
   have hg : Below w.heap.size w (w.alloc (.cells cells' e')) := (Below.refl _ _).alloc (Nat.le_refl _) _
   have hrep : RepP (w.alloc (.cells cells' e')) (Free w0.heap.size U ι σ.mem) (.slice rows) (.slice (some ⟨w.heap.size, 0, none⟩) rows.length rows.length) := by
    refine (h4.mono (fun _ _ h => h) (fun b hb _ => hg.block b hb)).slice (free_new hs) (Nat.le_refl _) (by have : n * 1 ≤ n * inf.size := Nat.mul_le_mul_left _ h0; omega) fun k v hk => ?_
    rw [cell_row (heap_alloc_new _ _)]
    exact hk
   rw [h5] at hrep
   refine wp_value (w' := w.alloc (.cells cells' e')) ?_ (hn _ σ ι _ _ hR (hs.grow hg) (.c (.tsl hrep)))
   have hf' : Instr.fill (fun i => some (i * inf.size, inf.size)) base (parts.map fun (i, x) => (i, a.eval x)).toList = some cells' := by
    rw [Array.toList_map]; exact hf
   by_cases hn0 : n * inf.size = 0
   ·simp only [base, hn0, if_true] at hf'
    have e1 : ¬ (16777216 < n * inf.size) := by omega
    simp [execOp, ho, Instr.buildSlice, run_underlying hd, sizeOf, typeInfo, hi, hn0, newRow]
    simp [Array.range_zero'] at hf'
    simp [hf', Array.range_zero']
    try rfl
   ·simp only [base, hn0, if_false] at hf'
    have e1 : ¬ (16777216 < n * inf.size) := by omega
    simp [execOp, ho, Instr.buildSlice, run_underlying hd, sizeOf, typeInfo, hi, hn0, newRow, zeroValue, hz, e1]
    simp at hf'
    simp [hf']
    try rfl
 ·cases ht
end
end Go.Abs

set_option linter.unusedVariables false
set_option linter.unusedSimpArgs false
namespace Go.Abs
open Go.RowKit

section
variable {P : Program} {o : Oper} {a : Act} {w w0 : World} {U : Gh} {ι : Pl} {σ : St} {next : Act → World → Prop} {Q : Exit → Act → World → Prop} {K : AV → St → Prop}

theorem madeCells_get {z : Array Value} {m k : Nat} (h : k < m) : (madeCells z m).toList[k]? = some (z[k % z.size]!) := by
 unfold madeCells
 simp [h]

theorem mod_row {i j sz : Nat} (h : j < sz) : (i * sz + j) % sz = j := by
 rw [Nat.add_comm, Nat.add_mul_mod_self_right, Nat.mod_eq_of_lt h]

theorem row_lt {i n j sz : Nat} (hi : i < n) (hj : j < sz) : i * sz + j < n * sz := by
 have : (i + 1) * sz ≤ n * sz := Nat.mul_le_mul_right _ hi
 rw [Nat.succ_mul] at this
 omega

theorem RowsRep.made {V : Nat → Prop} {sz n : Nat} {zs : List PC} {z : Array Value} (hz : All2 (RepP w V) zs z.toList) (hs : z.size = sz) : RowsRep w V sz (List.replicate n zs) (madeCells z (n * sz)).toList := by
 have hl : zs.length = sz := by rw [hz.length, Array.length_toList, hs]
 refine ⟨by simp [madeCells], fun i row hi => ?_, fun i row j p hi hj => ?_⟩
 ·have := List.mem_of_getElem? hi
  rw [List.mem_replicate] at this
  rw [this.2, hl]
 ·have hil : i < n := by have := (List.getElem?_eq_some_iff.1 hi).1; simpa using this
  have := List.mem_of_getElem? hi
  rw [List.mem_replicate] at this
  obtain ⟨_, rfl⟩ := this
  obtain ⟨v, hv, hp⟩ := hz.get hj
  have hjl : j < sz := by rw [← hl]; exact (List.getElem?_eq_some_iff.1 hj).1
  refine ⟨v, ?_, hp⟩
  rw [madeCells_get (row_lt hil hjl), hs, mod_row hjl, ← hv]
  simp [hs, hjl]

theorem op_mkslice {t e : TypeId} {sz bytes l : Nat} {z : Value} {zs : List PC} (ho : o.op = .makeSlice t (.tmp l) (.tmp l)) (ht : elemOf? P t = some (e, sz, bytes)) (h0 : 0 < sz) (hz : zeroOf P e = some z) (hzs : z.cells.size = sz) (hpz : pcellsOf z.cells.toList = some zs)
  (h : opW P (.mkslice e sz bytes zs (.t l)) σ K) (hs : Sim w0 U σ ι a w) (hn : Goes w0 U a o K next) : o.wp P a w next Q := by
 have r1 := compX_rep (x := .tmp l) rfl hs
 simp only [opW] at h
 unfold elemOf? zeroOf at *
 split at ht
 ·rename_i e' hd
  cases hi : P.info? e' with
  | none => simp [hi] at ht
  | some inf =>
   simp [hi] at ht
   obtain ⟨rfl, rfl, rfl⟩ := ht
   simp [hi] at hz
   split at h
   ·rename_i n en
    rw [en] at r1
    have e1 := (repV_val r1).1
    obtain ⟨⟨hn0, hm, hb⟩, h⟩ := h
    have hrun := run_make (P := P) w t e' inf z hd hi hz .i64 .i64 n n hn0 (Int.le_refl _) hb (by omega)
    have hg : Below w.heap.size w (w.alloc (.cells (madeCells z.cells (n.toNat * inf.size)) e')) := (Below.refl _ _).alloc (Nat.le_refl _) _
    obtain ⟨ι', h1, h2, h3, h4⟩ := hs.newBox (pv := .slice (some ⟨w.heap.size, 0, none⟩) n.toNat n.toNat) (bx := .arr e' inf.size (List.replicate n.toNat zs)) hg (fun b hb => by simp [blockOf] at hb; omega) (fun ι' e1 e2 hfree => by
     refine ⟨(madeCells z.cells (n.toNat * inf.size)).toList, h0, ?_, by simp; omega, RowsRep.made (pcellsOf_rep hpz) hzs⟩
     rw [e2, List.length_replicate]
     refine ⟨by simp [madeCells], .inr ⟨w.heap.size, n.toNat, madeCells z.cells (n.toNat * inf.size), rfl, hs.below.size, heap_alloc_new _ _, Nat.le_refl _, by unfold maxLen; omega, by simp [madeCells], ?_⟩⟩
     exact List.take_of_length_le (by simp [madeCells]))
    refine wp_value (u := ι' σ.nx) (w' := w.alloc (.cells (madeCells z.cells (n.toNat * inf.size)) e')) ?_ (hn _ _ ι' _ _ h h1 (.c (.ref (Nat.lt_succ_self _) ⟨_, _, _, h2⟩)))
    rw [h2]
    simp only [execOp, ho, e1, Sem.run_bind, hrun]
    rfl
   ·exact h.elim
 ·cases ht

theorem RepP.part {V : Nat → Prop} {sz n c l h m : Nat} {rows : List (List PC)} {ad : Option Addr} (hp : RepP w V (.slice rows) (.slice ad n c)) (hsz : rowsOk sz rows) (hlh : l ≤ h) (hhn : h ≤ rows.length) (hhm : h ≤ m) :
  RepP w V (.slice ((rows.take h).drop l)) (.slice (if m = l then ad else ad.map (·.add (l * sz))) (h - l) (m - l)) := by
 cases hp with
 | @slice sz' _ _ _ _ g hn hc hm hr hcell hp =>
  have hss : ∀ (i : Nat) row, rows[i]? = some row → sz' = sz := fun i row hi => by rw [← hr i row hi]; exact hsz row (List.mem_of_getElem? hi)
  have hget : ∀ i row, ((rows.take h).drop l)[i]? = some row → rows[l + i]? = some row := by
   intro i row hi
   rw [List.getElem?_drop] at hi
   have := (List.getElem?_eq_some_iff.1 hi).1
   rw [List.getElem?_take_of_lt (by simp at this; omega)] at hi
   exact hi
  refine .slice (fun i j => g (l + i) j) (by simp; omega) (by omega) (by omega) (fun i row hi => hr _ row (hget i row hi)) (fun i row j p hi hj => ?_) (fun i row j p hi hj => hp _ row j p (hget i row hi) hj)
  have hil : i < h - l := by have := (List.getElem?_eq_some_iff.1 hi).1; simp at this; omega
  obtain ⟨b, off, rfl, hb, hcl⟩ := hcell _ row j p (hget i row hi) hj
  rw [if_neg (by omega)]
  have := hss _ row (hget i row hi)
  subst this
  refine ⟨b, off + l * sz', by simp [add_off], hb, ?_⟩
  rw [← hcl, Nat.add_mul]
  congr 2
  omega

theorem bound_rep {x : Option Operand} {y : Option AX} {r : Option Int} (h : compO? x = some y) (hs : Sim w0 U σ ι a w) (hb : opW.boundOf σ y = some r) : (x.map a.eval = none ∧ r = none) ∨ ∃ k i, (x.map a.eval) = some (.int k i) ∧ r = some i := by
 cases x with
 | none =>
  cases h
  left
  simp [opW.boundOf] at hb
  exact ⟨rfl, hb.symm⟩
 | some x =>
  simp [compO?] at h
  obtain ⟨z, hz, rfl⟩ := h
  have r1 := compX_rep hz hs
  simp only [opW.boundOf] at hb
  split at hb
  ·rename_i k i e
   cases hb
   rw [e] at r1
   exact .inr ⟨k, i, by simp [(repV_val r1).1], rfl⟩
  ·cases hb

theorem run_bound {k : IntKind} {i : Int} {y : Nat} {code : BoundsCode} (h0 : 0 ≤ i) (h1 : i ≤ y) : (Instr.sliceBound (.int k i) y code).run P w = .ok i.toNat w := by
 simp [Instr.sliceBound, asIntOf, h0, h1]

theorem run_bounds {b : Bool} {n c : Nat} {lo hi mx : Option Value} {l h m : Option Int} (hlo : (lo = none ∧ l = none) ∨ ∃ k i, lo = some (.int k i) ∧ l = some i) (hhi : (hi = none ∧ h = none) ∨ ∃ k i, hi = some (.int k i) ∧ h = some i)
  (hmx : (mx = none ∧ m = none) ∨ ∃ k i, mx = some (.int k i) ∧ m = some i) (g1 : 0 ≤ l.getD 0) (g2 : l.getD 0 ≤ h.getD n) (g3 : h.getD n ≤ m.getD n) (g4 : m.getD n ≤ n) (hc : n ≤ c) (hm : m.isSome = true → h.isSome = true) :
  (Instr.sliceBounds b n c lo hi mx).run P w = .ok ((l.getD 0).toNat, (h.getD n).toNat, (m.map Int.toNat).getD c) w := by
 rcases hlo with ⟨rfl, rfl⟩ | ⟨kl, l, rfl, rfl⟩ <;> rcases hhi with ⟨rfl, rfl⟩ | ⟨kh, h, rfl, rfl⟩ <;> rcases hmx with ⟨rfl, rfl⟩ | ⟨km, m, rfl, rfl⟩ <;> simp only [Option.getD_none, Option.getD_some] at g1 g2 g3 g4
 all_goals first
  | (simp at hm; done)
  | skip
 ·simp [Instr.sliceBounds]
 ·unfold Instr.sliceBounds
  simp [run_bound (P := P) (w := w) (show 0 ≤ h by omega) (show h ≤ (c : Int) by omega)]
 ·unfold Instr.sliceBounds
  have e1 := run_bound (P := P) (w := w) (k := km) (code := if b = true then .slice3Acap else .slice3Alen) (show 0 ≤ m by omega) (show m ≤ (c : Int) by omega)
  have e2 := run_bound (P := P) (w := w) (k := kh) (code := .slice3B) (show 0 ≤ h by omega) (show h ≤ (m.toNat : Int) by omega)
  simp [e1, e2]
 ·unfold Instr.sliceBounds
  have e1 := run_bound (P := P) (w := w) (k := kl) (code := .sliceB) (show 0 ≤ l by omega) (show l ≤ (n : Int) by omega)
  simp [e1]
 ·unfold Instr.sliceBounds
  have e1 := run_bound (P := P) (w := w) (k := kh) (code := if b = true then .sliceAcap else .sliceAlen) (show 0 ≤ h by omega) (show h ≤ (c : Int) by omega)
  have e2 := run_bound (P := P) (w := w) (k := kl) (code := .sliceB) (show 0 ≤ l by omega) (show l ≤ (h.toNat : Int) by omega)
  simp [e1, e2]
 ·unfold Instr.sliceBounds
  have e1 := run_bound (P := P) (w := w) (k := km) (code := if b = true then .slice3Acap else .slice3Alen) (show 0 ≤ m by omega) (show m ≤ (c : Int) by omega)
  have e2 := run_bound (P := P) (w := w) (k := kh) (code := .slice3B) (show 0 ≤ h by omega) (show h ≤ (m.toNat : Int) by omega)
  have e3 := run_bound (P := P) (w := w) (k := kl) (code := .slice3C) (show 0 ≤ l by omega) (show l ≤ (h.toNat : Int) by omega)
  simp [e1, e2, e3]

theorem op_slcS {t : TypeId} {x : Operand} {lo hi : Option Operand} {y : AX} {l h' : Option AX} (ho : o.op = .slice t x lo hi none) (ht : P.underlying t = some .string) (hx : compX x = some y) (hl : compO? lo = some l) (hh : compO? hi = some h')
  (h : opW P (.slcS y l h') σ K) (hs : Sim w0 U σ ι a w) (hn : Goes w0 U a o K next) : o.wp P a w next Q := by
 have r1 := compX_rep hx hs
 simp only [opW] at h
 split at h
 ·rename_i s lo' hi' e e1 e2
  rw [e] at r1
  have es := (repV_val r1).1
  obtain ⟨⟨g1, g2, g3⟩, h⟩ := h
  have b1 := bound_rep hl hs e1
  have b2 := bound_rep hh hs e2
  have hrun := run_bounds (P := P) (w := w) (b := false) (n := s.size) (c := s.size) (lo := lo.map a.eval) (hi := hi.map a.eval) (mx := none) (m := none) b1 b2 (.inl ⟨rfl, rfl⟩) g1 g2 g3 (by simp) (Nat.le_refl _) (by simp)
  refine wp_value (w' := w) ?_ (hn _ σ ι _ w h hs (repV_of_val rfl))
  simp [execOp, ho, es, Instr.sliceAt, Instr.slice, run_underlying ht, hrun]
 ·exact h.elim

theorem op_slc {t e : TypeId} {sz bytes : Nat} {x : Operand} {lo hi mx : Option Operand} {y : AX} {l h' m : Option AX} (ho : o.op = .slice t x lo hi mx) (ht : elemOf? P t = some (e, sz, bytes)) (hx : compX x = some y) (hl : compO? lo = some l) (hh : compO? hi = some h') (hm : compO? mx = some m) (hhm : mx.isSome = true → hi.isSome = true)
  (h : opW P (.slc sz y l h' m) σ K) (hs : Sim w0 U σ ι a w) (hn : Goes w0 U a o K next) : o.wp P a w next Q := by
 have r1 := compX_rep hx hs
 simp only [opW] at h
 split at h
 ·exact h.elim
 ·rename_i nref
  obtain ⟨rows, e0, lo', e1, hi', e2, mx', e3, ⟨hok, g1, g2, g3, g4⟩, h⟩ := h
  have b1 := bound_rep hl hs e1
  have b2 := bound_rep hh hs e2
  have b3 := bound_rep hm hs e3
  obtain ⟨ad, c, eu, hc, hmax⟩ := rows_len hs r1 e0
  have hrep : RepP w (Free w0.heap.size U ι σ.mem) (.slice rows) (.slice ad rows.length c) := by
   unfold rowsOf? at e0
   generalize AX.ev σ.fr y = v at *
   split at e0
   ·cases e0
    cases r1 with | c r1 => cases r1 with | pure r1 => rw [eu] at r1; exact r1
   ·cases e0
    cases r1 with | c r1 =>
     rw [eu] at r1
     cases r1 with | tsl r1 => exact r1
   ·cases e0
    cases r1 with | c r1 =>
     rw [eu] at r1
     cases r1
     exact .nil
   ·exact absurd rfl (nref _)
   ·cases e0
  unfold elemOf? at ht
  split at ht
  ·rename_i e' hd
   cases hinf : P.info? e' with
   | none => simp [hinf] at ht
   | some inf =>
    simp [hinf] at ht
    obtain ⟨rfl, rfl, _⟩ := ht
    have hsome : mx'.isSome = true → hi'.isSome = true := by
     intro h1
     have h2 : mx.isSome = true := by
      rcases b3 with ⟨_, h3⟩ | ⟨k, i, h3, _⟩
      ·rw [h3] at h1; cases h1
      ·cases mx with
       | none => cases h3
       | some _ => rfl
     have h4 := hhm h2
     rcases b2 with ⟨h5, _⟩ | ⟨k, i, _, h5⟩
     ·cases hi with
      | none => cases h4
      | some _ => cases h5
     ·rw [h5]; rfl
    have hrun := run_bounds (P := P) (w := w) (b := true) (n := rows.length) (c := c) b1 b2 b3 g1 g2 g3 g4 hc hsome
    have hpart := hrep.part hok (l := (lo'.getD 0).toNat) (h := (hi'.getD rows.length).toNat) (m := (mx'.map Int.toNat).getD c) (by omega) (by omega) (by cases mx' with | none => simp at g3 ⊢; omega | some m => simp at g3 ⊢; omega)
    refine wp_value (u := .slice (if ((mx'.map Int.toNat).getD c) = (lo'.getD 0).toNat then ad else ad.map (·.add ((lo'.getD 0).toNat * inf.size))) ((hi'.getD rows.length).toNat - (lo'.getD 0).toNat) (((mx'.map Int.toNat).getD c) - (lo'.getD 0).toNat)) (w' := w) ?_ (hn _ σ ι _ w h hs ?_)
    ·simp only [execOp, ho, Sem.run_bind, Instr.sliceAt, Instr.slice, run_underlying hd, Result.andThen_ok, eu, hrun, sizeOf, typeInfo, run_program, hinf, Sem.run_pure]
    ·split
     ·rename_i hms
      obtain ⟨hm1, hm2⟩ := hms
      cases mx' with
      | none => cases hm1
      | some m =>
       subst hm2
       exact .c (.tsl hpart)
     ·exact .c (.pure hpart)
  ·cases ht
end
end Go.Abs

set_option linter.unusedVariables false
set_option linter.unusedSimpArgs false
namespace Go.Abs
open Go.RowKit

section
variable {P : Program} {o : Oper} {a : Act} {w w' w0 : World} {U : Gh} {ι : Pl} {σ : St} {next : Act → World → Prop} {Q : Exit → Act → World → Prop} {K : AV → St → Prop}

theorem findB_delB {nm t : Nat} : ∀ {m : List (Nat × Box)}, findB (delB m nm) t = if t = nm then none else findB m t
 | [] => by simp [delB, findB]
 |(s, b) :: m => by
  simp only [delB]
  by_cases e : s = nm
  ·rw [if_pos e, findB_delB, findB_cons]
   by_cases e2 : t = nm
   ·rw [if_pos e2, if_pos e2]
   ·rw [if_neg e2, if_neg e2, if_neg (by omega)]
  ·rw [if_neg e, findB_cons, findB_cons, findB_delB]
   by_cases e2 : t = nm
   ·rw [if_pos e2, if_pos e2, if_neg (by omega)]
   ·rw [if_neg e2, if_neg e2]

theorem Sim.replace (hs : Sim w0 U σ ι a w) {nm e sz : Nat} {rows rows' : List (List PC)} {pv : Value} {cells : List Value} (hf : findB σ.mem nm = some (.arr e sz rows)) (hg : w.grownBy w' (blockOf (ι nm)))
  (hpv : ∀ b, blockOf pv = some b → blockOf (ι nm) = some b ∨ w.heap.size ≤ b) (hsl : ∃ a n c, pv = .slice a n c) (h0 : 0 < sz) (how : w'.ownsRow w0.heap.size e sz pv rows'.length cells) (hm : rows'.length ≤ 9223372036854775807)
  (hrows : RowsRep w (Free w0.heap.size U ι σ.mem) sz rows' cells) (hbelow : Below w0.heap.size w0 w') :
  ∃ ι', ι' σ.nx = pv ∧ σ.nx < σ.nx + 1 ∧ Sim w0 U { σ with mem := (σ.nx, .arr e sz rows') :: delB σ.mem nm, nx := σ.nx + 1 } ι' a w' := by
 let ι' : Pl := fun n => if n = σ.nx then pv else ι n
 have e1 : ι' σ.nx = pv := if_pos rfl
 have e2 : ∀ m, m < σ.nx → ι' m = ι m := fun m hm => if_neg (by omega)
 let mem' := (σ.nx, Box.arr e sz rows') :: delB σ.mem nm
 have hdom : ∀ n bx, findB mem' n = some bx → (n = σ.nx ∧ bx = .arr e sz rows') ∨ (n ≠ nm ∧ n < σ.nx ∧ findB σ.mem n = some bx) := by
  intro n bx h
  simp only [mem', findB_cons, findB_delB] at h
  by_cases en : σ.nx = n
  ·rw [if_pos en] at h
   cases h
   exact .inl ⟨en.symm, rfl⟩
  ·rw [if_neg en] at h
   by_cases en' : n = nm
   ·rw [if_pos en'] at h; cases h
   ·rw [if_neg en'] at h
    exact .inr ⟨en', hs.names _ _ h, h⟩
 have hfree : ∀ b, b < w.heap.size → Free w0.heap.size U ι σ.mem b → Free w0.heap.size U ι' mem' b := by
  intro b hb h
  refine ⟨h.1, fun n bx hn => ?_⟩
  rcases hdom n bx hn with ⟨rfl, _⟩ | ⟨h1, h2, h3⟩
  ·rw [e1]
   intro hc
   rcases hpv b hc with h2 | h2
   ·exact h.2 _ _ hf h2
   ·omega
  ·rw [e2 n h2]
   exact h.2 _ _ h3
 have hw : ∀ b, b < w.heap.size → Free w0.heap.size U ι σ.mem b → w'.heap[b]? = w.heap[b]? := fun b hb h => hg.block b hb (fun e => h.2 _ _ hf e.symm)
 refine ⟨ι', e1, Nat.lt_succ_self _, ⟨fun t => ?_, hs.defers, fun n bx hn => ?_, fun n bx hn => ?_, fun n n' b1 b2 b h1 h2 h3 h4 => ?_, hbelow, U.mono _ _ _ _ hs.keep hfree hw,
  ⟨Nat.le_succ_of_le hs.base.1, fun m hm => (e2 m (Nat.lt_of_lt_of_le hm hs.base.1)).trans (hs.base.2 m hm)⟩⟩⟩
 ·exact (hs.val t).mono hfree hw e2 (Nat.le_succ _)
 ·show n < σ.nx + 1
  rcases hdom n bx hn with ⟨rfl, _⟩ | ⟨h1, h2, h3⟩ <;> omega
 ·rcases hdom n bx hn with ⟨rfl, rfl⟩ | ⟨h1, h2, h3⟩
  ·exact ⟨cells, h0, by rw [e1]; exact how, hm, hrows.mono hfree hw⟩
  ·have hbn : ∀ c, blockOf (ι n) = some c → blockOf (ι nm) ≠ some c := fun c hc e' => h1 (hs.apart _ _ _ _ c h3 hf hc e')
   have hbx := hs.box _ _ h3
   cases bx with
   | var xs =>
    obtain ⟨b', vs, T, g1, g2, g3, g4⟩ := hbx
    refine ⟨b', vs, T, by rw [e2 n h2]; exact g1, g2, ?_, g4.mono fun _ _ h => h.mono hfree hw e2 (Nat.le_succ _)⟩
    rw [hg.block b' (Array.getElem?_eq_some_iff.1 g3).1 (fun e => hbn b' (by rw [g1]; rfl) e.symm)]
    exact g3
   | arr e' sz' rows0 =>
    obtain ⟨cells', k0, k1, k2, k3⟩ := hbx
    refine ⟨cells', k0, ?_, k2, k3.mono hfree hw⟩
    rw [e2 n h2]
    refine World.ownsRow.kept k1 hg ?_
    rcases k1.2 with ⟨h, _⟩ | ⟨g, cap, cur, h, _⟩
    ·rw [h]; exact .inl rfl
    ·right
     rw [h]
     intro e'
     exact hbn g (by rw [h]; rfl) e'.symm
   | arn e' sz' rows0 =>
    obtain ⟨cells', k0, k1, k2, k3⟩ := hbx
    refine ⟨cells', k0, ?_, k2, k3.mono hfree hw e2 (Nat.le_succ _)⟩
    rw [e2 n h2]
    refine World.ownsRow.kept k1 hg ?_
    rcases k1.2 with ⟨h, _⟩ | ⟨g, cap, cur, h, _⟩
    ·rw [h]; exact .inl rfl
    ·right
     rw [h]
     intro e'
     exact hbn g (by rw [h]; rfl) e'.symm
   | map kt m ents =>
    obtain ⟨b', es, clock, k1, k2, k3, k4, k5⟩ := hbx
    refine ⟨b', es, clock, by rw [e2 n h2]; exact k1, k2, ?_, k4.mono fun _ _ h => h.mono hfree hw e2 (Nat.le_succ _), k5⟩
    rw [hg.block b' (Array.getElem?_eq_some_iff.1 k3).1 (fun e => hbn b' (by rw [k1]; rfl) e.symm)]
    exact k3
 ·rcases hdom n b1 h1 with ⟨rfl, _⟩ | ⟨k1, k2, k3⟩
  ·rcases hdom n' b2 h2 with ⟨rfl, _⟩ | ⟨k1', k2', k3'⟩
   ·rfl
   ·rw [e1] at h3
    rw [e2 _ k2'] at h4
    rcases hpv b h3 with h5 | h5
    ·exact absurd (hs.apart _ _ _ _ b k3' hf h4 h5) k1'
    ·have := ((hs.box _ _ k3').block h4).2
     omega
  ·rw [e2 _ k2] at h3
   rcases hdom n' b2 h2 with ⟨rfl, _⟩ | ⟨k1', k2', k3'⟩
   ·rw [e1] at h4
    rcases hpv b h4 with h5 | h5
    ·exact absurd (hs.apart _ _ _ _ b k3 hf h3 h5) k1
    ·have := ((hs.box _ _ k3).block h3).2
     omega
   ·rw [e2 _ k2'] at h4
    exact hs.apart _ _ _ _ b k3 k3' h3 h4
end
end Go.Abs

set_option linter.unusedVariables false
set_option linter.unusedSimpArgs false
namespace Go.Abs
open Go.RowKit

section
variable {P : Program} {o : Oper} {a : Act} {w w' w0 : World} {U : Gh} {ι : Pl} {σ : St} {next : Act → World → Prop} {Q : Exit → Act → World → Prop} {K : AV → St → Prop}

theorem RowsRep.ones {V : Nat → Prop} {sz : Nat} {rows : List (List PC)} {cells : List Value} (h : RowsRep w V sz rows cells) (h0 : 0 < sz) : ∀ v ∈ cells, v.oneCell' = true := by
 intro v hv
 obtain ⟨k, hk, e⟩ := List.mem_iff_getElem.1 hv
 have hkr : k / sz < rows.length := by
  rw [Nat.div_lt_iff_lt_mul h0, ← h.1]; exact hk
 have hrow := List.getElem?_eq_getElem hkr
 have hl := h.2.1 _ _ hrow
 have hj : k % sz < (rows[k / sz]).length := by rw [hl]; exact Nat.mod_lt _ h0
 obtain ⟨u, hu, hp⟩ := h.2.2 _ _ _ _ hrow (List.getElem?_eq_getElem hj)
 rw [Nat.mul_comm, Nat.div_add_mod, List.getElem?_eq_getElem hk] at hu
 cases hu
 rw [← e]
 exact hp.one

theorem pure_cells {V : Nat → Prop} {sz n c : Nat} {rows : List (List PC)} {ad : Option Addr} (h : RepP w V (.slice rows) (.slice ad n c)) (hok : rowsOk sz rows) (h0 : 0 < sz) (hne : rows ≠ []) :
  ∃ b off cells, ad = some ⟨b, off, none⟩ ∧ n = rows.length ∧ (∀ (j : Nat) x, cells[j]? = some x → w.cell? ⟨b, off + j, none⟩ = some x) ∧ RowsRep w V sz rows cells := by
 cases h with
 | @slice sz' _ _ _ _ g hn hc hm hr hcell hp =>
  obtain rfl : sz = sz' := by
   symm
   have hrl : 0 < rows.length := List.length_pos_iff.2 hne
   have hrow0 := List.getElem?_eq_getElem hrl
   rw [← hr _ _ hrow0]
   exact hok _ (List.mem_of_getElem? hrow0)
  have hrl : 0 < rows.length := List.length_pos_iff.2 hne
  have hrow0 := List.getElem?_eq_getElem hrl
  have hl0 := hr _ _ hrow0
  obtain ⟨b, off, rfl, _⟩ := hcell _ _ 0 _ hrow0 (List.getElem?_eq_getElem (by omega))
  refine ⟨b, off, (List.range (rows.length * sz)).map fun k => (w.cell? ⟨b, off + k, none⟩).getD undef, rfl, hn, fun j x hj => ?_, by simp, hr, fun i row j p hi hj => ?_⟩
  ·have hjl : j < rows.length * sz := by have := (List.getElem?_eq_some_iff.1 hj).1; simpa using this
   simp [List.getElem?_map, List.getElem?_range hjl] at hj
   have hkr : j / sz < rows.length := by rw [Nat.div_lt_iff_lt_mul h0]; exact hjl
   have hrow := List.getElem?_eq_getElem hkr
   have hl := hr _ _ hrow
   have hj' : j % sz < (rows[j / sz]).length := by rw [hl]; exact Nat.mod_lt _ h0
   obtain ⟨b', off', e', _, hc'⟩ := hcell _ _ _ _ hrow (List.getElem?_eq_getElem hj')
   cases e'
   rw [Nat.mul_comm, Nat.div_add_mod] at hc'
   rw [hc'] at hj ⊢
   simpa using hj
  ·have hil : i < rows.length := (List.getElem?_eq_some_iff.1 hi).1
   have hjl : j < sz := by rw [← hr i row hi]; exact (List.getElem?_eq_some_iff.1 hj).1
   obtain ⟨b', off', e', _, hc'⟩ := hcell i row j p hi hj
   cases e'
   exact ⟨g i j, by simp [List.getElem?_map, List.getElem?_range (row_lt hil hjl), hc'], hp i row j p hi hj⟩

theorem own_cells {B e sz : Nat} {v : Value} {n : Nat} {cells : List Value} (h : w.ownsRow B e sz v n cells) (hn : 0 < n) : ∃ b c, v = .slice (some ⟨b, 0, none⟩) n c ∧ ∀ (j : Nat) x, cells[j]? = some x → w.cell? ⟨b, 0 + j, none⟩ = some x := by
 have h' := h
 rcases h.2 with ⟨_, e⟩ | ⟨g, cap, cur, rfl, hb, hg, hnc, hcm, hcs, htake⟩
 ·omega
 ·refine ⟨g, cap, rfl, fun j x hj => ?_⟩
  have := World.ownsRow.cells h' (g := g) rfl j x hj
  rw [add_off] at this
  exact this

theorem rows_cells {v : AV} {u : Value} {sz : Nat} {rows : List (List PC)} (hs : Sim w0 U σ ι a w) (h : RepV w (Free w0.heap.size U ι σ.mem) ι σ.nx v u) (hr : rowsOf? σ.mem v = some rows) (hok : rowsOk sz rows) (h0 : 0 < sz) (hne : rows ≠ []) :
  ∃ b off c cells, u = .slice (some ⟨b, off, none⟩) rows.length c ∧ (∀ (j : Nat) x, cells[j]? = some x → w.cell? ⟨b, off + j, none⟩ = some x) ∧ RowsRep w (Free w0.heap.size U ι σ.mem) sz rows cells := by
 unfold rowsOf? at hr
 split at hr
 ·cases hr
  cases h with | c h => cases h with | pure h =>
   have h' := h
   cases h with
   | slice g hn hc hm _ _ _ =>
    obtain ⟨b, off, cells, rfl, rfl, h1, h2⟩ := pure_cells h' hok h0 hne
    exact ⟨b, off, _, cells, rfl, h1, h2⟩
 ·cases hr
  cases h with | c h => cases h with | tsl h =>
   obtain ⟨b, off, cells, rfl, rfl, h1, h2⟩ := pure_cells h hok h0 hne
   exact ⟨b, off, _, cells, rfl, h1, h2⟩
 ·cases hr
  exact absurd rfl hne
 ·split at hr
  ·rename_i nm e sz' rows' hf
   cases hr
   cases h with
   |c h => cases h with
    | ref hnm hex =>
     obtain ⟨cells, g0, g1, g2, g3⟩ := hs.box _ _ hf
     obtain ⟨b, c, e1, h1⟩ := own_cells g1 (List.length_pos_iff.2 hne)
     obtain rfl : sz = sz' := by
      symm
      have hrow0 := List.getElem?_eq_getElem (List.length_pos_iff.2 hne)
      rw [← g3.2.1 _ _ hrow0]
      exact hok _ (List.mem_of_getElem? hrow0)
     exact ⟨b, 0, c, cells, e1, h1, g3⟩
  ·cases hr
 ·cases hr

theorem run_append_zero {t e ty : TypeId} {inf : TypeInfo} {base ad : Option Addr} {n c c' : Nat} (ht : P.underlying t = some (.slice e)) (hi : P.info? e = some inf) (hc : n ≤ c) :
  (Builtin.append_ #[t, t] ty #[.slice base n c, .slice ad 0 c']).run P w = .ok (.slice base n c) w := by
 cases ad <;> cases base <;> simp [Builtin.append_, run_underlying ht, sizeOf, typeInfo, hi, Builtin.lenOf, Builtin.firstCells, loadCells, loadCellsFrom, hc, storeCells]

theorem size_zc (z : Array Value) (n : Nat) : (Builtin.zeroCells z n).size = n * z.size := by simp [Builtin.zeroCells]

theorem run_append_full {t e ty : TypeId} {inf : TypeInfo} {z : Value} {base : Option Addr} {n c m c' sz bytes : Nat} {ad : Addr} {xs news : List Value} {B : Nat} (ht : P.underlying t = some (.slice e)) (hi : P.info? e = some inf) (hz : inf.zero = some z)
  (hsz : inf.size = sz) (hby : inf.bytes = bytes) (hzs : z.cells.size = sz) (hxs : xs.length = n * sz) (hb : (base = none ∧ n = 0 ∧ c = 0) ∨ ∃ bd, base = some bd ∧ ∀ (j : Nat) u, xs[j]? = some u → w.cell? (bd.add j) = some u)
  (hnews : news.length = m * sz) (hn : ∀ (j : Nat) u, news[j]? = some u → w.cell? (ad.add j) = some u) (hfull : c < n + m) (hnc : n ≤ c) (hm : n + m ≤ 9223372036854775807) (hbytes : (n + m) * bytes ≤ 140737488355328) (hB : B ≤ w.heap.size) :
  ∃ cap w', (Builtin.append_ #[t, t] ty #[.slice base n c, .slice (some ad) m c']).run P w = .ok (.slice (some ⟨w.heap.size, 0, none⟩) (n + m) cap) w' ∧ Below w.heap.size w w' ∧
   w'.ownsRow B e sz (.slice (some ⟨w.heap.size, 0, none⟩) (n + m) cap) (n + m) (xs ++ news) := by
 subst hsz
 subst hby
 have key : ∀ old, (w.drew.alloc (.cells (xs.toArray ++ news.toArray ++ Builtin.zeroCells z.cells (grownCap w (n + m) old e - (n + m))) e)).ownsRow B e inf.size (.slice (some ⟨w.heap.size, 0, none⟩) (n + m) (grownCap w (n + m) old e)) (n + m) (xs ++ news) := by
  intro old
  have hge := grownCap_ge w (n + m) old e
  refine ⟨by rw [List.length_append, hxs, hnews, Nat.add_mul], .inr ⟨w.heap.size, _, _, rfl, hB, heap_alloc_new w.drew _, hge, grownCap_le_maxLen w (n + m) old e (by unfold maxLen; omega), ?_, ?_⟩⟩
  ·simp only [Array.size_append, List.size_toArray, size_zc, hzs, hxs, hnews, ← Nat.add_mul]
   congr 1
   omega
  ·have hl : (xs ++ news).length = (n + m) * inf.size := by rw [List.length_append, hxs, hnews, Nat.add_mul]
   simp only [Array.toList_append]
   rw [← hl]
   exact List.take_left
 have hbel : ∀ ob, Below w.heap.size w (w.drew.alloc ob) := fun ob => (Below.refl _ _).drew.alloc (Nat.le_refl _) ob
 rcases hb with ⟨rfl, rfl, rfl⟩ | ⟨bd, rfl, hbd⟩
 ·have hx0 : xs = [] := List.eq_nil_of_length_eq_zero (by simpa using hxs)
  subst hx0
  have hr := run_append_nil (P := P) w t ty e inf z ht hi hz ad m c' news hnews hn (by omega) (by omega) (by have := hbytes; simp only [Nat.zero_add] at this; omega)
  have hk := key 0
  simp only [Nat.zero_add, List.nil_append, Array.empty_append] at hk ⊢
  exact ⟨_, _, hr, hbel _, hk⟩
 ·have hr := run_append_grow (P := P) w t ty e inf z ht hi hz bd n c xs hxs hbd ad m c' news hnews hn (by omega) (by omega) (growslice_fits (by omega) hbytes)
  exact ⟨_, _, hr, hbel _, key c⟩
theorem repV_ref {V : Nat → Prop} {N nm : Nat} {u : Value} (h : RepV w V ι N (.c (.ref nm)) u) : u = ι nm := by
 cases h with | c h => cases h; rfl
theorem repV_nils {V : Nat → Prop} {N : Nat} {u : Value} (h : RepV w V ι N (.c .nils) u) : u = .slice none 0 0 := by
 cases h with | c h => cases h; rfl
theorem repV_tsl {V : Nat → Prop} {N : Nat} {rows : List (List PC)} {u : Value} (h : RepV w V ι N (.c (.tsl rows)) u) : ∃ ad, u = .slice ad rows.length rows.length ∧ RepP w V (.slice rows) u := by
 cases h with | c h => cases h with | tsl h =>
  have h' := h
  cases h with | slice g hn => subst hn; exact ⟨_, rfl, h'⟩
theorem own_pure {V : Nat → Prop} {B e sz b n c : Nat} {rows : List (List PC)} {cells : List Value} (h : w.ownsRow B e sz (.slice (some ⟨b, 0, none⟩) n c) n cells) (hn : n = rows.length) (hr : RowsRep w V sz rows cells) (hb : V b) (hm : n ≤ 9223372036854775807) : RepP w V (.slice rows) (.slice (some ⟨b, 0, none⟩) n c) := by
 subst hn
 have h' := h
 rcases h.2 with ⟨e, _⟩ | ⟨g, cap, cur, e, hBg, hg, hnc, _⟩
 ·cases e
 ·simp at e
  obtain ⟨rfl, rfl⟩ := e
  refine hr.slice hb hnc hm fun k v hk => ?_
  have := World.ownsRow.cells h' (g := b) rfl k v hk
  rw [add_off, Nat.zero_add] at this
  exact this
theorem op_app {t e sz bytes : Nat} {z : Value} {x y : Operand} {p q : AX} {c : Call} (hc : c.callee = .builtin .append) (hargs : c.args.toList = [x, y]) (htys : c.argTypes.toList = [t, t]) (ho : o.op = .call c) (ht : elemOf? P t = some (e, sz, bytes)) (h0 : 0 < sz)
  (hz : zeroOf P e = some z) (hzs : z.cells.size = sz) (hx : compX x = some p) (hy : compX y = some q) (h : opW P (.app e sz bytes p q) σ K) (hs : Sim w0 U σ ι a w) (hn : Goes w0 U a o K next) : o.wp P a w next Q := by
 have r1 := compX_rep hx hs
 have r2 := compX_rep hy hs
 have ha : c.args = #[x, y] := by rw [← Array.toArray_toList (xs := c.args), hargs]
 have hty : c.argTypes = #[t, t] := by rw [← Array.toArray_toList (xs := c.argTypes), htys]
 have hrun : ∀ {v' : Value} {w' : World}, (Builtin.append_ #[t, t] o.type #[a.eval x, a.eval y]).run P w = .ok v' w' → (execOp a.eval o).run P w = .ok (.value v') w' := by
  intro v' w' hr
  simp [execOp, ho, resolve, hc, invoke, builtin, ha, hty, hr]
 unfold elemOf? zeroOf at *
 split at ht
 ·rename_i e' hd
  cases hi : P.info? e' with
  | none => simp [hi] at ht
  | some inf =>
   simp [hi] at ht
   obtain ⟨rfl, hsz, hby⟩ := ht
   simp [hi] at hz
   simp only [opW, appW] at h
   obtain ⟨ys, hys, hok, h⟩ := h
   obtain ⟨ady, cy, ey, hcy, hmy⟩ := rows_len hs r2 hys
   generalize hvx : AX.ev σ.fr p = vx at *
   generalize hvy : AX.ev σ.fr q = vy at *
   have hB := hs.below.size
   -- a slice without room
   have fresh : ∀ {rows : List (List PC)} {ad : Option Addr} {xs : List Value}, a.eval x = .slice ad rows.length rows.length → xs.length = rows.length * sz → ((ad = none ∧ rows.length = 0 ∧ rows.length = 0) ∨ ∃ bd, ad = some bd ∧ ∀ (j : Nat) u, xs[j]? = some u → w.cell? (bd.add j) = some u) →
     RowsRep w (Free w0.heap.size U ι σ.mem) sz rows xs → ys ≠ [] → (rows.length + ys.length) * bytes ≤ 140737488355328 → rows.length + ys.length ≤ 140737488355328 → ((K (.c (.ref σ.nx)) { σ with mem := (σ.nx, .arr e' sz (rows ++ ys)) :: σ.mem, nx := σ.nx + 1 }) ∨ K (.c (.pure (.slice (rows ++ ys)))) σ) → o.wp P a w next Q := by
    intro rows ad xs ex hxl hb hrx hy0 hbytes hmax h
    obtain ⟨b, off, cc, news, en, hcn, hrn⟩ := rows_cells hs r2 hys hok h0 hy0
    have hml : 0 < ys.length := List.length_pos_iff.2 hy0
    have hlen : (rows ++ ys).length = rows.length + ys.length := List.length_append
    obtain ⟨cap, w', hr, hbel, how⟩ := run_append_full (P := P) (ty := o.type) (B := w0.heap.size) (c := rows.length) (c' := cc) hd hi hz hsz hby hzs hxl hb hrn.1 (fun j u hj => by rw [add_off]; exact hcn j u hj) (by omega) (Nat.le_refl _) (by omega) hbytes hB
    rw [← ex, ← en] at hr
    have hrep := (hrx.append hrn).mono (w' := w') (fun _ _ h => h) (fun b hb _ => hbel.block b hb)
    rcases h with h | h
    ·obtain ⟨ι', h1, h2, h3, h4⟩ := hs.newBox (pv := .slice (some ⟨w.heap.size, 0, none⟩) (rows.length + ys.length) cap) (bx := .arr e' sz (rows ++ ys)) hbel (fun b hb => by simp [blockOf] at hb; omega) (fun ι' e1 e2 hfree => by
      refine ⟨xs ++ news, h0, ?_, by rw [hlen]; omega, (hrx.append hrn).mono hfree (fun b hb _ => hbel.block b hb)⟩
      rw [e2, hlen]
      exact how)
     refine wp_value (u := ι' σ.nx) (w' := w') (hrun ?_) (hn _ _ ι' _ _ h h1 (.c (.ref (Nat.lt_succ_self _) ⟨_, _, _, h2⟩)))
     rw [h2]
     exact hr
    ·refine wp_value (w' := w') (hrun hr) (hn _ σ ι _ _ h (hs.grow hbel) (.c (.pure ?_)))
     exact own_pure how hlen.symm hrep (free_new hs) (by omega)
   -- a slice of the call's own
   rcases h with ⟨nm, rfl, hne, rows, hf, hbytes, hmax0, h⟩ | h
   ·obtain ⟨cells, g0, g1, g2, g3⟩ := hs.box _ _ hf
    have eux : a.eval x = ι nm := repV_ref r1
    have hnm := hs.names _ _ hf
    by_cases hy0 : ys = []
    ·subst hy0
     obtain ⟨n', c', ex, hnc⟩ : ∃ ad c', ι nm = .slice ad rows.length c' ∧ rows.length ≤ c' := by
      rcases g1.2 with ⟨e1, e2⟩ | ⟨g, cap, cur, e1, _, _, hnc, _⟩
      ·exact ⟨none, 0, by rw [e1, e2], by omega⟩
      ·exact ⟨_, cap, e1, hnc⟩
     obtain ⟨ι', h1, h2, h3⟩ := hs.replace (w' := w) (rows' := rows ++ []) (pv := ι nm) hf ⟨rfl, rfl, rfl, Nat.le_refl _, fun _ _ _ => rfl⟩ (fun b hb => .inl hb) ⟨_, _, _, ex⟩ g0 (by simpa using g1) (by simpa using g2) (by simpa using g3) hs.below
     refine wp_value (u := ι' σ.nx) (w' := w) (hrun ?_) (hn _ _ ι' _ _ h h3 (.c (.ref h2 ⟨_, _, _, h1.trans ex⟩)))
     rw [h1, eux, ex, ey]
     exact run_append_zero hd hi hnc
    ·obtain ⟨b, off, cc, news, en, hcn, hrn⟩ := rows_cells hs r2 hys hok h0 hy0
     have hml : 0 < ys.length := List.length_pos_iff.2 hy0
     have hcn' : ∀ (j : Nat) u, news[j]? = some u → w.cell? ((⟨b, off, none⟩ : Addr).add j) = some u := fun j u hj => by rw [add_off]; exact hcn j u hj
     have hlen : (rows ++ ys).length = rows.length + ys.length := List.length_append
     have hmax : rows.length + ys.length ≤ 9223372036854775807 := by omega
     have grow : ∀ {base : Option Addr} {cx : Nat}, ι nm = .slice base rows.length cx → ((base = none ∧ rows.length = 0 ∧ cx = 0) ∨ ∃ bd, base = some bd ∧ ∀ (j : Nat) u, cells[j]? = some u → w.cell? (bd.add j) = some u) → rows.length ≤ cx → cx < rows.length + ys.length → o.wp P a w next Q := by
      intro base cx ex hb hle hlt
      obtain ⟨cap, w', hr, hbel, how⟩ := run_append_full (P := P) (ty := o.type) (B := w0.heap.size) (c' := cc) hd hi hz hsz hby hzs g1.1 hb hrn.1 hcn' hlt hle hmax hbytes hB
      obtain ⟨ι', h1, h2, h3⟩ := hs.replace (w' := w') (rows' := rows ++ ys) (pv := .slice (some ⟨w.heap.size, 0, none⟩) (rows.length + ys.length) cap) hf ⟨hbel.os, hbel.tape, hbel.output, hbel.size, fun k hk _ => hbel.block k hk⟩ (fun b hb => .inr (by simp [blockOf] at hb; omega)) ⟨_, _, _, rfl⟩ g0 (by rw [hlen]; exact how) (by rw [hlen]; exact hmax) (g3.append hrn) (hs.below.trans (hbel.mono hB))
      refine wp_value (u := ι' σ.nx) (w' := w') (hrun ?_) (hn _ _ ι' _ _ h h3 (.c (.ref h2 ⟨_, _, _, h1⟩)))
      rw [h1, eux, ex, en]
      exact hr
     rcases g1.2 with ⟨ex, e0⟩ | ⟨g, cap, cur, ex, hBg, hg, hnc, hcm, hcs, htake⟩
     ·exact grow (base := none) (cx := 0) (by rw [ex, e0]) (.inl ⟨rfl, e0, rfl⟩) (by omega) (by omega)
     ·by_cases hroom : rows.length + ys.length ≤ cap
      ·have hfit : rows.length * inf.size + news.length ≤ cur.size := by
        rw [hrn.1, hsz, hcs, ← Nat.add_mul]; exact Nat.mul_le_mul_right _ hroom
       have hr := run_append_room (P := P) w t o.type e' inf hd hi g rows.length cap cur hg ⟨b, off, none⟩ ys.length cc news (by rw [hsz]; exact hrn.1) hcn' (hrn.ones h0) hroom hfit
       have how : (w.setRow g (cur.toList.take (rows.length * inf.size) ++ news ++ cur.toList.drop (rows.length * inf.size + news.length)).toArray).ownsRow w0.heap.size e' sz (.slice (some ⟨g, 0, none⟩) (rows.length + ys.length) cap) (rows.length + ys.length) (cells ++ news) := by
        have hl : (cells ++ news).length = (rows.length + ys.length) * sz := by rw [List.length_append, g1.1, hrn.1, Nat.add_mul]
        refine ⟨hl, .inr ⟨g, cap, _, rfl, hBg, setRow_heap _ _ _ _ _ _ hg, hroom, hcm, ?_, ?_⟩⟩
        ·simp only [List.size_toArray, List.length_append, List.length_take, List.length_drop, Array.length_toList]
         rw [← hcs]
         omega
        ·rw [List.toList_toArray, hsz, htake, ← hl]
         exact List.take_left
       obtain ⟨ι', h1, h2, h3⟩ := hs.replace (w' := w.setRow g (cur.toList.take (rows.length * inf.size) ++ news ++ cur.toList.drop (rows.length * inf.size + news.length)).toArray) (rows' := rows ++ ys) (pv := .slice (some ⟨g, 0, none⟩) (rows.length + ys.length) cap) (cells := cells ++ news) hf
        ⟨rfl, rfl, rfl, by simp, fun k _ hk => setRow_other _ _ _ _ (fun e => hk (by rw [ex, e]; rfl))⟩ (fun b hb => .inl (by rw [ex]; exact hb)) ⟨_, _, _, rfl⟩ g0 (by rw [hlen]; exact how) (by rw [hlen]; exact hmax) (g3.append hrn) (hs.below.trans ⟨rfl, rfl, rfl, by simp, fun k hk => setRow_other _ _ _ _ (by omega)⟩)
       refine wp_value (u := ι' σ.nx) (hrun ?_) (hn _ _ ι' _ _ h h3 (.c (.ref h2 ⟨_, _, _, h1⟩)))
       rw [h1, eux, ex, en]
       exact hr
      ·exact grow (base := some ⟨g, 0, none⟩) ex (.inr ⟨_, rfl, fun j u hj => World.ownsRow.cells g1 (by rw [ex]; rfl) j u hj⟩) hnc (by omega)
   ·rcases h with ⟨rfl, h⟩ | ⟨rows, rfl, hok2, h⟩
    ·have ex := repV_nils r1
     by_cases hy0 : ys = []
     ·subst hy0
      have hr := run_append_zero (P := P) (w := w) (ty := o.type) (base := none) (n := 0) (c := 0) (ad := ady) (c' := cy) hd hi (Nat.le_refl _)
      rw [← ex] at hr
      have hr' := hr
      rw [show (Value.slice ady 0 cy) = a.eval y from ey.symm] at hr
      rcases h with ⟨_, _, h⟩ | ⟨_, _, h⟩
      ·obtain ⟨ι', h1, h2, h3, h4⟩ := hs.newBox (w' := w) (pv := .slice none 0 0) (bx := .arr e' sz ([] ++ [])) (Below.refl _ _) (fun b hb => by simp [blockOf] at hb) (fun ι' e1 e2 hfree => ⟨[], h0, by rw [e2]; exact World.ownsRow_nil _ _ _ _, by simp, RowsRep.nil⟩)
       refine wp_value (u := ι' σ.nx) (w' := w) (hrun ?_) (hn _ _ ι' _ _ h h1 (.c (.ref (Nat.lt_succ_self _) ⟨_, _, _, h2⟩)))
       rw [h2, hr, ex]
      ·refine wp_value (w' := w) (hrun hr) (hn _ σ ι _ _ h hs (.c (.pure ?_)))
       rw [ex]
       exact .nil
     ·rcases h with ⟨g1, g2, h⟩ | ⟨g1, g2, h⟩
      ·exact fresh (rows := []) (xs := []) ex (by simp) (.inl ⟨rfl, rfl, rfl⟩) .nil hy0 g1 g2 (.inl h)
      ·exact fresh (rows := []) (xs := []) ex (by simp) (.inl ⟨rfl, rfl, rfl⟩) .nil hy0 g1 g2 (.inr h)
    ·obtain ⟨adx, ex, hrx⟩ := repV_tsl r1
     rw [ex] at hrx
     by_cases hy0 : ys = []
     ·subst hy0
      rcases h with ⟨h, _⟩ | ⟨_, _, h⟩ | ⟨_, h⟩
      ·exact absurd rfl h
      ·have hr := run_append_zero (P := P) (w := w) (ty := o.type) (base := adx) (n := rows.length) (c := rows.length) (ad := ady) (c' := cy) hd hi (Nat.le_refl _)
       rw [← ex, show (Value.slice ady 0 cy) = a.eval y from ey.symm] at hr
       refine wp_value (w' := w) (hrun hr) (hn _ σ ι _ _ h hs (.c (.pure ?_)))
       rw [ex, List.append_nil]
       exact hrx
      ·have hr := run_append_zero (P := P) (w := w) (ty := o.type) (base := adx) (n := rows.length) (c := rows.length) (ad := ady) (c' := cy) hd hi (Nat.le_refl _)
       rw [← ex, show (Value.slice ady 0 cy) = a.eval y from ey.symm] at hr
       refine wp_value (w' := w) (hrun hr) (hn _ σ ι _ _ h hs (.c ?_))
       rw [ex]
       exact .tsl hrx
     ·have hb : ∃ xs : List Value, xs.length = rows.length * sz ∧ ((adx = none ∧ rows.length = 0 ∧ rows.length = 0) ∨ ∃ bd, adx = some bd ∧ ∀ (j : Nat) u, xs[j]? = some u → w.cell? (bd.add j) = some u) ∧ RowsRep w (Free w0.heap.size U ι σ.mem) sz rows xs := by
       by_cases hr0 : rows = []
       ·subst hr0
        refine ⟨[], by simp, ?_, .nil⟩
        cases adx with
        | none => exact .inl ⟨rfl, rfl, rfl⟩
        | some bd => exact .inr ⟨bd, rfl, by simp⟩
       ·obtain ⟨b, off, xs, rfl, _, hcx, hrr⟩ := pure_cells hrx hok2 h0 hr0
        exact ⟨xs, hrr.1, .inr ⟨_, rfl, fun j u hj => by rw [add_off]; exact hcx j u hj⟩, hrr⟩
      obtain ⟨xs, h1, h2, h3⟩ := hb
      rcases h with ⟨_, g1, g2, h⟩ | ⟨g1, g2, h⟩ | ⟨h, _⟩
      ·exact fresh ex h1 h2 h3 hy0 g1 g2 (.inl h)
      ·exact fresh ex h1 h2 h3 hy0 g1 g2 (.inr h)
      ·exact absurd h hy0
 ·cases ht
end
end Go.Abs

set_option linter.unusedVariables false
set_option linter.unusedSimpArgs false
namespace Go.Abs
open Go.RowKit

section
variable {P : Program} {o : Oper} {a : Act} {w w' w0 : World} {U : Gh} {ι : Pl} {σ : St} {next : Act → World → Prop} {Q : Exit → Act → World → Prop} {K : AV → St → Prop}

theorem All2.ofMem {R : AC → Value → Prop} {xs : List AC} {vs : List Value} (h : All2 R xs vs) (i : Nat) (x : AC) (hi : xs[i]? = some x) : R x (vs[i]?.getD undef) := by
 obtain ⟨v, hv, hr⟩ := h.get hi
 rw [hv]
 exact hr

theorem mkfn_caps (hs : Sim w0 U σ ι a w) : ∀ {caps : List Operand} {xs : List AX} {acc : List AC} {vs : List Value} {R : List AC → Prop}, compXs caps = some xs → opW.mkfnW σ xs acc R → All2 (RepA w (Free w0.heap.size U ι σ.mem) ι σ.nx) acc vs →
  ∃ ys, All2 (RepA w (Free w0.heap.size U ι σ.mem) ι σ.nx) ys (vs ++ caps.map a.eval) ∧ R ys
 |[], xs, acc, vs, R, hx, h, hacc => by
  cases hx
  exact ⟨acc, by simpa using hacc, h⟩
 |x :: caps, xs, acc, vs, R, hx, h, hacc => by
  unfold compXs at hx
  split at hx
  ·rename_i y ys h1 h2
   cases hx
   simp only [opW.mkfnW] at h
   have r1 := compX_rep h1 hs
   split at h
   ·rename_i z e
    rw [e] at r1
    cases r1 with
    | c r1 =>
     obtain ⟨ys', hr, hR⟩ := mkfn_caps hs (vs := vs ++ [a.eval x]) h2 h (hacc.append (.cons r1 .nil))
     exact ⟨ys', by simpa using hr, hR⟩
   ·exact h.elim
  ·cases hx

theorem op_mkfn {f : FuncId} {first caps : Array Operand} {xs : List AX} (ho : o.op = .makeFunc (.func f) first caps) (hf : first.size = 0) (hx : compXs caps.toList = some xs) (h : opW P (.mkfn f xs) σ K) (hs : Sim w0 U σ ι a w) (hn : Goes w0 U a o K next) : o.wp P a w next Q := by
 simp only [opW] at h
 obtain ⟨ys, hr, hR⟩ := mkfn_caps hs hx h .nil
 have hf0 : first = #[] := Array.eq_empty_of_size_eq_zero hf
 refine wp_value (u := .func (.func f) #[] (caps.map a.eval)) (w' := w) ?_ (hn _ σ ι _ w hR hs (.c (.clo ?_ fun i x hi => ?_)))
 ·simp [execOp, ho, Instr.makeFunc, hf0]
 ·have := hr.length
  simpa using this
 ·have := hr.ofMem i x hi
  simpa using this

theorem purQ_rep {V : Nat → Prop} {x : AC} {y : PC} {v : Value} (hs : Sim w0 U σ ι a w) (h : RepA w (Free w0.heap.size U ι σ.mem) ι σ.nx x v) (hp : purQ σ.mem x = some y) (hV : ∀ b, Free w0.heap.size U ι σ.mem b → V b) (hN : norefC x = true ∨ ∀ b, w0.heap.size ≤ b → V b) : RepP w V y v := by
 have hmono : ∀ {p : PC} {v : Value}, RepP w (Free w0.heap.size U ι σ.mem) p v → RepP w V p v := fun h => h.mono (fun b _ h => hV b h) (fun _ _ _ => rfl)
 cases h with
 | pure h => cases hp; exact hmono h
 | nils => cases hp; exact .nil
 | tsl h => cases hp; exact hmono h
 | ref hn hex =>
  simp only [purQ] at hp
  split at hp
  ·rename_i e sz rows hf
   cases hp
   have hall : ∀ b, w0.heap.size ≤ b → V b := by
    rcases hN with h | h
    ·simp [norefC] at h
    ·exact h
   obtain ⟨cells, g0, g1, g2, g3⟩ := hs.box _ _ hf
   rcases g1.2 with ⟨e1, e2⟩ | ⟨g, cap, cur, e1, hB, _⟩
   ·have : rows = [] := List.eq_nil_of_length_eq_zero e2
    subst this
    rw [e1]
    exact .nil
   ·rw [e1] at g1 ⊢
    exact own_pure g1 rfl (g3.mono (fun b _ h => hV b h) (fun _ _ _ => rfl)) (hall _ hB) g2
  ·cases hp
 | _ => cases hp
theorem purQs_reps {V : Nat → Prop} {xs : List AC} {vs : List Value} (hs : Sim w0 U σ ι a w) (h : All2 (RepA w (Free w0.heap.size U ι σ.mem) ι σ.nx) xs vs) (hV : ∀ b, Free w0.heap.size U ι σ.mem b → V b) (hN : ∀ b, w0.heap.size ≤ b → V b) : ∀ {ys : List PC}, purQs σ.mem xs = some ys → All2 (RepP w V) ys vs := by
 induction h with
 | nil => intro ys hp; cases hp; exact .nil
 | cons h t ih =>
  intro ys hp
  unfold purQs at hp
  split at hp
  ·cases hp
   exact .cons (purQ_rep hs h ‹_› hV (.inr hN)) (ih ‹_›)
  ·cases hp
theorem purEs_rep {V : Nat → Prop} {kt : KT} {n : Option Nat} (hs : Sim w0 U σ ι a w) (hV : ∀ b, Free w0.heap.size U ι σ.mem b → V b) (hN : ∀ b, w0.heap.size ≤ b → V b) : ∀ {ents : List (MK × List AC)} {es : List MapEntry} {qs : List (MK × List PC)}, All2 (EntRep w (Free w0.heap.size U ι σ.mem) ι σ.nx kt n) ents es → purEs σ.mem n ents = some qs →
  All2 (fun x e => x.1.val kt = some e.key ∧ (n.isSome = true → ∃ vs, e.val = .agg vs) ∧ All2 (RepP w V) x.2 (entCs n e.val)) qs es
 | [], es, qs, h, hp => by cases h; cases hp; exact .nil
 |x :: ents, es, qs, h, hp => by
  cases h with
  | @cons _ e _ es h1 h2 =>
   unfold purEs at hp
   split at hp
   ·rename_i ps qs' g1 g2
    cases hp
    refine .cons ⟨h1.1, ?_⟩ (purEs_rep hs hV hN h2 g2)
    have hv := h1.2
    cases n with
    | none =>
     refine ⟨(fun h => by cases h), ?_⟩
     cases hx : x.2 with
     | nil => rw [hx] at g1; simp [purEnt] at g1
     | cons p r =>
      rw [hx] at g1 hv
      simp only [purEnt] at g1
      split at g1
      ·rename_i q hq
       cases g1
       cases hv with
       | c hv => exact .cons (purQ_rep hs hv hq hV (.inr hN)) .nil
      ·cases g1
    | some k =>
     simp only [mval] at hv
     generalize e.val = u at hv
     cases hv with
     | agg hv => exact ⟨fun _ => ⟨_, rfl⟩, purQs_reps hs hv hV hN g1⟩
   ·cases hp
theorem fmap_of {V : Nat → Prop} {kt : KT} {n : Option Nat} {qs : List (MK × List PC)} {es : Array MapEntry} {b clock : Nat} (h : All2 (fun x e => x.1.val kt = some e.key ∧ (n.isSome = true → ∃ vs, e.val = .agg vs) ∧ All2 (RepP w V) x.2 (entCs n e.val)) qs es.toList)
  (hb : V b) (hm : w.heap[b]? = some (.map es clock)) : RepP w V (.fmap kt n qs) (.map (some b)) := by
 refine .fmap hb hm (by simpa using h.length) (fun i x e hx he => ?_) (fun i x e j p v hx he hp hv => ?_)
 ·obtain ⟨e', g1, g2, g3, g4⟩ := h.get hx
  rw [g1] at he
  cases he
  exact ⟨g2, g3, g4.length⟩
 ·obtain ⟨e', g1, g2, g3, g4⟩ := h.get hx
  rw [g1] at he
  cases he
  obtain ⟨v', k1, k2⟩ := g4.get hp
  rw [k1] at hv
  cases hv
  exact k2
theorem ents_of {V : Nat → Prop} {N : Nat} {kt : KT} {n : Option Nat} {qs : List (MK × List PC)} {b : Nat} (h : RepP w V (.fmap kt n qs) (.map (some b))) : V b ∧ ∃ es clock, w.heap[b]? = some (.map es clock) ∧ All2 (EntRep w V ι N kt n) (entsOf qs) es.toList := by
 cases h with
 | @fmap _ _ _ _ clock es hb hm hl hk hp =>
  refine ⟨hb, es, clock, hm, All2.of_get (by simpa [entsOf] using hl) fun i x e hx he => ?_⟩
  unfold entsOf at hx
  rw [List.getElem?_map] at hx
  obtain ⟨y, hy, rfl⟩ := Option.map_eq_some_iff.1 hx
  obtain ⟨k1, k2, k3⟩ := hk i y e hy he
  have k4 := hp i y e
  refine ⟨k1, ?_⟩
  cases n with
  | none =>
   cases hy2 : y.2 with
   | nil => rw [hy2] at k3; cases k3
   | cons p r => exact .c (.pure (k4 0 p e.val hy he (by rw [hy2]; rfl) rfl))
  | some k =>
   obtain ⟨vs, hvs⟩ := k2 rfl
   rw [hvs] at k3 k4 ⊢
   refine .agg (All2.of_get (by simpa [entCs] using k3) fun j x v hx hv => ?_)
   rw [List.getElem?_map] at hx
   obtain ⟨p, hp', rfl⟩ := Option.map_eq_some_iff.1 hx
   exact .pure (k4 j p v hy he hp' hv)
theorem mref_rep {V : Nat → Prop} {nm : Nat} {kt : KT} {n : Option Nat} {ents : List (MK × List AC)} {qs : List (MK × List PC)} (hs : Sim w0 U σ ι a w) (hf : findB σ.mem nm = some (.map kt n ents)) (hq : purEs σ.mem n ents = some qs)
  (hV : ∀ b, Free w0.heap.size U ι σ.mem b → V b) (hN : ∀ b, w0.heap.size ≤ b → V b) : RepP w V (.fmap kt n qs) (ι nm) := by
 obtain ⟨b, es, clock, g1, g2, g3, g4⟩ := hs.box _ _ hf
 rw [g1]
 exact fmap_of (purEs_rep hs hV hN g4.1 hq) (hN _ g2) g3
theorem purP_rep {V : Nat → Prop} {x : AC} {y : PC} {v : Value} (hs : Sim w0 U σ ι a w) (h : RepA w (Free w0.heap.size U ι σ.mem) ι σ.nx x v) (hp : purP σ.mem x = some y) (hV : ∀ b, Free w0.heap.size U ι σ.mem b → V b) (hN : norefC x = true ∨ ∀ b, w0.heap.size ≤ b → V b) : RepP w V y v := by
 cases x with
 | mref nm =>
  have hall : ∀ b, w0.heap.size ≤ b → V b := by
   rcases hN with h | h
   ·simp [norefC] at h
   ·exact h
  simp only [purP] at hp
  split at hp
  ·split at hp
   ·cases hp
    have e : v = ι nm := by cases h with | mref _ h => exact h.symm
    rw [e]
    exact mref_rep hs ‹_› ‹_› hV hall
   ·cases hp
  ·cases hp
 | _ => exact purQ_rep hs h hp hV hN
theorem purPs_reps {V : Nat → Prop} {xs : List AC} {vs : List Value} (hs : Sim w0 U σ ι a w) (h : All2 (RepA w (Free w0.heap.size U ι σ.mem) ι σ.nx) xs vs) (hV : ∀ b, Free w0.heap.size U ι σ.mem b → V b) (hN : ∀ b, w0.heap.size ≤ b → V b) : ∀ {ys : List PC}, purPs σ.mem xs = some ys → All2 (RepP w V) ys vs := by
 induction h with
 | nil => intro ys hp; cases hp; exact .nil
 | cons h t ih =>
  intro ys hp
  unfold purPs at hp
  split at hp
  ·cases hp
   exact .cons (purP_rep hs h ‹_› hV (.inr hN)) (ih ‹_›)
  ·cases hp
theorem purC_rep {V : Nat → Prop} {x y : AC} {v : Value} (hs : Sim w0 U σ ι a w) (h : RepA w (Free w0.heap.size U ι σ.mem) ι σ.nx x v) (hp : purC σ.mem x = some y) (hV : ∀ b, Free w0.heap.size U ι σ.mem b → V b) (hN : norefC x = true ∨ ∀ b, w0.heap.size ≤ b → V b) : RepA w V (fun _ => undef) 0 y v := by
 have hmono : ∀ {p : PC} {v : Value}, RepP w (Free w0.heap.size U ι σ.mem) p v → RepP w V p v := fun h => h.mono (fun b _ h => hV b h) (fun _ _ _ => rfl)
 have h' := h
 cases h with
 | pure h => cases hp; exact .pure (hmono h)
 | nils => cases hp; exact .pure .nil
 | tsl h => cases hp; exact .pure (hmono h)
 | cptr g hc =>
  cases hp
  refine .cptr g fun j p hj => ?_
  obtain ⟨h1, h2, h3⟩ := hc j p hj
  exact ⟨hV _ h1, h2, hmono h3⟩
 | ref hn hex =>
  simp only [purC] at hp
  split at hp
  ·rename_i e sz rows hf
   cases hp
   exact .pure (purQ_rep hs h' (by simp [purQ, hf]) hV hN)
  ·cases hp
 | @mref nm b hn hι =>
  simp only [purC] at hp
  split at hp
  ·split at hp
   ·cases hp
    have hall : ∀ b, w0.heap.size ≤ b → V b := by
     rcases hN with h | h
     ·simp [norefC] at h
     ·exact h
    rw [← hι]
    exact .pure (mref_rep hs ‹_› ‹_› hV hall)
   ·cases hp
  ·cases hp
 | @ptr nm off b hn hι =>
  simp only [purC] at hp
  split at hp
  ·rename_i xs hf
   split at hp
   ·rename_i ps hps
    cases hp
    have hall : ∀ b, w0.heap.size ≤ b → V b := by
     rcases hN with h | h
     ·simp [norefC] at h
     ·exact h
    obtain ⟨b', vs, T, g1, g2, g3, g4⟩ := hs.box _ _ hf
    rw [hι] at g1
    simp at g1
    subst g1
    have hr := purPs_reps hs g4 hV hall hps
    refine .cptr (fun j => (vs.toList[off + j]?).getD undef) fun j p hj => ?_
    rw [List.getElem?_drop] at hj
    obtain ⟨u, hu, hrp⟩ := hr.get hj
    refine ⟨hall _ g2, ?_, ?_⟩
    ·rw [cell_of_row w b _ vs T (0, 0) g3, hu]
     simpa using hu
    ·rw [hu]; exact hrp
   ·cases hp
  ·cases hp
 | _ => cases hp
theorem purCs_reps {V : Nat → Prop} : ∀ {xs : List AC} {vs : List Value}, Sim w0 U σ ι a w → xs.length = vs.length → (∀ (i : Nat) x, xs[i]? = some x → RepA w (Free w0.heap.size U ι σ.mem) ι σ.nx x (vs[i]?.getD undef)) → (∀ b, Free w0.heap.size U ι σ.mem b → V b) → (xs.all norefC = true ∨ ∀ b, w0.heap.size ≤ b → V b) →
  ∀ {ys : List AC}, purCs σ.mem xs = some ys → ys.length = vs.length ∧ ∀ (i : Nat) y, ys[i]? = some y → RepA w V (fun _ => undef) 0 y (vs[i]?.getD undef)
 | [], vs, hs, hl, h, hV, hN, ys, hp => by cases hp; exact ⟨hl, by simp⟩
 | x :: xs, [], hs, hl, h, hV, hN, ys, hp => by simp at hl
 |x :: xs, v :: vs, hs, hl, h, hV, hN, ys, hp => by
  unfold purCs at hp
  split at hp
  ·rename_i y ys' h1 h2
   cases hp
   have hN1 : norefC x = true ∨ ∀ b, w0.heap.size ≤ b → V b := by
    rcases hN with h | h
    ·simp only [List.all_cons, Bool.and_eq_true] at h; exact .inl h.1
    ·exact .inr h
   have hN2 : xs.all norefC = true ∨ ∀ b, w0.heap.size ≤ b → V b := by
    rcases hN with h | h
    ·simp only [List.all_cons, Bool.and_eq_true] at h; exact .inl h.2
    ·exact .inr h
   obtain ⟨k1, k2⟩ := purCs_reps (xs := xs) (vs := vs) hs (by simpa using hl) (fun i x hi => by simpa using h (i + 1) x (by simpa using hi)) hV hN2 h2
   refine ⟨by simp [k1], fun i z hi => ?_⟩
   cases i with
   | zero =>
    simp at hi
    subst hi
    exact purC_rep hs (by simpa using h 0 x rfl) h1 hV hN1
   | succ i => simpa using k2 i z (by simpa using hi)
  ·cases hp
theorem pur_rep {V : Nat → Prop} {x y : AC} {v : Value} (hs : Sim w0 U σ ι a w) (h : RepA w (Free w0.heap.size U ι σ.mem) ι σ.nx x v) (hp : purA σ.mem x = some y) (hV : ∀ b, Free w0.heap.size U ι σ.mem b → V b) (hN : norefA x = true ∨ ∀ b, w0.heap.size ≤ b → V b) : RepA w V (fun _ => undef) 0 y v := by
 cases x with
 | clo f caps =>
  cases h with
  | @clo _ _ vs hl h =>
   simp only [purA] at hp
   split at hp
   ·rename_i ys hys
    cases hp
    obtain ⟨k1, k2⟩ := purCs_reps (vs := vs.toList) hs (by simpa using hl) h hV (by simpa [norefA] using hN) hys
    exact .clo (by simpa using k1) k2
   ·cases hp
 | _ => exact purC_rep hs h hp hV hN
theorem purs_reps {V : Nat → Prop} {xs : List AC} {vs : List Value} (hs : Sim w0 U σ ι a w) (h : All2 (RepA w (Free w0.heap.size U ι σ.mem) ι σ.nx) xs vs) (hV : ∀ b, Free w0.heap.size U ι σ.mem b → V b) (hN : xs.all norefA = true ∨ ∀ b, w0.heap.size ≤ b → V b) : ∀ {ys : List AC}, purAs σ.mem xs = some ys → All2 (RepA w V (fun _ => undef) 0) ys vs := by
 induction h with
 | nil => intro ys hp; cases hp; exact .nil
 | cons h t ih =>
  intro ys hp
  unfold purAs at hp
  split at hp
  ·cases hp
   refine .cons (pur_rep hs h ‹_› hV ?_) (ih ?_ ‹_›)
   ·rcases hN with h | h
    ·simp only [List.all_cons, Bool.and_eq_true] at h; exact .inl h.1
    ·exact .inr h
   ·rcases hN with h | h
    ·simp only [List.all_cons, Bool.and_eq_true] at h; exact .inl h.2
    ·exact .inr h
  ·cases hp
theorem purV_rep {V : Nat → Prop} {x y : AV} {v : Value} (hs : Sim w0 U σ ι a w) (h : RepV w (Free w0.heap.size U ι σ.mem) ι σ.nx x v) (hp : purV σ.mem x = some y) (hV : ∀ b, Free w0.heap.size U ι σ.mem b → V b) (hN : norefV x = true ∨ ∀ b, w0.heap.size ≤ b → V b) : RepV w V (fun _ => undef) 0 y v := by
 cases h with
 | c h =>
  simp only [purV] at hp
  split at hp
  ·cases hp
   exact .c (pur_rep hs h ‹_› hV (by simpa [norefV] using hN))
  ·cases hp
 | agg h =>
  simp only [purV] at hp
  split at hp
  ·cases hp
   exact .agg (purs_reps hs h hV (by simpa [norefV] using hN) ‹_›)
  ·cases hp
 | tup => cases hp
 | top => cases hp

theorem compXs_rep (hs : Sim w0 U σ ι a w) : ∀ {xs : List Operand} {ys : List AX}, compXs xs = some ys → All2 (RepV w (Free w0.heap.size U ι σ.mem) ι σ.nx) (ys.map (·.ev σ.fr)) (xs.map a.eval)
 | [], ys, h => by cases h; exact .nil
 |x :: xs, ys, h => by
  unfold compXs at h
  split at h
  ·cases h
   exact .cons (compX_rep ‹_› hs) (compXs_rep hs ‹_›)
  ·cases h

theorem purVs_rep {V : Nat → Prop} {xs : List AV} {vs : List Value} (hs : Sim w0 U σ ι a w) (h : All2 (RepV w (Free w0.heap.size U ι σ.mem) ι σ.nx) xs vs) (hV : ∀ b, Free w0.heap.size U ι σ.mem b → V b) (hN : xs.all norefV = true ∨ ∀ b, w0.heap.size ≤ b → V b) : ∀ {ys : List AV}, purVs σ.mem xs = some ys → All2 (RepV w V (fun _ => undef) 0) ys vs := by
 induction h with
 | nil => intro ys hp; cases hp; exact .nil
 | cons h t ih =>
  intro ys hp
  unfold purVs at hp
  split at hp
  ·cases hp
   refine .cons (purV_rep hs h ‹_› hV ?_) (ih ?_ ‹_›)
   ·rcases hN with h | h
    ·simp only [List.all_cons, Bool.and_eq_true] at h; exact .inl h.1
    ·exact .inr h
   ·rcases hN with h | h
    ·simp only [List.all_cons, Bool.and_eq_true] at h; exact .inl h.2
    ·exact .inr h
  ·cases hp

theorem flat_repA {V V' : Nat → Prop} {x : AC} {v : Value} (h : RepA w V (fun _ => undef) 0 x v) (hf : flatA x = true) : RepA w V' ι σ.nx x v := by
 cases h with
 | pure h =>
  cases h with
  | val h => exact .pure (.val h)
  | slice => simp [flatA] at hf
  | fmap => simp [flatA] at hf
 | _ => simp [flatA] at hf
theorem flat_repAs {V V' : Nat → Prop} {xs : List AC} {vs : List Value} (h : All2 (RepA w V (fun _ => undef) 0) xs vs) (hf : xs.all flatA = true) : All2 (RepA w V' ι σ.nx) xs vs := by
 induction h with
 | nil => exact .nil
 | cons h _ ih =>
  simp only [List.all_cons, Bool.and_eq_true] at hf
  exact .cons (flat_repA h hf.1) (ih hf.2)
theorem flat_repV {V V' : Nat → Prop} {x : AV} {v : Value} (h : RepV w V (fun _ => undef) 0 x v) (hf : flatV x = true) : RepV w V' ι σ.nx x v := by
 cases h with
 | c h => exact .c (flat_repA h hf)
 | agg h => exact .agg (flat_repAs h hf)
 | tup hl h =>
  refine .tup hl fun i x hi => ?_
  have hx : ∀ (xs : List AV), flatV.go xs = true → ∀ (i : Nat) x, xs[i]? = some x → (∃ y, x = .c y ∧ flatA y = true) ∨ ∃ ys, x = .agg ys ∧ ys.all flatA = true := by
   intro xs
   induction xs with
   | nil => intro _ i x hi; simp at hi
   | cons y ys ih =>
    intro hg i x hi
    cases y with
    | c y =>
     simp only [flatV.go, Bool.and_eq_true] at hg
     cases i with
     | zero => simp at hi; subst hi; exact .inl ⟨_, rfl, hg.1⟩
     | succ i => simp at hi; exact ih hg.2 i x hi
    | agg zs =>
     simp only [flatV.go, Bool.and_eq_true] at hg
     cases i with
     | zero => simp at hi; subst hi; exact .inr ⟨_, rfl, hg.1⟩
     | succ i => simp at hi; exact ih hg.2 i x hi
    | tup => simp [flatV.go] at hg
    | top => simp [flatV.go] at hg
  have hi' := h i x hi
  generalize (‹Array Value›.toList[i]?.getD undef) = z at hi' ⊢
  rcases hx _ (by simpa [flatV] using hf) i x hi with ⟨y, rfl, hy⟩ | ⟨ys, rfl, hy⟩
  ·cases hi' with | c h => exact .c (flat_repA h hy)
  ·cases hi' with | agg h => exact .agg (flat_repAs h hy)
 | top => simp [flatV] at hf

theorem bnd_repA {V : Nat → Prop} {N : Nat} {x : AC} {v : Value} (h : RepA w V ι N x v) : bndA x := by
 cases h with
 | pure h =>
  cases h with
  | val h => trivial
  | slice g hn hc hm => subst hn; exact hm
  | fmap => trivial
 | _ => trivial
theorem bnd_repAs {V : Nat → Prop} {N : Nat} {xs : List AC} {vs : List Value} (h : All2 (RepA w V ι N) xs vs) : bndAs xs := by
 induction h with
 | nil => trivial
 | cons h _ ih => exact ⟨bnd_repA h, ih⟩
theorem bnd_repV {V : Nat → Prop} {N : Nat} {x : AV} {v : Value} (h : RepV w V ι N x v) : bndV x := by
 cases h with
 | c h => exact bnd_repA h
 | agg h => exact bnd_repAs h
 | tup hl h =>
  rename_i xs vs
  have key : ∀ (xs : List AV), (∀ (i : Nat) x, xs[i]? = some x → ∃ u, RepV w V ι N x u) → bndV.go xs := by
   intro xs
   induction xs with
   | nil => intro _; trivial
   | cons y ys ih =>
    intro hx
    have ht := ih fun i x hi => hx (i + 1) x (by simpa using hi)
    obtain ⟨u, hu⟩ := hx 0 y rfl
    cases y with
    | c y => cases hu with | c hu => exact ⟨bnd_repA hu, ht⟩
    | agg zs => cases hu with | agg hu => exact ⟨bnd_repAs hu, ht⟩
    | tup => exact ht
    | top => exact ht
  exact key xs fun i x hi => ⟨_, h i x hi⟩
 | top => trivial

end
end Go.Abs

set_option linter.unusedVariables false
set_option linter.unusedSimpArgs false
namespace Go.Abs
open Go.RowKit

section
variable {P : Program} {o : Oper} {a : Act} {w w' w0 : World} {U : Gh} {ι : Pl} {σ : St} {next : Act → World → Prop} {Q : Exit → Act → World → Prop} {K : AV → St → Prop}

theorem free_delB {B : Nat} {mem : List (Nat × Box)} {nm b : Nat} (h : Free B U ι mem b) : Free B U ι (delB mem nm) b := by
 refine ⟨h.1, fun n bx hf => ?_⟩
 rw [findB_delB] at hf
 by_cases e : n = nm
 ·rw [if_pos e] at hf; cases hf
 ·rw [if_neg e] at hf; exact h.2 n bx hf

theorem Sim.sub (hs : Sim w0 U σ ι a w) {mem : List (Nat × Box)} (h : ∀ n bx, findB mem n = some bx → findB σ.mem n = some bx) : Sim w0 U { σ with mem := mem } ι a w := by
 have hfree : ∀ b, b < w.heap.size → Free w0.heap.size U ι σ.mem b → Free w0.heap.size U ι mem b := fun b _ hf => ⟨hf.1, fun n bx hn => hf.2 n bx (h n bx hn)⟩
 refine ⟨fun t => (hs.val t).mono hfree (fun _ _ _ => rfl) (fun _ _ => rfl) (Nat.le_refl _), hs.defers, fun n bx hn => hs.names _ _ (h _ _ hn), fun n bx hn => ?_,
  fun n n' b1 b2 b h1 h2 => hs.apart _ _ _ _ _ (h _ _ h1) (h _ _ h2), hs.below, U.mono _ _ _ _ hs.keep hfree (fun _ _ _ => rfl), hs.base⟩
 exact (hs.box _ _ (h _ _ hn)).grow (Below.refl _ _) hfree (fun _ _ => rfl) (Nat.le_refl _) (hs.names _ _ (h _ _ hn))
theorem Sim.del (hs : Sim w0 U σ ι a w) (nm : Nat) : Sim w0 U { σ with mem := delB σ.mem nm } ι a w := by
 refine hs.sub fun n bx hn => ?_
 rw [findB_delB] at hn
 by_cases e : n = nm
 ·rw [if_pos e] at hn; cases hn
 ·rw [if_neg e] at hn; exact hn

theorem frzA_rep {x : AC} {p : PC} {v : Value} {mem' : List (Nat × Box)} (hs : Sim w0 U σ ι a w) (h : RepA w (Free w0.heap.size U ι σ.mem) ι σ.nx x v) (hf : frzA σ.mem x = some (p, mem')) :
  Sim w0 U { σ with mem := mem' } ι a w ∧ RepP w (Free w0.heap.size U ι mem') p v ∧ ∀ b, Free w0.heap.size U ι σ.mem b → Free w0.heap.size U ι mem' b := by
 cases h with
 | pure h => cases hf; exact ⟨hs, h, fun _ h => h⟩
 | nils => cases hf; exact ⟨hs, .nil, fun _ h => h⟩
 | tsl h => cases hf; exact ⟨hs, h, fun _ h => h⟩
 | @ref nm hn hex =>
  simp only [frzA] at hf
  split at hf
  ·rename_i e sz rows hfb
   cases hf
   refine ⟨hs.del nm, ?_, fun b h => free_delB h⟩
   obtain ⟨cells, g0, g1, g2, g3⟩ := hs.box _ _ hfb
   rcases g1.2 with ⟨e1, e2⟩ | ⟨g, cap, cur, e1, hB, _⟩
   ·have : rows = [] := List.eq_nil_of_length_eq_zero e2
    subst this
    rw [e1]
    exact .nil
   ·have hb : blockOf (ι nm) = some g := by rw [e1]; rfl
    rw [e1] at g1 ⊢
    refine own_pure g1 rfl (g3.mono (fun b _ h => free_delB h) (fun _ _ _ => rfl)) ⟨.inr hB, fun n bx hnb e => ?_⟩ g2
    rw [findB_delB] at hnb
    by_cases en : n = nm
    ·rw [if_pos en] at hnb; cases hnb
    ·rw [if_neg en] at hnb
     exact en (hs.apart _ _ _ _ _ hnb hfb e hb)
  ·cases hf
 | _ => cases hf
theorem frzAs_rep : ∀ {xs : List AC} {σ : St} {vs : List Value} {ps : List PC} {mem' : List (Nat × Box)}, Sim w0 U σ ι a w → All2 (RepA w (Free w0.heap.size U ι σ.mem) ι σ.nx) xs vs → frzAs σ.mem xs = some (ps, mem') →
  Sim w0 U { σ with mem := mem' } ι a w ∧ All2 (RepP w (Free w0.heap.size U ι mem')) ps vs ∧ ∀ b, Free w0.heap.size U ι σ.mem b → Free w0.heap.size U ι mem' b
 |[], σ, vs, ps, mem', hs, h, hf => by
  cases h
  cases hf
  exact ⟨hs, .nil, fun _ h => h⟩
 |x :: xs, σ, vs, ps, mem', hs, h, hf => by
  cases h with
  | cons h1 h2 =>
   unfold frzAs at hf
   split at hf
   ·rename_i y m1 e1
    split at hf
    ·rename_i ys m2 e2
     cases hf
     obtain ⟨k1, k2, k3⟩ := frzA_rep hs h1 e1
     obtain ⟨j1, j2, j3⟩ := frzAs_rep (σ := { σ with mem := m1 }) k1 (h2.mono fun _ _ h => h.mono (fun b _ h => k3 b h) (fun _ _ _ => rfl) (fun _ _ => rfl) (Nat.le_refl _)) e2
     exact ⟨j1, .cons (k2.mono (fun b _ h => j3 b h) (fun _ _ _ => rfl)) j2, fun b h => j3 b (k3 b h)⟩
    ·cases hf
   ·cases hf

theorem bsliceF_fill {sz n : Nat} : ∀ {k : Nat} {mem : List (Nat × Box)} {parts : List (Nat × Operand)} {rs : List AX} {acc : List (List PC)} {cells : Array Value} {R : List (List PC) → List (Nat × Box) → Prop}, Sim w0 U { σ with mem := mem } ι a w → rowsOf k parts = some rs → opW.bsliceFW σ sz rs mem acc R → acc.length = k → k + rs.length = n → cells.size = n * sz →
  RowsRep w (Free w0.heap.size U ι mem) sz acc (cells.toList.take (k * sz)) → ∃ cells' rows mem', Instr.fill (fun i => some (i * sz, sz)) cells (parts.map fun (i, x) => (i, a.eval x)) = some cells' ∧ Sim w0 U { σ with mem := mem' } ι a w ∧ RowsRep w (Free w0.heap.size U ι mem') sz rows cells'.toList ∧ rows.length = n ∧ R rows mem'
 |k, mem, [], rs, acc, cells, R, hs, hp, h, hl, hkn, hcs, hc => by
  cases hp
  simp at hkn
  subst hkn
  exact ⟨cells, acc, mem, rfl, hs, by rw [List.take_of_length_le (by simp; omega)] at hc; exact hc, hl, h⟩
 |k, mem, (i, x) :: parts, rs, acc, cells, R, hs, hp, h, hl, hkn, hcs, hc => by
  unfold rowsOf at hp
  split at hp
  ·rename_i hik
   subst hik
   split at hp
   ·rename_i y ys h2 h3
    cases hp
    simp only [opW.bsliceFW] at h
    split at h
    ·rename_i zs e
     obtain ⟨⟨r, mem1⟩, hr, hrl, h⟩ := h
     have hz := (compX_rep h2 hs).cells e
     obtain ⟨hs1, hpz, hfr⟩ := frzAs_rep hs hz hr
     have hzl := hz.length
     have e0 := Array.length_toList (xs := (a.eval x).cells)
     have e00 := Array.length_toList (xs := cells)
     simp only [List.length_cons] at hkn
     have hle : i * sz + sz ≤ n * sz := by
      have : (i + 1) * sz ≤ n * sz := Nat.mul_le_mul_right _ (by omega)
      rw [Nat.succ_mul] at this
      exact this
     have hol : (over cells.toList (i * sz) (a.eval x).cells.toList).length = cells.toList.length := over_len_eq (by simp; omega)
     obtain ⟨cells', rows, mem', hf, h3', h4, h5, hR⟩ := bsliceF_fill (n := n) (cells := (over cells.toList (i * sz) (a.eval x).cells.toList).toArray) hs1 h3 h (by simp [hl]) (by omega) (by simp only [List.size_toArray, hol, Array.length_toList, hcs]) (by
      have e1 : (over cells.toList (i * sz) (a.eval x).cells.toList).take ((i + 1) * sz) = cells.toList.take (i * sz) ++ (a.eval x).cells.toList := by
       unfold over
       rw [List.append_assoc, Nat.succ_mul]
       have e2 : (cells.toList.take (i * sz)).length = i * sz := by simp; omega
       rw [List.take_append, e2, List.take_of_length_le (by omega), Nat.add_sub_cancel_left, List.take_append, List.take_of_length_le (l := (a.eval x).cells.toList) (by simp; omega)]
       have e3 : sz - (a.eval x).cells.toList.length = 0 := by simp; omega
       rw [e3]
       simp
      simp only [List.toList_toArray] at e1 ⊢
      rw [e1]
      exact (hc.mono (fun b _ h => hfr b h) (fun _ _ _ => rfl)).append (RowsRep.one hpz (by have := hpz.length; omega)))
     refine ⟨cells', rows, mem', ?_, h3', h4, h5, hR⟩
     rw [List.map_cons, fill_cons rfl (by omega) (by omega)]
     exact hf
    ·exact h.elim
   ·cases hp
  ·cases hp
theorem op_bsliceF {t : TypeId} {n e sz bytes : Nat} {parts : Array (Nat × Operand)} {rs : List AX} {z : Value} (ho : o.op = .buildSlice t n parts) (ht : elemOf? P t = some (e, sz, bytes)) (hr : rowsOf 0 parts.toList = some rs) (hl : rs.length = n) (hm : n * sz ≤ 16777216) (h0 : 0 < sz) (hz : zeroOf P e = some z) (hzs : z.cells.size = sz)
  (h : opW P (.bsliceF sz rs) σ K) (hs : Sim w0 U σ ι a w) (hn : Goes w0 U a o K next) : o.wp P a w next Q := by
 simp only [opW] at h
 unfold elemOf? zeroOf at *
 split at ht
 ·rename_i e' hd
  cases hi : P.info? e' with
  | none => simp [hi] at ht
  | some inf =>
   simp [hi] at ht
   obtain ⟨rfl, rfl, _⟩ := ht
   simp [hi] at hz
   let base : Array Value := (Array.range (n * inf.size)).map (fun k => (if n * inf.size = 0 then #[] else z.cells)[k % (if n * inf.size = 0 then #[] else z.cells).size]!)
   have hbase : base.size = n * inf.size := by simp [base]
   obtain ⟨cells', rows, mem', hf, hs', h4, h5, hR⟩ := bsliceF_fill (n := n) (cells := base) (mem := σ.mem) hs hr h rfl (by omega) hbase (by simp; exact RowsRep.nil)
   have hg : Below w.heap.size w (w.alloc (.cells cells' e')) := (Below.refl _ _).alloc (Nat.le_refl _) _
   have hrep : RepP (w.alloc (.cells cells' e')) (Free w0.heap.size U ι mem') (.slice rows) (.slice (some ⟨w.heap.size, 0, none⟩) rows.length rows.length) := by
    refine (h4.mono (fun _ _ h => h) (fun b hb _ => hg.block b hb)).slice (free_new hs') (Nat.le_refl _) (by have : n * 1 ≤ n * inf.size := Nat.mul_le_mul_left _ h0; omega) fun k v hk => ?_
    rw [cell_row (heap_alloc_new _ _)]
    exact hk
   rw [h5] at hrep
   refine wp_value (w' := w.alloc (.cells cells' e')) ?_ (hn _ _ ι _ _ hR (hs'.grow hg) (.c (.tsl hrep)))
   have hf' : Instr.fill (fun i => some (i * inf.size, inf.size)) base (parts.map fun (i, x) => (i, a.eval x)).toList = some cells' := by
    rw [Array.toList_map]; exact hf
   by_cases hn0 : n * inf.size = 0
   ·simp only [base, hn0, if_true] at hf'
    have e1 : ¬ (16777216 < n * inf.size) := by omega
    simp [execOp, ho, Instr.buildSlice, run_underlying hd, sizeOf, typeInfo, hi, hn0, newRow]
    simp [Array.range_zero'] at hf'
    simp [hf', Array.range_zero']
    try rfl
   ·simp only [base, hn0, if_false] at hf'
    have e1 : ¬ (16777216 < n * inf.size) := by omega
    simp [execOp, ho, Instr.buildSlice, run_underlying hd, sizeOf, typeInfo, hi, hn0, newRow, zeroValue, hz, e1]
    simp at hf'
    simp [hf']
    try rfl
 ·cases ht


theorem op_mkmap {t : TypeId} {kt : KT} {n : Option Nat} (ho : o.op = .makeMap t none) (h : opW P (.mkmap kt n) σ K) (hs : Sim w0 U σ ι a w) (hn : Goes w0 U a o K next) : o.wp P a w next Q := by
 simp only [opW] at h
 have hg : Below w.heap.size w (w.alloc (.map #[] 0)) := (Below.refl _ _).alloc (Nat.le_refl _) _
 obtain ⟨ι', h1, h2, h3, h4⟩ := hs.newBox (pv := .map (some w.heap.size)) (bx := .map kt n []) hg (fun b hb => by simp [blockOf] at hb; omega) (fun ι' e1 e2 hfree =>
  ⟨w.heap.size, #[], 0, e2, hs.below.size, (MapKept.heap_alloc w _).1, .nil, rfl, (fun i e h => by simp at h)⟩)
 exact wp_value (u := .map (some w.heap.size)) (w' := w.alloc (.map #[] 0)) (by simp [execOp, ho, run_makeMap]) (hn _ _ ι' _ _ h h1 (.c (.mref (Nat.lt_succ_self _) h2)))

def KT.desc : KT → TypeDesc
 | .int k => .int k
 | .str => .string
 | .bool => .bool
theorem mapOf_parts {t : TypeId} {kt : KT} {e : TypeId} {n : Option Nat} (h : mapOf? P t = some (kt, e, n)) : ∃ k, P.underlying t = some (.map k e) ∧ P.underlying k = some kt.desc ∧ rowOf P e = some n := by
 unfold mapOf? at h
 split at h
 ·rename_i k e' hd
  split at h <;> cases h
  ·exact ⟨k, hd, ‹_›, ‹_›⟩
  ·exact ⟨k, hd, ‹_›, ‹_›⟩
  ·exact ⟨k, hd, ‹_›, ‹_›⟩
 ·cases h
theorem mkOf_key {kt : KT} {kv : Value} {mk : MK} (h : mkOf kt kv = some mk) : MapKept.IsKey kt.desc kv ∧ mk.val kt = some kv := by
 unfold mkOf at h
 split at h
 ·split at h
  ·rename_i e
   cases h
   subst e
   exact ⟨rfl, rfl⟩
  ·cases h
 ·cases h
  exact ⟨trivial, rfl⟩
 ·cases h
  exact ⟨trivial, rfl⟩
 ·cases h
theorem val_key {kt : KT} {kv : Value} {mk : MK} (h : mk.val kt = some kv) : MapKept.IsKey kt.desc kv := by
 unfold MK.val at h
 split at h <;> cases h
 ·rfl
 ·trivial
 ·trivial
theorem val_inj {kt : KT} {kv : Value} {mk mk' : MK} (h : mk.val kt = some kv) (h' : mk'.val kt = some kv) : mk = mk' := by
 unfold MK.val at h h'
 split at h <;> cases h <;> split at h' <;> simp_all

theorem find_look {V : Nat → Prop} {N : Nat} {kt : KT} {n : Option Nat} {kv : Value} {mk : MK} (hk : MapKept.IsKey kt.desc kv) (hv : mk.val kt = some kv) : ∀ {ents : List (MK × List AC)} {es : List MapEntry} {i : Nat}, All2 (EntRep w V ι N kt n) ents es →
  (mlook ents mk = none ∧ Instr.findNow kt.desc kv es i = some none) ∨ ∃ j ps e, mlook ents mk = some ps ∧ Instr.findNow kt.desc kv es i = some (some (i + j, e.val)) ∧ es[j]? = some e ∧ e.key = kv ∧ ents[j]? = some (mk, ps) ∧ midx ents mk = j ∧ ∀ ps', mset ents mk ps' = ents.set j (mk, ps')
 | [], es, i, h => by cases h; exact .inl ⟨rfl, rfl⟩
 |(mk0, ps0) :: ents, es, i, h => by
  cases h with
  | @cons _ e _ es h1 h2 =>
   obtain ⟨r, hr, hiff⟩ := MapKept.sameNow_of_keys hk (val_key h1.1)
   by_cases hm : mk0 = mk
   ·subst hm
    have hkv : e.key = kv := by have := h1.1.symm.trans hv; simpa using this
    cases r with
    | false => exact absurd (hiff.2 hkv.symm) (by simp)
    | true => exact .inr ⟨0, ps0, e, by simp [mlook], by simp [Instr.findNow, hr], rfl, hkv, rfl, by simp [midx], fun ps' => by simp [mset]⟩
   ·cases r with
    | true =>
     have := hiff.1 rfl
     exact absurd (val_inj (this ▸ h1.1) hv) hm
    | false =>
     rcases find_look hk hv (i := i + 1) h2 with ⟨k1, k2⟩ | ⟨j, ps, e', k1, k2, k3, k4, k5, k7, k6⟩
     ·exact .inl ⟨by simp [mlook, hm, k1], by simp [Instr.findNow, hr, k2]⟩
     ·exact .inr ⟨j + 1, ps, e', by simp [mlook, hm, k1], by simp [Instr.findNow, hr, k2]; omega, by simpa using k3, k4, by simpa using k5, by simp [midx, hm, k7], fun ps' => by simp [mset, hm, k6]⟩
theorem mset_new {mk : MK} {ps : List AC} : ∀ {ents : List (MK × List AC)}, mlook ents mk = none → mset ents mk ps = ents ++ [(mk, ps)]
 | [], _ => rfl
 |(k, v) :: r, h => by
  simp only [mlook] at h
  by_cases e : k = mk
  ·rw [if_pos e] at h; cases h
  ·rw [if_neg e] at h
   simp [mset, e, mset_new h]

theorem tup2 {V : Nat → Prop} {N : Nat} {x y : AV} {u v : Value} (hx : RepV w V ι N x u) (hy : RepV w V ι N y v) : RepV w V ι N (.tup [x, y]) (.tuple #[u, v]) := by
 refine .tup rfl fun i z hi => ?_
 cases i with
 | zero => simp at hi; subst hi; exact hx
 | succ i =>
  cases i with
  | zero => simp at hi; subst hi; exact hy
  | succ i => simp at hi
theorem op_mget_core {t e : TypeId} {kt : KT} {n : Option Nat} {ok : Bool} {x y : Operand} {z : Value} {zs : List AC} {b clock : Nat} {es : Array MapEntry} {ents : List (MK × List AC)} {kv : Value} {mk : MK} (ho : o.op = .lookup t x y ok) (ht : mapOf? P t = some (kt, e, n)) (hz : zeroOf P e = some z)
  (hzn : RepV w (Free w0.heap.size U ι σ.mem) ι σ.nx (mval n zs) z) (hu : a.eval x = .map (some b)) (e2 : a.eval y = kv) (hmk : mkOf kt kv = some mk) (k3 : w.heap[b]? = some (.map es clock)) (k4 : All2 (EntRep w (Free w0.heap.size U ι σ.mem) ι σ.nx kt n) ents es.toList)
  (h : @caseW _ (mlook ents mk) ⟨fun ps => K (if ok = true then .tup [mval n ps, .c (.pure (.val (.bool true)))] else mval n ps) σ⟩ ⟨K (if ok = true then .tup [mval n zs, .c (.pure (.val (.bool false)))] else mval n zs) σ⟩) (hs : Sim w0 U σ ι a w) (hn : Goes w0 U a o K next) : o.wp P a w next Q := by
 obtain ⟨kty, g1, g2, g3⟩ := mapOf_parts ht
 obtain ⟨q1, q2⟩ := mkOf_key hmk
 have hck : ∀ em, (Instr.checkKey em 10000 kty kv).run P w = .ok () w := fun em => MapKept.run_checkKey g2 q1 em 9999
 have hz' : (zeroValue e).run P w = .ok z w := by
  unfold zeroOf at hz
  cases hi : P.info? e with
  | none => simp [hi] at hz
  | some i => simp [hi] at hz; simp [zeroValue, typeInfo, hi, hz]
 rcases find_look q1 q2 (i := 0) k4 with ⟨l1, l2⟩ | ⟨j, ps, en, l1, l2, l3, l4, l5, _⟩
 ·have hfk := MapKept.run_findKey (w := w) g2 l2
  have hk := h.2 l1
  refine wp_value (u := if ok = true then .tuple #[z, .bool false] else z) (w' := w) ?_ (hn _ σ ι _ w hk hs ?_)
  ·cases ok <;> simp [execOp, ho, hu, e2, Instr.lookup, run_underlying g1, MapKept.run_getObj_map k3, hck, hfk, hz']
  ·cases ok with
   | false => exact hzn
   | true => exact tup2 hzn (repV_bool _)
 ·have hfk := MapKept.run_findKey (w := w) g2 l2
  have hk := h.1 ps l1
  obtain ⟨en', hen, hent⟩ := k4.get l5
  rw [l3] at hen
  cases hen
  have hval : RepV w (Free w0.heap.size U ι σ.mem) ι σ.nx (mval n ps) en.val := hent.2
  refine wp_value (u := if ok = true then .tuple #[en.val, .bool true] else en.val) (w' := w) ?_ (hn _ σ ι _ w hk hs ?_)
  ·cases ok <;> simp [execOp, ho, hu, e2, Instr.lookup, run_underlying g1, MapKept.run_getObj_map k3, hck, hfk]
  ·cases ok with
   | false => exact hval
   | true => exact tup2 hval (repV_bool _)
theorem op_mget {t e : TypeId} {kt : KT} {n : Option Nat} {ok : Bool} {x y : Operand} {m k : AX} {z : Value} {zs : List AC} (ho : o.op = .lookup t x y ok) (ht : mapOf? P t = some (kt, e, n)) (hz : zeroOf P e = some z) (hzs : zeroPs n z = some zs) (hx : compX x = some m) (hy : compX y = some k)
  (h : opW P (.mget kt n zs ok m k) σ K) (hs : Sim w0 U σ ι a w) (hn : Goes w0 U a o K next) : o.wp P a w next Q := by
 have r1 := compX_rep hx hs
 have r2 := compX_rep hy hs
 have hzn : RepV w (Free w0.heap.size U ι σ.mem) ι σ.nx (mval n zs) z := by
  unfold zeroPs at hzs
  split at hzs
  ·split at hzs
   ·cases hzs; exact .c (cellOf_rep ‹_›)
   ·cases hzs
  ·split at hzs
   ·exact .agg (cellsOf_rep hzs)
   ·cases hzs
 generalize hu : a.eval x = u at r1
 obtain ⟨kty, g1, g2, g3⟩ := mapOf_parts ht
 simp only [opW] at h
 split at h
 ·rename_i kv ek
  rw [ek] at r2
  have e2 := (repV_val r2).1
  obtain ⟨mk, hmk, h⟩ := h
  obtain ⟨q1, q2⟩ := mkOf_key hmk
  simp only at h
  split at h
  ·rename_i nm em
   rw [em] at r1
   split at h
   ·rename_i kt' n' ents hf
    obtain ⟨⟨rfl, rfl⟩, h⟩ := h
    cases r1 with
    |c r1 => cases r1 with
     | @mref _ b hnm hι =>
      obtain ⟨b', es, clock, k1, k2, k3, k4, k5⟩ := hs.box _ _ hf
      rw [hι] at k1
      simp at k1
      subst k1
      exact op_mget_core ho ht hz hzn hu e2 hmk k3 k4 h hs hn
   ·exact h.elim
  ·rename_i kt' n' es em
   obtain ⟨⟨rfl, rfl⟩, h⟩ := h
   rw [em] at r1
   cases r1 with
   |c r1 => cases r1 with
    | pure r1 =>
     have r0 := r1
     cases r1 with
     | fmap =>
      obtain ⟨_, es', clock, k3, k4⟩ := ents_of (ι := ι) (N := σ.nx) r0
      exact op_mget_core ho ht hz hzn hu e2 hmk k3 k4 h hs hn
  ·exact h.elim
 ·exact h.elim

theorem Brn.push {es : Array MapEntry} {clock : Nat} {e : MapEntry} (h : Brn es clock) (he : e.born = clock) : Brn (es.push e) (clock + 1) := by
 refine ⟨by rw [Array.size_push, h.1], fun i x hx => ?_⟩
 rw [Array.getElem?_push] at hx
 by_cases hi : i = es.size
 ·rw [if_pos hi] at hx
  cases hx
  rw [he, h.1, hi]
 ·rw [if_neg hi] at hx
  exact h.2 i x hx
theorem Brn.modify {es : Array MapEntry} {clock j : Nat} {f : MapEntry → MapEntry} (h : Brn es clock) (hf : ∀ e, (f e).born = e.born) : Brn (es.modify j f) clock := by
 refine ⟨by rw [Array.size_modify, h.1], fun i x hx => ?_⟩
 rw [Array.getElem?_modify] at hx
 by_cases hi : j = i
 ·rw [if_pos hi, Option.map_eq_some_iff] at hx
  obtain ⟨y, hy, rfl⟩ := hx
  rw [hf]
  exact h.2 i y hy
 ·rw [if_neg hi] at hx
  exact h.2 i x hx
theorem Sim.setMap (hs : Sim w0 U σ ι a w) {nm b : Nat} {bx0 : Box} {kt : KT} {n : Option Nat} {ents : List (MK × List AC)} {es : Array MapEntry} {clock : Nat} {o0 : Obj} (hf : findB σ.mem nm = some bx0) (hι : ι nm = .map (some b)) (h0 : w.heap[b]? = some o0)
  (hents : All2 (EntRep w (Free w0.heap.size U ι σ.mem) ι σ.nx kt n) ents es.toList) (hbrn : Brn es clock) : Sim w0 U { σ with mem := setB σ.mem nm (.map kt n ents) } ι a { w with heap := w.heap.setIfInBounds b (.map es clock) } := by
 have hb : blockOf (ι nm) = some b := by rw [hι]; rfl
 have hB := ((hs.box _ _ hf).block hb).1
 obtain ⟨s1, s2⟩ := MapKept.heap_set (o' := .map es clock) h0
 have hfree : ∀ c, Free w0.heap.size U ι σ.mem c → Free w0.heap.size U ι (setB σ.mem nm (.map kt n ents)) c := fun c h => free_setB.2 h
 have hne : ∀ c, Free w0.heap.size U ι σ.mem c → c ≠ b := fun c h e => h.2 _ _ hf (by rw [hb, e])
 have hw : ∀ c, c < w.heap.size → Free w0.heap.size U ι σ.mem c → ({ w with heap := w.heap.setIfInBounds b (.map es clock) } : World).heap[c]? = w.heap[c]? := fun c _ h => s2 c (hne c h)
 have hsub : ∀ n' bx', findB (setB σ.mem nm (.map kt n ents)) n' = some bx' → ∃ c, findB σ.mem n' = some c := by
  intro n' bx' h1
  rw [findB_setB] at h1
  by_cases e : nm = n'
  ·subst e; exact ⟨_, hf⟩
  ·rw [if_neg e] at h1; exact ⟨_, h1⟩
 refine ⟨fun t => (hs.val t).mono (fun c _ h => hfree c h) hw (fun _ _ => rfl) (Nat.le_refl _), hs.defers, fun n' bx' hn => ?_, fun n' bx' hn => ?_, fun n' n'' b1 b2 c h1 h2 h3 h4 => ?_,
  hs.below.trans ⟨rfl, rfl, rfl, by simp, fun k hk => s2 k (by omega)⟩, U.mono _ _ _ _ hs.keep (fun c _ h => hfree c h) hw, hs.base⟩
 ·obtain ⟨c, hc⟩ := hsub _ _ hn
  exact hs.names _ _ hc
 ·rw [findB_setB] at hn
  by_cases e : nm = n'
  ·subst e
   rw [if_pos rfl, hf] at hn
   cases hn
   exact ⟨b, es, clock, hι, hB, s1, hents.mono fun _ _ h => h.mono (fun c _ h => hfree c h) hw (fun _ _ => rfl) (Nat.le_refl _), hbrn⟩
  ·rw [if_neg e] at hn
   have hbn : ∀ c, blockOf (ι n') = some c → c ≠ b := fun c hc e' => e (hs.apart _ _ _ _ b hf hn hb (by rw [hc, e']))
   have hold := hs.box _ _ hn
   cases bx' with
   | var xs =>
    obtain ⟨b', vs, T, h1, h2, h3, h4⟩ := hold
    exact ⟨b', vs, T, h1, h2, by rw [s2 _ (hbn b' (by rw [h1]; rfl))]; exact h3, h4.mono fun _ _ h => h.mono (fun c _ h => hfree c h) hw (fun _ _ => rfl) (Nat.le_refl _)⟩
   | arr e' sz rows =>
    obtain ⟨cells, h0, h1, h2, h3⟩ := hold
    refine ⟨cells, h0, World.ownsRow.kept (row := some b) h1 ⟨rfl, rfl, rfl, by simp, fun k _ hk => s2 k (fun e => hk (by rw [e]))⟩ ?_, h2, h3.mono (fun c _ h => hfree c h) hw⟩
    rcases h1.2 with ⟨h, _⟩ | ⟨g, cap, cur, h, _⟩
    ·rw [h]; exact .inl rfl
    ·right
     rw [h]
     intro e'
     simp [Value.ownBlock] at e'
     exact hbn g (by rw [h]; rfl) e'
   | arn e' sz rows =>
    obtain ⟨cells, h0, h1, h2, h3⟩ := hold
    refine ⟨cells, h0, World.ownsRow.kept (row := some b) h1 ⟨rfl, rfl, rfl, by simp, fun k _ hk => s2 k (fun e => hk (by rw [e]))⟩ ?_, h2, h3.mono (fun c _ h => hfree c h) hw (fun _ _ => rfl) (Nat.le_refl _)⟩
    rcases h1.2 with ⟨h, _⟩ | ⟨g, cap, cur, h, _⟩
    ·rw [h]; exact .inl rfl
    ·right
     rw [h]
     intro e'
     simp [Value.ownBlock] at e'
     exact hbn g (by rw [h]; rfl) e'
   | map kt' m ents' =>
    obtain ⟨b', es', clock', h1, h2, h3, h4, h5⟩ := hold
    exact ⟨b', es', clock', h1, h2, by rw [s2 _ (hbn b' (by rw [h1]; rfl))]; exact h3, h4.mono fun _ _ h => h.mono (fun c _ h => hfree c h) hw (fun _ _ => rfl) (Nat.le_refl _), h5⟩
 ·obtain ⟨c1, h1'⟩ := hsub _ _ h1
  obtain ⟨c2, h2'⟩ := hsub _ _ h2
  exact hs.apart _ _ _ _ _ h1' h2' h3 h4

theorem All2.set {α β : Type} {R : α → β → Prop} {as : List α} {bs : List β} (h : All2 R as bs) (j : Nat) {x : α} {y : β} (hr : R x y) : All2 R (as.set j x) (bs.set j y) := by
 induction h generalizing j with
 | nil => exact .nil
 | cons h t ih =>
  cases j with
  | zero => exact .cons hr t
  | succ j => exact .cons h (ih j)

theorem mcells_val {n : Option Nat} {v : AV} {ys : List AC} (hm : mcells n v = some ys) : mval n ys = v := by
 unfold mcells at hm
 split at hm
 ·cases hm; rfl
 ·split at hm
  ·cases hm; rfl
  ·cases hm
 ·cases hm

theorem op_mput {t e : TypeId} {kt : KT} {n : Option Nat} {x y v : Operand} {m k q : AX} (ho : o.op = .mapUpdate t x y v ∨ o.op = .insert t x y v) (ht : mapOf? P t = some (kt, e, n)) (hx : compX x = some m) (hy : compX y = some k) (hv : compX v = some q)
  (h : opW P (.mput kt n m k q) σ K) (hs : Sim w0 U σ ι a w) (hn : Goes w0 U a o K next) : o.wp P a w next Q := by
 have r1 := compX_rep hx hs
 have r2 := compX_rep hy hs
 have r3 := compX_rep hv hs
 generalize hu : a.eval x = u at r1
 obtain ⟨kty, g1, g2, g3⟩ := mapOf_parts ht
 simp only [opW] at h
 split at h
 ·rename_i kv ek
  rw [ek] at r2
  have e2 := (repV_val r2).1
  obtain ⟨mk, hmk, h⟩ := h
  obtain ⟨q1, q2⟩ := mkOf_key hmk
  simp only at h
  split at h
  ·rename_i nm em
   rw [em] at r1
   obtain ⟨ys, hys, h⟩ := h
   have hv3 := mcells_val hys
   simp only at h
   split at h
   ·rename_i kt' n' ents hf
    obtain ⟨⟨rfl, rfl⟩, h⟩ := h
    cases r1 with
    |c r1 => cases r1 with
     | @mref _ b hnm hι =>
      obtain ⟨b', es, clock, k1, k2, k3, k4, k5⟩ := hs.box _ _ hf
      rw [hι] at k1
      simp at k1
      subst k1
      have hck : (Instr.checkKey false 10000 kty kv).run P w = .ok () w := MapKept.run_checkKey g2 q1 false 9999
      have hent : ∀ born, EntRep w (Free w0.heap.size U ι σ.mem) ι σ.nx kt' n' (mk, ys) { key := kv, val := a.eval v, born := born } := fun born => ⟨q2, by show RepV _ _ _ _ (mval n' ys) _; rw [hv3]; exact r3⟩
      rcases find_look q1 q2 (i := 0) k4 with ⟨l1, l2⟩ | ⟨j, ps, en, l1, l2, l3, l4, l5, _, l6⟩
      ·have hfk := MapKept.run_findKey (w := w) g2 l2
       rw [mset_new l1] at h
       refine wp_skipped (w' := { w with heap := w.heap.setIfInBounds b (.map (es.push { key := kv, val := a.eval v, born := clock }) (clock + 1)) }) ?_ (hn _ _ ι _ _ h (hs.setMap hf hι k3 ?_ ?_) repV_undef)
       ·rcases ho with ho | ho <;> simp [execOp, ho, hu, e2, Instr.mapUpdate, run_underlying g1, MapKept.run_getObj_map k3, hck, hfk, MapKept.run_setObj_map _ k3]
       ·rw [Array.toList_push]
        exact k4.append (.cons (hent _) .nil)
       ·exact k5.push rfl
      ·have hfk := MapKept.run_findKey (w := w) g2 l2
       rw [l6] at h
       have hj : es[j]? = some en := by simpa using l3
       refine wp_skipped (w' := { w with heap := w.heap.setIfInBounds b (.map (es.modify j fun e => { e with key := kv, val := a.eval v }) clock) }) ?_ (hn _ _ ι _ _ h (hs.setMap hf hι k3 ?_ ?_) repV_undef)
       ·rcases ho with ho | ho <;> simp [execOp, ho, hu, e2, Instr.mapUpdate, run_underlying g1, MapKept.run_getObj_map k3, hck, hfk, MapKept.run_setObj_map _ k3, hj, l4, MapKept.run_keyThatStays q1]
       ·rw [Array.toList_modify, ChangeMaps.modify_eq_set _ _ _ _ l3]
        exact k4.set j (hent _)
       ·exact k5.modify fun _ => rfl
   ·exact h.elim
  ·exact h.elim
 ·exact h.elim
theorem eset_eq {k : MK} {u v : List AC} : ∀ {l : List (MK × List AC)} {i : Nat}, l[i]? = some (k, u) → eset l i v = l.set i (k, v)
 |(k0, u0) :: r, 0, h => by
  simp only [List.getElem?_cons_zero, Option.some.injEq, Prod.mk.injEq] at h
  obtain ⟨rfl, rfl⟩ := h
  rfl
 |x :: r, i + 1, h => by
  simp only [List.getElem?_cons_succ] at h
  simp only [eset, List.set_cons_succ, eset_eq h]
theorem heap_same {w : World} {b : Nat} {x : Obj} (h : w.heap[b]? = some x) : ({ w with heap := w.heap.setIfInBounds b x } : World) = w := by
 have : w.heap.setIfInBounds b x = w.heap := by
  refine Array.ext_getElem? fun i => ?_
  rw [Array.getElem?_setIfInBounds]
  by_cases e : b = i
  ·subst e
   rw [if_pos rfl, if_pos (Array.getElem?_eq_some_iff.1 h).1, h]
  ·rw [if_neg e]
 rw [this]
theorem op_ment {t e : TypeId} {kt : KT} {n : Option Nat} {x y : Operand} {m k : AX} {z : Value} {zs : List AC} (ho : o.op = .mapEntry t x y) (ht : mapOf? P t = some (kt, e, n)) (hz : zeroOf P e = some z) (hzs : zeroPs n z = some zs) (hx : compX x = some m) (hy : compX y = some k)
  (h : opW P (.ment kt n zs m k) σ K) (hs : Sim w0 U σ ι a w) (hn : Goes w0 U a o K next) : o.wp P a w next Q := by
 have r1 := compX_rep hx hs
 have r2 := compX_rep hy hs
 have hzn : ∀ (w : World) (V : Nat → Prop) (ι : Pl) (N : Nat), RepV w V ι N (mval n zs) z := by
  intro w V ι N
  unfold zeroPs at hzs
  split at hzs
  ·split at hzs
   ·cases hzs; exact .c (cellOf_rep ‹_›)
   ·cases hzs
  ·split at hzs
   ·exact .agg (cellsOf_rep hzs)
   ·cases hzs
 have hz' : (zeroValue e).run P w = .ok z w := by
  unfold zeroOf at hz
  cases hi : P.info? e with
  | none => simp [hi] at hz
  | some i => simp [hi] at hz; simp [zeroValue, typeInfo, hi, hz]
 generalize hu : a.eval x = u at r1
 obtain ⟨kty, g1, g2, g3⟩ := mapOf_parts ht
 simp only [opW] at h
 split at h
 ·rename_i kv ek
  rw [ek] at r2
  have e2 := (repV_val r2).1
  obtain ⟨mk, hmk, h⟩ := h
  obtain ⟨q1, q2⟩ := mkOf_key hmk
  simp only at h
  split at h
  ·rename_i nm em
   rw [em] at r1
   split at h
   ·rename_i kt' n' ents hf
    obtain ⟨⟨rfl, rfl⟩, h⟩ := h
    cases r1 with
    |c r1 => cases r1 with
     | @mref _ b hnm hι =>
      obtain ⟨b', es, clock, k1, k2, k3, k4, k5⟩ := hs.box _ _ hf
      rw [hι] at k1
      simp at k1
      subst k1
      have hck : (Instr.checkKey false 10000 kty kv).run P w = .ok () w := MapKept.run_checkKey g2 q1 false 9999
      have hlen : ents.length = es.size := by rw [← Array.length_toList]; exact k4.length
      rcases find_look q1 q2 (i := 0) k4 with ⟨l1, l2⟩ | ⟨j, ps, en, l1, l2, l3, l4, l5, l7, l6⟩
      ·have hfk := MapKept.run_findKey (w := w) g2 l2
       have hk := h.2 l1
       refine wp_value (u := .tuple #[z, .int .i64 clock]) (w' := { w with heap := w.heap.setIfInBounds b (.map (es.push { key := kv, val := z, born := clock }) (clock + 1)) }) ?_ (hn _ _ ι _ _ hk (hs.setMap hf hι k3 ?_ (k5.push rfl)) (tup2 (hzn _ _ _ _) ?_))
       ·simp [execOp, ho, hu, e2, Instr.mapEntry, run_underlying g1, MapKept.run_getObj_map k3, hck, hfk, hz', MapKept.run_setObj_map _ k3, goInt]
       ·rw [Array.toList_push]
        exact k4.append (.cons ⟨q2, hzn _ _ _ _⟩ .nil)
       ·rw [k5.1, ← hlen]
        exact .c (.pure (.val rfl))
      ·have hfk := MapKept.run_findKey (w := w) g2 l2
       have hk := h.1 ps l1
       have hj : es[j]? = some en := by simpa using l3
       have hb := k5.2 j en hj
       have hsame : es.modify j (fun e => { e with key := kv }) = es := by
        refine Array.ext_getElem? fun i => ?_
        rw [Array.getElem?_modify]
        by_cases e : j = i
        ·subst e
         rw [if_pos rfl, hj]
         simp [← l4]
        ·rw [if_neg e]
       obtain ⟨en', hen, hent⟩ := k4.get l5
       rw [l3] at hen
       cases hen
       refine wp_value (u := .tuple #[en.val, .int .i64 j]) (w' := w) ?_ (hn _ σ ι _ w hk hs (tup2 hent.2 ?_))
       ·simp [execOp, ho, hu, e2, Instr.mapEntry, run_underlying g1, MapKept.run_getObj_map k3, hck, hfk, MapKept.run_setObj_map _ k3, hj, l4, MapKept.run_keyThatStays q1, goInt, hsame, hb, heap_same k3]
       ·rw [l7]
        exact .c (.pure (.val rfl))
   ·exact h.elim
  ·exact h.elim
 ·exact h.elim
theorem op_eput {t e : TypeId} {kt : KT} {n : Option Nat} {x y v : Operand} {m k q : AX} (ho : o.op = .entryStore t x y v) (ht : mapOf? P t = some (kt, e, n)) (hx : compX x = some m) (hy : compX y = some k) (hv : compX v = some q)
  (h : opW P (.eput kt n m k q) σ K) (hs : Sim w0 U σ ι a w) (hn : Goes w0 U a o K next) : o.wp P a w next Q := by
 have r1 := compX_rep hx hs
 have r2 := compX_rep hy hs
 have r3 := compX_rep hv hs
 generalize hu : a.eval x = u at r1
 simp only [opW] at h
 split at h
 ·rename_i ik i ek
  rw [ek] at r2
  have e2 := (repV_val r2).1
  split at h
  ·rename_i nm em
   rw [em] at r1
   obtain ⟨ys, hys, h⟩ := h
   have hv3 := mcells_val hys
   simp only at h
   split at h
   ·rename_i kt' n' ents hf
    obtain ⟨⟨rfl, rfl, h0, hi⟩, h⟩ := h
    cases r1 with
    |c r1 => cases r1 with
     | @mref _ b hnm hι =>
      obtain ⟨b', es, clock, k1, k2, k3, k4, k5⟩ := hs.box _ _ hf
      rw [hι] at k1
      simp at k1
      subst k1
      have hil : i.toNat < ents.length := by omega
      obtain ⟨en, hen, hent⟩ := k4.get (List.getElem?_eq_getElem hil)
      have hj : es[i.toNat]? = some en := by simpa using hen
      have hfi : es.findIdx? (fun e => (e.born : Int) == i) = some i.toNat := by
       rw [Array.findIdx?_eq_some_iff_getElem]
       obtain ⟨hl, hg⟩ := Array.getElem?_eq_some_iff.1 hj
       refine ⟨hl, ?_, fun j hji => ?_⟩
       ·have := k5.2 _ _ hj
        rw [hg, this]
        simp
        omega
       ·have := k5.2 j _ (Array.getElem?_eq_getElem (by omega))
        rw [this]
        simp
        omega
      rw [eset_eq (List.getElem?_eq_getElem hil)] at h
      refine wp_skipped (w' := { w with heap := w.heap.setIfInBounds b (.map (es.modify i.toNat fun e => { e with val := a.eval v }) clock) }) ?_ (hn _ _ ι _ _ h (hs.setMap hf hι k3 ?_ (k5.modify fun _ => rfl)) repV_undef)
      ·simp [execOp, ho, hu, e2, Instr.entryStore, MapKept.run_getObj_map k3, asInt, asIntOf, hfi, MapKept.run_setObj_map _ k3]
      ·rw [Array.toList_modify, ChangeMaps.modify_eq_set _ _ _ _ hen]
       exact k4.set _ ⟨hent.1, by show RepV _ _ _ _ (mval n' ys) _; rw [hv3]; exact r3⟩
   ·exact h.elim
  ·exact h.elim
 ·exact h.elim
end
end Go.Abs

set_option linter.unusedVariables false
set_option linter.unusedSimpArgs false
namespace Go.Abs
open Go.RowKit

section
variable {P : Program} {o : Oper} {a : Act} {w w' w0 : World} {U : Gh} {ι : Pl} {σ : St} {next : Act → World → Prop} {Q : Exit → Act → World → Prop} {K : AV → St → Prop}

theorem findB_frzM {nm : Nat} {rows : List (List PC)} : ∀ {mem : List (Nat × Box)} {n : Nat}, findB (frzM nm rows mem) n = if n = nm then none else (findB mem n).map (frzB nm rows)
 | [], n => by simp [frzM, findB]
 |(m, b) :: r, n => by
  simp only [frzM]
  by_cases e : m = nm
  ·subst e
   rw [if_pos rfl, findB_frzM, findB_cons]
   by_cases e' : m = n
   ·subst e'; simp
   ·simp [e']
  ·rw [if_neg e, findB_cons, findB_frzM, findB_cons]
   by_cases e' : m = n
   ·subst e'
    simp [e]
   ·simp [e']
theorem look_frzF {nm : Nat} {rows : List (List PC)} : ∀ {fr : List (Nat × AV)} {t : Nat}, look (frzF nm rows fr) t = frzV nm rows (look fr t)
 | [], t => rfl
 |(s, v) :: r, t => by
  simp only [frzF, look]
  by_cases e : s = t
  ·rw [if_pos e, if_pos e]
  ·rw [if_neg e, if_neg e, look_frzF]
theorem RepA.frz {V : Nat → Prop} {N nm : Nat} {rows : List (List PC)} {x : AC} {v : Value} (h : RepA w V ι N x v) (hr : RepP w V (.slice rows) (ι nm)) : RepA w V ι N (frz1 nm rows x) v := by
 cases x with
 | ref m =>
  have e : v = ι m := by cases h; rfl
  simp only [frz1]
  by_cases en : m = nm
  ·subst en
   rw [if_pos rfl, e]
   exact .pure hr
  ·rw [if_neg en]; exact h
 | _ => exact h
theorem reps_frz {V : Nat → Prop} {N nm : Nat} {rows : List (List PC)} {xs : List AC} {vs : List Value} (h : All2 (RepA w V ι N) xs vs) (hr : RepP w V (.slice rows) (ι nm)) : All2 (RepA w V ι N) (xs.map (frz1 nm rows)) vs := by
 induction h with
 | nil => exact .nil
 | cons h _ ih => exact .cons (h.frz hr) ih
theorem RepV.frz {V : Nat → Prop} {N nm : Nat} {rows : List (List PC)} {x : AV} {v : Value} (h : RepV w V ι N x v) (hr : RepP w V (.slice rows) (ι nm)) : RepV w V ι N (frzV nm rows x) v := by
 cases h with
 | c h => exact .c (h.frz hr)
 | agg h => exact .agg (reps_frz h hr)
 | tup hl h => exact .tup hl h
 | top => exact .top

theorem mval_frz {nm : Nat} {rows : List (List PC)} {n : Option Nat} {ps : List AC} : mval n (ps.map (frz1 nm rows)) = frzV nm rows (mval n ps) := by
 cases n with
 | none => cases ps <;> rfl
 | some k => rfl
theorem ents_frz {V : Nat → Prop} {N nm : Nat} {rows : List (List PC)} {kt : KT} {n : Option Nat} {xs : List (MK × List AC)} {es : List MapEntry} (h : All2 (EntRep w V ι N kt n) xs es) (hr : RepP w V (.slice rows) (ι nm)) : All2 (EntRep w V ι N kt n) (xs.map fun x => (x.1, x.2.map (frz1 nm rows))) es := by
 induction h with
 | nil => exact .nil
 | cons h _ ih => exact .cons ⟨h.1, by show RepV _ _ _ _ (mval n (List.map _ _)) _; rw [mval_frz]; exact h.2.frz hr⟩ ih
theorem rowsA_frz {V : Nat → Prop} {N nm sz : Nat} {rows : List (List PC)} {rs : List (List AC)} {cells : List Value} (h : RowsRepA w V ι N sz rs cells) (hr : RepP w V (.slice rows) (ι nm)) : RowsRepA w V ι N sz (rs.map fun r => r.map (frz1 nm rows)) cells := by
 refine ⟨by rw [List.length_map]; exact h.1, fun i row hi => ?_, fun i row j p hi hj => ?_⟩
 ·rw [List.getElem?_map, Option.map_eq_some_iff] at hi
  obtain ⟨r, hi, rfl⟩ := hi
  rw [List.length_map]
  exact h.2.1 _ _ hi
 ·rw [List.getElem?_map, Option.map_eq_some_iff] at hi
  obtain ⟨r, hi, rfl⟩ := hi
  rw [List.getElem?_map, Option.map_eq_some_iff] at hj
  obtain ⟨x, hj, rfl⟩ := hj
  obtain ⟨v, hv, hp⟩ := h.2.2 i r j x hi hj
  exact ⟨v, hv, hp.frz hr⟩
theorem Sim.frz (hs : Sim w0 U σ ι a w) {nm e sz : Nat} {rows : List (List PC)} (hf : findB σ.mem nm = some (.arr e sz rows)) : Sim w0 U (σ.frz nm rows) ι a w ∧ RepP w (Free w0.heap.size U ι (σ.frz nm rows).mem) (.slice rows) (ι nm) ∧ ∀ b, Free w0.heap.size U ι σ.mem b → Free w0.heap.size U ι (σ.frz nm rows).mem b := by
 have hex : ∃ a n c, ι nm = .slice a n c := by
  obtain ⟨cells, g0, g1, g2, g3⟩ := hs.box _ _ hf
  rcases g1.2 with ⟨e1, e2⟩ | ⟨g, cap, cur, e1, hB, _⟩
  ·exact ⟨_, _, _, e1⟩
  ·exact ⟨_, _, _, e1⟩
 obtain ⟨hs1, hr1, hfr1⟩ := frzA_rep (x := .ref nm) (p := .slice rows) (mem' := delB σ.mem nm) hs (.ref (hs.names _ _ hf) hex) (by simp [frzA, hf])
 have hsome : ∀ n bx, findB (frzM nm rows σ.mem) n = some bx → ∃ bx', findB (delB σ.mem nm) n = some bx' ∧ bx = frzB nm rows bx' := by
  intro n bx h
  rw [findB_frzM] at h
  rw [findB_delB]
  by_cases en : n = nm
  ·rw [if_pos en] at h; cases h
  ·rw [if_neg en] at h ⊢
   cases hq : findB σ.mem n with
   | none => simp [hq] at h
   | some b => simp [hq] at h; exact ⟨b, rfl, h.symm⟩
 have hfr2 : ∀ b, Free w0.heap.size U ι (delB σ.mem nm) b → Free w0.heap.size U ι (frzM nm rows σ.mem) b := fun b h => ⟨h.1, fun n bx hn => by
  obtain ⟨bx', h1, _⟩ := hsome n bx hn
  exact h.2 n bx' h1⟩
 have hr2 : RepP w (Free w0.heap.size U ι (frzM nm rows σ.mem)) (.slice rows) (ι nm) := hr1.mono (fun b _ h => hfr2 b h) (fun _ _ _ => rfl)
 refine ⟨⟨fun t => ?_, hs.defers, fun n bx hn => ?_, fun n bx hn => ?_, fun n n' b1 b2 b h1 h2 h3 h4 => ?_, hs.below, ?_, hs.base⟩, hr2, fun b h => hfr2 b (hfr1 b h)⟩
 ·show RepV w _ ι σ.nx (look (frzF nm rows σ.fr) t) _
  rw [look_frzF]
  exact ((hs1.val t).mono (fun b _ h => hfr2 b h) (fun _ _ _ => rfl) (fun _ _ => rfl) (Nat.le_refl _)).frz hr2
 ·obtain ⟨bx', h1, _⟩ := hsome n bx hn
  exact hs1.names _ _ h1
 ·obtain ⟨bx', h1, rfl⟩ := hsome n bx hn
  have h2 := (hs1.box _ _ h1).grow (Below.refl _ _) (fun b _ h => hfr2 b h) (fun _ _ => rfl) (Nat.le_refl _) (hs1.names _ _ h1)
  cases bx' with
  | var xs =>
   obtain ⟨b, vs, T, k1, k2, k3, k4⟩ := h2
   exact ⟨b, vs, T, k1, k2, k3, reps_frz k4 hr2⟩
  | arr e sz rows => exact h2
  | arn e sz rs =>
   obtain ⟨cells, k0, k1, k2, k3⟩ := h2
   exact ⟨cells, k0, by rw [List.length_map]; exact k1, by rw [List.length_map]; exact k2, rowsA_frz k3 hr2⟩
  | map kt n ents =>
   obtain ⟨b, es, clock, k1, k2, k3, k4, k5⟩ := h2
   exact ⟨b, es, clock, k1, k2, k3, ents_frz k4 hr2, k5⟩
 ·obtain ⟨_, g1, _⟩ := hsome _ _ h1
  obtain ⟨_, g2, _⟩ := hsome _ _ h2
  exact hs1.apart _ _ _ _ _ g1 g2 h3 h4
 ·exact U.mono _ _ _ _ hs1.keep (fun b _ h => hfr2 b h) (fun _ _ _ => rfl)

theorem frzLA_rep : ∀ {l : List Nat} {σ σ' : St} {args args' : List AV} {us : List Value}, Sim w0 U σ ι a w → All2 (RepV w (Free w0.heap.size U ι σ.mem) ι σ.nx) args us → frzLA l σ args = (σ', args') →
  Sim w0 U σ' ι a w ∧ All2 (RepV w (Free w0.heap.size U ι σ'.mem) ι σ'.nx) args' us
 | [], σ, σ', args, args', us, hs, hr, h => by cases h; exact ⟨hs, hr⟩
 |nm :: l, σ, σ', args, args', us, hs, hr, h => by
  simp only [frzLA] at h
  split at h
  ·rename_i hf
   obtain ⟨h1, h2, h3⟩ := hs.frz hf
   refine frzLA_rep h1 ?_ h
   clear h
   generalize hl : us = us' at *
   clear hl
   induction hr with
   | nil => exact .nil
   | cons hr _ ih => exact .cons ((hr.mono (fun b _ h => h3 b h) (fun _ _ _ => rfl) (fun _ _ => rfl) (Nat.le_refl _)).frz h2) ih
  ·cases h; exact ⟨hs, hr⟩

def eqFits : ET → Value → Prop
 | .int k, .int k' _ => k' = k
 | .str, .string _ => True
 | .bool, .bool _ => True
 | _, _ => False
theorem eqOk_fits : ∀ {l : List ET} {xs ys : List AC}, eqOk l xs ys → ∃ us vs, xs = us.map (fun u => .pure (.val u)) ∧ ys = vs.map (fun u => .pure (.val u)) ∧ All2 eqFits l us ∧ All2 eqFits l vs ∧ (eqP xs ys ↔ us = vs)
 |[], xs, ys, h => by
  unfold eqOk at h
  split at h
  ·exact ⟨[], [], rfl, rfl, .nil, .nil, by simp [eqP]⟩
  ·contradiction
  ·contradiction
  ·contradiction
  ·exact h.elim
 |e :: l, xs, ys, h => by
  unfold eqOk at h
  split at h
  ·contradiction
  ·rename_i k l' k1 a xs' k2 b ys' e
   cases e
   obtain ⟨rfl, rfl, h⟩ := h
   obtain ⟨us, vs, rfl, rfl, h1, h2, h3⟩ := eqOk_fits h
   exact ⟨_ :: us, _ :: vs, rfl, rfl, .cons rfl h1, .cons rfl h2, by simp [eqP, h3]⟩
  ·rename_i l' a xs' b ys' e
   cases e
   obtain ⟨us, vs, rfl, rfl, h1, h2, h3⟩ := eqOk_fits h
   exact ⟨_ :: us, _ :: vs, rfl, rfl, .cons trivial h1, .cons trivial h2, by simp [eqP, h3]⟩
  ·rename_i l' a xs' b ys' e
   cases e
   obtain ⟨us, vs, rfl, rfl, h1, h2, h3⟩ := eqOk_fits h
   exact ⟨_ :: us, _ :: vs, rfl, rfl, .cons trivial h1, .cons trivial h2, by simp [eqP, h3]⟩
  ·exact h.elim

def asV (P : Program) (t : TypeId) (us : List Value) : Option Value := match P.underlying t with
 | some (.struct _) => some (.agg us.toArray)
 |_ => match us with
  | [u] => some u
  | _ => none
def EqS (P : Program) (dd : Nat) (t : TypeId) (l : List ET) : Prop := ∀ (w : World) us vs a b, asV P t us = some a → asV P t vs = some b → All2 eqFits l us → All2 eqFits l vs → ∃ r : Bool, (Op.equalIn dd t a b).run P w = .ok r w ∧ (r = true ↔ us = vs)
theorem part_sh {n : Nat} {t : TypeId} {l : List ET} (h : eqSh P n t = some l) (hi : (P.info? t).map (·.size) = some l.length) {xs : Array Value} {off : Nat} (hl : off + l.length ≤ xs.size) : ∃ a, (part t xs off).run P w = .ok a w ∧ asV P t ((xs.toList.drop off).take l.length) = some a := by
 cases n with
 | zero => cases h
 | succ n =>
  have hget : ∀ (hl1 : l.length = 1), ∃ u, xs[off]? = some u ∧ (xs.toList.drop off).take l.length = [u] := by
   intro hl1
   have hlt : off < xs.size := by omega
   refine ⟨xs[off], Array.getElem?_eq_getElem hlt, ?_⟩
   rw [hl1, List.drop_eq_getElem_cons (by simpa using hlt)]
   simp
  unfold eqSh at h
  split at h
  ·rename_i k hu
   cases h
   obtain ⟨u, h1, h2⟩ := hget rfl
   exact ⟨u, run_part_plain w (by simp [Program.plainKey, hu]) h1, by rw [h2]; simp [asV, hu]⟩
  ·rename_i hu
   cases h
   obtain ⟨u, h1, h2⟩ := hget rfl
   exact ⟨u, run_part_plain w (by simp [Program.plainKey, hu]) h1, by rw [h2]; simp [asV, hu]⟩
  ·rename_i hu
   cases h
   obtain ⟨u, h1, h2⟩ := hget rfl
   exact ⟨u, run_part_plain w (by simp [Program.plainKey, hu]) h1, by rw [h2]; simp [asV, hu]⟩
  ·rename_i fs hu
   obtain ⟨i, hi2⟩ := info_of_underlying hu
   rw [hi2] at hi
   simp at hi
   refine ⟨.agg (xs.extract off (off + l.length)), by simp [part, isAgg, run_underlying hu, sizeOf, typeInfo, hi2, hi], ?_⟩
   simp only [asV, hu]
   congr 2
   apply Array.ext'
   simp [List.take_drop]
  ·cases h
theorem fields_sh {n dd : Nat} (ih : ∀ t l, eqSh P n t = some l → EqS P dd t l) (xs ys : Array Value) : ∀ {fs : List Field} {off : Nat} {l : List ET}, off ≤ xs.size → off ≤ ys.size → eqShFs P (eqSh P n) fs off = some l → All2 eqFits l (xs.toList.drop off) → All2 eqFits l (ys.toList.drop off) →
  ∃ r : Bool, (Op.eqFields dd xs ys fs).run P w = .ok r w ∧ (r = true ↔ xs.toList.drop off = ys.toList.drop off)
 |[], off, l, ox, oy, h, hx, hy => by
  cases h
  cases hx' : xs.toList.drop off with
  | cons => rw [hx'] at hx; cases hx
  | nil =>
   cases hy' : ys.toList.drop off with
   | cons => rw [hy'] at hy; cases hy
   | nil => exact ⟨true, by simp [Op.eqFields], by simp⟩
 |fd :: fs, off, l, ox, oy, h, hx, hy => by
  unfold eqShFs at h
  split at h
  ·cases h
  ·rename_i hno
   have hname : fd.name ≠ "_" := fun e => hno (.inl e)
   have hoff : fd.offset = off := Classical.byContradiction fun e => hno (.inr e)
   split at h
   ·rename_i l1 hl1
    split at h
    ·rename_i hsz
     simp only [Option.map_eq_some_iff] at h
     obtain ⟨l2, h2, rfl⟩ := h
     have lx := hx.length
     have ly := hy.length
     simp only [List.length_append, List.length_drop, Array.length_toList] at lx ly
     obtain ⟨a, pa, va⟩ := part_sh (w := w) hl1 hsz (xs := xs) (off := off) (by omega)
     obtain ⟨b, pb, vb⟩ := part_sh (w := w) hl1 hsz (xs := ys) (off := off) (by omega)
     have tk : ∀ {zs : List Value}, All2 eqFits (l1 ++ l2) zs → All2 eqFits l1 (zs.take l1.length) ∧ All2 eqFits l2 (zs.drop l1.length) := fun hz => by
      have h1 := hz.take l1.length
      have h2 := hz.drop l1.length
      simp only [List.take_left, List.drop_left] at h1 h2
      exact ⟨h1, h2⟩
     obtain ⟨r, hr, hiff⟩ := ih _ _ hl1 w _ _ a b va vb (tk hx).1 (tk hy).1
     obtain ⟨r2, hr2, hiff2⟩ := fields_sh ih xs ys (by omega) (by omega) h2 (by rw [← List.drop_drop]; exact (tk hx).2) (by rw [← List.drop_drop]; exact (tk hy).2)
     have key : (xs.toList.drop off = ys.toList.drop off) ↔ ((xs.toList.drop off).take l1.length = (ys.toList.drop off).take l1.length ∧ xs.toList.drop (off + l1.length) = ys.toList.drop (off + l1.length)) := by
      constructor
      ·intro e
       rw [e, ← List.drop_drop, ← List.drop_drop, e]
       exact ⟨rfl, rfl⟩
      ·rintro ⟨e1, e2⟩
       rw [← List.take_append_drop l1.length (xs.toList.drop off), ← List.take_append_drop l1.length (ys.toList.drop off), List.drop_drop, List.drop_drop, e1, e2]
     simp only [Op.eqFields, hname, hoff, ne_eq, not_false_eq_true, if_true, Sem.run_bind, pa, pb, hr, Result.andThen_ok]
     cases r
     ·exact ⟨false, by simp, by rw [key]; simp; intro e; exact absurd (hiff.2 e) (by simp)⟩
     ·refine ⟨r2, by simpa using hr2, ?_⟩
      rw [key, hiff2]
      simp [hiff.1 rfl]
    ·cases h
   ·cases h
theorem eqSh_sound : ∀ {n d : Nat} {t : TypeId} {l : List ET}, eqSh P n t = some l → EqS P (d + n) t l
 | 0, d, t, l, h => by cases h
 |n + 1, d, t, l, h => by
  intro w us vs a b ha hb hx hy
  unfold eqSh at h
  split at h
  ·rename_i k hu
   cases h
   cases hx with | cons h1 t1 => cases t1; cases hy with | cons h2 t2 =>
    cases t2
    simp only [asV, hu, Option.some.injEq] at ha hb
    subst ha; subst hb
    rename_i u v
    cases u <;> simp [eqFits] at h1
    cases v <;> simp [eqFits] at h2
    subst h1; subst h2
    exact ⟨_, run_equalIn_int w (d + n) t _ _ _ _ hu, by simp⟩
  ·rename_i hu
   cases h
   cases hx with | cons h1 t1 => cases t1; cases hy with | cons h2 t2 =>
    cases t2
    simp only [asV, hu, Option.some.injEq] at ha hb
    subst ha; subst hb
    rename_i u v
    cases u <;> simp [eqFits] at h1
    cases v <;> simp [eqFits] at h2
    refine ⟨_, run_equalIn_string w (d + n) t _ _ hu, ?_⟩
    rename_i s s'
    obtain ⟨⟨s⟩⟩ := s
    obtain ⟨⟨s'⟩⟩ := s'
    simp [ByteArray.toList_eq]
  ·rename_i hu
   cases h
   cases hx with | cons h1 t1 => cases t1; cases hy with | cons h2 t2 =>
    cases t2
    simp only [asV, hu, Option.some.injEq] at ha hb
    subst ha; subst hb
    rename_i u v
    cases u <;> simp [eqFits] at h1
    cases v <;> simp [eqFits] at h2
    exact ⟨_, run_equalIn_bool' w (d + n) t _ _ hu, by simp⟩
  ·rename_i fs hu
   split at h
   ·cases h
   ·rename_i hst
    simp only [asV, hu, Option.some.injEq] at ha hb
    subst ha; subst hb
    have hfs : P.fieldsOf t = fs := by simp [Program.fieldsOf, hu]
    obtain ⟨r, hr, hiff⟩ := fields_sh (w := w) (dd := d + n) (fun t l h => eqSh_sound h) us.toArray vs.toArray (Nat.zero_le _) (Nat.zero_le _) h (by simpa using hx) (by simpa using hy)
    refine ⟨r, ?_, by simpa using hiff⟩
    rw [show d + (n + 1) = (d + n) + 1 from rfl, run_equalIn_struct w (d + n) t _ _ (by rw [hfs]; exact hu) (by simpa using hst), hfs]
    exact hr
  ·cases h
theorem repV_scalars {V : Nat → Prop} {N : Nat} : ∀ {us : List Value} {vs : List Value}, All2 (RepA w V ι N) (us.map fun u => .pure (.val u)) vs → vs = us
 | [], vs, h => by cases h; rfl
 |u :: us, vs, h => by
  cases h with
  | cons h1 t =>
   cases h1 with
   |pure h1 => cases h1 with
    | val => rw [repV_scalars t]
theorem op_eqs {op : BinOp} {t t' : TypeId} {x y : Operand} {p q : AX} {neg : Bool} {l : List ET} (hop : (op = .eql ∧ neg = false) ∨ (op = .neq ∧ neg = true)) (hst : isStruct P t = true) (hl : eqTop P t = some l) (ho : o.op = .binOp op t x y t') (hx : compX x = some p) (hy : compX y = some q)
  (h : opW P (.eqs neg l p q) σ K) (hs : Sim w0 U σ ι a w) (hn : Goes w0 U a o K next) : o.wp P a w next Q := by
 have r1 := compX_rep hx hs
 have r2 := compX_rep hy hs
 simp only [opW] at h
 split at h
 ·rename_i xs ys e e'
  rw [e] at r1
  rw [e'] at r2
  obtain ⟨hk, h⟩ := h
  obtain ⟨us, vs, rfl, rfl, f1, f2, f3⟩ := eqOk_fits hk
  generalize hu : a.eval x = u at r1
  generalize hv : a.eval y = v at r2
  cases r1 with
  | @agg _ cu r1 =>
   cases r2 with
   | @agg _ cv r2 =>
    have e1 := repV_scalars r1
    have e2 := repV_scalars r2
    obtain rfl : cu = us.toArray := by apply Array.ext'; simpa using e1
    obtain rfl : cv = vs.toArray := by apply Array.ext'; simpa using e2
    unfold eqTop at hl
    split at hl
    ·cases hl
    ·rename_i hgt
     unfold isStruct at hst
     split at hst
     ·rename_i fs hT
      obtain ⟨r, hr, hiff⟩ := eqSh_sound (d := 9994) hl w us vs (.agg us.toArray) (.agg vs.toArray) (by simp [asV, hT]) (by simp [asV, hT]) f1 f2
      have hr' : (Op.equal t (.agg us.toArray) (.agg vs.toArray)).run P w = .ok r w := hr
      have hdec : dec (eqP (us.map fun u => .pure (.val u)) (vs.map fun u => .pure (.val u))) = r := by
       unfold dec
       cases r
       ·exact @decide_eq_false _ (Classical.propDecidable _) (fun hp => by have := hiff.2 (f3.1 hp); cases this)
       ·exact @decide_eq_true _ (Classical.propDecidable _) (f3.2 (hiff.1 rfl))
      rw [hdec] at h
      have hg : (eqGuard op t x y (.agg us.toArray) (.agg vs.toArray)).run P w = .ok () w := by
       unfold eqGuard
       cases op <;> simp [hgt]
      refine wp_value (u := .bool (r != neg)) (w' := w) ?_ (hn _ σ ι _ w h hs (repV_bool _))
      simp only [execOp, ho, hu, hv]
      rw [Sem.run_bind, Sem.run_bind, hg]
      rcases hop with ⟨rfl, rfl⟩ | ⟨rfl, rfl⟩ <;> simp [binOp, hr']
     ·cases hst
 ·exact h.elim

theorem op_call {f : Operand} {args : List Operand} {p : AX} {xs : List AX} {c : Call} (hc : c.callee = .value f) (hargs : c.args.toList = args) (ho : o.op = .call c) (hf : compX f = some p) (hx : compXs args = some xs) {bg zg : Bool} (h : opW P (.call bg zg p xs) σ K) (hs : Sim w0 U σ ι a w) (hn : Goes w0 U a o K next) : o.wp P a w next Q := by
 have r1 := compX_rep hf hs
 generalize hu : a.eval f = u at r1
 simp only [opW] at h
 split at h
 ·rename_i g caps e
  rw [e] at r1
  cases r1 with
  |c r1 => cases r1 with
   | clo hl hcap =>
    rename_i cv
    have hB := hs.below.size
    -- the arguments
    have hall : All2 (RepV w (Free w0.heap.size U ι σ.mem) ι σ.nx) (xs.map (·.ev σ.fr) ++ caps.map .c) (args.map a.eval ++ cv.toList) := by
     refine (compXs_rep hs hx).append (All2.of_get (by simpa using hl) fun i x v hi hv => ?_)
     rw [List.getElem?_map] at hi
     cases ec : caps[i]? with
     | none => simp [ec] at hi
     | some y =>
      simp [ec] at hi
      subst hi
      have := hcap i y ec
      rw [hv] at this
      exact .c this
    have hvs : (args.map a.eval ++ cv.toList) = ((args.map a.eval).toArray ++ cv).toList := by simp
    rw [hvs] at hall
    obtain ⟨l, σ', args', -, hz, h⟩ := h
    obtain ⟨hs, hall⟩ := frzLA_rep hs hall hz
    clear hz hcap hl
    revert hs hall h
    generalize σ' = σ at *
    intro h hs hall
    have hB := hs.below.size
    have hargv : c.args.map a.eval = (args.map a.eval).toArray := by rw [← hargs]; apply Array.ext'; simp
    have hexec : FnThere P g → (execOp a.eval o).run P w = .ok (.enter g ((args.map a.eval).toArray ++ cv)) w := by
     rintro ⟨fn, hfn, hbody, hname⟩
     have hb : ¬ fn.body = none := by intro e; rw [e] at hbody; cases hbody
     have hname' : ¬ fn.name = "runtime.NumGoroutine" := by intro e; rw [e] at hname; simp at hname
     simp [execOp, ho, resolve, hc, hu, Deferred.ofValue, invoke, callFunc, hfn, hname', hb, hargv]
    have fresh : ∀ {res : AV} {v : Value} {w1 : World}, Below w.heap.size w w1 → RepV w1 (fun b => w.heap.size ≤ b) (fun _ => undef) 0 res v → RepV w1 (Free w0.heap.size U ι σ.mem) ι σ.nx res v := by
     intro res v w1 hb hr
     refine hr.mono (fun b hlt h => ⟨.inr (by omega), fun nm bx hf e => ?_⟩) (fun _ _ _ => rfl) (fun nm hnm => by omega) (Nat.zero_le _)
     have := ((hs.box _ _ hf).block e).2
     omega
    rcases h with ⟨pargs, hpur, res, hcs, hK⟩ | ⟨rfl, res, mem', nx', ⟨hthere, hcalls⟩, hK⟩
    ·have hthere : FnThere P g := by rcases hcs with ⟨h, _⟩ | h <;> exact h.1
     unfold Oper.wp
     rw [hexec hthere]
     show Calls P g _ w _
     rcases hcs with ⟨⟨_, hcalls⟩, hflat | hnoref⟩ | ⟨_, hcalls⟩
     ·have hc2 := hcalls w (fun _ => True) _ hs.glob (purVs_rep (V := fun _ => True) hs hall (fun _ _ => trivial) (.inr fun _ _ => trivial) hpur)
      refine hc2.mono ?_
      rintro e w1 ⟨v, rfl, hr, hb⟩
      exact hn _ σ ι _ w1 hK (hs.grow hb) (flat_repV hr hflat)
     ·have hc2 := hcalls w (Free w0.heap.size U ι σ.mem) _ hs.glob (purVs_rep (V := Free w0.heap.size U ι σ.mem) hs hall (fun _ h => h) (.inl hnoref) hpur)
      refine hc2.mono ?_
      rintro e w1 ⟨v, rfl, hr, hb⟩
      refine hn _ σ ι _ w1 hK (hs.grow hb) (hr.mono (fun b hlt h => ?_) (fun _ _ _ => rfl) (fun nm hnm => by omega) (Nat.zero_le _))
      rcases h with h | h
      ·exact h
      ·refine ⟨.inr (by omega), fun nm bx hf e => ?_⟩
       have := ((hs.box _ _ hf).block e).2
       omega
     ·have hc2 := hcalls w (fun _ => True) _ hs.glob (purVs_rep (V := fun _ => True) hs hall (fun _ _ => trivial) (.inr fun _ _ => trivial) hpur)
      refine hc2.mono ?_
      rintro e w1 ⟨v, rfl, hr, hb⟩
      exact hn _ σ ι _ w1 hK (hs.grow hb) (fresh hb hr)
    ·unfold Oper.wp
     rw [hexec hthere]
     show Calls P g _ w _
     -- what the caller knows is carried along
     let U' : Gh := ⟨U.p, ι, fun w V => U.G w V ∧ ∀ t, RepV w V ι σ.nx (look σ.fr t) (a.tmps.getD t undef), fun w w' V V' h hU hw => ⟨U.mono w w' V V' h.1 hU hw, fun t => (h.2 t).mono hU hw (fun _ _ => rfl) (Nat.le_refl _)⟩⟩
     have hs' : Sim w0 U' ⟨[], σ.mem, σ.nx, σ.nx⟩ ι { tmps := #[], defers := [] } w := ⟨fun t => .top, ⟨rfl, hs.defers.2⟩, hs.names, hs.box, hs.apart, hs.below, ⟨hs.keep, hs.val⟩, ⟨Nat.le_refl _, fun _ _ => rfl⟩⟩
     refine (hcalls w0 U' ι w _ hs' hall).mono ?_
     rintro e w1 ⟨v, ι', rfl, hsim, hr⟩
     have hle : σ.nx ≤ nx' := hsim.base.1
     refine hn _ _ ι' _ w1 hK ⟨fun t => ?_, hs.defers, hsim.names, hsim.box, hsim.apart, hsim.below, hsim.keep.1, ⟨Nat.le_trans hs.base.1 hle, fun nm hnm => ?_⟩⟩ hr
     ·exact (hsim.keep.2 t).mono (fun _ _ h => h) (fun _ _ _ => rfl) (fun nm hnm => hsim.base.2 nm hnm) hle
     ·exact (hsim.base.2 nm (Nat.lt_of_lt_of_le hnm hs.base.1)).trans (hs.base.2 nm hnm)
 ·exact h.elim
end
end Go.Abs
