import Derived.WalkKit
import Derived.WalkSpells
import Derived.Below
import Derived.Lib.Space
import Derived.MapKept
import Derived.Carry
import Derived.Laws.StructEq
import Derived.ChangeKeysEq
import Derived.DeepKeys
set_option linter.unusedVariables false
set_option linter.unusedSimpArgs false
set_option linter.defProp false
def zA5:=@not_not_intro
def zA6:=@List.getElem_mem
def zA7:=@List.getElem?_eq_getElem
def zA8:=@Option.getD_some
def zA9:=@decide_eq_false
def zB0:=@List.getElem?_cons_zero
def zB1:=@decide_eq_true
def zB2:=@Nat.le_refl
def zB3:=@Int.toNat_zero
def zB4:=@List.getElem?_cons_succ
def zB5:=@List.take_succ_eq_append_getElem
def zB6:=@List.take_of_length_le
def zB7:=@List.getElem?_eq_some_iff
def zB8:=@List.map_cons
def zB9:=@Classical.not_not
def zC0:=@List.drop_eq_getElem_cons
def zC1:=@Option.map_eq_some_iff
def zC2:=@List.mem_iff_getElem
def zC3:=@List.mem_cons_of_mem
def zC4:=@Array.getD_eq_getD_getElem?
def zC5:=@List.mem_cons_self
def zC6:=@Array.getElem?_eq_some_iff
def zC7:=@List.getElem?_map
def zC8:=@List.map_append
def zC9:=@List.map_nil
def zD0:=@Array.length_toList
def zD1:=@Int.toNat_natCast
def zD2:=@List.cons_append
def zD3:=@Option.getD_none
def zD4:=@List.nil_append
def zD5:=@Classical.byContradiction
def zD6:=@List.drop_eq_nil_of_le
def zD7:=@List.mem_cons
def zD8:=@List.getElem?_append_left
def zD9:=@List.getElem?_append_right
def zE0:=@List.mem_map
def zE1:=@Option.map_some
def zE2:=@Int.tdiv_eq_ediv_of_nonneg
def zE3:=@List.length_map
def zE4:=@List.append_assoc
def zE5:=@List.mem_append_right
def zE6:=@Nat.zero_le
def zE7:=@List.mem_append
def zE8:=@List.length_append
def zE9:=@Bool.and_eq_true
def zF0:=@List.mem_of_getElem?
def zF1:=@List.take_append_drop
def zF2:=@decide_eq_decide
def zF3:=@Option.isSome_some
def zF4:=@Nat.mul_one
def zF5:=@List.mem_append_left
def zF6:=@Nat.lt_succ_self
def zF7:=@Nat.zero_ne_one
def zF8:=@List.drop_of_length_le
def zF9:=@List.map_take
def zG0:=@Int.tmod_eq_emod_of_nonneg
def zG1:=@List.mem_singleton
def zG2:=@List.length_cons
def zG3:=@Nat.mul_le_mul_right
def zG4:=@List.eq_nil_of_length_eq_zero
def zG5:=@Int.zero_sub
def zG6:=@Int.mul_comm
def zG7:=@Array.getElem?_eq_getElem
def zG8:=@Array.mapM_eq_mapM_toList
def zG9:=@Option.map_none
def zH0:=@List.length_set
def zH1:=@Nat.lt_of_lt_of_le
def zH2:=@Array.toArray_toList
def zH3:=@Function.comp_def
def zH4:=@Prod.ext_iff
def zH5:=@List.getElem?_drop
def zH6:=@List.all_eq_true
def zH7:=@List.length_pos_iff
def zH8:=@Nat.div_le_self
def zH9:=@Int.natCast_mul
def zI0:=@List.mem_iff_getElem?
def zI1:=@Array.getElem?_append
def zI2:=@List.length_take
def zI3:=@Nat.mod_lt
def zI4:=@Int.mul_le_mul
def zI5:=@Option.bind_eq_some_iff
def zI6:=@of_decide_eq_true
def zI7:=@Bool.not_eq_true'
def zI8:=@Nat.min_eq_left
def zI9:=@List.mem_map_of_mem
def zJ0:=@Int.one_mul
def zJ1:=@Int.ediv_le_self
def zJ2:=@List.getElem_map
def zJ3:=@Nat.zero_add
def zJ4:=@Nat.succ_mul
def zJ5:=@Int.ediv_nonneg
def zJ6:=@List.getElem?_take_of_lt
def zJ7:=@Array.eq_empty_of_size_eq_zero
def zJ8:=@List.all_cons
def zJ9:=@List.toList_toArray
def zK0:=@List.drop_drop
def zK1:=@Nat.le_of_not_lt
def zK2:=@Array.getElem?_setIfInBounds
def zK3:=@Nat.le_trans
def zK4:=@List.find?_eq_none
def zK5:=@Nat.add_sub_cancel
def zK6:=@Int.toNat_one
def zK7:=@List.size_toArray
def zK8:=@List.mem_of_find?_eq_some
def zK9:=@List.drop_zero
def zL0:=@Prod.ext
def zL1:=@List.map_map
def zL2:=@List.take_append
def zL3:=@List.getElem?_range
def zL4:=@List.drop_succ_cons
def zL5:=@Array.getElem?_setIfInBounds_ne
def zL6:=@Nat.add_sub_cancel_left
def zL7:=@Int.mul_assoc
def zL8:=@Nat.div_add_mod
def zL9:=@Int.emod_nonneg
def zM0:=@Nat.not_lt_zero
def zM1:=@Option.isSome_none
def zM2:=@Int.emod_lt_of_pos
def zM3:=@List.find?_eq_some_iff_getElem
def zM4:=@Nat.add_mul
def zM5:=@Int.mul_nonneg
def zM6:=@List.take_zero
def zM7:=@List.filterMap_append
def zM8:=@List.take_length
def zM9:=@List.mem_flatMap
def zN0:=@Int.ediv_emod_unique
def zN1:=@Nat.add_assoc
def zN2:=@Int.fdiv_eq_ediv_of_nonneg
def zN3:=@Nat.le_succ
def zN4:=@Int.le_refl
def zN5:=@List.take_succ_cons
def zN6:=@List.map_congr_left
def zN7:=@List.append_nil
def zN8:=@Bool.or_eq_true
def zN9:=@List.mem_take_iff_getElem
def zO0:=@Nat.gcd_comm
def zO1:=@Int.mul_ediv_cancel_left
def zO2:=@Nat.gcd_pos_of_pos_right
def zO3:=@List.mem_range
def zO4:=@List.getElem?_replicate
def zO5:=@List.getElem?_set
def zO6:=@Int.mul_neg
def zO7:=@List.findIdx?_eq_some_iff_getElem
def zO8:=@List.getElem_inj
def zO9:=@Array.all_eq_true_iff_forall_mem
def zP0:=@Int.emod_def
def zP1:=@List.of_mem_zip
def zP2:=@Int.mul_ne_zero
def zP3:=@Int.natCast_add
def zP4:=@Bool.or_eq_false_iff
def zP5:=@Array.mem_toList_iff
def zP6:=@Int.mul_le_mul_of_nonneg_right
def zP7:=@Int.mul_le_mul_of_nonneg_left
def zP8:=@List.getD_cons_zero
def zP9:=@List.getD_cons_succ
def zQ0:=@Int.natAbs_mul
def zQ1:=@Nat.mul_le_mul
def zQ2:=@Int.ofNat_tmod
def zQ3:=@Int.mul_one
def zQ4:=@decide_eq_true_iff
def zQ5:=@Array.foldl_toList
def zQ6:=@Nat.gcd_zero_right
def zQ7:=@Int.add_assoc
def zQ8:=@Bool.not_true
def zQ9:=@List.map_set
def zR0:=@Nat.sub_self
def zR1:=@Option.bind_some
def zR2:=@Array.toList_map
def zR3:=@Int.natCast_zero
def zR4:=@Int.neg_mul
theorem zR5 {p:Prop}(h:p:=by omega):p:=h
theorem zR6 {p:Prop}(h:p:=by simp):p:=h
theorem zR8 {p:Prop}(h:p:=by simp;omega):p:=h
theorem zR9 {p:Prop}(h:p:=by decide):p:=h
theorem zS0 {p:Prop}(h:p:=by intro h;cases h):p:=h
theorem zS7 {p:Prop}(h:p:=by simpa using hi):p:=h
theorem zS8 {p:Prop}(h:p:=by simpa using hl):p:=h
theorem zS9 {p:Prop}(h:p:=by simpa using h):p:=h
theorem zT0 {p:Prop}(h:p:=by cases h):p:=h
theorem zT7 {p:Prop}(h:p:=by simpa using hk):p:=h
theorem zU4 {p:Prop}(h:p:=by simpa using hd):p:=h
theorem zV5 {p:Prop}(h:p:=by simpa using h2):p:=h
theorem zV6 {p:Prop}(h:p:=by simpa using hv):p:=h
theorem zV7 {p:Prop}(h:p:=by simpa using hp):p:=h
namespace Go.Abs
open Go.RowKit
inductive KT where
 |int (k:IntKind)
 |str
 |bool
inductive MK where
 |int (n:Int)
 |str (s:List UInt8)
 |bool (b:Bool)
 deriving DecidableEq
inductive PC where
 |val (v:Value)
 |slice (rows:List (List PC))
 |fmap (kt:KT) (n:Option Nat) (ents:List (MK×List PC))
inductive AC where
 |pure (p:PC)
 |nils
 |tsl (rows:List (List PC))
 |ptr (nm off:Nat)
 |eptr (nm sz row off:Nat)
 |cptr (cells:List PC)
 |ref (nm:Nat)
 |clo (f:FuncId) (caps:List AC)
 |mref (nm:Nat)
 |top
inductive AV where
 |c (x:AC)
 |agg (xs:List AC)
 |tup (xs:List AV)
 |top
def MK.val:KT→MK→Option Value
 | .int k,.int n=>some (.int k n)
 | .str,.str s=>some (.string ⟨⟨s⟩⟩)
 | .bool,.bool b=>some (.bool b)
 |_,_=>none
def N5:KT→Value→Option MK
 | .int k,.int k' n=>if k=k' then some (.int n)else none
 | .str,.string s=>some (.str s.data.toList)
 | .bool,.bool b=>some (.bool b)
 |_,_=>none
inductive bP where
 |var (xs:List AC)
 |arr (e sz:Nat) (rows:List (List PC))
 |arn (e sz:Nat) (rows:List (List AC))
 |map (kt:KT) (n:Option Nat) (ents:List (MK×List AC))
structure St where
 fr:List (Nat×AV)
 mem:List (Nat×bP)
 nx:Nat
 base:Nat
def B8:Value→Bool
 | .bool _| .int _ _| .float _ _| .string _| .pointer none| .map none| .nilFunc| .nilIface| .func (.yield _) _ _=>true
 |_=>false
inductive bf {α β:Type} (R:α→β→Prop):List α→List β→Prop
 |nil:bf R [] []
 |cons {a:α} {b:β} {as:List α} {bs:List β} (h:R a b) (t:bf R as bs):bf R (a::as) (b::bs)
variable {α β:Type}
theorem bf.length {R:α→β→Prop} {as:List α} {bs:List β} (h:bf R as bs):as.length=bs.length:=by
 induction h with
 |nil=>rfl
 |cons _ _ ih=>simp[ih]
theorem bf.mono {R S:α→β→Prop} {as:List α} {bs:List β} (h:bf R as bs) (hs: ∀a b,R a b→S a b):bf S as bs:=by
 induction h with
 |nil=>exact .nil
 |cons h _ ih=>exact .cons (hs _ _ h) ih
theorem bf.get {R:α→β→Prop} {as:List α} {bs:List β} (h:bf R as bs) {i:Nat} {a:α} (ha:as[i]? =some a): ∃b,bs[i]? =some b∧R a b:=by
 induction h generalizing i with
 |nil=>simp at ha
 |cons h _ ih=>
  cases i with
  |zero=>simp at ha;subst ha;exact⟨_,rfl,h⟩
  |succ i=>simp at ha;exact ih ha
theorem bf.of_get {α β:Type} {R:α→β→Prop}: ∀{as:List α} {bs:List β},as.length=bs.length→(∀(i:Nat) a b,as[i]? =some a→bs[i]? =some b→R a b)→bf R as bs
 | [], [],_,_=> .nil
 |a::as,b::bs,hl,h=> .cons (h 0 a b rfl rfl) (bf.of_get zS8 λi x y hx hy=>h (i+1) x y hx hy)
theorem bf.append {R:α→β→Prop} {as as':List α} {bs bs':List β} (h:bf R as bs) (h':bf R as' bs'):bf R (as++as') (bs++bs'):=by
 induction h with
 |nil=>exact h'
 |cons h _ ih=>exact .cons h ih
theorem bf.drop {R:α→β→Prop} {as:List α} {bs:List β} (h:bf R as bs) (n:Nat):bf R (as.drop n) (bs.drop n):=by
 induction h generalizing n with
 |nil=>simp;exact .nil
 |cons h t ih=>
  cases n with
  |zero=>exact .cons h t
  |succ n=>exact ih n
theorem bf.take {R:α→β→Prop} {as:List α} {bs:List β} (h:bf R as bs) (n:Nat):bf R (as.take n) (bs.take n):=by
 induction h generalizing n with
 |nil=>simp;exact .nil
 |cons h t ih=>
  cases n with
  |zero=>exact .nil
  |succ n=>exact .cons h (ih n)
def SM (n:Option Nat) (v:Value):List Value:=match n,v with
 |none,v=> [v]
 |some _,.agg vs=>vs.toList
 |some _,_=> []
inductive d6 (w:World) (U:Nat→Prop):PC→Value→Prop
 |val {v:Value} (h:B8 v=true):d6 w U (.val v) v
 |slice {sz:Nat} {rows:List (List PC)} {a:Option Addr} {n c:Nat} (g:Nat→Nat→Value) (hn:n=rows.length) (hc:n≤c) (hm:n≤9223372036854775807)
   (hr: ∀(i:Nat) row,rows[i]? =some row→row.length=sz)
   (hcell: ∀(i:Nat) (row:List PC) (j:Nat) p,rows[i]? =some row→row[j]? =some p→ ∃b off,a=some ⟨b,off,none⟩∧U b∧w.cell? ⟨b,off+(i*sz+j),none⟩=some (g i j))
   (hp: ∀(i:Nat) (row:List PC) (j:Nat) p,rows[i]? =some row→row[j]? =some p→d6 w U p (g i j)):d6 w U (.slice rows) (.slice a n c)
 |fmap {kt:KT} {n:Option Nat} {ents:List (MK×List PC)} {b clock:Nat} {es:Array MapEntry} (hb:U b) (hm:w.heap[b]? =some (.map es clock)) (hl:ents.length=es.size)
   (hk: ∀(i:Nat) x e,ents[i]? =some x→es.toList[i]? =some e→x.1.val kt=some e.key∧(n.isSome=true→ ∃vs,e.val= .agg vs)∧x.2.length=(SM n e.val).length)
   (hp: ∀(i:Nat) x e (j:Nat) p v,ents[i]? =some x→es.toList[i]? =some e→x.2[j]? =some p→(SM n e.val)[j]? =some v→d6 w U p v):d6 w U (.fmap kt n ents) (.map (some b))
variable {w w':World}{U U':Nat→Prop}{v:Value}
theorem d6.mono {p:PC} (h:d6 w U p v) (hU: ∀b,b<w.heap.size→U b→U' b)
  (hw: ∀b,b<w.heap.size→U b→w'.heap[b]? =w.heap[b]?):d6 w' U' p v:=by
 induction h with
 |val h=>exact .val h
 |slice g hn hc hm hr hcell hp ih=>
  refine .slice g hn hc hm hr (λi row j p h1 h2=> ?_) ih
  obtain⟨b,off,ha,hb,g7⟩:=hcell i row j p h1 h2
  have H:b<w.heap.size:=World.block_lt_of_cell? w _ g7
  exact⟨b,off,ha,hU b H hb,by rw[World.cell?_of_block (hw b H hb)];exact g7⟩
 |fmap hb hm hl hk hp ih=>
  have H:=(zC6.1 hm).1
  exact .fmap (hU _ H hb) (by rw[hw _ H hb];exact hm) hl hk ih
abbrev Pl:=Nat→Value
inductive dE (w:World) (U:Nat→Prop) (ι:Pl) (N:Nat):AC→Value→Prop
 |pure {p:PC} {v:Value} (h:d6 w U p v):dE w U ι N (.pure p) v
 |nils:dE w U ι N .nils (.slice none 0 0)
 |tsl {rows:List (List PC)} {a:Option Addr} {n:Nat} (h:d6 w U (.slice rows) (.slice a n n)):dE w U ι N (.tsl rows) (.slice a n n)
 |ptr {nm off b:Nat} (hn:nm<N) (h:ι nm= .pointer (some ⟨b,0,none⟩)):dE w U ι N (.ptr nm off) (.pointer (some ⟨b,off,none⟩))
 |eptr {nm sz row off b n c:Nat} (hn:nm<N) (h:ι nm= .slice (some ⟨b,0,none⟩) n c):dE w U ι N (.eptr nm sz row off) (.pointer (some ⟨b,row*sz+off,none⟩))
 |cptr {cells:List PC} {b off:Nat} (g:Nat→Value) (hcell: ∀(j:Nat) p,cells[j]? =some p→U b∧w.cell? ⟨b,off+j,none⟩=some (g j)∧d6 w U p (g j)):dE w U ι N (.cptr cells) (.pointer (some ⟨b,off,none⟩))
 |ref {nm:Nat} (hn:nm<N) (h: ∃a n c,ι nm= .slice a n c):dE w U ι N (.ref nm) (ι nm)
 |clo {f:FuncId} {caps:List AC} {vs:Array Value} (hl:caps.length=vs.size) (h: ∀(i:Nat) x,caps[i]? =some x→dE w U ι N x (vs.toList[i]?.getD undef)):dE w U ι N (.clo f caps) (.func (.func f) #[] vs)
 |mref {nm b:Nat} (hn:nm<N) (h:ι nm= .map (some b)):dE w U ι N (.mref nm) (.map (some b))
 |top {v:Value} (h:v.oneCell'=true):dE w U ι N .top v
inductive aT (w:World) (U:Nat→Prop) (ι:Pl) (N:Nat):AV→Value→Prop
 |c {x:AC} {v:Value} (h:dE w U ι N x v):aT w U ι N (.c x) v
 |agg {xs:List AC} {vs:Array Value} (h:bf (dE w U ι N) xs vs.toList):aT w U ι N (.agg xs) (.agg vs)
 |tup {xs:List AV} {vs:Array Value} (hl:xs.length=vs.size) (h: ∀(i:Nat) x,xs[i]? =some x→aT w U ι N x (vs.toList[i]?.getD undef)):aT w U ι N (.tup xs) (.tuple vs)
 |top {v:Value}:aT w U ι N .top v
inductive AX where
 |t (n:Nat)
 |k (v:AV)
inductive ET where
 |int (k:IntKind)
 |str
 |bool
inductive fA where
 |mv (x:AX)
 |pick (c a b:AX)
 |box (x:AX)
 |load (n:Option Nat) (p:AX)
 |store (n:Nat) (p v:AX)
 |bin (op:BinOp) (x y:AX)
 |eqb (neg:Bool) (x y:AX)
 |eqs (neg:Bool) (l:List ET) (x y:AX)
 |un (op:UnOp) (x:AX)
 |conv (k:IntKind) (x:AX)
 |fieldA (off:Nat) (p:AX)
 |field (off:Nat) (n:Option Nat) (x:AX)
 |idxA (sz:Nat) (x i:AX)
 |idxR (len sz:Nat) (x i:AX)
 |idxS (x i:AX)
 |nilc (x:AX)
 |build (zero:List AC) (parts:List (Nat×Nat×AX))
 |bslice (sz:Nat) (rows:List AX)
 |mkslice (e sz bytes:Nat) (zero:List PC) (l:AX)
 |slc (sz:Nat) (x:AX) (lo hi mx:Option AX)
 |slcS (x:AX) (lo hi:Option AX)
 |ext (x:AX) (i:Nat)
 |len (x:AX)
 |lenS (x:AX)
 |mm (mx:Bool) (x y:AX)
 |mm4 (x y z t:AX)
 |dead
 |fnil (neg:Bool) (x:AX)
 |snil (neg:Bool) (x:AX)
 |app (e sz bytes:Nat) (x y:AX)
 |mkfn (f:FuncId) (caps:List AX)
 |call (g z:Bool) (f:AX) (args:List AX)
 |bsliceF (sz:Nat) (rows:List AX)
 |mkmap (kt:KT) (n:Option Nat)
 |mget (kt:KT) (n:Option Nat) (zero:List AC) (ok:Bool) (m k:AX)
 |mput (kt:KT) (n:Option Nat) (m k v:AX)
 |ment (kt:KT) (n:Option Nat) (zero:List AC) (m k:AX)
 |eput (kt:KT) (n:Option Nat) (m s v:AX)
structure AG where
 dst:Option Nat
 guard:Option (Nat×Bool)
 op:fA
inductive aj where
 |skip
 |region (ops:List AG) (draw:Bool)
 |draw (gss:List (List (Bool×AG)))
 |seq (a b:aj)
 |cond (c:AX) (thn els:aj)
 |block (id:Nat) (body:aj)
 |loop (body:aj)
 |exit (id:Nat)
 |ret
 |rangeF (f:AX) (ps:List Nat) (asg body:aj)
def aZ:List (Nat×AV)→Nat→AV
 | [],_=> .top
 |(m,v)::r,n=>if m=n then v else aZ r n
def St.put (σ:St):Option Nat→AV→St
 |some d,v=>{σ with fr:=(d,v)::σ.fr}
 |none,_=>σ
def ar:List (Nat×bP)→Nat→Option bP
 | [],_=>none
 |(m,b)::r,n=>if m=n then some b else ar r n
def M9:List (Nat×bP)→Nat→List (Nat×bP)
 | [],_=> []
 |(m,b)::r,n=>if m=n then M9 r n else(m,b)::M9 r n
def gF:List (Nat×bP)→Nat→bP→List (Nat×bP)
 | [],_,_=> []
 |(m,b)::r,n,c=>if m=n then(m,c)::r else(m,b)::gF r n c
def AX.ev (fr:List (Nat×AV)):AX→AV
 | .t n=>aZ fr n
 | .k v=>v
def AV.cells:AV→Option (List AC)
 | .c x=>some [x]
 | .agg xs=>some xs
 |_=>none
def over {α:Type} (xs:List α) (off:Nat) (ys:List α):List α:=xs.take off++ys++xs.drop (off+ys.length)
def PT:List ET→List AC→List AC→Prop
 | [], [], []=>True
 | .int k::l,.pure (.val (.int k1 _))::xs,.pure (.val (.int k2 _))::ys=>k1=k∧k2=k∧PT l xs ys
 | .str::l,.pure (.val (.string _))::xs,.pure (.val (.string _))::ys=>PT l xs ys
 | .bool::l,.pure (.val (.bool _))::xs,.pure (.val (.bool _))::ys=>PT l xs ys
 |_,_,_=>False
def Xs:List AC→List AC→Prop
 | .pure (.val (.int _ a))::xs,.pure (.val (.int _ b))::ys=>a=b∧Xs xs ys
 | .pure (.val (.string a))::xs,.pure (.val (.string b))::ys=>a=b∧Xs xs ys
 | .pure (.val (.bool a))::xs,.pure (.val (.bool b))::ys=>a=b∧Xs xs ys
 |_,_=>True
noncomputable def uM (p:Prop):Bool:= @decide p (Classical.propDecidable p)
class vJ (α:Type) where
 out:α
def cr (p:Prop) [K:vJ Prop]:Prop:=p∧K.out
def fD {α:Type} (o:Option α) [K:vJ (α→Prop)]:Prop:= ∃x,o=some x∧K.out x
def kg (t:Bool) [A:vJ Prop] [B:vJ Prop]:Prop:=(t=true→A.out)∧(t=false→B.out)
variable {K:vJ Prop}
theorem QS {p:Prop} (h:p): @cr p K=K.out:=propext ⟨λh=>h.2,λk=>⟨h,k⟩⟩
theorem W8: @cr True K=K.out:=QS trivial
theorem WT {x:α} {K:vJ (α→Prop)}: @fD _ (some x) K=K.out x:=propext ⟨λ⟨_,e,k⟩=>by cases e;exact k,λk=>⟨x,rfl,k⟩⟩
variable {A B:vJ Prop}
theorem Uk: @kg true A B=A.out:=propext ⟨λh=>h.1 rfl,λa=>⟨λ_=>a,(λe=>by cases e)⟩⟩
theorem R3: @kg false A B=B.out:=propext ⟨λh=>h.2 rfl,λa=>⟨(λe=>by cases e),λ_=>a⟩⟩
def wU {α:Type} (o:Option α) [A:vJ (α→Prop)] [B:vJ Prop]:Prop:=(∀x,o=some x→A.out x)∧(o=none→B.out)
theorem TY {x:α} {A:vJ (α→Prop)}: @wU _ (some x) A B=A.out x:=propext ⟨λh=>h.1 x rfl,λa=>⟨λy e=>by cases e;exact a,(λe=>by cases e)⟩⟩
theorem Ug {A:vJ (α→Prop)}: @wU α none A B=B.out:=propext ⟨λh=>h.2 rfl,λb=>⟨(λx e=>by cases e),λ_=>b⟩⟩
def Q5 (rows:List (List PC)) [A:vJ Prop] [B:vJ Prop]:Prop:=((∀r∈rows,r= [])→A.out)∧B.out
variable {rows:List (List PC)}
theorem Wx {p:PC} {r:List PC}: @Q5 ((p::r)::rows) A B=B.out:=propext ⟨λh=>h.2,λh=>⟨(λe=>by cases e _ zC5),h⟩⟩
theorem ag (h1:(∀r∈rows,r= [])→A.out) (h2:B.out): @Q5 rows A B:=⟨h1,h2⟩
def dO (sz:Nat) (rows:List (List PC)):Prop:= ∀r∈rows,r.length=sz
def pcA:AC→Option PC
 | .pure p=>some p
 | .nils=>some (.slice [])
 | .tsl rows=>some (.slice rows)
 |_=>none
def Se:List AC→Option (List PC)
 | []=>some []
 |x::xs=>match pcA x,Se xs with
  |some y,some ys=>some (y::ys)
  |_,_=>none
def aa4 (mem:List (Nat×bP)):AC→Option (PC×List (Nat×bP))
 | .pure p=>some (p,mem)
 | .nils=>some (.slice [],mem)
 | .tsl rows=>some (.slice rows,mem)
 |.ref nm=>match ar mem nm with
  |some (.arr _ _ rows)=>some (.slice rows,M9 mem nm)
  |_=>none
 |_=>none
def OR (mem:List (Nat×bP)):List AC→Option (List PC×List (Nat×bP))
 | []=>some ([],mem)
 |x::xs=>match aa4 mem x with
  |some (y,mem)=>match OR mem xs with
   |some (ys,mem)=>some (y::ys,mem)
   |none=>none
  |none=>none
def co (mem:List (Nat×bP)):AC→Option PC
 | .pure p=>some p
 | .nils=>some (.slice [])
 | .tsl rows=>some (.slice rows)
 |.ref nm=>match ar mem nm with
  |some (.arr _ _ rows)=>some (.slice rows)
  |_=>none
 |_=>none
def xu (mem:List (Nat×bP)):List AC→Option (List PC)
 | []=>some []
 |x::xs=>match co mem x,xu mem xs with
  |some y,some ys=>some (y::ys)
  |_,_=>none
def pZ (mem:List (Nat×bP)):Option Nat→List AC→Option (List PC)
 |none,p::_=>match co mem p with
  |some q=>some [q]
  |none=>none
 |none, []=>none
 |some _,ps=>xu mem ps
def lB (mem:List (Nat×bP)) (n:Option Nat):List (MK×List AC)→Option (List (MK×List PC))
 | []=>some []
 |x::r=>match pZ mem n x.2,lB mem n r with
  |some ps,some es=>some ((x.1,ps)::es)
  |_,_=>none
def dh (mem:List (Nat×bP)):AC→Option PC
 |.mref nm=>match ar mem nm with
  |some (.map kt n ents)=>match lB mem n ents with
   |some es=>some (.fmap kt n es)
   |none=>none
  |_=>none
 |x=>co mem x
def bz (mem:List (Nat×bP)):List AC→Option (List PC)
 | []=>some []
 |x::xs=>match dh mem x,bz mem xs with
  |some y,some ys=>some (y::ys)
  |_,_=>none
def cQ (mem:List (Nat×bP)):AC→Option AC
 | .pure p=>some (.pure p)
 | .nils=>some (.pure (.slice []))
 | .tsl rows=>some (.pure (.slice rows))
 |.ref nm=>match ar mem nm with
  |some (.arr _ _ rows)=>some (.pure (.slice rows))
  |_=>none
 | .cptr cells=>some (.cptr cells)
 |.ptr nm off=>match ar mem nm with
  |some (.var xs)=>match bz mem xs with
   |some ps=>some (.cptr (ps.drop off))
   |none=>none
  |_=>none
 |.mref nm=>match ar mem nm with
  |some (.map kt n ents)=>match lB mem n ents with
   |some es=>some (.pure (.fmap kt n es))
   |none=>none
  |_=>none
 |_=>none
def GI (mem:List (Nat×bP)):List AC→Option (List AC)
 | []=>some []
 |x::xs=>match cQ mem x,GI mem xs with
  |some y,some ys=>some (y::ys)
  |_,_=>none
def c8 (mem:List (Nat×bP)):AC→Option AC
 |.clo f caps=>match GI mem caps with
  |some ys=>some (.clo f ys)
  |none=>none
 |x=>cQ mem x
def DG (mem:List (Nat×bP)):List AC→Option (List AC)
 | []=>some []
 |x::xs=>match c8 mem x,DG mem xs with
  |some y,some ys=>some (y::ys)
  |_,_=>none
def cK (mem:List (Nat×bP)):AV→Option AV
 |.c x=>match c8 mem x with
  |some y=>some (.c y)
  |none=>none
 |.agg xs=>match DG mem xs with
  |some ys=>some (.agg ys)
  |none=>none
 |_=>none
def bk (mem:List (Nat×bP)):List AV→Option (List AV)
 | []=>some []
 |x::xs=>match cK mem x,bk mem xs with
  |some y,some ys=>some (y::ys)
  |_,_=>none
def xp:AC→Bool
 | .pure (.val _)=>true
 |_=>false
def xm:AV→Bool
 | .c x=>xp x
 | .agg xs=>xs.all xp
 | .tup vs=>go vs
 | .top=>false
where go:List AV→Bool
 | []=>true
 | .c x::r=>xp x&&go r
 | .agg xs::r=>xs.all xp&&go r
 |_::_=>false
def nN:AC→Bool
 | .ref _| .ptr _ _| .mref _=>false
 |_=>true
def JJ:AC→Bool
 | .clo _ caps=>caps.all nN
 |x=>nN x
def sO:AV→Bool
 | .c x=>JJ x
 | .agg xs=>xs.all JJ
 |_=>true
def f5:AC→Prop
 | .pure (.slice rows)=>rows.length≤9223372036854775807
 |_=>True
def om:List AC→Prop
 | []=>True
 |x::r=>f5 x∧om r
def fB:AV→Prop
 | .c x=>f5 x
 | .agg xs=>om xs
 | .tup vs=>go vs
 | .top=>True
where go:List AV→Prop
 | []=>True
 | .c x::r=>f5 x∧go r
 | .agg xs::r=>om xs∧go r
 |_::r=>go r
def fE (v:Value):Option Nat:=match v with
 | .pointer (some a)=>some a.block
 | .slice (some a) _ _=>some a.block
 | .map (some b)=>some b
 |_=>none
structure Gh where
 p:Nat→Prop
 ι0:Pl
 G:World→(Nat→Prop)→Prop
 mono: ∀(w w':World) (V V':Nat→Prop),G w V→(∀b,b<w.heap.size→V b→V' b)→(∀b,b<w.heap.size→V b→w'.heap[b]? =w.heap[b]?)→G w' V'
def Gh.of (p:Nat→Prop):Gh:=⟨p,λ_=>undef,λ_ _=>True,λ_ _ _ _ _ _ _=>trivial⟩
def aV (B:Nat) (U:Gh) (ι:Pl) (mem:List (Nat×bP)) (b:Nat):Prop:=
 (U.p b∨B≤b)∧ ∀nm bx,ar mem nm=some bx→fE (ι nm)≠some b
def cZ (w:World) (U:Nat→Prop) (sz:Nat) (rows:List (List PC)) (cells:List Value):Prop:=
 cells.length=rows.length*sz∧(∀(i:Nat) row,rows[i]? =some row→row.length=sz)∧
 ∀(i:Nat) (row:List PC) (j:Nat) p,rows[i]? =some row→row[j]? =some p→ ∃v,cells[i*sz+j]? =some v∧d6 w U p v
def ZN (w:World) (U:Nat→Prop) (ι:Pl) (N:Nat) (sz:Nat) (rows:List (List AC)) (cells:List Value):Prop:=
 cells.length=rows.length*sz∧(∀(i:Nat) row,rows[i]? =some row→row.length=sz)∧
 ∀(i:Nat) (row:List AC) (j:Nat) p,rows[i]? =some row→row[j]? =some p→ ∃v,cells[i*sz+j]? =some v∧dE w U ι N p v
def iE (n:Option Nat) (ps:List AC):AV:=
 match n with
 |none=>match ps with
  |p::_=> .c p
  | []=> .top
 |some _=> .agg ps
def F7 (w:World) (U:Nat→Prop) (ι:Pl) (N:Nat) (kt:KT) (n:Option Nat) (x:MK×List AC) (e:MapEntry):Prop:=
 x.1.val kt=some e.key∧aT w U ι N (iE n x.2) e.val
def Brn (es:Array MapEntry) (clock:Nat):Prop:=clock=es.size∧ ∀(i:Nat) (e:MapEntry),es[i]? =some e→e.born=i
def adm (B:Nat) (w:World) (U:Nat→Prop) (ι:Pl) (N:Nat) (nm:Nat):bP→Prop
 | .var xs=> ∃b vs T,ι nm= .pointer (some ⟨b,0,none⟩)∧B≤b∧w.heap[b]? =some (.cells vs T (0,0))∧bf (dE w U ι N) xs vs.toList
 | .arr e sz rows=> ∃cells,0<sz∧w.ownsRow B e sz (ι nm) rows.length cells∧rows.length≤9223372036854775807∧cZ w U sz rows cells
 | .arn e sz rows=> ∃cells,0<sz∧w.ownsRow B e sz (ι nm) rows.length cells∧rows.length≤9223372036854775807∧ZN w U ι N sz rows cells
 | .map kt n ents=> ∃b es clock,ι nm= .map (some b)∧B≤b∧w.heap[b]? =some (.map es clock)∧bf (F7 w U ι N kt n) ents es.toList∧Brn es clock
def adY:Option Nat:=some 0
def wY (w:World):Prop:= ∀g,adY=some g→ ∀c:Nat,c<256→w.cell? ⟨g,c,none⟩=some (.int .u8 (if Lib.isSp (UInt8.ofNat c)then 1 else 0))
theorem wY.below {n:Nat} (h:wY w) (hn:w.heap.size≤n) (hb:Below n w w'):wY w':= λg hg c hc=>by
 have h1:=h g hg c hc
 have H:g<w.heap.size:=World.block_lt_of_cell? w _ h1
 rw[World.cell?_of_block (hb.block g (zH1 H hn))]
 exact h1
structure ci (w0:World) (U:Gh) (σ:St) (ι:Pl) (a:Act) (w:World):Prop where
 val: ∀t,aT w (aV w0.heap.size U ι σ.mem) ι σ.nx (aZ σ.fr t) (a.tmps.getD t undef)
 defers:a.defers= []∧wY w0
 names: ∀nm bx,ar σ.mem nm=some bx→nm<σ.nx
 box: ∀nm bx,ar σ.mem nm=some bx→adm w0.heap.size w (aV w0.heap.size U ι σ.mem) ι σ.nx nm bx
 apart: ∀nm nm' bx bx' b,ar σ.mem nm=some bx→ar σ.mem nm'=some bx'→fE (ι nm)=some b→fE (ι nm')=some b→nm=nm'
 below:Below w0.heap.size w0 w
 keep:U.G w (aV w0.heap.size U ι σ.mem)
 base:σ.base≤σ.nx∧ ∀nm,nm<σ.base→ι nm=U.ι0 nm
variable {w0:World}{σ:St}{ι:Pl}{a:Act}
theorem ci.glob {U:Gh} (h:ci w0 U σ ι a w):wY w:=h.defers.2.below (zB2 _) h.below
def oT (P : Program) (f : FuncId) : Prop := ∃ fn, P.funcs[f]? = some fn ∧ fn.body.isSome = true ∧ (fn.name == "runtime.NumGoroutine") = false
def ac (P:Program) (f:FuncId) (args:List AV) (res:AV):Prop:=
 oT P f∧
 ∀(w:World) (U:Nat→Prop) (vs:Array Value),wY w→bf (aT w U (λ_=>undef) 0) args vs.toList→
  Calls P f vs w λe w'=> ∃v,e= .returned v∧aT w' (λb=>U b∨w.heap.size≤b) (λ_=>undef) 0 res v∧Below w.heap.size w w'
def acF (P:Program) (f:FuncId) (args:List AV) (res:AV):Prop:=
 oT P f∧
 ∀(w:World) (U:Nat→Prop) (vs:Array Value),wY w→bf (aT w U (λ_=>undef) 0) args vs.toList→
  Calls P f vs w λe w'=> ∃v,e= .returned v∧aT w' (λb=>w.heap.size≤b) (λ_=>undef) 0 res v∧Below w.heap.size w w'
def bJ (P:Program) (f:FuncId) (args:List AV) (mem:List (Nat×bP)) (nx:Nat) (res:AV) (mem':List (Nat×bP)) (nx':Nat):Prop:=
 oT P f∧
 ∀(w0:World) (U:Gh) (ι:Pl) (w:World) (vs:Array Value),ci w0 U ⟨[],mem,nx,nx⟩ ι {tmps:= #[],defers:= []} w→bf (aT w (aV w0.heap.size U ι mem) ι nx) args vs.toList→
  Calls P f vs w λe w'=> ∃v ι',e= .returned v∧ci w0 U ⟨[],mem',nx',nx⟩ ι' {tmps:= #[],defers:= []} w'∧aT w' (aV w0.heap.size U ι' mem') ι' nx' res v
def BZ (nm:Nat) (rows:List (List PC)):AC→AC
 | .ref m=>if m=nm then .pure (.slice rows)else .ref m
 |x=>x
def Mh (nm:Nat) (rows:List (List PC)):AV→AV
 | .c x=> .c (BZ nm rows x)
 | .agg xs=> .agg (xs.map (BZ nm rows))
 |x=>x
def Om (nm:Nat) (rows:List (List PC)):bP→bP
 | .var xs=> .var (xs.map (BZ nm rows))
 | .map kt n ents=> .map kt n (ents.map λx=>(x.1,x.2.map (BZ nm rows)))
 | .arn e sz rs=> .arn e sz (rs.map λr=>r.map (BZ nm rows))
 |b=>b
def L5 (nm:Nat) (rows:List (List PC)):List (Nat×AV)→List (Nat×AV)
 | []=> []
 |(t,v)::r=>(t,Mh nm rows v)::L5 nm rows r
def HJ (nm:Nat) (rows:List (List PC)):List (Nat×bP)→List (Nat×bP)
 | []=> []
 |(m,b)::r=>if m=nm then HJ nm rows r else(m,Om nm rows b)::HJ nm rows r
def St.frz (σ:St) (nm:Nat) (rows:List (List PC)):St:={σ with fr:=L5 nm rows σ.fr,mem:=HJ nm rows σ.mem}
def bM:List Nat→St→List AV→St×List AV
 | [],σ,args=>(σ,args)
 |nm::l,σ,args=>match ar σ.mem nm with
  |some (.arr _ _ rows)=>bM l (σ.frz nm rows) (args.map (Mh nm rows))
  |_=>(σ,args)
def JZ (P:Program) (g z:Bool) (f:FuncId) (args:List AV) (σ:St) [K:vJ (AV→St→Prop)]:Prop:=
 ∃l σ' args',(l= []∨z=true)∧bM l σ args=(σ',args')∧(
 (∃pargs,bk σ'.mem args'=some pargs∧ ∃res,((ac P f pargs res∧(xm res=true∨args'.all sO=true))∨acF P f pargs res)∧K.out res σ')∨
 (g=true∧ ∃res mem' nx',bJ P f args' σ'.mem σ'.nx res mem' nx'∧K.out res {σ' with mem:=mem',nx:=nx'}))
def qP (op:BinOp) (k:IntKind) (a b:Int) (K:Value→Prop):Prop:=
 match op with
 | .add=>K (.int k (k.wrap (a+b)))
 | .sub=>K (.int k (k.wrap (a-b)))
 | .mul=>K (.int k (k.wrap (a*b)))
 | .quo=>cr (b≠0) (K:=⟨K (.int k (k.wrap (a.tdiv b)))⟩)
 | .rem=>cr (b≠0) (K:=⟨K (.int k (a.tmod b))⟩)
 | .and=>K (.int k (k.wrap (BitVec.ofInt k.bits a&&&BitVec.ofInt k.bits b).toNat))
 | .or=>K (.int k (k.wrap (BitVec.ofInt k.bits a|||BitVec.ofInt k.bits b).toNat))
 | .xor=>K (.int k (k.wrap (BitVec.ofInt k.bits a^^^BitVec.ofInt k.bits b).toNat))
 | .andNot=>K (.int k (k.wrap (BitVec.ofInt k.bits a&&& ~~~BitVec.ofInt k.bits b).toNat))
 | .eql=>K (.bool (a==b))
 | .neq=>K (.bool (a !=b))
 | .lss=>K (.bool (decide (a<b)))
 | .leq=>K (.bool (decide (a≤b)))
 | .gtr=>K (.bool (decide (a>b)))
 | .geq=>K (.bool (decide (a≥b)))
 |_=>False
def Ck (op:BinOp) (a b:ByteArray) (K:Value→Prop):Prop:=
 match op with
 | .add=>cr (a.size+b.size≤9223372036854775807) (K:=⟨K (.string (a++b))⟩)
 | .eql=>K (.bool (a.toList==b.toList))
 | .neq=>K (.bool (!(a.toList==b.toList)))
 | .lss=>K (.bool (Op.bytesLess a.toList b.toList))
 | .leq=>K (.bool (Op.bytesLess a.toList b.toList||a.toList==b.toList))
 | .gtr=>K (.bool (!(Op.bytesLess a.toList b.toList||a.toList==b.toList)))
 | .geq=>K (.bool (!(Op.bytesLess a.toList b.toList)))
 |_=>False
def IA (op:BinOp) (x y:Value) (K:Value→Prop):Prop:=
 match x,y with
 | .int k a,.int k' b=>cr (k=k') (K:=⟨qP op k a b K⟩)
 | .string a,.string b=>Ck op a b K
 |_,_=>False
def zn (op:BinOp) (k:IntKind) (a b:Int) (K:Value→Prop):Prop:=
 match op with
 | .shl=>K (.int k (k.wrap (a*2^(min b.toNat k.bits))))
 | .shr=>K (.int k (a.fdiv (2^(min b.toNat k.bits))))
 |_=>False
def rE (op:BinOp) (x y:Value) (K:Value→Prop):Prop:=
 match x,y with
 | .int k a,.int _ b=>cr (0≤b) (K:=⟨zn op k a b K⟩)
 |_,_=>False
def gd (mem:List (Nat×bP)):AV→Option (List (List PC))
 | .c (.pure (.slice rows))=>some rows
 | .c (.tsl rows)=>some rows
 | .c .nils=>some []
 |.c (.ref nm)=>match ar mem nm with
  |some (.arr _ _ rows)=>some rows
  |_=>none
 |_=>none
def acO (e sz bytes nm:Nat) (ys:List (List PC)) (σ:St) (K:AV→St→Prop):Prop:=
 ∃rows,ar σ.mem nm=some (.arr e sz rows)∧(rows.length+ys.length)*bytes≤140737488355328∧rows.length+ys.length≤140737488355328∧
  K (.c (.ref σ.nx)) {σ with mem:=(σ.nx,.arr e sz (rows++ys))::M9 σ.mem nm,nx:=σ.nx+1}
def Zw (e sz bytes:Nat) (rows ys:List (List PC)) (σ:St) (K:AV→St→Prop):Prop:=
 (rows.length+ys.length)*bytes≤140737488355328∧rows.length+ys.length≤140737488355328∧K (.c (.ref σ.nx)) {σ with mem:=(σ.nx,.arr e sz (rows++ys))::σ.mem,nx:=σ.nx+1}
def VJ (bytes:Nat) (rows ys:List (List PC)) (σ:St) (K:AV→St→Prop):Prop:=
 (rows.length+ys.length)*bytes≤140737488355328∧rows.length+ys.length≤140737488355328∧K (.c (.pure (.slice (rows++ys)))) σ
def Nn (e sz bytes:Nat) (x y:AV) (ys:List (List PC)) (σ:St) [K:vJ (AV→St→Prop)]:Prop:=
 dO sz ys∧(
  (∃nm,x= .c (.ref nm)∧y≠ .c (.ref nm)∧acO e sz bytes nm ys σ K.out)∨
  (x= .c .nils∧(Zw e sz bytes [] ys σ K.out∨VJ bytes [] ys σ K.out))∨
  (∃rows,x= .c (.tsl rows)∧dO sz rows∧((ys≠ []∧Zw e sz bytes rows ys σ K.out)∨VJ bytes rows ys σ K.out∨(ys= []∧K.out (.c (.tsl rows)) σ))))
def bR (mem:List (Nat×bP)):AC→Option (List AC)
 |.ptr nm off=>match ar mem nm with
  |some (.var xs)=>some (xs.drop off)
  |_=>none
 | .cptr cells=>some (cells.map .pure)
 |.eptr nm sz row off=>match ar mem nm with
  |some (.arr _ sz' rows)=>if sz=sz' then(rows[row]?).map λr=>(r.drop off).map .pure else none
  |some (.arn _ sz' rows)=>if sz=sz' then(rows[row]?).map λr=>r.drop off else none
  |_=>none
 |_=>none
def qI (es:List (MK×List PC)):List (MK×List AC):=es.map λx=>(x.1,x.2.map .pure)
def iv:List (MK×List AC)→MK→Option (List AC)
 | [],_=>none
 |(k,v)::r,k'=>if k=k' then some v else iv r k'
def DS:List (MK×List AC)→MK→List AC→List (MK×List AC)
 | [],k,v=> [(k,v)]
 |(k,u)::r,k',v=>if k=k' then(k',v)::r else(k,u)::DS r k' v
def WX:List (MK×List AC)→MK→Nat
 | [],_=>0
 |(k,_)::r,k'=>if k=k' then 0 else WX r k'+1
def Yx:List (MK×List AC)→Nat→List AC→List (MK×List AC)
 | [],_,_=> []
 |(k,_)::r,0,v=>(k,v)::r
 |x::r,i+1,v=>x::Yx r i v
def B9 (n:Option Nat) (v:AV):Option (List AC):=
 match n,v with
 |none,.c x=>some [x]
 |some k,.agg xs=>if xs.length=k then some xs else none
 |_,_=>none
def bC (P:Program) (o:fA) (σ:St) (K:AV→St→Prop):Prop:=
 match o with
 | .mv x=>K (x.ev σ.fr) σ
 |.pick c a b=>match c.ev σ.fr with
  | .c (.pure (.val (.bool t)))=>kg t (A:=⟨K (a.ev σ.fr) σ⟩) (B:=⟨K (b.ev σ.fr) σ⟩)
  |_=>False
 |.box x=>match (x.ev σ.fr).cells with
  |some xs=>K (.c (.ptr σ.nx 0)) {σ with mem:=(σ.nx,.var xs)::σ.mem,nx:=σ.nx+1}
  |none=>False
 |.load n p=>match p.ev σ.fr with
  |.c q=>match bR σ.mem q with
   |some xs=>match n with
    |none=>match xs with
     |x::_=>K (.c x) σ
     | []=>False
    |some n=>cr (n≤xs.length) (K:=⟨K (.agg (xs.take n)) σ⟩)
   |none=>False
  |_=>False
 |.store n p v=>match (v.ev σ.fr).cells,p.ev σ.fr with
  |some ys,.c (.ptr nm off)=>match ar σ.mem nm with
   |some (.var xs)=>cr (ys.length=n∧off+n≤xs.length) (K:=⟨K (.tup []) {σ with mem:=gF σ.mem nm (.var (over xs off ys))}⟩)
   |_=>False
  |some ys,.c (.eptr nm sz row off)=>match ar σ.mem nm with
   |some (.arr e sz' rows)=>cr (sz=sz'∧ys.length=n∧off+n≤sz) (K:=⟨fD (Se ys) (K:=⟨λzs=>fD rows[row]? (K:=⟨λr=>
     K (.tup []) {σ with mem:=gF σ.mem nm (.arr e sz (rows.set row (over r off zs)))}⟩)⟩)⟩)
   |some (.arn e sz' rows)=>cr (sz=sz'∧ys.length=n∧off+n≤sz) (K:=⟨fD rows[row]? (K:=⟨λr=>
     K (.tup []) {σ with mem:=gF σ.mem nm (.arn e sz (rows.set row (over r off ys)))}⟩)⟩)
   |_=>False
  |_,_=>False
 |.bin op x y=>match x.ev σ.fr,y.ev σ.fr with
  |.c (.pure (.val a)),.c (.pure (.val b))=>match op with
   | .shl| .shr=>rE op a b λv=>K (.c (.pure (.val v))) σ
   |_=>IA op a b λv=>K (.c (.pure (.val v))) σ
  |_,_=>False
 |.eqb neg x y=>match x.ev σ.fr,y.ev σ.fr with
  | .c (.pure (.val (.bool a))),.c (.pure (.val (.bool b)))=>K (.c (.pure (.val (.bool ((a==b) !=neg))))) σ
  |_,_=>False
 |.eqs neg l x y=>match x.ev σ.fr,y.ev σ.fr with
  | .agg xs,.agg ys=>cr (PT l xs ys) (K:=⟨K (.c (.pure (.val (.bool (uM (Xs xs ys) !=neg))))) σ⟩)
  |_,_=>False
 |.un op x=>match op,x.ev σ.fr with
  | .not,.c (.pure (.val (.bool b)))=>K (.c (.pure (.val (.bool (!b))))) σ
  | .neg,.c (.pure (.val (.int k n)))=>K (.c (.pure (.val (.int k (k.wrap (0-n)))))) σ
  | .xor,.c (.pure (.val (.int k n)))=>K (.c (.pure (.val (.int k (k.wrap (BitVec.ofInt k.bits (if k.signed then-1 else k.max)^^^BitVec.ofInt k.bits n).toNat))))) σ
  |_,_=>False
 |.conv k x=>match x.ev σ.fr with
  | .c (.pure (.val (.int _ n)))=>K (.c (.pure (.val (.int k (k.wrap n))))) σ
  |_=>False
 |.fieldA off p=>match p.ev σ.fr with
  | .c (.ptr nm o)=>K (.c (.ptr nm (o+off))) σ
  | .c (.cptr cells)=>K (.c (.cptr (cells.drop off))) σ
  | .c (.eptr nm sz row o)=>K (.c (.eptr nm sz row (o+off))) σ
  |_=>False
 |.field off n x=>match x.ev σ.fr with
  |.agg xs=>match n with
   |none=>match xs.drop off with
    |x::_=>K (.c x) σ
    | []=>False
   |some n=>cr (off+n≤xs.length) (K:=⟨K (.agg ((xs.drop off).take n)) σ⟩)
  |_=>False
 |.idxA sz x i=>match x.ev σ.fr,i.ev σ.fr with
  | .c (.pure (.slice rows)),.c (.pure (.val (.int _ i)))| .c (.tsl rows),.c (.pure (.val (.int _ i)))=>cr (0≤i) (K:=⟨fD rows[i.toNat]? (K:=⟨λr=>cr (r.length=sz∧0<sz) (K:=⟨K (.c (.cptr r)) σ⟩)⟩)⟩)
  |.c (.ref nm),.c (.pure (.val (.int _ i)))=>match ar σ.mem nm with
   |some (.arr _ sz' rows)=>cr (sz'=sz∧0<sz∧0≤i∧i<rows.length) (K:=⟨K (.c (.eptr nm sz i.toNat 0)) σ⟩)
   |some (.arn _ sz' rows)=>cr (sz'=sz∧0<sz∧0≤i∧i<rows.length) (K:=⟨K (.c (.eptr nm sz i.toNat 0)) σ⟩)
   |_=>False
  |_,_=>False
 |.idxR len sz x i=>match x.ev σ.fr,i.ev σ.fr with
  | .c (.ptr nm o),.c (.pure (.val (.int _ i)))=>cr (0≤i∧i<len) (K:=⟨K (.c (.ptr nm (o+i.toNat*sz))) σ⟩)
  | .c (.cptr cells),.c (.pure (.val (.int _ i)))=>cr (0≤i∧i<len) (K:=⟨K (.c (.cptr (cells.drop (i.toNat*sz)))) σ⟩)
  |_,_=>False
 |.nilc x=>match x.ev σ.fr with
  | .c (.ptr nm o)=>K (.c (.ptr nm o)) σ
  | .c (.cptr cells)=>K (.c (.cptr cells)) σ
  | .c (.eptr nm sz row o)=>K (.c (.eptr nm sz row o)) σ
  | .c (.clo f caps)=>K (.c (.clo f caps)) σ
  |_=>False
 |.idxS x i=>match x.ev σ.fr,i.ev σ.fr with
  | .c (.pure (.val (.string s))),.c (.pure (.val (.int _ i)))=>cr (0≤i) (K:=⟨fD s[i.toNat]? (K:=⟨λb=>K (.c (.pure (.val (.int .u8 b.toNat)))) σ⟩)⟩)
  |_,_=>False
 | .build zero parts=>buildW σ parts zero λxs=>K (.agg xs) σ
 | .bslice sz rows=>bsliceW σ sz rows [] λrs=>K (.c (.tsl rs)) σ
 |.mkslice e sz bytes zero l=>match l.ev σ.fr with
  | .c (.pure (.val (.int .i64 n)))=>cr (0≤n∧n≤281474976710656∧bytes*n≤281474976710656) (K:=⟨
    K (.c (.ref σ.nx)) {σ with mem:=(σ.nx,.arr e sz (List.replicate n.toNat zero))::σ.mem,nx:=σ.nx+1}⟩)
  |_=>False
 |.slc sz x lo hi mx=>match x.ev σ.fr with
  | .c (.ref _)=>False
  |v=>fD (gd σ.mem v) (K:=⟨λrows=>fD (boundOf σ lo) (K:=⟨λlo=>fD (boundOf σ hi) (K:=⟨λhi=>fD (boundOf σ mx) (K:=⟨λmx=>
   cr (dO sz rows∧0≤lo.getD 0∧lo.getD 0≤hi.getD rows.length∧hi.getD rows.length≤mx.getD rows.length∧mx.getD rows.length≤rows.length) (K:=⟨
   K (.c (if mx.isSome=true∧mx=hi then .tsl ((rows.take (hi.getD rows.length).toNat).drop (lo.getD 0).toNat)else .pure (.slice ((rows.take (hi.getD rows.length).toNat).drop (lo.getD 0).toNat)))) σ⟩)⟩)⟩)⟩)⟩)
 |.slcS x lo hi=>match x.ev σ.fr,boundOf σ lo,boundOf σ hi with
  |.c (.pure (.val (.string s))),some lo,some hi=>cr (0≤lo.getD 0∧lo.getD 0≤hi.getD s.size∧hi.getD s.size≤s.size) (K:=⟨
   K (.c (.pure (.val (.string (s.extract (lo.getD 0).toNat (hi.getD s.size).toNat))))) σ⟩)
  |_,_,_=>False
 |.ext x i=>match x.ev σ.fr with
  | .tup vs=>fD vs[i]? (K:=⟨λv=>K v σ⟩)
  |_=>False
 |.len x=>match x.ev σ.fr with
  | .c (.pure (.slice rows))| .c (.tsl rows)=>K (.c (.pure (.val (.int .i64 rows.length)))) σ
  | .c .nils=>K (.c (.pure (.val (.int .i64 0)))) σ
  |.c (.ref nm)=>match ar σ.mem nm with
   |some (.arr _ _ rows)=>K (.c (.pure (.val (.int .i64 rows.length)))) σ
   |some (.arn _ _ rows)=>K (.c (.pure (.val (.int .i64 rows.length)))) σ
   |_=>False
  |_=>False
 |.lenS x=>match x.ev σ.fr with
  | .c (.pure (.val (.string s)))=>K (.c (.pure (.val (.int .i64 s.size)))) σ
  |_=>False
 |.mm mx x y=>match x.ev σ.fr,y.ev σ.fr with
  | .c (.pure (.val (.int k a))),.c (.pure (.val (.int _ b)))=>K (.c (.pure (.val (.int k (if mx=true then max a b else min a b))))) σ
  |_,_=>False
 |.mm4 x y z t=>match x.ev σ.fr,y.ev σ.fr,z.ev σ.fr,t.ev σ.fr with
  | .c (.pure (.val (.int k a))),.c (.pure (.val (.int _ b))),.c (.pure (.val (.int _ c))),.c (.pure (.val (.int _ d)))=>K (.c (.pure (.val (.int k (max (max (max a b) c) d))))) σ
  |_,_,_,_=>False
 | .dead=>False
 |.fnil neg x=>match x.ev σ.fr with
  | .c (.clo _ _)=>K (.c (.pure (.val (.bool neg)))) σ
  | .c (.pure (.val .nilFunc))=>K (.c (.pure (.val (.bool (!neg))))) σ
  |_=>False
 |.snil neg x=>match x.ev σ.fr with
  | .c .nils=>K (.c (.pure (.val (.bool (!neg))))) σ
  | .c (.pure (.slice rows))| .c (.tsl rows)=>Q5 rows (A:=⟨K (.c (.pure (.val (.bool (!neg))))) σ⟩) (B:=⟨K (.c (.pure (.val (.bool neg)))) σ⟩)
  |.c (.ref nm)=>match ar σ.mem nm with
   |some (.arr _ _ rows)=>Q5 rows (A:=⟨K (.c (.pure (.val (.bool (!neg))))) σ⟩) (B:=⟨K (.c (.pure (.val (.bool neg)))) σ⟩)
   |_=>False
  |_=>False
 | .app e sz bytes x y=>fD (gd σ.mem (y.ev σ.fr)) (K:=⟨λys=>Nn e sz bytes (x.ev σ.fr) (y.ev σ.fr) ys σ (K:=⟨K⟩)⟩)
 | .mkfn f caps=>mkfnW σ caps [] λxs=>K (.c (.clo f xs)) σ
 |.call g z f args=>match f.ev σ.fr with
  | .c (.clo f caps)=>JZ P g z f (args.map (·.ev σ.fr)++caps.map .c) σ (K:=⟨K⟩)
  |_=>False
 | .bsliceF sz rows=>bsliceFW σ sz rows σ.mem [] λrs mem=>K (.c (.tsl rs)) {σ with mem:=mem}
 | .mkmap kt n=>K (.c (.mref σ.nx)) {σ with mem:=(σ.nx,.map kt n [])::σ.mem,nx:=σ.nx+1}
 |.mget kt n zero ok m k=>match k.ev σ.fr with
  |.c (.pure (.val kv))=>fD (N5 kt kv) (K:=⟨λmk=>match m.ev σ.fr with
   |.c (.mref nm)=>match ar σ.mem nm with
    |some (.map kt' n' ents)=>cr (kt'=kt∧n'=n) (K:=⟨wU (iv ents mk) (A:=⟨λps=>K (if ok=true then .tup [iE n ps,.c (.pure (.val (.bool true)))]else iE n ps) σ⟩)
     (B:=⟨K (if ok=true then .tup [iE n zero,.c (.pure (.val (.bool false)))]else iE n zero) σ⟩)⟩)
    |_=>False
   | .c (.pure (.fmap kt' n' es))=>cr (kt'=kt∧n'=n) (K:=⟨wU (iv (qI es) mk) (A:=⟨λps=>K (if ok=true then .tup [iE n ps,.c (.pure (.val (.bool true)))]else iE n ps) σ⟩)
     (B:=⟨K (if ok=true then .tup [iE n zero,.c (.pure (.val (.bool false)))]else iE n zero) σ⟩)⟩)
   |_=>False⟩)
  |_=>False
 |.mput kt n m k v=>match k.ev σ.fr with
  |.c (.pure (.val kv))=>fD (N5 kt kv) (K:=⟨λmk=>match m.ev σ.fr with
   |.c (.mref nm)=>fD (B9 n (v.ev σ.fr)) (K:=⟨λys=>match ar σ.mem nm with
    |some (.map kt' n' ents)=>cr (kt'=kt∧n'=n) (K:=⟨K (.tup []) {σ with mem:=gF σ.mem nm (.map kt n (DS ents mk ys))}⟩)
    |_=>False⟩)
   |_=>False⟩)
  |_=>False
 |.ment kt n zero m k=>match k.ev σ.fr with
  |.c (.pure (.val kv))=>fD (N5 kt kv) (K:=⟨λmk=>match m.ev σ.fr with
   |.c (.mref nm)=>match ar σ.mem nm with
    |some (.map kt' n' ents)=>cr (kt'=kt∧n'=n) (K:=⟨wU (iv ents mk) (A:=⟨λps=>K (.tup [iE n ps,.c (.pure (.val (.int .i64 (WX ents mk))))]) σ⟩)
     (B:=⟨K (.tup [iE n zero,.c (.pure (.val (.int .i64 ents.length)))]) {σ with mem:=gF σ.mem nm (.map kt n (ents++ [(mk,zero)]))}⟩)⟩)
    |_=>False
   |_=>False⟩)
  |_=>False
 |.eput kt n m s v=>match s.ev σ.fr with
  |.c (.pure (.val (.int _ i)))=>match m.ev σ.fr with
   |.c (.mref nm)=>fD (B9 n (v.ev σ.fr)) (K:=⟨λys=>match ar σ.mem nm with
    |some (.map kt' n' ents)=>cr (kt'=kt∧n'=n∧0≤i∧i<ents.length) (K:=⟨K (.tup []) {σ with mem:=gF σ.mem nm (.map kt n (Yx ents i.toNat ys))}⟩)
    |_=>False⟩)
   |_=>False
  |_=>False
where
 boundOf (σ:St):Option AX→Option (Option Int)
  |none=>some none
  |some x=>match x.ev σ.fr with
   | .c (.pure (.val (.int _ i)))=>some (some i)
   |_=>none
 buildW (σ:St):List (Nat×Nat×AX)→List AC→(List AC→Prop)→Prop
  | [],acc,K=>K acc
  |(off,n,x)::r,acc,K=>match (x.ev σ.fr).cells with
   |some ys=>cr (ys.length=n∧off+n≤acc.length) (K:=⟨buildW σ r (over acc off ys) K⟩)
   |none=>False
 bsliceW (σ:St) (sz:Nat):List AX→List (List PC)→(List (List PC)→Prop)→Prop
  | [],acc,K=>K acc
  |x::r,acc,K=>match (x.ev σ.fr).cells with
   |some ys=>fD (Se ys) (K:=⟨λzs=>cr (ys.length=sz) (K:=⟨bsliceW σ sz r (acc++ [zs]) K⟩)⟩)
   |none=>False
 bsliceFW (σ:St) (sz:Nat):List AX→List (Nat×bP)→List (List PC)→(List (List PC)→List (Nat×bP)→Prop)→Prop
  | [],mem,acc,K=>K acc mem
  |x::r,mem,acc,K=>match (x.ev σ.fr).cells with
   |some ys=>fD (OR mem ys) (K:=⟨λz=>cr (ys.length=sz) (K:=⟨bsliceFW σ sz r z.2 (acc++ [z.1]) K⟩)⟩)
   |none=>False
 mkfnW (σ:St):List AX→List AC→(List AC→Prop)→Prop
  | [],acc,K=>K acc
  |x::r,acc,K=>match x.ev σ.fr with
   | .c y=>mkfnW σ r (acc++ [y]) K
   |_=>False
def kA (P:Program):List AG→St→(St→Prop)→Prop
 | [],σ,K=>K σ
 |g::r,σ,K=>match g.guard with
  |none=>bC P g.op σ λv σ'=>kA P r (σ'.put g.dst v) K
  |some (t,want)=>match aZ σ.fr t with
   | .c (.pure (.val (.bool b)))=>kg (b==want) (A:=⟨bC P g.op σ λv σ'=>kA P r (σ'.put g.dst v) K⟩) (B:=⟨kA P r (σ.put g.dst (.tup [])) K⟩)
   | .tup []=>kA P r (σ.put g.dst (.tup [])) K
   |_=>False
def nU (m m':List (Nat×bP)):Prop:= ∀nm bx,ar m nm=some bx→ar m' nm=some bx
def TM (m m':List (Nat×bP)):Prop:=m'=m∨ ∃n b,m'=(n,b)::m∧ar m n=none
variable {m:List (Nat×bP)}
theorem aaJ {m':List (Nat×bP)} (h:TM m m'):nU m m':=by
 rcases h with rfl|⟨n,b,rfl,h⟩
 ·exact λ_ _ h=>h
 ·intro nm bx hf
  show(if n=nm then some b else ar m nm)=some bx
  rw[if_neg (λe=>by rw[←e,h]at hf;cases hf)]
  exact hf
def mw (P:Program):List (Bool×AG)→St→(St→Prop)→Prop
 | [],σ,K=>K σ
 |(x,g)::r,σ,K=>match g.guard with
  |none=>bC P g.op σ λv σ'=>cr (x=true→TM σ.mem σ'.mem) (K:=⟨mw P r (σ'.put g.dst v) K⟩)
  |some (t,want)=>match aZ σ.fr t with
   | .c (.pure (.val (.bool b)))=>kg (b==want) (A:=⟨bC P g.op σ λv σ'=>cr (x=true→TM σ.mem σ'.mem) (K:=⟨mw P r (σ'.put g.dst v) K⟩)⟩) (B:=⟨mw P r (σ.put g.dst (.tup [])) K⟩)
   | .tup []=>mw P r (σ.put g.dst (.tup [])) K
   |_=>False
def X0 [A:vJ Prop] [B:vJ Prop]:Prop:=A.out∧B.out
theorem af (h1:A.out) (h2:B.out): @X0 A B:=⟨h1,h2⟩
def EL (P:Program):List (List (Bool×AG))→St→(St→Prop)→Prop
 | [],_,_=>True
 | [gs],σ,K=>mw P gs σ K
 |gs::hs::r,σ,K=>X0 (A:=⟨mw P gs σ K⟩) (B:=⟨EL P (hs::r) σ K⟩)
theorem O8 {P:Program} {σ:St} {K:St→Prop}: ∀{gss:List (List (Bool×AG))},EL P gss σ K→ ∀gs∈gss,mw P gs σ K
 | [],_,gs,h=>by cases h
 | [x],hd,gs,h=>by rw[zG1]at h;rw[h];exact hd
 |x::y::r,hd,gs,h=>by
  rcases zD7.1 h with h|h
  ·rw[h];exact hd.1
  ·exact O8 hd.2 gs h
def Gi:Value→Option AC
 | .slice none 0 0=>some .nils
 |v=>if B8 v then some (.pure (.val v))else none
def cellsOf:List Value→Option (List AC)
 | []=>some []
 |v::r=>match Gi v,cellsOf r with
  |some x,some xs=>some (x::xs)
  |_,_=>none
def QP:Value→Option PC
 | .slice none 0 0=>some (.slice [])
 |v=>if B8 v then some (.val v)else none
def tA:List Value→Option (List PC)
 | []=>some []
 |v::r=>match QP v,tA r with
  |some x,some xs=>some (x::xs)
  |_,_=>none
def Es:Value→Option AV
 | .agg vs=>(cellsOf vs.toList).map .agg
 | .tuple vs=>if vs.size=0 then some (.tup [])else none
 |v=>(Gi v).map .c
def aC:Operand→Option AX
 | .tmp t=>some (.t t)
 | .const v=>(Es v).map .k
 | .func f=>some (.k (.c (.clo f [])))
 | .global _=>none
def kR:List Operand→Option (List AX)
 | []=>some []
 |x::r=>match aC x,kR r with
  |some y,some ys=>some (y::ys)
  |_,_=>none
def oe (P:Program) (t:TypeId):Option (Option Nat):=
 match P.underlying t,P.info? t with
 |some (.struct _),some i=>some (some i.size)
 |some (.array _ _),some i=>some (some i.size)
 |some _,some i=>if i.size=1 then some none else none
 |_,_=>none
def eP (P:Program) (t:TypeId):Option (TypeId×Nat×Nat):=
 match P.underlying t with
 |some (.slice e)=>(P.info? e).map λi=>(e,i.size,i.bytes)
 |_=>none
def dZ (P:Program) (t:TypeId):Option Value:=(P.info? t).bind (·.zero)
def vi (P:Program) (s:TypeId) (f:Nat):Option Field:=
 match P.underlying s with
 |some (.struct fs)=>fs[f]?
 |_=>none
def kM (P:Program) (t:TypeId):Option Nat:=(P.info? t).map (·.size)
def Z7 (P:Program) (t:TypeId):Bool:=match P.underlying t with|some .string=>true|_=>false
def Ri (P:Program) (t:TypeId):Bool:=match P.underlying t with|some .bool=>true|_=>false
def QT (P:Program) (t:TypeId):Bool:=match P.underlying t with|some (.func _ _ _)=>true|_=>false
def Re:AX→Bool
 | .k (.c (.pure (.val .nilFunc)))=>true
 |_=>false
def Vm (P:Program) (t:TypeId):Bool:=match P.underlying t with|some (.slice _)=>true|_=>false
def Qi:AX→Bool
 | .k (.c .nils)=>true
 |_=>false
def DT (places:List (Nat×Nat)):List (Nat×Operand)→Option (List (Nat×Nat×AX))
 | []=>some []
 |(i,x)::r=>match places[i]?,aC x,DT places r with
  |some (off,n),some y,some ys=>some ((off,n,y)::ys)
  |_,_,_=>none
def K6 (P:Program) (t:TypeId):Option (List (Nat×Nat)):=
 match P.underlying t with
 |some (.struct fs)=>fs.toList.mapM λf=>(P.info? f.type).map λi=>(f.offset,i.size)
 |_=>none
def xJ:Nat→List (Nat×Operand)→Option (List AX)
 |_, []=>some []
 |k,(i,x)::r=>if i=k then match aC x,xJ (k+1) r with
  |some y,some ys=>some (y::ys)
  |_,_=>none else none
def nB (P:Program) (t:TypeId):Option (KT×TypeId×Option Nat):=
 match P.underlying t with
 |some (.map k e)=>match P.underlying k,oe P e with
  |some (.int i),some n=>some (.int i,e,n)
  |some .string,some n=>some (.str,e,n)
  |some .bool,some n=>some (.bool,e,n)
  |_,_=>none
 |_=>none
def FX (n:Option Nat) (z:Value):Option (List AC):=
 match n with
 |none=>match Gi z with
  |some p=>some [p]
  |none=>none
 |some _=>match z with
  | .agg vs=>cellsOf vs.toList
  |_=>none
def JL:List PC→Bool
 | []=>false
 | .slice _::_=>true
 |_::r=>JL r
def aah (P:Program) (e:TypeId):Bool:=
 match (dZ P e).bind λz=>tA z.cells.toList with
 |some zs=>JL zs
 |none=>false
def pW:Option Operand→Option (Option AX)
 |none=>some none
 |some x=>(aC x).map some
def DB (P:Program) (t:TypeId):Bool:=match P.underlying t with|some (.struct _)=>true|_=>false
def Q4 (P:Program) (f:TypeId→Option (List ET)):List Field→Nat→Option (List ET)
 | [],_=>some []
 |fd :: r, off => if fd.name = "_" ∨ fd.offset ≠ off then none else match f fd.type with
  |some l=>if(P.info? fd.type).map (·.size)=some l.length then(Q4 P f r (off+l.length)).map (l++ ·)else none
  |none=>none
def R7 (P:Program):Nat→TypeId→Option (List ET)
 |0,_=>none
 |n+1,t=>match P.underlying t with
  |some (.int k)=>some [.int k]
  |some .string=>some [.str]
  |some .bool=>some [.bool]
  |some (.struct fs)=>if P.stoodInHeld t=true then none else Q4 P (R7 P n) fs.toList 0
  |_=>none
def V6 (P:Program) (t:TypeId):Option (List ET):=if P.eqGuardType P.depth t=true then none else R7 P 6 t
def af1 (P:Program) (t:TypeId):Bool:=match P.info? t with
 |some i=>(match i.desc with| .named _ _=>true|_=>false)
 |none=>false
def abq (P:Program):Operand→Bool
 |.func f=>match P.funcs[f]? with
  |some fn=>(Nat.beq fn.ntmps 68&&Nat.beq fn.params.size 2)||fn.params.toList.any λt=>match P.underlying t with
   |some (.pointer _)=>true
   |some (.slice _)=>fn.resultTypes.toList.contains t&& !af1 P t
   |_=>false
  |none=>false
 | .tmp _=>true
 |_=>false
def afT (f:Operand) (xs:List AX):Bool:=(match f with| .tmp _=>true|_=>false)&&xs.all λx=>match x with| .k _=>true|_=>false
def bK (P:Program) (dr:Bool):Op→Option fA
 | .move x| .assign x=>(aC x).map .mv
 |.pick c a b=>match aC c,aC a,aC b with
  |some c,some a,some b=>some (.pick c a b)
  |_,_,_=>none
 | .alloc t=>((dZ P t).bind Es).map λv=> .box (.k v)
 | .box _ x=>(aC x).map .box
 |.build t parts=>match (dZ P t).bind (λz=>cellsOf z.cells.toList),(K6 P t).bind (DT · parts.toList)with
  |some z,some ps=>some (.build z ps)
  |_,_=>none
 |.buildSlice t n parts=>match eP P t,xJ 0 parts.toList with
  |some (e,sz,_),some rs=>if rs.length=n∧n*sz≤16777216∧0<sz∧((dZ P e).map λz=>decide (z.cells.size=sz))=some true then some (if(!dr&&aah P e)=true then .bsliceF sz rs else .bslice sz rs)else none
  |_,_=>none
 |.load t p=>match oe P t,aC p with
  |some n,some p=>some (.load n p)
  |_,_=>none
 |.store t p v=>match kM P t,aC p,aC v with
  |some n,some p,some v=>some (.store n p v)
  |_,_,_=>none
 |.binOp op t x y _=>match aC x,aC y with
  |some x,some y=>match op with
   | .eql=>if Ri P t then some (.eqb false x y)else if DB P t then(V6 P t).map (.eqs false · x y)else if QT P t then(if Re y then some (.fnil false x)else none)else if Vm P t then(if Qi y then some (.snil false x)else none)else some (.bin .eql x y)
   | .neq=>if Ri P t then some (.eqb true x y)else if DB P t then(V6 P t).map (.eqs true · x y)else if QT P t then(if Re y then some (.fnil true x)else none)else if Vm P t then(if Qi y then some (.snil true x)else none)else some (.bin .neq x y)
   |op=>some (.bin op x y)
  |_,_=>none
 | .unOp op _ x=>(aC x).map (.un op)
 |.convert s d x=>match P.underlying s,P.underlying d,aC x with
  |some (.int _),some (.int k),some x=>some (.conv k x)
  |_,_,_=>none
 | .nilCheck x=>(aC x).map .nilc
 |.slice t x lo' h9 mx'=>match P.underlying t,aC x,pW lo',pW h9,pW mx' with
  |some (.slice _),some x,some lo,some hi,some mx=>match eP P t with
   |some (_,sz,_)=>if 0<sz∧(mx'.isSome=true→h9.isSome=true)then some (.slc sz x lo hi mx)else none
   |none=>none
  |some .string,some x,some lo,some hi,some none=>some (.slcS x lo hi)
  |_,_,_,_,_=>none
 |.fieldAddr s x f=>match vi P s f,aC x with
  |some fd,some x=>if(kM P fd.type).getD 0=0 then none else some (.fieldA fd.offset x)
  |_,_=>none
 |.field s x f=>match vi P s f,aC x with
  |some fd,some x=>(oe P fd.type).map λn=> .field fd.offset n x
  |_,_=>none
 |.indexAddr t x i=>match eP P t,aC x,aC i with
  |some (_,sz,_),some x,some i=>some (.idxA sz x i)
  |none,some x,some i=>match P.underlying t with
   |some (.array n e)=>(kM P e).map λsz=> .idxR n sz x i
   |_=>none
  |_,_,_=>none
 |.index t x i=>if Z7 P t then match aC x,aC i with
  |some x,some i=>some (.idxS x i)
  |_,_=>none else none
 |.makeSlice t l c=>match eP P t,aC l,aC c with
  |some (e,sz,bytes),some (.t a),some (.t b)=>if a=b∧0<sz∧((dZ P e).map λz=>decide (z.cells.size=sz))=some true then((dZ P e).bind λz=>tA z.cells.toList).map λz=> .mkslice e sz bytes z (.t a)else none
  |_,_,_=>none
 | .extract x i=>(aC x).map λx=> .ext x i
 | .makeFunc (.func f) first caps=>if first.size=0 then(kR caps.toList).map (.mkfn f)else none
 |.call {callee:= .builtin .len,args,argTypes}=>match args.toList,argTypes.toList with
  |[x], [t]=>match aC x,P.underlying t with
   |some x,some (.slice _)=>some (.len x)
   |some x,some .string=>some (.lenS x)
   |_,_=>none
  |_,_=>none
 |.call {callee:= .builtin .min,args,..}=>match args.toList with
  |[x,y]=>match aC x,aC y with
   |some x,some y=>some (.mm false x y)
   |_,_=>none
  |_=>none
 |.call {callee:= .builtin .max,args,..}=>match args.toList with
  |[x,y]=>match aC x,aC y with
   |some x,some y=>some (.mm true x y)
   |_,_=>none
  |[x,y,z,t]=>match aC x,aC y,aC z,aC t with
   |some x,some y,some z,some t=>some (.mm4 x y z t)
   |_,_,_,_=>none
  |_=>none
 | .makeInterface _ _=>some .dead
 | .panic _=>some .dead
 |.call {callee:= .builtin .append,args,argTypes}=>match args.toList,argTypes.toList with
  |[x,y], [t,u]=>if t=u then match eP P t,aC x,aC y with
   |some (e,sz,bytes),some x,some y=>if 0<sz∧((dZ P e).map λz=>decide (z.cells.size=sz))=some true then some (.app e sz bytes x y)else none
   |_,_,_=>none else none
  |_,_=>none
 |.call {callee:= .value f,args,..}=>match aC f,kR args.toList with
  |some y,some xs=>some (.call (!dr||(abq P f&& !afT f xs)) (!dr) y xs)
  |_,_=>none
 |.makeMap t none=>match nB P t with
  |some (kt,_,n)=>some (.mkmap kt n)
  |none=>none
 |.lookup t m k ok=>match nB P t,aC m,aC k with
  |some (kt,e,n),some m,some k=>((dZ P e).bind (FX n)).map λz=> .mget kt n z ok m k
  |_,_,_=>none
 |.mapUpdate t m k v| .insert t m k v=>match nB P t,aC m,aC k,aC v with
  |some (kt,_,n),some m,some k,some v=>some (.mput kt n m k v)
  |_,_,_,_=>none
 |.mapEntry t m k=>match nB P t,aC m,aC k with
  |some (kt,e,n),some m,some k=>((dZ P e).bind (FX n)).map λz=> .ment kt n z m k
  |_,_,_=>none
 |.entryStore t m s v=>match nB P t,aC m,aC s,aC v with
  |some (kt,_,n),some m,some s,some v=>some (.eput kt n m s v)
  |_,_,_,_=>none
 |_=>none
def PV (nt:Nat):Option Nat→Bool
 |some d=>decide (d<nt)
 |none=>true
def xA (P:Program) (dr:Bool) (nt:Nat) (ops:Array Oper) (o:Oper):Option AG:=
 if PV nt o.dst=false then none else match bK P dr o.op with
 |some ao=>match o.guard with
  |none=>some ⟨o.dst,none,ao⟩
  |some (j,want)=>match (ops[j]?).bind (·.dst)with
   |some t=>some ⟨o.dst,some (t,want),ao⟩
   |none=>none
 |none=>none
def gL (P:Program) (dr:Bool) (nt:Nat) (ops:Array Oper):List Oper→Option (List AG)
 | []=>some []
 |o::r=>match xA P dr nt ops o,gL P dr nt ops r with
  |some g,some gs=>some (g::gs)
  |_,_=>none
def AX.tmps:AX→List Nat
 | .t n=> [n]
 | .k _=> []
def PE:Option AX→List Nat
 |none=> []
 |some x=>x.tmps
def LW:List (Nat×Nat×AX)→List Nat
 | []=> []
 |(_,_,x)::r=>x.tmps++LW r
def jO:List AX→List Nat
 | []=> []
 |x::r=>x.tmps++jO r
def fA.tmps:fA→List Nat
 | .mv x| .box x| .load _ x| .un _ x| .conv _ x| .fieldA _ x| .field _ _ x| .nilc x| .mkslice _ _ _ _ x| .ext x _| .len x| .lenS x| .fnil _ x| .snil _ x=>x.tmps
 | .pick c a b=>c.tmps++a.tmps++b.tmps
 | .store _ x y| .bin _ x y| .eqb _ x y| .eqs _ _ x y| .idxA _ x y| .idxR _ _ x y| .idxS x y| .app _ _ _ x y| .mm _ x y=>x.tmps++y.tmps
 | .build _ ps=>LW ps
 | .bslice _ xs| .mkfn _ xs| .bsliceF _ xs=>jO xs
 | .slc _ x l h m=>x.tmps++PE l++PE h++PE m
 | .slcS x l h=>x.tmps++PE l++PE h
 | .call _ _ f xs=>f.tmps++jO xs
 | .mkmap _ _| .dead=> []
 | .mm4 x y z t=>x.tmps++y.tmps++z.tmps++t.tmps
 | .mget _ _ _ _ m k=>m.tmps++k.tmps
 | .mput _ _ m k v| .eput _ _ m k v=>m.tmps++k.tmps++v.tmps
 | .ment _ _ _ m k=>m.tmps++k.tmps
def fA.eff:fA→Bool
 | .box _| .store .. | .mkslice .. | .app .. | .bsliceF .. | .mkmap .. | .mput .. | .ment .. | .eput .. =>true
 | .call g z _ _=>g||z
 |_=>false
def fA.gcall:fA→Bool
 | .call _ z _ _=>z
 | .snil _ _=>true
 |_=>false
def fA.sens:fA→Bool
 | .load .. | .idxA .. | .len _| .slc .. | .call .. | .mget .. | .snil .. =>true
 |_=>false
def fA.lays:fA→Bool
 | .box _| .mkslice .. | .app .. | .bsliceF .. | .mkmap .. =>true
 |_=>false
def AG.looks (g:AG):List Nat:=(match g.guard with|some (t,_)=> [t]|none=> [])++g.op.tmps
def ka (g h:AG):Bool:=
 (match g.dst with|some d=>h.looks.contains d||h.dst==some d|none=>false)||
 (match h.dst with|some d=>g.looks.contains d|none=>false)||
 (g.op.eff&&(h.op.eff||h.op.sens))||(g.op.sens&&h.op.eff&& !h.op.lays)
def zV:Nat→List Oper→Bool
 |_, []=>true
 |j,o::r=>(o.after.toList.all λe=> !Region.binds .any e||decide (e.on<j))&&zV (j+1) r
def xq:List (Nat×Nat)→Nat→Nat
 | [],_=>0
 |(j,m)::r,k=>if j=k then m else xq r k
def Fw (E:List (Nat×Nat)) (j:Nat) (o:Oper):List Nat:=(o.after.toList.filterMap λe=>if Region.binds .any e=true then some e.on else none)++(E.filterMap λp=>if p.2=j then some p.1 else none)
def orX (acc:List (Nat×Nat)):List Nat→Nat
 | []=>0
 |k::r=>2^k|||xq acc k|||orX acc r
def C8 (ops:List Oper) (E:List (Nat×Nat)):List Nat→List (Nat×Nat)→List (Nat×Nat)
 | [],acc=>acc
 |j::r,acc=>C8 ops E r ((j,match ops[j]? with|some o=>orX acc (Fw E j o)|none=>0)::acc)
def Ma (M:List (Nat×Nat)) (i:Nat) (g:AG) (k:Nat) (x:Bool) (h:AG):Bool:=
 (xq M k).testBit i||(!ka g h&&(!(g.op.sens&&h.op.eff)||x))
def Kq (M:List (Nat×Nat)):List (Nat×Bool×AG)→Bool
 | []=>true
 |(i,_,g)::r=>(r.all λy=>Ma M i g y.1 y.2.1 y.2.2)&&Kq M r
def Ky:List Nat→Bool
 | []=>true
 |i::r=> !r.contains i&&Ky r
def Uw (ops:List Oper) (gs:List AG) (E:List (Nat×Nat)):Nat→List Nat→Option (List Nat)
 |0,done=>some done.reverse
 |f+1,done=>
  let rdy:Nat→Bool:= λi=> !done.contains i&&(match ops[i]? with|some o=>(Fw E i o).all λk=>done.contains k|none=>false)
  match (List.range gs.length).find? λi=>rdy i&&(match gs[i]? with|some g=> !g.op.eff|none=>false)with
  |some i=>Uw ops gs E f (i::done)
  |none=>match (List.range gs.length).find? rdy with
   |some i=>Uw ops gs E f (i::done)
   |none=>none
def afR (gs:List AG) (h:AG):Bool:=match h.op with
 | .app _ _ _ (.t s) _=>gs.any λg=>(g.dst==some s&&(match g.op with| .app .. =>true|_=>false))||(Nat.ble gs.length 6&&(match g.op,h.dst with| .call _ _ _ xs,some d=>(jO xs).contains d|_,_=>false))
 |_=>false
def QW (gs:List AG) (M:List (Nat×Nat)):List (Nat×AG)→List Nat→Option (List (Nat×Bool×AG))
 |_, []=>some []
 |prev,k::r=>match gs[k]? with
  |some h=>match QW gs M ((k,h)::prev) r with
   |some l=>some ((k,h.op.eff&&h.op.lays&& !afR gs h&&prev.any (λy=>y.2.op.sens&& !(xq M k).testBit y.1),h)::l)
   |none=>none
  |none=>none
def ad9 (M:List (Nat×Nat)):List (Nat×Bool×AG)→Option (Nat×Nat)
 | []=>none
 |(i,_,g)::r=>match r.find? λy=> !Ma M i g y.1 y.2.1 y.2.2 with
  |some y=>some (i,y.1)
  |none=>ad9 M r
def Mz (ops:List Oper) (gs:List AG):Nat→List (Nat×Nat)→Option (List (List (Nat×Bool×AG)))
 |0,_=>none
 |f+1,E=>match Uw ops gs E gs.length []with
  |none=>none
  |some ord=>match QW gs (C8 ops E ord []) [] ord with
   |none=>none
   |some leaf=>match ad9 (C8 ops E ord []) leaf with
    |none=>if(Kq (C8 ops E ord []) leaf&&Ky ord&&(List.range gs.length).all (λi=>ord.contains i)&&ord.all (λi=>decide (i<gs.length)))=true then some [leaf]else none
    |some (i,k)=>if i=k then none else match Mz ops gs f ((i,k)::E),Mz ops gs f ((k,i)::E)with
     |some a,some b=>some (a++b)
     |_,_=>none
def xz (leaf:List (Nat×Bool×AG)):List (Bool×AG):=leaf.map λy=>y.2
def aaE (P:Program) (ops:List Oper) (gs:List AG):aj:=
 if(P.follows .mixedOrders&&zV 0 ops&&gs.all (λg=> !g.op.gcall))=true then match Mz ops gs 6 []with
  |some gss=> .draw (gss.map xz)
  |none=> .region gs true
 else .region gs true
def nf (P:Program) (dr:Bool) (ops:List Oper) (gs:List AG):aj:=if dr=true then aaE P ops gs else .region gs false
def cn (P:Program) (nt:Nat):Code→Option aj
 | .skip=>some .skip
 | .region _ ops draw=>(gL P draw nt ops ops.toList).map λgs=>nf P draw ops.toList gs
 |.seq a b=>match cn P nt a,cn P nt b with
  |some a,some b=>some (.seq a b)
  |_,_=>none
 |.cond c a b=>match aC c,cn P nt a,cn P nt b with
  |some c,some a,some b=>some (.cond c a b)
  |_,_,_=>none
 | .block id a=>(cn P nt a).map (.block id)
 | .loop a=>(cn P nt a).map .loop
 | .exit id=>some (.exit id)
 | .scope a=>none
 | .ret=>some .ret
 |.rangeFunc f ps a b=>match aC f,cn P nt a,cn P nt b,ps.toList.all (λt=>decide (t<nt))with
  |some f,some a,some b,true=>some (.rangeF f ps.toList a b)
  |_,_,_,_=>none
 |_=>none
theorem d6.one {p:PC} (h:d6 w U p v):v.oneCell'=true:=by
 cases h with
 |val h=>cases v<;>simp_all [B8,Value.oneCell']
 |slice=>rfl
 |fmap=>rfl
variable {N:Nat}
theorem dE.one {x:AC} (h:dE w U ι N x v):v.oneCell'=true:=by
 cases h with
 |pure h=>exact h.one
 |nils=>rfl
 |tsl h=>rfl
 |ptr=>rfl
 |eptr=>rfl
 |cptr=>rfl
 |ref _ h=>obtain⟨a,n,c,e⟩:=h;rw[e];rfl
 |clo=>rfl
 |mref=>rfl
 |top h=>exact h
theorem aez (h:v.oneCell'=true):v.cells= #[v]:=by cases v<;>simp_all [Value.oneCell',Value.cells]
variable {ι':Pl}{N':Nat}
theorem dE.mono {x:AC} (h:dE w U ι N x v) (hU: ∀b,b<w.heap.size→U b→U' b)
  (hw: ∀b,b<w.heap.size→U b→w'.heap[b]? =w.heap[b]?) (hι: ∀nm,nm<N→ι' nm=ι nm) (hN:N≤N'):dE w' U' ι' N' x v:=by
 induction h with
 |pure h=>exact .pure (h.mono hU hw)
 |nils=>exact .nils
 |tsl h=>exact .tsl (h.mono hU hw)
 |ptr hn h=>exact .ptr zR5 (by rw[hι _ hn];exact h)
 |eptr hn h=>exact .eptr zR5 (by rw[hι _ hn];exact h)
 |cptr g hc=>
  refine .cptr g λj p hj=> ?_
  obtain⟨h1,h2,h3⟩:=hc j p hj
  have H:=World.block_lt_of_cell? w _ h2
  exact⟨hU _ H h1,by rw[World.cell?_of_block (hw _ H h1)];exact h2,h3.mono hU hw⟩
 |ref hn h=>rw[←hι _ hn];exact .ref zR5 (by rw[hι _ hn];exact h)
 |clo hl _ ih=>exact .clo hl ih
 |mref hn h=>exact .mref zR5 (by rw[hι _ hn];exact h)
 |top h=>exact .top h
theorem aT.mono {x:AV} (h:aT w U ι N x v) (hU: ∀b,b<w.heap.size→U b→U' b)
  (hw: ∀b,b<w.heap.size→U b→w'.heap[b]? =w.heap[b]?) (hι: ∀nm,nm<N→ι' nm=ι nm) (hN:N≤N'):aT w' U' ι' N' x v:=by
 induction h with
 |c h=>exact .c (h.mono hU hw hι hN)
 |agg h=>exact .agg (h.mono λ_ _ h=>h.mono hU hw hι hN)
 |tup hl _ ih=>exact .tup hl ih
 |top=>exact .top
theorem gz {fr:List (Nat×AV)} {d:Nat} {v:AV} {t:Nat}:aZ ((d,v)::fr) t=if d=t then v else aZ fr t:=rfl
theorem ci.put {U:Gh} {d:Option Nat} {v:AV} {u:Value} (h:ci w0 U σ ι a w)
  (hd: ∀t,d=some t→t<a.tmps.size) (hv:aT w (aV w0.heap.size U ι σ.mem) ι σ.nx v u):ci w0 U (σ.put d v) ι (a.put d u) w:=by
 cases d with
 |none=>exact h
 |some t=>
  refine⟨λs=> ?_,h.defers,h.names,h.box,h.apart,h.below,h.keep,h.base⟩
  show aT w (aV w0.heap.size U ι σ.mem) ι σ.nx (aZ ((t,v)::σ.fr) s) ((a.tmps.setIfInBounds t u).getD s undef)
  rw[gz]
  by_cases hs:t=s
  ·subst hs
   rw[if_pos rfl]
   have:=hd t rfl
   simp[zC4,this,hv]
  ·rw[if_neg hs]
   have:=h.val s
   simpa[zC4,zL5 hs]using this
variable {bx:bP}
theorem adm.block {B:Nat} {nm:Nat} (h:adm B w U ι N nm bx) {b:Nat} (hb:fE (ι nm)=some b):B≤b∧b<w.heap.size:=by
 cases bx with
 |var xs=>
  obtain⟨b',vs,T,h1,h2,h3,_⟩:=h
  rw[h1]at hb
  simp[fE]at hb
  subst hb
  exact⟨h2,(zC6.1 h3).1⟩
 |arr e sz rows=>
  obtain⟨cells,_,h1,_⟩:=h
  refine World.ownsRow.lt h1 b ?_
  generalize ι nm=v at*
  unfold fE at hb
  unfold Value.ownBlock
  split at hb<;>simp_all
  all_goals(rcases h1.2 with⟨h,_⟩|⟨g,cap,cur,h,_⟩<;>cases h)
 |arn e sz rows=>
  obtain⟨cells,_,h1,_⟩:=h
  refine World.ownsRow.lt h1 b ?_
  generalize ι nm=v at*
  unfold fE at hb
  unfold Value.ownBlock
  split at hb<;>simp_all
  all_goals(rcases h1.2 with⟨h,_⟩|⟨g,cap,cur,h,_⟩<;>cases h)
 |map kt n ents=>
  obtain⟨b',es,clock,h1,h2,h3,_⟩:=h
  rw[h1]at hb
  simp[fE]at hb
  subst hb
  exact⟨h2,(zC6.1 h3).1⟩
theorem ZN.mono {sz:Nat} {rows:List (List AC)} {cells:List Value} (h:ZN w U ι N sz rows cells) (hU: ∀b,b<w.heap.size→U b→U' b)
  (hw: ∀b,b<w.heap.size→U b→w'.heap[b]? =w.heap[b]?) (hι: ∀nm,nm<N→ι' nm=ι nm) (hN:N≤N'):ZN w' U' ι' N' sz rows cells:=
 ⟨h.1,h.2.1,λi row j p hi hj=>by
  obtain⟨v,hv,hp⟩:=h.2.2 i row j p hi hj
  exact⟨v,hv,hp.mono hU hw hι hN⟩⟩
theorem F7.mono {kt:KT} {n:Option Nat} {x:MK×List AC} {e:MapEntry} (h:F7 w U ι N kt n x e) (hU: ∀b,b<w.heap.size→U b→U' b)
  (hw: ∀b,b<w.heap.size→U b→w'.heap[b]? =w.heap[b]?) (hι: ∀nm,nm<N→ι' nm=ι nm) (hN:N≤N'):F7 w' U' ι' N' kt n x e:=⟨h.1,h.2.mono hU hw hι hN⟩
theorem adm.grow {B:Nat} {nm:Nat} (h:adm B w U ι N nm bx) (hg:Below w.heap.size w w')
  (hU: ∀b,b<w.heap.size→U b→U' b) (hι: ∀nm,nm<N→ι' nm=ι nm) (hN:N≤N') (hn:nm<N):adm B w' U' ι' N' nm bx:=by
 have hw: ∀b,b<w.heap.size→U b→w'.heap[b]? =w.heap[b]? := λb hb _=>hg.block b hb
 cases bx with
 |var xs=>
  obtain⟨b,vs,T,h1,h2,h3,h4⟩:=h
  exact⟨b,vs,T,by rw[hι _ hn];exact h1,h2,by rw[hg.block b (zC6.1 h3).1];exact h3,h4.mono λ_ _ h=>h.mono hU hw hι hN⟩
 |arr e sz rows=>
  obtain⟨cells,h0,h1,h2,h3,h4,h5⟩:=h
  refine⟨cells,h0, ?_,h2,h3,h4,λi row j p hi hj=> ?_⟩
  ·rw[hι _ hn]
   exact World.ownsRow.kept (row:=none) h1 ⟨hg.os,hg.tape,hg.output,hg.size,λk hk _=>hg.block k hk⟩ (by cases (ι nm).ownBlock<;>simp)
  ·obtain⟨v,hv,hp⟩:=h5 i row j p hi hj
   exact⟨v,hv,hp.mono hU hw⟩
 |arn e sz rows=>
  obtain⟨cells,h0,h1,h2,h3⟩:=h
  refine⟨cells,h0, ?_,h2,h3.mono hU hw hι hN⟩
  rw[hι _ hn]
  exact World.ownsRow.kept (row:=none) h1 ⟨hg.os,hg.tape,hg.output,hg.size,λk hk _=>hg.block k hk⟩ (by cases (ι nm).ownBlock<;>simp)
 |map kt n ents=>
  obtain⟨b,es,clock,h1,h2,h3,h4,h5⟩:=h
  exact⟨b,es,clock,by rw[hι _ hn];exact h1,h2,by rw[hg.block b (zC6.1 h3).1];exact h3,h4.mono λ_ _ h=>h.mono hU hw hι hN,h5⟩
theorem ci.grow {U:Gh} (h:ci w0 U σ ι a w) (hg:Below w.heap.size w w'):ci w0 U σ ι a w':=
 ⟨λt=>(h.val t).mono (λ_ _ h=>h) (λb hb _=>hg.block b hb) (λ_ _=>rfl) (zB2 _),h.defers,h.names,
  λnm bx hf=>(h.box nm bx hf).grow hg (λ_ _ h=>h) (λ_ _=>rfl) (zB2 _) (h.names _ _ hf),h.apart,h.below.trans (hg.mono h.below.size),
  U.mono _ _ _ _ h.keep (λ_ _ h=>h) (λb hb _=>hg.block b hb),h.base⟩
theorem im {k:Nat} {c:bP} {n:Nat}:ar ((k,c)::m) n=if k=n then some c else ar m n:=rfl
theorem ci.newBox {U:Gh} {pv:Value} (h:ci w0 U σ ι a w) (hg:Below w.heap.size w w')
  (HL: ∀b,fE pv=some b→w.heap.size≤b)
  (hb: ∀ι',(∀nm,nm<σ.nx→ι' nm=ι nm)→ι' σ.nx=pv→(∀b,b<w.heap.size→aV w0.heap.size U ι σ.mem b→aV w0.heap.size U ι' ((σ.nx,bx)::σ.mem) b)→adm w0.heap.size w' (aV w0.heap.size U ι' ((σ.nx,bx)::σ.mem)) ι' (σ.nx+1) σ.nx bx):
  ∃ι',ci w0 U {σ with mem:=(σ.nx,bx)::σ.mem,nx:=σ.nx+1} ι' a w'∧ι' σ.nx=pv∧(∀nm,nm<σ.nx→ι' nm=ι nm)∧
   (∀b,b<w.heap.size→aV w0.heap.size U ι σ.mem b→aV w0.heap.size U ι' ((σ.nx,bx)::σ.mem) b):=by
 let ι':Pl:= λn=>if n=σ.nx then pv else ι n
 have e1:ι' σ.nx=pv:=if_pos rfl
 have e2: ∀nm,nm<σ.nx→ι' nm=ι nm:= λnm hn=>if_neg zR5
 have C: ∀b,b<w.heap.size→aV w0.heap.size U ι σ.mem b→aV w0.heap.size U ι' ((σ.nx,bx)::σ.mem) b:=by
  intro b hb hf
  refine⟨hf.1,λnm bx' hn=> ?_⟩
  rw[im]at hn
  by_cases e:σ.nx=nm
  ·subst e
   rw[e1]
   intro hc
   have:=HL b hc
   omega
  ·rw[if_neg e]at hn
   rw[e2 _ (h.names _ _ hn)]
   exact hf.2 _ _ hn
 refine⟨ι',⟨λt=> ?_,h.defers,λnm bx' hn=> ?_,λnm bx' hn=> ?_, ?_,h.below.trans (hg.mono h.below.size),U.mono _ _ _ _ h.keep C (λb hb _=>hg.block b hb),⟨Nat.le_succ_of_le h.base.1,λnm hn=>(e2 nm (zH1 hn h.base.1)).trans (h.base.2 nm hn)⟩⟩,e1,e2,C⟩
 ·exact(h.val t).mono C (λb hb _=>hg.block b hb) e2 (zN3 _)
 ·rw[im]at hn
  show nm<σ.nx+1
  by_cases e:σ.nx=nm
  ·omega
  ·rw[if_neg e]at hn
   have:=h.names _ _ hn
   omega
 ·rw[im]at hn
  by_cases e:σ.nx=nm
  ·subst e
   rw[if_pos rfl]at hn
   cases hn
   exact hb ι' e2 e1 C
  ·rw[if_neg e]at hn
   exact(h.box nm bx' hn).grow hg C e2 (zN3 _) (h.names _ _ hn)
 ·intro nm nm' b1 b2 b h1 h2 h3 h4
  rw[im]at h1 h2
  by_cases e:σ.nx=nm
  ·by_cases e':σ.nx=nm'
   ·omega
   ·rw[if_neg e']at h2
    subst e
    rw[e1]at h3
    rw[e2 _ (h.names _ _ h2)]at h4
    have:=HL b h3
    have:=((h.box _ _ h2).block h4).2
    omega
  ·rw[if_neg e]at h1
   by_cases e':σ.nx=nm'
   ·subst e'
    rw[e1]at h4
    rw[e2 _ (h.names _ _ h1)]at h3
    have:=HL b h4
    have:=((h.box _ _ h1).block h3).2
    omega
   ·rw[if_neg e']at h2
    rw[e2 _ (h.names _ _ h1)]at h3
    rw[e2 _ (h.names _ _ h2)]at h4
    exact h.apart _ _ _ _ _ h1 h2 h3 h4
theorem JE {k:Nat} {c:bP}: ∀{n:Nat},ar (gF m k c) n=if k=n then(ar m n).map (λ_=>c)else ar m n:=by
 induction m with
 |nil=>intro n;simp[gF,ar]
 |cons x m ih=>
  intro n
  obtain⟨k',b⟩:=x
  simp only[gF]
  by_cases e:k'=k
  ·subst e
   rw[if_pos rfl,im,im]
   by_cases e':k'=n
   ·simp[e']
   ·simp[e']
  ·rw[if_neg e,im,im,ih]
   by_cases e':k'=n
   ·subst e'
    simp[Ne.symm e]
   ·simp[e']
theorem d6.nil {a:Option Addr} {c:Nat}:d6 w U (.slice []) (.slice a 0 c):=
 .slice (sz:=0) (λ_ _=>undef) rfl (zE6 _) zR5 zR6 zR6 zR6
section
variable {w : World} {U : Nat → Prop} {ι : Pl} {N : Nat}
variable {v:Value}
theorem vL {x:AC} (h:Gi v=some x):dE w U ι N x v:=by
 unfold Gi at h
 split at h
 ·cases h;exact .nils
 ·split at h
  ·cases h;exact .pure (.val ‹_›)
  ·cases h
theorem nu: ∀{vs:List Value} {xs:List AC},cellsOf vs=some xs→bf (dE w U ι N) xs vs
 | [],xs,h=>by cases h;exact .nil
 |v::r,xs,h=>by
  unfold cellsOf at h
  split at h
  ·cases h
   exact .cons (vL ‹_›) (nu ‹_›)
  ·cases h
theorem Si {x:PC} (h:QP v=some x):d6 w U x v:=by
 unfold QP at h
 split at h
 ·cases h;exact .nil
 ·split at h
  ·cases h;exact .val ‹_›
  ·cases h
theorem Fj: ∀{vs:List Value} {xs:List PC},tA vs=some xs→bf (d6 w U) xs vs
 | [],xs,h=>by cases h;exact .nil
 |v::r,xs,h=>by
  unfold tA at h
  split at h
  ·cases h
   exact .cons (Si ‹_›) (Fj ‹_›)
  ·cases h
theorem GE {x:AV} (h:Es v=some x):aT w U ι N x v:=by
 unfold Es at h
 split at h
 ·rename_i vs
  cases e:cellsOf vs.toList with
  |none=>simp[e]at h
  |some xs=>simp[e]at h;subst h;exact .agg (nu e)
 ·rename_i vs
  split at h
  ·cases h
   exact .tup zR8 zR6
  ·cases h
 ·cases e:Gi v with
  |none=>simp[e]at h
  |some y=>simp[e]at h;subst h;exact .c (vL e)
theorem aU {u:Value} (h:aT w U ι N (.c (.pure (.val v))) u):u=v∧B8 v=true:=by
 cases h with|c h=>cases h with|pure h=>cases h with|val h=>exact⟨rfl,h⟩
theorem rb (h:B8 v=true):aT w U ι N (.c (.pure (.val v))) v:= .c (.pure (.val h))
theorem iy (k:IntKind) (n:Int):aT w U ι N (.c (.pure (.val (.int k n)))) (.int k n):=rb rfl
theorem kc (b:Bool):aT w U ι N (.c (.pure (.val (.bool b)))) (.bool b):=rb rfl
theorem ip:aT w U ι N (.tup []) undef:= .tup rfl zR6
theorem aT.cells {v:AV} {u:Value} {xs:List AC} (h:aT w U ι N v u) (hx:v.cells=some xs):bf (dE w U ι N) xs u.cells.toList:=by
 cases h with
 |c h=>
  cases hx
  rw[aez h.one]
  exact .cons h .nil
 |agg h=>cases hx;exact h
 |tup=>cases hx
 |top=>cases hx
end
section
variable {P : Program} {o : Oper} {a : Act} {w w0 : World} {U : Gh} {ι : Pl} {σ : St} {next : Act → World → Prop} {Q : Exit → Act → World → Prop} {K : AV → St → Prop}
variable {x:Operand}
theorem aq {y:AX} (h:aC x=some y) (hs:ci w0 U σ ι a w):aT w (aV w0.heap.size U ι σ.mem) ι σ.nx (y.ev σ.fr) (a.eval x):=by
 cases x with
 |tmp t=>cases h;exact hs.val t
 |const v=>
  simp[aC]at h
  obtain⟨z,hz,rfl⟩:=h
  exact GE hz
 |global g=>cases h
 |func f=>
  cases h
  exact .c (.clo rfl zR6)
def fS (w0:World) (U:Gh) (a:Act) (o:Oper) (K:AV→St→Prop) (next:Act→World→Prop):Prop:=
 ∀v σ' ι' u w',K v σ'→ci w0 U σ' ι' a w'→aT w' (aV w0.heap.size U ι' σ'.mem) ι' σ'.nx v u→next (a.put o.dst u) w'
variable {w':World}
theorem aA {u:Value} (h:(execOp a.eval o).run P w= .ok (.value u) w') (hn:next (a.put o.dst u) w'):o.wp P a w next Q:=by
 unfold Oper.wp
 rw[h]
 exact hn
theorem mp (h:(execOp a.eval o).run P w= .ok .skip w') (hn:next (a.put o.dst undef) w'):o.wp P a w next Q:=by
 unfold Oper.wp
 rw[h]
 exact hn
theorem acd {y:AX} (ho:o.op= .move x∨o.op= .assign x) (hx:aC x=some y) (h:bC P (.mv y) σ K) (hs:ci w0 U σ ι a w) (hn:fS w0 U a o K next):o.wp P a w next Q:=by
 refine aA (u:=a.eval x) (w':=w) ?_ (hn _ σ ι _ w h hs (aq hx hs))
 rcases ho with ho|ho<;>simp[execOp,ho]
variable {y:Operand}
theorem ab0 {z:Operand} {c p q:AX} (ho:o.op= .pick x y z) (hx:aC x=some c) (hy:aC y=some p) (hz:aC z=some q) (h:bC P (.pick c p q) σ K) (hs:ci w0 U σ ι a w) (hn:fS w0 U a o K next):o.wp P a w next Q:=by
 have r1:=aq hx hs
 simp only[bC]at h
 split at h
 ·rename_i t e
  rw[e]at r1
  have e1:=(aU r1).1
  refine aA (u:=if t then a.eval y else a.eval z) (w':=w) (by simp[execOp,ho,e1,asBool]) ?_
  cases t with
  |true=>exact hn _ σ ι _ w (h.1 rfl) hs (aq hy hs)
  |false=>exact hn _ σ ι _ w (h.2 rfl) hs (aq hz hs)
 ·exact h.elim
theorem ab2 {s d:TypeId} {y:AX} {k k0:IntKind} (ho:o.op= .convert s d x) (hk0:P.underlying s=some (.int k0)) (hk:P.underlying d=some (.int k)) (hx:aC x=some y) (h:bC P (.conv k y) σ K) (hs:ci w0 U σ ι a w) (hn:fS w0 U a o K next):o.wp P a w next Q:=by
 have r1:=aq hx hs
 simp only[bC]at h
 split at h
 ·rename_i k1 n e
  rw[e]at r1
  have e1:=(aU r1).1
  refine aA (u:= .int k (k.wrap n)) (w':=w) ?_ (hn _ σ ι _ w h hs (iy _ _))
  simp[execOp,ho,e1,convert,run_underlying hk0,run_underlying hk,Conv.intToInt]
 ·exact h.elim
theorem aeU {u:UnOp} {t:TypeId} {y:AX} (ho:o.op= .unOp u t x) (hx:aC x=some y) (h:bC P (.un u y) σ K) (hs:ci w0 U σ ι a w) (hn:fS w0 U a o K next):o.wp P a w next Q:=by
 have r1:=aq hx hs
 simp only[bC]at h
 split at h
 ·rename_i b e
  rw[e]at r1
  have e1:=(aU r1).1
  exact aA (u:= .bool (!b)) (w':=w) (by simp[execOp,ho,e1,Op.unary]) (hn _ σ ι _ w h hs (kc _))
 ·rename_i k n e
  rw[e]at r1
  have e1:=(aU r1).1
  exact aA (w':=w) (by simp[execOp,ho,e1,Op.unary,Op.intArith];try rfl) (hn _ σ ι _ w h hs (iy _ _))
 ·rename_i k n e
  rw[e]at r1
  have e1:=(aU r1).1
  exact aA (w':=w) (by simp[execOp,ho,e1,Op.unary,Op.intBits];try rfl) (hn _ σ ι _ w h hs (iy _ _))
 ·exact h.elim
theorem aao {op:BinOp} {t:TypeId} {x y:Value} {K:Value→Prop} (h:IA op x y K) (H5:op≠ .shl∧op≠ .shr): ∃v,(binOp op t x y).run P w= .ok v w∧B8 v=true∧K v:=by
 unfold IA at h
 split at h
 ·obtain⟨rfl,h⟩:=h
  simp only[qP]at h
  split at h<;>first
   |exact h.elim
   |(obtain⟨h0,h⟩:=h;exact⟨_,by simp[binOp,Op.intArith,Op.intDiv,Op.intBits,Op.intCmp,h0];try rfl,rfl,h⟩)
   |exact⟨_,by simp[binOp,Op.intArith,Op.intDiv,Op.intBits,Op.intCmp];try rfl,rfl,h⟩
 ·simp only[Ck]at h
  split at h
  ·obtain⟨h0,h⟩:=h
   refine⟨_, ?_,rfl,h⟩
   simp[binOp,Op.stringOp]
   omega
  all_goals first
   |exact h.elim
   |exact⟨_,by simp[binOp,Op.stringOp];try rfl,rfl,h⟩
 ·exact h.elim
def Ui:Value→Bool
 | .nilIface| .agg _=>false
 |_=>true
theorem yb {op:BinOp} {t:TypeId} {u v:Value} (hu:Ui u=true):(eqGuard op t x y u v).run P w= .ok () w:=by
 cases u<;>simp[Ui]at hu<;>(unfold eqGuard;cases op<;>simp)
variable {t':TypeId}
theorem UE {op:BinOp} {t:TypeId} {p q:AX} (ho:o.op= .binOp op t x y t') (hx:aC x=some p) (hy:aC y=some q) (h:bC P (.bin op p q) σ K) (hs:ci w0 U σ ι a w) (hn:fS w0 U a o K next):o.wp P a w next Q:=by
 have r1:=aq hx hs
 have r2:=aq hy hs
 simp only[bC]at h
 split at h
 ·rename_i u v e e'
  rw[e]at r1
  rw[e']at r2
  obtain⟨e1,s1⟩:=aU r1
  obtain⟨e2,s2⟩:=aU r2
  split at h
  ·unfold rE at h
   split at h
   ·obtain⟨h0,h⟩:=h
    simp only[zn]at h
    refine aA (w':=w) ?_ (hn _ σ ι _ w h hs (iy _ _))
    simp[execOp,ho,e1,e2,eqGuard,binOp,Op.shift,Int.not_lt.2 h0]
   ·exact h.elim
  ·unfold rE at h
   split at h
   ·obtain⟨h0,h⟩:=h
    simp only[zn]at h
    refine aA (w':=w) ?_ (hn _ σ ι _ w h hs (iy _ _))
    simp[execOp,ho,e1,e2,eqGuard,binOp,Op.shift,Int.not_lt.2 h0]
   ·exact h.elim
  ·rename_i n1 n2
   have hg:Ui u=true:=by
    unfold IA at h
    split at h
    ·rfl
    ·rfl
    ·exact h.elim
   obtain⟨r,hr,hsc,hk⟩:=aao (P:=P) (w:=w) (t:=t) h ⟨n1,n2⟩
   refine aA (u:=r) (w':=w) ?_ (hn _ σ ι _ w hk hs (rb hsc))
   simp only[execOp,ho,e1,e2]
   rw[Sem.run_bind,Sem.run_bind,yb hg]
   simp[hr]
 ·exact h.elim
theorem FW (d:Nat) {t:TypeId} {u v:Bool} (ht:P.underlying t=some .bool):(Op.equalIn (d+1) t (.bool u) (.bool v)).run P w= .ok (u==v) w:=by
 simp[Op.equalIn,run_underlying ht]
variable {neg:Bool}
theorem Yv {op:BinOp} {t:TypeId} {p q:AX} (H5:(op= .eql∧neg=false)∨(op= .neq∧neg=true)) (ht:P.underlying t=some .bool) (ho:o.op= .binOp op t x y t') (hx:aC x=some p) (hy:aC y=some q)
  (h:bC P (.eqb neg p q) σ K) (hs:ci w0 U σ ι a w) (hn:fS w0 U a o K next):o.wp P a w next Q:=by
 have r1:=aq hx hs
 have r2:=aq hy hs
 simp only[bC]at h
 split at h
 ·rename_i u v e e'
  rw[e]at r1
  rw[e']at r2
  have e1:=(aU r1).1
  have e2:=(aU r2).1
  have hq:(Op.equal t (.bool u) (.bool v)).run P w= .ok (u==v) w:=FW 9999 ht
  refine aA (u:= .bool ((u==v) !=neg)) (w':=w) ?_ (hn _ σ ι _ w h hs (kc _))
  simp only[execOp,ho,e1,e2]
  rw[Sem.run_bind,Sem.run_bind,yb rfl]
  rcases H5 with⟨rfl,rfl⟩|⟨rfl,rfl⟩<;>simp[binOp,hq]
 ·exact h.elim
theorem V4 {op:BinOp} {t:TypeId} {p q:AX} (H5:(op= .eql∧neg=false)∨(op= .neq∧neg=true)) (ht:QT P t=true) (hq:Re q=true) (ho:o.op= .binOp op t x y t') (hx:aC x=some p) (hy:aC y=some q)
  (h:bC P (.fnil neg p) σ K) (hs:ci w0 U σ ι a w) (hn:fS w0 U a o K next):o.wp P a w next Q:=by
 have r1:=aq hx hs
 have r2:=aq hy hs
 unfold Re at hq
 split at hq
 ·have e2:=(aU r2).1
  unfold QT at ht
  split at ht
  ·rename_i hT
   simp only[bC]at h
   split at h
   ·rename_i f caps e
    rw[e]at r1
    generalize hu:a.eval x=u at r1
    cases r1 with
    |c r1=>
     cases r1 with
     | @clo _ _ vs hl hh=>
      have hr:(Op.equal t (.func (.func f) #[] vs) .nilFunc).run P w= .ok false w:=by
       show(Op.equalIn (9999+1) t (.func (.func f) #[] vs) .nilFunc).run P w= .ok false w
       unfold Op.equalIn
       simp[run_underlying hT]
      have hg:(eqGuard op t x y (.func (.func f) #[] vs) .nilFunc).run P w= .ok () w:=by unfold eqGuard;cases op<;>simp
      refine aA (u:= .bool neg) (w':=w) ?_ (hn _ σ ι _ w h hs (kc _))
      simp only[execOp,ho,hu,e2]
      rw[Sem.run_bind,Sem.run_bind,hg]
      rcases H5 with⟨rfl,rfl⟩|⟨rfl,rfl⟩<;>simp[binOp,hr]
   ·rename_i e
    rw[e]at r1
    have e1:=(aU r1).1
    have hr:(Op.equal t .nilFunc .nilFunc).run P w= .ok true w:=by
     show(Op.equalIn (9999+1) t .nilFunc .nilFunc).run P w= .ok true w
     unfold Op.equalIn
     simp[run_underlying hT]
    have hg:(eqGuard op t x y .nilFunc .nilFunc).run P w= .ok () w:=by unfold eqGuard;cases op<;>simp
    refine aA (u:= .bool (!neg)) (w':=w) ?_ (hn _ σ ι _ w h hs (kc _))
    simp only[execOp,ho,e1,e2]
    rw[Sem.run_bind,Sem.run_bind,hg]
    rcases H5 with⟨rfl,rfl⟩|⟨rfl,rfl⟩<;>simp[binOp,hr]
   ·exact h.elim
  ·cases ht
 ·cases hq
end
open Go.RowKit
theorem ju (b off k:Nat):(⟨b,off,none⟩:Addr).add k=⟨b,off+k,none⟩:=by
 unfold Addr.add
 split<;>simp_all
section
variable {P : Program} {o : Oper} {a : Act} {w w0 : World} {U : Gh} {ι : Pl} {σ : St} {next : Act → World → Prop} {Q : Exit → Act → World → Prop} {K : AV → St → Prop}
variable {ad:Addr}
theorem Pd {t:TypeId} (h:oe P t=some none) {v:Value} (hc:w.cell? ad=some v):(loadVar t ad).run P w= .ok v w:=by
 unfold oe at h
 split at h
 ·cases h
 ·cases h
 ·rename_i d i n1 n2 hd hi
  have HA:(isAgg t).run P w= .ok false w:=by
   unfold isAgg
   cases d<;>first|(simp[run_underlying hd];done)|exact absurd rfl (n1 _)|exact absurd rfl (n2 _ _)
  simp[loadVar,HA,hc]
 ·cases h
theorem Pt {t:TypeId} {n:Nat} (h:oe P t=some (some n)) {vs:List Value} (hn:vs.length=n) (hc: ∀(j:Nat) v,vs[j]? =some v→w.cell? (ad.add j)=some v):(loadVar t ad).run P w= .ok (.agg vs.toArray) w:=by
 have hl:=run_loadCells_list (P:=P) w ad vs hc
 unfold oe at h
 split at h
 ·rename_i fs i hd hi
  simp at h
  have HA:(isAgg t).run P w= .ok true w:=by simp[isAgg,run_underlying hd]
  simp[loadVar,HA,sizeOf,typeInfo,hi,h,←hn,hl]
 ·rename_i fs i hd hi
  simp at h
  have HA:(isAgg t).run P w= .ok true w:=by simp[isAgg,run_underlying hd]
  simp[loadVar,HA,sizeOf,typeInfo,hi,h,←hn,hl]
 ·split at h<;>cases h
 ·cases h
theorem Ln {q:AC} {u:Value} {xs:List AC} (hs:ci w0 U σ ι a w) (h:dE w (aV w0.heap.size U ι σ.mem) ι σ.nx q u) (hx:bR σ.mem q=some xs):
  ∃b off,u= .pointer (some ⟨b,off,none⟩)∧ ∀(j:Nat) x,xs[j]? =some x→ ∃v,w.cell? ⟨b,off+j,none⟩=some v∧dE w (aV w0.heap.size U ι σ.mem) ι σ.nx x v:=by
 cases h with
 |ptr hn h=>
  rename_i nm off b
  unfold bR at hx
  split at hx
  ·rename_i nm' off' e
   cases e
   split at hx
   ·rename_i ys hf
    cases hx
    obtain⟨b',vs,T,h1,h2,h3,h4⟩:=hs.box _ _ hf
    rw[h]at h1
    simp at h1
    subst h1
    refine⟨b,off,rfl,λj x hj=> ?_⟩
    rw[zH5]at hj
    obtain⟨v,hv,hr⟩:=h4.get hj
    exact⟨v,by rw[cell_of_row w b _ vs T (0,0) h3];simpa using hv,hr⟩
   ·cases hx
  all_goals simp at*
 |cptr g hc=>
  rename_i cells b off
  simp[bR]at hx
  subst hx
  refine⟨b,off,rfl,λj x hj=> ?_⟩
  rw[zC7]at hj
  cases e:cells[j]? with
  |none=>simp[e]at hj
  |some p=>
   simp[e]at hj
   subst hj
   obtain⟨_,h2,h3⟩:=hc j p e
   exact⟨_,h2,.pure h3⟩
 |eptr hn h=>
  rename_i nm sz row off b n c
  simp only[bR]at hx
  split at hx
  ·rename_i e sz' rows hf
   split at hx
   ·rename_i J
    subst J
    cases hr:rows[row]? with
    |none=>simp[hr]at hx
    |some r=>
     simp[hr]at hx
     subst hx
     obtain⟨cells,h0,h1,h2,h3,h4,h5⟩:=hs.box _ _ hf
     refine⟨b,row*sz+off,rfl,λj x hj=> ?_⟩
     rw[zH5,zC7]at hj
     cases e:r[off+j]? with
     |none=>simp[e]at hj
     |some p=>
      simp[e]at hj
      subst hj
      obtain⟨v,hv,hp⟩:=h5 row r (off+j) p hr e
      rw[h]at h1
      have:=World.ownsRow.cells h1 (g:=b) rfl (row*sz+(off+j)) v hv
      rw[ju]at this
      exact⟨v,by rw[←this];congr 2;omega,.pure hp⟩
   ·cases hx
  ·rename_i e sz' rows hf
   split at hx
   ·rename_i J
    subst J
    cases hr:rows[row]? with
    |none=>simp[hr]at hx
    |some r=>
     simp[hr]at hx
     subst hx
     obtain⟨cells,h0,h1,h2,h3,h4,h5⟩:=hs.box _ _ hf
     refine⟨b,row*sz+off,rfl,λj x hj=> ?_⟩
     rw[zH5]at hj
     obtain⟨v,hv,hp⟩:=h5 row r (off+j) x hr hj
     rw[h]at h1
     have:=World.ownsRow.cells h1 (g:=b) rfl (row*sz+(off+j)) v hv
     rw[ju]at this
     exact⟨v,by rw[←this];congr 2;omega,hp⟩
   ·cases hx
  ·cases hx
 |pure=>simp[bR]at hx
 |nils=>simp[bR]at hx
 |tsl=>simp[bR]at hx
 |ref=>simp[bR]at hx
 |mref=>simp[bR]at hx
 |clo=>simp[bR]at hx
 |top=>simp[bR]at hx
variable {x:Operand}
theorem aaW {t:TypeId} {y:AX} {n:Option Nat} (ho:o.op= .load t x) (ht:oe P t=some n) (hx:aC x=some y) (h:bC P (.load n y) σ K) (hs:ci w0 U σ ι a w) (hn:fS w0 U a o K next):o.wp P a w next Q:=by
 have r1:=aq hx hs
 simp only[bC]at h
 split at h
 ·rename_i q e
  rw[e]at r1
  cases r1 with
  |c r1=>
   split at h
   ·rename_i xs H7
    obtain⟨b,off,e1,hc⟩:=Ln hs r1 H7
    cases n with
    |none=>
     simp only at h
     split at h
     ·rename_i z zs
      obtain⟨v,hv,hr⟩:=hc 0 z rfl
      refine aA (u:=v) (w':=w) ?_ (hn _ σ ι _ w h hs (.c hr))
      have:=Pd (P:=P) ht hv
      simp only[Nat.add_zero]at this
      simp[execOp,ho,e1,Instr.loadAt,Instr.sureAddr,this]
     ·exact h.elim
    |some n=>
     obtain⟨hM,h⟩:=h
     have hg: ∃ys:List Value,ys.length=n∧ ∀(j:Nat) x v,(xs.take n)[j]? =some x→ys[j]? =some v→w.cell? ⟨b,off+j,none⟩=some v∧dE w (aV w0.heap.size U ι σ.mem) ι σ.nx x v:=by
      refine⟨(List.range n).map λj=>(w.cell? ⟨b,off+j,none⟩).getD undef,by simp,λj x v hj hv=> ?_⟩
      have z3:j<n:=by have:=(zB7.1 hj).1;simp at this;omega
      rw[zJ6 z3]at hj
      obtain⟨u,hu,hr⟩:=hc j x hj
      simp[zC7,zL3 z3,hu]at hv
      subst hv
      exact⟨hu,hr⟩
     obtain⟨ys,hl,hy⟩:=hg
     have H:(xs.take n).length=n:=by simp;omega
     refine aA (u:= .agg ys.toArray) (w':=w) ?_ (hn _ σ ι _ w h hs (.agg (bf.of_get (by rw[H];simp[hl]) λj x v hj hv=>(hy j x v hj zV6).2)))
     have:=Pt (P:=P) (w:=w) (ad:=⟨b,off,none⟩) ht (vs:=ys) hl λj v hv=>by
      have z3:j<(xs.take n).length:=by rw[H,←hl];exact(zB7.1 hv).1
      rw[ju]
      exact(hy j _ v (zA7 z3) hv).1
     simp[execOp,ho,e1,Instr.loadAt,Instr.sureAddr,this]
   ·exact h.elim
 ·exact h.elim
theorem abN {y:AX} (ho:o.op= .nilCheck x) (hx:aC x=some y) (h:bC P (.nilc y) σ K) (hs:ci w0 U σ ι a w) (hn:fS w0 U a o K next):o.wp P a w next Q:=by
 have r1:=aq hx hs
 generalize hu:a.eval x=u at r1
 simp only[bC]at h
 split at h
 ·rename_i e
  rw[e]at r1
  cases r1 with
  |c r1=>
   have r2:=r1
   cases r1
   exact aA (w':=w) (by simp[execOp,ho,hu]) (hn _ σ ι _ w h hs (.c r2))
 ·rename_i e
  rw[e]at r1
  cases r1 with
  |c r1=>
   have r2:=r1
   cases r1
   exact aA (w':=w) (by simp[execOp,ho,hu]) (hn _ σ ι _ w h hs (.c r2))
 ·rename_i e
  rw[e]at r1
  cases r1 with
  |c r1=>
   have r2:=r1
   cases r1
   exact aA (w':=w) (by simp[execOp,ho,hu]) (hn _ σ ι _ w h hs (.c r2))
 ·rename_i e
  rw[e]at r1
  cases r1 with
  |c r1=>
   have r2:=r1
   cases r1
   exact aA (w':=w) (by simp[execOp,ho,hu]) (hn _ σ ι _ w h hs (.c r2))
 ·exact h.elim
end
open Go.RowKit
section
variable {P : Program} {o : Oper} {a : Act} {w w0 : World} {U : Gh} {ι : Pl} {σ : St} {next : Act → World → Prop} {Q : Exit → Act → World → Prop} {K : AV → St → Prop}
variable {u:Value}{T:TypeId}{xs:List AC}
theorem Sv {x:AV} (hx:x.cells=some xs) (hr:aT w (aV w0.heap.size U ι σ.mem) ι σ.nx x u) (h:K (.c (.ptr σ.nx 0)) {σ with mem:=(σ.nx,.var xs)::σ.mem,nx:=σ.nx+1})
  (hs:ci w0 U σ ι a w) (D:(execOp a.eval o).run P w= .ok (.value (.pointer (some ⟨w.heap.size,0,none⟩))) (w.alloc (.cells u.cells T))) (hn:fS w0 U a o K next):o.wp P a w next Q:=by
 have hg:Below w.heap.size w (w.alloc (.cells u.cells T)):=(Below.refl _ _).alloc (zB2 _) _
 obtain⟨ι',h1,h2,h3,h4⟩:=hs.newBox (pv:= .pointer (some ⟨w.heap.size,0,none⟩)) (bx:= .var xs) hg (λb hb=>by simp[fE]at hb;omega) (λι' e1 e2 C=>by
  refine⟨w.heap.size,u.cells,T,e2,hs.below.size,heap_alloc_new _ _, ?_⟩
  exact(hr.cells hx).mono λ_ _ hr=>hr.mono C (λb hb _=>hg.block b hb) e1 (zN3 _))
 exact aA D (hn _ _ ι' _ _ h h1 (.c (.ptr (zF6 _) h2)))
theorem acR {x:Operand} {y:AX} (ho:o.op= .box T x) (hx:aC x=some y) (h:bC P (.box y) σ K) (hs:ci w0 U σ ι a w) (hn:fS w0 U a o K next):o.wp P a w next Q:=by
 have r1:=aq hx hs
 simp only[bC]at h
 split at h
 ·rename_i xs e
  exact Sv e r1 h hs (by simp[execOp,ho,Instr.box,newVar,newRow];rfl) hn
 ·exact h.elim
theorem Za {z:Value} {y:AV} (ho:o.op= .alloc T) (hz:dZ P T=some z) (hx:Es z=some y) (h:bC P (.box (.k y)) σ K) (hs:ci w0 U σ ι a w) (hn:fS w0 U a o K next):o.wp P a w next Q:=by
 simp only[bC]at h
 split at h
 ·rename_i xs e
  unfold dZ at hz
  cases hi:P.info? T with
  |none=>simp[hi]at hz
  |some i=>
   simp[hi]at hz
   refine Sv e (GE hx) h hs (T:=T) ?_ hn
   simp[execOp,ho,Instr.alloc,zeroValue,typeInfo,hi,hz,newVar,newRow]
   try rfl
 ·exact h.elim
variable {nm b:Nat}
theorem abQ {B:Nat} {mem:List (Nat×bP)} {bx:bP}:aV B U ι (gF mem nm bx) b↔aV B U ι mem b:=by
 constructor
 ·intro h
  refine⟨h.1,λn bx' hf=> ?_⟩
  by_cases e:nm=n
  ·exact h.2 n bx (by rw[JE,if_pos e,hf];rfl)
  ·exact h.2 n bx' (by rw[JE,if_neg e];exact hf)
 ·intro h
  refine⟨h.1,λn bx' hf=> ?_⟩
  rw[JE]at hf
  by_cases e:nm=n
  ·rw[if_pos e]at hf
   cases hm:ar mem n with
   |none=>simp[hm]at hf
   |some c=>exact h.2 n c hm
  ·rw[if_neg e]at hf
   exact h.2 n bx' hf
theorem ci.setBox (hs:ci w0 U σ ι a w) {bx0 bx:bP} {cs:Array Value} (hf:ar σ.mem nm=some bx0) (hb:fE (ι nm)=some b)
  (HM:adm w0.heap.size (w.setRow b cs) (aV w0.heap.size U ι σ.mem) ι σ.nx nm bx):ci w0 U {σ with mem:=gF σ.mem nm bx} ι a (w.setRow b cs):=by
 have hB:=((hs.box _ _ hf).block hb).1
 have C: ∀c,aV w0.heap.size U ι σ.mem c→aV w0.heap.size U ι (gF σ.mem nm bx) c:= λc h=>abQ.2 h
 have Z: ∀c,aV w0.heap.size U ι σ.mem c→c≠b:= λc h e=>h.2 _ _ hf (by rw[hb,e])
 have hw: ∀c,c<w.heap.size→aV w0.heap.size U ι σ.mem c→(w.setRow b cs).heap[c]? =w.heap[c]? := λc _ h=>setRow_other _ _ _ _ (Z c h)
 refine⟨λt=>(hs.val t).mono (λc _ h=>C c h) hw (λ_ _=>rfl) (zB2 _),hs.defers,λn bx' hn=> ?_,λn bx' hn=> ?_,λn n' b1 b2 c h1 h2 h3 h4=> ?_,hs.below.trans ⟨rfl,rfl,rfl,by simp,λk hk=>setRow_other _ _ _ _ zR5⟩,
  U.mono _ _ _ _ hs.keep (λc _ h=>C c h) hw,hs.base⟩
 ·rw[JE]at hn
  by_cases e:nm=n
  ·subst e;exact hs.names _ _ hf
  ·rw[if_neg e]at hn;exact hs.names _ _ hn
 ·rw[JE]at hn
  by_cases e:nm=n
  ·subst e
   rw[if_pos rfl,hf]at hn
   cases hn
   cases bx with
   |var xs=>
    obtain⟨b',vs,T,h1,h2,h3,h4⟩:=HM
    exact⟨b',vs,T,h1,h2,h3,h4.mono λ_ _ h=>h.mono (λc _ h=>C c h) (λ_ _ _=>rfl) (λ_ _=>rfl) (zB2 _)⟩
   |arr e sz rows=>
    obtain⟨cells,h0,h1,h2,h3,h4,h5⟩:=HM
    refine⟨cells,h0,h1,h2,h3,h4,λi row j p hi hj=> ?_⟩
    obtain⟨v,hv,hp⟩:=h5 i row j p hi hj
    exact⟨v,hv,hp.mono (λc _ h=>C c h) (λ_ _ _=>rfl)⟩
   |arn e sz rows=>
    obtain⟨cells,h0,h1,h2,h3⟩:=HM
    exact⟨cells,h0,h1,h2,h3.mono (λc _ h=>C c h) (λ_ _ _=>rfl) (λ_ _=>rfl) (zB2 _)⟩
   |map kt m ents=>
    obtain⟨b',es,clock,h1,h2,h3,h4,h5⟩:=HM
    exact⟨b',es,clock,h1,h2,h3,h4.mono λ_ _ h=>h.mono (λc _ h=>C c h) (λ_ _ _=>rfl) (λ_ _=>rfl) (zB2 _),h5⟩
  ·rw[if_neg e]at hn
   have hS: ∀c,fE (ι n)=some c→c≠b:= λc hc e'=>e (hs.apart _ _ _ _ b hf hn hb (by rw[hc,e']))
   have hW:=hs.box _ _ hn
   cases bx' with
   |var xs=>
    obtain⟨b',vs,T,h1,h2,h3,h4⟩:=hW
    exact⟨b',vs,T,h1,h2,by rw[setRow_other _ _ _ _ (hS b' (by rw[h1];rfl))];exact h3,h4.mono λ_ _ h=>h.mono (λc _ h=>C c h) hw (λ_ _=>rfl) (zB2 _)⟩
   |arr e sz rows=>
    obtain⟨cells,h0,h1,h2,h3,h4,h5⟩:=hW
    refine⟨cells,h0,World.ownsRow.kept (row:=some b) h1 ⟨rfl,rfl,rfl,by simp,λk _ hk=>setRow_other _ _ _ _ (λe=>hk (by rw[e]))⟩ ?_,h2,h3,h4,λi row j p hi hj=> ?_⟩
    ·rcases h1.2 with⟨h,_⟩|⟨g,cap,cur,h,_⟩
     ·rw[h];exact .inl rfl
     ·right
      rw[h]
      intro e'
      simp[Value.ownBlock]at e'
      exact hS g (by rw[h];rfl) e'
    ·obtain⟨v,hv,hp⟩:=h5 i row j p hi hj
     exact⟨v,hv,hp.mono (λc _ h=>C c h) hw⟩
   |arn e sz rows=>
    obtain⟨cells,h0,h1,h2,h3⟩:=hW
    refine⟨cells,h0,World.ownsRow.kept (row:=some b) h1 ⟨rfl,rfl,rfl,by simp,λk _ hk=>setRow_other _ _ _ _ (λe=>hk (by rw[e]))⟩ ?_,h2,h3.mono (λc _ h=>C c h) hw (λ_ _=>rfl) (zB2 _)⟩
    rcases h1.2 with⟨h,_⟩|⟨g,cap,cur,h,_⟩
    ·rw[h];exact .inl rfl
    ·right
     rw[h]
     intro e'
     simp[Value.ownBlock]at e'
     exact hS g (by rw[h];rfl) e'
   |map kt m ents=>
    obtain⟨b',es,clock,h1,h2,h3,h4,h5⟩:=hW
    exact⟨b',es,clock,h1,h2,by rw[setRow_other _ _ _ _ (hS b' (by rw[h1];rfl))];exact h3,h4.mono λ_ _ h=>h.mono (λc _ h=>C c h) hw (λ_ _=>rfl) (zB2 _),h5⟩
 ·have g8: ∃c,ar σ.mem n=some c:=by
   rw[JE]at h1
   by_cases e:nm=n
   ·subst e;exact⟨_,hf⟩
   ·rw[if_neg e]at h1;exact⟨_,h1⟩
  have g9: ∃c,ar σ.mem n'=some c:=by
   rw[JE]at h2
   by_cases e:nm=n'
   ·subst e;exact⟨_,hf⟩
   ·rw[if_neg e]at h2;exact⟨_,h2⟩
  obtain⟨c1,g8⟩:=g8
  obtain⟨c2,g9⟩:=g9
  exact hs.apart _ _ _ _ _ g8 g9 h3 h4
theorem bf.over {α β:Type} {R:α→β→Prop} {as as':List α} {bs bs':List β} (h:bf R as bs) (h':bf R as' bs') (off:Nat):bf R (over as off as') (over bs off bs'):=by
 unfold Abs.over
 rw[←h'.length]
 exact((h.take off).append h').append (h.drop _)
variable {vs:List Value}{N:Nat}{V:Nat→Prop}
theorem L1 (h:bf (dE w V ι N) xs vs): ∀v∈vs,v.oneCell'=true:=by
 induction h with
 |nil=>simp
 |cons h _ ih=>
  intro v hv
  rcases zD7.1 hv with rfl|hv
  ·exact h.one
  ·exact ih v hv
theorem abu {x:AC} {z:PC} {v:Value} (h:dE w V ι N x v) (hz:pcA x=some z):d6 w V z v:=by
 cases h with
 |pure h=>cases hz;exact h
 |nils=>cases hz;exact .nil
 |tsl h=>cases hz;exact h
 |_=>cases hz
theorem RA (h:bf (dE w V ι N) xs vs): ∀{zs:List PC},Se xs=some zs→bf (d6 w V) zs vs:=by
 induction h with
 |nil=>intro zs hz;cases hz;exact .nil
 |cons h t ih=>
  intro zs hz
  unfold Se at hz
  split at hz
  ·cases hz
   exact .cons (abu h ‹_›) (ih ‹_›)
  ·cases hz
theorem vE {t:TypeId} {n off:Nat} {cur:Array Value} (ht:kM P t=some n) (hn:u.cells.size=n) (hcur:w.heap[b]? =some (.cells cur T (0,0))) (hM:off+n≤cur.size) (h1: ∀v∈u.cells.toList,v.oneCell'=true):
  (storeVar t ⟨b,off,none⟩ u).run P w= .ok () (w.setRow b (over cur.toList off u.cells.toList).toArray):=by
 unfold kM at ht
 cases hi:P.info? t with
 |none=>simp[hi]at ht
 |some i=>
  simp[hi]at ht
  have h:=run_storeCells_at (P:=P) b off T u.cells.toList 0 cur w hcur zR8 h1
  simp only[Nat.add_zero]at h
  simp[storeVar,sizeOf,typeInfo,hi,ht,hn,h,over]
end
open Go.RowKit
section
variable {P : Program} {o : Oper} {a : Act} {w w0 : World} {U : Gh} {ι : Pl} {σ : St} {next : Act → World → Prop} {Q : Exit → Act → World → Prop} {K : AV → St → Prop}
variable {α:Type}{sz:Nat}{vs:List Value}
theorem acN {R:α→Value→Prop} {row off:Nat} {rows:List (List α)} {cells:List Value} {r zs:List α} (h3:cells.length=rows.length*sz) (h4: ∀(i:Nat) row,rows[i]? =some row→row.length=sz)
  (h5: ∀(i:Nat) (row:List α) (j:Nat) p,rows[i]? =some row→row[j]? =some p→ ∃v,cells[i*sz+j]? =some v∧R p v) (hr:rows[row]? =some r) (hz:bf R zs vs) (ho:off+zs.length≤sz):
  (over cells (row*sz+off) vs).length=(rows.set row (over r off zs)).length*sz∧(∀(i:Nat) row',(rows.set row (over r off zs))[i]? =some row'→row'.length=sz)∧
  ∀(i:Nat) (row':List α) (j:Nat) p,(rows.set row (over r off zs))[i]? =some row'→row'[j]? =some p→ ∃v,(over cells (row*sz+off) vs)[i*sz+j]? =some v∧R p v:=by
 have F:row<rows.length:=(zB7.1 hr).1
 have hlr:=h4 row r hr
 have hlz:=hz.length
 have hm:row*sz+sz≤cells.length:=by
  rw[h3]
  have:(row+1)*sz≤rows.length*sz:=zG3 _ F
  rw[zJ4]at this
  exact this
 have hF: ∀k,k<cells.length→(over cells (row*sz+off) vs)[k]? =if row*sz+off≤k∧k<row*sz+off+vs.length then vs[k-(row*sz+off)]? else cells[k]? :=by
  intro k hk
  unfold over
  rw[zE4]
  by_cases h1:k<row*sz+off
  ·rw[zD8 zR8,zJ6 h1,if_neg zR5]
  ·rw[zD9 zR8]
   have e1:(cells.take (row*sz+off)).length=row*sz+off:=by simp;omega
   rw[e1]
   by_cases h2:k<row*sz+off+vs.length
   ·rw[zD8 zR5,if_pos ⟨by omega,h2⟩]
   ·rw[zD9 zR5,zH5,if_neg zR5]
    congr 1
    omega
 have hgr: ∀j,j<r.length→(over r off zs)[j]? =if off≤j∧j<off+zs.length then zs[j-off]? else r[j]? :=by
  intro k hk
  unfold over
  rw[zE4]
  by_cases h1:k<off
  ·rw[zD8 zR8,zJ6 h1,if_neg zR5]
  ·rw[zD9 zR8]
   have e1:(r.take off).length=off:=by simp;omega
   rw[e1]
   by_cases h2:k<off+zs.length
   ·rw[zD8 zR5,if_pos ⟨by omega,h2⟩]
   ·rw[zD9 zR5,zH5,if_neg zR5]
    congr 1
    omega
 have z4:(over r off zs).length=sz:=by
  unfold over
  simp
  omega
 refine⟨?_,λi row' hi=> ?_,λi row' j p hi hj=> ?_⟩
 ·unfold over
  simp
  rw[←h3]
  omega
 ·rw[zO5]at hi
  by_cases e:row=i
  ·rw[if_pos e,if_pos zR5]at hi
   cases hi;exact z4
  ·rw[if_neg e]at hi
   exact h4 i row' hi
 ·rw[zO5]at hi
  by_cases e:row=i
  ·subst e
   rw[if_pos rfl,if_pos F]at hi
   cases hi
   have HF:j<sz:=by rw[←z4];exact(zB7.1 hj).1
   rw[hgr j zR5]at hj
   rw[hF (row*sz+j) zR5]
   by_cases h1:off≤j∧j<off+zs.length
   ·rw[if_pos h1]at hj
    rw[if_pos ⟨by omega,by omega⟩]
    obtain⟨v,hv,hp⟩:=hz.get hj
    exact⟨v,by rw[←hv];congr 1;omega,hp⟩
   ·rw[if_neg h1]at hj
    rw[if_neg zR5]
    exact h5 row r j p hr hj
  ·rw[if_neg e]at hi
   obtain⟨v,hv,hp⟩:=h5 i row' j p hi hj
   have HF:j<sz:=by rw[←h4 i row' hi];exact(zB7.1 hj).1
   have HN:i<rows.length:=(zB7.1 hi).1
   refine⟨v, ?_,hp⟩
   rw[hF (i*sz+j) ((zB7.1 hv).1),if_neg ?_]
   ·exact hv
   ·rintro⟨g1,g2⟩
    rcases Nat.lt_or_gt_of_ne e with H|hgt
    ·have:(row+1)*sz≤i*sz:=zG3 _ H
     rw[zJ4]at this
     omega
    ·have:(i+1)*sz≤row*sz:=zG3 _ hgt
     rw[zJ4]at this
     omega
variable {V:Nat→Prop}{rows:List (List PC)}
theorem cZ.set {row off:Nat} {cells:List Value} {r zs:List PC} (h:cZ w V sz rows cells) (hr:rows[row]? =some r) (hz:bf (d6 w V) zs vs) (ho:off+zs.length≤sz):
  cZ w V sz (rows.set row (over r off zs)) (over cells (row*sz+off) vs):=acN h.1 h.2.1 h.2.2 hr hz ho
theorem ZN.set {N row off:Nat} {rows:List (List AC)} {cells:List Value} {r zs:List AC} (h:ZN w V ι N sz rows cells) (hr:rows[row]? =some r) (hz:bf (dE w V ι N) zs vs) (ho:off+zs.length≤sz):
  ZN w V ι N sz (rows.set row (over r off zs)) (over cells (row*sz+off) vs):=acN h.1 h.2.1 h.2.2 hr hz ho
theorem cZ.mono {w':World} {V':Nat→Prop} {cells:List Value} (h:cZ w V sz rows cells) (hU: ∀b,b<w.heap.size→V b→V' b)
  (hw: ∀b,b<w.heap.size→V b→w'.heap[b]? =w.heap[b]?):cZ w' V' sz rows cells:=by
 obtain⟨h3,h4,h5⟩:=h
 refine⟨h3,h4,λi row j p hi hj=> ?_⟩
 obtain⟨v,hv,hp⟩:=h5 i row j p hi hj
 exact⟨v,hv,hp.mono hU hw⟩
theorem nv (xs:List α) (off:Nat) (ys:List α) (h:off+ys.length≤xs.length):(over xs off ys).length=xs.length:=by
 unfold over
 simp
 omega
theorem Pq (xs:List α) (off m:Nat) (ys:List α) (h:off+ys.length≤m) (hm:m≤xs.length):(over xs off ys).take m=over (xs.take m) off ys:=by
 unfold over
 rw[zL2,zL2,List.take_take,List.drop_take,zE8,zI2]
 have e1:min m off=off:=by omega
 have e2:min off xs.length=off:=by omega
 rw[e1,e2,List.take_take,zB6 (l:=ys) zR5]
 congr 2
 all_goals(first|omega|(congr 1;omega))
theorem aak {t:TypeId} {x y:Operand} {p q:AX} {n:Nat} (ho:o.op= .store t x y) (ht:kM P t=some n) (hx:aC x=some p) (hy:aC y=some q) (h:bC P (.store n p q) σ K) (hs:ci w0 U σ ι a w) (hn:fS w0 U a o K next):o.wp P a w next Q:=by
 have r1:=aq hx hs
 have r2:=aq hy hs
 simp only[bC]at h
 split at h
 ·rename_i ys nm off e1 e2
  rw[e2]at r1
  have W:=r2.cells e1
  split at h
  ·rename_i xs hf
   obtain⟨⟨hl,hM⟩,h⟩:=h
   cases r1 with
   |c r1=>
    generalize hu:a.eval x=u at r1
    cases r1 with
    |ptr hA hι=>
     rename_i b
     obtain⟨b',vs,T,g1,g2,g3,g4⟩:=hs.box _ _ hf
     rw[hι]at g1
     simp at g1
     subst g1
     have HY:(a.eval y).cells.size=n:=by rw[←hl,W.length,zD0]
     have D:=vE (P:=P) (off:=off) ht HY g3 (by rw[←zD0,←g4.length];exact hM) (L1 W)
     refine mp (w':=w.setRow b (over vs.toList off (a.eval y).cells.toList).toArray) ?_ (hn _ _ ι _ _ h ?_ ip)
     ·simp[execOp,ho,hu,Instr.storeAt,Instr.sureAddr,D]
     ·refine hs.setBox hf (by rw[hι];rfl) ⟨b,_,T,hι,g2,setRow_heap _ _ _ _ _ _ g3, ?_⟩
      have Z: ∀c,aV w0.heap.size U ι σ.mem c→c≠b:= λc h e=>h.2 _ _ hf (by rw[hι,e];rfl)
      have:=(g4.over W off).mono λ_ _ (h:dE w (aV w0.heap.size U ι σ.mem) ι σ.nx _ _)=>h.mono (w':=w.setRow b (over vs.toList off (a.eval y).cells.toList).toArray) (λc _ h=>h) (λc _ h=>setRow_other _ _ _ _ (Z c h)) (λ_ _=>rfl) (zB2 _)
      simpa using this
  ·exact h.elim
 ·rename_i ys nm sz row off e1 e2
  rw[e2]at r1
  have W:=r2.cells e1
  split at h
  ·rename_i e sz' rows hf
   obtain⟨⟨J,hl,hM⟩,zs,hz,r,hr,h⟩:=h
   subst J
   cases r1 with
   |c r1=>
    generalize hu:a.eval x=u at r1
    cases r1 with
    |eptr hA hι=>
     rename_i b n' c'
     have HG:=RA W hz
     have HY:(a.eval y).cells.size=n:=by rw[←hl,W.length,zD0]
     have hzl:zs.length=n:=by rw[HG.length,zD0,HY]
     obtain⟨cells,g0,g1,g2,g3⟩:=hs.box _ _ hf
     have g1':=g1
     rcases g1.2 with⟨e',_⟩|⟨g,cap,cur,e',hB,hg,hD,HO,HI,hE⟩
     ·rw[hι]at e';cases e'
     ·rw[hι]at e'
      simp at e'
      obtain⟨rfl,rfl,rfl⟩:=e'
      have F:row<rows.length:=(zB7.1 hr).1
      have hm:row*sz+sz≤rows.length*sz:=by
       have:(row+1)*sz≤rows.length*sz:=zG3 _ F
       rw[zJ4]at this
       exact this
      have hm2:rows.length*sz≤cur.size:=by
       have:rows.length*sz≤c'*sz:=zG3 _ hD
       omega
      have G2:(a.eval y).cells.toList.length=n:=by rw[zD0,HY]
      have D:=vE (P:=P) (off:=row*sz+off) ht HY hg zR5 (L1 W)
      refine mp (w':=w.setRow b (over cur.toList (row*sz+off) (a.eval y).cells.toList).toArray) ?_ (hn _ _ ι _ _ h ?_ ip)
      ·simp[execOp,ho,hu,Instr.storeAt,Instr.sureAddr,D]
      ·have Z: ∀c,aV w0.heap.size U ι σ.mem c→c≠b:= λc h e=>h.2 _ _ hf (by rw[hι,e];rfl)
       refine hs.setBox hf (by rw[hι];rfl) ⟨over cells (row*sz+off) (a.eval y).cells.toList,g0,⟨?_,.inr ⟨b,c',(over cur.toList (row*sz+off) (a.eval y).cells.toList).toArray, ?_,hB,setRow_heap _ _ _ _ _ _ hg, ?_,HO, ?_, ?_⟩⟩, ?_, ?_⟩
       ·rw[nv _ _ _ (by rw[g1.1];omega),zH0,g1.1]
       ·rw[hι,zH0]
       ·rw[zH0];exact hD
       ·rw[zK7,nv _ _ _ zR8,zD0];exact HI
       ·rw[zH0,←hE,zJ9,Pq _ _ _ _ zR5 zR8]
       ·rw[zH0];exact g2
       ·exact(g3.mono (w':=w.setRow b (over cur.toList (row*sz+off) (a.eval y).cells.toList).toArray) (λc _ h=>h) (λc _ h=>setRow_other _ _ _ _ (Z c h))).set hr (HG.mono λ_ _ h=>h.mono (λc _ h=>h) (λc _ h=>setRow_other _ _ _ _ (Z c h))) zR5
  ·rename_i e sz' rows hf
   obtain⟨⟨J,hl,hM⟩,r,hr,h⟩:=h
   subst J
   cases r1 with
   |c r1=>
    generalize hu:a.eval x=u at r1
    cases r1 with
    |eptr hA hι=>
     rename_i b n' c'
     have HY:(a.eval y).cells.size=n:=by rw[←hl,W.length,zD0]
     obtain⟨cells,g0,g1,g2,g3⟩:=hs.box _ _ hf
     have g1':=g1
     rcases g1.2 with⟨e',_⟩|⟨g,cap,cur,e',hB,hg,hD,HO,HI,hE⟩
     ·rw[hι]at e';cases e'
     ·rw[hι]at e'
      simp at e'
      obtain⟨rfl,rfl,rfl⟩:=e'
      have F:row<rows.length:=(zB7.1 hr).1
      have hm:row*sz+sz≤rows.length*sz:=by
       have:(row+1)*sz≤rows.length*sz:=zG3 _ F
       rw[zJ4]at this
       exact this
      have hm2:rows.length*sz≤cur.size:=by
       have:rows.length*sz≤c'*sz:=zG3 _ hD
       omega
      have G2:(a.eval y).cells.toList.length=n:=by rw[zD0,HY]
      have D:=vE (P:=P) (off:=row*sz+off) ht HY hg zR5 (L1 W)
      refine mp (w':=w.setRow b (over cur.toList (row*sz+off) (a.eval y).cells.toList).toArray) ?_ (hn _ _ ι _ _ h ?_ ip)
      ·simp[execOp,ho,hu,Instr.storeAt,Instr.sureAddr,D]
      ·have Z: ∀c,aV w0.heap.size U ι σ.mem c→c≠b:= λc h e=>h.2 _ _ hf (by rw[hι,e];rfl)
       refine hs.setBox hf (by rw[hι];rfl) ⟨over cells (row*sz+off) (a.eval y).cells.toList,g0,⟨?_,.inr ⟨b,c',(over cur.toList (row*sz+off) (a.eval y).cells.toList).toArray, ?_,hB,setRow_heap _ _ _ _ _ _ hg, ?_,HO, ?_, ?_⟩⟩, ?_, ?_⟩
       ·rw[nv _ _ _ (by rw[g1.1];omega),zH0,g1.1]
       ·rw[hι,zH0]
       ·rw[zH0];exact hD
       ·rw[zK7,nv _ _ _ zR8,zD0];exact HI
       ·rw[zH0,←hE,zJ9,Pq _ _ _ _ zR5 zR8]
       ·rw[zH0];exact g2
       ·exact(g3.mono (w':=w.setRow b (over cur.toList (row*sz+off) (a.eval y).cells.toList).toArray) (λc _ h=>h) (λc _ h=>setRow_other _ _ _ _ (Z c h)) (λ_ _=>rfl) (zB2 _)).set hr (W.mono λ_ _ h=>h.mono (λc _ h=>h) (λc _ h=>setRow_other _ _ _ _ (Z c h)) (λ_ _=>rfl) (zB2 _)) zR5
  ·exact h.elim
 ·exact h.elim
end
open Go.RowKit
section
variable {P : Program} {o : Oper} {a : Act} {w w0 : World} {U : Gh} {ι : Pl} {σ : St} {next : Act → World → Prop} {Q : Exit → Act → World → Prop} {K : AV → St → Prop}
variable {off:Nat}
theorem O4 {V:Nat→Prop} {N b:Nat} {cells:List PC} (k:Nat) (h:dE w V ι N (.cptr cells) (.pointer (some ⟨b,off,none⟩))):dE w V ι N (.cptr (cells.drop k)) (.pointer (some ⟨b,off+k,none⟩)):=by
 cases h with
 |cptr g hc=>
  refine .cptr (λj=>g (k+j)) λj p hj=> ?_
  rw[zH5]at hj
  have:=hc (k+j) p hj
  rw[←zN1]at this
  exact this
variable {s:TypeId}{f:Nat}{fd:Field}
theorem yo {b:Nat} (hf:vi P s f=some fd) (hz: ¬(kM P fd.type).getD 0=0):(Instr.fieldAt s (.pointer (some ⟨b,off,none⟩)) f).run P w= .ok (.pointer (some ⟨b,off+fd.offset,none⟩)) w:=by
 unfold vi at hf
 split at hf
 ·rename_i fs hd
  unfold kM at hz
  cases hi:P.info? fd.type with
  |none=>simp[hi]at hz
  |some i=>
   simp[hi]at hz
   simp[Instr.fieldAt,run_underlying hd,hf,Instr.sureAddr,fieldPlace,sizeOf,typeInfo,hi,hz,ju]
 ·cases hf
variable {x:Operand}{y:AX}
theorem WL (ho:o.op= .fieldAddr s x f) (hf:vi P s f=some fd) (hz: ¬(kM P fd.type).getD 0=0) (hx:aC x=some y) (h:bC P (.fieldA fd.offset y) σ K) (hs:ci w0 U σ ι a w) (hn:fS w0 U a o K next):o.wp P a w next Q:=by
 have r1:=aq hx hs
 generalize hu:a.eval x=u at r1
 simp only[bC]at h
 split at h
 ·rename_i e
  rw[e]at r1
  cases r1 with
  |c r1=>
   cases r1 with
   |ptr h1 h2=>exact aA (w':=w) (by simp[execOp,ho,hu,yo hf hz];try rfl) (hn _ σ ι _ w h hs (.c (.ptr h1 h2)))
 ·rename_i e
  rw[e]at r1
  cases r1 with
  |c r1=>
   have r2:=r1
   cases r1 with
   |cptr g hc=>exact aA (w':=w) (by simp[execOp,ho,hu,yo hf hz];try rfl) (hn _ σ ι _ w h hs (.c (O4 _ r2)))
 ·rename_i e
  rw[e]at r1
  cases r1 with
  |c r1=>
   cases r1 with
   |eptr h1 h2=>exact aA (w':=w) (by simp[execOp,ho,hu,yo hf hz];try rfl) (hn _ σ ι _ w h hs (.c (by rw[zN1];exact .eptr h1 h2)))
 ·exact h.elim
variable {cs:Array Value}
theorem Ra {t:TypeId} {v:Value} (h:oe P t=some none) (hv:cs[off]? =some v):(part t cs off).run P w= .ok v w:=by
 unfold oe at h
 split at h
 ·cases h
 ·cases h
 ·rename_i d i n1 n2 hd hi
  have HA:(isAgg t).run P w= .ok false w:=by
   unfold isAgg
   cases d<;>first|(simp[run_underlying hd];done)|exact absurd rfl (n1 _)|exact absurd rfl (n2 _ _)
  simp[part,HA,hv]
 ·cases h
theorem Qm {t:TypeId} {n:Nat} (h:oe P t=some (some n)):(part t cs off).run P w= .ok (.agg (cs.extract off (off+n))) w:=by
 unfold oe at h
 split at h
 ·rename_i fs i hd hi
  simp at h
  have HA:(isAgg t).run P w= .ok true w:=by simp[isAgg,run_underlying hd]
  simp[part,HA,sizeOf,typeInfo,hi,h]
 ·rename_i fs i hd hi
  simp at h
  have HA:(isAgg t).run P w= .ok true w:=by simp[isAgg,run_underlying hd]
  simp[part,HA,sizeOf,typeInfo,hi,h]
 ·split at h<;>cases h
 ·cases h
theorem YW {n:Option Nat} (ho:o.op= .field s x f) (hf:vi P s f=some fd) (ht:oe P fd.type=some n) (hx:aC x=some y) (h:bC P (.field fd.offset n y) σ K) (hs:ci w0 U σ ι a w) (hn:fS w0 U a o K next):o.wp P a w next Q:=by
 have r1:=aq hx hs
 generalize hu:a.eval x=u at r1
 simp only[bC]at h
 split at h
 ·rename_i xs e
  rw[e]at r1
  cases r1 with
  |agg r1=>
   rename_i vs
   have D: ∀{v:Value},(part fd.type vs fd.offset).run P w= .ok v w→(execOp a.eval o).run P w= .ok (.value v) w:=by
    intro v hp
    unfold vi at hf
    split at hf
    ·rename_i fs hd
     simp[execOp,ho,hu,Instr.field,run_underlying hd,hf,asAgg,hp]
    ·cases hf
   cases n with
   |none=>
    simp only at h
    split at h
    ·rename_i z zs ez
     have hz:xs[fd.offset]? =some z:=by
      have:(xs.drop fd.offset)[0]? =some z:=by rw[ez];rfl
      rw[zH5]at this
      simpa using this
     obtain⟨v,hv,hr⟩:=r1.get hz
     exact aA (u:=v) (w':=w) (D (Ra ht zV6)) (hn _ σ ι _ w h hs (.c hr))
    ·exact h.elim
   |some n=>
    obtain⟨hM,h⟩:=h
    refine aA (w':=w) (D (Qm ht)) (hn _ σ ι _ w h hs (.agg ?_))
    have:=(r1.drop fd.offset).take n
    have e2:(vs.extract fd.offset (fd.offset+n)).toList=(vs.toList.drop fd.offset).take n:=by
     rw[Array.toList_extract,List.extract_eq_take_drop]
     simp
    rw[e2]
    exact this
 ·exact h.elim
variable {e:TypeId}{sz:Nat}
theorem zq {t:TypeId} {bytes:Nat} {b n c:Nat} {k:IntKind} {i:Int} (ht:eP P t=some (e,sz,bytes)) (h0:0≤i) (h1:i<n):(Instr.indexAt t (.slice (some ⟨b,off,none⟩) n c) (.int k i)).run P w= .ok (.pointer (some ⟨b,off+i.toNat*sz,none⟩)) w:=by
 unfold eP at ht
 split at ht
 ·rename_i e' hd
  cases hi:P.info? e' with
  |none=>simp[hi]at ht
  |some inf=>
   simp[hi]at ht
   obtain⟨rfl,rfl,_⟩:=ht
   simp[Instr.indexAt,asIntOf,run_underlying hd,h0,h1,sizeOf,typeInfo,hi,ju]
 ·cases ht
variable {z:Operand}{q:AX}
theorem aby {t:TypeId} {bytes:Nat} (ho:o.op= .indexAddr t x z) (ht:eP P t=some (e,sz,bytes)) (hx:aC x=some y) (hz:aC z=some q) (h:bC P (.idxA sz y q) σ K) (hs:ci w0 U σ ι a w) (hn:fS w0 U a o K next):o.wp P a w next Q:=by
 have r1:=aq hx hs
 have r2:=aq hz hs
 generalize hu:a.eval x=u at r1
 simp only[bC]at h
 have q0: ∀{rows:List (List PC)} {k:IntKind} {i:Int},d6 w (aV w0.heap.size U ι σ.mem) (.slice rows) u→AX.ev σ.fr q= .c (.pure (.val (.int k i)))→(0≤i∧ ∃r,rows[i.toNat]? =some r∧(r.length=sz∧0<sz)∧K (.c (.cptr r)) σ)→o.wp P a w next Q:=by
  intro rows k i hr hi h
  rw[hi]at r2
  have e2:=(aU r2).1
  obtain⟨h0,r,F,⟨ga,J⟩,hk⟩:=h
  cases hr with
  | @slice sz' _ ad n c g hl hc hm hC hcell hp=>
   obtain rfl:sz'=sz:=by rw[←ga];exact(hC _ _ F).symm
   have HN:i.toNat<rows.length:=(zB7.1 F).1
   have hlr:=hC _ _ F
   have h0r:r[0]? =some (r[0]' zR5):=zA7 zR5
   obtain⟨b,off,rfl,hb,_⟩:=hcell _ r 0 _ F h0r
   refine aA (w':=w) (by simp only[execOp,ho,hu,e2];rw[Sem.run_bind,zq ht h0 zR5];rfl) (hn _ σ ι _ w hk hs (.c (.cptr (λj=>g i.toNat j) λj p hj=> ?_)))
   obtain⟨b',off',e',hb',gn⟩:=hcell _ r j p F hj
   cases e'
   exact⟨hb',by rw[←gn];congr 2;omega,hp _ r j p F hj⟩
 split at h
 ·rename_i rows k i e1 e2
  rw[e1]at r1
  cases r1 with
  |c r1=>cases r1 with|pure r1=>exact q0 r1 e2 h
 ·rename_i rows k i e1 e2
  rw[e1]at r1
  cases r1 with
  |c r1=>cases r1 with|tsl r1=>exact q0 r1 e2 h
 ·rename_i nm k i e1 e2
  rw[e1]at r1
  rw[e2]at r2
  have e2':=(aU r2).1
  split at h
  ·rename_i e' sz' rows hf
   obtain⟨⟨rfl,J,h0,H⟩,h⟩:=h
   cases r1 with
   |c r1=>cases r1 with
    |ref hA HP=>
     obtain⟨cells,g0,g1,g2,g3⟩:=hs.box _ _ hf
     rcases g1.2 with⟨e',HR⟩|⟨g,cap,cur,e',hB,hg,hD,HO,HI,hE⟩
     ·omega
     ·refine aA (w':=w) (by simp only[execOp,ho,hu,e',e2'];rw[Sem.run_bind,zq ht h0 zR5];rfl) (hn _ σ ι _ w h hs (.c ?_))
      have:=dE.eptr (w:=w) (U:=aV w0.heap.size U ι σ.mem) (sz:=sz') (row:=i.toNat) (off:=0) hA e'
      simpa using this
  ·rename_i e' sz' rows hf
   obtain⟨⟨rfl,J,h0,H⟩,h⟩:=h
   cases r1 with
   |c r1=>cases r1 with
    |ref hA HP=>
     obtain⟨cells,g0,g1,g2,g3⟩:=hs.box _ _ hf
     rcases g1.2 with⟨e',HR⟩|⟨g,cap,cur,e',hB,hg,hD,HO,HI,hE⟩
     ·omega
     ·refine aA (w':=w) (by simp only[execOp,ho,hu,e',e2'];rw[Sem.run_bind,zq ht h0 zR5];rfl) (hn _ σ ι _ w h hs (.c ?_))
      have:=dE.eptr (w:=w) (U:=aV w0.heap.size U ι σ.mem) (sz:=sz') (row:=i.toNat) (off:=0) hA e'
      simpa using this
  ·exact h.elim
 ·exact h.elim
theorem abd {t:TypeId} {len:Nat} (ho:o.op= .indexAddr t x z) (ht:P.underlying t=some (.array len e)) (J:kM P e=some sz) (hx:aC x=some y) (hz:aC z=some q) (h:bC P (.idxR len sz y q) σ K) (hs:ci w0 U σ ι a w) (hn:fS w0 U a o K next):o.wp P a w next Q:=by
 have r1:=aq hx hs
 have r2:=aq hz hs
 generalize hu:a.eval x=u at r1
 simp only[bC]at h
 have D: ∀{b off:Nat} {k:IntKind} {i:Int},0≤i→i<len→(Instr.indexAt t (.pointer (some ⟨b,off,none⟩)) (.int k i)).run P w= .ok (.pointer (some ⟨b,off+i.toNat*sz,none⟩)) w:=by
  intro b off k i h0 h1
  unfold kM at J
  cases hi:P.info? e with
  |none=>simp[hi]at J
  |some inf=>
   simp[hi]at J
   simp[Instr.indexAt,asIntOf,run_underlying ht,Instr.sureAddr,h0,h1,sizeOf,typeInfo,hi,J,ju]
 split at h
 ·rename_i nm off k i e1 e2
  rw[e1]at r1
  rw[e2]at r2
  have e2':=(aU r2).1
  obtain⟨⟨h0,h1⟩,h⟩:=h
  cases r1 with
  |c r1=>cases r1 with
   |ptr g1 g2=>exact aA (w':=w) (by simp only[execOp,ho,hu,e2'];rw[Sem.run_bind,D h0 h1];rfl) (hn _ σ ι _ w h hs (.c (.ptr g1 g2)))
 ·rename_i cells k i e1 e2
  rw[e1]at r1
  rw[e2]at r2
  have e2':=(aU r2).1
  obtain⟨⟨h0,h1⟩,h⟩:=h
  cases r1 with
  |c r1=>
   have r3:=r1
   cases r1 with
   |cptr g hc=>exact aA (w':=w) (by simp only[execOp,ho,hu,e2'];rw[Sem.run_bind,D h0 h1];rfl) (hn _ σ ι _ w h hs (.c (O4 _ r3)))
 ·exact h.elim
theorem abp {t:TypeId} (ho:o.op= .index t x z) (ht:Z7 P t=true) (hx:aC x=some y) (hz:aC z=some q) (h:bC P (.idxS y q) σ K) (hs:ci w0 U σ ι a w) (hn:fS w0 U a o K next):o.wp P a w next Q:=by
 have r1:=aq hx hs
 have r2:=aq hz hs
 simp only[bC]at h
 split at h
 ·rename_i s k i e1 e2
  rw[e1]at r1
  rw[e2]at r2
  have e1':=(aU r1).1
  have e2':=(aU r2).1
  obtain⟨h0,b,hb,h⟩:=h
  have hd:P.underlying t=some .string:=by
   unfold Z7 at ht
   split at ht
   ·assumption
   ·cases ht
  refine aA (u:= .int .u8 b.toNat) (w':=w) ?_ (hn _ σ ι _ w h hs (iy _ _))
  simp[execOp,ho,e1',e2',Instr.index,asIntOf,run_underlying hd,h0,hb]
 ·exact h.elim
theorem acV {i:Nat} (ho:o.op= .extract x i) (hx:aC x=some y) (h:bC P (.ext y i) σ K) (hs:ci w0 U σ ι a w) (hn:fS w0 U a o K next):o.wp P a w next Q:=by
 have r1:=aq hx hs
 generalize hu:a.eval x=u at r1
 simp only[bC]at h
 split at h
 ·rename_i vs e
  rw[e]at r1
  obtain⟨v,hv,h⟩:=h
  ·cases r1 with
   |tup hl hr=>
    rename_i us
    have hi:i<us.size:=by rw[←hl];exact(zB7.1 hv).1
    have:=hr i v hv
    rw[zA7 zS7]at this
    refine aA (u:=us[i]) (w':=w) ?_ (hn _ σ ι _ w h hs (by simpa using this))
    simp[execOp,ho,hu,Instr.extract,hi]
 ·exact h.elim
theorem L0 {v:AV} {u:Value} {rows:List (List PC)} (hs:ci w0 U σ ι a w) (h:aT w (aV w0.heap.size U ι σ.mem) ι σ.nx v u) (hr:gd σ.mem v=some rows): ∃ad c,u= .slice ad rows.length c∧rows.length≤c∧rows.length≤9223372036854775807:=by
 unfold gd at hr
 split at hr
 ·cases hr
  cases h with|c h=>cases h with|pure h=>cases h with|slice g hl hc hm=>subst hl;exact⟨_,_,rfl,hc,hm⟩
 ·cases hr
  cases h with|c h=>cases h with|tsl h=>cases h with|slice g hl hc hm=>subst hl;exact⟨_,_,rfl,hc,hm⟩
 ·cases hr
  cases h with|c h=>cases h with|nils=>exact⟨none,0,rfl,zB2 _,by simp⟩
 ·split at hr
  ·rename_i nm e sz' rows' hf
   cases hr
   cases h with
   |c h=>cases h with
    |ref hA HP=>
     obtain⟨cells,g0,g1,g2,g3⟩:=hs.box _ _ hf
     rcases g1.2 with⟨e',HR⟩|⟨g,cap,cur,e',hB,hg,hD,HO,HI,hE⟩
     ·exact⟨none,0,by rw[e',HR],by omega,g2⟩
     ·exact⟨_,cap,e',hD,g2⟩
  ·cases hr
 ·cases hr
theorem AL {t:TypeId} {ad:Option Addr} {n c:Nat} (ht:P.underlying t=some (.slice e)) (ty:TypeId):(Builtin.len_ #[t] ty #[.slice ad n c]).run P w= .ok (.int .i64 n) w:=by
 simp[Builtin.len_,run_underlying ht,goInt]
theorem ada {t:TypeId} {c:Call} (hc:c.callee= .builtin .len) (X:c.args.toList= [x]) (HZ:c.argTypes.toList= [t]) (ho:o.op= .call c) (ht:P.underlying t=some (.slice e)) (hx:aC x=some y) (h:bC P (.len y) σ K) (hs:ci w0 U σ ι a w) (hn:fS w0 U a o K next):o.wp P a w next Q:=by
 have r1:=aq hx hs
 have ha:c.args= #[x]:=by rw[←zH2 (xs:=c.args),X]
 have gt:c.argTypes= #[t]:=by rw[←zH2 (xs:=c.argTypes),HZ]
 have key: ∀{rows:List (List PC)},gd σ.mem (AX.ev σ.fr y)=some rows→K (.c (.pure (.val (.int .i64 rows.length)))) σ→o.wp P a w next Q:=by
  intro rows hr h
  obtain⟨ad,cc,e1,_,_⟩:=L0 hs r1 hr
  refine aA (u:= .int .i64 rows.length) (w':=w) ?_ (hn _ σ ι _ w h hs (iy _ _))
  simp[execOp,ho,resolve,hc,invoke,builtin,ha,gt,e1,AL ht]
 simp only[bC]at h
 split at h
 ·rename_i rows e
  exact key (by rw[e];rfl) h
 ·rename_i rows e
  exact key (by rw[e];rfl) h
 ·rename_i e
  exact key (rows:= []) (by rw[e];rfl) h
 ·rename_i nm e
  split at h
  ·rename_i e' sz rows hf
   exact key (by rw[e];simp[gd,hf]) h
  ·rename_i e' sz rows hf
   rw[e]at r1
   generalize hu:a.eval x=u at r1
   cases r1 with
   |c r1=>cases r1 with
    |ref hA HP=>
     obtain⟨cells,g0,g1,g2,g3⟩:=hs.box _ _ hf
     have hv: ∃ad cc,ι nm= .slice ad rows.length cc:=by
      rcases g1.2 with⟨e',HR⟩|⟨g,cap,cur,e',_⟩
      ·exact⟨none,0,by rw[e',HR]⟩
      ·exact⟨_,cap,e'⟩
     obtain⟨ad,cc,e1⟩:=hv
     rw[e1]at hu
     refine aA (u:= .int .i64 rows.length) (w':=w) ?_ (hn _ σ ι _ w h hs (iy _ _))
     simp[execOp,ho,resolve,hc,invoke,builtin,ha,gt,hu,AL ht]
  ·exact h.elim
 ·exact h.elim
theorem aaN {t:TypeId} {c:Call} (hc:c.callee= .builtin .len) (X:c.args.toList= [x]) (HZ:c.argTypes.toList= [t]) (ho:o.op= .call c) (ht:P.underlying t=some .string) (hx:aC x=some y) (h:bC P (.lenS y) σ K) (hs:ci w0 U σ ι a w) (hn:fS w0 U a o K next):o.wp P a w next Q:=by
 have r1:=aq hx hs
 have ha:c.args= #[x]:=by rw[←zH2 (xs:=c.args),X]
 have gt:c.argTypes= #[t]:=by rw[←zH2 (xs:=c.argTypes),HZ]
 simp only[bC]at h
 split at h
 ·rename_i s e
  rw[e]at r1
  have e1:=(aU r1).1
  refine aA (u:= .int .i64 s.size) (w':=w) ?_ (hn _ σ ι _ w h hs (iy _ _))
  simp[execOp,ho,resolve,hc,invoke,builtin,ha,gt,e1,Builtin.len_,run_underlying ht,goInt]
 ·exact h.elim
theorem ach {mx:Bool} {y:Operand} {p:AX} {c:Call} (hc:(c.callee= .builtin .min∧mx=false)∨(c.callee= .builtin .max∧mx=true)) (X:c.args.toList= [x,y]) (ho:o.op= .call c) (hx:aC x=some p) (hy:aC y=some q) (h:bC P (.mm mx p q) σ K) (hs:ci w0 U σ ι a w) (hn:fS w0 U a o K next):o.wp P a w next Q:=by
 have r1:=aq hx hs
 have r2:=aq hy hs
 have ha:c.args= #[x,y]:=by rw[←zH2 (xs:=c.args),X]
 simp only[bC]at h
 split at h
 ·rename_i k m k' n e e'
  rw[e]at r1
  rw[e']at r2
  have e1:=(aU r1).1
  have e2:=(aU r2).1
  refine aA (w':=w) ?_ (hn _ σ ι _ w h hs (iy _ _))
  rcases hc with⟨hc,rfl⟩|⟨hc,rfl⟩
  ·have:(if n<m then n else m)=min m n:=by split<;>omega
   simp[execOp,ho,resolve,hc,invoke,builtin,ha,e1,e2,Builtin.min_,Builtin.min2,this]
  ·have:(if m<n then n else m)=max m n:=by split<;>omega
   simp[execOp,ho,resolve,hc,invoke,builtin,ha,e1,e2,Builtin.max_,Builtin.max2,this]
 ·exact h.elim
theorem ac6 {y t:Operand} {p r s:AX} {c:Call} (hc:c.callee= .builtin .max) (X:c.args.toList= [x,y,z,t]) (ho:o.op= .call c) (hx:aC x=some p) (hy:aC y=some q) (hz:aC z=some r) (ht:aC t=some s) (h:bC P (.mm4 p q r s) σ K) (hs:ci w0 U σ ι a w) (hn:fS w0 U a o K next):o.wp P a w next Q:=by
 have r1:=aq hx hs
 have r2:=aq hy hs
 have r3:=aq hz hs
 have r4:=aq ht hs
 have ha:c.args= #[x,y,z,t]:=by rw[←zH2 (xs:=c.args),X]
 simp only[bC]at h
 split at h
 ·rename_i k m k2 n k3 n3 k4 n4 e e' e3 e4
  rw[e]at r1
  rw[e']at r2
  rw[e3]at r3
  rw[e4]at r4
  have e1:=(aU r1).1
  have e2:=(aU r2).1
  have e5:=(aU r3).1
  have e6:=(aU r4).1
  refine aA (w':=w) ?_ (hn _ σ ι _ w h hs (iy _ _))
  have mx: ∀a b:Int,(if a<b then b else a)=max a b:= λa b=>by split<;>omega
  simp[execOp,ho,resolve,hc,invoke,builtin,ha,e1,e2,e5,e6,Builtin.max_,Builtin.max2,mx]
 ·exact h.elim
end
open Go.RowKit
theorem OU: ∀(vs:List Value) (off j:Nat) (cs:Array Value),off+j+vs.length≤cs.size→((vs.zipIdx j).foldl (λcs (x:Value×Nat)=>cs.setIfInBounds (off+x.2) x.1) cs).toList=over cs.toList (off+j) vs
 | [],off,j,cs,_=>by simp[over]
 |v::vs,off,j,cs,h=>by
  simp only[zG2]at h
  rw[List.zipIdx_cons,List.foldl_cons,OU vs off (j+1) _ zR8]
  unfold over
  have hk:off+j<cs.toList.length:=by simp;omega
  rw[Array.toList_setIfInBounds,List.take_set,List.drop_set,zG2]
  have e1:(cs.toList.take (off+(j+1))).set (off+j) v=cs.toList.take (off+j)++ [v]:=by
   rw[←zN1,zB5 hk,List.set_append_right _ _ zR8]
   have:(off+j)-(cs.toList.take (off+j)).length=0:=by simp;omega
   rw[this]
   rfl
  rw[e1,if_pos zR5,show off+(j+1)+vs.length=off+j+(vs.length+1)from by omega]
  simp
theorem FG {place:Nat→Option (Nat×Nat)} {cells:Array Value} {i off size:Nat} {rest:List (Nat×Value)} (hp:place i=some (off,size)) (hv:v.cells.size=size) (hM:off+size≤cells.size):
  Instr.fill place cells ((i,v)::rest)=Instr.fill place (over cells.toList off v.cells.toList).toArray rest:=by
 simp only[Instr.fill,hp]
 rw[if_neg zR8]
 congr 1
 have:=OU v.cells.toList off 0 cells zR8
 rw[←zQ5,Array.toList_zipIdx]
 simp only[Nat.add_zero]at this
 rw[←this,zH2]
section
variable {P : Program} {o : Oper} {a : Act} {w w0 : World} {U : Gh} {ι : Pl} {σ : St} {next : Act → World → Prop} {Q : Exit → Act → World → Prop} {K : AV → St → Prop}
theorem GO {α:Type} {xs ys:List α} {off:Nat} (h:off+ys.length≤xs.length):(over xs off ys).length=xs.length:=nv xs off ys h
theorem Lc (hs:ci w0 U σ ι a w) {places:List (Nat×Nat)}: ∀{parts:List (Nat×Operand)} {ps:List (Nat×Nat×AX)} {acc:List AC} {cells:Array Value} {R:List AC→Prop},DT places parts=some ps→bC.buildW σ ps acc R→
  bf (dE w (aV w0.heap.size U ι σ.mem) ι σ.nx) acc cells.toList→ ∃cells' xs,Instr.fill (λi=>places[i]?) cells (parts.map λ(i,x)=>(i,a.eval x))=some cells'∧bf (dE w (aV w0.heap.size U ι σ.mem) ι σ.nx) xs cells'.toList∧R xs
 |[],ps,acc,cells,R,hp,h,hc=>by
  cases hp
  exact⟨cells,acc,rfl,hc,h⟩
 |(i,x)::parts,ps,acc,cells,R,hp,h,hc=>by
  unfold DT at hp
  split at hp
  ·rename_i off n y ys h1 h2 h3
   cases hp
   simp only[bC.buildW]at h
   split at h
   ·rename_i zs e
    obtain⟨⟨hl,hM⟩,h⟩:=h
    have hz:=(aq h2 hs).cells e
    have hzl:=hz.length
    have g7:=hc.length
    have e0:=zD0 (xs:=(a.eval x).cells)
    have e00:=zD0 (xs:=cells)
    obtain⟨cells',xs,hf,hr,hR⟩:=Lc hs (cells:=(over cells.toList off (a.eval x).cells.toList).toArray) h3 h (hc.over hz off)
    refine⟨cells',xs, ?_,hr,hR⟩
    rw[zB8,FG h1 zR5 zR5]
    exact hf
   ·exact h.elim
  ·cases hp
variable {parts:Array (Nat×Operand)}
theorem Zi {t:TypeId} {z:List AC} {ps:List (Nat×Nat×AX)} (ho:o.op= .build t parts) (hz:(dZ P t).bind (λz=>cellsOf z.cells.toList)=some z) (hp:(K6 P t).bind (DT · parts.toList)=some ps)
  (h:bC P (.build z ps) σ K) (hs:ci w0 U σ ι a w) (hn:fS w0 U a o K next):o.wp P a w next Q:=by
 simp only[bC]at h
 unfold dZ K6 at*
 cases hi:P.info? t with
 |none=>simp[hi]at hz
 |some it=>
  cases hz0:it.zero with
  |none=>simp[hi,hz0]at hz
  |some z0=>
   simp[hi,hz0]at hz
   split at hp
   ·rename_i fs hd
    cases hpl:fs.toList.mapM (λf=>(P.info? f.type).map λi=>(f.offset,i.size))with
    |none=>simp[hpl]at hp
    |some places=>
     simp only[hpl,zR1]at hp
     obtain⟨cells',xs,hf,hr,hR⟩:=Lc hs hp h (cells:=z0.cells) (nu hz)
     refine aA (w':=w) ?_ (hn _ σ ι _ w hR hs (.agg hr))
     have hb:P.built t (parts.map λ(i,x)=>(i,a.eval x)).toList=some cells':=by
      unfold Program.built
      simp only[hi,hd,hz0,hpl]
      rw[zR2]
      simpa using hf
     simp only[execOp,ho,Sem.run_bind]
     rw[run_build w t _ cells' hb]
     rfl
   ·simp at hp
variable {V:Nat→Prop}{sz:Nat}
theorem cZ.append {rows rows':List (List PC)} {cs cs':List Value} (h:cZ w V sz rows cs) (h':cZ w V sz rows' cs'):cZ w V sz (rows++rows') (cs++cs'):=by
 obtain⟨h3,h4,h5⟩:=h
 obtain⟨g3,g4,g5⟩:=h'
 refine⟨by rw[zE8,zE8,h3,g3,zM4],λi row hi=> ?_,λi row j p hi hj=> ?_⟩
 ·by_cases H:i<rows.length
  ·rw[zD8 H]at hi;exact h4 i row hi
  ·rw[zD9 zR5]at hi;exact g4 _ row hi
 ·by_cases H:i<rows.length
  ·rw[zD8 H]at hi
   obtain⟨v,hv,hp⟩:=h5 i row j p hi hj
   exact⟨v,by rw[zD8 ((zB7.1 hv).1)];exact hv,hp⟩
  ·rw[zD9 zR5]at hi
   obtain⟨v,hv,hp⟩:=g5 _ row j p hi hj
   have hge:rows.length*sz≤i*sz:=zG3 _ zR5
   refine⟨v, ?_,hp⟩
   rw[zD9 zR5,←hv,h3,Nat.sub_mul]
   congr 1
   omega
theorem cZ.nil:cZ w V sz [] []:=⟨by simp,by simp,by simp⟩
theorem cZ.one {r:List PC} {vs:List Value} (h:bf (d6 w V) r vs) (hl:r.length=sz):cZ w V sz [r] vs:=by
 refine⟨by rw[←h.length,hl];simp,λi row hi=> ?_,λi row j p hi hj=> ?_⟩
 ·cases i with
  |zero=>simp at hi;subst hi;exact hl
  |succ i=>simp at hi
 ·cases i with
  |zero=>
   simp at hi
   subst hi
   obtain⟨v,hv,hp⟩:=h.get hj
   exact⟨v,by simpa using hv,hp⟩
  |succ i=>simp at hi
theorem RU {b k:Nat} {cs:Array Value} {T:TypeId} {fz:Nat×Nat} (h:w.heap[b]? =some (.cells cs T fz)):w.cell? ⟨b,k,none⟩=cs.toList[k]? :=by
 rw[cell_of_row w b k cs T fz h]
 simp
theorem cZ.slice {V:Nat→Prop} {sz b c:Nat} {rows:List (List PC)} {cells:List Value} (h:cZ w V sz rows cells) (hb:V b) (hc:rows.length≤c) (hm:rows.length≤9223372036854775807)
  (hcell: ∀(k:Nat) v,cells[k]? =some v→w.cell? ⟨b,k,none⟩=some v):d6 w V (.slice rows) (.slice (some ⟨b,0,none⟩) rows.length c):=by
 refine .slice (sz:=sz) (λi j=>(cells[i*sz+j]?).getD undef) rfl hc hm h.2.1 (λi row j p hi hj=> ?_) (λi row j p hi hj=> ?_)
 ·obtain⟨v,hv,hp⟩:=h.2.2 i row j p hi hj
  exact⟨b,0,rfl,hb,by rw[zJ3,hv];exact hcell _ _ hv⟩
 ·obtain⟨v,hv,hp⟩:=h.2.2 i row j p hi hj
  rw[hv]
  exact hp
theorem DN (hs:ci w0 U σ ι a w):aV w0.heap.size U ι σ.mem w.heap.size:=
 ⟨.inr hs.below.size,λnm bx hf e=>by have:=((hs.box _ _ hf).block e).2;omega⟩
theorem Gs (hs:ci w0 U σ ι a w) {sz n:Nat}: ∀{k:Nat} {parts:List (Nat×Operand)} {rs:List AX} {acc:List (List PC)} {cells:Array Value} {R:List (List PC)→Prop},xJ k parts=some rs→bC.bsliceW σ sz rs acc R→acc.length=k→k+rs.length=n→cells.size=n*sz→
  cZ w (aV w0.heap.size U ι σ.mem) sz acc (cells.toList.take (k*sz))→ ∃cells' rows,Instr.fill (λi=>some (i*sz,sz)) cells (parts.map λ(i,x)=>(i,a.eval x))=some cells'∧cZ w (aV w0.heap.size U ι σ.mem) sz rows cells'.toList∧rows.length=n∧R rows
 |k, [],rs,acc,cells,R,hp,h,hl,HS,W,hc=>by
  cases hp
  simp at HS
  subst HS
  exact⟨cells,acc,rfl,by rw[zB6 zR8]at hc;exact hc,hl,h⟩
 |k,(i,x)::parts,rs,acc,cells,R,hp,h,hl,HS,W,hc=>by
  unfold xJ at hp
  split at hp
  ·rename_i hik
   subst hik
   split at hp
   ·rename_i y ys h2 h3
    cases hp
    simp only[bC.bsliceW]at h
    split at h
    ·rename_i zs e
     obtain⟨r,hr,ga,h⟩:=h
     have hz:=(aq h2 hs).cells e
     have HG:=RA hz hr
     have hzl:=hz.length
     have e0:=zD0 (xs:=(a.eval x).cells)
     have e00:=zD0 (xs:=cells)
     simp only[zG2]at HS
     have hM:i*sz+sz≤n*sz:=by
      have:(i+1)*sz≤n*sz:=zG3 _ zR5
      rw[zJ4]at this
      exact this
     have hol:(over cells.toList (i*sz) (a.eval x).cells.toList).length=cells.toList.length:=GO zR8
     obtain⟨cells',rows,hf,h4,h5,hR⟩:=Gs hs (n:=n) (cells:=(over cells.toList (i*sz) (a.eval x).cells.toList).toArray) h3 h (by simp[hl]) zR5 (by simp only[zK7,hol,zD0,W]) (by
      have e1:(over cells.toList (i*sz) (a.eval x).cells.toList).take ((i+1)*sz)=cells.toList.take (i*sz)++(a.eval x).cells.toList:=by
       unfold over
       rw[zE4,zJ4]
       have e2:(cells.toList.take (i*sz)).length=i*sz:=by simp;omega
       rw[zL2,e2,zB6 zR5,zL6,zL2,zB6 (l:=(a.eval x).cells.toList) zR8]
       have e3:sz-(a.eval x).cells.toList.length=0:=by simp;omega
       rw[e3]
       simp
      simp only[zJ9]at e1 ⊢
      rw[e1]
      exact hc.append (cZ.one HG (by have:=HG.length;omega)))
     refine⟨cells',rows, ?_,h4,h5,hR⟩
     rw[zB8,FG rfl zR5 zR5]
     exact hf
    ·exact h.elim
   ·cases hp
  ·cases hp
theorem WA {t:TypeId} {n e bytes:Nat} {rs:List AX} {z:Value} (ho:o.op= .buildSlice t n parts) (ht:eP P t=some (e,sz,bytes)) (hr:xJ 0 parts.toList=some rs) (hl:rs.length=n) (hm:n*sz≤16777216) (h0:0<sz) (hz:dZ P e=some z) (O:z.cells.size=sz)
  (h:bC P (.bslice sz rs) σ K) (hs:ci w0 U σ ι a w) (hn:fS w0 U a o K next):o.wp P a w next Q:=by
 simp only[bC]at h
 unfold eP dZ at*
 split at ht
 ·rename_i e' hd
  cases hi:P.info? e' with
  |none=>simp[hi]at ht
  |some inf=>
   simp[hi]at ht
   obtain⟨rfl,rfl,_⟩:=ht
   simp[hi]at hz
   let base:Array Value:=(Array.range (n*inf.size)).map (λk=>(if n*inf.size=0 then #[]else z.cells)[k%(if n*inf.size=0 then #[]else z.cells).size]!)
   have gb:base.size=n*inf.size:=by simp[base]
   obtain⟨cells',rows,hf,h4,h5,hR⟩:=Gs hs (n:=n) (cells:=base) hr h rfl zR5 gb (by simp;exact cZ.nil)
   have hg:Below w.heap.size w (w.alloc (.cells cells' e')):=(Below.refl _ _).alloc (zB2 _) _
   have hX:d6 (w.alloc (.cells cells' e')) (aV w0.heap.size U ι σ.mem) (.slice rows) (.slice (some ⟨w.heap.size,0,none⟩) rows.length rows.length):=by
    refine(h4.mono (λ_ _ h=>h) (λb hb _=>hg.block b hb)).slice (DN hs) (zB2 _) (by have:n*1≤n*inf.size:=Nat.mul_le_mul_left _ h0;omega) λk v hk=> ?_
    rw[RU (heap_alloc_new _ _)]
    exact hk
   rw[h5]at hX
   refine aA (w':=w.alloc (.cells cells' e')) ?_ (hn _ σ ι _ _ hR (hs.grow hg) (.c (.tsl hX)))
   have h6:Instr.fill (λi=>some (i*inf.size,inf.size)) base (parts.map λ(i,x)=>(i,a.eval x)).toList=some cells':=by
    rw[zR2];exact hf
   by_cases HB:n*inf.size=0
   ·simp only[base,HB,if_true]at h6
    have e1: ¬(16777216<n*inf.size):=by omega
    simp[execOp,ho,Instr.buildSlice,run_underlying hd,sizeOf,typeInfo,hi,HB,newRow]
    simp[Array.range_zero']at h6
    simp[h6,Array.range_zero']
    try rfl
   ·simp only[base,HB,if_false]at h6
    have e1: ¬(16777216<n*inf.size):=by omega
    simp[execOp,ho,Instr.buildSlice,run_underlying hd,sizeOf,typeInfo,hi,HB,newRow,zeroValue,hz,e1]
    simp at h6
    simp[h6]
    try rfl
 ·cases ht
end
open Go.RowKit
section
variable {P : Program} {o : Oper} {a : Act} {w w0 : World} {U : Gh} {ι : Pl} {σ : St} {next : Act → World → Prop} {Q : Exit → Act → World → Prop} {K : AV → St → Prop}
variable {z:Array Value}
theorem Oh {m k:Nat} (h:k<m):(madeCells z m).toList[k]? =some (z[k%z.size]!):=by
 unfold madeCells
 simp[h]
variable {sz:Nat}
theorem abk {i j:Nat} (h:j<sz):(i*sz+j)%sz=j:=by
 rw[Nat.add_comm,Nat.add_mul_mod_self_right,Nat.mod_eq_of_lt h]
theorem XH {i n j:Nat} (hi:i<n) (hj:j<sz):i*sz+j<n*sz:=by
 have:(i+1)*sz≤n*sz:=zG3 _ hi
 rw[zJ4]at this
 omega
variable {V:Nat→Prop}{zs:List PC}
theorem cZ.made {n:Nat} (hz:bf (d6 w V) zs z.toList) (hs:z.size=sz):cZ w V sz (List.replicate n zs) (madeCells z (n*sz)).toList:=by
 have hl:zs.length=sz:=by rw[hz.length,zD0,hs]
 refine⟨by simp[madeCells],λi row hi=> ?_,λi row j p hi hj=> ?_⟩
 ·have:=zF0 hi
  rw[List.mem_replicate]at this
  rw[this.2,hl]
 ·have HN:i<n:=by have:=(zB7.1 hi).1;simpa using this
  have:=zF0 hi
  rw[List.mem_replicate]at this
  obtain⟨_,rfl⟩:=this
  obtain⟨v,hv,hp⟩:=hz.get hj
  have HF:j<sz:=by rw[←hl];exact(zB7.1 hj).1
  refine⟨v, ?_,hp⟩
  rw[Oh (XH HN HF),hs,abk HF,←hv]
  simp[hs,HF]
theorem TP {t e:TypeId} {bytes l:Nat} {z:Value} (ho:o.op= .makeSlice t (.tmp l) (.tmp l)) (ht:eP P t=some (e,sz,bytes)) (h0:0<sz) (hz:dZ P e=some z) (O:z.cells.size=sz) (HG:tA z.cells.toList=some zs)
  (h:bC P (.mkslice e sz bytes zs (.t l)) σ K) (hs:ci w0 U σ ι a w) (hn:fS w0 U a o K next):o.wp P a w next Q:=by
 have r1:=aq (x:= .tmp l) rfl hs
 simp only[bC]at h
 unfold eP dZ at*
 split at ht
 ·rename_i e' hd
  cases hi:P.info? e' with
  |none=>simp[hi]at ht
  |some inf=>
   simp[hi]at ht
   obtain⟨rfl,rfl,rfl⟩:=ht
   simp[hi]at hz
   split at h
   ·rename_i n en
    rw[en]at r1
    have e1:=(aU r1).1
    obtain⟨⟨HB,hm,hb⟩,h⟩:=h
    have D:=run_make (P:=P) w t e' inf z hd hi hz .i64 .i64 n n HB (zN4 _) hb zR5
    have hg:Below w.heap.size w (w.alloc (.cells (madeCells z.cells (n.toNat*inf.size)) e')):=(Below.refl _ _).alloc (zB2 _) _
    obtain⟨ι',h1,h2,h3,h4⟩:=hs.newBox (pv:= .slice (some ⟨w.heap.size,0,none⟩) n.toNat n.toNat) (bx:= .arr e' inf.size (List.replicate n.toNat zs)) hg (λb hb=>by simp[fE]at hb;omega) (λι' e1 e2 C=>by
     refine⟨(madeCells z.cells (n.toNat*inf.size)).toList,h0, ?_,by simp;omega,cZ.made (Fj HG) O⟩
     rw[e2,List.length_replicate]
     refine⟨by simp[madeCells],.inr ⟨w.heap.size,n.toNat,madeCells z.cells (n.toNat*inf.size),rfl,hs.below.size,heap_alloc_new _ _,zB2 _,by unfold maxLen;omega,by simp[madeCells], ?_⟩⟩
     exact zB6 (by simp[madeCells]))
    refine aA (u:=ι' σ.nx) (w':=w.alloc (.cells (madeCells z.cells (n.toNat*inf.size)) e')) ?_ (hn _ _ ι' _ _ h h1 (.c (.ref (zF6 _) ⟨_,_,_,h2⟩)))
    rw[h2]
    simp only[execOp,ho,e1,Sem.run_bind,D]
    rfl
   ·exact h.elim
 ·cases ht
theorem d6.part {n c l h m:Nat} {rows:List (List PC)} {ad:Option Addr} (hp:d6 w V (.slice rows) (.slice ad n c)) (J:dO sz rows) (hlh:l≤h) (hhn:h≤rows.length) (hhm:h≤m):
  d6 w V (.slice ((rows.take h).drop l)) (.slice (if m=l then ad else ad.map (·.add (l*sz))) (h-l) (m-l)):=by
 cases hp with
 | @slice sz' _ _ _ _ g hn hc hm hr hcell hp=>
  have hss: ∀(i:Nat) row,rows[i]? =some row→sz'=sz:= λi row hi=>by rw[←hr i row hi];exact J row (zF0 hi)
  have hF: ∀i row,((rows.take h).drop l)[i]? =some row→rows[l+i]? =some row:=by
   intro i row hi
   rw[zH5]at hi
   have:=(zB7.1 hi).1
   rw[zJ6 (by simp at this;omega)]at hi
   exact hi
  refine .slice (λi j=>g (l+i) j) zR8 zR5 zR5 (λi row hi=>hr _ row (hF i row hi)) (λi row j p hi hj=> ?_) (λi row j p hi hj=>hp _ row j p (hF i row hi) hj)
  have HN:i<h-l:=by have:=(zB7.1 hi).1;simp at this;omega
  obtain⟨b,off,rfl,hb,g7⟩:=hcell _ row j p (hF i row hi) hj
  rw[if_neg zR5]
  have:=hss _ row (hF i row hi)
  subst this
  refine⟨b,off+l*sz',by simp[ju],hb, ?_⟩
  rw[←g7,zM4]
  congr 2
  omega
theorem ua {x:Option Operand} {y:Option AX} {r:Option Int} (h:pW x=some y) (hs:ci w0 U σ ι a w) (hb:bC.boundOf σ y=some r):(x.map a.eval=none∧r=none)∨ ∃k i,(x.map a.eval)=some (.int k i)∧r=some i:=by
 cases x with
 |none=>
  cases h
  left
  simp[bC.boundOf]at hb
  exact⟨rfl,hb.symm⟩
 |some x=>
  simp[pW]at h
  obtain⟨z,hz,rfl⟩:=h
  have r1:=aq hz hs
  simp only[bC.boundOf]at hb
  split at hb
  ·rename_i k i e
   cases hb
   rw[e]at r1
   exact .inr ⟨k,i,by simp[(aU r1).1],rfl⟩
  ·cases hb
theorem iN {k:IntKind} {i:Int} {y:Nat} {code:BoundsCode} (h0:0≤i) (h1:i≤y):(Instr.sliceBound (.int k i) y code).run P w= .ok i.toNat w:=by
 simp[Instr.sliceBound,asIntOf,h0,h1]
theorem JO {b:Bool} {n c:Nat} {lo hi mx:Option Value} {l h m:Option Int} (z4:(lo=none∧l=none)∨ ∃k i,lo=some (.int k i)∧l=some i) (hhi:(hi=none∧h=none)∨ ∃k i,hi=some (.int k i)∧h=some i)
  (hmx:(mx=none∧m=none)∨ ∃k i,mx=some (.int k i)∧m=some i) (g1:0≤l.getD 0) (g2:l.getD 0≤h.getD n) (g3:h.getD n≤m.getD n) (g4:m.getD n≤n) (hc:n≤c) (hm:m.isSome=true→h.isSome=true):
  (Instr.sliceBounds b n c lo hi mx).run P w= .ok ((l.getD 0).toNat,(h.getD n).toNat,(m.map Int.toNat).getD c) w:=by
 rcases z4 with⟨rfl,rfl⟩|⟨kl,l,rfl,rfl⟩<;>rcases hhi with⟨rfl,rfl⟩|⟨kh,h,rfl,rfl⟩<;>rcases hmx with⟨rfl,rfl⟩|⟨km,m,rfl,rfl⟩<;>simp only[zD3,zA8]at g1 g2 g3 g4
 all_goals first
  |(simp at hm;done)
  |skip
 ·simp[Instr.sliceBounds]
 ·unfold Instr.sliceBounds
  simp[iN (P:=P) (w:=w) (show 0≤h by omega) (show h≤(c:Int) by omega)]
 ·unfold Instr.sliceBounds
  have e1:=iN (P:=P) (w:=w) (k:=km) (code:=if b=true then .slice3Acap else .slice3Alen) (show 0≤m by omega) (show m≤(c:Int) by omega)
  have e2:=iN (P:=P) (w:=w) (k:=kh) (code:= .slice3B) (show 0≤h by omega) (show h≤(m.toNat:Int) by omega)
  simp[e1,e2]
 ·unfold Instr.sliceBounds
  have e1:=iN (P:=P) (w:=w) (k:=kl) (code:= .sliceB) (show 0≤l by omega) (show l≤(n:Int) by omega)
  simp[e1]
 ·unfold Instr.sliceBounds
  have e1:=iN (P:=P) (w:=w) (k:=kh) (code:=if b=true then .sliceAcap else .sliceAlen) (show 0≤h by omega) (show h≤(c:Int) by omega)
  have e2:=iN (P:=P) (w:=w) (k:=kl) (code:= .sliceB) (show 0≤l by omega) (show l≤(h.toNat:Int) by omega)
  simp[e1,e2]
 ·unfold Instr.sliceBounds
  have e1:=iN (P:=P) (w:=w) (k:=km) (code:=if b=true then .slice3Acap else .slice3Alen) (show 0≤m by omega) (show m≤(c:Int) by omega)
  have e2:=iN (P:=P) (w:=w) (k:=kh) (code:= .slice3B) (show 0≤h by omega) (show h≤(m.toNat:Int) by omega)
  have e3:=iN (P:=P) (w:=w) (k:=kl) (code:= .slice3C) (show 0≤l by omega) (show l≤(h.toNat:Int) by omega)
  simp[e1,e2,e3]
variable {x:Operand}
theorem aaL {t:TypeId} {lo hi:Option Operand} {y:AX} {l h':Option AX} (ho:o.op= .slice t x lo hi none) (ht:P.underlying t=some .string) (hx:aC x=some y) (hl:pW lo=some l) (hh:pW hi=some h')
  (h:bC P (.slcS y l h') σ K) (hs:ci w0 U σ ι a w) (hn:fS w0 U a o K next):o.wp P a w next Q:=by
 have r1:=aq hx hs
 simp only[bC]at h
 split at h
 ·rename_i s lo' h9 e e1 e2
  rw[e]at r1
  have es:=(aU r1).1
  obtain⟨⟨g1,g2,g3⟩,h⟩:=h
  have b1:=ua hl hs e1
  have b2:=ua hh hs e2
  have D:=JO (P:=P) (w:=w) (b:=false) (n:=s.size) (c:=s.size) (lo:=lo.map a.eval) (hi:=hi.map a.eval) (mx:=none) (m:=none) b1 b2 (.inl ⟨rfl,rfl⟩) g1 g2 g3 zR6 (zB2 _) zR6
  refine aA (w':=w) ?_ (hn _ σ ι _ w h hs (rb rfl))
  simp[execOp,ho,es,Instr.sliceAt,Instr.slice,run_underlying ht,D]
 ·exact h.elim
theorem adc {t e:TypeId} {bytes:Nat} {lo hi mx:Option Operand} {y:AX} {l h' m:Option AX} (ho:o.op= .slice t x lo hi mx) (ht:eP P t=some (e,sz,bytes)) (hx:aC x=some y) (hl:pW lo=some l) (hh:pW hi=some h') (hm:pW mx=some m) (hhm:mx.isSome=true→hi.isSome=true)
  (h:bC P (.slc sz y l h' m) σ K) (hs:ci w0 U σ ι a w) (hn:fS w0 U a o K next):o.wp P a w next Q:=by
 have r1:=aq hx hs
 simp only[bC]at h
 split at h
 ·exact h.elim
 ·rename_i nref
  obtain⟨rows,e0,lo',e1,h9,e2,mx',e3,⟨HH,g1,g2,g3,g4⟩,h⟩:=h
  have b1:=ua hl hs e1
  have b2:=ua hh hs e2
  have b3:=ua hm hs e3
  obtain⟨ad,c,eu,hc,Hk⟩:=L0 hs r1 e0
  have hX:d6 w (aV w0.heap.size U ι σ.mem) (.slice rows) (.slice ad rows.length c):=by
   unfold gd at e0
   generalize AX.ev σ.fr y=v at*
   split at e0
   ·cases e0
    cases r1 with|c r1=>cases r1 with|pure r1=>rw[eu]at r1;exact r1
   ·cases e0
    cases r1 with|c r1=>
     rw[eu]at r1
     cases r1 with|tsl r1=>exact r1
   ·cases e0
    cases r1 with|c r1=>
     rw[eu]at r1
     cases r1
     exact .nil
   ·exact absurd rfl (nref _)
   ·cases e0
  unfold eP at ht
  split at ht
  ·rename_i e' hd
   cases q3:P.info? e' with
   |none=>simp[q3]at ht
   |some inf=>
    simp[q3]at ht
    obtain⟨rfl,rfl,_⟩:=ht
    have hP:mx'.isSome=true→h9.isSome=true:=by
     intro h1
     have h2:mx.isSome=true:=by
      rcases b3 with⟨_,h3⟩|⟨k,i,h3,_⟩
      ·rw[h3]at h1;cases h1
      ·cases mx with
       |none=>cases h3
       |some _=>rfl
     have h4:=hhm h2
     rcases b2 with⟨h5,_⟩|⟨k,i,_,h5⟩
     ·cases hi with
      |none=>cases h4
      |some _=>cases h5
     ·rw[h5];rfl
    have D:=JO (P:=P) (w:=w) (b:=true) (n:=rows.length) (c:=c) b1 b2 b3 g1 g2 g3 g4 hc hP
    have q4:=hX.part HH (l:=(lo'.getD 0).toNat) (h:=(h9.getD rows.length).toNat) (m:=(mx'.map Int.toNat).getD c) zR5 zR5 (by cases mx' with|none=>simp at g3 ⊢;omega|some m=>simp at g3 ⊢;omega)
    refine aA (u:= .slice (if((mx'.map Int.toNat).getD c)=(lo'.getD 0).toNat then ad else ad.map (·.add ((lo'.getD 0).toNat*inf.size))) ((h9.getD rows.length).toNat-(lo'.getD 0).toNat) (((mx'.map Int.toNat).getD c)-(lo'.getD 0).toNat)) (w':=w) ?_ (hn _ σ ι _ w h hs ?_)
    ·simp only[execOp,ho,Sem.run_bind,Instr.sliceAt,Instr.slice,run_underlying hd,Result.andThen_ok,eu,D,sizeOf,typeInfo,run_program,q3,Sem.run_pure]
    ·split
     ·rename_i hms
      obtain⟨hm1,hm2⟩:=hms
      cases mx' with
      |none=>cases hm1
      |some m=>
       subst hm2
       exact .c (.tsl q4)
     ·exact .c (.pure q4)
  ·cases ht
end
open Go.RowKit
section
variable {P : Program} {o : Oper} {a : Act} {w w' w0 : World} {U : Gh} {ι : Pl} {σ : St} {next : Act → World → Prop} {Q : Exit → Act → World → Prop} {K : AV → St → Prop}
theorem vO {nm t:Nat}: ∀{m:List (Nat×bP)},ar (M9 m nm) t=if t=nm then none else ar m t
 | []=>by simp[M9,ar]
 |(s,b)::m=>by
  simp only[M9]
  by_cases e:s=nm
  ·rw[if_pos e,vO,im]
   by_cases e2:t=nm
   ·rw[if_pos e2,if_pos e2]
   ·rw[if_neg e2,if_neg e2,if_neg zR5]
  ·rw[if_neg e,im,im,vO]
   by_cases e2:t=nm
   ·rw[if_pos e2,if_pos e2,if_neg zR5]
   ·rw[if_neg e2,if_neg e2]
theorem ci.replace (hs:ci w0 U σ ι a w) {nm e sz:Nat} {rows rows':List (List PC)} {pv:Value} {cells:List Value} (hf:ar σ.mem nm=some (.arr e sz rows)) (hg:w.grownBy w' (fE (ι nm)))
  (hpv: ∀b,fE pv=some b→fE (ι nm)=some b∨w.heap.size≤b) (hsl: ∃a n c,pv= .slice a n c) (h0:0<sz) (how:w'.ownsRow w0.heap.size e sz pv rows'.length cells) (hm:rows'.length≤9223372036854775807)
  (hrows:cZ w (aV w0.heap.size U ι σ.mem) sz rows' cells) (z5:Below w0.heap.size w0 w'):
  ∃ι',ι' σ.nx=pv∧σ.nx<σ.nx+1∧ci w0 U {σ with mem:=(σ.nx,.arr e sz rows')::M9 σ.mem nm,nx:=σ.nx+1} ι' a w':=by
 let ι':Pl:= λn=>if n=σ.nx then pv else ι n
 have e1:ι' σ.nx=pv:=if_pos rfl
 have e2: ∀m,m<σ.nx→ι' m=ι m:= λm hm=>if_neg zR5
 let mem':=(σ.nx,bP.arr e sz rows')::M9 σ.mem nm
 have HK: ∀n bx,ar mem' n=some bx→(n=σ.nx∧bx= .arr e sz rows')∨(n≠nm∧n<σ.nx∧ar σ.mem n=some bx):=by
  intro n bx h
  simp only[mem',im,vO]at h
  by_cases en:σ.nx=n
  ·rw[if_pos en]at h
   cases h
   exact .inl ⟨en.symm,rfl⟩
  ·rw[if_neg en]at h
   by_cases en':n=nm
   ·rw[if_pos en']at h;cases h
   ·rw[if_neg en']at h
    exact .inr ⟨en',hs.names _ _ h,h⟩
 have C: ∀b,b<w.heap.size→aV w0.heap.size U ι σ.mem b→aV w0.heap.size U ι' mem' b:=by
  intro b hb h
  refine⟨h.1,λn bx hn=> ?_⟩
  rcases HK n bx hn with⟨rfl,_⟩|⟨h1,h2,h3⟩
  ·rw[e1]
   intro hc
   rcases hpv b hc with h2|h2
   ·exact h.2 _ _ hf h2
   ·omega
  ·rw[e2 n h2]
   exact h.2 _ _ h3
 have hw: ∀b,b<w.heap.size→aV w0.heap.size U ι σ.mem b→w'.heap[b]? =w.heap[b]? := λb hb h=>hg.block b hb (λe=>h.2 _ _ hf e.symm)
 refine⟨ι',e1,zF6 _,⟨λt=> ?_,hs.defers,λn bx hn=> ?_,λn bx hn=> ?_,λn n' b1 b2 b h1 h2 h3 h4=> ?_,z5,U.mono _ _ _ _ hs.keep C hw,
  ⟨Nat.le_succ_of_le hs.base.1,λm hm=>(e2 m (zH1 hm hs.base.1)).trans (hs.base.2 m hm)⟩⟩⟩
 ·exact(hs.val t).mono C hw e2 (zN3 _)
 ·show n<σ.nx+1
  rcases HK n bx hn with⟨rfl,_⟩|⟨h1,h2,h3⟩<;>omega
 ·rcases HK n bx hn with⟨rfl,rfl⟩|⟨h1,h2,h3⟩
  ·exact⟨cells,h0,by rw[e1];exact how,hm,hrows.mono C hw⟩
  ·have hS: ∀c,fE (ι n)=some c→fE (ι nm)≠some c:= λc hc e'=>h1 (hs.apart _ _ _ _ c h3 hf hc e')
   have HM:=hs.box _ _ h3
   cases bx with
   |var xs=>
    obtain⟨b',vs,T,g1,g2,g3,g4⟩:=HM
    refine⟨b',vs,T,by rw[e2 n h2];exact g1,g2, ?_,g4.mono λ_ _ h=>h.mono C hw e2 (zN3 _)⟩
    rw[hg.block b' (zC6.1 g3).1 (λe=>hS b' (by rw[g1];rfl) e.symm)]
    exact g3
   |arr e' sz' rows0=>
    obtain⟨cells',k0,k1,k2,k3⟩:=HM
    refine⟨cells',k0, ?_,k2,k3.mono C hw⟩
    rw[e2 n h2]
    refine World.ownsRow.kept k1 hg ?_
    rcases k1.2 with⟨h,_⟩|⟨g,cap,cur,h,_⟩
    ·rw[h];exact .inl rfl
    ·right
     rw[h]
     intro e'
     exact hS g (by rw[h];rfl) e'.symm
   |arn e' sz' rows0=>
    obtain⟨cells',k0,k1,k2,k3⟩:=HM
    refine⟨cells',k0, ?_,k2,k3.mono C hw e2 (zN3 _)⟩
    rw[e2 n h2]
    refine World.ownsRow.kept k1 hg ?_
    rcases k1.2 with⟨h,_⟩|⟨g,cap,cur,h,_⟩
    ·rw[h];exact .inl rfl
    ·right
     rw[h]
     intro e'
     exact hS g (by rw[h];rfl) e'.symm
   |map kt m ents=>
    obtain⟨b',es,clock,k1,k2,k3,k4,k5⟩:=HM
    refine⟨b',es,clock,by rw[e2 n h2];exact k1,k2, ?_,k4.mono λ_ _ h=>h.mono C hw e2 (zN3 _),k5⟩
    rw[hg.block b' (zC6.1 k3).1 (λe=>hS b' (by rw[k1];rfl) e.symm)]
    exact k3
 ·rcases HK n b1 h1 with⟨rfl,_⟩|⟨k1,k2,k3⟩
  ·rcases HK n' b2 h2 with⟨rfl,_⟩|⟨k1',k2',k3'⟩
   ·rfl
   ·rw[e1]at h3
    rw[e2 _ k2']at h4
    rcases hpv b h3 with h5|h5
    ·exact absurd (hs.apart _ _ _ _ b k3' hf h4 h5) k1'
    ·have:=((hs.box _ _ k3').block h4).2
     omega
  ·rw[e2 _ k2]at h3
   rcases HK n' b2 h2 with⟨rfl,_⟩|⟨k1',k2',k3'⟩
   ·rw[e1]at h4
    rcases hpv b h4 with h5|h5
    ·exact absurd (hs.apart _ _ _ _ b k3 hf h3 h5) k1
    ·have:=((hs.box _ _ k3).block h3).2
     omega
   ·rw[e2 _ k2']at h4
    exact hs.apart _ _ _ _ b k3 k3' h3 h4
end
open Go.RowKit
section
variable {P : Program} {o : Oper} {a : Act} {w w' w0 : World} {U : Gh} {ι : Pl} {σ : St} {next : Act → World → Prop} {Q : Exit → Act → World → Prop} {K : AV → St → Prop}
variable {V:Nat→Prop}{sz:Nat}{rows:List (List PC)}
theorem cZ.ones {cells:List Value} (h:cZ w V sz rows cells) (h0:0<sz): ∀v∈cells,v.oneCell'=true:=by
 intro v hv
 obtain⟨k,hk,e⟩:=zC2.1 hv
 have hkr:k/sz<rows.length:=by
  rw[Nat.div_lt_iff_lt_mul h0,←h.1];exact hk
 have F:=zA7 hkr
 have hl:=h.2.1 _ _ F
 have hj:k%sz<(rows[k/sz]).length:=by rw[hl];exact zI3 _ h0
 obtain⟨u,hu,hp⟩:=h.2.2 _ _ _ _ F (zA7 hj)
 rw[Nat.mul_comm,zL8,zA7 hk]at hu
 cases hu
 rw[←e]
 exact hp.one
variable {n:Nat}{ad:Option Addr}
theorem BY {c:Nat} (h:d6 w V (.slice rows) (.slice ad n c)) (HH:dO sz rows) (h0:0<sz) (Z:rows≠ []):
  ∃b off cells,ad=some ⟨b,off,none⟩∧n=rows.length∧(∀(j:Nat) x,cells[j]? =some x→w.cell? ⟨b,off+j,none⟩=some x)∧cZ w V sz rows cells:=by
 cases h with
 | @slice sz' _ _ _ _ g hn hc hm hr hcell hp=>
  obtain rfl:sz=sz':=by
   symm
   have ga:0<rows.length:=zH7.2 Z
   have hG:=zA7 ga
   rw[←hr _ _ hG]
   exact HH _ (zF0 hG)
  have ga:0<rows.length:=zH7.2 Z
  have hG:=zA7 ga
  have hl0:=hr _ _ hG
  obtain⟨b,off,rfl,_⟩:=hcell _ _ 0 _ hG (zA7 zR5)
  refine⟨b,off,(List.range (rows.length*sz)).map λk=>(w.cell? ⟨b,off+k,none⟩).getD undef,rfl,hn,λj x hj=> ?_,by simp,hr,λi row j p hi hj=> ?_⟩
  ·have HF:j<rows.length*sz:=by have:=(zB7.1 hj).1;simpa using this
   simp[zC7,zL3 HF]at hj
   have hkr:j/sz<rows.length:=by rw[Nat.div_lt_iff_lt_mul h0];exact HF
   have F:=zA7 hkr
   have hl:=hr _ _ F
   have hj':j%sz<(rows[j/sz]).length:=by rw[hl];exact zI3 _ h0
   obtain⟨b',off',e',_,gn⟩:=hcell _ _ _ _ F (zA7 hj')
   cases e'
   rw[Nat.mul_comm,zL8]at gn
   rw[gn]at hj ⊢
   simpa using hj
  ·have HN:i<rows.length:=(zB7.1 hi).1
   have HF:j<sz:=by rw[←hr i row hi];exact(zB7.1 hj).1
   obtain⟨b',off',e',_,gn⟩:=hcell i row j p hi hj
   cases e'
   exact⟨g i j,by simp[zC7,zL3 (XH HN HF),gn],hp i row j p hi hj⟩
theorem WH {B e:Nat} {v:Value} {cells:List Value} (h:w.ownsRow B e sz v n cells) (hn:0<n): ∃b c,v= .slice (some ⟨b,0,none⟩) n c∧ ∀(j:Nat) x,cells[j]? =some x→w.cell? ⟨b,0+j,none⟩=some x:=by
 have h':=h
 rcases h.2 with⟨_,e⟩|⟨g,cap,cur,rfl,hb,hg,hD,HO,W,hE⟩
 ·omega
 ·refine⟨g,cap,rfl,λj x hj=> ?_⟩
  have:=World.ownsRow.cells h' (g:=g) rfl j x hj
  rw[ju]at this
  exact this
variable {u:Value}
theorem LM {v:AV} (hs:ci w0 U σ ι a w) (h:aT w (aV w0.heap.size U ι σ.mem) ι σ.nx v u) (hr:gd σ.mem v=some rows) (HH:dO sz rows) (h0:0<sz) (Z:rows≠ []):
  ∃b off c cells,u= .slice (some ⟨b,off,none⟩) rows.length c∧(∀(j:Nat) x,cells[j]? =some x→w.cell? ⟨b,off+j,none⟩=some x)∧cZ w (aV w0.heap.size U ι σ.mem) sz rows cells:=by
 unfold gd at hr
 split at hr
 ·cases hr
  cases h with|c h=>cases h with|pure h=>
   have h':=h
   cases h with
   |slice g hn hc hm _ _ _=>
    obtain⟨b,off,cells,rfl,rfl,h1,h2⟩:=BY h' HH h0 Z
    exact⟨b,off,_,cells,rfl,h1,h2⟩
 ·cases hr
  cases h with|c h=>cases h with|tsl h=>
   obtain⟨b,off,cells,rfl,rfl,h1,h2⟩:=BY h HH h0 Z
   exact⟨b,off,_,cells,rfl,h1,h2⟩
 ·cases hr
  exact absurd rfl Z
 ·split at hr
  ·rename_i nm e sz' rows' hf
   cases hr
   cases h with
   |c h=>cases h with
    |ref hA HP=>
     obtain⟨cells,g0,g1,g2,g3⟩:=hs.box _ _ hf
     obtain⟨b,c,e1,h1⟩:=WH g1 (zH7.2 Z)
     obtain rfl:sz=sz':=by
      symm
      have hG:=zA7 (zH7.2 Z)
      rw[←g3.2.1 _ _ hG]
      exact HH _ (zF0 hG)
     exact⟨b,0,c,cells,e1,h1,g3⟩
  ·cases hr
 ·cases hr
variable {inf:TypeInfo}
theorem jx {t e ty:TypeId} {base:Option Addr} {c c':Nat} (ht:P.underlying t=some (.slice e)) (hi:P.info? e=some inf) (hc:n≤c):
  (Builtin.append_ #[t,t] ty #[.slice base n c,.slice ad 0 c']).run P w= .ok (.slice base n c) w:=by
 cases ad<;>cases base<;>simp[Builtin.append_,run_underlying ht,sizeOf,typeInfo,hi,Builtin.lenOf,Builtin.firstCells,loadCells,loadCellsFrom,hc,storeCells]
theorem QI (z:Array Value) (n:Nat):(Builtin.zeroCells z n).size=n*z.size:=by simp[Builtin.zeroCells]
variable {z:Value}
theorem wB {t e ty:TypeId} {base:Option Addr} {c m c' bytes:Nat} {ad:Addr} {xs news:List Value} {B:Nat} (ht:P.underlying t=some (.slice e)) (hi:P.info? e=some inf) (hz:inf.zero=some z)
  (J:inf.size=sz) (z9:inf.bytes=bytes) (O:z.cells.size=sz) (H7:xs.length=n*sz) (hb:(base=none∧n=0∧c=0)∨ ∃bd,base=some bd∧ ∀(j:Nat) u,xs[j]? =some u→w.cell? (bd.add j)=some u)
  (HC:news.length=m*sz) (hn: ∀(j:Nat) u,news[j]? =some u→w.cell? (ad.add j)=some u) (hfull:c<n+m) (hD:n≤c) (hm:n+m≤9223372036854775807) (hI:(n+m)*bytes≤140737488355328) (hB:B≤w.heap.size):
  ∃cap w',(Builtin.append_ #[t,t] ty #[.slice base n c,.slice (some ad) m c']).run P w= .ok (.slice (some ⟨w.heap.size,0,none⟩) (n+m) cap) w'∧Below w.heap.size w w'∧
   w'.ownsRow B e sz (.slice (some ⟨w.heap.size,0,none⟩) (n+m) cap) (n+m) (xs++news):=by
 subst J
 subst z9
 have key: ∀old,(w.drew.alloc (.cells (xs.toArray++news.toArray++Builtin.zeroCells z.cells (grownCap w (n+m) old e-(n+m))) e)).ownsRow B e inf.size (.slice (some ⟨w.heap.size,0,none⟩) (n+m) (grownCap w (n+m) old e)) (n+m) (xs++news):=by
  intro old
  have hge:=grownCap_ge w (n+m) old e
  refine⟨by rw[zE8,H7,HC,zM4],.inr ⟨w.heap.size,_,_,rfl,hB,heap_alloc_new w.drew _,hge,grownCap_le_maxLen w (n+m) old e (by unfold maxLen;omega), ?_, ?_⟩⟩
  ·simp only[Array.size_append,zK7,QI,O,H7,HC,←zM4]
   congr 1
   omega
  ·have hl:(xs++news).length=(n+m)*inf.size:=by rw[zE8,H7,HC,zM4]
   simp only[Array.toList_append]
   rw[←hl]
   exact List.take_left
 have Y: ∀ob,Below w.heap.size w (w.drew.alloc ob):= λob=>(Below.refl _ _).drew.alloc (zB2 _) ob
 rcases hb with⟨rfl,rfl,rfl⟩|⟨bd,rfl,hbd⟩
 ·have hx0:xs= []:=zG4 (by simpa using H7)
  subst hx0
  have hr:=run_append_nil (P:=P) w t ty e inf z ht hi hz ad m c' news HC hn zR5 zR5 (by have:=hI;simp only[zJ3]at this;omega)
  have hk:=key 0
  simp only[zJ3,zD4,Array.empty_append]at hk ⊢
  exact⟨_,_,hr,Y _,hk⟩
 ·have hr:=run_append_grow (P:=P) w t ty e inf z ht hi hz bd n c xs H7 hbd ad m c' news HC hn zR5 zR5 (growslice_fits zR5 hI)
  exact⟨_,_,hr,Y _,key c⟩
variable {N:Nat}
theorem SJ {nm:Nat} (h:aT w V ι N (.c (.ref nm)) u):u=ι nm:=by
 cases h with|c h=>cases h;rfl
theorem tX (h:aT w V ι N (.c .nils) u):u= .slice none 0 0:=by
 cases h with|c h=>cases h;rfl
theorem ZW (h:aT w V ι N (.c (.tsl rows)) u): ∃ad,u= .slice ad rows.length rows.length∧d6 w V (.slice rows) u:=by
 cases h with|c h=>cases h with|tsl h=>
  have h':=h
  cases h with|slice g hn=>subst hn;exact⟨_,rfl,h'⟩
theorem KQ {B e b c:Nat} {cells:List Value} (h:w.ownsRow B e sz (.slice (some ⟨b,0,none⟩) n c) n cells) (hn:n=rows.length) (hr:cZ w V sz rows cells) (hb:V b) (hm:n≤9223372036854775807):d6 w V (.slice rows) (.slice (some ⟨b,0,none⟩) n c):=by
 subst hn
 have h':=h
 rcases h.2 with⟨e,_⟩|⟨g,cap,cur,e,hBg,hg,hD,_⟩
 ·cases e
 ·simp at e
  obtain⟨rfl,rfl⟩:=e
  refine hr.slice hb hD hm λk v hk=> ?_
  have:=World.ownsRow.cells h' (g:=b) rfl k v hk
  rw[ju,zJ3]at this
  exact this
theorem acB {t e bytes:Nat} {x y:Operand} {p q:AX} {c:Call} (hc:c.callee= .builtin .append) (X:c.args.toList= [x,y]) (HZ:c.argTypes.toList= [t,t]) (ho:o.op= .call c) (ht:eP P t=some (e,sz,bytes)) (h0:0<sz)
  (hz:dZ P e=some z) (O:z.cells.size=sz) (hx:aC x=some p) (hy:aC y=some q) (h:bC P (.app e sz bytes p q) σ K) (hs:ci w0 U σ ι a w) (hn:fS w0 U a o K next):o.wp P a w next Q:=by
 have r1:=aq hx hs
 have r2:=aq hy hs
 have ha:c.args= #[x,y]:=by rw[←zH2 (xs:=c.args),X]
 have gt:c.argTypes= #[t,t]:=by rw[←zH2 (xs:=c.argTypes),HZ]
 have D: ∀{v':Value} {w':World},(Builtin.append_ #[t,t] o.type #[a.eval x,a.eval y]).run P w= .ok v' w'→(execOp a.eval o).run P w= .ok (.value v') w':=by
  intro v' w' hr
  simp[execOp,ho,resolve,hc,invoke,builtin,ha,gt,hr]
 unfold eP dZ at*
 split at ht
 ·rename_i e' hd
  cases hi:P.info? e' with
  |none=>simp[hi]at ht
  |some inf=>
   simp[hi]at ht
   obtain⟨rfl,J,z9⟩:=ht
   simp[hi]at hz
   simp only[bC,Nn]at h
   obtain⟨ys,HT,HH,h⟩:=h
   obtain⟨ady,cy,ey,hcy,hmy⟩:=L0 hs r2 HT
   generalize hvx:AX.ev σ.fr p=vx at*
   generalize hvy:AX.ev σ.fr q=vy at*
   have hB:=hs.below.size
   have fresh: ∀{rows:List (List PC)} {ad:Option Addr} {xs:List Value},a.eval x= .slice ad rows.length rows.length→xs.length=rows.length*sz→((ad=none∧rows.length=0∧rows.length=0)∨ ∃bd,ad=some bd∧ ∀(j:Nat) u,xs[j]? =some u→w.cell? (bd.add j)=some u)→
     cZ w (aV w0.heap.size U ι σ.mem) sz rows xs→ys≠ []→(rows.length+ys.length)*bytes≤140737488355328→rows.length+ys.length≤140737488355328→((K (.c (.ref σ.nx)) {σ with mem:=(σ.nx,.arr e' sz (rows++ys))::σ.mem,nx:=σ.nx+1})∨K (.c (.pure (.slice (rows++ys)))) σ)→o.wp P a w next Q:=by
    intro rows ad xs ex hxl hb ge hQ hI Hk h
    obtain⟨b,off,cc,news,en,hcn,HD⟩:=LM hs r2 HT HH h0 hQ
    have hml:0<ys.length:=zH7.2 hQ
    have hC:(rows++ys).length=rows.length+ys.length:=zE8
    obtain⟨cap,w',hr,Y,how⟩:=wB (P:=P) (ty:=o.type) (B:=w0.heap.size) (c:=rows.length) (c':=cc) hd hi hz J z9 O hxl hb HD.1 (λj u hj=>by rw[ju];exact hcn j u hj) zR5 (zB2 _) zR5 hI hB
    rw[←ex,←en]at hr
    have hX:=(ge.append HD).mono (w':=w') (λ_ _ h=>h) (λb hb _=>Y.block b hb)
    rcases h with h|h
    ·obtain⟨ι',h1,h2,h3,h4⟩:=hs.newBox (pv:= .slice (some ⟨w.heap.size,0,none⟩) (rows.length+ys.length) cap) (bx:= .arr e' sz (rows++ys)) Y (λb hb=>by simp[fE]at hb;omega) (λι' e1 e2 C=>by
      refine⟨xs++news,h0, ?_,by rw[hC];omega,(ge.append HD).mono C (λb hb _=>Y.block b hb)⟩
      rw[e2,hC]
      exact how)
     refine aA (u:=ι' σ.nx) (w':=w') (D ?_) (hn _ _ ι' _ _ h h1 (.c (.ref (zF6 _) ⟨_,_,_,h2⟩)))
     rw[h2]
     exact hr
    ·refine aA (w':=w') (D hr) (hn _ σ ι _ _ h (hs.grow Y) (.c (.pure ?_)))
     exact KQ how hC.symm hX (DN hs) zR5
   rcases h with⟨nm,rfl,Z,rows,hf,hI,hmax0,h⟩|h
   ·obtain⟨cells,g0,g1,g2,g3⟩:=hs.box _ _ hf
    have eux:a.eval x=ι nm:=SJ r1
    have hA:=hs.names _ _ hf
    by_cases hQ:ys= []
    ·subst hQ
     obtain⟨n',c',ex,hD⟩: ∃ad c',ι nm= .slice ad rows.length c'∧rows.length≤c':=by
      rcases g1.2 with⟨e1,e2⟩|⟨g,cap,cur,e1,_,_,hD,_⟩
      ·exact⟨none,0,by rw[e1,e2],by omega⟩
      ·exact⟨_,cap,e1,hD⟩
     obtain⟨ι',h1,h2,h3⟩:=hs.replace (w':=w) (rows':=rows++ []) (pv:=ι nm) hf ⟨rfl,rfl,rfl,zB2 _,λ_ _ _=>rfl⟩ (λb hb=> .inl hb) ⟨_,_,_,ex⟩ g0 (by simpa using g1) (by simpa using g2) (by simpa using g3) hs.below
     refine aA (u:=ι' σ.nx) (w':=w) (D ?_) (hn _ _ ι' _ _ h h3 (.c (.ref h2 ⟨_,_,_,h1.trans ex⟩)))
     rw[h1,eux,ex,ey]
     exact jx hd hi hD
    ·obtain⟨b,off,cc,news,en,hcn,HD⟩:=LM hs r2 HT HH h0 hQ
     have hml:0<ys.length:=zH7.2 hQ
     have hcn': ∀(j:Nat) u,news[j]? =some u→w.cell? ((⟨b,off,none⟩:Addr).add j)=some u:= λj u hj=>by rw[ju];exact hcn j u hj
     have hC:(rows++ys).length=rows.length+ys.length:=zE8
     have Hk:rows.length+ys.length≤9223372036854775807:=by omega
     have grow: ∀{base:Option Addr} {cx:Nat},ι nm= .slice base rows.length cx→((base=none∧rows.length=0∧cx=0)∨ ∃bd,base=some bd∧ ∀(j:Nat) u,cells[j]? =some u→w.cell? (bd.add j)=some u)→rows.length≤cx→cx<rows.length+ys.length→o.wp P a w next Q:=by
      intro base cx ex hb hM H
      obtain⟨cap,w',hr,Y,how⟩:=wB (P:=P) (ty:=o.type) (B:=w0.heap.size) (c':=cc) hd hi hz J z9 O g1.1 hb HD.1 hcn' H hM Hk hI hB
      obtain⟨ι',h1,h2,h3⟩:=hs.replace (w':=w') (rows':=rows++ys) (pv:= .slice (some ⟨w.heap.size,0,none⟩) (rows.length+ys.length) cap) hf ⟨Y.os,Y.tape,Y.output,Y.size,λk hk _=>Y.block k hk⟩ (λb hb=> .inr (by simp[fE]at hb;omega)) ⟨_,_,_,rfl⟩ g0 (by rw[hC];exact how) (by rw[hC];exact Hk) (g3.append HD) (hs.below.trans (Y.mono hB))
      refine aA (u:=ι' σ.nx) (w':=w') (D ?_) (hn _ _ ι' _ _ h h3 (.c (.ref h2 ⟨_,_,_,h1⟩)))
      rw[h1,eux,ex,en]
      exact hr
     rcases g1.2 with⟨ex,e0⟩|⟨g,cap,cur,ex,hBg,hg,hD,HO,W,hE⟩
     ·exact grow (base:=none) (cx:=0) (by rw[ex,e0]) (.inl ⟨rfl,e0,rfl⟩) zR5 zR5
     ·by_cases gf:rows.length+ys.length≤cap
      ·have hfit:rows.length*inf.size+news.length≤cur.size:=by
        rw[HD.1,J,W,←zM4];exact zG3 _ gf
       have hr:=run_append_room (P:=P) w t o.type e' inf hd hi g rows.length cap cur hg ⟨b,off,none⟩ ys.length cc news (by rw[J];exact HD.1) hcn' (HD.ones h0) gf hfit
       have how:(w.setRow g (cur.toList.take (rows.length*inf.size)++news++cur.toList.drop (rows.length*inf.size+news.length)).toArray).ownsRow w0.heap.size e' sz (.slice (some ⟨g,0,none⟩) (rows.length+ys.length) cap) (rows.length+ys.length) (cells++news):=by
        have hl:(cells++news).length=(rows.length+ys.length)*sz:=by rw[zE8,g1.1,HD.1,zM4]
        refine⟨hl,.inr ⟨g,cap,_,rfl,hBg,setRow_heap _ _ _ _ _ _ hg,gf,HO, ?_, ?_⟩⟩
        ·simp only[zK7,zE8,zI2,List.length_drop,zD0]
         rw[←W]
         omega
        ·rw[zJ9,J,hE,←hl]
         exact List.take_left
       obtain⟨ι',h1,h2,h3⟩:=hs.replace (w':=w.setRow g (cur.toList.take (rows.length*inf.size)++news++cur.toList.drop (rows.length*inf.size+news.length)).toArray) (rows':=rows++ys) (pv:= .slice (some ⟨g,0,none⟩) (rows.length+ys.length) cap) (cells:=cells++news) hf
        ⟨rfl,rfl,rfl,by simp,λk _ hk=>setRow_other _ _ _ _ (λe=>hk (by rw[ex,e];rfl))⟩ (λb hb=> .inl (by rw[ex];exact hb)) ⟨_,_,_,rfl⟩ g0 (by rw[hC];exact how) (by rw[hC];exact Hk) (g3.append HD) (hs.below.trans ⟨rfl,rfl,rfl,by simp,λk hk=>setRow_other _ _ _ _ zR5⟩)
       refine aA (u:=ι' σ.nx) (D ?_) (hn _ _ ι' _ _ h h3 (.c (.ref h2 ⟨_,_,_,h1⟩)))
       rw[h1,eux,ex,en]
       exact hr
      ·exact grow (base:=some ⟨g,0,none⟩) ex (.inr ⟨_,rfl,λj u hj=>World.ownsRow.cells g1 (by rw[ex];rfl) j u hj⟩) hD zR5
   ·rcases h with⟨rfl,h⟩|⟨rows,rfl,hok2,h⟩
    ·have ex:=tX r1
     by_cases hQ:ys= []
     ·subst hQ
      have hr:=jx (P:=P) (w:=w) (ty:=o.type) (base:=none) (n:=0) (c:=0) (ad:=ady) (c':=cy) hd hi (zB2 _)
      rw[←ex]at hr
      have hr':=hr
      rw[show(Value.slice ady 0 cy)=a.eval y from ey.symm]at hr
      rcases h with⟨_,_,h⟩|⟨_,_,h⟩
      ·obtain⟨ι',h1,h2,h3,h4⟩:=hs.newBox (w':=w) (pv:= .slice none 0 0) (bx:= .arr e' sz ([]++ [])) (Below.refl _ _) (λb hb=>by simp[fE]at hb) (λι' e1 e2 C=>⟨[],h0,by rw[e2];exact World.ownsRow_nil _ _ _ _,by simp,cZ.nil⟩)
       refine aA (u:=ι' σ.nx) (w':=w) (D ?_) (hn _ _ ι' _ _ h h1 (.c (.ref (zF6 _) ⟨_,_,_,h2⟩)))
       rw[h2,hr,ex]
      ·refine aA (w':=w) (D hr) (hn _ σ ι _ _ h hs (.c (.pure ?_)))
       rw[ex]
       exact .nil
     ·rcases h with⟨g1,g2,h⟩|⟨g1,g2,h⟩
      ·exact fresh (rows:= []) (xs:= []) ex zR6 (.inl ⟨rfl,rfl,rfl⟩) .nil hQ g1 g2 (.inl h)
      ·exact fresh (rows:= []) (xs:= []) ex zR6 (.inl ⟨rfl,rfl,rfl⟩) .nil hQ g1 g2 (.inr h)
    ·obtain⟨adx,ex,ge⟩:=ZW r1
     rw[ex]at ge
     by_cases hQ:ys= []
     ·subst hQ
      rcases h with⟨h,_⟩|⟨_,_,h⟩|⟨_,h⟩
      ·exact absurd rfl h
      ·have hr:=jx (P:=P) (w:=w) (ty:=o.type) (base:=adx) (n:=rows.length) (c:=rows.length) (ad:=ady) (c':=cy) hd hi (zB2 _)
       rw[←ex,show(Value.slice ady 0 cy)=a.eval y from ey.symm]at hr
       refine aA (w':=w) (D hr) (hn _ σ ι _ _ h hs (.c (.pure ?_)))
       rw[ex,zN7]
       exact ge
      ·have hr:=jx (P:=P) (w:=w) (ty:=o.type) (base:=adx) (n:=rows.length) (c:=rows.length) (ad:=ady) (c':=cy) hd hi (zB2 _)
       rw[←ex,show(Value.slice ady 0 cy)=a.eval y from ey.symm]at hr
       refine aA (w':=w) (D hr) (hn _ σ ι _ _ h hs (.c ?_))
       rw[ex]
       exact .tsl ge
     ·have hb: ∃xs:List Value,xs.length=rows.length*sz∧((adx=none∧rows.length=0∧rows.length=0)∨ ∃bd,adx=some bd∧ ∀(j:Nat) u,xs[j]? =some u→w.cell? (bd.add j)=some u)∧cZ w (aV w0.heap.size U ι σ.mem) sz rows xs:=by
       by_cases hr0:rows= []
       ·subst hr0
        refine⟨[],by simp, ?_,.nil⟩
        cases adx with
        |none=>exact .inl ⟨rfl,rfl,rfl⟩
        |some bd=>exact .inr ⟨bd,rfl,by simp⟩
       ·obtain⟨b,off,xs,rfl,_,hcx,hrr⟩:=BY ge hok2 h0 hr0
        exact⟨xs,hrr.1,.inr ⟨_,rfl,λj u hj=>by rw[ju];exact hcx j u hj⟩,hrr⟩
      obtain⟨xs,h1,h2,h3⟩:=hb
      rcases h with⟨_,g1,g2,h⟩|⟨g1,g2,h⟩|⟨h,_⟩
      ·exact fresh ex h1 h2 h3 hQ g1 g2 (.inl h)
      ·exact fresh ex h1 h2 h3 hQ g1 g2 (.inr h)
      ·exact absurd h hQ
 ·cases ht
end
open Go.RowKit
section
variable {P : Program} {o : Oper} {a : Act} {w w' w0 : World} {U : Gh} {ι : Pl} {σ : St} {next : Act → World → Prop} {Q : Exit → Act → World → Prop} {K : AV → St → Prop}
variable {xs:List AC}{vs:List Value}
theorem bf.ofMem {R:AC→Value→Prop} (h:bf R xs vs) (i:Nat) (x:AC) (hi:xs[i]? =some x):R x (vs[i]?.getD undef):=by
 obtain⟨v,hv,hr⟩:=h.get hi
 rw[hv]
 exact hr
theorem Pc (hs:ci w0 U σ ι a w): ∀{caps:List Operand} {xs:List AX} {acc:List AC} {vs:List Value} {R:List AC→Prop},kR caps=some xs→bC.mkfnW σ xs acc R→bf (dE w (aV w0.heap.size U ι σ.mem) ι σ.nx) acc vs→
  ∃ys,bf (dE w (aV w0.heap.size U ι σ.mem) ι σ.nx) ys (vs++caps.map a.eval)∧R ys
 |[],xs,acc,vs,R,hx,h,q5=>by
  cases hx
  exact⟨acc,by simpa using q5,h⟩
 |x::caps,xs,acc,vs,R,hx,h,q5=>by
  unfold kR at hx
  split at hx
  ·rename_i y ys h1 h2
   cases hx
   simp only[bC.mkfnW]at h
   have r1:=aq h1 hs
   split at h
   ·rename_i z e
    rw[e]at r1
    cases r1 with
    |c r1=>
     obtain⟨ys',hr,hR⟩:=Pc hs (vs:=vs++ [a.eval x]) h2 h (q5.append (.cons r1 .nil))
     exact⟨ys',by simpa using hr,hR⟩
   ·exact h.elim
  ·cases hx
theorem ab3 {f:FuncId} {first caps:Array Operand} {xs:List AX} (ho:o.op= .makeFunc (.func f) first caps) (hf:first.size=0) (hx:kR caps.toList=some xs) (h:bC P (.mkfn f xs) σ K) (hs:ci w0 U σ ι a w) (hn:fS w0 U a o K next):o.wp P a w next Q:=by
 simp only[bC]at h
 obtain⟨ys,hr,hR⟩:=Pc hs hx h .nil
 have hf0:first= #[]:=zJ7 hf
 refine aA (u:= .func (.func f) #[] (caps.map a.eval)) (w':=w) ?_ (hn _ σ ι _ w hR hs (.c (.clo ?_ λi x hi=> ?_)))
 ·simp[execOp,ho,Instr.makeFunc,hf0]
 ·have:=hr.length
  simpa using this
 ·have:=hr.ofMem i x hi
  simpa using this
variable {V:Nat→Prop}{x:AC}{v:Value}
theorem Fh {y:PC} (hs:ci w0 U σ ι a w) (h:dE w (aV w0.heap.size U ι σ.mem) ι σ.nx x v) (hp:co σ.mem x=some y) (hV: ∀b,aV w0.heap.size U ι σ.mem b→V b) (hN:nN x=true∨ ∀b,w0.heap.size≤b→V b):d6 w V y v:=by
 have h7: ∀{p:PC} {v:Value},d6 w (aV w0.heap.size U ι σ.mem) p v→d6 w V p v:= λh=>h.mono (λb _ h=>hV b h) (λ_ _ _=>rfl)
 cases h with
 |pure h=>cases hp;exact h7 h
 |nils=>cases hp;exact .nil
 |tsl h=>cases hp;exact h7 h
 |ref hn HP=>
  simp only[co]at hp
  split at hp
  ·rename_i e sz rows hf
   cases hp
   have L: ∀b,w0.heap.size≤b→V b:=by
    rcases hN with h|h
    ·simp[nN]at h
    ·exact h
   obtain⟨cells,g0,g1,g2,g3⟩:=hs.box _ _ hf
   rcases g1.2 with⟨e1,e2⟩|⟨g,cap,cur,e1,hB,_⟩
   ·have:rows= []:=zG4 e2
    subst this
    rw[e1]
    exact .nil
   ·rw[e1]at g1 ⊢
    exact KQ g1 rfl (g3.mono (λb _ h=>hV b h) (λ_ _ _=>rfl)) (L _ hB) g2
  ·cases hp
 |_=>cases hp
theorem Ut (hs:ci w0 U σ ι a w) (h:bf (dE w (aV w0.heap.size U ι σ.mem) ι σ.nx) xs vs) (hV: ∀b,aV w0.heap.size U ι σ.mem b→V b) (hN: ∀b,w0.heap.size≤b→V b): ∀{ys:List PC},xu σ.mem xs=some ys→bf (d6 w V) ys vs:=by
 induction h with
 |nil=>intro ys hp;cases hp;exact .nil
 |cons h t ih=>
  intro ys hp
  unfold xu at hp
  split at hp
  ·cases hp
   exact .cons (Fh hs h ‹_› hV (.inr hN)) (ih ‹_›)
  ·cases hp
theorem Pf {V:Nat→Prop} {kt:KT} {n:Option Nat} (hs:ci w0 U σ ι a w) (hV: ∀b,aV w0.heap.size U ι σ.mem b→V b) (hN: ∀b,w0.heap.size≤b→V b): ∀{ents:List (MK×List AC)} {es:List MapEntry} {qs:List (MK×List PC)},bf (F7 w (aV w0.heap.size U ι σ.mem) ι σ.nx kt n) ents es→lB σ.mem n ents=some qs→
  bf (λx e=>x.1.val kt=some e.key∧(n.isSome=true→ ∃vs,e.val= .agg vs)∧bf (d6 w V) x.2 (SM n e.val)) qs es
 | [],es,qs,h,hp=>by cases h;cases hp;exact .nil
 |x::ents,es,qs,h,hp=>by
  cases h with
  | @cons _ e _ es h1 h2=>
   unfold lB at hp
   split at hp
   ·rename_i ps qs' g1 g2
    cases hp
    refine .cons ⟨h1.1, ?_⟩ (Pf hs hV hN h2 g2)
    have hv:=h1.2
    cases n with
    |none=>
     refine⟨(λh=>by cases h), ?_⟩
     cases hx:x.2 with
     |nil=>rw[hx]at g1;simp[pZ]at g1
     |cons p r=>
      rw[hx]at g1 hv
      simp only[pZ]at g1
      split at g1
      ·rename_i q hq
       cases g1
       cases hv with
       |c hv=>exact .cons (Fh hs hv hq hV (.inr hN)) .nil
      ·cases g1
    |some k=>
     simp only[iE]at hv
     generalize e.val=u at hv
     cases hv with
     |agg hv=>exact⟨λ_=>⟨_,rfl⟩,Ut hs hv hV hN g1⟩
   ·cases hp
variable {kt:KT}{n:Option Nat}{qs:List (MK×List PC)}
theorem aaP {es:Array MapEntry} {b clock:Nat} (h:bf (λx e=>x.1.val kt=some e.key∧(n.isSome=true→ ∃vs,e.val= .agg vs)∧bf (d6 w V) x.2 (SM n e.val)) qs es.toList)
  (hb:V b) (hm:w.heap[b]? =some (.map es clock)):d6 w V (.fmap kt n qs) (.map (some b)):=by
 refine .fmap hb hm (by simpa using h.length) (λi x e hx he=> ?_) (λi x e j p v hx he hp hv=> ?_)
 ·obtain⟨e',g1,g2,g3,g4⟩:=h.get hx
  rw[g1]at he
  cases he
  exact⟨g2,g3,g4.length⟩
 ·obtain⟨e',g1,g2,g3,g4⟩:=h.get hx
  rw[g1]at he
  cases he
  obtain⟨v',k1,k2⟩:=g4.get hp
  rw[k1]at hv
  cases hv
  exact k2
variable {N:Nat}
theorem abf {b:Nat} (h:d6 w V (.fmap kt n qs) (.map (some b))):V b∧ ∃es clock,w.heap[b]? =some (.map es clock)∧bf (F7 w V ι N kt n) (qI qs) es.toList:=by
 cases h with
 | @fmap _ _ _ _ clock es hb hm hl hk hp=>
  refine⟨hb,es,clock,hm,bf.of_get (by simpa[qI]using hl) λi x e hx he=> ?_⟩
  unfold qI at hx
  rw[zC7]at hx
  obtain⟨y,hy,rfl⟩:=zC1.1 hx
  obtain⟨k1,k2,k3⟩:=hk i y e hy he
  have k4:=hp i y e
  refine⟨k1, ?_⟩
  cases n with
  |none=>
   cases hy2:y.2 with
   |nil=>rw[hy2]at k3;cases k3
   |cons p r=>exact .c (.pure (k4 0 p e.val hy he (by rw[hy2];rfl) rfl))
  |some k=>
   obtain⟨vs,G2⟩:=k2 rfl
   rw[G2]at k3 k4 ⊢
   refine .agg (bf.of_get (by simpa[SM]using k3) λj x v hx hv=> ?_)
   rw[zC7]at hx
   obtain⟨p,hp',rfl⟩:=zC1.1 hx
   exact .pure (k4 j p v hy he hp' hv)
theorem RZ {nm:Nat} {ents:List (MK×List AC)} (hs:ci w0 U σ ι a w) (hf:ar σ.mem nm=some (.map kt n ents)) (hq:lB σ.mem n ents=some qs)
  (hV: ∀b,aV w0.heap.size U ι σ.mem b→V b) (hN: ∀b,w0.heap.size≤b→V b):d6 w V (.fmap kt n qs) (ι nm):=by
 obtain⟨b,es,clock,g1,g2,g3,g4⟩:=hs.box _ _ hf
 rw[g1]
 exact aaP (Pf hs hV hN g4.1 hq) (hN _ g2) g3
theorem aap {y:PC} (hs:ci w0 U σ ι a w) (h:dE w (aV w0.heap.size U ι σ.mem) ι σ.nx x v) (hp:dh σ.mem x=some y) (hV: ∀b,aV w0.heap.size U ι σ.mem b→V b) (hN:nN x=true∨ ∀b,w0.heap.size≤b→V b):d6 w V y v:=by
 cases x with
 |mref nm=>
  have L: ∀b,w0.heap.size≤b→V b:=by
   rcases hN with h|h
   ·simp[nN]at h
   ·exact h
  simp only[dh]at hp
  split at hp
  ·split at hp
   ·cases hp
    have e:v=ι nm:=by cases h with|mref _ h=>exact h.symm
    rw[e]
    exact RZ hs ‹_› ‹_› hV L
   ·cases hp
  ·cases hp
 |_=>exact Fh hs h hp hV hN
theorem UM (hs:ci w0 U σ ι a w) (h:bf (dE w (aV w0.heap.size U ι σ.mem) ι σ.nx) xs vs) (hV: ∀b,aV w0.heap.size U ι σ.mem b→V b) (hN: ∀b,w0.heap.size≤b→V b): ∀{ys:List PC},bz σ.mem xs=some ys→bf (d6 w V) ys vs:=by
 induction h with
 |nil=>intro ys hp;cases hp;exact .nil
 |cons h t ih=>
  intro ys hp
  unfold bz at hp
  split at hp
  ·cases hp
   exact .cons (aap hs h ‹_› hV (.inr hN)) (ih ‹_›)
  ·cases hp
theorem ST {y:AC} (hs:ci w0 U σ ι a w) (h:dE w (aV w0.heap.size U ι σ.mem) ι σ.nx x v) (hp:cQ σ.mem x=some y) (hV: ∀b,aV w0.heap.size U ι σ.mem b→V b) (hN:nN x=true∨ ∀b,w0.heap.size≤b→V b):dE w V (λ_=>undef) 0 y v:=by
 have h7: ∀{p:PC} {v:Value},d6 w (aV w0.heap.size U ι σ.mem) p v→d6 w V p v:= λh=>h.mono (λb _ h=>hV b h) (λ_ _ _=>rfl)
 have h':=h
 cases h with
 |pure h=>cases hp;exact .pure (h7 h)
 |nils=>cases hp;exact .pure .nil
 |tsl h=>cases hp;exact .pure (h7 h)
 |cptr g hc=>
  cases hp
  refine .cptr g λj p hj=> ?_
  obtain⟨h1,h2,h3⟩:=hc j p hj
  exact⟨hV _ h1,h2,h7 h3⟩
 |ref hn HP=>
  simp only[cQ]at hp
  split at hp
  ·rename_i e sz rows hf
   cases hp
   exact .pure (Fh hs h' (by simp[co,hf]) hV hN)
  ·cases hp
 | @mref nm b hn hι=>
  simp only[cQ]at hp
  split at hp
  ·split at hp
   ·cases hp
    have L: ∀b,w0.heap.size≤b→V b:=by
     rcases hN with h|h
     ·simp[nN]at h
     ·exact h
    rw[←hι]
    exact .pure (RZ hs ‹_› ‹_› hV L)
   ·cases hp
  ·cases hp
 | @ptr nm off b hn hι=>
  simp only[cQ]at hp
  split at hp
  ·rename_i xs hf
   split at hp
   ·rename_i ps hps
    cases hp
    have L: ∀b,w0.heap.size≤b→V b:=by
     rcases hN with h|h
     ·simp[nN]at h
     ·exact h
    obtain⟨b',vs,T,g1,g2,g3,g4⟩:=hs.box _ _ hf
    rw[hι]at g1
    simp at g1
    subst g1
    have hr:=UM hs g4 hV L hps
    refine .cptr (λj=>(vs.toList[off+j]?).getD undef) λj p hj=> ?_
    rw[zH5]at hj
    obtain⟨u,hu,hrp⟩:=hr.get hj
    refine⟨L _ g2, ?_, ?_⟩
    ·rw[cell_of_row w b _ vs T (0,0) g3,hu]
     simpa using hu
    ·rw[hu];exact hrp
   ·cases hp
  ·cases hp
 |_=>cases hp
theorem KA {V:Nat→Prop}: ∀{xs:List AC} {vs:List Value},ci w0 U σ ι a w→xs.length=vs.length→(∀(i:Nat) x,xs[i]? =some x→dE w (aV w0.heap.size U ι σ.mem) ι σ.nx x (vs[i]?.getD undef))→(∀b,aV w0.heap.size U ι σ.mem b→V b)→(xs.all nN=true∨ ∀b,w0.heap.size≤b→V b)→
  ∀{ys:List AC},GI σ.mem xs=some ys→ys.length=vs.length∧ ∀(i:Nat) y,ys[i]? =some y→dE w V (λ_=>undef) 0 y (vs[i]?.getD undef)
 | [],vs,hs,hl,h,hV,hN,ys,hp=>by cases hp;exact⟨hl,by simp⟩
 |x::xs, [],hs,hl,h,hV,hN,ys,hp=>by simp at hl
 |x::xs,v::vs,hs,hl,h,hV,hN,ys,hp=>by
  unfold GI at hp
  split at hp
  ·rename_i y ys' h1 h2
   cases hp
   have hN1:nN x=true∨ ∀b,w0.heap.size≤b→V b:=by
    rcases hN with h|h
    ·simp only[zJ8,zE9]at h;exact .inl h.1
    ·exact .inr h
   have hN2:xs.all nN=true∨ ∀b,w0.heap.size≤b→V b:=by
    rcases hN with h|h
    ·simp only[zJ8,zE9]at h;exact .inl h.2
    ·exact .inr h
   obtain⟨k1,k2⟩:=KA (xs:=xs) (vs:=vs) hs zS8 (λi x hi=>by simpa using h (i+1) x zS7) hV hN2 h2
   refine⟨by simp[k1],λi z hi=> ?_⟩
   cases i with
   |zero=>
    simp at hi
    subst hi
    exact ST hs (by simpa using h 0 x rfl) h1 hV hN1
   |succ i=>simpa using k2 i z zS7
  ·cases hp
theorem Vu {y:AC} (hs:ci w0 U σ ι a w) (h:dE w (aV w0.heap.size U ι σ.mem) ι σ.nx x v) (hp:c8 σ.mem x=some y) (hV: ∀b,aV w0.heap.size U ι σ.mem b→V b) (hN:JJ x=true∨ ∀b,w0.heap.size≤b→V b):dE w V (λ_=>undef) 0 y v:=by
 cases x with
 |clo f caps=>
  cases h with
  | @clo _ _ vs hl h=>
   simp only[c8]at hp
   split at hp
   ·rename_i ys HT
    cases hp
    obtain⟨k1,k2⟩:=KA (vs:=vs.toList) hs zS8 h hV (by simpa[JJ]using hN) HT
    exact .clo (by simpa using k1) k2
   ·cases hp
 |_=>exact ST hs h hp hV hN
theorem WW (hs:ci w0 U σ ι a w) (h:bf (dE w (aV w0.heap.size U ι σ.mem) ι σ.nx) xs vs) (hV: ∀b,aV w0.heap.size U ι σ.mem b→V b) (hN:xs.all JJ=true∨ ∀b,w0.heap.size≤b→V b): ∀{ys:List AC},DG σ.mem xs=some ys→bf (dE w V (λ_=>undef) 0) ys vs:=by
 induction h with
 |nil=>intro ys hp;cases hp;exact .nil
 |cons h t ih=>
  intro ys hp
  unfold DG at hp
  split at hp
  ·cases hp
   refine .cons (Vu hs h ‹_› hV ?_) (ih ?_ ‹_›)
   ·rcases hN with h|h
    ·simp only[zJ8,zE9]at h;exact .inl h.1
    ·exact .inr h
   ·rcases hN with h|h
    ·simp only[zJ8,zE9]at h;exact .inl h.2
    ·exact .inr h
  ·cases hp
theorem D5 {x y:AV} (hs:ci w0 U σ ι a w) (h:aT w (aV w0.heap.size U ι σ.mem) ι σ.nx x v) (hp:cK σ.mem x=some y) (hV: ∀b,aV w0.heap.size U ι σ.mem b→V b) (hN:sO x=true∨ ∀b,w0.heap.size≤b→V b):aT w V (λ_=>undef) 0 y v:=by
 cases h with
 |c h=>
  simp only[cK]at hp
  split at hp
  ·cases hp
   exact .c (Vu hs h ‹_› hV (by simpa[sO]using hN))
  ·cases hp
 |agg h=>
  simp only[cK]at hp
  split at hp
  ·cases hp
   exact .agg (WW hs h hV (by simpa[sO]using hN) ‹_›)
  ·cases hp
 |tup=>cases hp
 |top=>cases hp
theorem Jq (hs:ci w0 U σ ι a w): ∀{xs:List Operand} {ys:List AX},kR xs=some ys→bf (aT w (aV w0.heap.size U ι σ.mem) ι σ.nx) (ys.map (·.ev σ.fr)) (xs.map a.eval)
 | [],ys,h=>by cases h;exact .nil
 |x::xs,ys,h=>by
  unfold kR at h
  split at h
  ·cases h
   exact .cons (aq ‹_› hs) (Jq hs ‹_›)
  ·cases h
theorem o6 {xs:List AV} (hs:ci w0 U σ ι a w) (h:bf (aT w (aV w0.heap.size U ι σ.mem) ι σ.nx) xs vs) (hV: ∀b,aV w0.heap.size U ι σ.mem b→V b) (hN:xs.all sO=true∨ ∀b,w0.heap.size≤b→V b): ∀{ys:List AV},bk σ.mem xs=some ys→bf (aT w V (λ_=>undef) 0) ys vs:=by
 induction h with
 |nil=>intro ys hp;cases hp;exact .nil
 |cons h t ih=>
  intro ys hp
  unfold bk at hp
  split at hp
  ·cases hp
   refine .cons (D5 hs h ‹_› hV ?_) (ih ?_ ‹_›)
   ·rcases hN with h|h
    ·simp only[zJ8,zE9]at h;exact .inl h.1
    ·exact .inr h
   ·rcases hN with h|h
    ·simp only[zJ8,zE9]at h;exact .inl h.2
    ·exact .inr h
  ·cases hp
variable {V':Nat→Prop}
theorem F1 (h:dE w V (λ_=>undef) 0 x v) (hf:xp x=true):dE w V' ι σ.nx x v:=by
 cases h with
 |pure h=>
  cases h with
  |val h=>exact .pure (.val h)
  |slice=>simp[xp]at hf
  |fmap=>simp[xp]at hf
 |_=>simp[xp]at hf
theorem Mb (h:bf (dE w V (λ_=>undef) 0) xs vs) (hf:xs.all xp=true):bf (dE w V' ι σ.nx) xs vs:=by
 induction h with
 |nil=>exact .nil
 |cons h _ ih=>
  simp only[zJ8,zE9]at hf
  exact .cons (F1 h hf.1) (ih hf.2)
theorem WG {x:AV} (h:aT w V (λ_=>undef) 0 x v) (hf:xm x=true):aT w V' ι σ.nx x v:=by
 cases h with
 |c h=>exact .c (F1 h hf)
 |agg h=>exact .agg (Mb h hf)
 |tup hl h=>
  refine .tup hl λi x hi=> ?_
  have hx: ∀(xs:List AV),xm.go xs=true→ ∀(i:Nat) x,xs[i]? =some x→(∃y,x= .c y∧xp y=true)∨ ∃ys,x= .agg ys∧ys.all xp=true:=by
   intro xs
   induction xs with
   |nil=>intro _ i x hi;simp at hi
   |cons y ys ih=>
    intro hg i x hi
    cases y with
    |c y=>
     simp only[xm.go,zE9]at hg
     cases i with
     |zero=>simp at hi;subst hi;exact .inl ⟨_,rfl,hg.1⟩
     |succ i=>simp at hi;exact ih hg.2 i x hi
    |agg zs=>
     simp only[xm.go,zE9]at hg
     cases i with
     |zero=>simp at hi;subst hi;exact .inr ⟨_,rfl,hg.1⟩
     |succ i=>simp at hi;exact ih hg.2 i x hi
    |tup=>simp[xm.go]at hg
    |top=>simp[xm.go]at hg
  have h9:=h i x hi
  generalize (‹Array Value›.toList[i]?.getD undef)=z at h9 ⊢
  rcases hx _ (by simpa[xm]using hf) i x hi with⟨y,rfl,hy⟩|⟨ys,rfl,hy⟩
  ·cases h9 with|c h=>exact .c (F1 h hy)
  ·cases h9 with|agg h=>exact .agg (Mb h hy)
 |top=>simp[xm]at hf
theorem J3 (h:dE w V ι N x v):f5 x:=by
 cases h with
 |pure h=>
  cases h with
  |val h=>trivial
  |slice g hn hc hm=>subst hn;exact hm
  |fmap=>trivial
 |_=>trivial
theorem Pb (h:bf (dE w V ι N) xs vs):om xs:=by
 induction h with
 |nil=>trivial
 |cons h _ ih=>exact⟨J3 h,ih⟩
theorem Sl {x:AV} (h:aT w V ι N x v):fB x:=by
 cases h with
 |c h=>exact J3 h
 |agg h=>exact Pb h
 |tup hl h=>
  rename_i xs vs
  have key: ∀(xs:List AV),(∀(i:Nat) x,xs[i]? =some x→ ∃u,aT w V ι N x u)→fB.go xs:=by
   intro xs
   induction xs with
   |nil=>intro _;trivial
   |cons y ys ih=>
    intro hx
    have ht:=ih λi x hi=>hx (i+1) x zS7
    obtain⟨u,hu⟩:=hx 0 y rfl
    cases y with
    |c y=>cases hu with|c hu=>exact⟨J3 hu,ht⟩
    |agg zs=>cases hu with|agg hu=>exact⟨Pb hu,ht⟩
    |tup=>exact ht
    |top=>exact ht
  exact key xs λi x hi=>⟨_,h i x hi⟩
 |top=>trivial
end
open Go.RowKit
section
variable {P : Program} {o : Oper} {a : Act} {w w' w0 : World} {U : Gh} {ι : Pl} {σ : St} {next : Act → World → Prop} {Q : Exit → Act → World → Prop} {K : AV → St → Prop}
variable {b:Nat}
theorem Pe {B:Nat} {mem:List (Nat×bP)} {nm:Nat} (h:aV B U ι mem b):aV B U ι (M9 mem nm) b:=by
 refine⟨h.1,λn bx hf=> ?_⟩
 rw[vO]at hf
 by_cases e:n=nm
 ·rw[if_pos e]at hf;cases hf
 ·rw[if_neg e]at hf;exact h.2 n bx hf
theorem ci.sub (hs:ci w0 U σ ι a w) {mem:List (Nat×bP)} (h: ∀n bx,ar mem n=some bx→ar σ.mem n=some bx):ci w0 U {σ with mem:=mem} ι a w:=by
 have C: ∀b,b<w.heap.size→aV w0.heap.size U ι σ.mem b→aV w0.heap.size U ι mem b:= λb _ hf=>⟨hf.1,λn bx hn=>hf.2 n bx (h n bx hn)⟩
 refine⟨λt=>(hs.val t).mono C (λ_ _ _=>rfl) (λ_ _=>rfl) (zB2 _),hs.defers,λn bx hn=>hs.names _ _ (h _ _ hn),λn bx hn=> ?_,
  λn n' b1 b2 b h1 h2=>hs.apart _ _ _ _ _ (h _ _ h1) (h _ _ h2),hs.below,U.mono _ _ _ _ hs.keep C (λ_ _ _=>rfl),hs.base⟩
 exact(hs.box _ _ (h _ _ hn)).grow (Below.refl _ _) C (λ_ _=>rfl) (zB2 _) (hs.names _ _ (h _ _ hn))
theorem ci.del (hs:ci w0 U σ ι a w) (nm:Nat):ci w0 U {σ with mem:=M9 σ.mem nm} ι a w:=by
 refine hs.sub λn bx hn=> ?_
 rw[vO]at hn
 by_cases e:n=nm
 ·rw[if_pos e]at hn;cases hn
 ·rw[if_neg e]at hn;exact hn
theorem Z8 {x:AC} {p:PC} {v:Value} {mem':List (Nat×bP)} (hs:ci w0 U σ ι a w) (h:dE w (aV w0.heap.size U ι σ.mem) ι σ.nx x v) (hf:aa4 σ.mem x=some (p,mem')):
  ci w0 U {σ with mem:=mem'} ι a w∧d6 w (aV w0.heap.size U ι mem') p v∧ ∀b,aV w0.heap.size U ι σ.mem b→aV w0.heap.size U ι mem' b:=by
 cases h with
 |pure h=>cases hf;exact⟨hs,h,λ_ h=>h⟩
 |nils=>cases hf;exact⟨hs,.nil,λ_ h=>h⟩
 |tsl h=>cases hf;exact⟨hs,h,λ_ h=>h⟩
 | @ref nm hn HP=>
  simp only[aa4]at hf
  split at hf
  ·rename_i e sz rows hfb
   cases hf
   refine⟨hs.del nm, ?_,λb h=>Pe h⟩
   obtain⟨cells,g0,g1,g2,g3⟩:=hs.box _ _ hfb
   rcases g1.2 with⟨e1,e2⟩|⟨g,cap,cur,e1,hB,_⟩
   ·have:rows= []:=zG4 e2
    subst this
    rw[e1]
    exact .nil
   ·have hb:fE (ι nm)=some g:=by rw[e1];rfl
    rw[e1]at g1 ⊢
    refine KQ g1 rfl (g3.mono (λb _ h=>Pe h) (λ_ _ _=>rfl)) ⟨.inr hB,λn bx q6 e=> ?_⟩ g2
    rw[vO]at q6
    by_cases en:n=nm
    ·rw[if_pos en]at q6;cases q6
    ·rw[if_neg en]at q6
     exact en (hs.apart _ _ _ _ _ q6 hfb e hb)
  ·cases hf
 |_=>cases hf
theorem OP: ∀{xs:List AC} {σ:St} {vs:List Value} {ps:List PC} {mem':List (Nat×bP)},ci w0 U σ ι a w→bf (dE w (aV w0.heap.size U ι σ.mem) ι σ.nx) xs vs→OR σ.mem xs=some (ps,mem')→
  ci w0 U {σ with mem:=mem'} ι a w∧bf (d6 w (aV w0.heap.size U ι mem')) ps vs∧ ∀b,aV w0.heap.size U ι σ.mem b→aV w0.heap.size U ι mem' b
 |[],σ,vs,ps,mem',hs,h,hf=>by
  cases h
  cases hf
  exact⟨hs,.nil,λ_ h=>h⟩
 |x::xs,σ,vs,ps,mem',hs,h,hf=>by
  cases h with
  |cons h1 h2=>
   unfold OR at hf
   split at hf
   ·rename_i y m1 e1
    split at hf
    ·rename_i ys m2 e2
     cases hf
     obtain⟨k1,k2,k3⟩:=Z8 hs h1 e1
     obtain⟨j1,j2,j3⟩:=OP (σ:={σ with mem:=m1}) k1 (h2.mono λ_ _ h=>h.mono (λb _ h=>k3 b h) (λ_ _ _=>rfl) (λ_ _=>rfl) (zB2 _)) e2
     exact⟨j1,.cons (k2.mono (λb _ h=>j3 b h) (λ_ _ _=>rfl)) j2,λb h=>j3 b (k3 b h)⟩
    ·cases hf
   ·cases hf
theorem EG {sz n:Nat}: ∀{k:Nat} {mem:List (Nat×bP)} {parts:List (Nat×Operand)} {rs:List AX} {acc:List (List PC)} {cells:Array Value} {R:List (List PC)→List (Nat×bP)→Prop},ci w0 U {σ with mem:=mem} ι a w→xJ k parts=some rs→bC.bsliceFW σ sz rs mem acc R→acc.length=k→k+rs.length=n→cells.size=n*sz→
  cZ w (aV w0.heap.size U ι mem) sz acc (cells.toList.take (k*sz))→ ∃cells' rows mem',Instr.fill (λi=>some (i*sz,sz)) cells (parts.map λ(i,x)=>(i,a.eval x))=some cells'∧ci w0 U {σ with mem:=mem'} ι a w∧cZ w (aV w0.heap.size U ι mem') sz rows cells'.toList∧rows.length=n∧R rows mem'
 |k,mem, [],rs,acc,cells,R,hs,hp,h,hl,HS,W,hc=>by
  cases hp
  simp at HS
  subst HS
  exact⟨cells,acc,mem,rfl,hs,by rw[zB6 zR8]at hc;exact hc,hl,h⟩
 |k,mem,(i,x)::parts,rs,acc,cells,R,hs,hp,h,hl,HS,W,hc=>by
  unfold xJ at hp
  split at hp
  ·rename_i hik
   subst hik
   split at hp
   ·rename_i y ys h2 h3
    cases hp
    simp only[bC.bsliceFW]at h
    split at h
    ·rename_i zs e
     obtain⟨⟨r,mem1⟩,hr,ga,h⟩:=h
     have hz:=(aq h2 hs).cells e
     obtain⟨Hz,HG,hfr⟩:=OP hs hz hr
     have hzl:=hz.length
     have e0:=zD0 (xs:=(a.eval x).cells)
     have e00:=zD0 (xs:=cells)
     simp only[zG2]at HS
     have hM:i*sz+sz≤n*sz:=by
      have:(i+1)*sz≤n*sz:=zG3 _ zR5
      rw[zJ4]at this
      exact this
     have hol:(over cells.toList (i*sz) (a.eval x).cells.toList).length=cells.toList.length:=GO zR8
     obtain⟨cells',rows,mem',hf,h3',h4,h5,hR⟩:=EG (n:=n) (cells:=(over cells.toList (i*sz) (a.eval x).cells.toList).toArray) Hz h3 h (by simp[hl]) zR5 (by simp only[zK7,hol,zD0,W]) (by
      have e1:(over cells.toList (i*sz) (a.eval x).cells.toList).take ((i+1)*sz)=cells.toList.take (i*sz)++(a.eval x).cells.toList:=by
       unfold over
       rw[zE4,zJ4]
       have e2:(cells.toList.take (i*sz)).length=i*sz:=by simp;omega
       rw[zL2,e2,zB6 zR5,zL6,zL2,zB6 (l:=(a.eval x).cells.toList) zR8]
       have e3:sz-(a.eval x).cells.toList.length=0:=by simp;omega
       rw[e3]
       simp
      simp only[zJ9]at e1 ⊢
      rw[e1]
      exact(hc.mono (λb _ h=>hfr b h) (λ_ _ _=>rfl)).append (cZ.one HG (by have:=HG.length;omega)))
     refine⟨cells',rows,mem', ?_,h3',h4,h5,hR⟩
     rw[zB8,FG rfl zR5 zR5]
     exact hf
    ·exact h.elim
   ·cases hp
  ·cases hp
variable {z:Value}
theorem Up {t:TypeId} {n e sz bytes:Nat} {parts:Array (Nat×Operand)} {rs:List AX} (ho:o.op= .buildSlice t n parts) (ht:eP P t=some (e,sz,bytes)) (hr:xJ 0 parts.toList=some rs) (hl:rs.length=n) (hm:n*sz≤16777216) (h0:0<sz) (hz:dZ P e=some z) (O:z.cells.size=sz)
  (h:bC P (.bsliceF sz rs) σ K) (hs:ci w0 U σ ι a w) (hn:fS w0 U a o K next):o.wp P a w next Q:=by
 simp only[bC]at h
 unfold eP dZ at*
 split at ht
 ·rename_i e' hd
  cases hi:P.info? e' with
  |none=>simp[hi]at ht
  |some inf=>
   simp[hi]at ht
   obtain⟨rfl,rfl,_⟩:=ht
   simp[hi]at hz
   let base:Array Value:=(Array.range (n*inf.size)).map (λk=>(if n*inf.size=0 then #[]else z.cells)[k%(if n*inf.size=0 then #[]else z.cells).size]!)
   have gb:base.size=n*inf.size:=by simp[base]
   obtain⟨cells',rows,mem',hf,Z1,h4,h5,hR⟩:=EG (n:=n) (cells:=base) (mem:=σ.mem) hs hr h rfl zR5 gb (by simp;exact cZ.nil)
   have hg:Below w.heap.size w (w.alloc (.cells cells' e')):=(Below.refl _ _).alloc (zB2 _) _
   have hX:d6 (w.alloc (.cells cells' e')) (aV w0.heap.size U ι mem') (.slice rows) (.slice (some ⟨w.heap.size,0,none⟩) rows.length rows.length):=by
    refine(h4.mono (λ_ _ h=>h) (λb hb _=>hg.block b hb)).slice (DN Z1) (zB2 _) (by have:n*1≤n*inf.size:=Nat.mul_le_mul_left _ h0;omega) λk v hk=> ?_
    rw[RU (heap_alloc_new _ _)]
    exact hk
   rw[h5]at hX
   refine aA (w':=w.alloc (.cells cells' e')) ?_ (hn _ _ ι _ _ hR (Z1.grow hg) (.c (.tsl hX)))
   have h6:Instr.fill (λi=>some (i*inf.size,inf.size)) base (parts.map λ(i,x)=>(i,a.eval x)).toList=some cells':=by
    rw[zR2];exact hf
   by_cases HB:n*inf.size=0
   ·simp only[base,HB,if_true]at h6
    have e1: ¬(16777216<n*inf.size):=by omega
    simp[execOp,ho,Instr.buildSlice,run_underlying hd,sizeOf,typeInfo,hi,HB,newRow]
    simp[Array.range_zero']at h6
    simp[h6,Array.range_zero']
    try rfl
   ·simp only[base,HB,if_false]at h6
    have e1: ¬(16777216<n*inf.size):=by omega
    simp[execOp,ho,Instr.buildSlice,run_underlying hd,sizeOf,typeInfo,hi,HB,newRow,zeroValue,hz,e1]
    simp at h6
    simp[h6]
    try rfl
 ·cases ht
variable {n:Option Nat}{kt:KT}
theorem Zh {t:TypeId} (ho:o.op= .makeMap t none) (h:bC P (.mkmap kt n) σ K) (hs:ci w0 U σ ι a w) (hn:fS w0 U a o K next):o.wp P a w next Q:=by
 simp only[bC]at h
 have hg:Below w.heap.size w (w.alloc (.map #[] 0)):=(Below.refl _ _).alloc (zB2 _) _
 obtain⟨ι',h1,h2,h3,h4⟩:=hs.newBox (pv:= .map (some w.heap.size)) (bx:= .map kt n []) hg (λb hb=>by simp[fE]at hb;omega) (λι' e1 e2 C=>
  ⟨w.heap.size, #[],0,e2,hs.below.size,(MapKept.heap_alloc w _).1,.nil,rfl,(λi e h=>by simp at h)⟩)
 exact aA (u:= .map (some w.heap.size)) (w':=w.alloc (.map #[] 0)) (by simp[execOp,ho,run_makeMap]) (hn _ _ ι' _ _ h h1 (.c (.mref (zF6 _) h2)))
def KT.desc:KT→TypeDesc
 | .int k=> .int k
 | .str=> .string
 | .bool=> .bool
variable {e:TypeId}
theorem rx {t:TypeId} (h:nB P t=some (kt,e,n)): ∃k,P.underlying t=some (.map k e)∧P.underlying k=some kt.desc∧oe P e=some n:=by
 unfold nB at h
 split at h
 ·rename_i k e' hd
  split at h<;>cases h
  ·exact⟨k,hd,‹_›,‹_›⟩
  ·exact⟨k,hd,‹_›,‹_›⟩
  ·exact⟨k,hd,‹_›,‹_›⟩
 ·cases h
variable {kv:Value}{mk:MK}
theorem EI (h:N5 kt kv=some mk):MapKept.IsKey kt.desc kv∧mk.val kt=some kv:=by
 unfold N5 at h
 split at h
 ·split at h
  ·rename_i e
   cases h
   subst e
   exact⟨rfl,rfl⟩
  ·cases h
 ·cases h
  exact⟨trivial,rfl⟩
 ·cases h
  exact⟨trivial,rfl⟩
 ·cases h
theorem abK (h:mk.val kt=some kv):MapKept.IsKey kt.desc kv:=by
 unfold MK.val at h
 split at h<;>cases h
 ·rfl
 ·trivial
 ·trivial
theorem abE {mk':MK} (h:mk.val kt=some kv) (h':mk'.val kt=some kv):mk=mk':=by
 unfold MK.val at h h'
 split at h<;>cases h<;>split at h'<;>simp_all
theorem z8 {V:Nat→Prop} {N:Nat} {kt:KT} {n:Option Nat} {kv:Value} {mk:MK} (hk:MapKept.IsKey kt.desc kv) (hv:mk.val kt=some kv): ∀{ents:List (MK×List AC)} {es:List MapEntry} {i:Nat},bf (F7 w V ι N kt n) ents es→
  (iv ents mk=none∧Instr.findNow kt.desc kv es i=some none)∨ ∃j ps e,iv ents mk=some ps∧Instr.findNow kt.desc kv es i=some (some (i+j,e.val))∧es[j]? =some e∧e.key=kv∧ents[j]? =some (mk,ps)∧WX ents mk=j∧ ∀ps',DS ents mk ps'=ents.set j (mk,ps')
 | [],es,i,h=>by cases h;exact .inl ⟨rfl,rfl⟩
 |(mk0,ps0)::ents,es,i,h=>by
  cases h with
  | @cons _ e _ es h1 h2=>
   obtain⟨r,hr,hL⟩:=MapKept.sameNow_of_keys hk (abK h1.1)
   by_cases hm:mk0=mk
   ·subst hm
    have hkv:e.key=kv:=by have:=h1.1.symm.trans hv;simpa using this
    cases r with
    |false=>exact absurd (hL.2 hkv.symm) zR6
    |true=>exact .inr ⟨0,ps0,e,by simp[iv],by simp[Instr.findNow,hr],rfl,hkv,rfl,by simp[WX],λps'=>by simp[DS]⟩
   ·cases r with
    |true=>
     have:=hL.1 rfl
     exact absurd (abE (this▸h1.1) hv) hm
    |false=>
     rcases z8 hk hv (i:=i+1) h2 with⟨k1,k2⟩|⟨j,ps,e',k1,k2,k3,k4,k5,k7,k6⟩
     ·exact .inl ⟨by simp[iv,hm,k1],by simp[Instr.findNow,hr,k2]⟩
     ·exact .inr ⟨j+1,ps,e',by simp[iv,hm,k1],by simp[Instr.findNow,hr,k2];omega,by simpa using k3,k4,by simpa using k5,by simp[WX,hm,k7],λps'=>by simp[DS,hm,k6]⟩
theorem lf {mk:MK} {ps:List AC}: ∀{ents:List (MK×List AC)},iv ents mk=none→DS ents mk ps=ents++ [(mk,ps)]
 | [],_=>rfl
 |(k,v)::r,h=>by
  simp only[iv]at h
  by_cases e:k=mk
  ·rw[if_pos e]at h;cases h
  ·rw[if_neg e]at h
   simp[DS,e,lf h]
theorem abF {V:Nat→Prop} {N:Nat} {x y:AV} {u v:Value} (hx:aT w V ι N x u) (hy:aT w V ι N y v):aT w V ι N (.tup [x,y]) (.tuple #[u,v]):=by
 refine .tup rfl λi z hi=> ?_
 cases i with
 |zero=>simp at hi;subst hi;exact hx
 |succ i=>
  cases i with
  |zero=>simp at hi;subst hi;exact hy
  |succ i=>simp at hi
variable {x y:Operand}{ok:Bool}{zs:List AC}{clock:Nat}{es:Array MapEntry}{ents:List (MK×List AC)}
theorem EQ {t:TypeId} (ho:o.op= .lookup t x y ok) (ht:nB P t=some (kt,e,n)) (hz:dZ P e=some z)
  (H0:aT w (aV w0.heap.size U ι σ.mem) ι σ.nx (iE n zs) z) (hu:a.eval x= .map (some b)) (e2:a.eval y=kv) (HV:N5 kt kv=some mk) (k3:w.heap[b]? =some (.map es clock)) (k4:bf (F7 w (aV w0.heap.size U ι σ.mem) ι σ.nx kt n) ents es.toList)
  (h: @wU _ (iv ents mk) ⟨λps=>K (if ok=true then .tup [iE n ps,.c (.pure (.val (.bool true)))]else iE n ps) σ⟩ ⟨K (if ok=true then .tup [iE n zs,.c (.pure (.val (.bool false)))]else iE n zs) σ⟩) (hs:ci w0 U σ ι a w) (hn:fS w0 U a o K next):o.wp P a w next Q:=by
 obtain⟨kty,g1,g2,g3⟩:=rx ht
 obtain⟨q1,q2⟩:=EI HV
 have H1: ∀em,(Instr.checkKey em 10000 kty kv).run P w= .ok () w:= λem=>MapKept.run_checkKey g2 q1 em 9999
 have HR:(zeroValue e).run P w= .ok z w:=by
  unfold dZ at hz
  cases hi:P.info? e with
  |none=>simp[hi]at hz
  |some i=>simp[hi]at hz;simp[zeroValue,typeInfo,hi,hz]
 rcases z8 q1 q2 (i:=0) k4 with⟨l1,l2⟩|⟨j,ps,en,l1,l2,l3,l4,l5,_⟩
 ·have HE:=MapKept.run_findKey (w:=w) g2 l2
  have hk:=h.2 l1
  refine aA (u:=if ok=true then .tuple #[z,.bool false]else z) (w':=w) ?_ (hn _ σ ι _ w hk hs ?_)
  ·cases ok<;>simp[execOp,ho,hu,e2,Instr.lookup,run_underlying g1,MapKept.run_getObj_map k3,H1,HE,HR]
  ·cases ok with
   |false=>exact H0
   |true=>exact abF H0 (kc _)
 ·have HE:=MapKept.run_findKey (w:=w) g2 l2
  have hk:=h.1 ps l1
  obtain⟨en',H2,h8⟩:=k4.get l5
  rw[l3]at H2
  cases H2
  have hval:aT w (aV w0.heap.size U ι σ.mem) ι σ.nx (iE n ps) en.val:=h8.2
  refine aA (u:=if ok=true then .tuple #[en.val,.bool true]else en.val) (w':=w) ?_ (hn _ σ ι _ w hk hs ?_)
  ·cases ok<;>simp[execOp,ho,hu,e2,Instr.lookup,run_underlying g1,MapKept.run_getObj_map k3,H1,HE]
  ·cases ok with
   |false=>exact hval
   |true=>exact abF hval (kc _)
theorem abm {t:TypeId} {m k:AX} (ho:o.op= .lookup t x y ok) (ht:nB P t=some (kt,e,n)) (hz:dZ P e=some z) (O:FX n z=some zs) (hx:aC x=some m) (hy:aC y=some k)
  (h:bC P (.mget kt n zs ok m k) σ K) (hs:ci w0 U σ ι a w) (hn:fS w0 U a o K next):o.wp P a w next Q:=by
 have r1:=aq hx hs
 have r2:=aq hy hs
 have H0:aT w (aV w0.heap.size U ι σ.mem) ι σ.nx (iE n zs) z:=by
  unfold FX at O
  split at O
  ·split at O
   ·cases O;exact .c (vL ‹_›)
   ·cases O
  ·split at O
   ·exact .agg (nu O)
   ·cases O
 generalize hu:a.eval x=u at r1
 obtain⟨kty,g1,g2,g3⟩:=rx ht
 simp only[bC]at h
 split at h
 ·rename_i kv ek
  rw[ek]at r2
  have e2:=(aU r2).1
  obtain⟨mk,HV,h⟩:=h
  obtain⟨q1,q2⟩:=EI HV
  simp only at h
  split at h
  ·rename_i nm em
   rw[em]at r1
   split at h
   ·rename_i kt' n' ents hf
    obtain⟨⟨rfl,rfl⟩,h⟩:=h
    cases r1 with
    |c r1=>cases r1 with
     | @mref _ b hA hι=>
      obtain⟨b',es,clock,k1,k2,k3,k4,k5⟩:=hs.box _ _ hf
      rw[hι]at k1
      simp at k1
      subst k1
      exact EQ ho ht hz H0 hu e2 HV k3 k4 h hs hn
   ·exact h.elim
  ·rename_i kt' n' es em
   obtain⟨⟨rfl,rfl⟩,h⟩:=h
   rw[em]at r1
   cases r1 with
   |c r1=>cases r1 with
    |pure r1=>
     have r0:=r1
     cases r1 with
     |fmap=>
      obtain⟨_,es',clock,k3,k4⟩:=abf (ι:=ι) (N:=σ.nx) r0
      exact EQ ho ht hz H0 hu e2 HV k3 k4 h hs hn
  ·exact h.elim
 ·exact h.elim
theorem Brn.push {e:MapEntry} (h:Brn es clock) (he:e.born=clock):Brn (es.push e) (clock+1):=by
 refine⟨by rw[Array.size_push,h.1],λi x hx=> ?_⟩
 rw[Array.getElem?_push]at hx
 by_cases hi:i=es.size
 ·rw[if_pos hi]at hx
  cases hx
  rw[he,h.1,hi]
 ·rw[if_neg hi]at hx
  exact h.2 i x hx
theorem Brn.modify {j:Nat} {f:MapEntry→MapEntry} (h:Brn es clock) (hf: ∀e,(f e).born=e.born):Brn (es.modify j f) clock:=by
 refine⟨by rw[Array.size_modify,h.1],λi x hx=> ?_⟩
 rw[Array.getElem?_modify]at hx
 by_cases hi:j=i
 ·rw[if_pos hi,zC1]at hx
  obtain⟨y,hy,rfl⟩:=hx
  rw[hf]
  exact h.2 i y hy
 ·rw[if_neg hi]at hx
  exact h.2 i x hx
theorem ci.setMap (hs:ci w0 U σ ι a w) {nm:Nat} {bx0:bP} {o0:Obj} (hf:ar σ.mem nm=some bx0) (hι:ι nm= .map (some b)) (h0:w.heap[b]? =some o0)
  (hents:bf (F7 w (aV w0.heap.size U ι σ.mem) ι σ.nx kt n) ents es.toList) (hbrn:Brn es clock):ci w0 U {σ with mem:=gF σ.mem nm (.map kt n ents)} ι a {w with heap:=w.heap.setIfInBounds b (.map es clock)}:=by
 have hb:fE (ι nm)=some b:=by rw[hι];rfl
 have hB:=((hs.box _ _ hf).block hb).1
 obtain⟨s1,s2⟩:=MapKept.heap_set (o':= .map es clock) h0
 have C: ∀c,aV w0.heap.size U ι σ.mem c→aV w0.heap.size U ι (gF σ.mem nm (.map kt n ents)) c:= λc h=>abQ.2 h
 have Z: ∀c,aV w0.heap.size U ι σ.mem c→c≠b:= λc h e=>h.2 _ _ hf (by rw[hb,e])
 have hw: ∀c,c<w.heap.size→aV w0.heap.size U ι σ.mem c→({w with heap:=w.heap.setIfInBounds b (.map es clock)}:World).heap[c]? =w.heap[c]? := λc _ h=>s2 c (Z c h)
 have q7: ∀n' bx',ar (gF σ.mem nm (.map kt n ents)) n'=some bx'→ ∃c,ar σ.mem n'=some c:=by
  intro n' bx' h1
  rw[JE]at h1
  by_cases e:nm=n'
  ·subst e;exact⟨_,hf⟩
  ·rw[if_neg e]at h1;exact⟨_,h1⟩
 refine⟨λt=>(hs.val t).mono (λc _ h=>C c h) hw (λ_ _=>rfl) (zB2 _),hs.defers,λn' bx' hn=> ?_,λn' bx' hn=> ?_,λn' n'' b1 b2 c h1 h2 h3 h4=> ?_,
  hs.below.trans ⟨rfl,rfl,rfl,by simp,λk hk=>s2 k zR5⟩,U.mono _ _ _ _ hs.keep (λc _ h=>C c h) hw,hs.base⟩
 ·obtain⟨c,hc⟩:=q7 _ _ hn
  exact hs.names _ _ hc
 ·rw[JE]at hn
  by_cases e:nm=n'
  ·subst e
   rw[if_pos rfl,hf]at hn
   cases hn
   exact⟨b,es,clock,hι,hB,s1,hents.mono λ_ _ h=>h.mono (λc _ h=>C c h) hw (λ_ _=>rfl) (zB2 _),hbrn⟩
  ·rw[if_neg e]at hn
   have hS: ∀c,fE (ι n')=some c→c≠b:= λc hc e'=>e (hs.apart _ _ _ _ b hf hn hb (by rw[hc,e']))
   have hW:=hs.box _ _ hn
   cases bx' with
   |var xs=>
    obtain⟨b',vs,T,h1,h2,h3,h4⟩:=hW
    exact⟨b',vs,T,h1,h2,by rw[s2 _ (hS b' (by rw[h1];rfl))];exact h3,h4.mono λ_ _ h=>h.mono (λc _ h=>C c h) hw (λ_ _=>rfl) (zB2 _)⟩
   |arr e' sz rows=>
    obtain⟨cells,h0,h1,h2,h3⟩:=hW
    refine⟨cells,h0,World.ownsRow.kept (row:=some b) h1 ⟨rfl,rfl,rfl,by simp,λk _ hk=>s2 k (λe=>hk (by rw[e]))⟩ ?_,h2,h3.mono (λc _ h=>C c h) hw⟩
    rcases h1.2 with⟨h,_⟩|⟨g,cap,cur,h,_⟩
    ·rw[h];exact .inl rfl
    ·right
     rw[h]
     intro e'
     simp[Value.ownBlock]at e'
     exact hS g (by rw[h];rfl) e'
   |arn e' sz rows=>
    obtain⟨cells,h0,h1,h2,h3⟩:=hW
    refine⟨cells,h0,World.ownsRow.kept (row:=some b) h1 ⟨rfl,rfl,rfl,by simp,λk _ hk=>s2 k (λe=>hk (by rw[e]))⟩ ?_,h2,h3.mono (λc _ h=>C c h) hw (λ_ _=>rfl) (zB2 _)⟩
    rcases h1.2 with⟨h,_⟩|⟨g,cap,cur,h,_⟩
    ·rw[h];exact .inl rfl
    ·right
     rw[h]
     intro e'
     simp[Value.ownBlock]at e'
     exact hS g (by rw[h];rfl) e'
   |map kt' m ents'=>
    obtain⟨b',es',clock',h1,h2,h3,h4,h5⟩:=hW
    exact⟨b',es',clock',h1,h2,by rw[s2 _ (hS b' (by rw[h1];rfl))];exact h3,h4.mono λ_ _ h=>h.mono (λc _ h=>C c h) hw (λ_ _=>rfl) (zB2 _),h5⟩
 ·obtain⟨c1,g8⟩:=q7 _ _ h1
  obtain⟨c2,g9⟩:=q7 _ _ h2
  exact hs.apart _ _ _ _ _ g8 g9 h3 h4
theorem bf.set {α β:Type} {R:α→β→Prop} {as:List α} {bs:List β} (h:bf R as bs) (j:Nat) {x:α} {y:β} (hr:R x y):bf R (as.set j x) (bs.set j y):=by
 induction h generalizing j with
 |nil=>exact .nil
 |cons h t ih=>
  cases j with
  |zero=>exact .cons hr t
  |succ j=>exact .cons h (ih j)
theorem Ks {v:AV} {ys:List AC} (hm:B9 n v=some ys):iE n ys=v:=by
 unfold B9 at hm
 split at hm
 ·cases hm;rfl
 ·split at hm
  ·cases hm;rfl
  ·cases hm
 ·cases hm
theorem VY {t:TypeId} {v:Operand} {m k q:AX} (ho:o.op= .mapUpdate t x y v∨o.op= .insert t x y v) (ht:nB P t=some (kt,e,n)) (hx:aC x=some m) (hy:aC y=some k) (hv:aC v=some q)
  (h:bC P (.mput kt n m k q) σ K) (hs:ci w0 U σ ι a w) (hn:fS w0 U a o K next):o.wp P a w next Q:=by
 have r1:=aq hx hs
 have r2:=aq hy hs
 have r3:=aq hv hs
 generalize hu:a.eval x=u at r1
 obtain⟨kty,g1,g2,g3⟩:=rx ht
 simp only[bC]at h
 split at h
 ·rename_i kv ek
  rw[ek]at r2
  have e2:=(aU r2).1
  obtain⟨mk,HV,h⟩:=h
  obtain⟨q1,q2⟩:=EI HV
  simp only at h
  split at h
  ·rename_i nm em
   rw[em]at r1
   obtain⟨ys,HT,h⟩:=h
   have hv3:=Ks HT
   simp only at h
   split at h
   ·rename_i kt' n' ents hf
    obtain⟨⟨rfl,rfl⟩,h⟩:=h
    cases r1 with
    |c r1=>cases r1 with
     | @mref _ b hA hι=>
      obtain⟨b',es,clock,k1,k2,k3,k4,k5⟩:=hs.box _ _ hf
      rw[hι]at k1
      simp at k1
      subst k1
      have H1:(Instr.checkKey false 10000 kty kv).run P w= .ok () w:=MapKept.run_checkKey g2 q1 false 9999
      have h8: ∀born,F7 w (aV w0.heap.size U ι σ.mem) ι σ.nx kt' n' (mk,ys) {key:=kv,val:=a.eval v,born:=born}:= λborn=>⟨q2,by show aT _ _ _ _ (iE n' ys) _;rw[hv3];exact r3⟩
      rcases z8 q1 q2 (i:=0) k4 with⟨l1,l2⟩|⟨j,ps,en,l1,l2,l3,l4,l5,_,l6⟩
      ·have HE:=MapKept.run_findKey (w:=w) g2 l2
       rw[lf l1]at h
       refine mp (w':={w with heap:=w.heap.setIfInBounds b (.map (es.push {key:=kv,val:=a.eval v,born:=clock}) (clock+1))}) ?_ (hn _ _ ι _ _ h (hs.setMap hf hι k3 ?_ ?_) ip)
       ·rcases ho with ho|ho<;>simp[execOp,ho,hu,e2,Instr.mapUpdate,run_underlying g1,MapKept.run_getObj_map k3,H1,HE,MapKept.run_setObj_map _ k3]
       ·rw[Array.toList_push]
        exact k4.append (.cons (h8 _) .nil)
       ·exact k5.push rfl
      ·have HE:=MapKept.run_findKey (w:=w) g2 l2
       rw[l6]at h
       have hj:es[j]? =some en:=by simpa using l3
       refine mp (w':={w with heap:=w.heap.setIfInBounds b (.map (es.modify j λe=>{e with key:=kv,val:=a.eval v}) clock)}) ?_ (hn _ _ ι _ _ h (hs.setMap hf hι k3 ?_ ?_) ip)
       ·rcases ho with ho|ho<;>simp[execOp,ho,hu,e2,Instr.mapUpdate,run_underlying g1,MapKept.run_getObj_map k3,H1,HE,MapKept.run_setObj_map _ k3,hj,l4,MapKept.run_keyThatStays q1]
       ·rw[Array.toList_modify,ChangeMaps.modify_eq_set _ _ _ _ l3]
        exact k4.set j (h8 _)
       ·exact k5.modify λ_=>rfl
   ·exact h.elim
  ·exact h.elim
 ·exact h.elim
theorem Vb {k:MK} {u v:List AC}: ∀{l:List (MK×List AC)} {i:Nat},l[i]? =some (k,u)→Yx l i v=l.set i (k,v)
 |(k0,u0)::r,0,h=>by
  simp only[zB0,Option.some.injEq,Prod.mk.injEq]at h
  obtain⟨rfl,rfl⟩:=h
  rfl
 |x::r,i+1,h=>by
  simp only[zB4]at h
  simp only[Yx,List.set_cons_succ,Vb h]
theorem Wv {w:World} {x:Obj} (h:w.heap[b]? =some x):({w with heap:=w.heap.setIfInBounds b x}:World)=w:=by
 have:w.heap.setIfInBounds b x=w.heap:=by
  refine Array.ext_getElem? λi=> ?_
  rw[zK2]
  by_cases e:b=i
  ·subst e
   rw[if_pos rfl,if_pos (zC6.1 h).1,h]
  ·rw[if_neg e]
 rw[this]
theorem abY {t:TypeId} {m k:AX} (ho:o.op= .mapEntry t x y) (ht:nB P t=some (kt,e,n)) (hz:dZ P e=some z) (O:FX n z=some zs) (hx:aC x=some m) (hy:aC y=some k)
  (h:bC P (.ment kt n zs m k) σ K) (hs:ci w0 U σ ι a w) (hn:fS w0 U a o K next):o.wp P a w next Q:=by
 have r1:=aq hx hs
 have r2:=aq hy hs
 have H0: ∀(w:World) (V:Nat→Prop) (ι:Pl) (N:Nat),aT w V ι N (iE n zs) z:=by
  intro w V ι N
  unfold FX at O
  split at O
  ·split at O
   ·cases O;exact .c (vL ‹_›)
   ·cases O
  ·split at O
   ·exact .agg (nu O)
   ·cases O
 have HR:(zeroValue e).run P w= .ok z w:=by
  unfold dZ at hz
  cases hi:P.info? e with
  |none=>simp[hi]at hz
  |some i=>simp[hi]at hz;simp[zeroValue,typeInfo,hi,hz]
 generalize hu:a.eval x=u at r1
 obtain⟨kty,g1,g2,g3⟩:=rx ht
 simp only[bC]at h
 split at h
 ·rename_i kv ek
  rw[ek]at r2
  have e2:=(aU r2).1
  obtain⟨mk,HV,h⟩:=h
  obtain⟨q1,q2⟩:=EI HV
  simp only at h
  split at h
  ·rename_i nm em
   rw[em]at r1
   split at h
   ·rename_i kt' n' ents hf
    obtain⟨⟨rfl,rfl⟩,h⟩:=h
    cases r1 with
    |c r1=>cases r1 with
     | @mref _ b hA hι=>
      obtain⟨b',es,clock,k1,k2,k3,k4,k5⟩:=hs.box _ _ hf
      rw[hι]at k1
      simp at k1
      subst k1
      have H1:(Instr.checkKey false 10000 kty kv).run P w= .ok () w:=MapKept.run_checkKey g2 q1 false 9999
      have hC:ents.length=es.size:=by rw[←zD0];exact k4.length
      rcases z8 q1 q2 (i:=0) k4 with⟨l1,l2⟩|⟨j,ps,en,l1,l2,l3,l4,l5,l7,l6⟩
      ·have HE:=MapKept.run_findKey (w:=w) g2 l2
       have hk:=h.2 l1
       refine aA (u:= .tuple #[z,.int .i64 clock]) (w':={w with heap:=w.heap.setIfInBounds b (.map (es.push {key:=kv,val:=z,born:=clock}) (clock+1))}) ?_ (hn _ _ ι _ _ hk (hs.setMap hf hι k3 ?_ (k5.push rfl)) (abF (H0 _ _ _ _) ?_))
       ·simp[execOp,ho,hu,e2,Instr.mapEntry,run_underlying g1,MapKept.run_getObj_map k3,H1,HE,HR,MapKept.run_setObj_map _ k3,goInt]
       ·rw[Array.toList_push]
        exact k4.append (.cons ⟨q2,H0 _ _ _ _⟩ .nil)
       ·rw[k5.1,←hC]
        exact .c (.pure (.val rfl))
      ·have HE:=MapKept.run_findKey (w:=w) g2 l2
       have hk:=h.1 ps l1
       have hj:es[j]? =some en:=by simpa using l3
       have hb:=k5.2 j en hj
       have hsame:es.modify j (λe=>{e with key:=kv})=es:=by
        refine Array.ext_getElem? λi=> ?_
        rw[Array.getElem?_modify]
        by_cases e:j=i
        ·subst e
         rw[if_pos rfl,hj]
         simp[←l4]
        ·rw[if_neg e]
       obtain⟨en',H2,h8⟩:=k4.get l5
       rw[l3]at H2
       cases H2
       refine aA (u:= .tuple #[en.val,.int .i64 j]) (w':=w) ?_ (hn _ σ ι _ w hk hs (abF h8.2 ?_))
       ·simp[execOp,ho,hu,e2,Instr.mapEntry,run_underlying g1,MapKept.run_getObj_map k3,H1,HE,MapKept.run_setObj_map _ k3,hj,l4,MapKept.run_keyThatStays q1,goInt,hsame,hb,Wv k3]
       ·rw[l7]
        exact .c (.pure (.val rfl))
   ·exact h.elim
  ·exact h.elim
 ·exact h.elim
theorem abi {t:TypeId} {v:Operand} {m k q:AX} (ho:o.op= .entryStore t x y v) (ht:nB P t=some (kt,e,n)) (hx:aC x=some m) (hy:aC y=some k) (hv:aC v=some q)
  (h:bC P (.eput kt n m k q) σ K) (hs:ci w0 U σ ι a w) (hn:fS w0 U a o K next):o.wp P a w next Q:=by
 have r1:=aq hx hs
 have r2:=aq hy hs
 have r3:=aq hv hs
 generalize hu:a.eval x=u at r1
 simp only[bC]at h
 split at h
 ·rename_i ik i ek
  rw[ek]at r2
  have e2:=(aU r2).1
  split at h
  ·rename_i nm em
   rw[em]at r1
   obtain⟨ys,HT,h⟩:=h
   have hv3:=Ks HT
   simp only at h
   split at h
   ·rename_i kt' n' ents hf
    obtain⟨⟨rfl,rfl,h0,hi⟩,h⟩:=h
    cases r1 with
    |c r1=>cases r1 with
     | @mref _ b hA hι=>
      obtain⟨b',es,clock,k1,k2,k3,k4,k5⟩:=hs.box _ _ hf
      rw[hι]at k1
      simp at k1
      subst k1
      have HN:i.toNat<ents.length:=by omega
      obtain⟨en,H2,h8⟩:=k4.get (zA7 HN)
      have hj:es[i.toNat]? =some en:=by simpa using H2
      have hfi:es.findIdx? (λe=>(e.born:Int)==i)=some i.toNat:=by
       rw[Array.findIdx?_eq_some_iff_getElem]
       obtain⟨hl,hg⟩:=zC6.1 hj
       refine⟨hl, ?_,λj hji=> ?_⟩
       ·have:=k5.2 _ _ hj
        rw[hg,this]
        simp
        omega
       ·have:=k5.2 j _ (zG7 zR5)
        rw[this]
        simp
        omega
      rw[Vb (zA7 HN)]at h
      refine mp (w':={w with heap:=w.heap.setIfInBounds b (.map (es.modify i.toNat λe=>{e with val:=a.eval v}) clock)}) ?_ (hn _ _ ι _ _ h (hs.setMap hf hι k3 ?_ (k5.modify λ_=>rfl)) ip)
      ·simp[execOp,ho,hu,e2,Instr.entryStore,MapKept.run_getObj_map k3,asInt,asIntOf,hfi,MapKept.run_setObj_map _ k3]
      ·rw[Array.toList_modify,ChangeMaps.modify_eq_set _ _ _ _ H2]
       exact k4.set _ ⟨h8.1,by show aT _ _ _ _ (iE n' ys) _;rw[hv3];exact r3⟩
   ·exact h.elim
  ·exact h.elim
 ·exact h.elim
end
open Go.RowKit
section
variable {P : Program} {o : Oper} {a : Act} {w w' w0 : World} {U : Gh} {ι : Pl} {σ : St} {next : Act → World → Prop} {Q : Exit → Act → World → Prop} {K : AV → St → Prop}
theorem aaI {nm:Nat} {rows:List (List PC)}: ∀{mem:List (Nat×bP)} {n:Nat},ar (HJ nm rows mem) n=if n=nm then none else(ar mem n).map (Om nm rows)
 | [],n=>by simp[HJ,ar]
 |(m,b)::r,n=>by
  simp only[HJ]
  by_cases e:m=nm
  ·subst e
   rw[if_pos rfl,aaI,im]
   by_cases e':m=n
   ·subst e';simp
   ·simp[e']
  ·rw[if_neg e,im,aaI,im]
   by_cases e':m=n
   ·subst e'
    simp[e]
   ·simp[e']
theorem abw {nm:Nat} {rows:List (List PC)}: ∀{fr:List (Nat×AV)} {t:Nat},aZ (L5 nm rows fr) t=Mh nm rows (aZ fr t)
 | [],t=>rfl
 |(s,v)::r,t=>by
  simp only[L5,aZ]
  by_cases e:s=t
  ·rw[if_pos e,if_pos e]
  ·rw[if_neg e,if_neg e,abw]
variable {V:Nat→Prop}{N nm:Nat}{rows:List (List PC)}{v:Value}
theorem dE.frz {x:AC} (h:dE w V ι N x v) (hr:d6 w V (.slice rows) (ι nm)):dE w V ι N (BZ nm rows x) v:=by
 cases x with
 |ref m=>
  have e:v=ι m:=by cases h;rfl
  simp only[BZ]
  by_cases en:m=nm
  ·subst en
   rw[if_pos rfl,e]
   exact .pure hr
  ·rw[if_neg en];exact h
 |_=>exact h
theorem ac9 {xs:List AC} {vs:List Value} (h:bf (dE w V ι N) xs vs) (hr:d6 w V (.slice rows) (ι nm)):bf (dE w V ι N) (xs.map (BZ nm rows)) vs:=by
 induction h with
 |nil=>exact .nil
 |cons h _ ih=>exact .cons (h.frz hr) ih
theorem aT.frz {x:AV} (h:aT w V ι N x v) (hr:d6 w V (.slice rows) (ι nm)):aT w V ι N (Mh nm rows x) v:=by
 cases h with
 |c h=>exact .c (h.frz hr)
 |agg h=>exact .agg (ac9 h hr)
 |tup hl h=>exact .tup hl h
 |top=>exact .top
variable {n:Option Nat}
theorem ae1 {ps:List AC}:iE n (ps.map (BZ nm rows))=Mh nm rows (iE n ps):=by
 cases n with
 |none=>cases ps<;>rfl
 |some k=>rfl
theorem aeZ {kt:KT} {xs:List (MK×List AC)} {es:List MapEntry} (h:bf (F7 w V ι N kt n) xs es) (hr:d6 w V (.slice rows) (ι nm)):bf (F7 w V ι N kt n) (xs.map λx=>(x.1,x.2.map (BZ nm rows))) es:=by
 induction h with
 |nil=>exact .nil
 |cons h _ ih=>exact .cons ⟨h.1,by show aT _ _ _ _ (iE n (List.map _ _)) _;rw[ae1];exact h.2.frz hr⟩ ih
theorem aen {sz:Nat} {rs:List (List AC)} {cells:List Value} (h:ZN w V ι N sz rs cells) (hr:d6 w V (.slice rows) (ι nm)):ZN w V ι N sz (rs.map λr=>r.map (BZ nm rows)) cells:=by
 refine⟨by rw[zE3];exact h.1,λi row hi=> ?_,λi row j p hi hj=> ?_⟩
 ·rw[zC7,zC1]at hi
  obtain⟨r,hi,rfl⟩:=hi
  rw[zE3]
  exact h.2.1 _ _ hi
 ·rw[zC7,zC1]at hi
  obtain⟨r,hi,rfl⟩:=hi
  rw[zC7,zC1]at hj
  obtain⟨x,hj,rfl⟩:=hj
  obtain⟨v,hv,hp⟩:=h.2.2 i r j x hi hj
  exact⟨v,hv,hp.frz hr⟩
theorem ci.frz (hs:ci w0 U σ ι a w) {e sz:Nat} (hf:ar σ.mem nm=some (.arr e sz rows)):ci w0 U (σ.frz nm rows) ι a w∧d6 w (aV w0.heap.size U ι (σ.frz nm rows).mem) (.slice rows) (ι nm)∧ ∀b,aV w0.heap.size U ι σ.mem b→aV w0.heap.size U ι (σ.frz nm rows).mem b:=by
 have HP: ∃a n c,ι nm= .slice a n c:=by
  obtain⟨cells,g0,g1,g2,g3⟩:=hs.box _ _ hf
  rcases g1.2 with⟨e1,e2⟩|⟨g,cap,cur,e1,hB,_⟩
  ·exact⟨_,_,_,e1⟩
  ·exact⟨_,_,_,e1⟩
 obtain⟨Hz,hr1,hfr1⟩:=Z8 (x:= .ref nm) (p:= .slice rows) (mem':=M9 σ.mem nm) hs (.ref (hs.names _ _ hf) HP) (by simp[aa4,hf])
 have hP: ∀n bx,ar (HJ nm rows σ.mem) n=some bx→ ∃bx',ar (M9 σ.mem nm) n=some bx'∧bx=Om nm rows bx':=by
  intro n bx h
  rw[aaI]at h
  rw[vO]
  by_cases en:n=nm
  ·rw[if_pos en]at h;cases h
  ·rw[if_neg en]at h ⊢
   cases hq:ar σ.mem n with
   |none=>simp[hq]at h
   |some b=>simp[hq]at h;exact⟨b,rfl,h.symm⟩
 have H3: ∀b,aV w0.heap.size U ι (M9 σ.mem nm) b→aV w0.heap.size U ι (HJ nm rows σ.mem) b:= λb h=>⟨h.1,λn bx hn=>by
  obtain⟨bx',h1,_⟩:=hP n bx hn
  exact h.2 n bx' h1⟩
 have gg:d6 w (aV w0.heap.size U ι (HJ nm rows σ.mem)) (.slice rows) (ι nm):=hr1.mono (λb _ h=>H3 b h) (λ_ _ _=>rfl)
 refine⟨⟨λt=> ?_,hs.defers,λn bx hn=> ?_,λn bx hn=> ?_,λn n' b1 b2 b h1 h2 h3 h4=> ?_,hs.below, ?_,hs.base⟩,gg,λb h=>H3 b (hfr1 b h)⟩
 ·show aT w _ ι σ.nx (aZ (L5 nm rows σ.fr) t) _
  rw[abw]
  exact((Hz.val t).mono (λb _ h=>H3 b h) (λ_ _ _=>rfl) (λ_ _=>rfl) (zB2 _)).frz gg
 ·obtain⟨bx',h1,_⟩:=hP n bx hn
  exact Hz.names _ _ h1
 ·obtain⟨bx',h1,rfl⟩:=hP n bx hn
  have h2:=(Hz.box _ _ h1).grow (Below.refl _ _) (λb _ h=>H3 b h) (λ_ _=>rfl) (zB2 _) (Hz.names _ _ h1)
  cases bx' with
  |var xs=>
   obtain⟨b,vs,T,k1,k2,k3,k4⟩:=h2
   exact⟨b,vs,T,k1,k2,k3,ac9 k4 gg⟩
  |arr e sz rows=>exact h2
  |arn e sz rs=>
   obtain⟨cells,k0,k1,k2,k3⟩:=h2
   exact⟨cells,k0,by rw[zE3];exact k1,by rw[zE3];exact k2,aen k3 gg⟩
  |map kt n ents=>
   obtain⟨b,es,clock,k1,k2,k3,k4,k5⟩:=h2
   exact⟨b,es,clock,k1,k2,k3,aeZ k4 gg,k5⟩
 ·obtain⟨_,g1,_⟩:=hP _ _ h1
  obtain⟨_,g2,_⟩:=hP _ _ h2
  exact Hz.apart _ _ _ _ _ g1 g2 h3 h4
 ·exact U.mono _ _ _ _ Hz.keep (λb _ h=>H3 b h) (λ_ _ _=>rfl)
theorem uf: ∀{l:List Nat} {σ σ':St} {args args':List AV} {us:List Value},ci w0 U σ ι a w→bf (aT w (aV w0.heap.size U ι σ.mem) ι σ.nx) args us→bM l σ args=(σ',args')→
  ci w0 U σ' ι a w∧bf (aT w (aV w0.heap.size U ι σ'.mem) ι σ'.nx) args' us
 | [],σ,σ',args,args',us,hs,hr,h=>by cases h;exact⟨hs,hr⟩
 |nm::l,σ,σ',args,args',us,hs,hr,h=>by
  simp only[bM]at h
  split at h
  ·rename_i hf
   obtain⟨h1,h2,h3⟩:=hs.frz hf
   refine uf h1 ?_ h
   clear h
   generalize hl:us=us' at*
   clear hl
   induction hr with
   |nil=>exact .nil
   |cons hr _ ih=>exact .cons ((hr.mono (λb _ h=>h3 b h) (λ_ _ _=>rfl) (λ_ _=>rfl) (zB2 _)).frz h2) ih
  ·cases h;exact⟨hs,hr⟩
def jX:ET→Value→Prop
 | .int k,.int k' _=>k'=k
 | .str,.string _=>True
 | .bool,.bool _=>True
 |_,_=>False
theorem zN: ∀{l:List ET} {xs ys:List AC},PT l xs ys→ ∃us vs,xs=us.map (λu=> .pure (.val u))∧ys=vs.map (λu=> .pure (.val u))∧bf jX l us∧bf jX l vs∧(Xs xs ys↔us=vs)
 |[],xs,ys,h=>by
  unfold PT at h
  split at h
  ·exact⟨[], [],rfl,rfl,.nil,.nil,by simp[Xs]⟩
  ·contradiction
  ·contradiction
  ·contradiction
  ·exact h.elim
 |e::l,xs,ys,h=>by
  unfold PT at h
  split at h
  ·contradiction
  ·rename_i k l' k1 a xs' k2 b ys' e
   cases e
   obtain⟨rfl,rfl,h⟩:=h
   obtain⟨us,vs,rfl,rfl,h1,h2,h3⟩:=zN h
   exact⟨_::us,_::vs,rfl,rfl,.cons rfl h1,.cons rfl h2,by simp[Xs,h3]⟩
  ·rename_i l' a xs' b ys' e
   cases e
   obtain⟨us,vs,rfl,rfl,h1,h2,h3⟩:=zN h
   exact⟨_::us,_::vs,rfl,rfl,.cons trivial h1,.cons trivial h2,by simp[Xs,h3]⟩
  ·rename_i l' a xs' b ys' e
   cases e
   obtain⟨us,vs,rfl,rfl,h1,h2,h3⟩:=zN h
   exact⟨_::us,_::vs,rfl,rfl,.cons trivial h1,.cons trivial h2,by simp[Xs,h3]⟩
  ·exact h.elim
def Xj (P:Program) (t:TypeId) (us:List Value):Option Value:=match P.underlying t with
 |some (.struct _)=>some (.agg us.toArray)
 |_=>match us with
  | [u]=>some u
  |_=>none
def EqS (P:Program) (dd:Nat) (t:TypeId) (l:List ET):Prop:= ∀(w:World) us vs a b,Xj P t us=some a→Xj P t vs=some b→bf jX l us→bf jX l vs→ ∃r:Bool,(Op.equalIn dd t a b).run P w= .ok r w∧(r=true↔us=vs)
variable {l:List ET}
theorem U7 {n:Nat} {t:TypeId} (h:R7 P n t=some l) (hi:(P.info? t).map (·.size)=some l.length) {xs:Array Value} {off:Nat} (hl:off+l.length≤xs.size): ∃a,(part t xs off).run P w= .ok a w∧Xj P t ((xs.toList.drop off).take l.length)=some a:=by
 cases n with
 |zero=>cases h
 |succ n=>
  have hF: ∀(g6:l.length=1),∃u,xs[off]? =some u∧(xs.toList.drop off).take l.length= [u]:=by
   intro g6
   have H:off<xs.size:=by omega
   refine⟨xs[off],zG7 H, ?_⟩
   rw[g6,zC0 (by simpa using H)]
   simp
  unfold R7 at h
  split at h
  ·rename_i k hu
   cases h
   obtain⟨u,h1,h2⟩:=hF rfl
   exact⟨u,run_part_plain w (by simp[Program.plainKey,hu]) h1,by rw[h2];simp[Xj,hu]⟩
  ·rename_i hu
   cases h
   obtain⟨u,h1,h2⟩:=hF rfl
   exact⟨u,run_part_plain w (by simp[Program.plainKey,hu]) h1,by rw[h2];simp[Xj,hu]⟩
  ·rename_i hu
   cases h
   obtain⟨u,h1,h2⟩:=hF rfl
   exact⟨u,run_part_plain w (by simp[Program.plainKey,hu]) h1,by rw[h2];simp[Xj,hu]⟩
  ·rename_i fs hu
   obtain⟨i,hi2⟩:=info_of_underlying hu
   rw[hi2]at hi
   simp at hi
   refine⟨.agg (xs.extract off (off+l.length)),by simp[part,isAgg,run_underlying hu,sizeOf,typeInfo,hi2,hi], ?_⟩
   simp only[Xj,hu]
   congr 2
   apply Array.ext'
   simp[List.take_drop]
  ·cases h
theorem OJ {n dd:Nat} (ih: ∀t l,R7 P n t=some l→EqS P dd t l) (xs ys:Array Value): ∀{fs:List Field} {off:Nat} {l:List ET},off≤xs.size→off≤ys.size→Q4 P (R7 P n) fs off=some l→bf jX l (xs.toList.drop off)→bf jX l (ys.toList.drop off)→
  ∃r:Bool,(Op.eqFields dd xs ys fs).run P w= .ok r w∧(r=true↔xs.toList.drop off=ys.toList.drop off)
 |[],off,l,ox,oy,h,hx,hy=>by
  cases h
  cases hx':xs.toList.drop off with
  |cons=>rw[hx']at hx;cases hx
  |nil=>
   cases hy':ys.toList.drop off with
   |cons=>rw[hy']at hy;cases hy
   |nil=>exact⟨true,by simp[Op.eqFields],by simp⟩
 |fd::fs,off,l,ox,oy,h,hx,hy=>by
  unfold Q4 at h
  split at h
  ·cases h
  ·rename_i hno
   have HW : fd.name ≠ "_" := λe => hno (.inl e)
   have hoff:fd.offset=off:=zD5 λe=>hno (.inr e)
   split at h
   ·rename_i l1 g6
    split at h
    ·rename_i J
     simp only[zC1]at h
     obtain⟨l2,h2,rfl⟩:=h
     have lx:=hx.length
     have ly:=hy.length
     simp only[zE8,List.length_drop,zD0]at lx ly
     obtain⟨a,pa,va⟩:=U7 (w:=w) g6 J (xs:=xs) (off:=off) zR5
     obtain⟨b,pb,vb⟩:=U7 (w:=w) g6 J (xs:=ys) (off:=off) zR5
     have tk: ∀{zs:List Value},bf jX (l1++l2) zs→bf jX l1 (zs.take l1.length)∧bf jX l2 (zs.drop l1.length):= λhz=>by
      have h1:=hz.take l1.length
      have h2:=hz.drop l1.length
      simp only[List.take_left,List.drop_left]at h1 h2
      exact⟨h1,h2⟩
     obtain⟨r,hr,hL⟩:=ih _ _ g6 w _ _ a b va vb (tk hx).1 (tk hy).1
     obtain⟨r2,gg,hiff2⟩:=OJ ih xs ys zR5 zR5 h2 (by rw[←zK0];exact(tk hx).2) (by rw[←zK0];exact(tk hy).2)
     have key:(xs.toList.drop off=ys.toList.drop off)↔((xs.toList.drop off).take l1.length=(ys.toList.drop off).take l1.length∧xs.toList.drop (off+l1.length)=ys.toList.drop (off+l1.length)):=by
      constructor
      ·intro e
       rw[e,←zK0,←zK0,e]
       exact⟨rfl,rfl⟩
      ·rintro⟨e1,e2⟩
       rw[←zF1 l1.length (xs.toList.drop off),←zF1 l1.length (ys.toList.drop off),zK0,zK0,e1,e2]
     simp only[Op.eqFields,HW,hoff,ne_eq,not_false_eq_true,if_true,Sem.run_bind,pa,pb,hr,Result.andThen_ok]
     cases r
     ·exact⟨false,by simp,by rw[key];simp;intro e;exact absurd (hL.2 e) zR6⟩
     ·refine⟨r2,by simpa using gg, ?_⟩
      rw[key,hiff2]
      simp[hL.1 rfl]
    ·cases h
   ·cases h
theorem Kw: ∀{n d:Nat} {t:TypeId} {l:List ET},R7 P n t=some l→EqS P (d+n) t l
 |0,d,t,l,h=>by cases h
 |n+1,d,t,l,h=>by
  intro w us vs a b ha hb hx hy
  unfold R7 at h
  split at h
  ·rename_i k hu
   cases h
   cases hx with|cons h1 t1=>cases t1;cases hy with|cons h2 t2=>
    cases t2
    simp only[Xj,hu,Option.some.injEq]at ha hb
    subst ha;subst hb
    rename_i u v
    cases u<;>simp[jX]at h1
    cases v<;>simp[jX]at h2
    subst h1;subst h2
    exact⟨_,run_equalIn_int w (d+n) t _ _ _ _ hu,by simp⟩
  ·rename_i hu
   cases h
   cases hx with|cons h1 t1=>cases t1;cases hy with|cons h2 t2=>
    cases t2
    simp only[Xj,hu,Option.some.injEq]at ha hb
    subst ha;subst hb
    rename_i u v
    cases u<;>simp[jX]at h1
    cases v<;>simp[jX]at h2
    refine⟨_,run_equalIn_string w (d+n) t _ _ hu, ?_⟩
    rename_i s s'
    obtain⟨⟨s⟩⟩:=s
    obtain⟨⟨s'⟩⟩:=s'
    simp[ByteArray.toList_eq]
  ·rename_i hu
   cases h
   cases hx with|cons h1 t1=>cases t1;cases hy with|cons h2 t2=>
    cases t2
    simp only[Xj,hu,Option.some.injEq]at ha hb
    subst ha;subst hb
    rename_i u v
    cases u<;>simp[jX]at h1
    cases v<;>simp[jX]at h2
    exact⟨_,run_equalIn_bool' w (d+n) t _ _ hu,by simp⟩
  ·rename_i fs hu
   split at h
   ·cases h
   ·rename_i q8
    simp only[Xj,hu,Option.some.injEq]at ha hb
    subst ha;subst hb
    have hfs:P.fieldsOf t=fs:=by simp[Program.fieldsOf,hu]
    obtain⟨r,hr,hL⟩:=OJ (w:=w) (dd:=d+n) (λt l h=>Kw h) us.toArray vs.toArray (zE6 _) (zE6 _) h (by simpa using hx) (by simpa using hy)
    refine⟨r, ?_,by simpa using hL⟩
    rw[show d+(n+1)=(d+n)+1 from rfl,run_equalIn_struct w (d+n) t _ _ (by rw[hfs];exact hu) (by simpa using q8),hfs]
    exact hr
  ·cases h
theorem vV {V:Nat→Prop} {N:Nat}: ∀{us:List Value} {vs:List Value},bf (dE w V ι N) (us.map λu=> .pure (.val u)) vs→vs=us
 | [],vs,h=>by cases h;rfl
 |u::us,vs,h=>by
  cases h with
  |cons h1 t=>
   cases h1 with
   |pure h1=>cases h1 with
    |val=>rw[vV t]
theorem YP {op:BinOp} {t t':TypeId} {x y:Operand} {p q:AX} {neg:Bool} (H5:(op= .eql∧neg=false)∨(op= .neq∧neg=true)) (q8:DB P t=true) (hl:V6 P t=some l) (ho:o.op= .binOp op t x y t') (hx:aC x=some p) (hy:aC y=some q)
  (h:bC P (.eqs neg l p q) σ K) (hs:ci w0 U σ ι a w) (hn:fS w0 U a o K next):o.wp P a w next Q:=by
 have r1:=aq hx hs
 have r2:=aq hy hs
 simp only[bC]at h
 split at h
 ·rename_i xs ys e e'
  rw[e]at r1
  rw[e']at r2
  obtain⟨hk,h⟩:=h
  obtain⟨us,vs,rfl,rfl,f1,f2,f3⟩:=zN hk
  generalize hu:a.eval x=u at r1
  generalize hv:a.eval y=v at r2
  cases r1 with
  | @agg _ cu r1=>
   cases r2 with
   | @agg _ cv r2=>
    have e1:=vV r1
    have e2:=vV r2
    obtain rfl:cu=us.toArray:=by apply Array.ext';simpa using e1
    obtain rfl:cv=vs.toArray:=by apply Array.ext';simpa using e2
    unfold V6 at hl
    split at hl
    ·cases hl
    ·rename_i hgt
     unfold DB at q8
     split at q8
     ·rename_i fs hT
      obtain⟨r,hr,hL⟩:=Kw (d:=9994) hl w us vs (.agg us.toArray) (.agg vs.toArray) (by simp[Xj,hT]) (by simp[Xj,hT]) f1 f2
      have hr':(Op.equal t (.agg us.toArray) (.agg vs.toArray)).run P w= .ok r w:=hr
      have hdec:uM (Xs (us.map λu=> .pure (.val u)) (vs.map λu=> .pure (.val u)))=r:=by
       unfold uM
       cases r
       ·exact @zA9 _ (Classical.propDecidable _) (λhp=>by have:=hL.2 (f3.1 hp);cases this)
       ·exact @zB1 _ (Classical.propDecidable _) (f3.2 (hL.1 rfl))
      rw[hdec]at h
      have hg:(eqGuard op t x y (.agg us.toArray) (.agg vs.toArray)).run P w= .ok () w:=by
       unfold eqGuard
       cases op<;>simp[hgt]
      refine aA (u:= .bool (r !=neg)) (w':=w) ?_ (hn _ σ ι _ w h hs (kc _))
      simp only[execOp,ho,hu,hv]
      rw[Sem.run_bind,Sem.run_bind,hg]
      rcases H5 with⟨rfl,rfl⟩|⟨rfl,rfl⟩<;>simp[binOp,hr']
     ·cases q8
 ·exact h.elim
theorem aaU {f:Operand} {args:List Operand} {p:AX} {xs:List AX} {c:Call} (hc:c.callee= .value f) (X:c.args.toList=args) (ho:o.op= .call c) (hf:aC f=some p) (hx:kR args=some xs) {bg zg:Bool} (h:bC P (.call bg zg p xs) σ K) (hs:ci w0 U σ ι a w) (hn:fS w0 U a o K next):o.wp P a w next Q:=by
 have r1:=aq hf hs
 generalize hu:a.eval f=u at r1
 simp only[bC]at h
 split at h
 ·rename_i g caps e
  rw[e]at r1
  cases r1 with
  |c r1=>cases r1 with
   |clo hl hcap=>
    rename_i cv
    have hB:=hs.below.size
    have L:bf (aT w (aV w0.heap.size U ι σ.mem) ι σ.nx) (xs.map (·.ev σ.fr)++caps.map .c) (args.map a.eval++cv.toList):=by
     refine(Jq hs hx).append (bf.of_get zS8 λi x v hi hv=> ?_)
     rw[zC7]at hi
     cases ec:caps[i]? with
     |none=>simp[ec]at hi
     |some y=>
      simp[ec]at hi
      subst hi
      have:=hcap i y ec
      rw[hv]at this
      exact .c this
    have G2:(args.map a.eval++cv.toList)=((args.map a.eval).toArray++cv).toList:=by simp
    rw[G2]at L
    obtain⟨l,σ',args',-,hz,h⟩:=h
    obtain⟨hs,L⟩:=uf hs L hz
    clear hz hcap hl
    revert hs L h
    generalize σ'=σ at*
    intro h hs L
    have hB:=hs.below.size
    have hargv:c.args.map a.eval=(args.map a.eval).toArray:=by rw[←X];apply Array.ext';simp
    have q9:oT P g→(execOp a.eval o).run P w= .ok (.enter g ((args.map a.eval).toArray++cv)) w:=by
     rintro⟨fn,hfn,Q1,HW⟩
     have hb: ¬fn.body=none:=by intro e;rw[e]at Q1;cases Q1
     have Z2 : ¬ fn.name = "runtime.NumGoroutine" := by intro e; rw [e] at HW; simp at HW
     simp[execOp,ho,resolve,hc,hu,Deferred.ofValue,invoke,callFunc,hfn,Z2,hb,hargv]
    have fresh: ∀{res:AV} {v:Value} {w1:World},Below w.heap.size w w1→aT w1 (λb=>w.heap.size≤b) (λ_=>undef) 0 res v→aT w1 (aV w0.heap.size U ι σ.mem) ι σ.nx res v:=by
     intro res v w1 hb hr
     refine hr.mono (λb H h=>⟨.inr zR5,λnm bx hf e=> ?_⟩) (λ_ _ _=>rfl) (λnm hA=>by omega) (zE6 _)
     have:=((hs.box _ _ hf).block e).2
     omega
    rcases h with⟨pargs,zz,res,W,hK⟩|⟨rfl,res,mem',nx',⟨HX,hJ⟩,hK⟩
    ·have HX:oT P g:=by rcases W with⟨h,_⟩|h<;>exact h.1
     unfold Oper.wp
     rw[q9 HX]
     show Calls P g _ w _
     rcases W with⟨⟨_,hJ⟩,hflat|hnoref⟩|⟨_,hJ⟩
     ·have z2:=hJ w (λ_=>True) _ hs.glob (o6 (V:= λ_=>True) hs L (λ_ _=>trivial) (.inr λ_ _=>trivial) zz)
      refine z2.mono ?_
      rintro e w1 ⟨v,rfl,hr,hb⟩
      exact hn _ σ ι _ w1 hK (hs.grow hb) (WG hr hflat)
     ·have z2:=hJ w (aV w0.heap.size U ι σ.mem) _ hs.glob (o6 (V:=aV w0.heap.size U ι σ.mem) hs L (λ_ h=>h) (.inl hnoref) zz)
      refine z2.mono ?_
      rintro e w1 ⟨v,rfl,hr,hb⟩
      refine hn _ σ ι _ w1 hK (hs.grow hb) (hr.mono (λb H h=> ?_) (λ_ _ _=>rfl) (λnm hA=>by omega) (zE6 _))
      rcases h with h|h
      ·exact h
      ·refine⟨.inr zR5,λnm bx hf e=> ?_⟩
       have:=((hs.box _ _ hf).block e).2
       omega
     ·have z2:=hJ w (λ_=>True) _ hs.glob (o6 (V:= λ_=>True) hs L (λ_ _=>trivial) (.inr λ_ _=>trivial) zz)
      refine z2.mono ?_
      rintro e w1 ⟨v,rfl,hr,hb⟩
      exact hn _ σ ι _ w1 hK (hs.grow hb) (fresh hb hr)
    ·unfold Oper.wp
     rw[q9 HX]
     show Calls P g _ w _
     let U':Gh:=⟨U.p,ι,λw V=>U.G w V∧ ∀t,aT w V ι σ.nx (aZ σ.fr t) (a.tmps.getD t undef),λw w' V V' h hU hw=>⟨U.mono w w' V V' h.1 hU hw,λt=>(h.2 t).mono hU hw (λ_ _=>rfl) (zB2 _)⟩⟩
     have Z1:ci w0 U' ⟨[],σ.mem,σ.nx,σ.nx⟩ ι {tmps:= #[],defers:= []} w:=⟨λt=> .top,⟨rfl,hs.defers.2⟩,hs.names,hs.box,hs.apart,hs.below,⟨hs.keep,hs.val⟩,⟨zB2 _,λ_ _=>rfl⟩⟩
     refine(hJ w0 U' ι w _ Z1 L).mono ?_
     rintro e w1 ⟨v,ι',rfl,hY,hr⟩
     have hM:σ.nx≤nx':=hY.base.1
     refine hn _ _ ι' _ w1 hK ⟨λt=> ?_,hs.defers,hY.names,hY.box,hY.apart,hY.below,hY.keep.1,⟨zK3 hs.base.1 hM,λnm hA=> ?_⟩⟩ hr
     ·exact(hY.keep.2 t).mono (λ_ _ h=>h) (λ_ _ _=>rfl) (λnm hA=>hY.base.2 nm hA) hM
     ·exact(hY.base.2 nm (zH1 hA hs.base.1)).trans (hs.base.2 nm hA)
 ·exact h.elim
end
end Go.Abs
