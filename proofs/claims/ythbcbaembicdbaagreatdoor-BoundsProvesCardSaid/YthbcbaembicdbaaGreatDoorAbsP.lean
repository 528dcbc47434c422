import Derived.WalkKit
import Derived.WalkSpells
import Derived.Below
import Derived.Lib.Space
import Derived.MapKept
import Derived.Carry
import Derived.Laws.StructEq
import Derived.ChangeKeysEq
import Derived.DeepKeys
set_option linter.unusedVariables false
set_option linter.unusedSimpArgs false
namespace Go.Abs
open Go.RowKit
inductive KT where
 |int (k:IntKind)
 |str
 |bool
inductive MK where
 |int (n:Int)
 |str (s:List UInt8)
 |bool (b:Bool)
 deriving DecidableEq
inductive PC where
 |val (v:Value)
 |slice (rows:List (List PC))
 |fmap (kt:KT) (n:Option Nat) (ents:List (MK×List PC))
inductive AC where
 |pure (p:PC)
 |nils
 |tsl (rows:List (List PC))
 |ptr (nm off:Nat)
 |eptr (nm sz row off:Nat)
 |cptr (cells:List PC)
 |ref (nm:Nat)
 |clo (f:FuncId) (caps:List AC)
 |mref (nm:Nat)
 |top
inductive AV where
 |c (x:AC)
 |agg (xs:List AC)
 |tup (xs:List AV)
 |top
def MK.val:KT→MK→Option Value
 | .int k,.int n=>some (.int k n)
 | .str,.str s=>some (.string ⟨⟨s⟩⟩)
 | .bool,.bool b=>some (.bool b)
 |_,_=>none
def IN:KT→Value→Option MK
 | .int k,.int k' n=>if k=k' then some (.int n)else none
 | .str,.string s=>some (.str s.data.toList)
 | .bool,.bool b=>some (.bool b)
 |_,_=>none
inductive bc where
 |var (xs:List AC)
 |arr (e sz:Nat) (rows:List (List PC))
 |arn (e sz:Nat) (rows:List (List AC))
 |map (kt:KT) (n:Option Nat) (ents:List (MK×List AC))
structure St where
 fr:List (Nat×AV)
 mem:List (Nat×bc)
 nx:Nat
 base:Nat
def vp:Value→Bool
 | .bool _| .int _ _| .float _ _| .string _| .pointer none| .map none| .nilFunc| .nilIface| .func (.yield _) _ _=>true
 |_=>false
inductive aP {α β:Type} (R:α→β→Prop):List α→List β→Prop
 |nil:aP R [] []
 |cons {a:α} {b:β} {as:List α} {bs:List β} (h:R a b) (t:aP R as bs):aP R (a::as) (b::bs)
theorem aP.length {α β:Type} {R:α→β→Prop} {as:List α} {bs:List β} (h:aP R as bs):as.length=bs.length:=by
 induction h with
 |nil=>rfl
 |cons _ _ ih=>simp[ih]
theorem aP.mono {α β:Type} {R S:α→β→Prop} {as:List α} {bs:List β} (h:aP R as bs) (hs: ∀a b,R a b→S a b):aP S as bs:=by
 induction h with
 |nil=>exact .nil
 |cons h _ ih=>exact .cons (hs _ _ h) ih
theorem aP.get {α β:Type} {R:α→β→Prop} {as:List α} {bs:List β} (h:aP R as bs) {i:Nat} {a:α} (ha:as[i]? =some a): ∃b,bs[i]? =some b∧R a b:=by
 induction h generalizing i with
 |nil=>simp at ha
 |cons h _ ih=>
  cases i with
  |zero=>simp at ha;subst ha;exact⟨_,rfl,h⟩
  |succ i=>simp at ha;exact ih ha
theorem aP.of_get {α β:Type} {R:α→β→Prop}: ∀{as:List α} {bs:List β},as.length=bs.length→(∀(i:Nat) a b,as[i]? =some a→bs[i]? =some b→R a b)→aP R as bs
 | [], [],_,_=> .nil
 |a::as,b::bs,hl,h=> .cons (h 0 a b rfl rfl) (aP.of_get (by simpa using hl) fun i x y hx hy=>h (i+1) x y hx hy)
theorem aP.append {α β:Type} {R:α→β→Prop} {as as':List α} {bs bs':List β} (h:aP R as bs) (h':aP R as' bs'):aP R (as++as') (bs++bs'):=by
 induction h with
 |nil=>exact h'
 |cons h _ ih=>exact .cons h ih
theorem aP.drop {α β:Type} {R:α→β→Prop} {as:List α} {bs:List β} (h:aP R as bs) (n:Nat):aP R (as.drop n) (bs.drop n):=by
 induction h generalizing n with
 |nil=>simp;exact .nil
 |cons h t ih=>
  cases n with
  |zero=>exact .cons h t
  |succ n=>exact ih n
theorem aP.take {α β:Type} {R:α→β→Prop} {as:List α} {bs:List β} (h:aP R as bs) (n:Nat):aP R (as.take n) (bs.take n):=by
 induction h generalizing n with
 |nil=>simp;exact .nil
 |cons h t ih=>
  cases n with
  |zero=>exact .nil
  |succ n=>exact .cons h (ih n)
def OR (n:Option Nat) (v:Value):List Value:=match n,v with
 |none,v=> [v]
 |some _,.agg vs=>vs.toList
 |some _,_=> []
inductive cp (w:World) (U:Nat→Prop):PC→Value→Prop
 |val {v:Value} (h:vp v=true):cp w U (.val v) v
 |slice {sz:Nat} {rows:List (List PC)} {a:Option Addr} {n c:Nat} (g:Nat→Nat→Value) (hn:n=rows.length) (hc:n≤c) (hm:n≤9223372036854775807)
   (hr: ∀(i:Nat) row,rows[i]? =some row→row.length=sz)
   (hcell: ∀(i:Nat) (row:List PC) (j:Nat) p,rows[i]? =some row→row[j]? =some p→ ∃b off,a=some ⟨b,off,none⟩∧U b∧w.cell? ⟨b,off+(i*sz+j),none⟩=some (g i j))
   (hp: ∀(i:Nat) (row:List PC) (j:Nat) p,rows[i]? =some row→row[j]? =some p→cp w U p (g i j)):cp w U (.slice rows) (.slice a n c)
 |fmap {kt:KT} {n:Option Nat} {ents:List (MK×List PC)} {b clock:Nat} {es:Array MapEntry} (hb:U b) (hm:w.heap[b]? =some (.map es clock)) (hl:ents.length=es.size)
   (hk: ∀(i:Nat) x e,ents[i]? =some x→es.toList[i]? =some e→x.1.val kt=some e.key∧(n.isSome=true→ ∃vs,e.val= .agg vs)∧x.2.length=(OR n e.val).length)
   (hp: ∀(i:Nat) x e (j:Nat) p v,ents[i]? =some x→es.toList[i]? =some e→x.2[j]? =some p→(OR n e.val)[j]? =some v→cp w U p v):cp w U (.fmap kt n ents) (.map (some b))
theorem cp.mono {w w':World} {U U':Nat→Prop} {p:PC} {v:Value} (h:cp w U p v) (hU: ∀b,b<w.heap.size→U b→U' b)
  (hw: ∀b,b<w.heap.size→U b→w'.heap[b]? =w.heap[b]?):cp w' U' p v:=by
 induction h with
 |val h=>exact .val h
 |slice g hn hc hm hr hcell hp ih=>
  refine .slice g hn hc hm hr (fun i row j p h1 h2=> ?_) ih
  obtain⟨b,off,ha,hb,hcl⟩:=hcell i row j p h1 h2
  have hlt:b<w.heap.size:=World.block_lt_of_cell? w _ hcl
  exact⟨b,off,ha,hU b hlt hb,by rw[World.cell?_of_block (hw b hlt hb)];exact hcl⟩
 |fmap hb hm hl hk hp ih=>
  have hlt:=(Array.getElem?_eq_some_iff.1 hm).1
  exact .fmap (hU _ hlt hb) (by rw[hw _ hlt hb];exact hm) hl hk ih
abbrev Pl:=Nat→Value
inductive bZ (w:World) (U:Nat→Prop) (ι:Pl) (N:Nat):AC→Value→Prop
 |pure {p:PC} {v:Value} (h:cp w U p v):bZ w U ι N (.pure p) v
 |nils:bZ w U ι N .nils (.slice none 0 0)
 |tsl {rows:List (List PC)} {a:Option Addr} {n:Nat} (h:cp w U (.slice rows) (.slice a n n)):bZ w U ι N (.tsl rows) (.slice a n n)
 |ptr {nm off b:Nat} (hn:nm<N) (h:ι nm= .pointer (some ⟨b,0,none⟩)):bZ w U ι N (.ptr nm off) (.pointer (some ⟨b,off,none⟩))
 |eptr {nm sz row off b n c:Nat} (hn:nm<N) (h:ι nm= .slice (some ⟨b,0,none⟩) n c):bZ w U ι N (.eptr nm sz row off) (.pointer (some ⟨b,row*sz+off,none⟩))
 |cptr {cells:List PC} {b off:Nat} (g:Nat→Value) (hcell: ∀(j:Nat) p,cells[j]? =some p→U b∧w.cell? ⟨b,off+j,none⟩=some (g j)∧cp w U p (g j)):bZ w U ι N (.cptr cells) (.pointer (some ⟨b,off,none⟩))
 |ref {nm:Nat} (hn:nm<N) (h: ∃a n c,ι nm= .slice a n c):bZ w U ι N (.ref nm) (ι nm)
 |clo {f:FuncId} {caps:List AC} {vs:Array Value} (hl:caps.length=vs.size) (h: ∀(i:Nat) x,caps[i]? =some x→bZ w U ι N x (vs.toList[i]?.getD undef)):bZ w U ι N (.clo f caps) (.func (.func f) #[] vs)
 |mref {nm b:Nat} (hn:nm<N) (h:ι nm= .map (some b)):bZ w U ι N (.mref nm) (.map (some b))
 |top {v:Value} (h:v.oneCell'=true):bZ w U ι N .top v
inductive aU (w:World) (U:Nat→Prop) (ι:Pl) (N:Nat):AV→Value→Prop
 |c {x:AC} {v:Value} (h:bZ w U ι N x v):aU w U ι N (.c x) v
 |agg {xs:List AC} {vs:Array Value} (h:aP (bZ w U ι N) xs vs.toList):aU w U ι N (.agg xs) (.agg vs)
 |tup {xs:List AV} {vs:Array Value} (hl:xs.length=vs.size) (h: ∀(i:Nat) x,xs[i]? =some x→aU w U ι N x (vs.toList[i]?.getD undef)):aU w U ι N (.tup xs) (.tuple vs)
 |top {v:Value}:aU w U ι N .top v
inductive AX where
 |t (n:Nat)
 |k (v:AV)
inductive ET where
 |int (k:IntKind)
 |str
 |bool
inductive fc where
 |mv (x:AX)
 |pick (c a b:AX)
 |box (x:AX)
 |load (n:Option Nat) (p:AX)
 |store (n:Nat) (p v:AX)
 |bin (op:BinOp) (x y:AX)
 |eqb (neg:Bool) (x y:AX)
 |eqs (neg:Bool) (l:List ET) (x y:AX)
 |un (op:UnOp) (x:AX)
 |conv (k:IntKind) (x:AX)
 |fieldA (off:Nat) (p:AX)
 |field (off:Nat) (n:Option Nat) (x:AX)
 |idxA (sz:Nat) (x i:AX)
 |idxR (len sz:Nat) (x i:AX)
 |idxS (x i:AX)
 |nilc (x:AX)
 |build (zero:List AC) (parts:List (Nat×Nat×AX))
 |bslice (sz:Nat) (rows:List AX)
 |mkslice (e sz bytes:Nat) (zero:List PC) (l:AX)
 |slc (sz:Nat) (x:AX) (lo hi mx:Option AX)
 |slcS (x:AX) (lo hi:Option AX)
 |ext (x:AX) (i:Nat)
 |len (x:AX)
 |lenS (x:AX)
 |mm (mx:Bool) (x y:AX)
 |mm4 (x y z t:AX)
 |dead
 |fnil (neg:Bool) (x:AX)
 |snil (neg:Bool) (x:AX)
 |app (e sz bytes:Nat) (x y:AX)
 |mkfn (f:FuncId) (caps:List AX)
 |call (g z:Bool) (f:AX) (args:List AX)
 |bsliceF (sz:Nat) (rows:List AX)
 |mkmap (kt:KT) (n:Option Nat)
 |mget (kt:KT) (n:Option Nat) (zero:List AC) (ok:Bool) (m k:AX)
 |mput (kt:KT) (n:Option Nat) (m k v:AX)
structure AG where
 dst:Option Nat
 guard:Option (Nat×Bool)
 op:fc
inductive ak where
 |skip
 |region (ops:List AG) (draw:Bool)
 |draw (gss:List (List (Bool×AG)))
 |seq (a b:ak)
 |cond (c:AX) (thn els:ak)
 |block (id:Nat) (body:ak)
 |loop (body:ak)
 |exit (id:Nat)
 |ret
 |rangeF (f:AX) (ps:List Nat) (asg body:ak)
def aN:List (Nat×AV)→Nat→AV
 | [],_=> .top
 |(m,v)::r,n=>if m=n then v else aN r n
def St.put (σ:St):Option Nat→AV→St
 |some d,v=>{σ with fr:=(d,v)::σ.fr}
 |none,_=>σ
def am:List (Nat×bc)→Nat→Option bc
 | [],_=>none
 |(m,b)::r,n=>if m=n then some b else am r n
def mz:List (Nat×bc)→Nat→List (Nat×bc)
 | [],_=> []
 |(m,b)::r,n=>if m=n then mz r n else(m,b)::mz r n
def dJ:List (Nat×bc)→Nat→bc→List (Nat×bc)
 | [],_,_=> []
 |(m,b)::r,n,c=>if m=n then(m,c)::r else(m,b)::dJ r n c
def AX.ev (fr:List (Nat×AV)):AX→AV
 | .t n=>aN fr n
 | .k v=>v
def AV.cells:AV→Option (List AC)
 | .c x=>some [x]
 | .agg xs=>some xs
 |_=>none
def over {α:Type} (xs:List α) (off:Nat) (ys:List α):List α:=xs.take off++ys++xs.drop (off+ys.length)
def sr:List ET→List AC→List AC→Prop
 | [], [], []=>True
 | .int k::l,.pure (.val (.int k1 _))::xs,.pure (.val (.int k2 _))::ys=>k1=k∧k2=k∧sr l xs ys
 | .str::l,.pure (.val (.string _))::xs,.pure (.val (.string _))::ys=>sr l xs ys
 | .bool::l,.pure (.val (.bool _))::xs,.pure (.val (.bool _))::ys=>sr l xs ys
 |_,_,_=>False
def Dw:List AC→List AC→Prop
 | .pure (.val (.int _ a))::xs,.pure (.val (.int _ b))::ys=>a=b∧Dw xs ys
 | .pure (.val (.string a))::xs,.pure (.val (.string b))::ys=>a=b∧Dw xs ys
 | .pure (.val (.bool a))::xs,.pure (.val (.bool b))::ys=>a=b∧Dw xs ys
 |_,_=>True
noncomputable def BI (p:Prop):Bool:= @decide p (Classical.propDecidable p)
class nR (α:Type) where
 out:α
def c7 (p:Prop) [K:nR Prop]:Prop:=p∧K.out
def f6 {α:Type} (o:Option α) [K:nR (α→Prop)]:Prop:= ∃x,o=some x∧K.out x
def jc (t:Bool) [A:nR Prop] [B:nR Prop]:Prop:=(t=true→A.out)∧(t=false→B.out)
theorem Lb {p:Prop} {K:nR Prop} (h:p): @c7 p K=K.out:=propext ⟨fun h=>h.2,fun k=>⟨h,k⟩⟩
theorem SK {K:nR Prop}: @c7 True K=K.out:=Lb trivial
theorem T4 {α:Type} {x:α} {K:nR (α→Prop)}: @f6 _ (some x) K=K.out x:=propext ⟨fun⟨_,e,k⟩=>by cases e;exact k,fun k=>⟨x,rfl,k⟩⟩
theorem Qy {A B:nR Prop}: @jc true A B=A.out:=propext ⟨fun h=>h.1 rfl,fun a=>⟨fun _=>a,(fun e=>by cases e)⟩⟩
theorem Nn {A B:nR Prop}: @jc false A B=B.out:=propext ⟨fun h=>h.2 rfl,fun a=>⟨(fun e=>by cases e),fun _=>a⟩⟩
def t6 {α:Type} (o:Option α) [A:nR (α→Prop)] [B:nR Prop]:Prop:=(∀x,o=some x→A.out x)∧(o=none→B.out)
theorem Qx {α:Type} {x:α} {A:nR (α→Prop)} {B:nR Prop}: @t6 _ (some x) A B=A.out x:=propext ⟨fun h=>h.1 x rfl,fun a=>⟨fun y e=>by cases e;exact a,(fun e=>by cases e)⟩⟩
theorem P3 {α:Type} {A:nR (α→Prop)} {B:nR Prop}: @t6 α none A B=B.out:=propext ⟨fun h=>h.2 rfl,fun b=>⟨(fun x e=>by cases e),fun _=>b⟩⟩
theorem px {α:Type} {o:Option α} {A:nR (α→Prop)} {B:nR Prop} (h1: ∀x,o=some x→A.out x) (h2:o=none→B.out): @t6 α o A B:=⟨h1,h2⟩
def IP (rows:List (List PC)) [A:nR Prop] [B:nR Prop]:Prop:=((∀r∈rows,r= [])→A.out)∧B.out
theorem SD {p:PC} {r:List PC} {rows:List (List PC)} {A B:nR Prop}: @IP ((p::r)::rows) A B=B.out:=propext ⟨fun h=>h.2,fun h=>⟨(fun e=>by cases e _ List.mem_cons_self),h⟩⟩
theorem aj {rows:List (List PC)} {A B:nR Prop} (h1:(∀r∈rows,r= [])→A.out) (h2:B.out): @IP rows A B:=⟨h1,h2⟩
def bl (sz:Nat) (rows:List (List PC)):Prop:= ∀r∈rows,r.length=sz
def pcA:AC→Option PC
 | .pure p=>some p
 | .nils=>some (.slice [])
 | .tsl rows=>some (.slice rows)
 |_=>none
def IY:List AC→Option (List PC)
 | []=>some []
 |x::xs=>match pcA x,IY xs with
  |some y,some ys=>some (y::ys)
  |_,_=>none
def WY (mem:List (Nat×bc)):AC→Option (PC×List (Nat×bc))
 | .pure p=>some (p,mem)
 | .nils=>some (.slice [],mem)
 | .tsl rows=>some (.slice rows,mem)
 |.ref nm=>match am mem nm with
  |some (.arr _ _ rows)=>some (.slice rows,mz mem nm)
  |_=>none
 |_=>none
def FS (mem:List (Nat×bc)):List AC→Option (List PC×List (Nat×bc))
 | []=>some ([],mem)
 |x::xs=>match WY mem x with
  |some (y,mem)=>match FS mem xs with
   |some (ys,mem)=>some (y::ys,mem)
   |none=>none
  |none=>none
def dS (mem:List (Nat×bc)):AC→Option PC
 | .pure p=>some p
 | .nils=>some (.slice [])
 | .tsl rows=>some (.slice rows)
 |.ref nm=>match am mem nm with
  |some (.arr _ _ rows)=>some (.slice rows)
  |_=>none
 |_=>none
def xp (mem:List (Nat×bc)):List AC→Option (List PC)
 | []=>some []
 |x::xs=>match dS mem x,xp mem xs with
  |some y,some ys=>some (y::ys)
  |_,_=>none
def qn (mem:List (Nat×bc)):Option Nat→List AC→Option (List PC)
 |none,p::_=>match dS mem p with
  |some q=>some [q]
  |none=>none
 |none, []=>none
 |some _,ps=>xp mem ps
def mG (mem:List (Nat×bc)) (n:Option Nat):List (MK×List AC)→Option (List (MK×List PC))
 | []=>some []
 |x::r=>match qn mem n x.2,mG mem n r with
  |some ps,some es=>some ((x.1,ps)::es)
  |_,_=>none
def eL (mem:List (Nat×bc)):AC→Option PC
 |.mref nm=>match am mem nm with
  |some (.map kt n ents)=>match mG mem n ents with
   |some es=>some (.fmap kt n es)
   |none=>none
  |_=>none
 |x=>dS mem x
def cJ (mem:List (Nat×bc)):List AC→Option (List PC)
 | []=>some []
 |x::xs=>match eL mem x,cJ mem xs with
  |some y,some ys=>some (y::ys)
  |_,_=>none
def d6 (mem:List (Nat×bc)):AC→Option AC
 | .pure p=>some (.pure p)
 | .nils=>some (.pure (.slice []))
 | .tsl rows=>some (.pure (.slice rows))
 |.ref nm=>match am mem nm with
  |some (.arr _ _ rows)=>some (.pure (.slice rows))
  |_=>none
 | .cptr cells=>some (.cptr cells)
 |.ptr nm off=>match am mem nm with
  |some (.var xs)=>match cJ mem xs with
   |some ps=>some (.cptr (ps.drop off))
   |none=>none
  |_=>none
 |.mref nm=>match am mem nm with
  |some (.map kt n ents)=>match mG mem n ents with
   |some es=>some (.pure (.fmap kt n es))
   |none=>none
  |_=>none
 |_=>none
def DM (mem:List (Nat×bc)):List AC→Option (List AC)
 | []=>some []
 |x::xs=>match d6 mem x,DM mem xs with
  |some y,some ys=>some (y::ys)
  |_,_=>none
def ej (mem:List (Nat×bc)):AC→Option AC
 |.clo f caps=>match DM mem caps with
  |some ys=>some (.clo f ys)
  |none=>none
 |x=>d6 mem x
def xo (mem:List (Nat×bc)):List AC→Option (List AC)
 | []=>some []
 |x::xs=>match ej mem x,xo mem xs with
  |some y,some ys=>some (y::ys)
  |_,_=>none
def dQ (mem:List (Nat×bc)):AV→Option AV
 |.c x=>match ej mem x with
  |some y=>some (.c y)
  |none=>none
 |.agg xs=>match xo mem xs with
  |some ys=>some (.agg ys)
  |none=>none
 |_=>none
def bG (mem:List (Nat×bc)):List AV→Option (List AV)
 | []=>some []
 |x::xs=>match dQ mem x,bG mem xs with
  |some y,some ys=>some (y::ys)
  |_,_=>none
def uC:AC→Bool
 | .pure (.val _)=>true
 |_=>false
def oS:AV→Bool
 | .c x=>uC x
 | .agg xs=>xs.all uC
 | .tup vs=>go vs
 | .top=>false
where go:List AV→Bool
 | []=>true
 | .c x::r=>uC x&&go r
 | .agg xs::r=>xs.all uC&&go r
 |_::_=>false
def jA:AC→Bool
 | .ref _| .ptr _ _| .mref _=>false
 |_=>true
def zw:AC→Bool
 | .clo _ caps=>caps.all jA
 |x=>jA x
def fS:AV→Bool
 | .c x=>zw x
 | .agg xs=>xs.all zw
 |_=>true
def jS:AC→Prop
 | .pure (.slice rows)=>rows.length≤9223372036854775807
 |_=>True
def rF:List AC→Prop
 | []=>True
 |x::r=>jS x∧rF r
def i5:AV→Prop
 | .c x=>jS x
 | .agg xs=>rF xs
 | .tup vs=>go vs
 | .top=>True
where go:List AV→Prop
 | []=>True
 | .c x::r=>jS x∧go r
 | .agg xs::r=>rF xs∧go r
 |_::r=>go r
def bF (v:Value):Option Nat:=match v with
 | .pointer (some a)=>some a.block
 | .slice (some a) _ _=>some a.block
 | .map (some b)=>some b
 |_=>none
structure Gh where
 p:Nat→Prop
 ι0:Pl
 G:World→(Nat→Prop)→Prop
 mono: ∀(w w':World) (V V':Nat→Prop),G w V→(∀b,b<w.heap.size→V b→V' b)→(∀b,b<w.heap.size→V b→w'.heap[b]? =w.heap[b]?)→G w' V'
def Gh.of (p:Nat→Prop):Gh:=⟨p,fun _=>undef,fun _ _=>True,fun _ _ _ _ _ _ _=>trivial⟩
def aI (B:Nat) (U:Gh) (ι:Pl) (mem:List (Nat×bc)) (b:Nat):Prop:=
 (U.p b∨B≤b)∧ ∀nm bx,am mem nm=some bx→bF (ι nm)≠some b
def bf (w:World) (U:Nat→Prop) (sz:Nat) (rows:List (List PC)) (cells:List Value):Prop:=
 cells.length=rows.length*sz∧(∀(i:Nat) row,rows[i]? =some row→row.length=sz)∧
 ∀(i:Nat) (row:List PC) (j:Nat) p,rows[i]? =some row→row[j]? =some p→ ∃v,cells[i*sz+j]? =some v∧cp w U p v
def gN (w:World) (U:Nat→Prop) (ι:Pl) (N:Nat) (sz:Nat) (rows:List (List AC)) (cells:List Value):Prop:=
 cells.length=rows.length*sz∧(∀(i:Nat) row,rows[i]? =some row→row.length=sz)∧
 ∀(i:Nat) (row:List AC) (j:Nat) p,rows[i]? =some row→row[j]? =some p→ ∃v,cells[i*sz+j]? =some v∧bZ w U ι N p v
def ft (n:Option Nat) (ps:List AC):AV:=
 match n with
 |none=>match ps with
  |p::_=> .c p
  | []=> .top
 |some _=> .agg ps
def jF (w:World) (U:Nat→Prop) (ι:Pl) (N:Nat) (kt:KT) (n:Option Nat) (x:MK×List AC) (e:MapEntry):Prop:=
 x.1.val kt=some e.key∧aU w U ι N (ft n x.2) e.val
def od (B:Nat) (w:World) (U:Nat→Prop) (ι:Pl) (N:Nat) (nm:Nat):bc→Prop
 | .var xs=> ∃b vs T,ι nm= .pointer (some ⟨b,0,none⟩)∧B≤b∧w.heap[b]? =some (.cells vs T (0,0))∧aP (bZ w U ι N) xs vs.toList
 | .arr e sz rows=> ∃cells,0<sz∧w.ownsRow B e sz (ι nm) rows.length cells∧rows.length≤9223372036854775807∧bf w U sz rows cells
 | .arn e sz rows=> ∃cells,0<sz∧w.ownsRow B e sz (ι nm) rows.length cells∧rows.length≤9223372036854775807∧gN w U ι N sz rows cells
 | .map kt n ents=> ∃b es clock,ι nm= .map (some b)∧B≤b∧w.heap[b]? =some (.map es clock)∧aP (jF w U ι N kt n) ents es.toList
def abj:Option Nat:=some 0
def rS (w:World):Prop:= ∀g,abj=some g→ ∀c:Nat,c<256→w.cell? ⟨g,c,none⟩=some (.int .u8 (if Lib.isSp (UInt8.ofNat c)then 1 else 0))
theorem rS.below {n:Nat} {w w':World} (h:rS w) (hn:w.heap.size≤n) (hb:Below n w w'):rS w':=fun g hg c hc=>by
 have h1:=h g hg c hc
 have hlt:g<w.heap.size:=World.block_lt_of_cell? w _ h1
 rw[World.cell?_of_block (hb.block g (Nat.lt_of_lt_of_le hlt hn))]
 exact h1
structure bP (w0:World) (U:Gh) (σ:St) (ι:Pl) (a:Act) (w:World):Prop where
 val: ∀t,aU w (aI w0.heap.size U ι σ.mem) ι σ.nx (aN σ.fr t) (a.tmps.getD t undef)
 defers:a.defers= []∧rS w0
 names: ∀nm bx,am σ.mem nm=some bx→nm<σ.nx
 box: ∀nm bx,am σ.mem nm=some bx→od w0.heap.size w (aI w0.heap.size U ι σ.mem) ι σ.nx nm bx
 apart: ∀nm nm' bx bx' b,am σ.mem nm=some bx→am σ.mem nm'=some bx'→bF (ι nm)=some b→bF (ι nm')=some b→nm=nm'
 below:Below w0.heap.size w0 w
 keep:U.G w (aI w0.heap.size U ι σ.mem)
 base:σ.base≤σ.nx∧ ∀nm,nm<σ.base→ι nm=U.ι0 nm
theorem bP.glob {w0 w:World} {U:Gh} {σ:St} {ι:Pl} {a:Act} (h:bP w0 U σ ι a w):rS w:=h.defers.2.below (Nat.le_refl _) h.below
def m8 (P : Program) (f : FuncId) : Prop := ∃ fn, P.funcs[f]? = some fn ∧ fn.body.isSome = true ∧ (fn.name == "runtime.NumGoroutine") = false
def ac (P:Program) (f:FuncId) (args:List AV) (res:AV):Prop:=
 m8 P f∧
 ∀(w:World) (U:Nat→Prop) (vs:Array Value),rS w→aP (aU w U (fun _=>undef) 0) args vs.toList→
  Calls P f vs w fun e w'=> ∃v,e= .returned v∧aU w' (fun b=>U b∨w.heap.size≤b) (fun _=>undef) 0 res v∧Below w.heap.size w w'
def aaT (P:Program) (f:FuncId) (args:List AV) (res:AV):Prop:=
 m8 P f∧
 ∀(w:World) (U:Nat→Prop) (vs:Array Value),rS w→aP (aU w U (fun _=>undef) 0) args vs.toList→
  Calls P f vs w fun e w'=> ∃v,e= .returned v∧aU w' (fun b=>w.heap.size≤b) (fun _=>undef) 0 res v∧Below w.heap.size w w'
def au (P:Program) (f:FuncId) (args:List AV) (mem:List (Nat×bc)) (nx:Nat) (res:AV) (mem':List (Nat×bc)) (nx':Nat):Prop:=
 m8 P f∧
 ∀(w0:World) (U:Gh) (ι:Pl) (w:World) (vs:Array Value),bP w0 U ⟨[],mem,nx,nx⟩ ι {tmps:= #[],defers:= []} w→aP (aU w (aI w0.heap.size U ι mem) ι nx) args vs.toList→
  Calls P f vs w fun e w'=> ∃v ι',e= .returned v∧bP w0 U ⟨[],mem',nx',nx⟩ ι' {tmps:= #[],defers:= []} w'∧aU w' (aI w0.heap.size U ι' mem') ι' nx' res v
def iw (nm:Nat) (rows:List (List PC)):AC→AC
 | .ref m=>if m=nm then .pure (.slice rows)else .ref m
 |x=>x
def sH (nm:Nat) (rows:List (List PC)):AV→AV
 | .c x=> .c (iw nm rows x)
 | .agg xs=> .agg (xs.map (iw nm rows))
 |x=>x
def BG (nm:Nat) (rows:List (List PC)):bc→bc
 | .var xs=> .var (xs.map (iw nm rows))
 | .map kt n ents=> .map kt n (ents.map fun x=>(x.1,x.2.map (iw nm rows)))
 | .arn e sz rs=> .arn e sz (rs.map fun r=>r.map (iw nm rows))
 |b=>b
def Ch (nm:Nat) (rows:List (List PC)):List (Nat×AV)→List (Nat×AV)
 | []=> []
 |(t,v)::r=>(t,sH nm rows v)::Ch nm rows r
def nH (nm:Nat) (rows:List (List PC)):List (Nat×bc)→List (Nat×bc)
 | []=> []
 |(m,b)::r=>if m=nm then nH nm rows r else(m,BG nm rows b)::nH nm rows r
def St.frz (σ:St) (nm:Nat) (rows:List (List PC)):St:={σ with fr:=Ch nm rows σ.fr,mem:=nH nm rows σ.mem}
def aR:List Nat→St→List AV→St×List AV
 | [],σ,args=>(σ,args)
 |nm::l,σ,args=>match am σ.mem nm with
  |some (.arr _ _ rows)=>aR l (σ.frz nm rows) (args.map (sH nm rows))
  |_=>(σ,args)
def sU (P:Program) (g z:Bool) (f:FuncId) (args:List AV) (σ:St) [K:nR (AV→St→Prop)]:Prop:=
 ∃l σ' args',(l= []∨z=true)∧aR l σ args=(σ',args')∧(
 (∃pargs,bG σ'.mem args'=some pargs∧ ∃res,((ac P f pargs res∧(oS res=true∨args'.all fS=true))∨aaT P f pargs res)∧K.out res σ')∨
 (g=true∧ ∃res mem' nx',au P f args' σ'.mem σ'.nx res mem' nx'∧K.out res {σ' with mem:=mem',nx:=nx'}))
def nP (op:BinOp) (k:IntKind) (a b:Int) (K:Value→Prop):Prop:=
 match op with
 | .add=>K (.int k (k.wrap (a+b)))
 | .sub=>K (.int k (k.wrap (a-b)))
 | .mul=>K (.int k (k.wrap (a*b)))
 | .quo=>c7 (b≠0) (K:=⟨K (.int k (k.wrap (a.tdiv b)))⟩)
 | .rem=>c7 (b≠0) (K:=⟨K (.int k (a.tmod b))⟩)
 | .and=>K (.int k (k.wrap (BitVec.ofInt k.bits a&&&BitVec.ofInt k.bits b).toNat))
 | .or=>K (.int k (k.wrap (BitVec.ofInt k.bits a|||BitVec.ofInt k.bits b).toNat))
 | .xor=>K (.int k (k.wrap (BitVec.ofInt k.bits a^^^BitVec.ofInt k.bits b).toNat))
 | .andNot=>K (.int k (k.wrap (BitVec.ofInt k.bits a&&& ~~~BitVec.ofInt k.bits b).toNat))
 | .eql=>K (.bool (a==b))
 | .neq=>K (.bool (a !=b))
 | .lss=>K (.bool (decide (a<b)))
 | .leq=>K (.bool (decide (a≤b)))
 | .gtr=>K (.bool (decide (a>b)))
 | .geq=>K (.bool (decide (a≥b)))
 |_=>False
def zy (op:BinOp) (a b:ByteArray) (K:Value→Prop):Prop:=
 match op with
 | .add=>c7 (a.size+b.size≤9223372036854775807) (K:=⟨K (.string (a++b))⟩)
 | .eql=>K (.bool (a.toList==b.toList))
 | .neq=>K (.bool (!(a.toList==b.toList)))
 | .lss=>K (.bool (Op.bytesLess a.toList b.toList))
 | .leq=>K (.bool (Op.bytesLess a.toList b.toList||a.toList==b.toList))
 | .gtr=>K (.bool (!(Op.bytesLess a.toList b.toList||a.toList==b.toList)))
 | .geq=>K (.bool (!(Op.bytesLess a.toList b.toList)))
 |_=>False
def CK (op:BinOp) (x y:Value) (K:Value→Prop):Prop:=
 match x,y with
 | .int k a,.int k' b=>c7 (k=k') (K:=⟨nP op k a b K⟩)
 | .string a,.string b=>zy op a b K
 |_,_=>False
def u5 (op:BinOp) (k:IntKind) (a b:Int) (K:Value→Prop):Prop:=
 match op with
 | .shl=>K (.int k (k.wrap (a*2^(min b.toNat k.bits))))
 | .shr=>K (.int k (a.fdiv (2^(min b.toNat k.bits))))
 |_=>False
def nS (op:BinOp) (x y:Value) (K:Value→Prop):Prop:=
 match x,y with
 | .int k a,.int _ b=>c7 (0≤b) (K:=⟨u5 op k a b K⟩)
 |_,_=>False
def fe (mem:List (Nat×bc)):AV→Option (List (List PC))
 | .c (.pure (.slice rows))=>some rows
 | .c (.tsl rows)=>some rows
 | .c .nils=>some []
 |.c (.ref nm)=>match am mem nm with
  |some (.arr _ _ rows)=>some rows
  |_=>none
 |_=>none
def Z3 (e sz bytes nm:Nat) (ys:List (List PC)) (σ:St) (K:AV→St→Prop):Prop:=
 ∃rows,am σ.mem nm=some (.arr e sz rows)∧(rows.length+ys.length)*bytes≤140737488355328∧rows.length+ys.length≤140737488355328∧
  K (.c (.ref σ.nx)) {σ with mem:=(σ.nx,.arr e sz (rows++ys))::mz σ.mem nm,nx:=σ.nx+1}
def WZ (e sz bytes:Nat) (rows ys:List (List PC)) (σ:St) (K:AV→St→Prop):Prop:=
 (rows.length+ys.length)*bytes≤140737488355328∧rows.length+ys.length≤140737488355328∧K (.c (.ref σ.nx)) {σ with mem:=(σ.nx,.arr e sz (rows++ys))::σ.mem,nx:=σ.nx+1}
def RM (bytes:Nat) (rows ys:List (List PC)) (σ:St) (K:AV→St→Prop):Prop:=
 (rows.length+ys.length)*bytes≤140737488355328∧rows.length+ys.length≤140737488355328∧K (.c (.pure (.slice (rows++ys)))) σ
def Eb (e sz bytes:Nat) (x y:AV) (ys:List (List PC)) (σ:St) [K:nR (AV→St→Prop)]:Prop:=
 bl sz ys∧(
  (∃nm,x= .c (.ref nm)∧y≠ .c (.ref nm)∧Z3 e sz bytes nm ys σ K.out)∨
  (x= .c .nils∧(WZ e sz bytes [] ys σ K.out∨RM bytes [] ys σ K.out))∨
  (∃rows,x= .c (.tsl rows)∧bl sz rows∧((ys≠ []∧WZ e sz bytes rows ys σ K.out)∨RM bytes rows ys σ K.out∨(ys= []∧K.out (.c (.tsl rows)) σ))))
def bR (mem:List (Nat×bc)):AC→Option (List AC)
 |.ptr nm off=>match am mem nm with
  |some (.var xs)=>some (xs.drop off)
  |_=>none
 | .cptr cells=>some (cells.map .pure)
 |.eptr nm sz row off=>match am mem nm with
  |some (.arr _ sz' rows)=>if sz=sz' then(rows[row]?).map fun r=>(r.drop off).map .pure else none
  |some (.arn _ sz' rows)=>if sz=sz' then(rows[row]?).map fun r=>r.drop off else none
  |_=>none
 |_=>none
def qi (es:List (MK×List PC)):List (MK×List AC):=es.map fun x=>(x.1,x.2.map .pure)
def iD:List (MK×List AC)→MK→Option (List AC)
 | [],_=>none
 |(k,v)::r,k'=>if k=k' then some v else iD r k'
def Ct:List (MK×List AC)→MK→List AC→List (MK×List AC)
 | [],k,v=> [(k,v)]
 |(k,u)::r,k',v=>if k=k' then(k',v)::r else(k,u)::Ct r k' v
def CE (n:Option Nat) (v:AV):Option (List AC):=
 match n,v with
 |none,.c x=>some [x]
 |some k,.agg xs=>if xs.length=k then some xs else none
 |_,_=>none
def bD (P:Program) (o:fc) (σ:St) (K:AV→St→Prop):Prop:=
 match o with
 | .mv x=>K (x.ev σ.fr) σ
 |.pick c a b=>match c.ev σ.fr with
  | .c (.pure (.val (.bool t)))=>jc t (A:=⟨K (a.ev σ.fr) σ⟩) (B:=⟨K (b.ev σ.fr) σ⟩)
  |_=>False
 |.box x=>match (x.ev σ.fr).cells with
  |some xs=>K (.c (.ptr σ.nx 0)) {σ with mem:=(σ.nx,.var xs)::σ.mem,nx:=σ.nx+1}
  |none=>False
 |.load n p=>match p.ev σ.fr with
  |.c q=>match bR σ.mem q with
   |some xs=>match n with
    |none=>match xs with
     |x::_=>K (.c x) σ
     | []=>False
    |some n=>c7 (n≤xs.length) (K:=⟨K (.agg (xs.take n)) σ⟩)
   |none=>False
  |_=>False
 |.store n p v=>match (v.ev σ.fr).cells,p.ev σ.fr with
  |some ys,.c (.ptr nm off)=>match am σ.mem nm with
   |some (.var xs)=>c7 (ys.length=n∧off+n≤xs.length) (K:=⟨K (.tup []) {σ with mem:=dJ σ.mem nm (.var (over xs off ys))}⟩)
   |_=>False
  |some ys,.c (.eptr nm sz row off)=>match am σ.mem nm with
   |some (.arr e sz' rows)=>c7 (sz=sz'∧ys.length=n∧off+n≤sz) (K:=⟨f6 (IY ys) (K:=⟨fun zs=>f6 rows[row]? (K:=⟨fun r=>
     K (.tup []) {σ with mem:=dJ σ.mem nm (.arr e sz (rows.set row (over r off zs)))}⟩)⟩)⟩)
   |some (.arn e sz' rows)=>c7 (sz=sz'∧ys.length=n∧off+n≤sz) (K:=⟨f6 rows[row]? (K:=⟨fun r=>
     K (.tup []) {σ with mem:=dJ σ.mem nm (.arn e sz (rows.set row (over r off ys)))}⟩)⟩)
   |_=>False
  |_,_=>False
 |.bin op x y=>match x.ev σ.fr,y.ev σ.fr with
  |.c (.pure (.val a)),.c (.pure (.val b))=>match op with
   | .shl| .shr=>nS op a b fun v=>K (.c (.pure (.val v))) σ
   |_=>CK op a b fun v=>K (.c (.pure (.val v))) σ
  |_,_=>False
 |.eqb neg x y=>match x.ev σ.fr,y.ev σ.fr with
  | .c (.pure (.val (.bool a))),.c (.pure (.val (.bool b)))=>K (.c (.pure (.val (.bool ((a==b) !=neg))))) σ
  |_,_=>False
 |.eqs neg l x y=>match x.ev σ.fr,y.ev σ.fr with
  | .agg xs,.agg ys=>c7 (sr l xs ys) (K:=⟨K (.c (.pure (.val (.bool (BI (Dw xs ys) !=neg))))) σ⟩)
  |_,_=>False
 |.un op x=>match op,x.ev σ.fr with
  | .not,.c (.pure (.val (.bool b)))=>K (.c (.pure (.val (.bool (!b))))) σ
  | .neg,.c (.pure (.val (.int k n)))=>K (.c (.pure (.val (.int k (k.wrap (0-n)))))) σ
  | .xor,.c (.pure (.val (.int k n)))=>K (.c (.pure (.val (.int k (k.wrap (BitVec.ofInt k.bits (if k.signed then-1 else k.max)^^^BitVec.ofInt k.bits n).toNat))))) σ
  |_,_=>False
 |.conv k x=>match x.ev σ.fr with
  | .c (.pure (.val (.int _ n)))=>K (.c (.pure (.val (.int k (k.wrap n))))) σ
  |_=>False
 |.fieldA off p=>match p.ev σ.fr with
  | .c (.ptr nm o)=>K (.c (.ptr nm (o+off))) σ
  | .c (.cptr cells)=>K (.c (.cptr (cells.drop off))) σ
  | .c (.eptr nm sz row o)=>K (.c (.eptr nm sz row (o+off))) σ
  |_=>False
 |.field off n x=>match x.ev σ.fr with
  |.agg xs=>match n with
   |none=>match xs.drop off with
    |x::_=>K (.c x) σ
    | []=>False
   |some n=>c7 (off+n≤xs.length) (K:=⟨K (.agg ((xs.drop off).take n)) σ⟩)
  |_=>False
 |.idxA sz x i=>match x.ev σ.fr,i.ev σ.fr with
  | .c (.pure (.slice rows)),.c (.pure (.val (.int _ i)))| .c (.tsl rows),.c (.pure (.val (.int _ i)))=>c7 (0≤i) (K:=⟨f6 rows[i.toNat]? (K:=⟨fun r=>c7 (r.length=sz∧0<sz) (K:=⟨K (.c (.cptr r)) σ⟩)⟩)⟩)
  |.c (.ref nm),.c (.pure (.val (.int _ i)))=>match am σ.mem nm with
   |some (.arr _ sz' rows)=>c7 (sz'=sz∧0<sz∧0≤i∧i<rows.length) (K:=⟨K (.c (.eptr nm sz i.toNat 0)) σ⟩)
   |some (.arn _ sz' rows)=>c7 (sz'=sz∧0<sz∧0≤i∧i<rows.length) (K:=⟨K (.c (.eptr nm sz i.toNat 0)) σ⟩)
   |_=>False
  |_,_=>False
 |.idxR len sz x i=>match x.ev σ.fr,i.ev σ.fr with
  | .c (.ptr nm o),.c (.pure (.val (.int _ i)))=>c7 (0≤i∧i<len) (K:=⟨K (.c (.ptr nm (o+i.toNat*sz))) σ⟩)
  | .c (.cptr cells),.c (.pure (.val (.int _ i)))=>c7 (0≤i∧i<len) (K:=⟨K (.c (.cptr (cells.drop (i.toNat*sz)))) σ⟩)
  |_,_=>False
 |.nilc x=>match x.ev σ.fr with
  | .c (.ptr nm o)=>K (.c (.ptr nm o)) σ
  | .c (.cptr cells)=>K (.c (.cptr cells)) σ
  | .c (.eptr nm sz row o)=>K (.c (.eptr nm sz row o)) σ
  | .c (.clo f caps)=>K (.c (.clo f caps)) σ
  |_=>False
 |.idxS x i=>match x.ev σ.fr,i.ev σ.fr with
  | .c (.pure (.val (.string s))),.c (.pure (.val (.int _ i)))=>c7 (0≤i) (K:=⟨f6 s[i.toNat]? (K:=⟨fun b=>K (.c (.pure (.val (.int .u8 b.toNat)))) σ⟩)⟩)
  |_,_=>False
 | .build zero parts=>buildW σ parts zero fun xs=>K (.agg xs) σ
 | .bslice sz rows=>bsliceW σ sz rows [] fun rs=>K (.c (.tsl rs)) σ
 |.mkslice e sz bytes zero l=>match l.ev σ.fr with
  | .c (.pure (.val (.int .i64 n)))=>c7 (0≤n∧n≤281474976710656∧bytes*n≤281474976710656) (K:=⟨
    K (.c (.ref σ.nx)) {σ with mem:=(σ.nx,.arr e sz (List.replicate n.toNat zero))::σ.mem,nx:=σ.nx+1}⟩)
  |_=>False
 |.slc sz x lo hi mx=>match x.ev σ.fr with
  | .c (.ref _)=>False
  |v=>f6 (fe σ.mem v) (K:=⟨fun rows=>f6 (boundOf σ lo) (K:=⟨fun lo=>f6 (boundOf σ hi) (K:=⟨fun hi=>f6 (boundOf σ mx) (K:=⟨fun mx=>
   c7 (bl sz rows∧0≤lo.getD 0∧lo.getD 0≤hi.getD rows.length∧hi.getD rows.length≤mx.getD rows.length∧mx.getD rows.length≤rows.length) (K:=⟨
   K (.c (if mx.isSome=true∧mx=hi then .tsl ((rows.take (hi.getD rows.length).toNat).drop (lo.getD 0).toNat)else .pure (.slice ((rows.take (hi.getD rows.length).toNat).drop (lo.getD 0).toNat)))) σ⟩)⟩)⟩)⟩)⟩)
 |.slcS x lo hi=>match x.ev σ.fr,boundOf σ lo,boundOf σ hi with
  |.c (.pure (.val (.string s))),some lo,some hi=>c7 (0≤lo.getD 0∧lo.getD 0≤hi.getD s.size∧hi.getD s.size≤s.size) (K:=⟨
   K (.c (.pure (.val (.string (s.extract (lo.getD 0).toNat (hi.getD s.size).toNat))))) σ⟩)
  |_,_,_=>False
 |.ext x i=>match x.ev σ.fr with
  | .tup vs=>f6 vs[i]? (K:=⟨fun v=>K v σ⟩)
  |_=>False
 |.len x=>match x.ev σ.fr with
  | .c (.pure (.slice rows))| .c (.tsl rows)=>K (.c (.pure (.val (.int .i64 rows.length)))) σ
  | .c .nils=>K (.c (.pure (.val (.int .i64 0)))) σ
  |.c (.ref nm)=>match am σ.mem nm with
   |some (.arr _ _ rows)=>K (.c (.pure (.val (.int .i64 rows.length)))) σ
   |some (.arn _ _ rows)=>K (.c (.pure (.val (.int .i64 rows.length)))) σ
   |_=>False
  |_=>False
 |.lenS x=>match x.ev σ.fr with
  | .c (.pure (.val (.string s)))=>K (.c (.pure (.val (.int .i64 s.size)))) σ
  |_=>False
 |.mm mx x y=>match x.ev σ.fr,y.ev σ.fr with
  | .c (.pure (.val (.int k a))),.c (.pure (.val (.int _ b)))=>K (.c (.pure (.val (.int k (if mx=true then max a b else min a b))))) σ
  |_,_=>False
 |.mm4 x y z t=>match x.ev σ.fr,y.ev σ.fr,z.ev σ.fr,t.ev σ.fr with
  | .c (.pure (.val (.int k a))),.c (.pure (.val (.int _ b))),.c (.pure (.val (.int _ c))),.c (.pure (.val (.int _ d)))=>K (.c (.pure (.val (.int k (max (max (max a b) c) d))))) σ
  |_,_,_,_=>False
 | .dead=>False
 |.fnil neg x=>match x.ev σ.fr with
  | .c (.clo _ _)=>K (.c (.pure (.val (.bool neg)))) σ
  | .c (.pure (.val .nilFunc))=>K (.c (.pure (.val (.bool (!neg))))) σ
  |_=>False
 |.snil neg x=>match x.ev σ.fr with
  | .c .nils=>K (.c (.pure (.val (.bool (!neg))))) σ
  | .c (.pure (.slice rows))| .c (.tsl rows)=>IP rows (A:=⟨K (.c (.pure (.val (.bool (!neg))))) σ⟩) (B:=⟨K (.c (.pure (.val (.bool neg)))) σ⟩)
  |.c (.ref nm)=>match am σ.mem nm with
   |some (.arr _ _ rows)=>IP rows (A:=⟨K (.c (.pure (.val (.bool (!neg))))) σ⟩) (B:=⟨K (.c (.pure (.val (.bool neg)))) σ⟩)
   |_=>False
  |_=>False
 | .app e sz bytes x y=>f6 (fe σ.mem (y.ev σ.fr)) (K:=⟨fun ys=>Eb e sz bytes (x.ev σ.fr) (y.ev σ.fr) ys σ (K:=⟨K⟩)⟩)
 | .mkfn f caps=>mkfnW σ caps [] fun xs=>K (.c (.clo f xs)) σ
 |.call g z f args=>match f.ev σ.fr with
  | .c (.clo f caps)=>sU P g z f (args.map (·.ev σ.fr)++caps.map .c) σ (K:=⟨K⟩)
  |_=>False
 | .bsliceF sz rows=>bsliceFW σ sz rows σ.mem [] fun rs mem=>K (.c (.tsl rs)) {σ with mem:=mem}
 | .mkmap kt n=>K (.c (.mref σ.nx)) {σ with mem:=(σ.nx,.map kt n [])::σ.mem,nx:=σ.nx+1}
 |.mget kt n zero ok m k=>match k.ev σ.fr with
  |.c (.pure (.val kv))=>f6 (IN kt kv) (K:=⟨fun mk=>match m.ev σ.fr with
   |.c (.mref nm)=>match am σ.mem nm with
    |some (.map kt' n' ents)=>c7 (kt'=kt∧n'=n) (K:=⟨t6 (iD ents mk) (A:=⟨fun ps=>K (if ok=true then .tup [ft n ps,.c (.pure (.val (.bool true)))]else ft n ps) σ⟩)
     (B:=⟨K (if ok=true then .tup [ft n zero,.c (.pure (.val (.bool false)))]else ft n zero) σ⟩)⟩)
    |_=>False
   | .c (.pure (.fmap kt' n' es))=>c7 (kt'=kt∧n'=n) (K:=⟨t6 (iD (qi es) mk) (A:=⟨fun ps=>K (if ok=true then .tup [ft n ps,.c (.pure (.val (.bool true)))]else ft n ps) σ⟩)
     (B:=⟨K (if ok=true then .tup [ft n zero,.c (.pure (.val (.bool false)))]else ft n zero) σ⟩)⟩)
   |_=>False⟩)
  |_=>False
 |.mput kt n m k v=>match k.ev σ.fr with
  |.c (.pure (.val kv))=>f6 (IN kt kv) (K:=⟨fun mk=>match m.ev σ.fr with
   |.c (.mref nm)=>f6 (CE n (v.ev σ.fr)) (K:=⟨fun ys=>match am σ.mem nm with
    |some (.map kt' n' ents)=>c7 (kt'=kt∧n'=n) (K:=⟨K (.tup []) {σ with mem:=dJ σ.mem nm (.map kt n (Ct ents mk ys))}⟩)
    |_=>False⟩)
   |_=>False⟩)
  |_=>False
where
 boundOf (σ:St):Option AX→Option (Option Int)
  |none=>some none
  |some x=>match x.ev σ.fr with
   | .c (.pure (.val (.int _ i)))=>some (some i)
   |_=>none
 buildW (σ:St):List (Nat×Nat×AX)→List AC→(List AC→Prop)→Prop
  | [],acc,K=>K acc
  |(off,n,x)::r,acc,K=>match (x.ev σ.fr).cells with
   |some ys=>c7 (ys.length=n∧off+n≤acc.length) (K:=⟨buildW σ r (over acc off ys) K⟩)
   |none=>False
 bsliceW (σ:St) (sz:Nat):List AX→List (List PC)→(List (List PC)→Prop)→Prop
  | [],acc,K=>K acc
  |x::r,acc,K=>match (x.ev σ.fr).cells with
   |some ys=>f6 (IY ys) (K:=⟨fun zs=>c7 (ys.length=sz) (K:=⟨bsliceW σ sz r (acc++ [zs]) K⟩)⟩)
   |none=>False
 bsliceFW (σ:St) (sz:Nat):List AX→List (Nat×bc)→List (List PC)→(List (List PC)→List (Nat×bc)→Prop)→Prop
  | [],mem,acc,K=>K acc mem
  |x::r,mem,acc,K=>match (x.ev σ.fr).cells with
   |some ys=>f6 (FS mem ys) (K:=⟨fun z=>c7 (ys.length=sz) (K:=⟨bsliceFW σ sz r z.2 (acc++ [z.1]) K⟩)⟩)
   |none=>False
 mkfnW (σ:St):List AX→List AC→(List AC→Prop)→Prop
  | [],acc,K=>K acc
  |x::r,acc,K=>match x.ev σ.fr with
   | .c y=>mkfnW σ r (acc++ [y]) K
   |_=>False
def my (P:Program):List AG→St→(St→Prop)→Prop
 | [],σ,K=>K σ
 |g::r,σ,K=>match g.guard with
  |none=>bD P g.op σ fun v σ'=>my P r (σ'.put g.dst v) K
  |some (t,want)=>match aN σ.fr t with
   | .c (.pure (.val (.bool b)))=>jc (b==want) (A:=⟨bD P g.op σ fun v σ'=>my P r (σ'.put g.dst v) K⟩) (B:=⟨my P r (σ.put g.dst (.tup [])) K⟩)
   | .tup []=>my P r (σ.put g.dst (.tup [])) K
   |_=>False
def lC (m m':List (Nat×bc)):Prop:= ∀nm bx,am m nm=some bx→am m' nm=some bx
def Mk (m m':List (Nat×bc)):Prop:=m'=m∨ ∃n b,m'=(n,b)::m∧am m n=none
theorem XU {m m':List (Nat×bc)} (h:Mk m m'):lC m m':=by
 rcases h with rfl|⟨n,b,rfl,h⟩
 ·exact fun _ _ h=>h
 ·intro nm bx hf
  show(if n=nm then some b else am m nm)=some bx
  rw[if_neg (fun e=>by rw[←e,h]at hf;cases hf)]
  exact hf
def jy (P:Program):List (Bool×AG)→St→(St→Prop)→Prop
 | [],σ,K=>K σ
 |(x,g)::r,σ,K=>match g.guard with
  |none=>bD P g.op σ fun v σ'=>c7 (x=true→Mk σ.mem σ'.mem) (K:=⟨jy P r (σ'.put g.dst v) K⟩)
  |some (t,want)=>match aN σ.fr t with
   | .c (.pure (.val (.bool b)))=>jc (b==want) (A:=⟨bD P g.op σ fun v σ'=>c7 (x=true→Mk σ.mem σ'.mem) (K:=⟨jy P r (σ'.put g.dst v) K⟩)⟩) (B:=⟨jy P r (σ.put g.dst (.tup [])) K⟩)
   | .tup []=>jy P r (σ.put g.dst (.tup [])) K
   |_=>False
def US [A:nR Prop] [B:nR Prop]:Prop:=A.out∧B.out
theorem ag {A B:nR Prop} (h1:A.out) (h2:B.out): @US A B:=⟨h1,h2⟩
def xY (P:Program):List (List (Bool×AG))→St→(St→Prop)→Prop
 | [],_,_=>True
 | [gs],σ,K=>jy P gs σ K
 |gs::hs::r,σ,K=>US (A:=⟨jy P gs σ K⟩) (B:=⟨xY P (hs::r) σ K⟩)
theorem Jy {P:Program} {σ:St} {K:St→Prop}: ∀{gss:List (List (Bool×AG))},xY P gss σ K→ ∀gs∈gss,jy P gs σ K
 | [],_,gs,h=>by cases h
 | [x],hd,gs,h=>by rw[List.mem_singleton]at h;rw[h];exact hd
 |x::y::r,hd,gs,h=>by
  rcases List.mem_cons.1 h with h|h
  ·rw[h];exact hd.1
  ·exact Jy hd.2 gs h
def BL:Value→Option AC
 | .slice none 0 0=>some .nils
 |v=>if vp v then some (.pure (.val v))else none
def cellsOf:List Value→Option (List AC)
 | []=>some []
 |v::r=>match BL v,cellsOf r with
  |some x,some xs=>some (x::xs)
  |_,_=>none
def LQ:Value→Option PC
 | .slice none 0 0=>some (.slice [])
 |v=>if vp v then some (.val v)else none
def qW:List Value→Option (List PC)
 | []=>some []
 |v::r=>match LQ v,qW r with
  |some x,some xs=>some (x::xs)
  |_,_=>none
def zZ:Value→Option AV
 | .agg vs=>(cellsOf vs.toList).map .agg
 | .tuple vs=>if vs.size=0 then some (.tup [])else none
 |v=>(BL v).map .c
def aO:Operand→Option AX
 | .tmp t=>some (.t t)
 | .const v=>(zZ v).map .k
 | .func f=>some (.k (.c (.clo f [])))
 | .global _=>none
def mu:List Operand→Option (List AX)
 | []=>some []
 |x::r=>match aO x,mu r with
  |some y,some ys=>some (y::ys)
  |_,_=>none
def mJ (P:Program) (t:TypeId):Option (Option Nat):=
 match P.underlying t,P.info? t with
 |some (.struct _),some i=>some (some i.size)
 |some (.array _ _),some i=>some (some i.size)
 |some _,some i=>if i.size=1 then some none else none
 |_,_=>none
def eS (P:Program) (t:TypeId):Option (TypeId×Nat×Nat):=
 match P.underlying t with
 |some (.slice e)=>(P.info? e).map fun i=>(e,i.size,i.bytes)
 |_=>none
def eH (P:Program) (t:TypeId):Option Value:=(P.info? t).bind (·.zero)
def sO (P:Program) (s:TypeId) (f:Nat):Option Field:=
 match P.underlying s with
 |some (.struct fs)=>fs[f]?
 |_=>none
def jR (P:Program) (t:TypeId):Option Nat:=(P.info? t).map (·.size)
def U0 (P:Program) (t:TypeId):Bool:=match P.underlying t with|some .string=>true|_=>false
def LT (P:Program) (t:TypeId):Bool:=match P.underlying t with|some .bool=>true|_=>false
def Mx (P:Program) (t:TypeId):Bool:=match P.underlying t with|some (.func _ _ _)=>true|_=>false
def Lp:AX→Bool
 | .k (.c (.pure (.val .nilFunc)))=>true
 |_=>false
def R6 (P:Program) (t:TypeId):Bool:=match P.underlying t with|some (.slice _)=>true|_=>false
def Mc:AX→Bool
 | .k (.c .nils)=>true
 |_=>false
def Ai (places:List (Nat×Nat)):List (Nat×Operand)→Option (List (Nat×Nat×AX))
 | []=>some []
 |(i,x)::r=>match places[i]?,aO x,Ai places r with
  |some (off,n),some y,some ys=>some ((off,n,y)::ys)
  |_,_,_=>none
def F1 (P:Program) (t:TypeId):Option (List (Nat×Nat)):=
 match P.underlying t with
 |some (.struct fs)=>fs.toList.mapM fun f=>(P.info? f.type).map fun i=>(f.offset,i.size)
 |_=>none
def ut:Nat→List (Nat×Operand)→Option (List AX)
 |_, []=>some []
 |k,(i,x)::r=>if i=k then match aO x,ut (k+1) r with
  |some y,some ys=>some (y::ys)
  |_,_=>none else none
def uk (P:Program) (t:TypeId):Option (KT×TypeId×Option Nat):=
 match P.underlying t with
 |some (.map k e)=>match P.underlying k,mJ P e with
  |some (.int i),some n=>some (.int i,e,n)
  |some .string,some n=>some (.str,e,n)
  |some .bool,some n=>some (.bool,e,n)
  |_,_=>none
 |_=>none
def QG (n:Option Nat) (z:Value):Option (List AC):=
 match n with
 |none=>match BL z with
  |some p=>some [p]
  |none=>none
 |some _=>match z with
  | .agg vs=>cellsOf vs.toList
  |_=>none
def Hv:List PC→Bool
 | []=>false
 | .slice _::_=>true
 |_::r=>Hv r
def Vi (P:Program) (e:TypeId):Bool:=
 match (eH P e).bind fun z=>qW z.cells.toList with
 |some zs=>Hv zs
 |none=>false
def nK:Option Operand→Option (Option AX)
 |none=>some none
 |some x=>(aO x).map some
def Ah (P:Program) (t:TypeId):Bool:=match P.underlying t with|some (.struct _)=>true|_=>false
def Mm (P:Program) (f:TypeId→Option (List ET)):List Field→Nat→Option (List ET)
 | [],_=>some []
 |fd :: r, off => if fd.name = "_" ∨ fd.offset ≠ off then none else match f fd.type with
  |some l=>if(P.info? fd.type).map (·.size)=some l.length then(Mm P f r (off+l.length)).map (l++ ·)else none
  |none=>none
def MD (P:Program):Nat→TypeId→Option (List ET)
 |0,_=>none
 |n+1,t=>match P.underlying t with
  |some (.int k)=>some [.int k]
  |some .string=>some [.str]
  |some .bool=>some [.bool]
  |some (.struct fs)=>if P.stoodInHeld t=true then none else Mm P (MD P n) fs.toList 0
  |_=>none
def Sm (P:Program) (t:TypeId):Option (List ET):=if P.eqGuardType P.depth t=true then none else MD P 6 t
def YA (P:Program):Operand→Bool
 |.func f=>match P.funcs[f]? with
  |some fn=>(Nat.beq fn.ntmps 68&&Nat.beq fn.params.size 2)||fn.params.toList.any fun t=>match P.underlying t with
   |some (.pointer _)=>true
   |some (.slice _)=>fn.resultTypes.toList.contains t
   |_=>false
  |none=>false
 | .tmp _=>true
 |_=>false
def b7 (P:Program) (dr:Bool):Op→Option fc
 | .move x| .assign x=>(aO x).map .mv
 |.pick c a b=>match aO c,aO a,aO b with
  |some c,some a,some b=>some (.pick c a b)
  |_,_,_=>none
 | .alloc t=>((eH P t).bind zZ).map fun v=> .box (.k v)
 | .box _ x=>(aO x).map .box
 |.build t parts=>match (eH P t).bind (fun z=>cellsOf z.cells.toList),(F1 P t).bind (Ai · parts.toList)with
  |some z,some ps=>some (.build z ps)
  |_,_=>none
 |.buildSlice t n parts=>match eS P t,ut 0 parts.toList with
  |some (e,sz,_),some rs=>if rs.length=n∧n*sz≤16777216∧0<sz∧((eH P e).map fun z=>decide (z.cells.size=sz))=some true then some (if(!dr&&Vi P e)=true then .bsliceF sz rs else .bslice sz rs)else none
  |_,_=>none
 |.load t p=>match mJ P t,aO p with
  |some n,some p=>some (.load n p)
  |_,_=>none
 |.store t p v=>match jR P t,aO p,aO v with
  |some n,some p,some v=>some (.store n p v)
  |_,_,_=>none
 |.binOp op t x y _=>match aO x,aO y with
  |some x,some y=>match op with
   | .eql=>if LT P t then some (.eqb false x y)else if Ah P t then(Sm P t).map (.eqs false · x y)else if Mx P t then(if Lp y then some (.fnil false x)else none)else if R6 P t then(if Mc y then some (.snil false x)else none)else some (.bin .eql x y)
   | .neq=>if LT P t then some (.eqb true x y)else if Ah P t then(Sm P t).map (.eqs true · x y)else if Mx P t then(if Lp y then some (.fnil true x)else none)else if R6 P t then(if Mc y then some (.snil true x)else none)else some (.bin .neq x y)
   |op=>some (.bin op x y)
  |_,_=>none
 | .unOp op _ x=>(aO x).map (.un op)
 |.convert s d x=>match P.underlying s,P.underlying d,aO x with
  |some (.int _),some (.int k),some x=>some (.conv k x)
  |_,_,_=>none
 | .nilCheck x=>(aO x).map .nilc
 |.slice t x lo' hi' mx'=>match P.underlying t,aO x,nK lo',nK hi',nK mx' with
  |some (.slice _),some x,some lo,some hi,some mx=>match eS P t with
   |some (_,sz,_)=>if 0<sz∧(mx'.isSome=true→hi'.isSome=true)then some (.slc sz x lo hi mx)else none
   |none=>none
  |some .string,some x,some lo,some hi,some none=>some (.slcS x lo hi)
  |_,_,_,_,_=>none
 |.fieldAddr s x f=>match sO P s f,aO x with
  |some fd,some x=>if(jR P fd.type).getD 0=0 then none else some (.fieldA fd.offset x)
  |_,_=>none
 |.field s x f=>match sO P s f,aO x with
  |some fd,some x=>(mJ P fd.type).map fun n=> .field fd.offset n x
  |_,_=>none
 |.indexAddr t x i=>match eS P t,aO x,aO i with
  |some (_,sz,_),some x,some i=>some (.idxA sz x i)
  |none,some x,some i=>match P.underlying t with
   |some (.array n e)=>(jR P e).map fun sz=> .idxR n sz x i
   |_=>none
  |_,_,_=>none
 |.index t x i=>if U0 P t then match aO x,aO i with
  |some x,some i=>some (.idxS x i)
  |_,_=>none else none
 |.makeSlice t l c=>match eS P t,aO l,aO c with
  |some (e,sz,bytes),some (.t a),some (.t b)=>if a=b∧0<sz∧((eH P e).map fun z=>decide (z.cells.size=sz))=some true then((eH P e).bind fun z=>qW z.cells.toList).map fun z=> .mkslice e sz bytes z (.t a)else none
  |_,_,_=>none
 | .extract x i=>(aO x).map fun x=> .ext x i
 | .makeFunc (.func f) first caps=>if first.size=0 then(mu caps.toList).map (.mkfn f)else none
 |.call {callee:= .builtin .len,args,argTypes}=>match args.toList,argTypes.toList with
  |[x], [t]=>match aO x,P.underlying t with
   |some x,some (.slice _)=>some (.len x)
   |some x,some .string=>some (.lenS x)
   |_,_=>none
  |_,_=>none
 |.call {callee:= .builtin .min,args,..}=>match args.toList with
  |[x,y]=>match aO x,aO y with
   |some x,some y=>some (.mm false x y)
   |_,_=>none
  |_=>none
 |.call {callee:= .builtin .max,args,..}=>match args.toList with
  |[x,y]=>match aO x,aO y with
   |some x,some y=>some (.mm true x y)
   |_,_=>none
  |[x,y,z,t]=>match aO x,aO y,aO z,aO t with
   |some x,some y,some z,some t=>some (.mm4 x y z t)
   |_,_,_,_=>none
  |_=>none
 | .makeInterface _ _=>some .dead
 | .panic _=>some .dead
 |.call {callee:= .builtin .append,args,argTypes}=>match args.toList,argTypes.toList with
  |[x,y], [t,u]=>if t=u then match eS P t,aO x,aO y with
   |some (e,sz,bytes),some x,some y=>if 0<sz∧((eH P e).map fun z=>decide (z.cells.size=sz))=some true then some (.app e sz bytes x y)else none
   |_,_,_=>none else none
  |_,_=>none
 |.call {callee:= .value f,args,..}=>match aO f,mu args.toList with
  |some y,some xs=>some (.call (!dr||YA P f) (!dr) y xs)
  |_,_=>none
 |.makeMap t none=>match uk P t with
  |some (kt,_,n)=>some (.mkmap kt n)
  |none=>none
 |.lookup t m k ok=>match uk P t,aO m,aO k with
  |some (kt,e,n),some m,some k=>((eH P e).bind (QG n)).map fun z=> .mget kt n z ok m k
  |_,_,_=>none
 |.mapUpdate t m k v| .insert t m k v=>match uk P t,aO m,aO k,aO v with
  |some (kt,_,n),some m,some k,some v=>some (.mput kt n m k v)
  |_,_,_,_=>none
 |_=>none
def Qh (nt:Nat):Option Nat→Bool
 |some d=>decide (d<nt)
 |none=>true
def x8 (P:Program) (dr:Bool) (nt:Nat) (ops:Array Oper) (o:Oper):Option AG:=
 if Qh nt o.dst=false then none else match b7 P dr o.op with
 |some ao=>match o.guard with
  |none=>some ⟨o.dst,none,ao⟩
  |some (j,want)=>match (ops[j]?).bind (·.dst)with
   |some t=>some ⟨o.dst,some (t,want),ao⟩
   |none=>none
 |none=>none
def gI (P:Program) (dr:Bool) (nt:Nat) (ops:Array Oper):List Oper→Option (List AG)
 | []=>some []
 |o::r=>match x8 P dr nt ops o,gI P dr nt ops r with
  |some g,some gs=>some (g::gs)
  |_,_=>none
def AX.tmps:AX→List Nat
 | .t n=> [n]
 | .k _=> []
def Ky:Option AX→List Nat
 |none=> []
 |some x=>x.tmps
def Gc:List (Nat×Nat×AX)→List Nat
 | []=> []
 |(_,_,x)::r=>x.tmps++Gc r
def iq:List AX→List Nat
 | []=> []
 |x::r=>x.tmps++iq r
def fc.tmps:fc→List Nat
 | .mv x| .box x| .load _ x| .un _ x| .conv _ x| .fieldA _ x| .field _ _ x| .nilc x| .mkslice _ _ _ _ x| .ext x _| .len x| .lenS x| .fnil _ x| .snil _ x=>x.tmps
 | .pick c a b=>c.tmps++a.tmps++b.tmps
 | .store _ x y| .bin _ x y| .eqb _ x y| .eqs _ _ x y| .idxA _ x y| .idxR _ _ x y| .idxS x y| .app _ _ _ x y| .mm _ x y=>x.tmps++y.tmps
 | .build _ ps=>Gc ps
 | .bslice _ xs| .mkfn _ xs| .bsliceF _ xs=>iq xs
 | .slc _ x l h m=>x.tmps++Ky l++Ky h++Ky m
 | .slcS x l h=>x.tmps++Ky l++Ky h
 | .call _ _ f xs=>f.tmps++iq xs
 | .mkmap _ _| .dead=> []
 | .mm4 x y z t=>x.tmps++y.tmps++z.tmps++t.tmps
 | .mget _ _ _ _ m k=>m.tmps++k.tmps
 | .mput _ _ m k v=>m.tmps++k.tmps++v.tmps
def fc.eff:fc→Bool
 | .box _| .store .. | .mkslice .. | .app .. | .bsliceF .. | .mkmap .. | .mput .. =>true
 | .call g z _ _=>g||z
 |_=>false
def fc.gcall:fc→Bool
 | .call _ z _ _=>z
 | .snil _ _=>true
 |_=>false
def fc.sens:fc→Bool
 | .load .. | .idxA .. | .len _| .slc .. | .call .. | .mget .. | .snil .. =>true
 |_=>false
def fc.lays:fc→Bool
 | .box _| .mkslice .. | .app .. | .bsliceF .. | .mkmap .. =>true
 |_=>false
def AG.looks (g:AG):List Nat:=(match g.guard with|some (t,_)=> [t]|none=> [])++g.op.tmps
def jg (g h:AG):Bool:=
 (match g.dst with|some d=>h.looks.contains d||h.dst==some d|none=>false)||
 (match h.dst with|some d=>g.looks.contains d|none=>false)||
 (g.op.eff&&(h.op.eff||h.op.sens))||(g.op.sens&&h.op.eff&& !h.op.lays)
def ws:Nat→List Oper→Bool
 |_, []=>true
 |j,o::r=>(o.after.toList.all fun e=> !Region.binds .any e||decide (e.on<j))&&ws (j+1) r
def ug:List (Nat×Nat)→Nat→Nat
 | [],_=>0
 |(j,m)::r,k=>if j=k then m else ug r k
def Cf (E:List (Nat×Nat)) (j:Nat) (o:Oper):List Nat:=(o.after.toList.filterMap fun e=>if Region.binds .any e=true then some e.on else none)++(E.filterMap fun p=>if p.2=j then some p.1 else none)
def orX (acc:List (Nat×Nat)):List Nat→Nat
 | []=>0
 |k::r=>2^k|||ug acc k|||orX acc r
def Br (ops:List Oper) (E:List (Nat×Nat)):List Nat→List (Nat×Nat)→List (Nat×Nat)
 | [],acc=>acc
 |j::r,acc=>Br ops E r ((j,match ops[j]? with|some o=>orX acc (Cf E j o)|none=>0)::acc)
def Hk (M:List (Nat×Nat)) (i:Nat) (g:AG) (k:Nat) (x:Bool) (h:AG):Bool:=
 (ug M k).testBit i||(!jg g h&&(!(g.op.sens&&h.op.eff)||x))
def ID (M:List (Nat×Nat)):List (Nat×Bool×AG)→Bool
 | []=>true
 |(i,_,g)::r=>(r.all fun y=>Hk M i g y.1 y.2.1 y.2.2)&&ID M r
def G0:List Nat→Bool
 | []=>true
 |i::r=> !r.contains i&&G0 r
def PR (ops:List Oper) (gs:List AG) (E:List (Nat×Nat)):Nat→List Nat→Option (List Nat)
 |0,done=>some done.reverse
 |f+1,done=>
  let rdy:Nat→Bool:=fun i=> !done.contains i&&(match ops[i]? with|some o=>(Cf E i o).all fun k=>done.contains k|none=>false)
  match (List.range gs.length).find? fun i=>rdy i&&(match gs[i]? with|some g=> !g.op.eff|none=>false)with
  |some i=>PR ops gs E f (i::done)
  |none=>match (List.range gs.length).find? rdy with
   |some i=>PR ops gs E f (i::done)
   |none=>none
def aax (gs:List AG) (h:AG):Bool:=match h.op with
 | .app _ _ _ (.t s) _=>gs.any fun g=>(g.dst==some s&&(match g.op with| .app .. =>true|_=>false))||(Nat.ble gs.length 6&&(match g.op,h.dst with| .call _ _ _ xs,some d=>(iq xs).contains d|_,_=>false))
 |_=>false
def Me (gs:List AG) (M:List (Nat×Nat)):List (Nat×AG)→List Nat→Option (List (Nat×Bool×AG))
 |_, []=>some []
 |prev,k::r=>match gs[k]? with
  |some h=>match Me gs M ((k,h)::prev) r with
   |some l=>some ((k,h.op.eff&&h.op.lays&& !aax gs h&&prev.any (fun y=>y.2.op.sens&& !(ug M k).testBit y.1),h)::l)
   |none=>none
  |none=>none
def Jk (M:List (Nat×Nat)):List (Nat×Bool×AG)→Option (Nat×Nat)
 | []=>none
 |(i,_,g)::r=>match r.find? fun y=> !Hk M i g y.1 y.2.1 y.2.2 with
  |some y=>some (i,y.1)
  |none=>Jk M r
def Ig (ops:List Oper) (gs:List AG):Nat→List (Nat×Nat)→Option (List (List (Nat×Bool×AG)))
 |0,_=>none
 |f+1,E=>match PR ops gs E gs.length []with
  |none=>none
  |some ord=>match Me gs (Br ops E ord []) [] ord with
   |none=>none
   |some leaf=>match Jk (Br ops E ord []) leaf with
    |none=>if(ID (Br ops E ord []) leaf&&G0 ord&&(List.range gs.length).all (fun i=>ord.contains i)&&ord.all (fun i=>decide (i<gs.length)))=true then some [leaf]else none
    |some (i,k)=>if i=k then none else match Ig ops gs f ((i,k)::E),Ig ops gs f ((k,i)::E)with
     |some a,some b=>some (a++b)
     |_,_=>none
def uJ (leaf:List (Nat×Bool×AG)):List (Bool×AG):=leaf.map fun y=>y.2
def rz (P:Program) (ops:List Oper) (gs:List AG):ak:=
 if(P.follows .mixedOrders&&ws 0 ops&&gs.all (fun g=> !g.op.gcall))=true then match Ig ops gs 6 []with
  |some gss=> .draw (gss.map uJ)
  |none=> .region gs true
 else .region gs true
def rJ (P:Program) (dr:Bool) (ops:List Oper) (gs:List AG):ak:=if dr=true then rz P ops gs else .region gs false
def ed (P:Program) (nt:Nat):Code→Option ak
 | .skip=>some .skip
 | .region _ ops draw=>(gI P draw nt ops ops.toList).map fun gs=>rJ P draw ops.toList gs
 |.seq a b=>match ed P nt a,ed P nt b with
  |some a,some b=>some (.seq a b)
  |_,_=>none
 |.cond c a b=>match aO c,ed P nt a,ed P nt b with
  |some c,some a,some b=>some (.cond c a b)
  |_,_,_=>none
 | .block id a=>(ed P nt a).map (.block id)
 | .loop a=>(ed P nt a).map .loop
 | .exit id=>some (.exit id)
 | .scope a=>none
 | .ret=>some .ret
 |.rangeFunc f ps a b=>match aO f,ed P nt a,ed P nt b,ps.toList.all (fun t=>decide (t<nt))with
  |some f,some a,some b,true=>some (.rangeF f ps.toList a b)
  |_,_,_,_=>none
 |_=>none
theorem cp.one {w:World} {U:Nat→Prop} {p:PC} {v:Value} (h:cp w U p v):v.oneCell'=true:=by
 cases h with
 |val h=>cases v<;>simp_all [vp,Value.oneCell']
 |slice=>rfl
 |fmap=>rfl
theorem bZ.one {w:World} {U:Nat→Prop} {ι:Pl} {N:Nat} {x:AC} {v:Value} (h:bZ w U ι N x v):v.oneCell'=true:=by
 cases h with
 |pure h=>exact h.one
 |nils=>rfl
 |tsl h=>rfl
 |ptr=>rfl
 |eptr=>rfl
 |cptr=>rfl
 |ref _ h=>obtain⟨a,n,c,e⟩:=h;rw[e];rfl
 |clo=>rfl
 |mref=>rfl
 |top h=>exact h
theorem Tl {v:Value} (h:v.oneCell'=true):v.cells= #[v]:=by cases v<;>simp_all [Value.oneCell',Value.cells]
theorem bZ.mono {w w':World} {U U':Nat→Prop} {ι ι':Pl} {N N':Nat} {x:AC} {v:Value} (h:bZ w U ι N x v) (hU: ∀b,b<w.heap.size→U b→U' b)
  (hw: ∀b,b<w.heap.size→U b→w'.heap[b]? =w.heap[b]?) (hι: ∀nm,nm<N→ι' nm=ι nm) (hN:N≤N'):bZ w' U' ι' N' x v:=by
 induction h with
 |pure h=>exact .pure (h.mono hU hw)
 |nils=>exact .nils
 |tsl h=>exact .tsl (h.mono hU hw)
 |ptr hn h=>exact .ptr (by omega) (by rw[hι _ hn];exact h)
 |eptr hn h=>exact .eptr (by omega) (by rw[hι _ hn];exact h)
 |cptr g hc=>
  refine .cptr g fun j p hj=> ?_
  obtain⟨h1,h2,h3⟩:=hc j p hj
  have hlt:=World.block_lt_of_cell? w _ h2
  exact⟨hU _ hlt h1,by rw[World.cell?_of_block (hw _ hlt h1)];exact h2,h3.mono hU hw⟩
 |ref hn h=>rw[←hι _ hn];exact .ref (by omega) (by rw[hι _ hn];exact h)
 |clo hl _ ih=>exact .clo hl ih
 |mref hn h=>exact .mref (by omega) (by rw[hι _ hn];exact h)
 |top h=>exact .top h
theorem aU.mono {w w':World} {U U':Nat→Prop} {ι ι':Pl} {N N':Nat} {x:AV} {v:Value} (h:aU w U ι N x v) (hU: ∀b,b<w.heap.size→U b→U' b)
  (hw: ∀b,b<w.heap.size→U b→w'.heap[b]? =w.heap[b]?) (hι: ∀nm,nm<N→ι' nm=ι nm) (hN:N≤N'):aU w' U' ι' N' x v:=by
 induction h with
 |c h=>exact .c (h.mono hU hw hι hN)
 |agg h=>exact .agg (h.mono fun _ _ h=>h.mono hU hw hι hN)
 |tup hl _ ih=>exact .tup hl ih
 |top=>exact .top
theorem fH {fr:List (Nat×AV)} {d:Nat} {v:AV} {t:Nat}:aN ((d,v)::fr) t=if d=t then v else aN fr t:=rfl
theorem bP.put {w0:World} {U:Gh} {σ:St} {ι:Pl} {a:Act} {w:World} {d:Option Nat} {v:AV} {u:Value} (h:bP w0 U σ ι a w)
  (hd: ∀t,d=some t→t<a.tmps.size) (hv:aU w (aI w0.heap.size U ι σ.mem) ι σ.nx v u):bP w0 U (σ.put d v) ι (a.put d u) w:=by
 cases d with
 |none=>exact h
 |some t=>
  refine⟨fun s=> ?_,h.defers,h.names,h.box,h.apart,h.below,h.keep,h.base⟩
  show aU w (aI w0.heap.size U ι σ.mem) ι σ.nx (aN ((t,v)::σ.fr) s) ((a.tmps.setIfInBounds t u).getD s undef)
  rw[fH]
  by_cases hs:t=s
  ·subst hs
   rw[if_pos rfl]
   have:=hd t rfl
   simp[Array.getD_eq_getD_getElem?,this,hv]
  ·rw[if_neg hs]
   have:=h.val s
   simpa[Array.getD_eq_getD_getElem?,Array.getElem?_setIfInBounds_ne hs]using this
theorem od.block {B:Nat} {w:World} {U:Nat→Prop} {ι:Pl} {N nm:Nat} {bx:bc} (h:od B w U ι N nm bx) {b:Nat} (hb:bF (ι nm)=some b):B≤b∧b<w.heap.size:=by
 cases bx with
 |var xs=>
  obtain⟨b',vs,T,h1,h2,h3,_⟩:=h
  rw[h1]at hb
  simp[bF]at hb
  subst hb
  exact⟨h2,(Array.getElem?_eq_some_iff.1 h3).1⟩
 |arr e sz rows=>
  obtain⟨cells,_,h1,_⟩:=h
  refine World.ownsRow.lt h1 b ?_
  generalize ι nm=v at*
  unfold bF at hb
  unfold Value.ownBlock
  split at hb<;>simp_all
  all_goals(rcases h1.2 with⟨h,_⟩|⟨g,cap,cur,h,_⟩<;>cases h)
 |arn e sz rows=>
  obtain⟨cells,_,h1,_⟩:=h
  refine World.ownsRow.lt h1 b ?_
  generalize ι nm=v at*
  unfold bF at hb
  unfold Value.ownBlock
  split at hb<;>simp_all
  all_goals(rcases h1.2 with⟨h,_⟩|⟨g,cap,cur,h,_⟩<;>cases h)
 |map kt n ents=>
  obtain⟨b',es,clock,h1,h2,h3,_⟩:=h
  rw[h1]at hb
  simp[bF]at hb
  subst hb
  exact⟨h2,(Array.getElem?_eq_some_iff.1 h3).1⟩
theorem gN.mono {w w':World} {U U':Nat→Prop} {ι ι':Pl} {N N' sz:Nat} {rows:List (List AC)} {cells:List Value} (h:gN w U ι N sz rows cells) (hU: ∀b,b<w.heap.size→U b→U' b)
  (hw: ∀b,b<w.heap.size→U b→w'.heap[b]? =w.heap[b]?) (hι: ∀nm,nm<N→ι' nm=ι nm) (hN:N≤N'):gN w' U' ι' N' sz rows cells:=
 ⟨h.1,h.2.1,fun i row j p hi hj=>by
  obtain⟨v,hv,hp⟩:=h.2.2 i row j p hi hj
  exact⟨v,hv,hp.mono hU hw hι hN⟩⟩
theorem jF.mono {w w':World} {U U':Nat→Prop} {ι ι':Pl} {N N':Nat} {kt:KT} {n:Option Nat} {x:MK×List AC} {e:MapEntry} (h:jF w U ι N kt n x e) (hU: ∀b,b<w.heap.size→U b→U' b)
  (hw: ∀b,b<w.heap.size→U b→w'.heap[b]? =w.heap[b]?) (hι: ∀nm,nm<N→ι' nm=ι nm) (hN:N≤N'):jF w' U' ι' N' kt n x e:=⟨h.1,h.2.mono hU hw hι hN⟩
theorem od.grow {B:Nat} {w w':World} {U U':Nat→Prop} {ι ι':Pl} {N N' nm:Nat} {bx:bc} (h:od B w U ι N nm bx) (hg:Below w.heap.size w w')
  (hU: ∀b,b<w.heap.size→U b→U' b) (hι: ∀nm,nm<N→ι' nm=ι nm) (hN:N≤N') (hn:nm<N):od B w' U' ι' N' nm bx:=by
 have hw: ∀b,b<w.heap.size→U b→w'.heap[b]? =w.heap[b]? :=fun b hb _=>hg.block b hb
 cases bx with
 |var xs=>
  obtain⟨b,vs,T,h1,h2,h3,h4⟩:=h
  exact⟨b,vs,T,by rw[hι _ hn];exact h1,h2,by rw[hg.block b (Array.getElem?_eq_some_iff.1 h3).1];exact h3,h4.mono fun _ _ h=>h.mono hU hw hι hN⟩
 |arr e sz rows=>
  obtain⟨cells,h0,h1,h2,h3,h4,h5⟩:=h
  refine⟨cells,h0, ?_,h2,h3,h4,fun i row j p hi hj=> ?_⟩
  ·rw[hι _ hn]
   exact World.ownsRow.kept (row:=none) h1 ⟨hg.os,hg.tape,hg.output,hg.size,fun k hk _=>hg.block k hk⟩ (by cases (ι nm).ownBlock<;>simp)
  ·obtain⟨v,hv,hp⟩:=h5 i row j p hi hj
   exact⟨v,hv,hp.mono hU hw⟩
 |arn e sz rows=>
  obtain⟨cells,h0,h1,h2,h3⟩:=h
  refine⟨cells,h0, ?_,h2,h3.mono hU hw hι hN⟩
  rw[hι _ hn]
  exact World.ownsRow.kept (row:=none) h1 ⟨hg.os,hg.tape,hg.output,hg.size,fun k hk _=>hg.block k hk⟩ (by cases (ι nm).ownBlock<;>simp)
 |map kt n ents=>
  obtain⟨b,es,clock,h1,h2,h3,h4⟩:=h
  exact⟨b,es,clock,by rw[hι _ hn];exact h1,h2,by rw[hg.block b (Array.getElem?_eq_some_iff.1 h3).1];exact h3,h4.mono fun _ _ h=>h.mono hU hw hι hN⟩
theorem bP.grow {w0:World} {U:Gh} {σ:St} {ι:Pl} {a:Act} {w w':World} (h:bP w0 U σ ι a w) (hg:Below w.heap.size w w'):bP w0 U σ ι a w':=
 ⟨fun t=>(h.val t).mono (fun _ _ h=>h) (fun b hb _=>hg.block b hb) (fun _ _=>rfl) (Nat.le_refl _),h.defers,h.names,
  fun nm bx hf=>(h.box nm bx hf).grow hg (fun _ _ h=>h) (fun _ _=>rfl) (Nat.le_refl _) (h.names _ _ hf),h.apart,h.below.trans (hg.mono h.below.size),
  U.mono _ _ _ _ h.keep (fun _ _ h=>h) (fun b hb _=>hg.block b hb),h.base⟩
theorem bS {m:List (Nat×bc)} {k:Nat} {c:bc} {n:Nat}:am ((k,c)::m) n=if k=n then some c else am m n:=rfl
theorem bP.newBox {w0:World} {U:Gh} {σ:St} {ι:Pl} {a:Act} {w w':World} {bx:bc} {pv:Value} (h:bP w0 U σ ι a w) (hg:Below w.heap.size w w')
  (hfresh: ∀b,bF pv=some b→w.heap.size≤b)
  (hb: ∀ι',(∀nm,nm<σ.nx→ι' nm=ι nm)→ι' σ.nx=pv→(∀b,b<w.heap.size→aI w0.heap.size U ι σ.mem b→aI w0.heap.size U ι' ((σ.nx,bx)::σ.mem) b)→od w0.heap.size w' (aI w0.heap.size U ι' ((σ.nx,bx)::σ.mem)) ι' (σ.nx+1) σ.nx bx):
  ∃ι',bP w0 U {σ with mem:=(σ.nx,bx)::σ.mem,nx:=σ.nx+1} ι' a w'∧ι' σ.nx=pv∧(∀nm,nm<σ.nx→ι' nm=ι nm)∧
   (∀b,b<w.heap.size→aI w0.heap.size U ι σ.mem b→aI w0.heap.size U ι' ((σ.nx,bx)::σ.mem) b):=by
 let ι':Pl:=fun n=>if n=σ.nx then pv else ι n
 have e1:ι' σ.nx=pv:=if_pos rfl
 have e2: ∀nm,nm<σ.nx→ι' nm=ι nm:=fun nm hn=>if_neg (by omega)
 have hfree: ∀b,b<w.heap.size→aI w0.heap.size U ι σ.mem b→aI w0.heap.size U ι' ((σ.nx,bx)::σ.mem) b:=by
  intro b hb hf
  refine⟨hf.1,fun nm bx' hn=> ?_⟩
  rw[bS]at hn
  by_cases e:σ.nx=nm
  ·subst e
   rw[e1]
   intro hc
   have:=hfresh b hc
   omega
  ·rw[if_neg e]at hn
   rw[e2 _ (h.names _ _ hn)]
   exact hf.2 _ _ hn
 refine⟨ι',⟨fun t=> ?_,h.defers,fun nm bx' hn=> ?_,fun nm bx' hn=> ?_, ?_,h.below.trans (hg.mono h.below.size),U.mono _ _ _ _ h.keep hfree (fun b hb _=>hg.block b hb),⟨Nat.le_succ_of_le h.base.1,fun nm hn=>(e2 nm (Nat.lt_of_lt_of_le hn h.base.1)).trans (h.base.2 nm hn)⟩⟩,e1,e2,hfree⟩
 ·exact(h.val t).mono hfree (fun b hb _=>hg.block b hb) e2 (Nat.le_succ _)
 ·rw[bS]at hn
  show nm<σ.nx+1
  by_cases e:σ.nx=nm
  ·omega
  ·rw[if_neg e]at hn
   have:=h.names _ _ hn
   omega
 ·rw[bS]at hn
  by_cases e:σ.nx=nm
  ·subst e
   rw[if_pos rfl]at hn
   cases hn
   exact hb ι' e2 e1 hfree
  ·rw[if_neg e]at hn
   exact(h.box nm bx' hn).grow hg hfree e2 (Nat.le_succ _) (h.names _ _ hn)
 ·intro nm nm' b1 b2 b h1 h2 h3 h4
  rw[bS]at h1 h2
  by_cases e:σ.nx=nm
  ·by_cases e':σ.nx=nm'
   ·omega
   ·rw[if_neg e']at h2
    subst e
    rw[e1]at h3
    rw[e2 _ (h.names _ _ h2)]at h4
    have:=hfresh b h3
    have:=((h.box _ _ h2).block h4).2
    omega
  ·rw[if_neg e]at h1
   by_cases e':σ.nx=nm'
   ·subst e'
    rw[e1]at h4
    rw[e2 _ (h.names _ _ h1)]at h3
    have:=hfresh b h4
    have:=((h.box _ _ h1).block h3).2
    omega
   ·rw[if_neg e']at h2
    rw[e2 _ (h.names _ _ h1)]at h3
    rw[e2 _ (h.names _ _ h2)]at h4
    exact h.apart _ _ _ _ _ h1 h2 h3 h4
theorem al {m:List (Nat×bc)} {k:Nat} {c:bc}: ∀{n:Nat},am (dJ m k c) n=if k=n then(am m n).map (fun _=>c)else am m n:=by
 induction m with
 |nil=>intro n;simp[dJ,am]
 |cons x m ih=>
  intro n
  obtain⟨k',b⟩:=x
  simp only[dJ]
  by_cases e:k'=k
  ·subst e
   rw[if_pos rfl,bS,bS]
   by_cases e':k'=n
   ·simp[e']
   ·simp[e']
  ·rw[if_neg e,bS,bS,ih]
   by_cases e':k'=n
   ·subst e'
    simp[Ne.symm e]
   ·simp[e']
theorem cp.nil {w:World} {U:Nat→Prop} {a:Option Addr} {c:Nat}:cp w U (.slice []) (.slice a 0 c):=
 .slice (sz:=0) (fun _ _=>undef) rfl (Nat.zero_le _) (by omega) (by simp) (by simp) (by simp)
section
variable {w : World} {U : Nat → Prop} {ι : Pl} {N : Nat}
theorem zn {v:Value} {x:AC} (h:BL v=some x):bZ w U ι N x v:=by
 unfold BL at h
 split at h
 ·cases h;exact .nils
 ·split at h
  ·cases h;exact .pure (.val ‹_›)
  ·cases h
theorem pu: ∀{vs:List Value} {xs:List AC},cellsOf vs=some xs→aP (bZ w U ι N) xs vs
 | [],xs,h=>by cases h;exact .nil
 |v::r,xs,h=>by
  unfold cellsOf at h
  split at h
  ·cases h
   exact .cons (zn ‹_›) (pu ‹_›)
  ·cases h
theorem Po {v:Value} {x:PC} (h:LQ v=some x):cp w U x v:=by
 unfold LQ at h
 split at h
 ·cases h;exact .nil
 ·split at h
  ·cases h;exact .val ‹_›
  ·cases h
theorem Bc: ∀{vs:List Value} {xs:List PC},qW vs=some xs→aP (cp w U) xs vs
 | [],xs,h=>by cases h;exact .nil
 |v::r,xs,h=>by
  unfold qW at h
  split at h
  ·cases h
   exact .cons (Po ‹_›) (Bc ‹_›)
  ·cases h
theorem C7 {v:Value} {x:AV} (h:zZ v=some x):aU w U ι N x v:=by
 unfold zZ at h
 split at h
 ·rename_i vs
  cases e:cellsOf vs.toList with
  |none=>simp[e]at h
  |some xs=>simp[e]at h;subst h;exact .agg (pu e)
 ·rename_i vs
  split at h
  ·cases h
   exact .tup (by simp;omega) (by simp)
  ·cases h
 ·cases e:BL v with
  |none=>simp[e]at h
  |some y=>simp[e]at h;subst h;exact .c (zn e)
theorem bp {v u:Value} (h:aU w U ι N (.c (.pure (.val v))) u):u=v∧vp v=true:=by
 cases h with|c h=>cases h with|pure h=>cases h with|val h=>exact⟨rfl,h⟩
theorem pL {v:Value} (h:vp v=true):aU w U ι N (.c (.pure (.val v))) v:= .c (.pure (.val h))
theorem ia (k:IntKind) (n:Int):aU w U ι N (.c (.pure (.val (.int k n)))) (.int k n):=pL rfl
theorem jj (b:Bool):aU w U ι N (.c (.pure (.val (.bool b)))) (.bool b):=pL rfl
theorem iO:aU w U ι N (.tup []) undef:= .tup rfl (by simp)
theorem aU.cells {v:AV} {u:Value} {xs:List AC} (h:aU w U ι N v u) (hx:v.cells=some xs):aP (bZ w U ι N) xs u.cells.toList:=by
 cases h with
 |c h=>
  cases hx
  rw[Tl h.one]
  exact .cons h .nil
 |agg h=>cases hx;exact h
 |tup=>cases hx
 |top=>cases hx
end
section
variable {P : Program} {o : Oper} {a : Act} {w w0 : World} {U : Gh} {ι : Pl} {σ : St} {next : Act → World → Prop} {Q : Exit → Act → World → Prop} {K : AV → St → Prop}
theorem aC {x:Operand} {y:AX} (h:aO x=some y) (hs:bP w0 U σ ι a w):aU w (aI w0.heap.size U ι σ.mem) ι σ.nx (y.ev σ.fr) (a.eval x):=by
 cases x with
 |tmp t=>cases h;exact hs.val t
 |const v=>
  simp[aO]at h
  obtain⟨z,hz,rfl⟩:=h
  exact C7 hz
 |global g=>cases h
 |func f=>
  cases h
  exact .c (.clo rfl (by simp))
def fW (w0:World) (U:Gh) (a:Act) (o:Oper) (K:AV→St→Prop) (next:Act→World→Prop):Prop:=
 ∀v σ' ι' u w',K v σ'→bP w0 U σ' ι' a w'→aU w' (aI w0.heap.size U ι' σ'.mem) ι' σ'.nx v u→next (a.put o.dst u) w'
theorem aK {u:Value} {w':World} (h:(execOp a.eval o).run P w= .ok (.value u) w') (hn:next (a.put o.dst u) w'):o.wp P a w next Q:=by
 unfold Oper.wp
 rw[h]
 exact hn
theorem oG {w':World} (h:(execOp a.eval o).run P w= .ok .skip w') (hn:next (a.put o.dst undef) w'):o.wp P a w next Q:=by
 unfold Oper.wp
 rw[h]
 exact hn
theorem Zr {x:Operand} {y:AX} (ho:o.op= .move x∨o.op= .assign x) (hx:aO x=some y) (h:bD P (.mv y) σ K) (hs:bP w0 U σ ι a w) (hn:fW w0 U a o K next):o.wp P a w next Q:=by
 refine aK (u:=a.eval x) (w':=w) ?_ (hn _ σ ι _ w h hs (aC hx hs))
 rcases ho with ho|ho<;>simp[execOp,ho]
theorem YN {x y z:Operand} {c p q:AX} (ho:o.op= .pick x y z) (hx:aO x=some c) (hy:aO y=some p) (hz:aO z=some q) (h:bD P (.pick c p q) σ K) (hs:bP w0 U σ ι a w) (hn:fW w0 U a o K next):o.wp P a w next Q:=by
 have r1:=aC hx hs
 simp only[bD]at h
 split at h
 ·rename_i t e
  rw[e]at r1
  have e1:=(bp r1).1
  refine aK (u:=if t then a.eval y else a.eval z) (w':=w) (by simp[execOp,ho,e1,asBool]) ?_
  cases t with
  |true=>exact hn _ σ ι _ w (h.1 rfl) hs (aC hy hs)
  |false=>exact hn _ σ ι _ w (h.2 rfl) hs (aC hz hs)
 ·exact h.elim
theorem Y1 {s d:TypeId} {x:Operand} {y:AX} {k k0:IntKind} (ho:o.op= .convert s d x) (hk0:P.underlying s=some (.int k0)) (hk:P.underlying d=some (.int k)) (hx:aO x=some y) (h:bD P (.conv k y) σ K) (hs:bP w0 U σ ι a w) (hn:fW w0 U a o K next):o.wp P a w next Q:=by
 have r1:=aC hx hs
 simp only[bD]at h
 split at h
 ·rename_i k1 n e
  rw[e]at r1
  have e1:=(bp r1).1
  refine aK (u:= .int k (k.wrap n)) (w':=w) ?_ (hn _ σ ι _ w h hs (ia _ _))
  simp[execOp,ho,e1,convert,run_underlying hk0,run_underlying hk,Conv.intToInt]
 ·exact h.elim
theorem abR {u:UnOp} {t:TypeId} {x:Operand} {y:AX} (ho:o.op= .unOp u t x) (hx:aO x=some y) (h:bD P (.un u y) σ K) (hs:bP w0 U σ ι a w) (hn:fW w0 U a o K next):o.wp P a w next Q:=by
 have r1:=aC hx hs
 simp only[bD]at h
 split at h
 ·rename_i b e
  rw[e]at r1
  have e1:=(bp r1).1
  exact aK (u:= .bool (!b)) (w':=w) (by simp[execOp,ho,e1,Op.unary]) (hn _ σ ι _ w h hs (jj _))
 ·rename_i k n e
  rw[e]at r1
  have e1:=(bp r1).1
  exact aK (w':=w) (by simp[execOp,ho,e1,Op.unary,Op.intArith];try rfl) (hn _ σ ι _ w h hs (ia _ _))
 ·rename_i k n e
  rw[e]at r1
  have e1:=(bp r1).1
  exact aK (w':=w) (by simp[execOp,ho,e1,Op.unary,Op.intBits];try rfl) (hn _ σ ι _ w h hs (ia _ _))
 ·exact h.elim
theorem Uw {op:BinOp} {t:TypeId} {x y:Value} {K:Value→Prop} (h:CK op x y K) (hop:op≠ .shl∧op≠ .shr): ∃v,(binOp op t x y).run P w= .ok v w∧vp v=true∧K v:=by
 unfold CK at h
 split at h
 ·obtain⟨rfl,h⟩:=h
  simp only[nP]at h
  split at h<;>first
   |exact h.elim
   |(obtain⟨h0,h⟩:=h;exact⟨_,by simp[binOp,Op.intArith,Op.intDiv,Op.intBits,Op.intCmp,h0];try rfl,rfl,h⟩)
   |exact⟨_,by simp[binOp,Op.intArith,Op.intDiv,Op.intBits,Op.intCmp];try rfl,rfl,h⟩
 ·simp only[zy]at h
  split at h
  ·obtain⟨h0,h⟩:=h
   refine⟨_, ?_,rfl,h⟩
   simp[binOp,Op.stringOp]
   omega
  all_goals first
   |exact h.elim
   |exact⟨_,by simp[binOp,Op.stringOp];try rfl,rfl,h⟩
 ·exact h.elim
def QM:Value→Bool
 | .nilIface| .agg _=>false
 |_=>true
theorem uw {op:BinOp} {t:TypeId} {x y:Operand} {u v:Value} (hu:QM u=true):(eqGuard op t x y u v).run P w= .ok () w:=by
 cases u<;>simp[QM]at hu<;>(unfold eqGuard;cases op<;>simp)
theorem Qz {op:BinOp} {t t':TypeId} {x y:Operand} {p q:AX} (ho:o.op= .binOp op t x y t') (hx:aO x=some p) (hy:aO y=some q) (h:bD P (.bin op p q) σ K) (hs:bP w0 U σ ι a w) (hn:fW w0 U a o K next):o.wp P a w next Q:=by
 have r1:=aC hx hs
 have r2:=aC hy hs
 simp only[bD]at h
 split at h
 ·rename_i u v e e'
  rw[e]at r1
  rw[e']at r2
  obtain⟨e1,s1⟩:=bp r1
  obtain⟨e2,s2⟩:=bp r2
  split at h
  ·unfold nS at h
   split at h
   ·obtain⟨h0,h⟩:=h
    simp only[u5]at h
    refine aK (w':=w) ?_ (hn _ σ ι _ w h hs (ia _ _))
    simp[execOp,ho,e1,e2,eqGuard,binOp,Op.shift,Int.not_lt.2 h0]
   ·exact h.elim
  ·unfold nS at h
   split at h
   ·obtain⟨h0,h⟩:=h
    simp only[u5]at h
    refine aK (w':=w) ?_ (hn _ σ ι _ w h hs (ia _ _))
    simp[execOp,ho,e1,e2,eqGuard,binOp,Op.shift,Int.not_lt.2 h0]
   ·exact h.elim
  ·rename_i n1 n2
   have hg:QM u=true:=by
    unfold CK at h
    split at h
    ·rfl
    ·rfl
    ·exact h.elim
   obtain⟨r,hr,hsc,hk⟩:=Uw (P:=P) (w:=w) (t:=t) h ⟨n1,n2⟩
   refine aK (u:=r) (w':=w) ?_ (hn _ σ ι _ w hk hs (pL hsc))
   simp only[execOp,ho,e1,e2]
   rw[Sem.run_bind,Sem.run_bind,uw hg]
   simp[hr]
 ·exact h.elim
theorem Cj (d:Nat) {t:TypeId} {u v:Bool} (ht:P.underlying t=some .bool):(Op.equalIn (d+1) t (.bool u) (.bool v)).run P w= .ok (u==v) w:=by
 simp[Op.equalIn,run_underlying ht]
theorem Un {op:BinOp} {t t':TypeId} {x y:Operand} {p q:AX} {neg:Bool} (hop:(op= .eql∧neg=false)∨(op= .neq∧neg=true)) (ht:P.underlying t=some .bool) (ho:o.op= .binOp op t x y t') (hx:aO x=some p) (hy:aO y=some q)
  (h:bD P (.eqb neg p q) σ K) (hs:bP w0 U σ ι a w) (hn:fW w0 U a o K next):o.wp P a w next Q:=by
 have r1:=aC hx hs
 have r2:=aC hy hs
 simp only[bD]at h
 split at h
 ·rename_i u v e e'
  rw[e]at r1
  rw[e']at r2
  have e1:=(bp r1).1
  have e2:=(bp r2).1
  have hq:(Op.equal t (.bool u) (.bool v)).run P w= .ok (u==v) w:=Cj 9999 ht
  refine aK (u:= .bool ((u==v) !=neg)) (w':=w) ?_ (hn _ σ ι _ w h hs (jj _))
  simp only[execOp,ho,e1,e2]
  rw[Sem.run_bind,Sem.run_bind,uw rfl]
  rcases hop with⟨rfl,rfl⟩|⟨rfl,rfl⟩<;>simp[binOp,hq]
 ·exact h.elim
theorem Rl {op:BinOp} {t t':TypeId} {x y:Operand} {p q:AX} {neg:Bool} (hop:(op= .eql∧neg=false)∨(op= .neq∧neg=true)) (ht:Mx P t=true) (hq:Lp q=true) (ho:o.op= .binOp op t x y t') (hx:aO x=some p) (hy:aO y=some q)
  (h:bD P (.fnil neg p) σ K) (hs:bP w0 U σ ι a w) (hn:fW w0 U a o K next):o.wp P a w next Q:=by
 have r1:=aC hx hs
 have r2:=aC hy hs
 unfold Lp at hq
 split at hq
 ·have e2:=(bp r2).1
  unfold Mx at ht
  split at ht
  ·rename_i hT
   simp only[bD]at h
   split at h
   ·rename_i f caps e
    rw[e]at r1
    generalize hu:a.eval x=u at r1
    cases r1 with
    |c r1=>
     cases r1 with
     | @clo _ _ vs hl hh=>
      have hr:(Op.equal t (.func (.func f) #[] vs) .nilFunc).run P w= .ok false w:=by
       show(Op.equalIn (9999+1) t (.func (.func f) #[] vs) .nilFunc).run P w= .ok false w
       unfold Op.equalIn
       simp[run_underlying hT]
      have hg:(eqGuard op t x y (.func (.func f) #[] vs) .nilFunc).run P w= .ok () w:=by unfold eqGuard;cases op<;>simp
      refine aK (u:= .bool neg) (w':=w) ?_ (hn _ σ ι _ w h hs (jj _))
      simp only[execOp,ho,hu,e2]
      rw[Sem.run_bind,Sem.run_bind,hg]
      rcases hop with⟨rfl,rfl⟩|⟨rfl,rfl⟩<;>simp[binOp,hr]
   ·rename_i e
    rw[e]at r1
    have e1:=(bp r1).1
    have hr:(Op.equal t .nilFunc .nilFunc).run P w= .ok true w:=by
     show(Op.equalIn (9999+1) t .nilFunc .nilFunc).run P w= .ok true w
     unfold Op.equalIn
     simp[run_underlying hT]
    have hg:(eqGuard op t x y .nilFunc .nilFunc).run P w= .ok () w:=by unfold eqGuard;cases op<;>simp
    refine aK (u:= .bool (!neg)) (w':=w) ?_ (hn _ σ ι _ w h hs (jj _))
    simp only[execOp,ho,e1,e2]
    rw[Sem.run_bind,Sem.run_bind,hg]
    rcases hop with⟨rfl,rfl⟩|⟨rfl,rfl⟩<;>simp[binOp,hr]
   ·exact h.elim
  ·cases ht
 ·cases hq
end
open Go.RowKit
theorem im (b off k:Nat):(⟨b,off,none⟩:Addr).add k=⟨b,off+k,none⟩:=by
 unfold Addr.add
 split<;>simp_all
section
variable {P : Program} {o : Oper} {a : Act} {w w0 : World} {U : Gh} {ι : Pl} {σ : St} {next : Act → World → Prop} {Q : Exit → Act → World → Prop} {K : AV → St → Prop}
theorem KZ {t:TypeId} (h:mJ P t=some none) {v:Value} {ad:Addr} (hc:w.cell? ad=some v):(loadVar t ad).run P w= .ok v w:=by
 unfold mJ at h
 split at h
 ·cases h
 ·cases h
 ·rename_i d i n1 n2 hd hi
  have hag:(isAgg t).run P w= .ok false w:=by
   unfold isAgg
   cases d<;>first|(simp[run_underlying hd];done)|exact absurd rfl (n1 _)|exact absurd rfl (n2 _ _)
  simp[loadVar,hag,hc]
 ·cases h
theorem Kr {t:TypeId} {n:Nat} (h:mJ P t=some (some n)) {vs:List Value} {ad:Addr} (hn:vs.length=n) (hc: ∀(j:Nat) v,vs[j]? =some v→w.cell? (ad.add j)=some v):(loadVar t ad).run P w= .ok (.agg vs.toArray) w:=by
 have hl:=run_loadCells_list (P:=P) w ad vs hc
 unfold mJ at h
 split at h
 ·rename_i fs i hd hi
  simp at h
  have hag:(isAgg t).run P w= .ok true w:=by simp[isAgg,run_underlying hd]
  simp[loadVar,hag,sizeOf,typeInfo,hi,h,←hn,hl]
 ·rename_i fs i hd hi
  simp at h
  have hag:(isAgg t).run P w= .ok true w:=by simp[isAgg,run_underlying hd]
  simp[loadVar,hag,sizeOf,typeInfo,hi,h,←hn,hl]
 ·split at h<;>cases h
 ·cases h
theorem H6 {q:AC} {u:Value} {xs:List AC} (hs:bP w0 U σ ι a w) (h:bZ w (aI w0.heap.size U ι σ.mem) ι σ.nx q u) (hx:bR σ.mem q=some xs):
  ∃b off,u= .pointer (some ⟨b,off,none⟩)∧ ∀(j:Nat) x,xs[j]? =some x→ ∃v,w.cell? ⟨b,off+j,none⟩=some v∧bZ w (aI w0.heap.size U ι σ.mem) ι σ.nx x v:=by
 cases h with
 |ptr hn h=>
  rename_i nm off b
  unfold bR at hx
  split at hx
  ·rename_i nm' off' e
   cases e
   split at hx
   ·rename_i ys hf
    cases hx
    obtain⟨b',vs,T,h1,h2,h3,h4⟩:=hs.box _ _ hf
    rw[h]at h1
    simp at h1
    subst h1
    refine⟨b,off,rfl,fun j x hj=> ?_⟩
    rw[List.getElem?_drop]at hj
    obtain⟨v,hv,hr⟩:=h4.get hj
    exact⟨v,by rw[cell_of_row w b _ vs T (0,0) h3];simpa using hv,hr⟩
   ·cases hx
  all_goals simp at*
 |cptr g hc=>
  rename_i cells b off
  simp[bR]at hx
  subst hx
  refine⟨b,off,rfl,fun j x hj=> ?_⟩
  rw[List.getElem?_map]at hj
  cases e:cells[j]? with
  |none=>simp[e]at hj
  |some p=>
   simp[e]at hj
   subst hj
   obtain⟨_,h2,h3⟩:=hc j p e
   exact⟨_,h2,.pure h3⟩
 |eptr hn h=>
  rename_i nm sz row off b n c
  simp only[bR]at hx
  split at hx
  ·rename_i e sz' rows hf
   split at hx
   ·rename_i hsz
    subst hsz
    cases hr:rows[row]? with
    |none=>simp[hr]at hx
    |some r=>
     simp[hr]at hx
     subst hx
     obtain⟨cells,h0,h1,h2,h3,h4,h5⟩:=hs.box _ _ hf
     refine⟨b,row*sz+off,rfl,fun j x hj=> ?_⟩
     rw[List.getElem?_drop,List.getElem?_map]at hj
     cases e:r[off+j]? with
     |none=>simp[e]at hj
     |some p=>
      simp[e]at hj
      subst hj
      obtain⟨v,hv,hp⟩:=h5 row r (off+j) p hr e
      rw[h]at h1
      have:=World.ownsRow.cells h1 (g:=b) rfl (row*sz+(off+j)) v hv
      rw[im]at this
      exact⟨v,by rw[←this];congr 2;omega,.pure hp⟩
   ·cases hx
  ·rename_i e sz' rows hf
   split at hx
   ·rename_i hsz
    subst hsz
    cases hr:rows[row]? with
    |none=>simp[hr]at hx
    |some r=>
     simp[hr]at hx
     subst hx
     obtain⟨cells,h0,h1,h2,h3,h4,h5⟩:=hs.box _ _ hf
     refine⟨b,row*sz+off,rfl,fun j x hj=> ?_⟩
     rw[List.getElem?_drop]at hj
     obtain⟨v,hv,hp⟩:=h5 row r (off+j) x hr hj
     rw[h]at h1
     have:=World.ownsRow.cells h1 (g:=b) rfl (row*sz+(off+j)) v hv
     rw[im]at this
     exact⟨v,by rw[←this];congr 2;omega,hp⟩
   ·cases hx
  ·cases hx
 |pure=>simp[bR]at hx
 |nils=>simp[bR]at hx
 |tsl=>simp[bR]at hx
 |ref=>simp[bR]at hx
 |mref=>simp[bR]at hx
 |clo=>simp[bR]at hx
 |top=>simp[bR]at hx
theorem Yw {t:TypeId} {x:Operand} {y:AX} {n:Option Nat} (ho:o.op= .load t x) (ht:mJ P t=some n) (hx:aO x=some y) (h:bD P (.load n y) σ K) (hs:bP w0 U σ ι a w) (hn:fW w0 U a o K next):o.wp P a w next Q:=by
 have r1:=aC hx hs
 simp only[bD]at h
 split at h
 ·rename_i q e
  rw[e]at r1
  cases r1 with
  |c r1=>
   split at h
   ·rename_i xs hxs
    obtain⟨b,off,e1,hc⟩:=H6 hs r1 hxs
    cases n with
    |none=>
     simp only at h
     split at h
     ·rename_i z zs
      obtain⟨v,hv,hr⟩:=hc 0 z rfl
      refine aK (u:=v) (w':=w) ?_ (hn _ σ ι _ w h hs (.c hr))
      have:=KZ (P:=P) ht hv
      simp only[Nat.add_zero]at this
      simp[execOp,ho,e1,Instr.loadAt,Instr.sureAddr,this]
     ·exact h.elim
    |some n=>
     obtain⟨hle,h⟩:=h
     have hg: ∃ys:List Value,ys.length=n∧ ∀(j:Nat) x v,(xs.take n)[j]? =some x→ys[j]? =some v→w.cell? ⟨b,off+j,none⟩=some v∧bZ w (aI w0.heap.size U ι σ.mem) ι σ.nx x v:=by
      refine⟨(List.range n).map fun j=>(w.cell? ⟨b,off+j,none⟩).getD undef,by simp,fun j x v hj hv=> ?_⟩
      have hjn:j<n:=by have:=(List.getElem?_eq_some_iff.1 hj).1;simp at this;omega
      rw[List.getElem?_take_of_lt hjn]at hj
      obtain⟨u,hu,hr⟩:=hc j x hj
      simp[List.getElem?_map,List.getElem?_range hjn,hu]at hv
      subst hv
      exact⟨hu,hr⟩
     obtain⟨ys,hl,hy⟩:=hg
     have hlt:(xs.take n).length=n:=by simp;omega
     refine aK (u:= .agg ys.toArray) (w':=w) ?_ (hn _ σ ι _ w h hs (.agg (aP.of_get (by rw[hlt];simp[hl]) fun j x v hj hv=>(hy j x v hj (by simpa using hv)).2)))
     have:=Kr (P:=P) (w:=w) (ad:=⟨b,off,none⟩) ht (vs:=ys) hl fun j v hv=>by
      have hjn:j<(xs.take n).length:=by rw[hlt,←hl];exact(List.getElem?_eq_some_iff.1 hv).1
      rw[im]
      exact(hy j _ v (List.getElem?_eq_getElem hjn) hv).1
     simp[execOp,ho,e1,Instr.loadAt,Instr.sureAddr,this]
   ·exact h.elim
 ·exact h.elim
theorem Y8 {x:Operand} {y:AX} (ho:o.op= .nilCheck x) (hx:aO x=some y) (h:bD P (.nilc y) σ K) (hs:bP w0 U σ ι a w) (hn:fW w0 U a o K next):o.wp P a w next Q:=by
 have r1:=aC hx hs
 generalize hu:a.eval x=u at r1
 simp only[bD]at h
 split at h
 ·rename_i e
  rw[e]at r1
  cases r1 with
  |c r1=>
   have r2:=r1
   cases r1
   exact aK (w':=w) (by simp[execOp,ho,hu]) (hn _ σ ι _ w h hs (.c r2))
 ·rename_i e
  rw[e]at r1
  cases r1 with
  |c r1=>
   have r2:=r1
   cases r1
   exact aK (w':=w) (by simp[execOp,ho,hu]) (hn _ σ ι _ w h hs (.c r2))
 ·rename_i e
  rw[e]at r1
  cases r1 with
  |c r1=>
   have r2:=r1
   cases r1
   exact aK (w':=w) (by simp[execOp,ho,hu]) (hn _ σ ι _ w h hs (.c r2))
 ·rename_i e
  rw[e]at r1
  cases r1 with
  |c r1=>
   have r2:=r1
   cases r1
   exact aK (w':=w) (by simp[execOp,ho,hu]) (hn _ σ ι _ w h hs (.c r2))
 ·exact h.elim
end
open Go.RowKit
section
variable {P : Program} {o : Oper} {a : Act} {w w0 : World} {U : Gh} {ι : Pl} {σ : St} {next : Act → World → Prop} {Q : Exit → Act → World → Prop} {K : AV → St → Prop}
theorem N7 {x:AV} {u:Value} {T:TypeId} {xs:List AC} (hx:x.cells=some xs) (hr:aU w (aI w0.heap.size U ι σ.mem) ι σ.nx x u) (h:K (.c (.ptr σ.nx 0)) {σ with mem:=(σ.nx,.var xs)::σ.mem,nx:=σ.nx+1})
  (hs:bP w0 U σ ι a w) (hrun:(execOp a.eval o).run P w= .ok (.value (.pointer (some ⟨w.heap.size,0,none⟩))) (w.alloc (.cells u.cells T))) (hn:fW w0 U a o K next):o.wp P a w next Q:=by
 have hg:Below w.heap.size w (w.alloc (.cells u.cells T)):=(Below.refl _ _).alloc (Nat.le_refl _) _
 obtain⟨ι',h1,h2,h3,h4⟩:=hs.newBox (pv:= .pointer (some ⟨w.heap.size,0,none⟩)) (bx:= .var xs) hg (fun b hb=>by simp[bF]at hb;omega) (fun ι' e1 e2 hfree=>by
  refine⟨w.heap.size,u.cells,T,e2,hs.below.size,heap_alloc_new _ _, ?_⟩
  exact(hr.cells hx).mono fun _ _ hr=>hr.mono hfree (fun b hb _=>hg.block b hb) e1 (Nat.le_succ _))
 exact aK hrun (hn _ _ ι' _ _ h h1 (.c (.ptr (Nat.lt_succ_self _) h2)))
theorem aaY {T:TypeId} {x:Operand} {y:AX} (ho:o.op= .box T x) (hx:aO x=some y) (h:bD P (.box y) σ K) (hs:bP w0 U σ ι a w) (hn:fW w0 U a o K next):o.wp P a w next Q:=by
 have r1:=aC hx hs
 simp only[bD]at h
 split at h
 ·rename_i xs e
  exact N7 e r1 h hs (by simp[execOp,ho,Instr.box,newVar,newRow];rfl) hn
 ·exact h.elim
theorem Um {T:TypeId} {z:Value} {y:AV} (ho:o.op= .alloc T) (hz:eH P T=some z) (hx:zZ z=some y) (h:bD P (.box (.k y)) σ K) (hs:bP w0 U σ ι a w) (hn:fW w0 U a o K next):o.wp P a w next Q:=by
 simp only[bD]at h
 split at h
 ·rename_i xs e
  unfold eH at hz
  cases hi:P.info? T with
  |none=>simp[hi]at hz
  |some i=>
   simp[hi]at hz
   refine N7 e (C7 hx) h hs (T:=T) ?_ hn
   simp[execOp,ho,Instr.alloc,zeroValue,typeInfo,hi,hz,newVar,newRow]
   try rfl
 ·exact h.elim
theorem wA {B:Nat} {mem:List (Nat×bc)} {nm:Nat} {bx:bc} {b:Nat}:aI B U ι (dJ mem nm bx) b↔aI B U ι mem b:=by
 constructor
 ·intro h
  refine⟨h.1,fun n bx' hf=> ?_⟩
  by_cases e:nm=n
  ·exact h.2 n bx (by rw[al,if_pos e,hf];rfl)
  ·exact h.2 n bx' (by rw[al,if_neg e];exact hf)
 ·intro h
  refine⟨h.1,fun n bx' hf=> ?_⟩
  rw[al]at hf
  by_cases e:nm=n
  ·rw[if_pos e]at hf
   cases hm:am mem n with
   |none=>simp[hm]at hf
   |some c=>exact h.2 n c hm
  ·rw[if_neg e]at hf
   exact h.2 n bx' hf
theorem bP.rebox (hs:bP w0 U σ ι a w) {nm:Nat} {bx0 bx:bc} (hf:am σ.mem nm=some bx0) (hbx:od w0.heap.size w (aI w0.heap.size U ι σ.mem) ι σ.nx nm bx):bP w0 U {σ with mem:=dJ σ.mem nm bx} ι a w:=by
 have hfree: ∀c,aI w0.heap.size U ι σ.mem c→aI w0.heap.size U ι (dJ σ.mem nm bx) c:=fun c h=>wA.2 h
 have hsub: ∀n' bx',am (dJ σ.mem nm bx) n'=some bx'→ ∃c,am σ.mem n'=some c:=by
  intro n' bx' h1
  rw[al]at h1
  by_cases e:nm=n'
  ·subst e;exact⟨_,hf⟩
  ·rw[if_neg e]at h1;exact⟨_,h1⟩
 refine⟨fun t=>(hs.val t).mono (fun c _ h=>hfree c h) (fun _ _ _=>rfl) (fun _ _=>rfl) (Nat.le_refl _),hs.defers,fun n bx' hn=> ?_,fun n bx' hn=> ?_,fun n n' b1 b2 c h1 h2 h3 h4=> ?_,hs.below,U.mono _ _ _ _ hs.keep (fun c _ h=>hfree c h) (fun _ _ _=>rfl),hs.base⟩
 ·obtain⟨c,hc⟩:=hsub _ _ hn
  exact hs.names _ _ hc
 ·rw[al]at hn
  have hgo: ∀{m:Nat} {b:bc},m<σ.nx→od w0.heap.size w (aI w0.heap.size U ι σ.mem) ι σ.nx m b→od w0.heap.size w (aI w0.heap.size U ι (dJ σ.mem nm bx)) ι σ.nx m b:=fun hm h=>h.grow (Below.refl _ _) (fun c _ h=>hfree c h) (fun _ _=>rfl) (Nat.le_refl _) hm
  by_cases e:nm=n
  ·subst e
   rw[if_pos rfl,hf]at hn
   cases hn
   exact hgo (hs.names _ _ hf) hbx
  ·rw[if_neg e]at hn
   exact hgo (hs.names _ _ hn) (hs.box _ _ hn)
 ·obtain⟨c1,h1'⟩:=hsub _ _ h1
  obtain⟨c2,h2'⟩:=hsub _ _ h2
  exact hs.apart _ _ _ _ _ h1' h2' h3 h4
theorem bP.setBox (hs:bP w0 U σ ι a w) {nm:Nat} {bx0 bx:bc} {b:Nat} {cs:Array Value} (hf:am σ.mem nm=some bx0) (hb:bF (ι nm)=some b)
  (hbx:od w0.heap.size (w.setRow b cs) (aI w0.heap.size U ι σ.mem) ι σ.nx nm bx):bP w0 U {σ with mem:=dJ σ.mem nm bx} ι a (w.setRow b cs):=by
 have hB:=((hs.box _ _ hf).block hb).1
 have hfree: ∀c,aI w0.heap.size U ι σ.mem c→aI w0.heap.size U ι (dJ σ.mem nm bx) c:=fun c h=>wA.2 h
 have hne: ∀c,aI w0.heap.size U ι σ.mem c→c≠b:=fun c h e=>h.2 _ _ hf (by rw[hb,e])
 have hw: ∀c,c<w.heap.size→aI w0.heap.size U ι σ.mem c→(w.setRow b cs).heap[c]? =w.heap[c]? :=fun c _ h=>setRow_other _ _ _ _ (hne c h)
 refine⟨fun t=>(hs.val t).mono (fun c _ h=>hfree c h) hw (fun _ _=>rfl) (Nat.le_refl _),hs.defers,fun n bx' hn=> ?_,fun n bx' hn=> ?_,fun n n' b1 b2 c h1 h2 h3 h4=> ?_,hs.below.trans ⟨rfl,rfl,rfl,by simp,fun k hk=>setRow_other _ _ _ _ (by omega)⟩,
  U.mono _ _ _ _ hs.keep (fun c _ h=>hfree c h) hw,hs.base⟩
 ·rw[al]at hn
  by_cases e:nm=n
  ·subst e;exact hs.names _ _ hf
  ·rw[if_neg e]at hn;exact hs.names _ _ hn
 ·rw[al]at hn
  by_cases e:nm=n
  ·subst e
   rw[if_pos rfl,hf]at hn
   cases hn
   cases bx with
   |var xs=>
    obtain⟨b',vs,T,h1,h2,h3,h4⟩:=hbx
    exact⟨b',vs,T,h1,h2,h3,h4.mono fun _ _ h=>h.mono (fun c _ h=>hfree c h) (fun _ _ _=>rfl) (fun _ _=>rfl) (Nat.le_refl _)⟩
   |arr e sz rows=>
    obtain⟨cells,h0,h1,h2,h3,h4,h5⟩:=hbx
    refine⟨cells,h0,h1,h2,h3,h4,fun i row j p hi hj=> ?_⟩
    obtain⟨v,hv,hp⟩:=h5 i row j p hi hj
    exact⟨v,hv,hp.mono (fun c _ h=>hfree c h) (fun _ _ _=>rfl)⟩
   |arn e sz rows=>
    obtain⟨cells,h0,h1,h2,h3⟩:=hbx
    exact⟨cells,h0,h1,h2,h3.mono (fun c _ h=>hfree c h) (fun _ _ _=>rfl) (fun _ _=>rfl) (Nat.le_refl _)⟩
   |map kt m ents=>
    obtain⟨b',es,clock,h1,h2,h3,h4⟩:=hbx
    exact⟨b',es,clock,h1,h2,h3,h4.mono fun _ _ h=>h.mono (fun c _ h=>hfree c h) (fun _ _ _=>rfl) (fun _ _=>rfl) (Nat.le_refl _)⟩
  ·rw[if_neg e]at hn
   have hbn: ∀c,bF (ι n)=some c→c≠b:=fun c hc e'=>e (hs.apart _ _ _ _ b hf hn hb (by rw[hc,e']))
   have hold:=hs.box _ _ hn
   cases bx' with
   |var xs=>
    obtain⟨b',vs,T,h1,h2,h3,h4⟩:=hold
    exact⟨b',vs,T,h1,h2,by rw[setRow_other _ _ _ _ (hbn b' (by rw[h1];rfl))];exact h3,h4.mono fun _ _ h=>h.mono (fun c _ h=>hfree c h) hw (fun _ _=>rfl) (Nat.le_refl _)⟩
   |arr e sz rows=>
    obtain⟨cells,h0,h1,h2,h3,h4,h5⟩:=hold
    refine⟨cells,h0,World.ownsRow.kept (row:=some b) h1 ⟨rfl,rfl,rfl,by simp,fun k _ hk=>setRow_other _ _ _ _ (fun e=>hk (by rw[e]))⟩ ?_,h2,h3,h4,fun i row j p hi hj=> ?_⟩
    ·rcases h1.2 with⟨h,_⟩|⟨g,cap,cur,h,_⟩
     ·rw[h];exact .inl rfl
     ·right
      rw[h]
      intro e'
      simp[Value.ownBlock]at e'
      exact hbn g (by rw[h];rfl) e'
    ·obtain⟨v,hv,hp⟩:=h5 i row j p hi hj
     exact⟨v,hv,hp.mono (fun c _ h=>hfree c h) hw⟩
   |arn e sz rows=>
    obtain⟨cells,h0,h1,h2,h3⟩:=hold
    refine⟨cells,h0,World.ownsRow.kept (row:=some b) h1 ⟨rfl,rfl,rfl,by simp,fun k _ hk=>setRow_other _ _ _ _ (fun e=>hk (by rw[e]))⟩ ?_,h2,h3.mono (fun c _ h=>hfree c h) hw (fun _ _=>rfl) (Nat.le_refl _)⟩
    rcases h1.2 with⟨h,_⟩|⟨g,cap,cur,h,_⟩
    ·rw[h];exact .inl rfl
    ·right
     rw[h]
     intro e'
     simp[Value.ownBlock]at e'
     exact hbn g (by rw[h];rfl) e'
   |map kt m ents=>
    obtain⟨b',es,clock,h1,h2,h3,h4⟩:=hold
    exact⟨b',es,clock,h1,h2,by rw[setRow_other _ _ _ _ (hbn b' (by rw[h1];rfl))];exact h3,h4.mono fun _ _ h=>h.mono (fun c _ h=>hfree c h) hw (fun _ _=>rfl) (Nat.le_refl _)⟩
 ·have h1': ∃c,am σ.mem n=some c:=by
   rw[al]at h1
   by_cases e:nm=n
   ·subst e;exact⟨_,hf⟩
   ·rw[if_neg e]at h1;exact⟨_,h1⟩
  have h2': ∃c,am σ.mem n'=some c:=by
   rw[al]at h2
   by_cases e:nm=n'
   ·subst e;exact⟨_,hf⟩
   ·rw[if_neg e]at h2;exact⟨_,h2⟩
  obtain⟨c1,h1'⟩:=h1'
  obtain⟨c2,h2'⟩:=h2'
  exact hs.apart _ _ _ _ _ h1' h2' h3 h4
theorem aP.over {α β:Type} {R:α→β→Prop} {as as':List α} {bs bs':List β} (h:aP R as bs) (h':aP R as' bs') (off:Nat):aP R (over as off as') (over bs off bs'):=by
 unfold Abs.over
 rw[←h'.length]
 exact((h.take off).append h').append (h.drop _)
theorem Gx {xs:List AC} {vs:List Value} {N:Nat} {V:Nat→Prop} (h:aP (bZ w V ι N) xs vs): ∀v∈vs,v.oneCell'=true:=by
 induction h with
 |nil=>simp
 |cons h _ ih=>
  intro v hv
  rcases List.mem_cons.1 hv with rfl|hv
  ·exact h.one
  ·exact ih v hv
theorem Yh {V:Nat→Prop} {N:Nat} {x:AC} {z:PC} {v:Value} (h:bZ w V ι N x v) (hz:pcA x=some z):cp w V z v:=by
 cases h with
 |pure h=>cases hz;exact h
 |nils=>cases hz;exact .nil
 |tsl h=>cases hz;exact h
 |_=>cases hz
theorem OM {V:Nat→Prop} {N:Nat} {xs:List AC} {vs:List Value} (h:aP (bZ w V ι N) xs vs): ∀{zs:List PC},IY xs=some zs→aP (cp w V) zs vs:=by
 induction h with
 |nil=>intro zs hz;cases hz;exact .nil
 |cons h t ih=>
  intro zs hz
  unfold IY at hz
  split at hz
  ·cases hz
   exact .cons (Yh h ‹_›) (ih ‹_›)
  ·cases hz
theorem rQ {t:TypeId} {n b off:Nat} {u:Value} {cur:Array Value} {T:TypeId} (ht:jR P t=some n) (hn:u.cells.size=n) (hcur:w.heap[b]? =some (.cells cur T (0,0))) (hle:off+n≤cur.size) (h1: ∀v∈u.cells.toList,v.oneCell'=true):
  (storeVar t ⟨b,off,none⟩ u).run P w= .ok () (w.setRow b (over cur.toList off u.cells.toList).toArray):=by
 unfold jR at ht
 cases hi:P.info? t with
 |none=>simp[hi]at ht
 |some i=>
  simp[hi]at ht
  have h:=run_storeCells_at (P:=P) b off T u.cells.toList 0 cur w hcur (by simp;omega) h1
  simp only[Nat.add_zero]at h
  simp[storeVar,sizeOf,typeInfo,hi,ht,hn,h,over]
end
open Go.RowKit
section
variable {P : Program} {o : Oper} {a : Act} {w w0 : World} {U : Gh} {ι : Pl} {σ : St} {next : Act → World → Prop} {Q : Exit → Act → World → Prop} {K : AV → St → Prop}
theorem N9 {α:Type} {R:α→Value→Prop} {sz row off:Nat} {rows:List (List α)} {cells:List Value} {r zs:List α} {vs:List Value} (h3:cells.length=rows.length*sz) (h4: ∀(i:Nat) row,rows[i]? =some row→row.length=sz)
  (h5: ∀(i:Nat) (row:List α) (j:Nat) p,rows[i]? =some row→row[j]? =some p→ ∃v,cells[i*sz+j]? =some v∧R p v) (hr:rows[row]? =some r) (hz:aP R zs vs) (ho:off+zs.length≤sz):
  (over cells (row*sz+off) vs).length=(rows.set row (over r off zs)).length*sz∧(∀(i:Nat) row',(rows.set row (over r off zs))[i]? =some row'→row'.length=sz)∧
  ∀(i:Nat) (row':List α) (j:Nat) p,(rows.set row (over r off zs))[i]? =some row'→row'[j]? =some p→ ∃v,(over cells (row*sz+off) vs)[i*sz+j]? =some v∧R p v:=by
 have hrow:row<rows.length:=(List.getElem?_eq_some_iff.1 hr).1
 have hlr:=h4 row r hr
 have hlz:=hz.length
 have hm:row*sz+sz≤cells.length:=by
  rw[h3]
  have:(row+1)*sz≤rows.length*sz:=Nat.mul_le_mul_right _ hrow
  rw[Nat.succ_mul]at this
  exact this
 have hget: ∀k,k<cells.length→(over cells (row*sz+off) vs)[k]? =if row*sz+off≤k∧k<row*sz+off+vs.length then vs[k-(row*sz+off)]? else cells[k]? :=by
  intro k hk
  unfold over
  rw[List.append_assoc]
  by_cases h1:k<row*sz+off
  ·rw[List.getElem?_append_left (by simp;omega),List.getElem?_take_of_lt h1,if_neg (by omega)]
  ·rw[List.getElem?_append_right (by simp;omega)]
   have e1:(cells.take (row*sz+off)).length=row*sz+off:=by simp;omega
   rw[e1]
   by_cases h2:k<row*sz+off+vs.length
   ·rw[List.getElem?_append_left (by omega),if_pos ⟨by omega,h2⟩]
   ·rw[List.getElem?_append_right (by omega),List.getElem?_drop,if_neg (by omega)]
    congr 1
    omega
 have hgr: ∀j,j<r.length→(over r off zs)[j]? =if off≤j∧j<off+zs.length then zs[j-off]? else r[j]? :=by
  intro k hk
  unfold over
  rw[List.append_assoc]
  by_cases h1:k<off
  ·rw[List.getElem?_append_left (by simp;omega),List.getElem?_take_of_lt h1,if_neg (by omega)]
  ·rw[List.getElem?_append_right (by simp;omega)]
   have e1:(r.take off).length=off:=by simp;omega
   rw[e1]
   by_cases h2:k<off+zs.length
   ·rw[List.getElem?_append_left (by omega),if_pos ⟨by omega,h2⟩]
   ·rw[List.getElem?_append_right (by omega),List.getElem?_drop,if_neg (by omega)]
    congr 1
    omega
 have hlo:(over r off zs).length=sz:=by
  unfold over
  simp
  omega
 refine⟨?_,fun i row' hi=> ?_,fun i row' j p hi hj=> ?_⟩
 ·unfold over
  simp
  rw[←h3]
  omega
 ·rw[List.getElem?_set]at hi
  by_cases e:row=i
  ·rw[if_pos e,if_pos (by omega)]at hi
   cases hi;exact hlo
  ·rw[if_neg e]at hi
   exact h4 i row' hi
 ·rw[List.getElem?_set]at hi
  by_cases e:row=i
  ·subst e
   rw[if_pos rfl,if_pos hrow]at hi
   cases hi
   have hjl:j<sz:=by rw[←hlo];exact(List.getElem?_eq_some_iff.1 hj).1
   rw[hgr j (by omega)]at hj
   rw[hget (row*sz+j) (by omega)]
   by_cases h1:off≤j∧j<off+zs.length
   ·rw[if_pos h1]at hj
    rw[if_pos ⟨by omega,by omega⟩]
    obtain⟨v,hv,hp⟩:=hz.get hj
    exact⟨v,by rw[←hv];congr 1;omega,hp⟩
   ·rw[if_neg h1]at hj
    rw[if_neg (by omega)]
    exact h5 row r j p hr hj
  ·rw[if_neg e]at hi
   obtain⟨v,hv,hp⟩:=h5 i row' j p hi hj
   have hjl:j<sz:=by rw[←h4 i row' hi];exact(List.getElem?_eq_some_iff.1 hj).1
   have hil:i<rows.length:=(List.getElem?_eq_some_iff.1 hi).1
   refine⟨v, ?_,hp⟩
   rw[hget (i*sz+j) ((List.getElem?_eq_some_iff.1 hv).1),if_neg ?_]
   ·exact hv
   ·rintro⟨g1,g2⟩
    rcases Nat.lt_or_gt_of_ne e with hlt|hgt
    ·have:(row+1)*sz≤i*sz:=Nat.mul_le_mul_right _ hlt
     rw[Nat.succ_mul]at this
     omega
    ·have:(i+1)*sz≤row*sz:=Nat.mul_le_mul_right _ hgt
     rw[Nat.succ_mul]at this
     omega
theorem bf.set {V:Nat→Prop} {sz row off:Nat} {rows:List (List PC)} {cells:List Value} {r zs:List PC} {vs:List Value} (h:bf w V sz rows cells) (hr:rows[row]? =some r) (hz:aP (cp w V) zs vs) (ho:off+zs.length≤sz):
  bf w V sz (rows.set row (over r off zs)) (over cells (row*sz+off) vs):=N9 h.1 h.2.1 h.2.2 hr hz ho
theorem gN.set {V:Nat→Prop} {N sz row off:Nat} {rows:List (List AC)} {cells:List Value} {r zs:List AC} {vs:List Value} (h:gN w V ι N sz rows cells) (hr:rows[row]? =some r) (hz:aP (bZ w V ι N) zs vs) (ho:off+zs.length≤sz):
  gN w V ι N sz (rows.set row (over r off zs)) (over cells (row*sz+off) vs):=N9 h.1 h.2.1 h.2.2 hr hz ho
theorem bf.mono {w':World} {V V':Nat→Prop} {sz:Nat} {rows:List (List PC)} {cells:List Value} (h:bf w V sz rows cells) (hU: ∀b,b<w.heap.size→V b→V' b)
  (hw: ∀b,b<w.heap.size→V b→w'.heap[b]? =w.heap[b]?):bf w' V' sz rows cells:=by
 obtain⟨h3,h4,h5⟩:=h
 refine⟨h3,h4,fun i row j p hi hj=> ?_⟩
 obtain⟨v,hv,hp⟩:=h5 i row j p hi hj
 exact⟨v,hv,hp.mono hU hw⟩
theorem lu {α:Type} (xs:List α) (off:Nat) (ys:List α) (h:off+ys.length≤xs.length):(over xs off ys).length=xs.length:=by
 unfold over
 simp
 omega
theorem J1 {α:Type} (xs:List α) (off m:Nat) (ys:List α) (h:off+ys.length≤m) (hm:m≤xs.length):(over xs off ys).take m=over (xs.take m) off ys:=by
 unfold over
 rw[List.take_append,List.take_append,List.take_take,List.drop_take,List.length_append,List.length_take]
 have e1:min m off=off:=by omega
 have e2:min off xs.length=off:=by omega
 rw[e1,e2,List.take_take,List.take_of_length_le (l:=ys) (by omega)]
 congr 2
 all_goals(first|omega|(congr 1;omega))
theorem W7 {t:TypeId} {x y:Operand} {p q:AX} {n:Nat} (ho:o.op= .store t x y) (ht:jR P t=some n) (hx:aO x=some p) (hy:aO y=some q) (h:bD P (.store n p q) σ K) (hs:bP w0 U σ ι a w) (hn:fW w0 U a o K next):o.wp P a w next Q:=by
 have r1:=aC hx hs
 have r2:=aC hy hs
 simp only[bD]at h
 split at h
 ·rename_i ys nm off e1 e2
  rw[e2]at r1
  have hcs:=r2.cells e1
  split at h
  ·rename_i xs hf
   obtain⟨⟨hl,hle⟩,h⟩:=h
   cases r1 with
   |c r1=>
    generalize hu:a.eval x=u at r1
    cases r1 with
    |ptr hnm hι=>
     rename_i b
     obtain⟨b',vs,T,g1,g2,g3,g4⟩:=hs.box _ _ hf
     rw[hι]at g1
     simp at g1
     subst g1
     have hvl:(a.eval y).cells.size=n:=by rw[←hl,hcs.length,Array.length_toList]
     have hrun:=rQ (P:=P) (off:=off) ht hvl g3 (by rw[←Array.length_toList,←g4.length];exact hle) (Gx hcs)
     refine oG (w':=w.setRow b (over vs.toList off (a.eval y).cells.toList).toArray) ?_ (hn _ _ ι _ _ h ?_ iO)
     ·simp[execOp,ho,hu,Instr.storeAt,Instr.sureAddr,hrun]
     ·refine hs.setBox hf (by rw[hι];rfl) ⟨b,_,T,hι,g2,setRow_heap _ _ _ _ _ _ g3, ?_⟩
      have hne: ∀c,aI w0.heap.size U ι σ.mem c→c≠b:=fun c h e=>h.2 _ _ hf (by rw[hι,e];rfl)
      have:=(g4.over hcs off).mono fun _ _ (h:bZ w (aI w0.heap.size U ι σ.mem) ι σ.nx _ _)=>h.mono (w':=w.setRow b (over vs.toList off (a.eval y).cells.toList).toArray) (fun c _ h=>h) (fun c _ h=>setRow_other _ _ _ _ (hne c h)) (fun _ _=>rfl) (Nat.le_refl _)
      simpa using this
  ·exact h.elim
 ·rename_i ys nm sz row off e1 e2
  rw[e2]at r1
  have hcs:=r2.cells e1
  split at h
  ·rename_i e sz' rows hf
   obtain⟨⟨hsz,hl,hle⟩,zs,hz,r,hr,h⟩:=h
   subst hsz
   cases r1 with
   |c r1=>
    generalize hu:a.eval x=u at r1
    cases r1 with
    |eptr hnm hι=>
     rename_i b n' c'
     have hpz:=OM hcs hz
     have hvl:(a.eval y).cells.size=n:=by rw[←hl,hcs.length,Array.length_toList]
     have hzl:zs.length=n:=by rw[hpz.length,Array.length_toList,hvl]
     obtain⟨cells,g0,g1,g2,g3⟩:=hs.box _ _ hf
     have g1':=g1
     rcases g1.2 with⟨e',_⟩|⟨g,cap,cur,e',hB,hg,hnc,hcm,hcs',htake⟩
     ·rw[hι]at e';cases e'
     ·rw[hι]at e'
      simp at e'
      obtain⟨rfl,rfl,rfl⟩:=e'
      have hrow:row<rows.length:=(List.getElem?_eq_some_iff.1 hr).1
      have hm:row*sz+sz≤rows.length*sz:=by
       have:(row+1)*sz≤rows.length*sz:=Nat.mul_le_mul_right _ hrow
       rw[Nat.succ_mul]at this
       exact this
      have hm2:rows.length*sz≤cur.size:=by
       have:rows.length*sz≤c'*sz:=Nat.mul_le_mul_right _ hnc
       omega
      have hvs:(a.eval y).cells.toList.length=n:=by rw[Array.length_toList,hvl]
      have hrun:=rQ (P:=P) (off:=row*sz+off) ht hvl hg (by omega) (Gx hcs)
      refine oG (w':=w.setRow b (over cur.toList (row*sz+off) (a.eval y).cells.toList).toArray) ?_ (hn _ _ ι _ _ h ?_ iO)
      ·simp[execOp,ho,hu,Instr.storeAt,Instr.sureAddr,hrun]
      ·have hne: ∀c,aI w0.heap.size U ι σ.mem c→c≠b:=fun c h e=>h.2 _ _ hf (by rw[hι,e];rfl)
       refine hs.setBox hf (by rw[hι];rfl) ⟨over cells (row*sz+off) (a.eval y).cells.toList,g0,⟨?_,.inr ⟨b,c',(over cur.toList (row*sz+off) (a.eval y).cells.toList).toArray, ?_,hB,setRow_heap _ _ _ _ _ _ hg, ?_,hcm, ?_, ?_⟩⟩, ?_, ?_⟩
       ·rw[lu _ _ _ (by rw[g1.1];omega),List.length_set,g1.1]
       ·rw[hι,List.length_set]
       ·rw[List.length_set];exact hnc
       ·rw[List.size_toArray,lu _ _ _ (by simp;omega),Array.length_toList];exact hcs'
       ·rw[List.length_set,←htake,List.toList_toArray,J1 _ _ _ _ (by omega) (by simp;omega)]
       ·rw[List.length_set];exact g2
       ·exact(g3.mono (w':=w.setRow b (over cur.toList (row*sz+off) (a.eval y).cells.toList).toArray) (fun c _ h=>h) (fun c _ h=>setRow_other _ _ _ _ (hne c h))).set hr (hpz.mono fun _ _ h=>h.mono (fun c _ h=>h) (fun c _ h=>setRow_other _ _ _ _ (hne c h))) (by omega)
  ·rename_i e sz' rows hf
   obtain⟨⟨hsz,hl,hle⟩,r,hr,h⟩:=h
   subst hsz
   cases r1 with
   |c r1=>
    generalize hu:a.eval x=u at r1
    cases r1 with
    |eptr hnm hι=>
     rename_i b n' c'
     have hvl:(a.eval y).cells.size=n:=by rw[←hl,hcs.length,Array.length_toList]
     obtain⟨cells,g0,g1,g2,g3⟩:=hs.box _ _ hf
     have g1':=g1
     rcases g1.2 with⟨e',_⟩|⟨g,cap,cur,e',hB,hg,hnc,hcm,hcs',htake⟩
     ·rw[hι]at e';cases e'
     ·rw[hι]at e'
      simp at e'
      obtain⟨rfl,rfl,rfl⟩:=e'
      have hrow:row<rows.length:=(List.getElem?_eq_some_iff.1 hr).1
      have hm:row*sz+sz≤rows.length*sz:=by
       have:(row+1)*sz≤rows.length*sz:=Nat.mul_le_mul_right _ hrow
       rw[Nat.succ_mul]at this
       exact this
      have hm2:rows.length*sz≤cur.size:=by
       have:rows.length*sz≤c'*sz:=Nat.mul_le_mul_right _ hnc
       omega
      have hvs:(a.eval y).cells.toList.length=n:=by rw[Array.length_toList,hvl]
      have hrun:=rQ (P:=P) (off:=row*sz+off) ht hvl hg (by omega) (Gx hcs)
      refine oG (w':=w.setRow b (over cur.toList (row*sz+off) (a.eval y).cells.toList).toArray) ?_ (hn _ _ ι _ _ h ?_ iO)
      ·simp[execOp,ho,hu,Instr.storeAt,Instr.sureAddr,hrun]
      ·have hne: ∀c,aI w0.heap.size U ι σ.mem c→c≠b:=fun c h e=>h.2 _ _ hf (by rw[hι,e];rfl)
       refine hs.setBox hf (by rw[hι];rfl) ⟨over cells (row*sz+off) (a.eval y).cells.toList,g0,⟨?_,.inr ⟨b,c',(over cur.toList (row*sz+off) (a.eval y).cells.toList).toArray, ?_,hB,setRow_heap _ _ _ _ _ _ hg, ?_,hcm, ?_, ?_⟩⟩, ?_, ?_⟩
       ·rw[lu _ _ _ (by rw[g1.1];omega),List.length_set,g1.1]
       ·rw[hι,List.length_set]
       ·rw[List.length_set];exact hnc
       ·rw[List.size_toArray,lu _ _ _ (by simp;omega),Array.length_toList];exact hcs'
       ·rw[List.length_set,←htake,List.toList_toArray,J1 _ _ _ _ (by omega) (by simp;omega)]
       ·rw[List.length_set];exact g2
       ·exact(g3.mono (w':=w.setRow b (over cur.toList (row*sz+off) (a.eval y).cells.toList).toArray) (fun c _ h=>h) (fun c _ h=>setRow_other _ _ _ _ (hne c h)) (fun _ _=>rfl) (Nat.le_refl _)).set hr (hcs.mono fun _ _ h=>h.mono (fun c _ h=>h) (fun c _ h=>setRow_other _ _ _ _ (hne c h)) (fun _ _=>rfl) (Nat.le_refl _)) (by omega)
  ·exact h.elim
 ·exact h.elim
end
open Go.RowKit
section
variable {P : Program} {o : Oper} {a : Act} {w w0 : World} {U : Gh} {ι : Pl} {σ : St} {next : Act → World → Prop} {Q : Exit → Act → World → Prop} {K : AV → St → Prop}
theorem JF {V:Nat→Prop} {N b off:Nat} {cells:List PC} (k:Nat) (h:bZ w V ι N (.cptr cells) (.pointer (some ⟨b,off,none⟩))):bZ w V ι N (.cptr (cells.drop k)) (.pointer (some ⟨b,off+k,none⟩)):=by
 cases h with
 |cptr g hc=>
  refine .cptr (fun j=>g (k+j)) fun j p hj=> ?_
  rw[List.getElem?_drop]at hj
  have:=hc (k+j) p hj
  rw[←Nat.add_assoc]at this
  exact this
theorem uf {s:TypeId} {f:Nat} {fd:Field} {b off:Nat} (hf:sO P s f=some fd) (hz: ¬(jR P fd.type).getD 0=0):(Instr.fieldAt s (.pointer (some ⟨b,off,none⟩)) f).run P w= .ok (.pointer (some ⟨b,off+fd.offset,none⟩)) w:=by
 unfold sO at hf
 split at hf
 ·rename_i fs hd
  unfold jR at hz
  cases hi:P.info? fd.type with
  |none=>simp[hi]at hz
  |some i=>
   simp[hi]at hz
   simp[Instr.fieldAt,run_underlying hd,hf,Instr.sureAddr,fieldPlace,sizeOf,typeInfo,hi,hz,im]
 ·cases hf
theorem S3 {s:TypeId} {x:Operand} {y:AX} {f:Nat} {fd:Field} (ho:o.op= .fieldAddr s x f) (hf:sO P s f=some fd) (hz: ¬(jR P fd.type).getD 0=0) (hx:aO x=some y) (h:bD P (.fieldA fd.offset y) σ K) (hs:bP w0 U σ ι a w) (hn:fW w0 U a o K next):o.wp P a w next Q:=by
 have r1:=aC hx hs
 generalize hu:a.eval x=u at r1
 simp only[bD]at h
 split at h
 ·rename_i e
  rw[e]at r1
  cases r1 with
  |c r1=>
   cases r1 with
   |ptr h1 h2=>exact aK (w':=w) (by simp[execOp,ho,hu,uf hf hz];try rfl) (hn _ σ ι _ w h hs (.c (.ptr h1 h2)))
 ·rename_i e
  rw[e]at r1
  cases r1 with
  |c r1=>
   have r2:=r1
   cases r1 with
   |cptr g hc=>exact aK (w':=w) (by simp[execOp,ho,hu,uf hf hz];try rfl) (hn _ σ ι _ w h hs (.c (JF _ r2)))
 ·rename_i e
  rw[e]at r1
  cases r1 with
  |c r1=>
   cases r1 with
   |eptr h1 h2=>exact aK (w':=w) (by simp[execOp,ho,hu,uf hf hz];try rfl) (hn _ σ ι _ w h hs (.c (by rw[Nat.add_assoc];exact .eptr h1 h2)))
 ·exact h.elim
theorem Mt {t:TypeId} {cs:Array Value} {off:Nat} {v:Value} (h:mJ P t=some none) (hv:cs[off]? =some v):(part t cs off).run P w= .ok v w:=by
 unfold mJ at h
 split at h
 ·cases h
 ·cases h
 ·rename_i d i n1 n2 hd hi
  have hag:(isAgg t).run P w= .ok false w:=by
   unfold isAgg
   cases d<;>first|(simp[run_underlying hd];done)|exact absurd rfl (n1 _)|exact absurd rfl (n2 _ _)
  simp[part,hag,hv]
 ·cases h
theorem Lw {t:TypeId} {cs:Array Value} {off n:Nat} (h:mJ P t=some (some n)):(part t cs off).run P w= .ok (.agg (cs.extract off (off+n))) w:=by
 unfold mJ at h
 split at h
 ·rename_i fs i hd hi
  simp at h
  have hag:(isAgg t).run P w= .ok true w:=by simp[isAgg,run_underlying hd]
  simp[part,hag,sizeOf,typeInfo,hi,h]
 ·rename_i fs i hd hi
  simp at h
  have hag:(isAgg t).run P w= .ok true w:=by simp[isAgg,run_underlying hd]
  simp[part,hag,sizeOf,typeInfo,hi,h]
 ·split at h<;>cases h
 ·cases h
theorem Wr {s:TypeId} {x:Operand} {y:AX} {f:Nat} {fd:Field} {n:Option Nat} (ho:o.op= .field s x f) (hf:sO P s f=some fd) (ht:mJ P fd.type=some n) (hx:aO x=some y) (h:bD P (.field fd.offset n y) σ K) (hs:bP w0 U σ ι a w) (hn:fW w0 U a o K next):o.wp P a w next Q:=by
 have r1:=aC hx hs
 generalize hu:a.eval x=u at r1
 simp only[bD]at h
 split at h
 ·rename_i xs e
  rw[e]at r1
  cases r1 with
  |agg r1=>
   rename_i vs
   have hrun: ∀{v:Value},(part fd.type vs fd.offset).run P w= .ok v w→(execOp a.eval o).run P w= .ok (.value v) w:=by
    intro v hp
    unfold sO at hf
    split at hf
    ·rename_i fs hd
     simp[execOp,ho,hu,Instr.field,run_underlying hd,hf,asAgg,hp]
    ·cases hf
   cases n with
   |none=>
    simp only at h
    split at h
    ·rename_i z zs ez
     have hz:xs[fd.offset]? =some z:=by
      have:(xs.drop fd.offset)[0]? =some z:=by rw[ez];rfl
      rw[List.getElem?_drop]at this
      simpa using this
     obtain⟨v,hv,hr⟩:=r1.get hz
     exact aK (u:=v) (w':=w) (hrun (Mt ht (by simpa using hv))) (hn _ σ ι _ w h hs (.c hr))
    ·exact h.elim
   |some n=>
    obtain⟨hle,h⟩:=h
    refine aK (w':=w) (hrun (Lw ht)) (hn _ σ ι _ w h hs (.agg ?_))
    have:=(r1.drop fd.offset).take n
    have e2:(vs.extract fd.offset (fd.offset+n)).toList=(vs.toList.drop fd.offset).take n:=by
     rw[Array.toList_extract,List.extract_eq_take_drop]
     simp
    rw[e2]
    exact this
 ·exact h.elim
theorem vK {t e:TypeId} {sz bytes:Nat} {b off n c:Nat} {k:IntKind} {i:Int} (ht:eS P t=some (e,sz,bytes)) (h0:0≤i) (h1:i<n):(Instr.indexAt t (.slice (some ⟨b,off,none⟩) n c) (.int k i)).run P w= .ok (.pointer (some ⟨b,off+i.toNat*sz,none⟩)) w:=by
 unfold eS at ht
 split at ht
 ·rename_i e' hd
  cases hi:P.info? e' with
  |none=>simp[hi]at ht
  |some inf=>
   simp[hi]at ht
   obtain⟨rfl,rfl,_⟩:=ht
   simp[Instr.indexAt,asIntOf,run_underlying hd,h0,h1,sizeOf,typeInfo,hi,im]
 ·cases ht
theorem Yk {t e:TypeId} {sz bytes:Nat} {x z:Operand} {y q:AX} (ho:o.op= .indexAddr t x z) (ht:eS P t=some (e,sz,bytes)) (hx:aO x=some y) (hz:aO z=some q) (h:bD P (.idxA sz y q) σ K) (hs:bP w0 U σ ι a w) (hn:fW w0 U a o K next):o.wp P a w next Q:=by
 have r1:=aC hx hs
 have r2:=aC hz hs
 generalize hu:a.eval x=u at r1
 simp only[bD]at h
 have hpure: ∀{rows:List (List PC)} {k:IntKind} {i:Int},cp w (aI w0.heap.size U ι σ.mem) (.slice rows) u→AX.ev σ.fr q= .c (.pure (.val (.int k i)))→(0≤i∧ ∃r,rows[i.toNat]? =some r∧(r.length=sz∧0<sz)∧K (.c (.cptr r)) σ)→o.wp P a w next Q:=by
  intro rows k i hr hi h
  rw[hi]at r2
  have e2:=(bp r2).1
  obtain⟨h0,r,hrow,⟨hrl,hsz⟩,hk⟩:=h
  cases hr with
  | @slice sz' _ ad n c g hl hc hm hlen hcell hp=>
   obtain rfl:sz'=sz:=by rw[←hrl];exact(hlen _ _ hrow).symm
   have hil:i.toNat<rows.length:=(List.getElem?_eq_some_iff.1 hrow).1
   have hlr:=hlen _ _ hrow
   have h0r:r[0]? =some (r[0]'(by omega)):=List.getElem?_eq_getElem (by omega)
   obtain⟨b,off,rfl,hb,_⟩:=hcell _ r 0 _ hrow h0r
   refine aK (w':=w) (by simp only[execOp,ho,hu,e2];rw[Sem.run_bind,vK ht h0 (by omega)];rfl) (hn _ σ ι _ w hk hs (.c (.cptr (fun j=>g i.toNat j) fun j p hj=> ?_)))
   obtain⟨b',off',e',hb',hc'⟩:=hcell _ r j p hrow hj
   cases e'
   exact⟨hb',by rw[←hc'];congr 2;omega,hp _ r j p hrow hj⟩
 split at h
 ·rename_i rows k i e1 e2
  rw[e1]at r1
  cases r1 with
  |c r1=>cases r1 with|pure r1=>exact hpure r1 e2 h
 ·rename_i rows k i e1 e2
  rw[e1]at r1
  cases r1 with
  |c r1=>cases r1 with|tsl r1=>exact hpure r1 e2 h
 ·rename_i nm k i e1 e2
  rw[e1]at r1
  rw[e2]at r2
  have e2':=(bp r2).1
  split at h
  ·rename_i e' sz' rows hf
   obtain⟨⟨rfl,hsz,h0,hlt⟩,h⟩:=h
   cases r1 with
   |c r1=>cases r1 with
    |ref hnm hex=>
     obtain⟨cells,g0,g1,g2,g3⟩:=hs.box _ _ hf
     rcases g1.2 with⟨e',hz'⟩|⟨g,cap,cur,e',hB,hg,hnc,hcm,hcs',htake⟩
     ·omega
     ·refine aK (w':=w) (by simp only[execOp,ho,hu,e',e2'];rw[Sem.run_bind,vK ht h0 (by omega)];rfl) (hn _ σ ι _ w h hs (.c ?_))
      have:=bZ.eptr (w:=w) (U:=aI w0.heap.size U ι σ.mem) (sz:=sz') (row:=i.toNat) (off:=0) hnm e'
      simpa using this
  ·rename_i e' sz' rows hf
   obtain⟨⟨rfl,hsz,h0,hlt⟩,h⟩:=h
   cases r1 with
   |c r1=>cases r1 with
    |ref hnm hex=>
     obtain⟨cells,g0,g1,g2,g3⟩:=hs.box _ _ hf
     rcases g1.2 with⟨e',hz'⟩|⟨g,cap,cur,e',hB,hg,hnc,hcm,hcs',htake⟩
     ·omega
     ·refine aK (w':=w) (by simp only[execOp,ho,hu,e',e2'];rw[Sem.run_bind,vK ht h0 (by omega)];rfl) (hn _ σ ι _ w h hs (.c ?_))
      have:=bZ.eptr (w:=w) (U:=aI w0.heap.size U ι σ.mem) (sz:=sz') (row:=i.toNat) (off:=0) hnm e'
      simpa using this
  ·exact h.elim
 ·exact h.elim
theorem YE {t e:TypeId} {len sz:Nat} {x z:Operand} {y q:AX} (ho:o.op= .indexAddr t x z) (ht:P.underlying t=some (.array len e)) (hsz:jR P e=some sz) (hx:aO x=some y) (hz:aO z=some q) (h:bD P (.idxR len sz y q) σ K) (hs:bP w0 U σ ι a w) (hn:fW w0 U a o K next):o.wp P a w next Q:=by
 have r1:=aC hx hs
 have r2:=aC hz hs
 generalize hu:a.eval x=u at r1
 simp only[bD]at h
 have hrun: ∀{b off:Nat} {k:IntKind} {i:Int},0≤i→i<len→(Instr.indexAt t (.pointer (some ⟨b,off,none⟩)) (.int k i)).run P w= .ok (.pointer (some ⟨b,off+i.toNat*sz,none⟩)) w:=by
  intro b off k i h0 h1
  unfold jR at hsz
  cases hi:P.info? e with
  |none=>simp[hi]at hsz
  |some inf=>
   simp[hi]at hsz
   simp[Instr.indexAt,asIntOf,run_underlying ht,Instr.sureAddr,h0,h1,sizeOf,typeInfo,hi,hsz,im]
 split at h
 ·rename_i nm off k i e1 e2
  rw[e1]at r1
  rw[e2]at r2
  have e2':=(bp r2).1
  obtain⟨⟨h0,h1⟩,h⟩:=h
  cases r1 with
  |c r1=>cases r1 with
   |ptr g1 g2=>exact aK (w':=w) (by simp only[execOp,ho,hu,e2'];rw[Sem.run_bind,hrun h0 h1];rfl) (hn _ σ ι _ w h hs (.c (.ptr g1 g2)))
 ·rename_i cells k i e1 e2
  rw[e1]at r1
  rw[e2]at r2
  have e2':=(bp r2).1
  obtain⟨⟨h0,h1⟩,h⟩:=h
  cases r1 with
  |c r1=>
   have r3:=r1
   cases r1 with
   |cptr g hc=>exact aK (w':=w) (by simp only[execOp,ho,hu,e2'];rw[Sem.run_bind,hrun h0 h1];rfl) (hn _ σ ι _ w h hs (.c (JF _ r3)))
 ·exact h.elim
theorem Ze {t:TypeId} {x z:Operand} {y q:AX} (ho:o.op= .index t x z) (ht:U0 P t=true) (hx:aO x=some y) (hz:aO z=some q) (h:bD P (.idxS y q) σ K) (hs:bP w0 U σ ι a w) (hn:fW w0 U a o K next):o.wp P a w next Q:=by
 have r1:=aC hx hs
 have r2:=aC hz hs
 simp only[bD]at h
 split at h
 ·rename_i s k i e1 e2
  rw[e1]at r1
  rw[e2]at r2
  have e1':=(bp r1).1
  have e2':=(bp r2).1
  obtain⟨h0,b,hb,h⟩:=h
  have hd:P.underlying t=some .string:=by
   unfold U0 at ht
   split at ht
   ·assumption
   ·cases ht
  refine aK (u:= .int .u8 b.toNat) (w':=w) ?_ (hn _ σ ι _ w h hs (ia _ _))
  simp[execOp,ho,e1',e2',Instr.index,asIntOf,run_underlying hd,h0,hb]
 ·exact h.elim
theorem aan {x:Operand} {y:AX} {i:Nat} (ho:o.op= .extract x i) (hx:aO x=some y) (h:bD P (.ext y i) σ K) (hs:bP w0 U σ ι a w) (hn:fW w0 U a o K next):o.wp P a w next Q:=by
 have r1:=aC hx hs
 generalize hu:a.eval x=u at r1
 simp only[bD]at h
 split at h
 ·rename_i vs e
  rw[e]at r1
  obtain⟨v,hv,h⟩:=h
  ·cases r1 with
   |tup hl hr=>
    rename_i us
    have hi:i<us.size:=by rw[←hl];exact(List.getElem?_eq_some_iff.1 hv).1
    have:=hr i v hv
    rw[List.getElem?_eq_getElem (by simpa using hi)]at this
    refine aK (u:=us[i]) (w':=w) ?_ (hn _ σ ι _ w h hs (by simpa using this))
    simp[execOp,ho,hu,Instr.extract,hi]
 ·exact h.elim
theorem F8 {v:AV} {u:Value} {rows:List (List PC)} (hs:bP w0 U σ ι a w) (h:aU w (aI w0.heap.size U ι σ.mem) ι σ.nx v u) (hr:fe σ.mem v=some rows): ∃ad c,u= .slice ad rows.length c∧rows.length≤c∧rows.length≤9223372036854775807:=by
 unfold fe at hr
 split at hr
 ·cases hr
  cases h with|c h=>cases h with|pure h=>cases h with|slice g hl hc hm=>subst hl;exact⟨_,_,rfl,hc,hm⟩
 ·cases hr
  cases h with|c h=>cases h with|tsl h=>cases h with|slice g hl hc hm=>subst hl;exact⟨_,_,rfl,hc,hm⟩
 ·cases hr
  cases h with|c h=>cases h with|nils=>exact⟨none,0,rfl,Nat.le_refl _,by simp⟩
 ·split at hr
  ·rename_i nm e sz' rows' hf
   cases hr
   cases h with
   |c h=>cases h with
    |ref hnm hex=>
     obtain⟨cells,g0,g1,g2,g3⟩:=hs.box _ _ hf
     rcases g1.2 with⟨e',hz'⟩|⟨g,cap,cur,e',hB,hg,hnc,hcm,hcs',htake⟩
     ·exact⟨none,0,by rw[e',hz'],by omega,g2⟩
     ·exact⟨_,cap,e',hnc,g2⟩
  ·cases hr
 ·cases hr
theorem xx {t e:TypeId} {ad:Option Addr} {n c:Nat} (ht:P.underlying t=some (.slice e)) (ty:TypeId):(Builtin.len_ #[t] ty #[.slice ad n c]).run P w= .ok (.int .i64 n) w:=by
 simp[Builtin.len_,run_underlying ht,goInt]
theorem aap {t e:TypeId} {x:Operand} {y:AX} {c:Call} (hc:c.callee= .builtin .len) (hargs:c.args.toList= [x]) (htys:c.argTypes.toList= [t]) (ho:o.op= .call c) (ht:P.underlying t=some (.slice e)) (hx:aO x=some y) (h:bD P (.len y) σ K) (hs:bP w0 U σ ι a w) (hn:fW w0 U a o K next):o.wp P a w next Q:=by
 have r1:=aC hx hs
 have ha:c.args= #[x]:=by rw[←Array.toArray_toList (xs:=c.args),hargs]
 have hty:c.argTypes= #[t]:=by rw[←Array.toArray_toList (xs:=c.argTypes),htys]
 have key: ∀{rows:List (List PC)},fe σ.mem (AX.ev σ.fr y)=some rows→K (.c (.pure (.val (.int .i64 rows.length)))) σ→o.wp P a w next Q:=by
  intro rows hr h
  obtain⟨ad,cc,e1,_,_⟩:=F8 hs r1 hr
  refine aK (u:= .int .i64 rows.length) (w':=w) ?_ (hn _ σ ι _ w h hs (ia _ _))
  simp[execOp,ho,resolve,hc,invoke,builtin,ha,hty,e1,xx ht]
 simp only[bD]at h
 split at h
 ·rename_i rows e
  exact key (by rw[e];rfl) h
 ·rename_i rows e
  exact key (by rw[e];rfl) h
 ·rename_i e
  exact key (rows:= []) (by rw[e];rfl) h
 ·rename_i nm e
  split at h
  ·rename_i e' sz rows hf
   exact key (by rw[e];simp[fe,hf]) h
  ·rename_i e' sz rows hf
   rw[e]at r1
   generalize hu:a.eval x=u at r1
   cases r1 with
   |c r1=>cases r1 with
    |ref hnm hex=>
     obtain⟨cells,g0,g1,g2,g3⟩:=hs.box _ _ hf
     have hv: ∃ad cc,ι nm= .slice ad rows.length cc:=by
      rcases g1.2 with⟨e',hz'⟩|⟨g,cap,cur,e',_⟩
      ·exact⟨none,0,by rw[e',hz']⟩
      ·exact⟨_,cap,e'⟩
     obtain⟨ad,cc,e1⟩:=hv
     rw[e1]at hu
     refine aK (u:= .int .i64 rows.length) (w':=w) ?_ (hn _ σ ι _ w h hs (ia _ _))
     simp[execOp,ho,resolve,hc,invoke,builtin,ha,hty,hu,xx ht]
  ·exact h.elim
 ·exact h.elim
theorem Yu {t:TypeId} {x:Operand} {y:AX} {c:Call} (hc:c.callee= .builtin .len) (hargs:c.args.toList= [x]) (htys:c.argTypes.toList= [t]) (ho:o.op= .call c) (ht:P.underlying t=some .string) (hx:aO x=some y) (h:bD P (.lenS y) σ K) (hs:bP w0 U σ ι a w) (hn:fW w0 U a o K next):o.wp P a w next Q:=by
 have r1:=aC hx hs
 have ha:c.args= #[x]:=by rw[←Array.toArray_toList (xs:=c.args),hargs]
 have hty:c.argTypes= #[t]:=by rw[←Array.toArray_toList (xs:=c.argTypes),htys]
 simp only[bD]at h
 split at h
 ·rename_i s e
  rw[e]at r1
  have e1:=(bp r1).1
  refine aK (u:= .int .i64 s.size) (w':=w) ?_ (hn _ σ ι _ w h hs (ia _ _))
  simp[execOp,ho,resolve,hc,invoke,builtin,ha,hty,e1,Builtin.len_,run_underlying ht,goInt]
 ·exact h.elim
theorem Zq {mx:Bool} {x y:Operand} {p q:AX} {c:Call} (hc:(c.callee= .builtin .min∧mx=false)∨(c.callee= .builtin .max∧mx=true)) (hargs:c.args.toList= [x,y]) (ho:o.op= .call c) (hx:aO x=some p) (hy:aO y=some q) (h:bD P (.mm mx p q) σ K) (hs:bP w0 U σ ι a w) (hn:fW w0 U a o K next):o.wp P a w next Q:=by
 have r1:=aC hx hs
 have r2:=aC hy hs
 have ha:c.args= #[x,y]:=by rw[←Array.toArray_toList (xs:=c.args),hargs]
 simp only[bD]at h
 split at h
 ·rename_i k m k' n e e'
  rw[e]at r1
  rw[e']at r2
  have e1:=(bp r1).1
  have e2:=(bp r2).1
  refine aK (w':=w) ?_ (hn _ σ ι _ w h hs (ia _ _))
  rcases hc with⟨hc,rfl⟩|⟨hc,rfl⟩
  ·have:(if n<m then n else m)=min m n:=by split<;>omega
   simp[execOp,ho,resolve,hc,invoke,builtin,ha,e1,e2,Builtin.min_,Builtin.min2,this]
  ·have:(if m<n then n else m)=max m n:=by split<;>omega
   simp[execOp,ho,resolve,hc,invoke,builtin,ha,e1,e2,Builtin.max_,Builtin.max2,this]
 ·exact h.elim
theorem aaD {x y z t:Operand} {p q r s:AX} {c:Call} (hc:c.callee= .builtin .max) (hargs:c.args.toList= [x,y,z,t]) (ho:o.op= .call c) (hx:aO x=some p) (hy:aO y=some q) (hz:aO z=some r) (ht:aO t=some s) (h:bD P (.mm4 p q r s) σ K) (hs:bP w0 U σ ι a w) (hn:fW w0 U a o K next):o.wp P a w next Q:=by
 have r1:=aC hx hs
 have r2:=aC hy hs
 have r3:=aC hz hs
 have r4:=aC ht hs
 have ha:c.args= #[x,y,z,t]:=by rw[←Array.toArray_toList (xs:=c.args),hargs]
 simp only[bD]at h
 split at h
 ·rename_i k m k2 n k3 n3 k4 n4 e e' e3 e4
  rw[e]at r1
  rw[e']at r2
  rw[e3]at r3
  rw[e4]at r4
  have e1:=(bp r1).1
  have e2:=(bp r2).1
  have e5:=(bp r3).1
  have e6:=(bp r4).1
  refine aK (w':=w) ?_ (hn _ σ ι _ w h hs (ia _ _))
  have mx: ∀a b:Int,(if a<b then b else a)=max a b:=fun a b=>by split<;>omega
  simp[execOp,ho,resolve,hc,invoke,builtin,ha,e1,e2,e5,e6,Builtin.max_,Builtin.max2,mx]
 ·exact h.elim
end
open Go.RowKit
theorem KD: ∀(vs:List Value) (off j:Nat) (cs:Array Value),off+j+vs.length≤cs.size→((vs.zipIdx j).foldl (fun cs (x:Value×Nat)=>cs.setIfInBounds (off+x.2) x.1) cs).toList=over cs.toList (off+j) vs
 | [],off,j,cs,_=>by simp[over]
 |v::vs,off,j,cs,h=>by
  simp only[List.length_cons]at h
  rw[List.zipIdx_cons,List.foldl_cons,KD vs off (j+1) _ (by simp;omega)]
  unfold over
  have hk:off+j<cs.toList.length:=by simp;omega
  rw[Array.toList_setIfInBounds,List.take_set,List.drop_set,List.length_cons]
  have e1:(cs.toList.take (off+(j+1))).set (off+j) v=cs.toList.take (off+j)++ [v]:=by
   rw[←Nat.add_assoc,List.take_succ_eq_append_getElem hk,List.set_append_right _ _ (by simp;omega)]
   have:(off+j)-(cs.toList.take (off+j)).length=0:=by simp;omega
   rw[this]
   rfl
  rw[e1,if_pos (by omega),show off+(j+1)+vs.length=off+j+(vs.length+1)from by omega]
  simp
theorem Cu {place:Nat→Option (Nat×Nat)} {cells:Array Value} {i off size:Nat} {v:Value} {rest:List (Nat×Value)} (hp:place i=some (off,size)) (hv:v.cells.size=size) (hle:off+size≤cells.size):
  Instr.fill place cells ((i,v)::rest)=Instr.fill place (over cells.toList off v.cells.toList).toArray rest:=by
 simp only[Instr.fill,hp]
 rw[if_neg (by simp;omega)]
 congr 1
 have:=KD v.cells.toList off 0 cells (by simp;omega)
 rw[←Array.foldl_toList,Array.toList_zipIdx]
 simp only[Nat.add_zero]at this
 rw[←this,Array.toArray_toList]
section
variable {P : Program} {o : Oper} {a : Act} {w w0 : World} {U : Gh} {ι : Pl} {σ : St} {next : Act → World → Prop} {Q : Exit → Act → World → Prop} {K : AV → St → Prop}
theorem DV {α:Type} {xs ys:List α} {off:Nat} (h:off+ys.length≤xs.length):(over xs off ys).length=xs.length:=lu xs off ys h
theorem GN (hs:bP w0 U σ ι a w) {places:List (Nat×Nat)}: ∀{parts:List (Nat×Operand)} {ps:List (Nat×Nat×AX)} {acc:List AC} {cells:Array Value} {R:List AC→Prop},Ai places parts=some ps→bD.buildW σ ps acc R→
  aP (bZ w (aI w0.heap.size U ι σ.mem) ι σ.nx) acc cells.toList→ ∃cells' xs,Instr.fill (fun i=>places[i]?) cells (parts.map fun(i,x)=>(i,a.eval x))=some cells'∧aP (bZ w (aI w0.heap.size U ι σ.mem) ι σ.nx) xs cells'.toList∧R xs
 |[],ps,acc,cells,R,hp,h,hc=>by
  cases hp
  exact⟨cells,acc,rfl,hc,h⟩
 |(i,x)::parts,ps,acc,cells,R,hp,h,hc=>by
  unfold Ai at hp
  split at hp
  ·rename_i off n y ys h1 h2 h3
   cases hp
   simp only[bD.buildW]at h
   split at h
   ·rename_i zs e
    obtain⟨⟨hl,hle⟩,h⟩:=h
    have hz:=(aC h2 hs).cells e
    have hzl:=hz.length
    have hcl:=hc.length
    have e0:=Array.length_toList (xs:=(a.eval x).cells)
    have e00:=Array.length_toList (xs:=cells)
    obtain⟨cells',xs,hf,hr,hR⟩:=GN hs (cells:=(over cells.toList off (a.eval x).cells.toList).toArray) h3 h (hc.over hz off)
    refine⟨cells',xs, ?_,hr,hR⟩
    rw[List.map_cons,Cu h1 (by omega) (by omega)]
    exact hf
   ·exact h.elim
  ·cases hp
theorem UN {t:TypeId} {parts:Array (Nat×Operand)} {z:List AC} {ps:List (Nat×Nat×AX)} (ho:o.op= .build t parts) (hz:(eH P t).bind (fun z=>cellsOf z.cells.toList)=some z) (hp:(F1 P t).bind (Ai · parts.toList)=some ps)
  (h:bD P (.build z ps) σ K) (hs:bP w0 U σ ι a w) (hn:fW w0 U a o K next):o.wp P a w next Q:=by
 simp only[bD]at h
 unfold eH F1 at*
 cases hi:P.info? t with
 |none=>simp[hi]at hz
 |some it=>
  cases hz0:it.zero with
  |none=>simp[hi,hz0]at hz
  |some z0=>
   simp[hi,hz0]at hz
   split at hp
   ·rename_i fs hd
    cases hpl:fs.toList.mapM (fun f=>(P.info? f.type).map fun i=>(f.offset,i.size))with
    |none=>simp[hpl]at hp
    |some places=>
     simp only[hpl,Option.bind_some]at hp
     obtain⟨cells',xs,hf,hr,hR⟩:=GN hs hp h (cells:=z0.cells) (pu hz)
     refine aK (w':=w) ?_ (hn _ σ ι _ w hR hs (.agg hr))
     have hb:P.built t (parts.map fun(i,x)=>(i,a.eval x)).toList=some cells':=by
      unfold Program.built
      simp only[hi,hd,hz0,hpl]
      rw[Array.toList_map]
      simpa using hf
     simp only[execOp,ho,Sem.run_bind]
     rw[run_build w t _ cells' hb]
     rfl
   ·simp at hp
theorem bf.append {V:Nat→Prop} {sz:Nat} {rows rows':List (List PC)} {cs cs':List Value} (h:bf w V sz rows cs) (h':bf w V sz rows' cs'):bf w V sz (rows++rows') (cs++cs'):=by
 obtain⟨h3,h4,h5⟩:=h
 obtain⟨g3,g4,g5⟩:=h'
 refine⟨by rw[List.length_append,List.length_append,h3,g3,Nat.add_mul],fun i row hi=> ?_,fun i row j p hi hj=> ?_⟩
 ·by_cases hlt:i<rows.length
  ·rw[List.getElem?_append_left hlt]at hi;exact h4 i row hi
  ·rw[List.getElem?_append_right (by omega)]at hi;exact g4 _ row hi
 ·by_cases hlt:i<rows.length
  ·rw[List.getElem?_append_left hlt]at hi
   obtain⟨v,hv,hp⟩:=h5 i row j p hi hj
   exact⟨v,by rw[List.getElem?_append_left ((List.getElem?_eq_some_iff.1 hv).1)];exact hv,hp⟩
  ·rw[List.getElem?_append_right (by omega)]at hi
   obtain⟨v,hv,hp⟩:=g5 _ row j p hi hj
   have hge:rows.length*sz≤i*sz:=Nat.mul_le_mul_right _ (by omega)
   refine⟨v, ?_,hp⟩
   rw[List.getElem?_append_right (by omega),←hv,h3,Nat.sub_mul]
   congr 1
   omega
theorem bf.nil {V:Nat→Prop} {sz:Nat}:bf w V sz [] []:=⟨by simp,by simp,by simp⟩
theorem bf.one {V:Nat→Prop} {sz:Nat} {r:List PC} {vs:List Value} (h:aP (cp w V) r vs) (hl:r.length=sz):bf w V sz [r] vs:=by
 refine⟨by rw[←h.length,hl];simp,fun i row hi=> ?_,fun i row j p hi hj=> ?_⟩
 ·cases i with
  |zero=>simp at hi;subst hi;exact hl
  |succ i=>simp at hi
 ·cases i with
  |zero=>
   simp at hi
   subst hi
   obtain⟨v,hv,hp⟩:=h.get hj
   exact⟨v,by simpa using hv,hp⟩
  |succ i=>simp at hi
theorem NR {b k:Nat} {cs:Array Value} {T:TypeId} {fz:Nat×Nat} (h:w.heap[b]? =some (.cells cs T fz)):w.cell? ⟨b,k,none⟩=cs.toList[k]? :=by
 rw[cell_of_row w b k cs T fz h]
 simp
theorem bf.slice {V:Nat→Prop} {sz b c:Nat} {rows:List (List PC)} {cells:List Value} (h:bf w V sz rows cells) (hb:V b) (hc:rows.length≤c) (hm:rows.length≤9223372036854775807)
  (hcell: ∀(k:Nat) v,cells[k]? =some v→w.cell? ⟨b,k,none⟩=some v):cp w V (.slice rows) (.slice (some ⟨b,0,none⟩) rows.length c):=by
 refine .slice (sz:=sz) (fun i j=>(cells[i*sz+j]?).getD undef) rfl hc hm h.2.1 (fun i row j p hi hj=> ?_) (fun i row j p hi hj=> ?_)
 ·obtain⟨v,hv,hp⟩:=h.2.2 i row j p hi hj
  exact⟨b,0,rfl,hb,by rw[Nat.zero_add,hv];exact hcell _ _ hv⟩
 ·obtain⟨v,hv,hp⟩:=h.2.2 i row j p hi hj
  rw[hv]
  exact hp
theorem Ae (hs:bP w0 U σ ι a w):aI w0.heap.size U ι σ.mem w.heap.size:=
 ⟨.inr hs.below.size,fun nm bx hf e=>by have:=((hs.box _ _ hf).block e).2;omega⟩
theorem DR (hs:bP w0 U σ ι a w) {sz n:Nat}: ∀{k:Nat} {parts:List (Nat×Operand)} {rs:List AX} {acc:List (List PC)} {cells:Array Value} {R:List (List PC)→Prop},ut k parts=some rs→bD.bsliceW σ sz rs acc R→acc.length=k→k+rs.length=n→cells.size=n*sz→
  bf w (aI w0.heap.size U ι σ.mem) sz acc (cells.toList.take (k*sz))→ ∃cells' rows,Instr.fill (fun i=>some (i*sz,sz)) cells (parts.map fun(i,x)=>(i,a.eval x))=some cells'∧bf w (aI w0.heap.size U ι σ.mem) sz rows cells'.toList∧rows.length=n∧R rows
 |k, [],rs,acc,cells,R,hp,h,hl,hkn,hcs,hc=>by
  cases hp
  simp at hkn
  subst hkn
  exact⟨cells,acc,rfl,by rw[List.take_of_length_le (by simp;omega)]at hc;exact hc,hl,h⟩
 |k,(i,x)::parts,rs,acc,cells,R,hp,h,hl,hkn,hcs,hc=>by
  unfold ut at hp
  split at hp
  ·rename_i hik
   subst hik
   split at hp
   ·rename_i y ys h2 h3
    cases hp
    simp only[bD.bsliceW]at h
    split at h
    ·rename_i zs e
     obtain⟨r,hr,hrl,h⟩:=h
     have hz:=(aC h2 hs).cells e
     have hpz:=OM hz hr
     have hzl:=hz.length
     have e0:=Array.length_toList (xs:=(a.eval x).cells)
     have e00:=Array.length_toList (xs:=cells)
     simp only[List.length_cons]at hkn
     have hle:i*sz+sz≤n*sz:=by
      have:(i+1)*sz≤n*sz:=Nat.mul_le_mul_right _ (by omega)
      rw[Nat.succ_mul]at this
      exact this
     have hol:(over cells.toList (i*sz) (a.eval x).cells.toList).length=cells.toList.length:=DV (by simp;omega)
     obtain⟨cells',rows,hf,h4,h5,hR⟩:=DR hs (n:=n) (cells:=(over cells.toList (i*sz) (a.eval x).cells.toList).toArray) h3 h (by simp[hl]) (by omega) (by simp only[List.size_toArray,hol,Array.length_toList,hcs]) (by
      have e1:(over cells.toList (i*sz) (a.eval x).cells.toList).take ((i+1)*sz)=cells.toList.take (i*sz)++(a.eval x).cells.toList:=by
       unfold over
       rw[List.append_assoc,Nat.succ_mul]
       have e2:(cells.toList.take (i*sz)).length=i*sz:=by simp;omega
       rw[List.take_append,e2,List.take_of_length_le (by omega),Nat.add_sub_cancel_left,List.take_append,List.take_of_length_le (l:=(a.eval x).cells.toList) (by simp;omega)]
       have e3:sz-(a.eval x).cells.toList.length=0:=by simp;omega
       rw[e3]
       simp
      simp only[List.toList_toArray]at e1 ⊢
      rw[e1]
      exact hc.append (bf.one hpz (by have:=hpz.length;omega)))
     refine⟨cells',rows, ?_,h4,h5,hR⟩
     rw[List.map_cons,Cu rfl (by omega) (by omega)]
     exact hf
    ·exact h.elim
   ·cases hp
  ·cases hp
theorem Ud {t:TypeId} {n e sz bytes:Nat} {parts:Array (Nat×Operand)} {rs:List AX} {z:Value} (ho:o.op= .buildSlice t n parts) (ht:eS P t=some (e,sz,bytes)) (hr:ut 0 parts.toList=some rs) (hl:rs.length=n) (hm:n*sz≤16777216) (h0:0<sz) (hz:eH P e=some z) (hzs:z.cells.size=sz)
  (h:bD P (.bslice sz rs) σ K) (hs:bP w0 U σ ι a w) (hn:fW w0 U a o K next):o.wp P a w next Q:=by
 simp only[bD]at h
 unfold eS eH at*
 split at ht
 ·rename_i e' hd
  cases hi:P.info? e' with
  |none=>simp[hi]at ht
  |some inf=>
   simp[hi]at ht
   obtain⟨rfl,rfl,_⟩:=ht
   simp[hi]at hz
   let base:Array Value:=(Array.range (n*inf.size)).map (fun k=>(if n*inf.size=0 then #[]else z.cells)[k%(if n*inf.size=0 then #[]else z.cells).size]!)
   have hbase:base.size=n*inf.size:=by simp[base]
   obtain⟨cells',rows,hf,h4,h5,hR⟩:=DR hs (n:=n) (cells:=base) hr h rfl (by omega) hbase (by simp;exact bf.nil)
   have hg:Below w.heap.size w (w.alloc (.cells cells' e')):=(Below.refl _ _).alloc (Nat.le_refl _) _
   have hrep:cp (w.alloc (.cells cells' e')) (aI w0.heap.size U ι σ.mem) (.slice rows) (.slice (some ⟨w.heap.size,0,none⟩) rows.length rows.length):=by
    refine(h4.mono (fun _ _ h=>h) (fun b hb _=>hg.block b hb)).slice (Ae hs) (Nat.le_refl _) (by have:n*1≤n*inf.size:=Nat.mul_le_mul_left _ h0;omega) fun k v hk=> ?_
    rw[NR (heap_alloc_new _ _)]
    exact hk
   rw[h5]at hrep
   refine aK (w':=w.alloc (.cells cells' e')) ?_ (hn _ σ ι _ _ hR (hs.grow hg) (.c (.tsl hrep)))
   have hf':Instr.fill (fun i=>some (i*inf.size,inf.size)) base (parts.map fun(i,x)=>(i,a.eval x)).toList=some cells':=by
    rw[Array.toList_map];exact hf
   by_cases hn0:n*inf.size=0
   ·simp only[base,hn0,if_true]at hf'
    have e1: ¬(16777216<n*inf.size):=by omega
    simp[execOp,ho,Instr.buildSlice,run_underlying hd,sizeOf,typeInfo,hi,hn0,newRow]
    simp[Array.range_zero']at hf'
    simp[hf',Array.range_zero']
    try rfl
   ·simp only[base,hn0,if_false]at hf'
    have e1: ¬(16777216<n*inf.size):=by omega
    simp[execOp,ho,Instr.buildSlice,run_underlying hd,sizeOf,typeInfo,hi,hn0,newRow,zeroValue,hz,e1]
    simp at hf'
    simp[hf']
    try rfl
 ·cases ht
end
open Go.RowKit
section
variable {P : Program} {o : Oper} {a : Act} {w w0 : World} {U : Gh} {ι : Pl} {σ : St} {next : Act → World → Prop} {Q : Exit → Act → World → Prop} {K : AV → St → Prop}
theorem Jm {z:Array Value} {m k:Nat} (h:k<m):(madeCells z m).toList[k]? =some (z[k%z.size]!):=by
 unfold madeCells
 simp[h]
theorem Yj {i j sz:Nat} (h:j<sz):(i*sz+j)%sz=j:=by
 rw[Nat.add_comm,Nat.add_mul_mod_self_right,Nat.mod_eq_of_lt h]
theorem Wy {i n j sz:Nat} (hi:i<n) (hj:j<sz):i*sz+j<n*sz:=by
 have:(i+1)*sz≤n*sz:=Nat.mul_le_mul_right _ hi
 rw[Nat.succ_mul]at this
 omega
theorem bf.made {V:Nat→Prop} {sz n:Nat} {zs:List PC} {z:Array Value} (hz:aP (cp w V) zs z.toList) (hs:z.size=sz):bf w V sz (List.replicate n zs) (madeCells z (n*sz)).toList:=by
 have hl:zs.length=sz:=by rw[hz.length,Array.length_toList,hs]
 refine⟨by simp[madeCells],fun i row hi=> ?_,fun i row j p hi hj=> ?_⟩
 ·have:=List.mem_of_getElem? hi
  rw[List.mem_replicate]at this
  rw[this.2,hl]
 ·have hil:i<n:=by have:=(List.getElem?_eq_some_iff.1 hi).1;simpa using this
  have:=List.mem_of_getElem? hi
  rw[List.mem_replicate]at this
  obtain⟨_,rfl⟩:=this
  obtain⟨v,hv,hp⟩:=hz.get hj
  have hjl:j<sz:=by rw[←hl];exact(List.getElem?_eq_some_iff.1 hj).1
  refine⟨v, ?_,hp⟩
  rw[Jm (Wy hil hjl),hs,Yj hjl,←hv]
  simp[hs,hjl]
theorem Qc {t e:TypeId} {sz bytes l:Nat} {z:Value} {zs:List PC} (ho:o.op= .makeSlice t (.tmp l) (.tmp l)) (ht:eS P t=some (e,sz,bytes)) (h0:0<sz) (hz:eH P e=some z) (hzs:z.cells.size=sz) (hpz:qW z.cells.toList=some zs)
  (h:bD P (.mkslice e sz bytes zs (.t l)) σ K) (hs:bP w0 U σ ι a w) (hn:fW w0 U a o K next):o.wp P a w next Q:=by
 have r1:=aC (x:= .tmp l) rfl hs
 simp only[bD]at h
 unfold eS eH at*
 split at ht
 ·rename_i e' hd
  cases hi:P.info? e' with
  |none=>simp[hi]at ht
  |some inf=>
   simp[hi]at ht
   obtain⟨rfl,rfl,rfl⟩:=ht
   simp[hi]at hz
   split at h
   ·rename_i n en
    rw[en]at r1
    have e1:=(bp r1).1
    obtain⟨⟨hn0,hm,hb⟩,h⟩:=h
    have hrun:=run_make (P:=P) w t e' inf z hd hi hz .i64 .i64 n n hn0 (Int.le_refl _) hb (by omega)
    have hg:Below w.heap.size w (w.alloc (.cells (madeCells z.cells (n.toNat*inf.size)) e')):=(Below.refl _ _).alloc (Nat.le_refl _) _
    obtain⟨ι',h1,h2,h3,h4⟩:=hs.newBox (pv:= .slice (some ⟨w.heap.size,0,none⟩) n.toNat n.toNat) (bx:= .arr e' inf.size (List.replicate n.toNat zs)) hg (fun b hb=>by simp[bF]at hb;omega) (fun ι' e1 e2 hfree=>by
     refine⟨(madeCells z.cells (n.toNat*inf.size)).toList,h0, ?_,by simp;omega,bf.made (Bc hpz) hzs⟩
     rw[e2,List.length_replicate]
     refine⟨by simp[madeCells],.inr ⟨w.heap.size,n.toNat,madeCells z.cells (n.toNat*inf.size),rfl,hs.below.size,heap_alloc_new _ _,Nat.le_refl _,by unfold maxLen;omega,by simp[madeCells], ?_⟩⟩
     exact List.take_of_length_le (by simp[madeCells]))
    refine aK (u:=ι' σ.nx) (w':=w.alloc (.cells (madeCells z.cells (n.toNat*inf.size)) e')) ?_ (hn _ _ ι' _ _ h h1 (.c (.ref (Nat.lt_succ_self _) ⟨_,_,_,h2⟩)))
    rw[h2]
    simp only[execOp,ho,e1,Sem.run_bind,hrun]
    rfl
   ·exact h.elim
 ·cases ht
theorem cp.part {V:Nat→Prop} {sz n c l h m:Nat} {rows:List (List PC)} {ad:Option Addr} (hp:cp w V (.slice rows) (.slice ad n c)) (hsz:bl sz rows) (hlh:l≤h) (hhn:h≤rows.length) (hhm:h≤m):
  cp w V (.slice ((rows.take h).drop l)) (.slice (if m=l then ad else ad.map (·.add (l*sz))) (h-l) (m-l)):=by
 cases hp with
 | @slice sz' _ _ _ _ g hn hc hm hr hcell hp=>
  have hss: ∀(i:Nat) row,rows[i]? =some row→sz'=sz:=fun i row hi=>by rw[←hr i row hi];exact hsz row (List.mem_of_getElem? hi)
  have hget: ∀i row,((rows.take h).drop l)[i]? =some row→rows[l+i]? =some row:=by
   intro i row hi
   rw[List.getElem?_drop]at hi
   have:=(List.getElem?_eq_some_iff.1 hi).1
   rw[List.getElem?_take_of_lt (by simp at this;omega)]at hi
   exact hi
  refine .slice (fun i j=>g (l+i) j) (by simp;omega) (by omega) (by omega) (fun i row hi=>hr _ row (hget i row hi)) (fun i row j p hi hj=> ?_) (fun i row j p hi hj=>hp _ row j p (hget i row hi) hj)
  have hil:i<h-l:=by have:=(List.getElem?_eq_some_iff.1 hi).1;simp at this;omega
  obtain⟨b,off,rfl,hb,hcl⟩:=hcell _ row j p (hget i row hi) hj
  rw[if_neg (by omega)]
  have:=hss _ row (hget i row hi)
  subst this
  refine⟨b,off+l*sz',by simp[im],hb, ?_⟩
  rw[←hcl,Nat.add_mul]
  congr 2
  omega
theorem qG {x:Option Operand} {y:Option AX} {r:Option Int} (h:nK x=some y) (hs:bP w0 U σ ι a w) (hb:bD.boundOf σ y=some r):(x.map a.eval=none∧r=none)∨ ∃k i,(x.map a.eval)=some (.int k i)∧r=some i:=by
 cases x with
 |none=>
  cases h
  left
  simp[bD.boundOf]at hb
  exact⟨rfl,hb.symm⟩
 |some x=>
  simp[nK]at h
  obtain⟨z,hz,rfl⟩:=h
  have r1:=aC hz hs
  simp only[bD.boundOf]at hb
  split at hb
  ·rename_i k i e
   cases hb
   rw[e]at r1
   exact .inr ⟨k,i,by simp[(bp r1).1],rfl⟩
  ·cases hb
theorem ik {k:IntKind} {i:Int} {y:Nat} {code:BoundsCode} (h0:0≤i) (h1:i≤y):(Instr.sliceBound (.int k i) y code).run P w= .ok i.toNat w:=by
 simp[Instr.sliceBound,asIntOf,h0,h1]
theorem Hu {b:Bool} {n c:Nat} {lo hi mx:Option Value} {l h m:Option Int} (hlo:(lo=none∧l=none)∨ ∃k i,lo=some (.int k i)∧l=some i) (hhi:(hi=none∧h=none)∨ ∃k i,hi=some (.int k i)∧h=some i)
  (hmx:(mx=none∧m=none)∨ ∃k i,mx=some (.int k i)∧m=some i) (g1:0≤l.getD 0) (g2:l.getD 0≤h.getD n) (g3:h.getD n≤m.getD n) (g4:m.getD n≤n) (hc:n≤c) (hm:m.isSome=true→h.isSome=true):
  (Instr.sliceBounds b n c lo hi mx).run P w= .ok ((l.getD 0).toNat,(h.getD n).toNat,(m.map Int.toNat).getD c) w:=by
 rcases hlo with⟨rfl,rfl⟩|⟨kl,l,rfl,rfl⟩<;>rcases hhi with⟨rfl,rfl⟩|⟨kh,h,rfl,rfl⟩<;>rcases hmx with⟨rfl,rfl⟩|⟨km,m,rfl,rfl⟩<;>simp only[Option.getD_none,Option.getD_some]at g1 g2 g3 g4
 all_goals first
  |(simp at hm;done)
  |skip
 ·simp[Instr.sliceBounds]
 ·unfold Instr.sliceBounds
  simp[ik (P:=P) (w:=w) (show 0≤h by omega) (show h≤(c:Int) by omega)]
 ·unfold Instr.sliceBounds
  have e1:=ik (P:=P) (w:=w) (k:=km) (code:=if b=true then .slice3Acap else .slice3Alen) (show 0≤m by omega) (show m≤(c:Int) by omega)
  have e2:=ik (P:=P) (w:=w) (k:=kh) (code:= .slice3B) (show 0≤h by omega) (show h≤(m.toNat:Int) by omega)
  simp[e1,e2]
 ·unfold Instr.sliceBounds
  have e1:=ik (P:=P) (w:=w) (k:=kl) (code:= .sliceB) (show 0≤l by omega) (show l≤(n:Int) by omega)
  simp[e1]
 ·unfold Instr.sliceBounds
  have e1:=ik (P:=P) (w:=w) (k:=kh) (code:=if b=true then .sliceAcap else .sliceAlen) (show 0≤h by omega) (show h≤(c:Int) by omega)
  have e2:=ik (P:=P) (w:=w) (k:=kl) (code:= .sliceB) (show 0≤l by omega) (show l≤(h.toNat:Int) by omega)
  simp[e1,e2]
 ·unfold Instr.sliceBounds
  have e1:=ik (P:=P) (w:=w) (k:=km) (code:=if b=true then .slice3Acap else .slice3Alen) (show 0≤m by omega) (show m≤(c:Int) by omega)
  have e2:=ik (P:=P) (w:=w) (k:=kh) (code:= .slice3B) (show 0≤h by omega) (show h≤(m.toNat:Int) by omega)
  have e3:=ik (P:=P) (w:=w) (k:=kl) (code:= .slice3C) (show 0≤l by omega) (show l≤(h.toNat:Int) by omega)
  simp[e1,e2,e3]
theorem Yv {t:TypeId} {x:Operand} {lo hi:Option Operand} {y:AX} {l h':Option AX} (ho:o.op= .slice t x lo hi none) (ht:P.underlying t=some .string) (hx:aO x=some y) (hl:nK lo=some l) (hh:nK hi=some h')
  (h:bD P (.slcS y l h') σ K) (hs:bP w0 U σ ι a w) (hn:fW w0 U a o K next):o.wp P a w next Q:=by
 have r1:=aC hx hs
 simp only[bD]at h
 split at h
 ·rename_i s lo' hi' e e1 e2
  rw[e]at r1
  have es:=(bp r1).1
  obtain⟨⟨g1,g2,g3⟩,h⟩:=h
  have b1:=qG hl hs e1
  have b2:=qG hh hs e2
  have hrun:=Hu (P:=P) (w:=w) (b:=false) (n:=s.size) (c:=s.size) (lo:=lo.map a.eval) (hi:=hi.map a.eval) (mx:=none) (m:=none) b1 b2 (.inl ⟨rfl,rfl⟩) g1 g2 g3 (by simp) (Nat.le_refl _) (by simp)
  refine aK (w':=w) ?_ (hn _ σ ι _ w h hs (pL rfl))
  simp[execOp,ho,es,Instr.sliceAt,Instr.slice,run_underlying ht,hrun]
 ·exact h.elim
theorem aaS {t e:TypeId} {sz bytes:Nat} {x:Operand} {lo hi mx:Option Operand} {y:AX} {l h' m:Option AX} (ho:o.op= .slice t x lo hi mx) (ht:eS P t=some (e,sz,bytes)) (hx:aO x=some y) (hl:nK lo=some l) (hh:nK hi=some h') (hm:nK mx=some m) (hhm:mx.isSome=true→hi.isSome=true)
  (h:bD P (.slc sz y l h' m) σ K) (hs:bP w0 U σ ι a w) (hn:fW w0 U a o K next):o.wp P a w next Q:=by
 have r1:=aC hx hs
 simp only[bD]at h
 split at h
 ·exact h.elim
 ·rename_i nref
  obtain⟨rows,e0,lo',e1,hi',e2,mx',e3,⟨hok,g1,g2,g3,g4⟩,h⟩:=h
  have b1:=qG hl hs e1
  have b2:=qG hh hs e2
  have b3:=qG hm hs e3
  obtain⟨ad,c,eu,hc,hmax⟩:=F8 hs r1 e0
  have hrep:cp w (aI w0.heap.size U ι σ.mem) (.slice rows) (.slice ad rows.length c):=by
   unfold fe at e0
   generalize AX.ev σ.fr y=v at*
   split at e0
   ·cases e0
    cases r1 with|c r1=>cases r1 with|pure r1=>rw[eu]at r1;exact r1
   ·cases e0
    cases r1 with|c r1=>
     rw[eu]at r1
     cases r1 with|tsl r1=>exact r1
   ·cases e0
    cases r1 with|c r1=>
     rw[eu]at r1
     cases r1
     exact .nil
   ·exact absurd rfl (nref _)
   ·cases e0
  unfold eS at ht
  split at ht
  ·rename_i e' hd
   cases hinf:P.info? e' with
   |none=>simp[hinf]at ht
   |some inf=>
    simp[hinf]at ht
    obtain⟨rfl,rfl,_⟩:=ht
    have hsome:mx'.isSome=true→hi'.isSome=true:=by
     intro h1
     have h2:mx.isSome=true:=by
      rcases b3 with⟨_,h3⟩|⟨k,i,h3,_⟩
      ·rw[h3]at h1;cases h1
      ·cases mx with
       |none=>cases h3
       |some _=>rfl
     have h4:=hhm h2
     rcases b2 with⟨h5,_⟩|⟨k,i,_,h5⟩
     ·cases hi with
      |none=>cases h4
      |some _=>cases h5
     ·rw[h5];rfl
    have hrun:=Hu (P:=P) (w:=w) (b:=true) (n:=rows.length) (c:=c) b1 b2 b3 g1 g2 g3 g4 hc hsome
    have hpart:=hrep.part hok (l:=(lo'.getD 0).toNat) (h:=(hi'.getD rows.length).toNat) (m:=(mx'.map Int.toNat).getD c) (by omega) (by omega) (by cases mx' with|none=>simp at g3 ⊢;omega|some m=>simp at g3 ⊢;omega)
    refine aK (u:= .slice (if((mx'.map Int.toNat).getD c)=(lo'.getD 0).toNat then ad else ad.map (·.add ((lo'.getD 0).toNat*inf.size))) ((hi'.getD rows.length).toNat-(lo'.getD 0).toNat) (((mx'.map Int.toNat).getD c)-(lo'.getD 0).toNat)) (w':=w) ?_ (hn _ σ ι _ w h hs ?_)
    ·simp only[execOp,ho,Sem.run_bind,Instr.sliceAt,Instr.slice,run_underlying hd,Result.andThen_ok,eu,hrun,sizeOf,typeInfo,run_program,hinf,Sem.run_pure]
    ·split
     ·rename_i hms
      obtain⟨hm1,hm2⟩:=hms
      cases mx' with
      |none=>cases hm1
      |some m=>
       subst hm2
       exact .c (.tsl hpart)
     ·exact .c (.pure hpart)
  ·cases ht
end
open Go.RowKit
section
variable {P : Program} {o : Oper} {a : Act} {w w' w0 : World} {U : Gh} {ι : Pl} {σ : St} {next : Act → World → Prop} {Q : Exit → Act → World → Prop} {K : AV → St → Prop}
theorem iS {nm t:Nat}: ∀{m:List (Nat×bc)},am (mz m nm) t=if t=nm then none else am m t
 | []=>by simp[mz,am]
 |(s,b)::m=>by
  simp only[mz]
  by_cases e:s=nm
  ·rw[if_pos e,iS,bS]
   by_cases e2:t=nm
   ·rw[if_pos e2,if_pos e2]
   ·rw[if_neg e2,if_neg e2,if_neg (by omega)]
  ·rw[if_neg e,bS,bS,iS]
   by_cases e2:t=nm
   ·rw[if_pos e2,if_pos e2,if_neg (by omega)]
   ·rw[if_neg e2,if_neg e2]
theorem bP.replace (hs:bP w0 U σ ι a w) {nm e sz:Nat} {rows rows':List (List PC)} {pv:Value} {cells:List Value} (hf:am σ.mem nm=some (.arr e sz rows)) (hg:w.grownBy w' (bF (ι nm)))
  (hpv: ∀b,bF pv=some b→bF (ι nm)=some b∨w.heap.size≤b) (hsl: ∃a n c,pv= .slice a n c) (h0:0<sz) (how:w'.ownsRow w0.heap.size e sz pv rows'.length cells) (hm:rows'.length≤9223372036854775807)
  (hrows:bf w (aI w0.heap.size U ι σ.mem) sz rows' cells) (hbelow:Below w0.heap.size w0 w'):
  ∃ι',ι' σ.nx=pv∧σ.nx<σ.nx+1∧bP w0 U {σ with mem:=(σ.nx,.arr e sz rows')::mz σ.mem nm,nx:=σ.nx+1} ι' a w':=by
 let ι':Pl:=fun n=>if n=σ.nx then pv else ι n
 have e1:ι' σ.nx=pv:=if_pos rfl
 have e2: ∀m,m<σ.nx→ι' m=ι m:=fun m hm=>if_neg (by omega)
 let mem':=(σ.nx,bc.arr e sz rows')::mz σ.mem nm
 have hdom: ∀n bx,am mem' n=some bx→(n=σ.nx∧bx= .arr e sz rows')∨(n≠nm∧n<σ.nx∧am σ.mem n=some bx):=by
  intro n bx h
  simp only[mem',bS,iS]at h
  by_cases en:σ.nx=n
  ·rw[if_pos en]at h
   cases h
   exact .inl ⟨en.symm,rfl⟩
  ·rw[if_neg en]at h
   by_cases en':n=nm
   ·rw[if_pos en']at h;cases h
   ·rw[if_neg en']at h
    exact .inr ⟨en',hs.names _ _ h,h⟩
 have hfree: ∀b,b<w.heap.size→aI w0.heap.size U ι σ.mem b→aI w0.heap.size U ι' mem' b:=by
  intro b hb h
  refine⟨h.1,fun n bx hn=> ?_⟩
  rcases hdom n bx hn with⟨rfl,_⟩|⟨h1,h2,h3⟩
  ·rw[e1]
   intro hc
   rcases hpv b hc with h2|h2
   ·exact h.2 _ _ hf h2
   ·omega
  ·rw[e2 n h2]
   exact h.2 _ _ h3
 have hw: ∀b,b<w.heap.size→aI w0.heap.size U ι σ.mem b→w'.heap[b]? =w.heap[b]? :=fun b hb h=>hg.block b hb (fun e=>h.2 _ _ hf e.symm)
 refine⟨ι',e1,Nat.lt_succ_self _,⟨fun t=> ?_,hs.defers,fun n bx hn=> ?_,fun n bx hn=> ?_,fun n n' b1 b2 b h1 h2 h3 h4=> ?_,hbelow,U.mono _ _ _ _ hs.keep hfree hw,
  ⟨Nat.le_succ_of_le hs.base.1,fun m hm=>(e2 m (Nat.lt_of_lt_of_le hm hs.base.1)).trans (hs.base.2 m hm)⟩⟩⟩
 ·exact(hs.val t).mono hfree hw e2 (Nat.le_succ _)
 ·show n<σ.nx+1
  rcases hdom n bx hn with⟨rfl,_⟩|⟨h1,h2,h3⟩<;>omega
 ·rcases hdom n bx hn with⟨rfl,rfl⟩|⟨h1,h2,h3⟩
  ·exact⟨cells,h0,by rw[e1];exact how,hm,hrows.mono hfree hw⟩
  ·have hbn: ∀c,bF (ι n)=some c→bF (ι nm)≠some c:=fun c hc e'=>h1 (hs.apart _ _ _ _ c h3 hf hc e')
   have hbx:=hs.box _ _ h3
   cases bx with
   |var xs=>
    obtain⟨b',vs,T,g1,g2,g3,g4⟩:=hbx
    refine⟨b',vs,T,by rw[e2 n h2];exact g1,g2, ?_,g4.mono fun _ _ h=>h.mono hfree hw e2 (Nat.le_succ _)⟩
    rw[hg.block b' (Array.getElem?_eq_some_iff.1 g3).1 (fun e=>hbn b' (by rw[g1];rfl) e.symm)]
    exact g3
   |arr e' sz' rows0=>
    obtain⟨cells',k0,k1,k2,k3⟩:=hbx
    refine⟨cells',k0, ?_,k2,k3.mono hfree hw⟩
    rw[e2 n h2]
    refine World.ownsRow.kept k1 hg ?_
    rcases k1.2 with⟨h,_⟩|⟨g,cap,cur,h,_⟩
    ·rw[h];exact .inl rfl
    ·right
     rw[h]
     intro e'
     exact hbn g (by rw[h];rfl) e'.symm
   |arn e' sz' rows0=>
    obtain⟨cells',k0,k1,k2,k3⟩:=hbx
    refine⟨cells',k0, ?_,k2,k3.mono hfree hw e2 (Nat.le_succ _)⟩
    rw[e2 n h2]
    refine World.ownsRow.kept k1 hg ?_
    rcases k1.2 with⟨h,_⟩|⟨g,cap,cur,h,_⟩
    ·rw[h];exact .inl rfl
    ·right
     rw[h]
     intro e'
     exact hbn g (by rw[h];rfl) e'.symm
   |map kt m ents=>
    obtain⟨b',es,clock,k1,k2,k3,k4⟩:=hbx
    refine⟨b',es,clock,by rw[e2 n h2];exact k1,k2, ?_,k4.mono fun _ _ h=>h.mono hfree hw e2 (Nat.le_succ _)⟩
    rw[hg.block b' (Array.getElem?_eq_some_iff.1 k3).1 (fun e=>hbn b' (by rw[k1];rfl) e.symm)]
    exact k3
 ·rcases hdom n b1 h1 with⟨rfl,_⟩|⟨k1,k2,k3⟩
  ·rcases hdom n' b2 h2 with⟨rfl,_⟩|⟨k1',k2',k3'⟩
   ·rfl
   ·rw[e1]at h3
    rw[e2 _ k2']at h4
    rcases hpv b h3 with h5|h5
    ·exact absurd (hs.apart _ _ _ _ b k3' hf h4 h5) k1'
    ·have:=((hs.box _ _ k3').block h4).2
     omega
  ·rw[e2 _ k2]at h3
   rcases hdom n' b2 h2 with⟨rfl,_⟩|⟨k1',k2',k3'⟩
   ·rw[e1]at h4
    rcases hpv b h4 with h5|h5
    ·exact absurd (hs.apart _ _ _ _ b k3 hf h3 h5) k1
    ·have:=((hs.box _ _ k3).block h3).2
     omega
   ·rw[e2 _ k2']at h4
    exact hs.apart _ _ _ _ b k3 k3' h3 h4
end
open Go.RowKit
section
variable {P : Program} {o : Oper} {a : Act} {w w' w0 : World} {U : Gh} {ι : Pl} {σ : St} {next : Act → World → Prop} {Q : Exit → Act → World → Prop} {K : AV → St → Prop}
theorem bf.ones {V:Nat→Prop} {sz:Nat} {rows:List (List PC)} {cells:List Value} (h:bf w V sz rows cells) (h0:0<sz): ∀v∈cells,v.oneCell'=true:=by
 intro v hv
 obtain⟨k,hk,e⟩:=List.mem_iff_getElem.1 hv
 have hkr:k/sz<rows.length:=by
  rw[Nat.div_lt_iff_lt_mul h0,←h.1];exact hk
 have hrow:=List.getElem?_eq_getElem hkr
 have hl:=h.2.1 _ _ hrow
 have hj:k%sz<(rows[k/sz]).length:=by rw[hl];exact Nat.mod_lt _ h0
 obtain⟨u,hu,hp⟩:=h.2.2 _ _ _ _ hrow (List.getElem?_eq_getElem hj)
 rw[Nat.mul_comm,Nat.div_add_mod,List.getElem?_eq_getElem hk]at hu
 cases hu
 rw[←e]
 exact hp.one
theorem yR {V:Nat→Prop} {sz n c:Nat} {rows:List (List PC)} {ad:Option Addr} (h:cp w V (.slice rows) (.slice ad n c)) (hok:bl sz rows) (h0:0<sz) (hne:rows≠ []):
  ∃b off cells,ad=some ⟨b,off,none⟩∧n=rows.length∧(∀(j:Nat) x,cells[j]? =some x→w.cell? ⟨b,off+j,none⟩=some x)∧bf w V sz rows cells:=by
 cases h with
 | @slice sz' _ _ _ _ g hn hc hm hr hcell hp=>
  obtain rfl:sz=sz':=by
   symm
   have hrl:0<rows.length:=List.length_pos_iff.2 hne
   have hrow0:=List.getElem?_eq_getElem hrl
   rw[←hr _ _ hrow0]
   exact hok _ (List.mem_of_getElem? hrow0)
  have hrl:0<rows.length:=List.length_pos_iff.2 hne
  have hrow0:=List.getElem?_eq_getElem hrl
  have hl0:=hr _ _ hrow0
  obtain⟨b,off,rfl,_⟩:=hcell _ _ 0 _ hrow0 (List.getElem?_eq_getElem (by omega))
  refine⟨b,off,(List.range (rows.length*sz)).map fun k=>(w.cell? ⟨b,off+k,none⟩).getD undef,rfl,hn,fun j x hj=> ?_,by simp,hr,fun i row j p hi hj=> ?_⟩
  ·have hjl:j<rows.length*sz:=by have:=(List.getElem?_eq_some_iff.1 hj).1;simpa using this
   simp[List.getElem?_map,List.getElem?_range hjl]at hj
   have hkr:j/sz<rows.length:=by rw[Nat.div_lt_iff_lt_mul h0];exact hjl
   have hrow:=List.getElem?_eq_getElem hkr
   have hl:=hr _ _ hrow
   have hj':j%sz<(rows[j/sz]).length:=by rw[hl];exact Nat.mod_lt _ h0
   obtain⟨b',off',e',_,hc'⟩:=hcell _ _ _ _ hrow (List.getElem?_eq_getElem hj')
   cases e'
   rw[Nat.mul_comm,Nat.div_add_mod]at hc'
   rw[hc']at hj ⊢
   simpa using hj
  ·have hil:i<rows.length:=(List.getElem?_eq_some_iff.1 hi).1
   have hjl:j<sz:=by rw[←hr i row hi];exact(List.getElem?_eq_some_iff.1 hj).1
   obtain⟨b',off',e',_,hc'⟩:=hcell i row j p hi hj
   cases e'
   exact⟨g i j,by simp[List.getElem?_map,List.getElem?_range (Wy hil hjl),hc'],hp i row j p hi hj⟩
theorem S8 {B e sz:Nat} {v:Value} {n:Nat} {cells:List Value} (h:w.ownsRow B e sz v n cells) (hn:0<n): ∃b c,v= .slice (some ⟨b,0,none⟩) n c∧ ∀(j:Nat) x,cells[j]? =some x→w.cell? ⟨b,0+j,none⟩=some x:=by
 have h':=h
 rcases h.2 with⟨_,e⟩|⟨g,cap,cur,rfl,hb,hg,hnc,hcm,hcs,htake⟩
 ·omega
 ·refine⟨g,cap,rfl,fun j x hj=> ?_⟩
  have:=World.ownsRow.cells h' (g:=g) rfl j x hj
  rw[im]at this
  exact this
theorem Iv {v:AV} {u:Value} {sz:Nat} {rows:List (List PC)} (hs:bP w0 U σ ι a w) (h:aU w (aI w0.heap.size U ι σ.mem) ι σ.nx v u) (hr:fe σ.mem v=some rows) (hok:bl sz rows) (h0:0<sz) (hne:rows≠ []):
  ∃b off c cells,u= .slice (some ⟨b,off,none⟩) rows.length c∧(∀(j:Nat) x,cells[j]? =some x→w.cell? ⟨b,off+j,none⟩=some x)∧bf w (aI w0.heap.size U ι σ.mem) sz rows cells:=by
 unfold fe at hr
 split at hr
 ·cases hr
  cases h with|c h=>cases h with|pure h=>
   have h':=h
   cases h with
   |slice g hn hc hm _ _ _=>
    obtain⟨b,off,cells,rfl,rfl,h1,h2⟩:=yR h' hok h0 hne
    exact⟨b,off,_,cells,rfl,h1,h2⟩
 ·cases hr
  cases h with|c h=>cases h with|tsl h=>
   obtain⟨b,off,cells,rfl,rfl,h1,h2⟩:=yR h hok h0 hne
   exact⟨b,off,_,cells,rfl,h1,h2⟩
 ·cases hr
  exact absurd rfl hne
 ·split at hr
  ·rename_i nm e sz' rows' hf
   cases hr
   cases h with
   |c h=>cases h with
    |ref hnm hex=>
     obtain⟨cells,g0,g1,g2,g3⟩:=hs.box _ _ hf
     obtain⟨b,c,e1,h1⟩:=S8 g1 (List.length_pos_iff.2 hne)
     obtain rfl:sz=sz':=by
      symm
      have hrow0:=List.getElem?_eq_getElem (List.length_pos_iff.2 hne)
      rw[←g3.2.1 _ _ hrow0]
      exact hok _ (List.mem_of_getElem? hrow0)
     exact⟨b,0,c,cells,e1,h1,g3⟩
  ·cases hr
 ·cases hr
theorem iF {t e ty:TypeId} {inf:TypeInfo} {base ad:Option Addr} {n c c':Nat} (ht:P.underlying t=some (.slice e)) (hi:P.info? e=some inf) (hc:n≤c):
  (Builtin.append_ #[t,t] ty #[.slice base n c,.slice ad 0 c']).run P w= .ok (.slice base n c) w:=by
 cases ad<;>cases base<;>simp[Builtin.append_,run_underlying ht,sizeOf,typeInfo,hi,Builtin.lenOf,Builtin.firstCells,loadCells,loadCellsFrom,hc,storeCells]
theorem RB (z:Array Value) (n:Nat):(Builtin.zeroCells z n).size=n*z.size:=by simp[Builtin.zeroCells]
theorem tr {t e ty:TypeId} {inf:TypeInfo} {z:Value} {base:Option Addr} {n c m c' sz bytes:Nat} {ad:Addr} {xs news:List Value} {B:Nat} (ht:P.underlying t=some (.slice e)) (hi:P.info? e=some inf) (hz:inf.zero=some z)
  (hsz:inf.size=sz) (hby:inf.bytes=bytes) (hzs:z.cells.size=sz) (hxs:xs.length=n*sz) (hb:(base=none∧n=0∧c=0)∨ ∃bd,base=some bd∧ ∀(j:Nat) u,xs[j]? =some u→w.cell? (bd.add j)=some u)
  (hnews:news.length=m*sz) (hn: ∀(j:Nat) u,news[j]? =some u→w.cell? (ad.add j)=some u) (hfull:c<n+m) (hnc:n≤c) (hm:n+m≤9223372036854775807) (hbytes:(n+m)*bytes≤140737488355328) (hB:B≤w.heap.size):
  ∃cap w',(Builtin.append_ #[t,t] ty #[.slice base n c,.slice (some ad) m c']).run P w= .ok (.slice (some ⟨w.heap.size,0,none⟩) (n+m) cap) w'∧Below w.heap.size w w'∧
   w'.ownsRow B e sz (.slice (some ⟨w.heap.size,0,none⟩) (n+m) cap) (n+m) (xs++news):=by
 subst hsz
 subst hby
 have key: ∀old,(w.drew.alloc (.cells (xs.toArray++news.toArray++Builtin.zeroCells z.cells (grownCap w (n+m) old e-(n+m))) e)).ownsRow B e inf.size (.slice (some ⟨w.heap.size,0,none⟩) (n+m) (grownCap w (n+m) old e)) (n+m) (xs++news):=by
  intro old
  have hge:=grownCap_ge w (n+m) old e
  refine⟨by rw[List.length_append,hxs,hnews,Nat.add_mul],.inr ⟨w.heap.size,_,_,rfl,hB,heap_alloc_new w.drew _,hge,grownCap_le_maxLen w (n+m) old e (by unfold maxLen;omega), ?_, ?_⟩⟩
  ·simp only[Array.size_append,List.size_toArray,RB,hzs,hxs,hnews,←Nat.add_mul]
   congr 1
   omega
  ·have hl:(xs++news).length=(n+m)*inf.size:=by rw[List.length_append,hxs,hnews,Nat.add_mul]
   simp only[Array.toList_append]
   rw[←hl]
   exact List.take_left
 have hbel: ∀ob,Below w.heap.size w (w.drew.alloc ob):=fun ob=>(Below.refl _ _).drew.alloc (Nat.le_refl _) ob
 rcases hb with⟨rfl,rfl,rfl⟩|⟨bd,rfl,hbd⟩
 ·have hx0:xs= []:=List.eq_nil_of_length_eq_zero (by simpa using hxs)
  subst hx0
  have hr:=run_append_nil (P:=P) w t ty e inf z ht hi hz ad m c' news hnews hn (by omega) (by omega) (by have:=hbytes;simp only[Nat.zero_add]at this;omega)
  have hk:=key 0
  simp only[Nat.zero_add,List.nil_append,Array.empty_append]at hk ⊢
  exact⟨_,_,hr,hbel _,hk⟩
 ·have hr:=run_append_grow (P:=P) w t ty e inf z ht hi hz bd n c xs hxs hbd ad m c' news hnews hn (by omega) (by omega) (growslice_fits (by omega) hbytes)
  exact⟨_,_,hr,hbel _,key c⟩
theorem vE {V:Nat→Prop} {N nm:Nat} {u:Value} (h:aU w V ι N (.c (.ref nm)) u):u=ι nm:=by
 cases h with|c h=>cases h;rfl
theorem wK {V:Nat→Prop} {N:Nat} {u:Value} (h:aU w V ι N (.c .nils) u):u= .slice none 0 0:=by
 cases h with|c h=>cases h;rfl
theorem Xo {V:Nat→Prop} {N:Nat} {rows:List (List PC)} {u:Value} (h:aU w V ι N (.c (.tsl rows)) u): ∃ad,u= .slice ad rows.length rows.length∧cp w V (.slice rows) u:=by
 cases h with|c h=>cases h with|tsl h=>
  have h':=h
  cases h with|slice g hn=>subst hn;exact⟨_,rfl,h'⟩
theorem GT {V:Nat→Prop} {B e sz b n c:Nat} {rows:List (List PC)} {cells:List Value} (h:w.ownsRow B e sz (.slice (some ⟨b,0,none⟩) n c) n cells) (hn:n=rows.length) (hr:bf w V sz rows cells) (hb:V b) (hm:n≤9223372036854775807):cp w V (.slice rows) (.slice (some ⟨b,0,none⟩) n c):=by
 subst hn
 have h':=h
 rcases h.2 with⟨e,_⟩|⟨g,cap,cur,e,hBg,hg,hnc,_⟩
 ·cases e
 ·simp at e
  obtain⟨rfl,rfl⟩:=e
  refine hr.slice hb hnc hm fun k v hk=> ?_
  have:=World.ownsRow.cells h' (g:=b) rfl k v hk
  rw[im,Nat.zero_add]at this
  exact this
theorem aaX {t e sz bytes:Nat} {z:Value} {x y:Operand} {p q:AX} {c:Call} (hc:c.callee= .builtin .append) (hargs:c.args.toList= [x,y]) (htys:c.argTypes.toList= [t,t]) (ho:o.op= .call c) (ht:eS P t=some (e,sz,bytes)) (h0:0<sz)
  (hz:eH P e=some z) (hzs:z.cells.size=sz) (hx:aO x=some p) (hy:aO y=some q) (h:bD P (.app e sz bytes p q) σ K) (hs:bP w0 U σ ι a w) (hn:fW w0 U a o K next):o.wp P a w next Q:=by
 have r1:=aC hx hs
 have r2:=aC hy hs
 have ha:c.args= #[x,y]:=by rw[←Array.toArray_toList (xs:=c.args),hargs]
 have hty:c.argTypes= #[t,t]:=by rw[←Array.toArray_toList (xs:=c.argTypes),htys]
 have hrun: ∀{v':Value} {w':World},(Builtin.append_ #[t,t] o.type #[a.eval x,a.eval y]).run P w= .ok v' w'→(execOp a.eval o).run P w= .ok (.value v') w':=by
  intro v' w' hr
  simp[execOp,ho,resolve,hc,invoke,builtin,ha,hty,hr]
 unfold eS eH at*
 split at ht
 ·rename_i e' hd
  cases hi:P.info? e' with
  |none=>simp[hi]at ht
  |some inf=>
   simp[hi]at ht
   obtain⟨rfl,hsz,hby⟩:=ht
   simp[hi]at hz
   simp only[bD,Eb]at h
   obtain⟨ys,hys,hok,h⟩:=h
   obtain⟨ady,cy,ey,hcy,hmy⟩:=F8 hs r2 hys
   generalize hvx:AX.ev σ.fr p=vx at*
   generalize hvy:AX.ev σ.fr q=vy at*
   have hB:=hs.below.size
   have fresh: ∀{rows:List (List PC)} {ad:Option Addr} {xs:List Value},a.eval x= .slice ad rows.length rows.length→xs.length=rows.length*sz→((ad=none∧rows.length=0∧rows.length=0)∨ ∃bd,ad=some bd∧ ∀(j:Nat) u,xs[j]? =some u→w.cell? (bd.add j)=some u)→
     bf w (aI w0.heap.size U ι σ.mem) sz rows xs→ys≠ []→(rows.length+ys.length)*bytes≤140737488355328→rows.length+ys.length≤140737488355328→((K (.c (.ref σ.nx)) {σ with mem:=(σ.nx,.arr e' sz (rows++ys))::σ.mem,nx:=σ.nx+1})∨K (.c (.pure (.slice (rows++ys)))) σ)→o.wp P a w next Q:=by
    intro rows ad xs ex hxl hb hrx hy0 hbytes hmax h
    obtain⟨b,off,cc,news,en,hcn,hrn⟩:=Iv hs r2 hys hok h0 hy0
    have hml:0<ys.length:=List.length_pos_iff.2 hy0
    have hlen:(rows++ys).length=rows.length+ys.length:=List.length_append
    obtain⟨cap,w',hr,hbel,how⟩:=tr (P:=P) (ty:=o.type) (B:=w0.heap.size) (c:=rows.length) (c':=cc) hd hi hz hsz hby hzs hxl hb hrn.1 (fun j u hj=>by rw[im];exact hcn j u hj) (by omega) (Nat.le_refl _) (by omega) hbytes hB
    rw[←ex,←en]at hr
    have hrep:=(hrx.append hrn).mono (w':=w') (fun _ _ h=>h) (fun b hb _=>hbel.block b hb)
    rcases h with h|h
    ·obtain⟨ι',h1,h2,h3,h4⟩:=hs.newBox (pv:= .slice (some ⟨w.heap.size,0,none⟩) (rows.length+ys.length) cap) (bx:= .arr e' sz (rows++ys)) hbel (fun b hb=>by simp[bF]at hb;omega) (fun ι' e1 e2 hfree=>by
      refine⟨xs++news,h0, ?_,by rw[hlen];omega,(hrx.append hrn).mono hfree (fun b hb _=>hbel.block b hb)⟩
      rw[e2,hlen]
      exact how)
     refine aK (u:=ι' σ.nx) (w':=w') (hrun ?_) (hn _ _ ι' _ _ h h1 (.c (.ref (Nat.lt_succ_self _) ⟨_,_,_,h2⟩)))
     rw[h2]
     exact hr
    ·refine aK (w':=w') (hrun hr) (hn _ σ ι _ _ h (hs.grow hbel) (.c (.pure ?_)))
     exact GT how hlen.symm hrep (Ae hs) (by omega)
   rcases h with⟨nm,rfl,hne,rows,hf,hbytes,hmax0,h⟩|h
   ·obtain⟨cells,g0,g1,g2,g3⟩:=hs.box _ _ hf
    have eux:a.eval x=ι nm:=vE r1
    have hnm:=hs.names _ _ hf
    by_cases hy0:ys= []
    ·subst hy0
     obtain⟨n',c',ex,hnc⟩: ∃ad c',ι nm= .slice ad rows.length c'∧rows.length≤c':=by
      rcases g1.2 with⟨e1,e2⟩|⟨g,cap,cur,e1,_,_,hnc,_⟩
      ·exact⟨none,0,by rw[e1,e2],by omega⟩
      ·exact⟨_,cap,e1,hnc⟩
     obtain⟨ι',h1,h2,h3⟩:=hs.replace (w':=w) (rows':=rows++ []) (pv:=ι nm) hf ⟨rfl,rfl,rfl,Nat.le_refl _,fun _ _ _=>rfl⟩ (fun b hb=> .inl hb) ⟨_,_,_,ex⟩ g0 (by simpa using g1) (by simpa using g2) (by simpa using g3) hs.below
     refine aK (u:=ι' σ.nx) (w':=w) (hrun ?_) (hn _ _ ι' _ _ h h3 (.c (.ref h2 ⟨_,_,_,h1.trans ex⟩)))
     rw[h1,eux,ex,ey]
     exact iF hd hi hnc
    ·obtain⟨b,off,cc,news,en,hcn,hrn⟩:=Iv hs r2 hys hok h0 hy0
     have hml:0<ys.length:=List.length_pos_iff.2 hy0
     have hcn': ∀(j:Nat) u,news[j]? =some u→w.cell? ((⟨b,off,none⟩:Addr).add j)=some u:=fun j u hj=>by rw[im];exact hcn j u hj
     have hlen:(rows++ys).length=rows.length+ys.length:=List.length_append
     have hmax:rows.length+ys.length≤9223372036854775807:=by omega
     have grow: ∀{base:Option Addr} {cx:Nat},ι nm= .slice base rows.length cx→((base=none∧rows.length=0∧cx=0)∨ ∃bd,base=some bd∧ ∀(j:Nat) u,cells[j]? =some u→w.cell? (bd.add j)=some u)→rows.length≤cx→cx<rows.length+ys.length→o.wp P a w next Q:=by
      intro base cx ex hb hle hlt
      obtain⟨cap,w',hr,hbel,how⟩:=tr (P:=P) (ty:=o.type) (B:=w0.heap.size) (c':=cc) hd hi hz hsz hby hzs g1.1 hb hrn.1 hcn' hlt hle hmax hbytes hB
      obtain⟨ι',h1,h2,h3⟩:=hs.replace (w':=w') (rows':=rows++ys) (pv:= .slice (some ⟨w.heap.size,0,none⟩) (rows.length+ys.length) cap) hf ⟨hbel.os,hbel.tape,hbel.output,hbel.size,fun k hk _=>hbel.block k hk⟩ (fun b hb=> .inr (by simp[bF]at hb;omega)) ⟨_,_,_,rfl⟩ g0 (by rw[hlen];exact how) (by rw[hlen];exact hmax) (g3.append hrn) (hs.below.trans (hbel.mono hB))
      refine aK (u:=ι' σ.nx) (w':=w') (hrun ?_) (hn _ _ ι' _ _ h h3 (.c (.ref h2 ⟨_,_,_,h1⟩)))
      rw[h1,eux,ex,en]
      exact hr
     rcases g1.2 with⟨ex,e0⟩|⟨g,cap,cur,ex,hBg,hg,hnc,hcm,hcs,htake⟩
     ·exact grow (base:=none) (cx:=0) (by rw[ex,e0]) (.inl ⟨rfl,e0,rfl⟩) (by omega) (by omega)
     ·by_cases hroom:rows.length+ys.length≤cap
      ·have hfit:rows.length*inf.size+news.length≤cur.size:=by
        rw[hrn.1,hsz,hcs,←Nat.add_mul];exact Nat.mul_le_mul_right _ hroom
       have hr:=run_append_room (P:=P) w t o.type e' inf hd hi g rows.length cap cur hg ⟨b,off,none⟩ ys.length cc news (by rw[hsz];exact hrn.1) hcn' (hrn.ones h0) hroom hfit
       have how:(w.setRow g (cur.toList.take (rows.length*inf.size)++news++cur.toList.drop (rows.length*inf.size+news.length)).toArray).ownsRow w0.heap.size e' sz (.slice (some ⟨g,0,none⟩) (rows.length+ys.length) cap) (rows.length+ys.length) (cells++news):=by
        have hl:(cells++news).length=(rows.length+ys.length)*sz:=by rw[List.length_append,g1.1,hrn.1,Nat.add_mul]
        refine⟨hl,.inr ⟨g,cap,_,rfl,hBg,setRow_heap _ _ _ _ _ _ hg,hroom,hcm, ?_, ?_⟩⟩
        ·simp only[List.size_toArray,List.length_append,List.length_take,List.length_drop,Array.length_toList]
         rw[←hcs]
         omega
        ·rw[List.toList_toArray,hsz,htake,←hl]
         exact List.take_left
       obtain⟨ι',h1,h2,h3⟩:=hs.replace (w':=w.setRow g (cur.toList.take (rows.length*inf.size)++news++cur.toList.drop (rows.length*inf.size+news.length)).toArray) (rows':=rows++ys) (pv:= .slice (some ⟨g,0,none⟩) (rows.length+ys.length) cap) (cells:=cells++news) hf
        ⟨rfl,rfl,rfl,by simp,fun k _ hk=>setRow_other _ _ _ _ (fun e=>hk (by rw[ex,e];rfl))⟩ (fun b hb=> .inl (by rw[ex];exact hb)) ⟨_,_,_,rfl⟩ g0 (by rw[hlen];exact how) (by rw[hlen];exact hmax) (g3.append hrn) (hs.below.trans ⟨rfl,rfl,rfl,by simp,fun k hk=>setRow_other _ _ _ _ (by omega)⟩)
       refine aK (u:=ι' σ.nx) (hrun ?_) (hn _ _ ι' _ _ h h3 (.c (.ref h2 ⟨_,_,_,h1⟩)))
       rw[h1,eux,ex,en]
       exact hr
      ·exact grow (base:=some ⟨g,0,none⟩) ex (.inr ⟨_,rfl,fun j u hj=>World.ownsRow.cells g1 (by rw[ex];rfl) j u hj⟩) hnc (by omega)
   ·rcases h with⟨rfl,h⟩|⟨rows,rfl,hok2,h⟩
    ·have ex:=wK r1
     by_cases hy0:ys= []
     ·subst hy0
      have hr:=iF (P:=P) (w:=w) (ty:=o.type) (base:=none) (n:=0) (c:=0) (ad:=ady) (c':=cy) hd hi (Nat.le_refl _)
      rw[←ex]at hr
      have hr':=hr
      rw[show(Value.slice ady 0 cy)=a.eval y from ey.symm]at hr
      rcases h with⟨_,_,h⟩|⟨_,_,h⟩
      ·obtain⟨ι',h1,h2,h3,h4⟩:=hs.newBox (w':=w) (pv:= .slice none 0 0) (bx:= .arr e' sz ([]++ [])) (Below.refl _ _) (fun b hb=>by simp[bF]at hb) (fun ι' e1 e2 hfree=>⟨[],h0,by rw[e2];exact World.ownsRow_nil _ _ _ _,by simp,bf.nil⟩)
       refine aK (u:=ι' σ.nx) (w':=w) (hrun ?_) (hn _ _ ι' _ _ h h1 (.c (.ref (Nat.lt_succ_self _) ⟨_,_,_,h2⟩)))
       rw[h2,hr,ex]
      ·refine aK (w':=w) (hrun hr) (hn _ σ ι _ _ h hs (.c (.pure ?_)))
       rw[ex]
       exact .nil
     ·rcases h with⟨g1,g2,h⟩|⟨g1,g2,h⟩
      ·exact fresh (rows:= []) (xs:= []) ex (by simp) (.inl ⟨rfl,rfl,rfl⟩) .nil hy0 g1 g2 (.inl h)
      ·exact fresh (rows:= []) (xs:= []) ex (by simp) (.inl ⟨rfl,rfl,rfl⟩) .nil hy0 g1 g2 (.inr h)
    ·obtain⟨adx,ex,hrx⟩:=Xo r1
     rw[ex]at hrx
     by_cases hy0:ys= []
     ·subst hy0
      rcases h with⟨h,_⟩|⟨_,_,h⟩|⟨_,h⟩
      ·exact absurd rfl h
      ·have hr:=iF (P:=P) (w:=w) (ty:=o.type) (base:=adx) (n:=rows.length) (c:=rows.length) (ad:=ady) (c':=cy) hd hi (Nat.le_refl _)
       rw[←ex,show(Value.slice ady 0 cy)=a.eval y from ey.symm]at hr
       refine aK (w':=w) (hrun hr) (hn _ σ ι _ _ h hs (.c (.pure ?_)))
       rw[ex,List.append_nil]
       exact hrx
      ·have hr:=iF (P:=P) (w:=w) (ty:=o.type) (base:=adx) (n:=rows.length) (c:=rows.length) (ad:=ady) (c':=cy) hd hi (Nat.le_refl _)
       rw[←ex,show(Value.slice ady 0 cy)=a.eval y from ey.symm]at hr
       refine aK (w':=w) (hrun hr) (hn _ σ ι _ _ h hs (.c ?_))
       rw[ex]
       exact .tsl hrx
     ·have hb: ∃xs:List Value,xs.length=rows.length*sz∧((adx=none∧rows.length=0∧rows.length=0)∨ ∃bd,adx=some bd∧ ∀(j:Nat) u,xs[j]? =some u→w.cell? (bd.add j)=some u)∧bf w (aI w0.heap.size U ι σ.mem) sz rows xs:=by
       by_cases hr0:rows= []
       ·subst hr0
        refine⟨[],by simp, ?_,.nil⟩
        cases adx with
        |none=>exact .inl ⟨rfl,rfl,rfl⟩
        |some bd=>exact .inr ⟨bd,rfl,by simp⟩
       ·obtain⟨b,off,xs,rfl,_,hcx,hrr⟩:=yR hrx hok2 h0 hr0
        exact⟨xs,hrr.1,.inr ⟨_,rfl,fun j u hj=>by rw[im];exact hcx j u hj⟩,hrr⟩
      obtain⟨xs,h1,h2,h3⟩:=hb
      rcases h with⟨_,g1,g2,h⟩|⟨g1,g2,h⟩|⟨h,_⟩
      ·exact fresh ex h1 h2 h3 hy0 g1 g2 (.inl h)
      ·exact fresh ex h1 h2 h3 hy0 g1 g2 (.inr h)
      ·exact absurd h hy0
 ·cases ht
end
open Go.RowKit
section
variable {P : Program} {o : Oper} {a : Act} {w w' w0 : World} {U : Gh} {ι : Pl} {σ : St} {next : Act → World → Prop} {Q : Exit → Act → World → Prop} {K : AV → St → Prop}
theorem aP.ofMem {R:AC→Value→Prop} {xs:List AC} {vs:List Value} (h:aP R xs vs) (i:Nat) (x:AC) (hi:xs[i]? =some x):R x (vs[i]?.getD undef):=by
 obtain⟨v,hv,hr⟩:=h.get hi
 rw[hv]
 exact hr
theorem JN (hs:bP w0 U σ ι a w): ∀{caps:List Operand} {xs:List AX} {acc:List AC} {vs:List Value} {R:List AC→Prop},mu caps=some xs→bD.mkfnW σ xs acc R→aP (bZ w (aI w0.heap.size U ι σ.mem) ι σ.nx) acc vs→
  ∃ys,aP (bZ w (aI w0.heap.size U ι σ.mem) ι σ.nx) ys (vs++caps.map a.eval)∧R ys
 |[],xs,acc,vs,R,hx,h,hacc=>by
  cases hx
  exact⟨acc,by simpa using hacc,h⟩
 |x::caps,xs,acc,vs,R,hx,h,hacc=>by
  unfold mu at hx
  split at hx
  ·rename_i y ys h1 h2
   cases hx
   simp only[bD.mkfnW]at h
   have r1:=aC h1 hs
   split at h
   ·rename_i z e
    rw[e]at r1
    cases r1 with
    |c r1=>
     obtain⟨ys',hr,hR⟩:=JN hs (vs:=vs++ [a.eval x]) h2 h (hacc.append (.cons r1 .nil))
     exact⟨ys',by simpa using hr,hR⟩
   ·exact h.elim
  ·cases hx
theorem YY {f:FuncId} {first caps:Array Operand} {xs:List AX} (ho:o.op= .makeFunc (.func f) first caps) (hf:first.size=0) (hx:mu caps.toList=some xs) (h:bD P (.mkfn f xs) σ K) (hs:bP w0 U σ ι a w) (hn:fW w0 U a o K next):o.wp P a w next Q:=by
 simp only[bD]at h
 obtain⟨ys,hr,hR⟩:=JN hs hx h .nil
 have hf0:first= #[]:=Array.eq_empty_of_size_eq_zero hf
 refine aK (u:= .func (.func f) #[] (caps.map a.eval)) (w':=w) ?_ (hn _ σ ι _ w hR hs (.c (.clo ?_ fun i x hi=> ?_)))
 ·simp[execOp,ho,Instr.makeFunc,hf0]
 ·have:=hr.length
  simpa using this
 ·have:=hr.ofMem i x hi
  simpa using this
theorem A9 {V:Nat→Prop} {x:AC} {y:PC} {v:Value} (hs:bP w0 U σ ι a w) (h:bZ w (aI w0.heap.size U ι σ.mem) ι σ.nx x v) (hp:dS σ.mem x=some y) (hV: ∀b,aI w0.heap.size U ι σ.mem b→V b) (hN:jA x=true∨ ∀b,w0.heap.size≤b→V b):cp w V y v:=by
 have hmono: ∀{p:PC} {v:Value},cp w (aI w0.heap.size U ι σ.mem) p v→cp w V p v:=fun h=>h.mono (fun b _ h=>hV b h) (fun _ _ _=>rfl)
 cases h with
 |pure h=>cases hp;exact hmono h
 |nils=>cases hp;exact .nil
 |tsl h=>cases hp;exact hmono h
 |ref hn hex=>
  simp only[dS]at hp
  split at hp
  ·rename_i e sz rows hf
   cases hp
   have hall: ∀b,w0.heap.size≤b→V b:=by
    rcases hN with h|h
    ·simp[jA]at h
    ·exact h
   obtain⟨cells,g0,g1,g2,g3⟩:=hs.box _ _ hf
   rcases g1.2 with⟨e1,e2⟩|⟨g,cap,cur,e1,hB,_⟩
   ·have:rows= []:=List.eq_nil_of_length_eq_zero e2
    subst this
    rw[e1]
    exact .nil
   ·rw[e1]at g1 ⊢
    exact GT g1 rfl (g3.mono (fun b _ h=>hV b h) (fun _ _ _=>rfl)) (hall _ hB) g2
  ·cases hp
 |_=>cases hp
theorem Qg {V:Nat→Prop} {xs:List AC} {vs:List Value} (hs:bP w0 U σ ι a w) (h:aP (bZ w (aI w0.heap.size U ι σ.mem) ι σ.nx) xs vs) (hV: ∀b,aI w0.heap.size U ι σ.mem b→V b) (hN: ∀b,w0.heap.size≤b→V b): ∀{ys:List PC},xp σ.mem xs=some ys→aP (cp w V) ys vs:=by
 induction h with
 |nil=>intro ys hp;cases hp;exact .nil
 |cons h t ih=>
  intro ys hp
  unfold xp at hp
  split at hp
  ·cases hp
   exact .cons (A9 hs h ‹_› hV (.inr hN)) (ih ‹_›)
  ·cases hp
theorem JT {V:Nat→Prop} {kt:KT} {n:Option Nat} (hs:bP w0 U σ ι a w) (hV: ∀b,aI w0.heap.size U ι σ.mem b→V b) (hN: ∀b,w0.heap.size≤b→V b): ∀{ents:List (MK×List AC)} {es:List MapEntry} {qs:List (MK×List PC)},aP (jF w (aI w0.heap.size U ι σ.mem) ι σ.nx kt n) ents es→mG σ.mem n ents=some qs→
  aP (fun x e=>x.1.val kt=some e.key∧(n.isSome=true→ ∃vs,e.val= .agg vs)∧aP (cp w V) x.2 (OR n e.val)) qs es
 | [],es,qs,h,hp=>by cases h;cases hp;exact .nil
 |x::ents,es,qs,h,hp=>by
  cases h with
  | @cons _ e _ es h1 h2=>
   unfold mG at hp
   split at hp
   ·rename_i ps qs' g1 g2
    cases hp
    refine .cons ⟨h1.1, ?_⟩ (JT hs hV hN h2 g2)
    have hv:=h1.2
    cases n with
    |none=>
     refine⟨(fun h=>by cases h), ?_⟩
     cases hx:x.2 with
     |nil=>rw[hx]at g1;simp[qn]at g1
     |cons p r=>
      rw[hx]at g1 hv
      simp only[qn]at g1
      split at g1
      ·rename_i q hq
       cases g1
       cases hv with
       |c hv=>exact .cons (A9 hs hv hq hV (.inr hN)) .nil
      ·cases g1
    |some k=>
     simp only[ft]at hv
     generalize e.val=u at hv
     cases hv with
     |agg hv=>exact⟨fun _=>⟨_,rfl⟩,Qg hs hv hV hN g1⟩
   ·cases hp
theorem YR {V:Nat→Prop} {kt:KT} {n:Option Nat} {qs:List (MK×List PC)} {es:Array MapEntry} {b clock:Nat} (h:aP (fun x e=>x.1.val kt=some e.key∧(n.isSome=true→ ∃vs,e.val= .agg vs)∧aP (cp w V) x.2 (OR n e.val)) qs es.toList)
  (hb:V b) (hm:w.heap[b]? =some (.map es clock)):cp w V (.fmap kt n qs) (.map (some b)):=by
 refine .fmap hb hm (by simpa using h.length) (fun i x e hx he=> ?_) (fun i x e j p v hx he hp hv=> ?_)
 ·obtain⟨e',g1,g2,g3,g4⟩:=h.get hx
  rw[g1]at he
  cases he
  exact⟨g2,g3,g4.length⟩
 ·obtain⟨e',g1,g2,g3,g4⟩:=h.get hx
  rw[g1]at he
  cases he
  obtain⟨v',k1,k2⟩:=g4.get hp
  rw[k1]at hv
  cases hv
  exact k2
theorem XP {V:Nat→Prop} {N:Nat} {kt:KT} {n:Option Nat} {qs:List (MK×List PC)} {b:Nat} (h:cp w V (.fmap kt n qs) (.map (some b))):V b∧ ∃es clock,w.heap[b]? =some (.map es clock)∧aP (jF w V ι N kt n) (qi qs) es.toList:=by
 cases h with
 | @fmap _ _ _ _ clock es hb hm hl hk hp=>
  refine⟨hb,es,clock,hm,aP.of_get (by simpa[qi]using hl) fun i x e hx he=> ?_⟩
  unfold qi at hx
  rw[List.getElem?_map]at hx
  obtain⟨y,hy,rfl⟩:=Option.map_eq_some_iff.1 hx
  obtain⟨k1,k2,k3⟩:=hk i y e hy he
  have k4:=hp i y e
  refine⟨k1, ?_⟩
  cases n with
  |none=>
   cases hy2:y.2 with
   |nil=>rw[hy2]at k3;cases k3
   |cons p r=>exact .c (.pure (k4 0 p e.val hy he (by rw[hy2];rfl) rfl))
  |some k=>
   obtain⟨vs,hvs⟩:=k2 rfl
   rw[hvs]at k3 k4 ⊢
   refine .agg (aP.of_get (by simpa[OR]using k3) fun j x v hx hv=> ?_)
   rw[List.getElem?_map]at hx
   obtain⟨p,hp',rfl⟩:=Option.map_eq_some_iff.1 hx
   exact .pure (k4 j p v hy he hp' hv)
theorem NK {V:Nat→Prop} {nm:Nat} {kt:KT} {n:Option Nat} {ents:List (MK×List AC)} {qs:List (MK×List PC)} (hs:bP w0 U σ ι a w) (hf:am σ.mem nm=some (.map kt n ents)) (hq:mG σ.mem n ents=some qs)
  (hV: ∀b,aI w0.heap.size U ι σ.mem b→V b) (hN: ∀b,w0.heap.size≤b→V b):cp w V (.fmap kt n qs) (ι nm):=by
 obtain⟨b,es,clock,g1,g2,g3,g4⟩:=hs.box _ _ hf
 rw[g1]
 exact YR (JT hs hV hN g4 hq) (hN _ g2) g3
theorem Xe {V:Nat→Prop} {x:AC} {y:PC} {v:Value} (hs:bP w0 U σ ι a w) (h:bZ w (aI w0.heap.size U ι σ.mem) ι σ.nx x v) (hp:eL σ.mem x=some y) (hV: ∀b,aI w0.heap.size U ι σ.mem b→V b) (hN:jA x=true∨ ∀b,w0.heap.size≤b→V b):cp w V y v:=by
 cases x with
 |mref nm=>
  have hall: ∀b,w0.heap.size≤b→V b:=by
   rcases hN with h|h
   ·simp[jA]at h
   ·exact h
  simp only[eL]at hp
  split at hp
  ·split at hp
   ·cases hp
    have e:v=ι nm:=by cases h with|mref _ h=>exact h.symm
    rw[e]
    exact NK hs ‹_› ‹_› hV hall
   ·cases hp
  ·cases hp
 |_=>exact A9 hs h hp hV hN
theorem Qq {V:Nat→Prop} {xs:List AC} {vs:List Value} (hs:bP w0 U σ ι a w) (h:aP (bZ w (aI w0.heap.size U ι σ.mem) ι σ.nx) xs vs) (hV: ∀b,aI w0.heap.size U ι σ.mem b→V b) (hN: ∀b,w0.heap.size≤b→V b): ∀{ys:List PC},cJ σ.mem xs=some ys→aP (cp w V) ys vs:=by
 induction h with
 |nil=>intro ys hp;cases hp;exact .nil
 |cons h t ih=>
  intro ys hp
  unfold cJ at hp
  split at hp
  ·cases hp
   exact .cons (Xe hs h ‹_› hV (.inr hN)) (ih ‹_›)
  ·cases hp
theorem MT {V:Nat→Prop} {x y:AC} {v:Value} (hs:bP w0 U σ ι a w) (h:bZ w (aI w0.heap.size U ι σ.mem) ι σ.nx x v) (hp:d6 σ.mem x=some y) (hV: ∀b,aI w0.heap.size U ι σ.mem b→V b) (hN:jA x=true∨ ∀b,w0.heap.size≤b→V b):bZ w V (fun _=>undef) 0 y v:=by
 have hmono: ∀{p:PC} {v:Value},cp w (aI w0.heap.size U ι σ.mem) p v→cp w V p v:=fun h=>h.mono (fun b _ h=>hV b h) (fun _ _ _=>rfl)
 have h':=h
 cases h with
 |pure h=>cases hp;exact .pure (hmono h)
 |nils=>cases hp;exact .pure .nil
 |tsl h=>cases hp;exact .pure (hmono h)
 |cptr g hc=>
  cases hp
  refine .cptr g fun j p hj=> ?_
  obtain⟨h1,h2,h3⟩:=hc j p hj
  exact⟨hV _ h1,h2,hmono h3⟩
 |ref hn hex=>
  simp only[d6]at hp
  split at hp
  ·rename_i e sz rows hf
   cases hp
   exact .pure (A9 hs h' (by simp[dS,hf]) hV hN)
  ·cases hp
 | @mref nm b hn hι=>
  simp only[d6]at hp
  split at hp
  ·split at hp
   ·cases hp
    have hall: ∀b,w0.heap.size≤b→V b:=by
     rcases hN with h|h
     ·simp[jA]at h
     ·exact h
    rw[←hι]
    exact .pure (NK hs ‹_› ‹_› hV hall)
   ·cases hp
  ·cases hp
 | @ptr nm off b hn hι=>
  simp only[d6]at hp
  split at hp
  ·rename_i xs hf
   split at hp
   ·rename_i ps hps
    cases hp
    have hall: ∀b,w0.heap.size≤b→V b:=by
     rcases hN with h|h
     ·simp[jA]at h
     ·exact h
    obtain⟨b',vs,T,g1,g2,g3,g4⟩:=hs.box _ _ hf
    rw[hι]at g1
    simp at g1
    subst g1
    have hr:=Qq hs g4 hV hall hps
    refine .cptr (fun j=>(vs.toList[off+j]?).getD undef) fun j p hj=> ?_
    rw[List.getElem?_drop]at hj
    obtain⟨u,hu,hrp⟩:=hr.get hj
    refine⟨hall _ g2, ?_, ?_⟩
    ·rw[cell_of_row w b _ vs T (0,0) g3,hu]
     simpa using hu
    ·rw[hu];exact hrp
   ·cases hp
  ·cases hp
 |_=>cases hp
theorem GQ {V:Nat→Prop}: ∀{xs:List AC} {vs:List Value},bP w0 U σ ι a w→xs.length=vs.length→(∀(i:Nat) x,xs[i]? =some x→bZ w (aI w0.heap.size U ι σ.mem) ι σ.nx x (vs[i]?.getD undef))→(∀b,aI w0.heap.size U ι σ.mem b→V b)→(xs.all jA=true∨ ∀b,w0.heap.size≤b→V b)→
  ∀{ys:List AC},DM σ.mem xs=some ys→ys.length=vs.length∧ ∀(i:Nat) y,ys[i]? =some y→bZ w V (fun _=>undef) 0 y (vs[i]?.getD undef)
 | [],vs,hs,hl,h,hV,hN,ys,hp=>by cases hp;exact⟨hl,by simp⟩
 |x::xs, [],hs,hl,h,hV,hN,ys,hp=>by simp at hl
 |x::xs,v::vs,hs,hl,h,hV,hN,ys,hp=>by
  unfold DM at hp
  split at hp
  ·rename_i y ys' h1 h2
   cases hp
   have hN1:jA x=true∨ ∀b,w0.heap.size≤b→V b:=by
    rcases hN with h|h
    ·simp only[List.all_cons,Bool.and_eq_true]at h;exact .inl h.1
    ·exact .inr h
   have hN2:xs.all jA=true∨ ∀b,w0.heap.size≤b→V b:=by
    rcases hN with h|h
    ·simp only[List.all_cons,Bool.and_eq_true]at h;exact .inl h.2
    ·exact .inr h
   obtain⟨k1,k2⟩:=GQ (xs:=xs) (vs:=vs) hs (by simpa using hl) (fun i x hi=>by simpa using h (i+1) x (by simpa using hi)) hV hN2 h2
   refine⟨by simp[k1],fun i z hi=> ?_⟩
   cases i with
   |zero=>
    simp at hi
    subst hi
    exact MT hs (by simpa using h 0 x rfl) h1 hV hN1
   |succ i=>simpa using k2 i z (by simpa using hi)
  ·cases hp
theorem Sg {V:Nat→Prop} {x y:AC} {v:Value} (hs:bP w0 U σ ι a w) (h:bZ w (aI w0.heap.size U ι σ.mem) ι σ.nx x v) (hp:ej σ.mem x=some y) (hV: ∀b,aI w0.heap.size U ι σ.mem b→V b) (hN:zw x=true∨ ∀b,w0.heap.size≤b→V b):bZ w V (fun _=>undef) 0 y v:=by
 cases x with
 |clo f caps=>
  cases h with
  | @clo _ _ vs hl h=>
   simp only[ej]at hp
   split at hp
   ·rename_i ys hys
    cases hp
    obtain⟨k1,k2⟩:=GQ (vs:=vs.toList) hs (by simpa using hl) h hV (by simpa[zw]using hN) hys
    exact .clo (by simpa using k1) k2
   ·cases hp
 |_=>exact MT hs h hp hV hN
theorem TI {V:Nat→Prop} {xs:List AC} {vs:List Value} (hs:bP w0 U σ ι a w) (h:aP (bZ w (aI w0.heap.size U ι σ.mem) ι σ.nx) xs vs) (hV: ∀b,aI w0.heap.size U ι σ.mem b→V b) (hN:xs.all zw=true∨ ∀b,w0.heap.size≤b→V b): ∀{ys:List AC},xo σ.mem xs=some ys→aP (bZ w V (fun _=>undef) 0) ys vs:=by
 induction h with
 |nil=>intro ys hp;cases hp;exact .nil
 |cons h t ih=>
  intro ys hp
  unfold xo at hp
  split at hp
  ·cases hp
   refine .cons (Sg hs h ‹_› hV ?_) (ih ?_ ‹_›)
   ·rcases hN with h|h
    ·simp only[List.all_cons,Bool.and_eq_true]at h;exact .inl h.1
    ·exact .inr h
   ·rcases hN with h|h
    ·simp only[List.all_cons,Bool.and_eq_true]at h;exact .inl h.2
    ·exact .inr h
  ·cases hp
theorem Bg {V:Nat→Prop} {x y:AV} {v:Value} (hs:bP w0 U σ ι a w) (h:aU w (aI w0.heap.size U ι σ.mem) ι σ.nx x v) (hp:dQ σ.mem x=some y) (hV: ∀b,aI w0.heap.size U ι σ.mem b→V b) (hN:fS x=true∨ ∀b,w0.heap.size≤b→V b):aU w V (fun _=>undef) 0 y v:=by
 cases h with
 |c h=>
  simp only[dQ]at hp
  split at hp
  ·cases hp
   exact .c (Sg hs h ‹_› hV (by simpa[fS]using hN))
  ·cases hp
 |agg h=>
  simp only[dQ]at hp
  split at hp
  ·cases hp
   exact .agg (TI hs h hV (by simpa[fS]using hN) ‹_›)
  ·cases hp
 |tup=>cases hp
 |top=>cases hp
theorem GA (hs:bP w0 U σ ι a w): ∀{xs:List Operand} {ys:List AX},mu xs=some ys→aP (aU w (aI w0.heap.size U ι σ.mem) ι σ.nx) (ys.map (·.ev σ.fr)) (xs.map a.eval)
 | [],ys,h=>by cases h;exact .nil
 |x::xs,ys,h=>by
  unfold mu at h
  split at h
  ·cases h
   exact .cons (aC ‹_› hs) (GA hs ‹_›)
  ·cases h
theorem nl {V:Nat→Prop} {xs:List AV} {vs:List Value} (hs:bP w0 U σ ι a w) (h:aP (aU w (aI w0.heap.size U ι σ.mem) ι σ.nx) xs vs) (hV: ∀b,aI w0.heap.size U ι σ.mem b→V b) (hN:xs.all fS=true∨ ∀b,w0.heap.size≤b→V b): ∀{ys:List AV},bG σ.mem xs=some ys→aP (aU w V (fun _=>undef) 0) ys vs:=by
 induction h with
 |nil=>intro ys hp;cases hp;exact .nil
 |cons h t ih=>
  intro ys hp
  unfold bG at hp
  split at hp
  ·cases hp
   refine .cons (Bg hs h ‹_› hV ?_) (ih ?_ ‹_›)
   ·rcases hN with h|h
    ·simp only[List.all_cons,Bool.and_eq_true]at h;exact .inl h.1
    ·exact .inr h
   ·rcases hN with h|h
    ·simp only[List.all_cons,Bool.and_eq_true]at h;exact .inl h.2
    ·exact .inr h
  ·cases hp
theorem B7 {V V':Nat→Prop} {x:AC} {v:Value} (h:bZ w V (fun _=>undef) 0 x v) (hf:uC x=true):bZ w V' ι σ.nx x v:=by
 cases h with
 |pure h=>
  cases h with
  |val h=>exact .pure (.val h)
  |slice=>simp[uC]at hf
  |fmap=>simp[uC]at hf
 |_=>simp[uC]at hf
theorem Fn {V V':Nat→Prop} {xs:List AC} {vs:List Value} (h:aP (bZ w V (fun _=>undef) 0) xs vs) (hf:xs.all uC=true):aP (bZ w V' ι σ.nx) xs vs:=by
 induction h with
 |nil=>exact .nil
 |cons h _ ih=>
  simp only[List.all_cons,Bool.and_eq_true]at hf
  exact .cons (B7 h hf.1) (ih hf.2)
theorem TN {V V':Nat→Prop} {x:AV} {v:Value} (h:aU w V (fun _=>undef) 0 x v) (hf:oS x=true):aU w V' ι σ.nx x v:=by
 cases h with
 |c h=>exact .c (B7 h hf)
 |agg h=>exact .agg (Fn h hf)
 |tup hl h=>
  refine .tup hl fun i x hi=> ?_
  have hx: ∀(xs:List AV),oS.go xs=true→ ∀(i:Nat) x,xs[i]? =some x→(∃y,x= .c y∧uC y=true)∨ ∃ys,x= .agg ys∧ys.all uC=true:=by
   intro xs
   induction xs with
   |nil=>intro _ i x hi;simp at hi
   |cons y ys ih=>
    intro hg i x hi
    cases y with
    |c y=>
     simp only[oS.go,Bool.and_eq_true]at hg
     cases i with
     |zero=>simp at hi;subst hi;exact .inl ⟨_,rfl,hg.1⟩
     |succ i=>simp at hi;exact ih hg.2 i x hi
    |agg zs=>
     simp only[oS.go,Bool.and_eq_true]at hg
     cases i with
     |zero=>simp at hi;subst hi;exact .inr ⟨_,rfl,hg.1⟩
     |succ i=>simp at hi;exact ih hg.2 i x hi
    |tup=>simp[oS.go]at hg
    |top=>simp[oS.go]at hg
  have hi':=h i x hi
  generalize (‹Array Value›.toList[i]?.getD undef)=z at hi' ⊢
  rcases hx _ (by simpa[oS]using hf) i x hi with⟨y,rfl,hy⟩|⟨ys,rfl,hy⟩
  ·cases hi' with|c h=>exact .c (B7 h hy)
  ·cases hi' with|agg h=>exact .agg (Fn h hy)
 |top=>simp[oS]at hf
theorem GD {V:Nat→Prop} {N:Nat} {x:AC} {v:Value} (h:bZ w V ι N x v):jS x:=by
 cases h with
 |pure h=>
  cases h with
  |val h=>trivial
  |slice g hn hc hm=>subst hn;exact hm
  |fmap=>trivial
 |_=>trivial
theorem Jw {V:Nat→Prop} {N:Nat} {xs:List AC} {vs:List Value} (h:aP (bZ w V ι N) xs vs):rF xs:=by
 induction h with
 |nil=>trivial
 |cons h _ ih=>exact⟨GD h,ih⟩
theorem NQ {V:Nat→Prop} {N:Nat} {x:AV} {v:Value} (h:aU w V ι N x v):i5 x:=by
 cases h with
 |c h=>exact GD h
 |agg h=>exact Jw h
 |tup hl h=>
  rename_i xs vs
  have key: ∀(xs:List AV),(∀(i:Nat) x,xs[i]? =some x→ ∃u,aU w V ι N x u)→i5.go xs:=by
   intro xs
   induction xs with
   |nil=>intro _;trivial
   |cons y ys ih=>
    intro hx
    have ht:=ih fun i x hi=>hx (i+1) x (by simpa using hi)
    obtain⟨u,hu⟩:=hx 0 y rfl
    cases y with
    |c y=>cases hu with|c hu=>exact⟨GD hu,ht⟩
    |agg zs=>cases hu with|agg hu=>exact⟨Jw hu,ht⟩
    |tup=>exact ht
    |top=>exact ht
  exact key xs fun i x hi=>⟨_,h i x hi⟩
 |top=>trivial
end
open Go.RowKit
section
variable {P : Program} {o : Oper} {a : Act} {w w' w0 : World} {U : Gh} {ι : Pl} {σ : St} {next : Act → World → Prop} {Q : Exit → Act → World → Prop} {K : AV → St → Prop}
theorem Kk {B:Nat} {mem:List (Nat×bc)} {nm b:Nat} (h:aI B U ι mem b):aI B U ι (mz mem nm) b:=by
 refine⟨h.1,fun n bx hf=> ?_⟩
 rw[iS]at hf
 by_cases e:n=nm
 ·rw[if_pos e]at hf;cases hf
 ·rw[if_neg e]at hf;exact h.2 n bx hf
theorem bP.sub (hs:bP w0 U σ ι a w) {mem:List (Nat×bc)} (h: ∀n bx,am mem n=some bx→am σ.mem n=some bx):bP w0 U {σ with mem:=mem} ι a w:=by
 have hfree: ∀b,b<w.heap.size→aI w0.heap.size U ι σ.mem b→aI w0.heap.size U ι mem b:=fun b _ hf=>⟨hf.1,fun n bx hn=>hf.2 n bx (h n bx hn)⟩
 refine⟨fun t=>(hs.val t).mono hfree (fun _ _ _=>rfl) (fun _ _=>rfl) (Nat.le_refl _),hs.defers,fun n bx hn=>hs.names _ _ (h _ _ hn),fun n bx hn=> ?_,
  fun n n' b1 b2 b h1 h2=>hs.apart _ _ _ _ _ (h _ _ h1) (h _ _ h2),hs.below,U.mono _ _ _ _ hs.keep hfree (fun _ _ _=>rfl),hs.base⟩
 exact(hs.box _ _ (h _ _ hn)).grow (Below.refl _ _) hfree (fun _ _=>rfl) (Nat.le_refl _) (hs.names _ _ (h _ _ hn))
theorem bP.del (hs:bP w0 U σ ι a w) (nm:Nat):bP w0 U {σ with mem:=mz σ.mem nm} ι a w:=by
 refine hs.sub fun n bx hn=> ?_
 rw[iS]at hn
 by_cases e:n=nm
 ·rw[if_pos e]at hn;cases hn
 ·rw[if_neg e]at hn;exact hn
theorem Ol {x:AC} {p:PC} {v:Value} {mem':List (Nat×bc)} (hs:bP w0 U σ ι a w) (h:bZ w (aI w0.heap.size U ι σ.mem) ι σ.nx x v) (hf:WY σ.mem x=some (p,mem')):
  bP w0 U {σ with mem:=mem'} ι a w∧cp w (aI w0.heap.size U ι mem') p v∧ ∀b,aI w0.heap.size U ι σ.mem b→aI w0.heap.size U ι mem' b:=by
 cases h with
 |pure h=>cases hf;exact⟨hs,h,fun _ h=>h⟩
 |nils=>cases hf;exact⟨hs,.nil,fun _ h=>h⟩
 |tsl h=>cases hf;exact⟨hs,h,fun _ h=>h⟩
 | @ref nm hn hex=>
  simp only[WY]at hf
  split at hf
  ·rename_i e sz rows hfb
   cases hf
   refine⟨hs.del nm, ?_,fun b h=>Kk h⟩
   obtain⟨cells,g0,g1,g2,g3⟩:=hs.box _ _ hfb
   rcases g1.2 with⟨e1,e2⟩|⟨g,cap,cur,e1,hB,_⟩
   ·have:rows= []:=List.eq_nil_of_length_eq_zero e2
    subst this
    rw[e1]
    exact .nil
   ·have hb:bF (ι nm)=some g:=by rw[e1];rfl
    rw[e1]at g1 ⊢
    refine GT g1 rfl (g3.mono (fun b _ h=>Kk h) (fun _ _ _=>rfl)) ⟨.inr hB,fun n bx hnb e=> ?_⟩ g2
    rw[iS]at hnb
    by_cases en:n=nm
    ·rw[if_pos en]at hnb;cases hnb
    ·rw[if_neg en]at hnb
     exact en (hs.apart _ _ _ _ _ hnb hfb e hb)
  ·cases hf
 |_=>cases hf
theorem K0: ∀{xs:List AC} {σ:St} {vs:List Value} {ps:List PC} {mem':List (Nat×bc)},bP w0 U σ ι a w→aP (bZ w (aI w0.heap.size U ι σ.mem) ι σ.nx) xs vs→FS σ.mem xs=some (ps,mem')→
  bP w0 U {σ with mem:=mem'} ι a w∧aP (cp w (aI w0.heap.size U ι mem')) ps vs∧ ∀b,aI w0.heap.size U ι σ.mem b→aI w0.heap.size U ι mem' b
 |[],σ,vs,ps,mem',hs,h,hf=>by
  cases h
  cases hf
  exact⟨hs,.nil,fun _ h=>h⟩
 |x::xs,σ,vs,ps,mem',hs,h,hf=>by
  cases h with
  |cons h1 h2=>
   unfold FS at hf
   split at hf
   ·rename_i y m1 e1
    split at hf
    ·rename_i ys m2 e2
     cases hf
     obtain⟨k1,k2,k3⟩:=Ol hs h1 e1
     obtain⟨j1,j2,j3⟩:=K0 (σ:={σ with mem:=m1}) k1 (h2.mono fun _ _ h=>h.mono (fun b _ h=>k3 b h) (fun _ _ _=>rfl) (fun _ _=>rfl) (Nat.le_refl _)) e2
     exact⟨j1,.cons (k2.mono (fun b _ h=>j3 b h) (fun _ _ _=>rfl)) j2,fun b h=>j3 b (k3 b h)⟩
    ·cases hf
   ·cases hf
theorem Bl {sz n:Nat}: ∀{k:Nat} {mem:List (Nat×bc)} {parts:List (Nat×Operand)} {rs:List AX} {acc:List (List PC)} {cells:Array Value} {R:List (List PC)→List (Nat×bc)→Prop},bP w0 U {σ with mem:=mem} ι a w→ut k parts=some rs→bD.bsliceFW σ sz rs mem acc R→acc.length=k→k+rs.length=n→cells.size=n*sz→
  bf w (aI w0.heap.size U ι mem) sz acc (cells.toList.take (k*sz))→ ∃cells' rows mem',Instr.fill (fun i=>some (i*sz,sz)) cells (parts.map fun(i,x)=>(i,a.eval x))=some cells'∧bP w0 U {σ with mem:=mem'} ι a w∧bf w (aI w0.heap.size U ι mem') sz rows cells'.toList∧rows.length=n∧R rows mem'
 |k,mem, [],rs,acc,cells,R,hs,hp,h,hl,hkn,hcs,hc=>by
  cases hp
  simp at hkn
  subst hkn
  exact⟨cells,acc,mem,rfl,hs,by rw[List.take_of_length_le (by simp;omega)]at hc;exact hc,hl,h⟩
 |k,mem,(i,x)::parts,rs,acc,cells,R,hs,hp,h,hl,hkn,hcs,hc=>by
  unfold ut at hp
  split at hp
  ·rename_i hik
   subst hik
   split at hp
   ·rename_i y ys h2 h3
    cases hp
    simp only[bD.bsliceFW]at h
    split at h
    ·rename_i zs e
     obtain⟨⟨r,mem1⟩,hr,hrl,h⟩:=h
     have hz:=(aC h2 hs).cells e
     obtain⟨hs1,hpz,hfr⟩:=K0 hs hz hr
     have hzl:=hz.length
     have e0:=Array.length_toList (xs:=(a.eval x).cells)
     have e00:=Array.length_toList (xs:=cells)
     simp only[List.length_cons]at hkn
     have hle:i*sz+sz≤n*sz:=by
      have:(i+1)*sz≤n*sz:=Nat.mul_le_mul_right _ (by omega)
      rw[Nat.succ_mul]at this
      exact this
     have hol:(over cells.toList (i*sz) (a.eval x).cells.toList).length=cells.toList.length:=DV (by simp;omega)
     obtain⟨cells',rows,mem',hf,h3',h4,h5,hR⟩:=Bl (n:=n) (cells:=(over cells.toList (i*sz) (a.eval x).cells.toList).toArray) hs1 h3 h (by simp[hl]) (by omega) (by simp only[List.size_toArray,hol,Array.length_toList,hcs]) (by
      have e1:(over cells.toList (i*sz) (a.eval x).cells.toList).take ((i+1)*sz)=cells.toList.take (i*sz)++(a.eval x).cells.toList:=by
       unfold over
       rw[List.append_assoc,Nat.succ_mul]
       have e2:(cells.toList.take (i*sz)).length=i*sz:=by simp;omega
       rw[List.take_append,e2,List.take_of_length_le (by omega),Nat.add_sub_cancel_left,List.take_append,List.take_of_length_le (l:=(a.eval x).cells.toList) (by simp;omega)]
       have e3:sz-(a.eval x).cells.toList.length=0:=by simp;omega
       rw[e3]
       simp
      simp only[List.toList_toArray]at e1 ⊢
      rw[e1]
      exact(hc.mono (fun b _ h=>hfr b h) (fun _ _ _=>rfl)).append (bf.one hpz (by have:=hpz.length;omega)))
     refine⟨cells',rows,mem', ?_,h3',h4,h5,hR⟩
     rw[List.map_cons,Cu rfl (by omega) (by omega)]
     exact hf
    ·exact h.elim
   ·cases hp
  ·cases hp
theorem Q0 {t:TypeId} {n e sz bytes:Nat} {parts:Array (Nat×Operand)} {rs:List AX} {z:Value} (ho:o.op= .buildSlice t n parts) (ht:eS P t=some (e,sz,bytes)) (hr:ut 0 parts.toList=some rs) (hl:rs.length=n) (hm:n*sz≤16777216) (h0:0<sz) (hz:eH P e=some z) (hzs:z.cells.size=sz)
  (h:bD P (.bsliceF sz rs) σ K) (hs:bP w0 U σ ι a w) (hn:fW w0 U a o K next):o.wp P a w next Q:=by
 simp only[bD]at h
 unfold eS eH at*
 split at ht
 ·rename_i e' hd
  cases hi:P.info? e' with
  |none=>simp[hi]at ht
  |some inf=>
   simp[hi]at ht
   obtain⟨rfl,rfl,_⟩:=ht
   simp[hi]at hz
   let base:Array Value:=(Array.range (n*inf.size)).map (fun k=>(if n*inf.size=0 then #[]else z.cells)[k%(if n*inf.size=0 then #[]else z.cells).size]!)
   have hbase:base.size=n*inf.size:=by simp[base]
   obtain⟨cells',rows,mem',hf,hs',h4,h5,hR⟩:=Bl (n:=n) (cells:=base) (mem:=σ.mem) hs hr h rfl (by omega) hbase (by simp;exact bf.nil)
   have hg:Below w.heap.size w (w.alloc (.cells cells' e')):=(Below.refl _ _).alloc (Nat.le_refl _) _
   have hrep:cp (w.alloc (.cells cells' e')) (aI w0.heap.size U ι mem') (.slice rows) (.slice (some ⟨w.heap.size,0,none⟩) rows.length rows.length):=by
    refine(h4.mono (fun _ _ h=>h) (fun b hb _=>hg.block b hb)).slice (Ae hs') (Nat.le_refl _) (by have:n*1≤n*inf.size:=Nat.mul_le_mul_left _ h0;omega) fun k v hk=> ?_
    rw[NR (heap_alloc_new _ _)]
    exact hk
   rw[h5]at hrep
   refine aK (w':=w.alloc (.cells cells' e')) ?_ (hn _ _ ι _ _ hR (hs'.grow hg) (.c (.tsl hrep)))
   have hf':Instr.fill (fun i=>some (i*inf.size,inf.size)) base (parts.map fun(i,x)=>(i,a.eval x)).toList=some cells':=by
    rw[Array.toList_map];exact hf
   by_cases hn0:n*inf.size=0
   ·simp only[base,hn0,if_true]at hf'
    have e1: ¬(16777216<n*inf.size):=by omega
    simp[execOp,ho,Instr.buildSlice,run_underlying hd,sizeOf,typeInfo,hi,hn0,newRow]
    simp[Array.range_zero']at hf'
    simp[hf',Array.range_zero']
    try rfl
   ·simp only[base,hn0,if_false]at hf'
    have e1: ¬(16777216<n*inf.size):=by omega
    simp[execOp,ho,Instr.buildSlice,run_underlying hd,sizeOf,typeInfo,hi,hn0,newRow,zeroValue,hz,e1]
    simp at hf'
    simp[hf']
    try rfl
 ·cases ht
theorem Uv {t:TypeId} {kt:KT} {n:Option Nat} (ho:o.op= .makeMap t none) (h:bD P (.mkmap kt n) σ K) (hs:bP w0 U σ ι a w) (hn:fW w0 U a o K next):o.wp P a w next Q:=by
 simp only[bD]at h
 have hg:Below w.heap.size w (w.alloc (.map #[] 0)):=(Below.refl _ _).alloc (Nat.le_refl _) _
 obtain⟨ι',h1,h2,h3,h4⟩:=hs.newBox (pv:= .map (some w.heap.size)) (bx:= .map kt n []) hg (fun b hb=>by simp[bF]at hb;omega) (fun ι' e1 e2 hfree=>
  ⟨w.heap.size, #[],0,e2,hs.below.size,(MapKept.heap_alloc w _).1,.nil⟩)
 exact aK (u:= .map (some w.heap.size)) (w':=w.alloc (.map #[] 0)) (by simp[execOp,ho,run_makeMap]) (hn _ _ ι' _ _ h h1 (.c (.mref (Nat.lt_succ_self _) h2)))
def KT.desc:KT→TypeDesc
 | .int k=> .int k
 | .str=> .string
 | .bool=> .bool
theorem vH {t:TypeId} {kt:KT} {e:TypeId} {n:Option Nat} (h:uk P t=some (kt,e,n)): ∃k,P.underlying t=some (.map k e)∧P.underlying k=some kt.desc∧mJ P e=some n:=by
 unfold uk at h
 split at h
 ·rename_i k e' hd
  split at h<;>cases h
  ·exact⟨k,hd,‹_›,‹_›⟩
  ·exact⟨k,hd,‹_›,‹_›⟩
  ·exact⟨k,hd,‹_›,‹_›⟩
 ·cases h
theorem Iy {kt:KT} {kv:Value} {mk:MK} (h:IN kt kv=some mk):MapKept.IsKey kt.desc kv∧mk.val kt=some kv:=by
 unfold IN at h
 split at h
 ·split at h
  ·rename_i e
   cases h
   subst e
   exact⟨rfl,rfl⟩
  ·cases h
 ·cases h
  exact⟨trivial,rfl⟩
 ·cases h
  exact⟨trivial,rfl⟩
 ·cases h
theorem Yz {kt:KT} {kv:Value} {mk:MK} (h:mk.val kt=some kv):MapKept.IsKey kt.desc kv:=by
 unfold MK.val at h
 split at h<;>cases h
 ·rfl
 ·trivial
 ·trivial
theorem Yl {kt:KT} {kv:Value} {mk mk':MK} (h:mk.val kt=some kv) (h':mk'.val kt=some kv):mk=mk':=by
 unfold MK.val at h h'
 split at h<;>cases h<;>split at h'<;>simp_all
theorem CU {V:Nat→Prop} {N:Nat} {kt:KT} {n:Option Nat} {kv:Value} {mk:MK} (hk:MapKept.IsKey kt.desc kv) (hv:mk.val kt=some kv): ∀{ents:List (MK×List AC)} {es:List MapEntry} {i:Nat},aP (jF w V ι N kt n) ents es→
  (iD ents mk=none∧Instr.findNow kt.desc kv es i=some none)∨ ∃j ps e,iD ents mk=some ps∧Instr.findNow kt.desc kv es i=some (some (i+j,e.val))∧es[j]? =some e∧e.key=kv∧ents[j]? =some (mk,ps)∧ ∀ps',Ct ents mk ps'=ents.set j (mk,ps')
 | [],es,i,h=>by cases h;exact .inl ⟨rfl,rfl⟩
 |(mk0,ps0)::ents,es,i,h=>by
  cases h with
  | @cons _ e _ es h1 h2=>
   obtain⟨r,hr,hiff⟩:=MapKept.sameNow_of_keys hk (Yz h1.1)
   by_cases hm:mk0=mk
   ·subst hm
    have hkv:e.key=kv:=by have:=h1.1.symm.trans hv;simpa using this
    cases r with
    |false=>exact absurd (hiff.2 hkv.symm) (by simp)
    |true=>exact .inr ⟨0,ps0,e,by simp[iD],by simp[Instr.findNow,hr],rfl,hkv,rfl,fun ps'=>by simp[Ct]⟩
   ·cases r with
    |true=>
     have:=hiff.1 rfl
     exact absurd (Yl (this▸h1.1) hv) hm
    |false=>
     rcases CU hk hv (i:=i+1) h2 with⟨k1,k2⟩|⟨j,ps,e',k1,k2,k3,k4,k5,k6⟩
     ·exact .inl ⟨by simp[iD,hm,k1],by simp[Instr.findNow,hr,k2]⟩
     ·exact .inr ⟨j+1,ps,e',by simp[iD,hm,k1],by simp[Instr.findNow,hr,k2];omega,by simpa using k3,k4,by simpa using k5,fun ps'=>by simp[Ct,hm,k6]⟩
theorem NN {mk:MK} {ps:List AC}: ∀{ents:List (MK×List AC)},iD ents mk=none→Ct ents mk ps=ents++ [(mk,ps)]
 | [],_=>rfl
 |(k,v)::r,h=>by
  simp only[iD]at h
  by_cases e:k=mk
  ·rw[if_pos e]at h;cases h
  ·rw[if_neg e]at h
   simp[Ct,e,NN h]
theorem abv {V:Nat→Prop} {N:Nat} {x y:AV} {u v:Value} (hx:aU w V ι N x u) (hy:aU w V ι N y v):aU w V ι N (.tup [x,y]) (.tuple #[u,v]):=by
 refine .tup rfl fun i z hi=> ?_
 cases i with
 |zero=>simp at hi;subst hi;exact hx
 |succ i=>
  cases i with
  |zero=>simp at hi;subst hi;exact hy
  |succ i=>simp at hi
theorem Au {t e:TypeId} {kt:KT} {n:Option Nat} {ok:Bool} {x y:Operand} {z:Value} {zs:List AC} {b clock:Nat} {es:Array MapEntry} {ents:List (MK×List AC)} {kv:Value} {mk:MK} (ho:o.op= .lookup t x y ok) (ht:uk P t=some (kt,e,n)) (hz:eH P e=some z)
  (hzn:aU w (aI w0.heap.size U ι σ.mem) ι σ.nx (ft n zs) z) (hu:a.eval x= .map (some b)) (e2:a.eval y=kv) (hmk:IN kt kv=some mk) (k3:w.heap[b]? =some (.map es clock)) (k4:aP (jF w (aI w0.heap.size U ι σ.mem) ι σ.nx kt n) ents es.toList)
  (h: @t6 _ (iD ents mk) ⟨fun ps=>K (if ok=true then .tup [ft n ps,.c (.pure (.val (.bool true)))]else ft n ps) σ⟩ ⟨K (if ok=true then .tup [ft n zs,.c (.pure (.val (.bool false)))]else ft n zs) σ⟩) (hs:bP w0 U σ ι a w) (hn:fW w0 U a o K next):o.wp P a w next Q:=by
 obtain⟨kty,g1,g2,g3⟩:=vH ht
 obtain⟨q1,q2⟩:=Iy hmk
 have hck: ∀em,(Instr.checkKey em 10000 kty kv).run P w= .ok () w:=fun em=>MapKept.run_checkKey g2 q1 em 9999
 have hz':(zeroValue e).run P w= .ok z w:=by
  unfold eH at hz
  cases hi:P.info? e with
  |none=>simp[hi]at hz
  |some i=>simp[hi]at hz;simp[zeroValue,typeInfo,hi,hz]
 rcases CU q1 q2 (i:=0) k4 with⟨l1,l2⟩|⟨j,ps,en,l1,l2,l3,l4,l5,_⟩
 ·have hfk:=MapKept.run_findKey (w:=w) g2 l2
  have hk:=h.2 l1
  refine aK (u:=if ok=true then .tuple #[z,.bool false]else z) (w':=w) ?_ (hn _ σ ι _ w hk hs ?_)
  ·cases ok<;>simp[execOp,ho,hu,e2,Instr.lookup,run_underlying g1,MapKept.run_getObj_map k3,hck,hfk,hz']
  ·cases ok with
   |false=>exact hzn
   |true=>exact abv hzn (jj _)
 ·have hfk:=MapKept.run_findKey (w:=w) g2 l2
  have hk:=h.1 ps l1
  obtain⟨en',hen,hent⟩:=k4.get l5
  rw[l3]at hen
  cases hen
  have hval:aU w (aI w0.heap.size U ι σ.mem) ι σ.nx (ft n ps) en.val:=hent.2
  refine aK (u:=if ok=true then .tuple #[en.val,.bool true]else en.val) (w':=w) ?_ (hn _ σ ι _ w hk hs ?_)
  ·cases ok<;>simp[execOp,ho,hu,e2,Instr.lookup,run_underlying g1,MapKept.run_getObj_map k3,hck,hfk]
  ·cases ok with
   |false=>exact hval
   |true=>exact abv hval (jj _)
theorem YB {t e:TypeId} {kt:KT} {n:Option Nat} {ok:Bool} {x y:Operand} {m k:AX} {z:Value} {zs:List AC} (ho:o.op= .lookup t x y ok) (ht:uk P t=some (kt,e,n)) (hz:eH P e=some z) (hzs:QG n z=some zs) (hx:aO x=some m) (hy:aO y=some k)
  (h:bD P (.mget kt n zs ok m k) σ K) (hs:bP w0 U σ ι a w) (hn:fW w0 U a o K next):o.wp P a w next Q:=by
 have r1:=aC hx hs
 have r2:=aC hy hs
 have hzn:aU w (aI w0.heap.size U ι σ.mem) ι σ.nx (ft n zs) z:=by
  unfold QG at hzs
  split at hzs
  ·split at hzs
   ·cases hzs;exact .c (zn ‹_›)
   ·cases hzs
  ·split at hzs
   ·exact .agg (pu hzs)
   ·cases hzs
 generalize hu:a.eval x=u at r1
 obtain⟨kty,g1,g2,g3⟩:=vH ht
 simp only[bD]at h
 split at h
 ·rename_i kv ek
  rw[ek]at r2
  have e2:=(bp r2).1
  obtain⟨mk,hmk,h⟩:=h
  obtain⟨q1,q2⟩:=Iy hmk
  simp only at h
  split at h
  ·rename_i nm em
   rw[em]at r1
   split at h
   ·rename_i kt' n' ents hf
    obtain⟨⟨rfl,rfl⟩,h⟩:=h
    cases r1 with
    |c r1=>cases r1 with
     | @mref _ b hnm hι=>
      obtain⟨b',es,clock,k1,k2,k3,k4⟩:=hs.box _ _ hf
      rw[hι]at k1
      simp at k1
      subst k1
      exact Au ho ht hz hzn hu e2 hmk k3 k4 h hs hn
   ·exact h.elim
  ·rename_i kt' n' es em
   obtain⟨⟨rfl,rfl⟩,h⟩:=h
   rw[em]at r1
   cases r1 with
   |c r1=>cases r1 with
    |pure r1=>
     have r0:=r1
     cases r1 with
     |fmap=>
      obtain⟨_,es',clock,k3,k4⟩:=XP (ι:=ι) (N:=σ.nx) r0
      exact Au ho ht hz hzn hu e2 hmk k3 k4 h hs hn
  ·exact h.elim
 ·exact h.elim
theorem bP.setMap (hs:bP w0 U σ ι a w) {nm b:Nat} {bx0:bc} {kt:KT} {n:Option Nat} {ents:List (MK×List AC)} {es:Array MapEntry} {clock:Nat} {o0:Obj} (hf:am σ.mem nm=some bx0) (hι:ι nm= .map (some b)) (h0:w.heap[b]? =some o0)
  (hents:aP (jF w (aI w0.heap.size U ι σ.mem) ι σ.nx kt n) ents es.toList):bP w0 U {σ with mem:=dJ σ.mem nm (.map kt n ents)} ι a {w with heap:=w.heap.setIfInBounds b (.map es clock)}:=by
 have hb:bF (ι nm)=some b:=by rw[hι];rfl
 have hB:=((hs.box _ _ hf).block hb).1
 obtain⟨s1,s2⟩:=MapKept.heap_set (o':= .map es clock) h0
 have hfree: ∀c,aI w0.heap.size U ι σ.mem c→aI w0.heap.size U ι (dJ σ.mem nm (.map kt n ents)) c:=fun c h=>wA.2 h
 have hne: ∀c,aI w0.heap.size U ι σ.mem c→c≠b:=fun c h e=>h.2 _ _ hf (by rw[hb,e])
 have hw: ∀c,c<w.heap.size→aI w0.heap.size U ι σ.mem c→({w with heap:=w.heap.setIfInBounds b (.map es clock)}:World).heap[c]? =w.heap[c]? :=fun c _ h=>s2 c (hne c h)
 have hsub: ∀n' bx',am (dJ σ.mem nm (.map kt n ents)) n'=some bx'→ ∃c,am σ.mem n'=some c:=by
  intro n' bx' h1
  rw[al]at h1
  by_cases e:nm=n'
  ·subst e;exact⟨_,hf⟩
  ·rw[if_neg e]at h1;exact⟨_,h1⟩
 refine⟨fun t=>(hs.val t).mono (fun c _ h=>hfree c h) hw (fun _ _=>rfl) (Nat.le_refl _),hs.defers,fun n' bx' hn=> ?_,fun n' bx' hn=> ?_,fun n' n'' b1 b2 c h1 h2 h3 h4=> ?_,
  hs.below.trans ⟨rfl,rfl,rfl,by simp,fun k hk=>s2 k (by omega)⟩,U.mono _ _ _ _ hs.keep (fun c _ h=>hfree c h) hw,hs.base⟩
 ·obtain⟨c,hc⟩:=hsub _ _ hn
  exact hs.names _ _ hc
 ·rw[al]at hn
  by_cases e:nm=n'
  ·subst e
   rw[if_pos rfl,hf]at hn
   cases hn
   exact⟨b,es,clock,hι,hB,s1,hents.mono fun _ _ h=>h.mono (fun c _ h=>hfree c h) hw (fun _ _=>rfl) (Nat.le_refl _)⟩
  ·rw[if_neg e]at hn
   have hbn: ∀c,bF (ι n')=some c→c≠b:=fun c hc e'=>e (hs.apart _ _ _ _ b hf hn hb (by rw[hc,e']))
   have hold:=hs.box _ _ hn
   cases bx' with
   |var xs=>
    obtain⟨b',vs,T,h1,h2,h3,h4⟩:=hold
    exact⟨b',vs,T,h1,h2,by rw[s2 _ (hbn b' (by rw[h1];rfl))];exact h3,h4.mono fun _ _ h=>h.mono (fun c _ h=>hfree c h) hw (fun _ _=>rfl) (Nat.le_refl _)⟩
   |arr e' sz rows=>
    obtain⟨cells,h0,h1,h2,h3⟩:=hold
    refine⟨cells,h0,World.ownsRow.kept (row:=some b) h1 ⟨rfl,rfl,rfl,by simp,fun k _ hk=>s2 k (fun e=>hk (by rw[e]))⟩ ?_,h2,h3.mono (fun c _ h=>hfree c h) hw⟩
    rcases h1.2 with⟨h,_⟩|⟨g,cap,cur,h,_⟩
    ·rw[h];exact .inl rfl
    ·right
     rw[h]
     intro e'
     simp[Value.ownBlock]at e'
     exact hbn g (by rw[h];rfl) e'
   |arn e' sz rows=>
    obtain⟨cells,h0,h1,h2,h3⟩:=hold
    refine⟨cells,h0,World.ownsRow.kept (row:=some b) h1 ⟨rfl,rfl,rfl,by simp,fun k _ hk=>s2 k (fun e=>hk (by rw[e]))⟩ ?_,h2,h3.mono (fun c _ h=>hfree c h) hw (fun _ _=>rfl) (Nat.le_refl _)⟩
    rcases h1.2 with⟨h,_⟩|⟨g,cap,cur,h,_⟩
    ·rw[h];exact .inl rfl
    ·right
     rw[h]
     intro e'
     simp[Value.ownBlock]at e'
     exact hbn g (by rw[h];rfl) e'
   |map kt' m ents'=>
    obtain⟨b',es',clock',h1,h2,h3,h4⟩:=hold
    exact⟨b',es',clock',h1,h2,by rw[s2 _ (hbn b' (by rw[h1];rfl))];exact h3,h4.mono fun _ _ h=>h.mono (fun c _ h=>hfree c h) hw (fun _ _=>rfl) (Nat.le_refl _)⟩
 ·obtain⟨c1,h1'⟩:=hsub _ _ h1
  obtain⟨c2,h2'⟩:=hsub _ _ h2
  exact hs.apart _ _ _ _ _ h1' h2' h3 h4
theorem aP.set {α β:Type} {R:α→β→Prop} {as:List α} {bs:List β} (h:aP R as bs) (j:Nat) {x:α} {y:β} (hr:R x y):aP R (as.set j x) (bs.set j y):=by
 induction h generalizing j with
 |nil=>exact .nil
 |cons h t ih=>
  cases j with
  |zero=>exact .cons hr t
  |succ j=>exact .cons h (ih j)
theorem QJ {n:Option Nat} {v:AV} {ys:List AC} (hm:CE n v=some ys):ft n ys=v:=by
 unfold CE at hm
 split at hm
 ·cases hm;rfl
 ·split at hm
  ·cases hm;rfl
  ·cases hm
 ·cases hm
theorem Se {t e:TypeId} {kt:KT} {n:Option Nat} {x y v:Operand} {m k q:AX} (ho:o.op= .mapUpdate t x y v∨o.op= .insert t x y v) (ht:uk P t=some (kt,e,n)) (hx:aO x=some m) (hy:aO y=some k) (hv:aO v=some q)
  (h:bD P (.mput kt n m k q) σ K) (hs:bP w0 U σ ι a w) (hn:fW w0 U a o K next):o.wp P a w next Q:=by
 have r1:=aC hx hs
 have r2:=aC hy hs
 have r3:=aC hv hs
 generalize hu:a.eval x=u at r1
 obtain⟨kty,g1,g2,g3⟩:=vH ht
 simp only[bD]at h
 split at h
 ·rename_i kv ek
  rw[ek]at r2
  have e2:=(bp r2).1
  obtain⟨mk,hmk,h⟩:=h
  obtain⟨q1,q2⟩:=Iy hmk
  simp only at h
  split at h
  ·rename_i nm em
   rw[em]at r1
   obtain⟨ys,hys,h⟩:=h
   have hv3:=QJ hys
   simp only at h
   split at h
   ·rename_i kt' n' ents hf
    obtain⟨⟨rfl,rfl⟩,h⟩:=h
    cases r1 with
    |c r1=>cases r1 with
     | @mref _ b hnm hι=>
      obtain⟨b',es,clock,k1,k2,k3,k4⟩:=hs.box _ _ hf
      rw[hι]at k1
      simp at k1
      subst k1
      have hck:(Instr.checkKey false 10000 kty kv).run P w= .ok () w:=MapKept.run_checkKey g2 q1 false 9999
      have hent: ∀born,jF w (aI w0.heap.size U ι σ.mem) ι σ.nx kt' n' (mk,ys) {key:=kv,val:=a.eval v,born:=born}:=fun born=>⟨q2,by show aU _ _ _ _ (ft n' ys) _;rw[hv3];exact r3⟩
      rcases CU q1 q2 (i:=0) k4 with⟨l1,l2⟩|⟨j,ps,en,l1,l2,l3,l4,l5,l6⟩
      ·have hfk:=MapKept.run_findKey (w:=w) g2 l2
       rw[NN l1]at h
       refine oG (w':={w with heap:=w.heap.setIfInBounds b (.map (es.push {key:=kv,val:=a.eval v,born:=clock}) (clock+1))}) ?_ (hn _ _ ι _ _ h (hs.setMap hf hι k3 ?_) iO)
       ·rcases ho with ho|ho<;>simp[execOp,ho,hu,e2,Instr.mapUpdate,run_underlying g1,MapKept.run_getObj_map k3,hck,hfk,MapKept.run_setObj_map _ k3]
       ·rw[Array.toList_push]
        exact k4.append (.cons (hent _) .nil)
      ·have hfk:=MapKept.run_findKey (w:=w) g2 l2
       rw[l6]at h
       have hj:es[j]? =some en:=by simpa using l3
       refine oG (w':={w with heap:=w.heap.setIfInBounds b (.map (es.modify j fun e=>{e with key:=kv,val:=a.eval v}) clock)}) ?_ (hn _ _ ι _ _ h (hs.setMap hf hι k3 ?_) iO)
       ·rcases ho with ho|ho<;>simp[execOp,ho,hu,e2,Instr.mapUpdate,run_underlying g1,MapKept.run_getObj_map k3,hck,hfk,MapKept.run_setObj_map _ k3,hj,l4,MapKept.run_keyThatStays q1]
       ·rw[Array.toList_modify,ChangeMaps.modify_eq_set _ _ _ _ l3]
        exact k4.set j (hent _)
   ·exact h.elim
  ·exact h.elim
 ·exact h.elim
end
open Go.RowKit
section
variable {P : Program} {o : Oper} {a : Act} {w w' w0 : World} {U : Gh} {ι : Pl} {σ : St} {next : Act → World → Prop} {Q : Exit → Act → World → Prop} {K : AV → St → Prop}
theorem y0 {nm:Nat} {rows:List (List PC)}: ∀{mem:List (Nat×bc)} {n:Nat},am (nH nm rows mem) n=if n=nm then none else(am mem n).map (BG nm rows)
 | [],n=>by simp[nH,am]
 |(m,b)::r,n=>by
  simp only[nH]
  by_cases e:m=nm
  ·subst e
   rw[if_pos rfl,y0,bS]
   by_cases e':m=n
   ·subst e';simp
   ·simp[e']
  ·rw[if_neg e,bS,y0,bS]
   by_cases e':m=n
   ·subst e'
    simp[e]
   ·simp[e']
theorem KF {nm:Nat} {rows:List (List PC)}: ∀{fr:List (Nat×AV)} {t:Nat},aN (Ch nm rows fr) t=sH nm rows (aN fr t)
 | [],t=>rfl
 |(s,v)::r,t=>by
  simp only[Ch,aN]
  by_cases e:s=t
  ·rw[if_pos e,if_pos e]
  ·rw[if_neg e,if_neg e,KF]
theorem bZ.frz {V:Nat→Prop} {N nm:Nat} {rows:List (List PC)} {x:AC} {v:Value} (h:bZ w V ι N x v) (hr:cp w V (.slice rows) (ι nm)):bZ w V ι N (iw nm rows x) v:=by
 cases x with
 |ref m=>
  have e:v=ι m:=by cases h;rfl
  simp only[iw]
  by_cases en:m=nm
  ·subst en
   rw[if_pos rfl,e]
   exact .pure hr
  ·rw[if_neg en];exact h
 |_=>exact h
theorem Pc {V:Nat→Prop} {N nm:Nat} {rows:List (List PC)} {xs:List AC} {vs:List Value} (h:aP (bZ w V ι N) xs vs) (hr:cp w V (.slice rows) (ι nm)):aP (bZ w V ι N) (xs.map (iw nm rows)) vs:=by
 induction h with
 |nil=>exact .nil
 |cons h _ ih=>exact .cons (h.frz hr) ih
theorem aU.frz {V:Nat→Prop} {N nm:Nat} {rows:List (List PC)} {x:AV} {v:Value} (h:aU w V ι N x v) (hr:cp w V (.slice rows) (ι nm)):aU w V ι N (sH nm rows x) v:=by
 cases h with
 |c h=>exact .c (h.frz hr)
 |agg h=>exact .agg (Pc h hr)
 |tup hl h=>exact .tup hl h
 |top=>exact .top
theorem W6 {nm:Nat} {rows:List (List PC)} {n:Option Nat} {ps:List AC}:ft n (ps.map (iw nm rows))=sH nm rows (ft n ps):=by
 cases n with
 |none=>cases ps<;>rfl
 |some k=>rfl
theorem Wv {V:Nat→Prop} {N nm:Nat} {rows:List (List PC)} {kt:KT} {n:Option Nat} {xs:List (MK×List AC)} {es:List MapEntry} (h:aP (jF w V ι N kt n) xs es) (hr:cp w V (.slice rows) (ι nm)):aP (jF w V ι N kt n) (xs.map fun x=>(x.1,x.2.map (iw nm rows))) es:=by
 induction h with
 |nil=>exact .nil
 |cons h _ ih=>exact .cons ⟨h.1,by show aU _ _ _ _ (ft n (List.map _ _)) _;rw[W6];exact h.2.frz hr⟩ ih
theorem T8 {V:Nat→Prop} {N nm sz:Nat} {rows:List (List PC)} {rs:List (List AC)} {cells:List Value} (h:gN w V ι N sz rs cells) (hr:cp w V (.slice rows) (ι nm)):gN w V ι N sz (rs.map fun r=>r.map (iw nm rows)) cells:=by
 refine⟨by rw[List.length_map];exact h.1,fun i row hi=> ?_,fun i row j p hi hj=> ?_⟩
 ·rw[List.getElem?_map,Option.map_eq_some_iff]at hi
  obtain⟨r,hi,rfl⟩:=hi
  rw[List.length_map]
  exact h.2.1 _ _ hi
 ·rw[List.getElem?_map,Option.map_eq_some_iff]at hi
  obtain⟨r,hi,rfl⟩:=hi
  rw[List.getElem?_map,Option.map_eq_some_iff]at hj
  obtain⟨x,hj,rfl⟩:=hj
  obtain⟨v,hv,hp⟩:=h.2.2 i r j x hi hj
  exact⟨v,hv,hp.frz hr⟩
theorem bP.frz (hs:bP w0 U σ ι a w) {nm e sz:Nat} {rows:List (List PC)} (hf:am σ.mem nm=some (.arr e sz rows)):bP w0 U (σ.frz nm rows) ι a w∧cp w (aI w0.heap.size U ι (σ.frz nm rows).mem) (.slice rows) (ι nm)∧ ∀b,aI w0.heap.size U ι σ.mem b→aI w0.heap.size U ι (σ.frz nm rows).mem b:=by
 have hex: ∃a n c,ι nm= .slice a n c:=by
  obtain⟨cells,g0,g1,g2,g3⟩:=hs.box _ _ hf
  rcases g1.2 with⟨e1,e2⟩|⟨g,cap,cur,e1,hB,_⟩
  ·exact⟨_,_,_,e1⟩
  ·exact⟨_,_,_,e1⟩
 obtain⟨hs1,hr1,hfr1⟩:=Ol (x:= .ref nm) (p:= .slice rows) (mem':=mz σ.mem nm) hs (.ref (hs.names _ _ hf) hex) (by simp[WY,hf])
 have hsome: ∀n bx,am (nH nm rows σ.mem) n=some bx→ ∃bx',am (mz σ.mem nm) n=some bx'∧bx=BG nm rows bx':=by
  intro n bx h
  rw[y0]at h
  rw[iS]
  by_cases en:n=nm
  ·rw[if_pos en]at h;cases h
  ·rw[if_neg en]at h ⊢
   cases hq:am σ.mem n with
   |none=>simp[hq]at h
   |some b=>simp[hq]at h;exact⟨b,rfl,h.symm⟩
 have hfr2: ∀b,aI w0.heap.size U ι (mz σ.mem nm) b→aI w0.heap.size U ι (nH nm rows σ.mem) b:=fun b h=>⟨h.1,fun n bx hn=>by
  obtain⟨bx',h1,_⟩:=hsome n bx hn
  exact h.2 n bx' h1⟩
 have hr2:cp w (aI w0.heap.size U ι (nH nm rows σ.mem)) (.slice rows) (ι nm):=hr1.mono (fun b _ h=>hfr2 b h) (fun _ _ _=>rfl)
 refine⟨⟨fun t=> ?_,hs.defers,fun n bx hn=> ?_,fun n bx hn=> ?_,fun n n' b1 b2 b h1 h2 h3 h4=> ?_,hs.below, ?_,hs.base⟩,hr2,fun b h=>hfr2 b (hfr1 b h)⟩
 ·show aU w _ ι σ.nx (aN (Ch nm rows σ.fr) t) _
  rw[KF]
  exact((hs1.val t).mono (fun b _ h=>hfr2 b h) (fun _ _ _=>rfl) (fun _ _=>rfl) (Nat.le_refl _)).frz hr2
 ·obtain⟨bx',h1,_⟩:=hsome n bx hn
  exact hs1.names _ _ h1
 ·obtain⟨bx',h1,rfl⟩:=hsome n bx hn
  have h2:=(hs1.box _ _ h1).grow (Below.refl _ _) (fun b _ h=>hfr2 b h) (fun _ _=>rfl) (Nat.le_refl _) (hs1.names _ _ h1)
  cases bx' with
  |var xs=>
   obtain⟨b,vs,T,k1,k2,k3,k4⟩:=h2
   exact⟨b,vs,T,k1,k2,k3,Pc k4 hr2⟩
  |arr e sz rows=>exact h2
  |arn e sz rs=>
   obtain⟨cells,k0,k1,k2,k3⟩:=h2
   exact⟨cells,k0,by rw[List.length_map];exact k1,by rw[List.length_map];exact k2,T8 k3 hr2⟩
  |map kt n ents=>
   obtain⟨b,es,clock,k1,k2,k3,k4⟩:=h2
   exact⟨b,es,clock,k1,k2,k3,Wv k4 hr2⟩
 ·obtain⟨_,g1,_⟩:=hsome _ _ h1
  obtain⟨_,g2,_⟩:=hsome _ _ h2
  exact hs1.apart _ _ _ _ _ g1 g2 h3 h4
 ·exact U.mono _ _ _ _ hs1.keep (fun b _ h=>hfr2 b h) (fun _ _ _=>rfl)
theorem wu: ∀{l:List Nat} {σ σ':St} {args args':List AV} {us:List Value},bP w0 U σ ι a w→aP (aU w (aI w0.heap.size U ι σ.mem) ι σ.nx) args us→aR l σ args=(σ',args')→
  bP w0 U σ' ι a w∧aP (aU w (aI w0.heap.size U ι σ'.mem) ι σ'.nx) args' us
 | [],σ,σ',args,args',us,hs,hr,h=>by cases h;exact⟨hs,hr⟩
 |nm::l,σ,σ',args,args',us,hs,hr,h=>by
  simp only[aR]at h
  split at h
  ·rename_i hf
   obtain⟨h1,h2,h3⟩:=hs.frz hf
   refine wu h1 ?_ h
   clear h
   generalize hl:us=us' at*
   clear hl
   induction hr with
   |nil=>exact .nil
   |cons hr _ ih=>exact .cons ((hr.mono (fun b _ h=>h3 b h) (fun _ _ _=>rfl) (fun _ _=>rfl) (Nat.le_refl _)).frz h2) ih
  ·cases h;exact⟨hs,hr⟩
def iP:ET→Value→Prop
 | .int k,.int k' _=>k'=k
 | .str,.string _=>True
 | .bool,.bool _=>True
 |_,_=>False
theorem wG: ∀{l:List ET} {xs ys:List AC},sr l xs ys→ ∃us vs,xs=us.map (fun u=> .pure (.val u))∧ys=vs.map (fun u=> .pure (.val u))∧aP iP l us∧aP iP l vs∧(Dw xs ys↔us=vs)
 |[],xs,ys,h=>by
  unfold sr at h
  split at h
  ·exact⟨[], [],rfl,rfl,.nil,.nil,by simp[Dw]⟩
  ·contradiction
  ·contradiction
  ·contradiction
  ·exact h.elim
 |e::l,xs,ys,h=>by
  unfold sr at h
  split at h
  ·contradiction
  ·rename_i k l' k1 a xs' k2 b ys' e
   cases e
   obtain⟨rfl,rfl,h⟩:=h
   obtain⟨us,vs,rfl,rfl,h1,h2,h3⟩:=wG h
   exact⟨_::us,_::vs,rfl,rfl,.cons rfl h1,.cons rfl h2,by simp[Dw,h3]⟩
  ·rename_i l' a xs' b ys' e
   cases e
   obtain⟨us,vs,rfl,rfl,h1,h2,h3⟩:=wG h
   exact⟨_::us,_::vs,rfl,rfl,.cons trivial h1,.cons trivial h2,by simp[Dw,h3]⟩
  ·rename_i l' a xs' b ys' e
   cases e
   obtain⟨us,vs,rfl,rfl,h1,h2,h3⟩:=wG h
   exact⟨_::us,_::vs,rfl,rfl,.cons trivial h1,.cons trivial h2,by simp[Dw,h3]⟩
  ·exact h.elim
def Sv (P:Program) (t:TypeId) (us:List Value):Option Value:=match P.underlying t with
 |some (.struct _)=>some (.agg us.toArray)
 |_=>match us with
  | [u]=>some u
  |_=>none
def EqS (P:Program) (dd:Nat) (t:TypeId) (l:List ET):Prop:= ∀(w:World) us vs a b,Sv P t us=some a→Sv P t vs=some b→aP iP l us→aP iP l vs→ ∃r:Bool,(Op.equalIn dd t a b).run P w= .ok r w∧(r=true↔us=vs)
theorem Rw {n:Nat} {t:TypeId} {l:List ET} (h:MD P n t=some l) (hi:(P.info? t).map (·.size)=some l.length) {xs:Array Value} {off:Nat} (hl:off+l.length≤xs.size): ∃a,(part t xs off).run P w= .ok a w∧Sv P t ((xs.toList.drop off).take l.length)=some a:=by
 cases n with
 |zero=>cases h
 |succ n=>
  have hget: ∀(hl1:l.length=1),∃u,xs[off]? =some u∧(xs.toList.drop off).take l.length= [u]:=by
   intro hl1
   have hlt:off<xs.size:=by omega
   refine⟨xs[off],Array.getElem?_eq_getElem hlt, ?_⟩
   rw[hl1,List.drop_eq_getElem_cons (by simpa using hlt)]
   simp
  unfold MD at h
  split at h
  ·rename_i k hu
   cases h
   obtain⟨u,h1,h2⟩:=hget rfl
   exact⟨u,run_part_plain w (by simp[Program.plainKey,hu]) h1,by rw[h2];simp[Sv,hu]⟩
  ·rename_i hu
   cases h
   obtain⟨u,h1,h2⟩:=hget rfl
   exact⟨u,run_part_plain w (by simp[Program.plainKey,hu]) h1,by rw[h2];simp[Sv,hu]⟩
  ·rename_i hu
   cases h
   obtain⟨u,h1,h2⟩:=hget rfl
   exact⟨u,run_part_plain w (by simp[Program.plainKey,hu]) h1,by rw[h2];simp[Sv,hu]⟩
  ·rename_i fs hu
   obtain⟨i,hi2⟩:=info_of_underlying hu
   rw[hi2]at hi
   simp at hi
   refine⟨.agg (xs.extract off (off+l.length)),by simp[part,isAgg,run_underlying hu,sizeOf,typeInfo,hi2,hi], ?_⟩
   simp only[Sv,hu]
   congr 2
   apply Array.ext'
   simp[List.take_drop]
  ·cases h
theorem KH {n dd:Nat} (ih: ∀t l,MD P n t=some l→EqS P dd t l) (xs ys:Array Value): ∀{fs:List Field} {off:Nat} {l:List ET},off≤xs.size→off≤ys.size→Mm P (MD P n) fs off=some l→aP iP l (xs.toList.drop off)→aP iP l (ys.toList.drop off)→
  ∃r:Bool,(Op.eqFields dd xs ys fs).run P w= .ok r w∧(r=true↔xs.toList.drop off=ys.toList.drop off)
 |[],off,l,ox,oy,h,hx,hy=>by
  cases h
  cases hx':xs.toList.drop off with
  |cons=>rw[hx']at hx;cases hx
  |nil=>
   cases hy':ys.toList.drop off with
   |cons=>rw[hy']at hy;cases hy
   |nil=>exact⟨true,by simp[Op.eqFields],by simp⟩
 |fd::fs,off,l,ox,oy,h,hx,hy=>by
  unfold Mm at h
  split at h
  ·cases h
  ·rename_i hno
   have hname : fd.name ≠ "_" := fun e => hno (.inl e)
   have hoff:fd.offset=off:=Classical.byContradiction fun e=>hno (.inr e)
   split at h
   ·rename_i l1 hl1
    split at h
    ·rename_i hsz
     simp only[Option.map_eq_some_iff]at h
     obtain⟨l2,h2,rfl⟩:=h
     have lx:=hx.length
     have ly:=hy.length
     simp only[List.length_append,List.length_drop,Array.length_toList]at lx ly
     obtain⟨a,pa,va⟩:=Rw (w:=w) hl1 hsz (xs:=xs) (off:=off) (by omega)
     obtain⟨b,pb,vb⟩:=Rw (w:=w) hl1 hsz (xs:=ys) (off:=off) (by omega)
     have tk: ∀{zs:List Value},aP iP (l1++l2) zs→aP iP l1 (zs.take l1.length)∧aP iP l2 (zs.drop l1.length):=fun hz=>by
      have h1:=hz.take l1.length
      have h2:=hz.drop l1.length
      simp only[List.take_left,List.drop_left]at h1 h2
      exact⟨h1,h2⟩
     obtain⟨r,hr,hiff⟩:=ih _ _ hl1 w _ _ a b va vb (tk hx).1 (tk hy).1
     obtain⟨r2,hr2,hiff2⟩:=KH ih xs ys (by omega) (by omega) h2 (by rw[←List.drop_drop];exact(tk hx).2) (by rw[←List.drop_drop];exact(tk hy).2)
     have key:(xs.toList.drop off=ys.toList.drop off)↔((xs.toList.drop off).take l1.length=(ys.toList.drop off).take l1.length∧xs.toList.drop (off+l1.length)=ys.toList.drop (off+l1.length)):=by
      constructor
      ·intro e
       rw[e,←List.drop_drop,←List.drop_drop,e]
       exact⟨rfl,rfl⟩
      ·rintro⟨e1,e2⟩
       rw[←List.take_append_drop l1.length (xs.toList.drop off),←List.take_append_drop l1.length (ys.toList.drop off),List.drop_drop,List.drop_drop,e1,e2]
     simp only[Op.eqFields,hname,hoff,ne_eq,not_false_eq_true,if_true,Sem.run_bind,pa,pb,hr,Result.andThen_ok]
     cases r
     ·exact⟨false,by simp,by rw[key];simp;intro e;exact absurd (hiff.2 e) (by simp)⟩
     ·refine⟨r2,by simpa using hr2, ?_⟩
      rw[key,hiff2]
      simp[hiff.1 rfl]
    ·cases h
   ·cases h
theorem Gs: ∀{n d:Nat} {t:TypeId} {l:List ET},MD P n t=some l→EqS P (d+n) t l
 |0,d,t,l,h=>by cases h
 |n+1,d,t,l,h=>by
  intro w us vs a b ha hb hx hy
  unfold MD at h
  split at h
  ·rename_i k hu
   cases h
   cases hx with|cons h1 t1=>cases t1;cases hy with|cons h2 t2=>
    cases t2
    simp only[Sv,hu,Option.some.injEq]at ha hb
    subst ha;subst hb
    rename_i u v
    cases u<;>simp[iP]at h1
    cases v<;>simp[iP]at h2
    subst h1;subst h2
    exact⟨_,run_equalIn_int w (d+n) t _ _ _ _ hu,by simp⟩
  ·rename_i hu
   cases h
   cases hx with|cons h1 t1=>cases t1;cases hy with|cons h2 t2=>
    cases t2
    simp only[Sv,hu,Option.some.injEq]at ha hb
    subst ha;subst hb
    rename_i u v
    cases u<;>simp[iP]at h1
    cases v<;>simp[iP]at h2
    refine⟨_,run_equalIn_string w (d+n) t _ _ hu, ?_⟩
    rename_i s s'
    obtain⟨⟨s⟩⟩:=s
    obtain⟨⟨s'⟩⟩:=s'
    simp[ByteArray.toList_eq]
  ·rename_i hu
   cases h
   cases hx with|cons h1 t1=>cases t1;cases hy with|cons h2 t2=>
    cases t2
    simp only[Sv,hu,Option.some.injEq]at ha hb
    subst ha;subst hb
    rename_i u v
    cases u<;>simp[iP]at h1
    cases v<;>simp[iP]at h2
    exact⟨_,run_equalIn_bool' w (d+n) t _ _ hu,by simp⟩
  ·rename_i fs hu
   split at h
   ·cases h
   ·rename_i hst
    simp only[Sv,hu,Option.some.injEq]at ha hb
    subst ha;subst hb
    have hfs:P.fieldsOf t=fs:=by simp[Program.fieldsOf,hu]
    obtain⟨r,hr,hiff⟩:=KH (w:=w) (dd:=d+n) (fun t l h=>Gs h) us.toArray vs.toArray (Nat.zero_le _) (Nat.zero_le _) h (by simpa using hx) (by simpa using hy)
    refine⟨r, ?_,by simpa using hiff⟩
    rw[show d+(n+1)=(d+n)+1 from rfl,run_equalIn_struct w (d+n) t _ _ (by rw[hfs];exact hu) (by simpa using hst),hfs]
    exact hr
  ·cases h
theorem sw {V:Nat→Prop} {N:Nat}: ∀{us:List Value} {vs:List Value},aP (bZ w V ι N) (us.map fun u=> .pure (.val u)) vs→vs=us
 | [],vs,h=>by cases h;rfl
 |u::us,vs,h=>by
  cases h with
  |cons h1 t=>
   cases h1 with
   |pure h1=>cases h1 with
    |val=>rw[sw t]
theorem XF {op:BinOp} {t t':TypeId} {x y:Operand} {p q:AX} {neg:Bool} {l:List ET} (hop:(op= .eql∧neg=false)∨(op= .neq∧neg=true)) (hst:Ah P t=true) (hl:Sm P t=some l) (ho:o.op= .binOp op t x y t') (hx:aO x=some p) (hy:aO y=some q)
  (h:bD P (.eqs neg l p q) σ K) (hs:bP w0 U σ ι a w) (hn:fW w0 U a o K next):o.wp P a w next Q:=by
 have r1:=aC hx hs
 have r2:=aC hy hs
 simp only[bD]at h
 split at h
 ·rename_i xs ys e e'
  rw[e]at r1
  rw[e']at r2
  obtain⟨hk,h⟩:=h
  obtain⟨us,vs,rfl,rfl,f1,f2,f3⟩:=wG hk
  generalize hu:a.eval x=u at r1
  generalize hv:a.eval y=v at r2
  cases r1 with
  | @agg _ cu r1=>
   cases r2 with
   | @agg _ cv r2=>
    have e1:=sw r1
    have e2:=sw r2
    obtain rfl:cu=us.toArray:=by apply Array.ext';simpa using e1
    obtain rfl:cv=vs.toArray:=by apply Array.ext';simpa using e2
    unfold Sm at hl
    split at hl
    ·cases hl
    ·rename_i hgt
     unfold Ah at hst
     split at hst
     ·rename_i fs hT
      obtain⟨r,hr,hiff⟩:=Gs (d:=9994) hl w us vs (.agg us.toArray) (.agg vs.toArray) (by simp[Sv,hT]) (by simp[Sv,hT]) f1 f2
      have hr':(Op.equal t (.agg us.toArray) (.agg vs.toArray)).run P w= .ok r w:=hr
      have hdec:BI (Dw (us.map fun u=> .pure (.val u)) (vs.map fun u=> .pure (.val u)))=r:=by
       unfold BI
       cases r
       ·exact @decide_eq_false _ (Classical.propDecidable _) (fun hp=>by have:=hiff.2 (f3.1 hp);cases this)
       ·exact @decide_eq_true _ (Classical.propDecidable _) (f3.2 (hiff.1 rfl))
      rw[hdec]at h
      have hg:(eqGuard op t x y (.agg us.toArray) (.agg vs.toArray)).run P w= .ok () w:=by
       unfold eqGuard
       cases op<;>simp[hgt]
      refine aK (u:= .bool (r !=neg)) (w':=w) ?_ (hn _ σ ι _ w h hs (jj _))
      simp only[execOp,ho,hu,hv]
      rw[Sem.run_bind,Sem.run_bind,hg]
      rcases hop with⟨rfl,rfl⟩|⟨rfl,rfl⟩<;>simp[binOp,hr']
     ·cases hst
 ·exact h.elim
theorem X6 {f:Operand} {args:List Operand} {p:AX} {xs:List AX} {c:Call} (hc:c.callee= .value f) (hargs:c.args.toList=args) (ho:o.op= .call c) (hf:aO f=some p) (hx:mu args=some xs) {bg zg:Bool} (h:bD P (.call bg zg p xs) σ K) (hs:bP w0 U σ ι a w) (hn:fW w0 U a o K next):o.wp P a w next Q:=by
 have r1:=aC hf hs
 generalize hu:a.eval f=u at r1
 simp only[bD]at h
 split at h
 ·rename_i g caps e
  rw[e]at r1
  cases r1 with
  |c r1=>cases r1 with
   |clo hl hcap=>
    rename_i cv
    have hB:=hs.below.size
    have hall:aP (aU w (aI w0.heap.size U ι σ.mem) ι σ.nx) (xs.map (·.ev σ.fr)++caps.map .c) (args.map a.eval++cv.toList):=by
     refine(GA hs hx).append (aP.of_get (by simpa using hl) fun i x v hi hv=> ?_)
     rw[List.getElem?_map]at hi
     cases ec:caps[i]? with
     |none=>simp[ec]at hi
     |some y=>
      simp[ec]at hi
      subst hi
      have:=hcap i y ec
      rw[hv]at this
      exact .c this
    have hvs:(args.map a.eval++cv.toList)=((args.map a.eval).toArray++cv).toList:=by simp
    rw[hvs]at hall
    obtain⟨l,σ',args',-,hz,h⟩:=h
    obtain⟨hs,hall⟩:=wu hs hall hz
    clear hz hcap hl
    revert hs hall h
    generalize σ'=σ at*
    intro h hs hall
    have hB:=hs.below.size
    have hargv:c.args.map a.eval=(args.map a.eval).toArray:=by rw[←hargs];apply Array.ext';simp
    have hexec:m8 P g→(execOp a.eval o).run P w= .ok (.enter g ((args.map a.eval).toArray++cv)) w:=by
     rintro⟨fn,hfn,hbody,hname⟩
     have hb: ¬fn.body=none:=by intro e;rw[e]at hbody;cases hbody
     have hname' : ¬ fn.name = "runtime.NumGoroutine" := by intro e; rw [e] at hname; simp at hname
     simp[execOp,ho,resolve,hc,hu,Deferred.ofValue,invoke,callFunc,hfn,hname',hb,hargv]
    have fresh: ∀{res:AV} {v:Value} {w1:World},Below w.heap.size w w1→aU w1 (fun b=>w.heap.size≤b) (fun _=>undef) 0 res v→aU w1 (aI w0.heap.size U ι σ.mem) ι σ.nx res v:=by
     intro res v w1 hb hr
     refine hr.mono (fun b hlt h=>⟨.inr (by omega),fun nm bx hf e=> ?_⟩) (fun _ _ _=>rfl) (fun nm hnm=>by omega) (Nat.zero_le _)
     have:=((hs.box _ _ hf).block e).2
     omega
    rcases h with⟨pargs,hpur,res,hcs,hK⟩|⟨rfl,res,mem',nx',⟨hthere,hcalls⟩,hK⟩
    ·have hthere:m8 P g:=by rcases hcs with⟨h,_⟩|h<;>exact h.1
     unfold Oper.wp
     rw[hexec hthere]
     show Calls P g _ w _
     rcases hcs with⟨⟨_,hcalls⟩,hflat|hnoref⟩|⟨_,hcalls⟩
     ·have hc2:=hcalls w (fun _=>True) _ hs.glob (nl (V:=fun _=>True) hs hall (fun _ _=>trivial) (.inr fun _ _=>trivial) hpur)
      refine hc2.mono ?_
      rintro e w1 ⟨v,rfl,hr,hb⟩
      exact hn _ σ ι _ w1 hK (hs.grow hb) (TN hr hflat)
     ·have hc2:=hcalls w (aI w0.heap.size U ι σ.mem) _ hs.glob (nl (V:=aI w0.heap.size U ι σ.mem) hs hall (fun _ h=>h) (.inl hnoref) hpur)
      refine hc2.mono ?_
      rintro e w1 ⟨v,rfl,hr,hb⟩
      refine hn _ σ ι _ w1 hK (hs.grow hb) (hr.mono (fun b hlt h=> ?_) (fun _ _ _=>rfl) (fun nm hnm=>by omega) (Nat.zero_le _))
      rcases h with h|h
      ·exact h
      ·refine⟨.inr (by omega),fun nm bx hf e=> ?_⟩
       have:=((hs.box _ _ hf).block e).2
       omega
     ·have hc2:=hcalls w (fun _=>True) _ hs.glob (nl (V:=fun _=>True) hs hall (fun _ _=>trivial) (.inr fun _ _=>trivial) hpur)
      refine hc2.mono ?_
      rintro e w1 ⟨v,rfl,hr,hb⟩
      exact hn _ σ ι _ w1 hK (hs.grow hb) (fresh hb hr)
    ·unfold Oper.wp
     rw[hexec hthere]
     show Calls P g _ w _
     let U':Gh:=⟨U.p,ι,fun w V=>U.G w V∧ ∀t,aU w V ι σ.nx (aN σ.fr t) (a.tmps.getD t undef),fun w w' V V' h hU hw=>⟨U.mono w w' V V' h.1 hU hw,fun t=>(h.2 t).mono hU hw (fun _ _=>rfl) (Nat.le_refl _)⟩⟩
     have hs':bP w0 U' ⟨[],σ.mem,σ.nx,σ.nx⟩ ι {tmps:= #[],defers:= []} w:=⟨fun t=> .top,⟨rfl,hs.defers.2⟩,hs.names,hs.box,hs.apart,hs.below,⟨hs.keep,hs.val⟩,⟨Nat.le_refl _,fun _ _=>rfl⟩⟩
     refine(hcalls w0 U' ι w _ hs' hall).mono ?_
     rintro e w1 ⟨v,ι',rfl,hsim,hr⟩
     have hle:σ.nx≤nx':=hsim.base.1
     refine hn _ _ ι' _ w1 hK ⟨fun t=> ?_,hs.defers,hsim.names,hsim.box,hsim.apart,hsim.below,hsim.keep.1,⟨Nat.le_trans hs.base.1 hle,fun nm hnm=> ?_⟩⟩ hr
     ·exact(hsim.keep.2 t).mono (fun _ _ h=>h) (fun _ _ _=>rfl) (fun nm hnm=>hsim.base.2 nm hnm) hle
     ·exact(hsim.base.2 nm (Nat.lt_of_lt_of_le hnm hs.base.1)).trans (hs.base.2 nm hnm)
 ·exact h.elim
end
end Go.Abs
