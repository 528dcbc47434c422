import Derived.WalkKit
import Derived.WalkSpells
import Derived.Below
import Derived.Lib.Space
import Derived.MapKept
import Derived.Carry
import Derived.Laws.StructEq
import Derived.ChangeKeysEq
import Derived.DeepKeys
set_option linter.unusedVariables false
set_option linter.unusedSimpArgs false
namespace Go.Abs
open Go.RowKit
inductive KT where
 |int (k:IntKind)
 |str
 |bool
inductive MK where
 |int (n:Int)
 |str (s:List UInt8)
 |bool (b:Bool)
 deriving DecidableEq
inductive PC where
 |val (v:Value)
 |slice (rows:List (List PC))
 |fmap (kt:KT) (n:Option Nat) (ents:List (MK×List PC))
inductive AC where
 |pure (p:PC)
 |nils
 |tsl (rows:List (List PC))
 |ptr (nm off:Nat)
 |eptr (nm sz row off:Nat)
 |cptr (cells:List PC)
 |ref (nm:Nat)
 |clo (f:FuncId) (caps:List AC)
 |mref (nm:Nat)
 |top
inductive AV where
 |c (x:AC)
 |agg (xs:List AC)
 |tup (xs:List AV)
 |top
def MK.val:KT→MK→Option Value
 | .int k,.int n=>some (.int k n)
 | .str,.str s=>some (.string ⟨⟨s⟩⟩)
 | .bool,.bool b=>some (.bool b)
 |_,_=>none
def FY:KT→Value→Option MK
 | .int k,.int k' n=>if k=k' then some (.int n)else none
 | .str,.string s=>some (.str s.data.toList)
 | .bool,.bool b=>some (.bool b)
 |_,_=>none
inductive bk where
 |var (xs:List AC)
 |arr (e sz:Nat) (rows:List (List PC))
 |arn (e sz:Nat) (rows:List (List AC))
 |map (kt:KT) (n:Option Nat) (ents:List (MK×List AC))
structure St where
 fr:List (Nat×AV)
 mem:List (Nat×bk)
 nx:Nat
 base:Nat
def qK:Value→Bool
 | .bool _| .int _ _| .float _ _| .string _| .pointer none| .map none| .nilFunc| .nilIface| .func (.yield _) _ _=>true
 |_=>false
inductive aM {α β:Type} (R:α→β→Prop):List α→List β→Prop
 |nil:aM R [] []
 |cons {a:α} {b:β} {as:List α} {bs:List β} (h:R a b) (t:aM R as bs):aM R (a::as) (b::bs)
theorem aM.length {α β:Type} {R:α→β→Prop} {as:List α} {bs:List β} (h:aM R as bs):as.length=bs.length:=by
 induction h with
 |nil=>rfl
 |cons _ _ ih=>simp[ih]
theorem aM.mono {α β:Type} {R S:α→β→Prop} {as:List α} {bs:List β} (h:aM R as bs) (hs: ∀a b,R a b→S a b):aM S as bs:=by
 induction h with
 |nil=>exact .nil
 |cons h _ ih=>exact .cons (hs _ _ h) ih
theorem aM.get {α β:Type} {R:α→β→Prop} {as:List α} {bs:List β} (h:aM R as bs) {i:Nat} {a:α} (ha:as[i]? =some a): ∃b,bs[i]? =some b∧R a b:=by
 induction h generalizing i with
 |nil=>simp at ha
 |cons h _ ih=>
  cases i with
  |zero=>simp at ha;subst ha;exact⟨_,rfl,h⟩
  |succ i=>simp at ha;exact ih ha
theorem aM.of_get {α β:Type} {R:α→β→Prop}: ∀{as:List α} {bs:List β},as.length=bs.length→(∀(i:Nat) a b,as[i]? =some a→bs[i]? =some b→R a b)→aM R as bs
 | [], [],_,_=> .nil
 |a::as,b::bs,hl,h=> .cons (h 0 a b rfl rfl) (aM.of_get (by simpa using hl) λi x y hx hy=>h (i+1) x y hx hy)
theorem aM.append {α β:Type} {R:α→β→Prop} {as as':List α} {bs bs':List β} (h:aM R as bs) (h':aM R as' bs'):aM R (as++as') (bs++bs'):=by
 induction h with
 |nil=>exact h'
 |cons h _ ih=>exact .cons h ih
theorem aM.drop {α β:Type} {R:α→β→Prop} {as:List α} {bs:List β} (h:aM R as bs) (n:Nat):aM R (as.drop n) (bs.drop n):=by
 induction h generalizing n with
 |nil=>simp;exact .nil
 |cons h t ih=>
  cases n with
  |zero=>exact .cons h t
  |succ n=>exact ih n
theorem aM.take {α β:Type} {R:α→β→Prop} {as:List α} {bs:List β} (h:aM R as bs) (n:Nat):aM R (as.take n) (bs.take n):=by
 induction h generalizing n with
 |nil=>simp;exact .nil
 |cons h t ih=>
  cases n with
  |zero=>exact .nil
  |succ n=>exact .cons h (ih n)
def GJ (n:Option Nat) (v:Value):List Value:=match n,v with
 |none,v=> [v]
 |some _,.agg vs=>vs.toList
 |some _,_=> []
inductive co (w:World) (U:Nat→Prop):PC→Value→Prop
 |val {v:Value} (h:qK v=true):co w U (.val v) v
 |slice {sz:Nat} {rows:List (List PC)} {a:Option Addr} {n c:Nat} (g:Nat→Nat→Value) (hn:n=rows.length) (hc:n≤c) (hm:n≤9223372036854775807)
   (hr: ∀(i:Nat) row,rows[i]? =some row→row.length=sz)
   (hcell: ∀(i:Nat) (row:List PC) (j:Nat) p,rows[i]? =some row→row[j]? =some p→ ∃b off,a=some ⟨b,off,none⟩∧U b∧w.cell? ⟨b,off+(i*sz+j),none⟩=some (g i j))
   (hp: ∀(i:Nat) (row:List PC) (j:Nat) p,rows[i]? =some row→row[j]? =some p→co w U p (g i j)):co w U (.slice rows) (.slice a n c)
 |fmap {kt:KT} {n:Option Nat} {ents:List (MK×List PC)} {b clock:Nat} {es:Array MapEntry} (hb:U b) (hm:w.heap[b]? =some (.map es clock)) (hl:ents.length=es.size)
   (hk: ∀(i:Nat) x e,ents[i]? =some x→es.toList[i]? =some e→x.1.val kt=some e.key∧(n.isSome=true→ ∃vs,e.val= .agg vs)∧x.2.length=(GJ n e.val).length)
   (hp: ∀(i:Nat) x e (j:Nat) p v,ents[i]? =some x→es.toList[i]? =some e→x.2[j]? =some p→(GJ n e.val)[j]? =some v→co w U p v):co w U (.fmap kt n ents) (.map (some b))
theorem co.mono {w w':World} {U U':Nat→Prop} {p:PC} {v:Value} (h:co w U p v) (hU: ∀b,b<w.heap.size→U b→U' b)
  (hw: ∀b,b<w.heap.size→U b→w'.heap[b]? =w.heap[b]?):co w' U' p v:=by
 induction h with
 |val h=>exact .val h
 |slice g hn hc hm hr hcell hp ih=>
  refine .slice g hn hc hm hr (λi row j p h1 h2=> ?_) ih
  obtain⟨b,off,ha,hb,qm⟩:=hcell i row j p h1 h2
  have H:b<w.heap.size:=World.block_lt_of_cell? w _ qm
  exact⟨b,off,ha,hU b H hb,by rw[World.cell?_of_block (hw b H hb)];exact qm⟩
 |fmap hb hm hl hk hp ih=>
  have H:=(Array.getElem?_eq_some_iff.1 hm).1
  exact .fmap (hU _ H hb) (by rw[hw _ H hb];exact hm) hl hk ih
abbrev Pl:=Nat→Value
inductive b7 (w:World) (U:Nat→Prop) (ι:Pl) (N:Nat):AC→Value→Prop
 |pure {p:PC} {v:Value} (h:co w U p v):b7 w U ι N (.pure p) v
 |nils:b7 w U ι N .nils (.slice none 0 0)
 |tsl {rows:List (List PC)} {a:Option Addr} {n:Nat} (h:co w U (.slice rows) (.slice a n n)):b7 w U ι N (.tsl rows) (.slice a n n)
 |ptr {nm off b:Nat} (hn:nm<N) (h:ι nm= .pointer (some ⟨b,0,none⟩)):b7 w U ι N (.ptr nm off) (.pointer (some ⟨b,off,none⟩))
 |eptr {nm sz row off b n c:Nat} (hn:nm<N) (h:ι nm= .slice (some ⟨b,0,none⟩) n c):b7 w U ι N (.eptr nm sz row off) (.pointer (some ⟨b,row*sz+off,none⟩))
 |cptr {cells:List PC} {b off:Nat} (g:Nat→Value) (hcell: ∀(j:Nat) p,cells[j]? =some p→U b∧w.cell? ⟨b,off+j,none⟩=some (g j)∧co w U p (g j)):b7 w U ι N (.cptr cells) (.pointer (some ⟨b,off,none⟩))
 |ref {nm:Nat} (hn:nm<N) (h: ∃a n c,ι nm= .slice a n c):b7 w U ι N (.ref nm) (ι nm)
 |clo {f:FuncId} {caps:List AC} {vs:Array Value} (hl:caps.length=vs.size) (h: ∀(i:Nat) x,caps[i]? =some x→b7 w U ι N x (vs.toList[i]?.getD undef)):b7 w U ι N (.clo f caps) (.func (.func f) #[] vs)
 |mref {nm b:Nat} (hn:nm<N) (h:ι nm= .map (some b)):b7 w U ι N (.mref nm) (.map (some b))
 |top {v:Value} (h:v.oneCell'=true):b7 w U ι N .top v
inductive aX (w:World) (U:Nat→Prop) (ι:Pl) (N:Nat):AV→Value→Prop
 |c {x:AC} {v:Value} (h:b7 w U ι N x v):aX w U ι N (.c x) v
 |agg {xs:List AC} {vs:Array Value} (h:aM (b7 w U ι N) xs vs.toList):aX w U ι N (.agg xs) (.agg vs)
 |tup {xs:List AV} {vs:Array Value} (hl:xs.length=vs.size) (h: ∀(i:Nat) x,xs[i]? =some x→aX w U ι N x (vs.toList[i]?.getD undef)):aX w U ι N (.tup xs) (.tuple vs)
 |top {v:Value}:aX w U ι N .top v
inductive AX where
 |t (n:Nat)
 |k (v:AV)
inductive ET where
 |int (k:IntKind)
 |str
 |bool
inductive fq where
 |mv (x:AX)
 |pick (c a b:AX)
 |box (x:AX)
 |load (n:Option Nat) (p:AX)
 |store (n:Nat) (p v:AX)
 |bin (op:BinOp) (x y:AX)
 |eqb (neg:Bool) (x y:AX)
 |eqs (neg:Bool) (l:List ET) (x y:AX)
 |un (op:UnOp) (x:AX)
 |conv (k:IntKind) (x:AX)
 |fieldA (off:Nat) (p:AX)
 |field (off:Nat) (n:Option Nat) (x:AX)
 |idxA (sz:Nat) (x i:AX)
 |idxR (len sz:Nat) (x i:AX)
 |idxS (x i:AX)
 |nilc (x:AX)
 |build (zero:List AC) (parts:List (Nat×Nat×AX))
 |bslice (sz:Nat) (rows:List AX)
 |mkslice (e sz bytes:Nat) (zero:List PC) (l:AX)
 |slc (sz:Nat) (x:AX) (lo hi mx:Option AX)
 |slcS (x:AX) (lo hi:Option AX)
 |ext (x:AX) (i:Nat)
 |len (x:AX)
 |lenS (x:AX)
 |mm (mx:Bool) (x y:AX)
 |mm4 (x y z t:AX)
 |dead
 |fnil (neg:Bool) (x:AX)
 |snil (neg:Bool) (x:AX)
 |app (e sz bytes:Nat) (x y:AX)
 |mkfn (f:FuncId) (caps:List AX)
 |call (g z:Bool) (f:AX) (args:List AX)
 |bsliceF (sz:Nat) (rows:List AX)
 |mkmap (kt:KT) (n:Option Nat)
 |mget (kt:KT) (n:Option Nat) (zero:List AC) (ok:Bool) (m k:AX)
 |mput (kt:KT) (n:Option Nat) (m k v:AX)
structure AG where
 dst:Option Nat
 guard:Option (Nat×Bool)
 op:fq
inductive bi where
 |skip
 |region (ops:List AG) (draw:Bool)
 |draw (gss:List (List (Bool×AG)))
 |seq (a b:bi)
 |cond (c:AX) (thn els:bi)
 |block (id:Nat) (body:bi)
 |loop (body:bi)
 |exit (id:Nat)
 |ret
 |rangeF (f:AX) (ps:List Nat) (asg body:bi)
def bc:List (Nat×AV)→Nat→AV
 | [],_=> .top
 |(m,v)::r,n=>if m=n then v else bc r n
def St.put (σ:St):Option Nat→AV→St
 |some d,v=>{σ with fr:=(d,v)::σ.fr}
 |none,_=>σ
def al:List (Nat×bk)→Nat→Option bk
 | [],_=>none
 |(m,b)::r,n=>if m=n then some b else al r n
def lz:List (Nat×bk)→Nat→List (Nat×bk)
 | [],_=> []
 |(m,b)::r,n=>if m=n then lz r n else(m,b)::lz r n
def dJ:List (Nat×bk)→Nat→bk→List (Nat×bk)
 | [],_,_=> []
 |(m,b)::r,n,c=>if m=n then(m,c)::r else(m,b)::dJ r n c
def AX.ev (fr:List (Nat×AV)):AX→AV
 | .t n=>bc fr n
 | .k v=>v
def AV.cells:AV→Option (List AC)
 | .c x=>some [x]
 | .agg xs=>some xs
 |_=>none
def over {α:Type} (xs:List α) (off:Nat) (ys:List α):List α:=xs.take off++ys++xs.drop (off+ys.length)
def wY:List ET→List AC→List AC→Prop
 | [], [], []=>True
 | .int k::l,.pure (.val (.int k1 _))::xs,.pure (.val (.int k2 _))::ys=>k1=k∧k2=k∧wY l xs ys
 | .str::l,.pure (.val (.string _))::xs,.pure (.val (.string _))::ys=>wY l xs ys
 | .bool::l,.pure (.val (.bool _))::xs,.pure (.val (.bool _))::ys=>wY l xs ys
 |_,_,_=>False
def I4:List AC→List AC→Prop
 | .pure (.val (.int _ a))::xs,.pure (.val (.int _ b))::ys=>a=b∧I4 xs ys
 | .pure (.val (.string a))::xs,.pure (.val (.string b))::ys=>a=b∧I4 xs ys
 | .pure (.val (.bool a))::xs,.pure (.val (.bool b))::ys=>a=b∧I4 xs ys
 |_,_=>True
noncomputable def wA (p:Prop):Bool:= @decide p (Classical.propDecidable p)
class mZ (α:Type) where
 out:α
def db (p:Prop) [K:mZ Prop]:Prop:=p∧K.out
def fU {α:Type} (o:Option α) [K:mZ (α→Prop)]:Prop:= ∃x,o=some x∧K.out x
def iC (t:Bool) [A:mZ Prop] [B:mZ Prop]:Prop:=(t=true→A.out)∧(t=false→B.out)
theorem EB {p:Prop} {K:mZ Prop} (h:p): @db p K=K.out:=propext ⟨λh=>h.2,λk=>⟨h,k⟩⟩
theorem LV {K:mZ Prop}: @db True K=K.out:=EB trivial
theorem Me {α:Type} {x:α} {K:mZ (α→Prop)}: @fU _ (some x) K=K.out x:=propext ⟨λ⟨_,e,k⟩=>by cases e;exact k,λk=>⟨x,rfl,k⟩⟩
theorem JW {A B:mZ Prop}: @iC true A B=A.out:=propext ⟨λh=>h.1 rfl,λa=>⟨λ_=>a,(λe=>by cases e)⟩⟩
theorem Ir {A B:mZ Prop}: @iC false A B=B.out:=propext ⟨λh=>h.2 rfl,λa=>⟨(λe=>by cases e),λ_=>a⟩⟩
def sZ {α:Type} (o:Option α) [A:mZ (α→Prop)] [B:mZ Prop]:Prop:=(∀x,o=some x→A.out x)∧(o=none→B.out)
theorem Jd {α:Type} {x:α} {A:mZ (α→Prop)} {B:mZ Prop}: @sZ _ (some x) A B=A.out x:=propext ⟨λh=>h.1 x rfl,λa=>⟨λy e=>by cases e;exact a,(λe=>by cases e)⟩⟩
theorem J4 {α:Type} {A:mZ (α→Prop)} {B:mZ Prop}: @sZ α none A B=B.out:=propext ⟨λh=>h.2 rfl,λb=>⟨(λx e=>by cases e),λ_=>b⟩⟩
def Ei (rows:List (List PC)) [A:mZ Prop] [B:mZ Prop]:Prop:=((∀r∈rows,r= [])→A.out)∧B.out
theorem M8 {p:PC} {r:List PC} {rows:List (List PC)} {A B:mZ Prop}: @Ei ((p::r)::rows) A B=B.out:=propext ⟨λh=>h.2,λh=>⟨(λe=>by cases e _ List.mem_cons_self),h⟩⟩
theorem ag {rows:List (List PC)} {A B:mZ Prop} (h1:(∀r∈rows,r= [])→A.out) (h2:B.out): @Ei rows A B:=⟨h1,h2⟩
def aK (sz:Nat) (rows:List (List PC)):Prop:= ∀r∈rows,r.length=sz
def VJ:AC→Option PC
 | .pure p=>some p
 | .nils=>some (.slice [])
 | .tsl rows=>some (.slice rows)
 |_=>none
def IM:List AC→Option (List PC)
 | []=>some []
 |x::xs=>match VJ x,IM xs with
  |some y,some ys=>some (y::ys)
  |_,_=>none
def Pd (mem:List (Nat×bk)):AC→Option (PC×List (Nat×bk))
 | .pure p=>some (p,mem)
 | .nils=>some (.slice [],mem)
 | .tsl rows=>some (.slice rows,mem)
 |.ref nm=>match al mem nm with
  |some (.arr _ _ rows)=>some (.slice rows,lz mem nm)
  |_=>none
 |_=>none
def DO (mem:List (Nat×bk)):List AC→Option (List PC×List (Nat×bk))
 | []=>some ([],mem)
 |x::xs=>match Pd mem x with
  |some (y,mem)=>match DO mem xs with
   |some (ys,mem)=>some (y::ys,mem)
   |none=>none
  |none=>none
def dS (mem:List (Nat×bk)):AC→Option PC
 | .pure p=>some p
 | .nils=>some (.slice [])
 | .tsl rows=>some (.slice rows)
 |.ref nm=>match al mem nm with
  |some (.arr _ _ rows)=>some (.slice rows)
  |_=>none
 |_=>none
def tf (mem:List (Nat×bk)):List AC→Option (List PC)
 | []=>some []
 |x::xs=>match dS mem x,tf mem xs with
  |some y,some ys=>some (y::ys)
  |_,_=>none
def mO (mem:List (Nat×bk)):Option Nat→List AC→Option (List PC)
 |none,p::_=>match dS mem p with
  |some q=>some [q]
  |none=>none
 |none, []=>none
 |some _,ps=>tf mem ps
def kH (mem:List (Nat×bk)) (n:Option Nat):List (MK×List AC)→Option (List (MK×List PC))
 | []=>some []
 |x::r=>match mO mem n x.2,kH mem n r with
  |some ps,some es=>some ((x.1,ps)::es)
  |_,_=>none
def eE (mem:List (Nat×bk)):AC→Option PC
 |.mref nm=>match al mem nm with
  |some (.map kt n ents)=>match kH mem n ents with
   |some es=>some (.fmap kt n es)
   |none=>none
  |_=>none
 |x=>dS mem x
def cJ (mem:List (Nat×bk)):List AC→Option (List PC)
 | []=>some []
 |x::xs=>match eE mem x,cJ mem xs with
  |some y,some ys=>some (y::ys)
  |_,_=>none
def dX (mem:List (Nat×bk)):AC→Option AC
 | .pure p=>some (.pure p)
 | .nils=>some (.pure (.slice []))
 | .tsl rows=>some (.pure (.slice rows))
 |.ref nm=>match al mem nm with
  |some (.arr _ _ rows)=>some (.pure (.slice rows))
  |_=>none
 | .cptr cells=>some (.cptr cells)
 |.ptr nm off=>match al mem nm with
  |some (.var xs)=>match cJ mem xs with
   |some ps=>some (.cptr (ps.drop off))
   |none=>none
  |_=>none
 |.mref nm=>match al mem nm with
  |some (.map kt n ents)=>match kH mem n ents with
   |some es=>some (.pure (.fmap kt n es))
   |none=>none
  |_=>none
 |_=>none
def xx (mem:List (Nat×bk)):List AC→Option (List AC)
 | []=>some []
 |x::xs=>match dX mem x,xx mem xs with
  |some y,some ys=>some (y::ys)
  |_,_=>none
def ee (mem:List (Nat×bk)):AC→Option AC
 |.clo f caps=>match xx mem caps with
  |some ys=>some (.clo f ys)
  |none=>none
 |x=>dX mem x
def ti (mem:List (Nat×bk)):List AC→Option (List AC)
 | []=>some []
 |x::xs=>match ee mem x,ti mem xs with
  |some y,some ys=>some (y::ys)
  |_,_=>none
def dQ (mem:List (Nat×bk)):AV→Option AV
 |.c x=>match ee mem x with
  |some y=>some (.c y)
  |none=>none
 |.agg xs=>match ti mem xs with
  |some ys=>some (.agg ys)
  |none=>none
 |_=>none
def bN (mem:List (Nat×bk)):List AV→Option (List AV)
 | []=>some []
 |x::xs=>match dQ mem x,bN mem xs with
  |some y,some ys=>some (y::ys)
  |_,_=>none
def qn:AC→Bool
 | .pure (.val _)=>true
 |_=>false
def nh:AV→Bool
 | .c x=>qn x
 | .agg xs=>xs.all qn
 | .tup vs=>go vs
 | .top=>false
where go:List AV→Bool
 | []=>true
 | .c x::r=>qn x&&go r
 | .agg xs::r=>xs.all qn&&go r
 |_::_=>false
def ja:AC→Bool
 | .ref _| .ptr _ _| .mref _=>false
 |_=>true
def tX:AC→Bool
 | .clo _ caps=>caps.all ja
 |x=>ja x
def gA:AV→Bool
 | .c x=>tX x
 | .agg xs=>xs.all tX
 |_=>true
def gT:AC→Prop
 | .pure (.slice rows)=>rows.length≤9223372036854775807
 |_=>True
def nc:List AC→Prop
 | []=>True
 |x::r=>gT x∧nc r
def gw:AV→Prop
 | .c x=>gT x
 | .agg xs=>nc xs
 | .tup vs=>go vs
 | .top=>True
where go:List AV→Prop
 | []=>True
 | .c x::r=>gT x∧go r
 | .agg xs::r=>nc xs∧go r
 |_::r=>go r
def bI (v:Value):Option Nat:=match v with
 | .pointer (some a)=>some a.block
 | .slice (some a) _ _=>some a.block
 | .map (some b)=>some b
 |_=>none
structure Gh where
 p:Nat→Prop
 ι0:Pl
 G:World→(Nat→Prop)→Prop
 mono: ∀(w w':World) (V V':Nat→Prop),G w V→(∀b,b<w.heap.size→V b→V' b)→(∀b,b<w.heap.size→V b→w'.heap[b]? =w.heap[b]?)→G w' V'
def Gh.of (p:Nat→Prop):Gh:=⟨p,λ_=>undef,λ_ _=>True,λ_ _ _ _ _ _ _=>trivial⟩
def aE (B:Nat) (U:Gh) (ι:Pl) (mem:List (Nat×bk)) (b:Nat):Prop:=
 (U.p b∨B≤b)∧ ∀nm bx,al mem nm=some bx→bI (ι nm)≠some b
def bu (w:World) (U:Nat→Prop) (sz:Nat) (rows:List (List PC)) (cells:List Value):Prop:=
 cells.length=rows.length*sz∧(∀(i:Nat) row,rows[i]? =some row→row.length=sz)∧
 ∀(i:Nat) (row:List PC) (j:Nat) p,rows[i]? =some row→row[j]? =some p→ ∃v,cells[i*sz+j]? =some v∧co w U p v
def gF (w:World) (U:Nat→Prop) (ι:Pl) (N:Nat) (sz:Nat) (rows:List (List AC)) (cells:List Value):Prop:=
 cells.length=rows.length*sz∧(∀(i:Nat) row,rows[i]? =some row→row.length=sz)∧
 ∀(i:Nat) (row:List AC) (j:Nat) p,rows[i]? =some row→row[j]? =some p→ ∃v,cells[i*sz+j]? =some v∧b7 w U ι N p v
def gx (n:Option Nat) (ps:List AC):AV:=
 match n with
 |none=>match ps with
  |p::_=> .c p
  | []=> .top
 |some _=> .agg ps
def jd (w:World) (U:Nat→Prop) (ι:Pl) (N:Nat) (kt:KT) (n:Option Nat) (x:MK×List AC) (e:MapEntry):Prop:=
 x.1.val kt=some e.key∧aX w U ι N (gx n x.2) e.val
def l7 (B:Nat) (w:World) (U:Nat→Prop) (ι:Pl) (N:Nat) (nm:Nat):bk→Prop
 | .var xs=> ∃b vs T,ι nm= .pointer (some ⟨b,0,none⟩)∧B≤b∧w.heap[b]? =some (.cells vs T (0,0))∧aM (b7 w U ι N) xs vs.toList
 | .arr e sz rows=> ∃cells,0<sz∧w.ownsRow B e sz (ι nm) rows.length cells∧rows.length≤9223372036854775807∧bu w U sz rows cells
 | .arn e sz rows=> ∃cells,0<sz∧w.ownsRow B e sz (ι nm) rows.length cells∧rows.length≤9223372036854775807∧gF w U ι N sz rows cells
 | .map kt n ents=> ∃b es clock,ι nm= .map (some b)∧B≤b∧w.heap[b]? =some (.map es clock)∧aM (jd w U ι N kt n) ents es.toList
def TN:Option Nat:=some 0
def qf (w:World):Prop:= ∀g,TN=some g→ ∀c:Nat,c<256→w.cell? ⟨g,c,none⟩=some (.int .u8 (if Lib.isSp (UInt8.ofNat c)then 1 else 0))
theorem qf.below {n:Nat} {w w':World} (h:qf w) (hn:w.heap.size≤n) (hb:Below n w w'):qf w':= λg hg c hc=>by
 have h1:=h g hg c hc
 have H:g<w.heap.size:=World.block_lt_of_cell? w _ h1
 rw[World.cell?_of_block (hb.block g (Nat.lt_of_lt_of_le H hn))]
 exact h1
structure bV (w0:World) (U:Gh) (σ:St) (ι:Pl) (a:Act) (w:World):Prop where
 val: ∀t,aX w (aE w0.heap.size U ι σ.mem) ι σ.nx (bc σ.fr t) (a.tmps.getD t undef)
 defers:a.defers= []∧qf w0
 names: ∀nm bx,al σ.mem nm=some bx→nm<σ.nx
 box: ∀nm bx,al σ.mem nm=some bx→l7 w0.heap.size w (aE w0.heap.size U ι σ.mem) ι σ.nx nm bx
 apart: ∀nm nm' bx bx' b,al σ.mem nm=some bx→al σ.mem nm'=some bx'→bI (ι nm)=some b→bI (ι nm')=some b→nm=nm'
 below:Below w0.heap.size w0 w
 keep:U.G w (aE w0.heap.size U ι σ.mem)
 base:σ.base≤σ.nx∧ ∀nm,nm<σ.base→ι nm=U.ι0 nm
theorem bV.glob {w0 w:World} {U:Gh} {σ:St} {ι:Pl} {a:Act} (h:bV w0 U σ ι a w):qf w:=h.defers.2.below (Nat.le_refl _) h.below
def mz (P : Program) (f : FuncId) : Prop := ∃ fn, P.funcs[f]? = some fn ∧ fn.body.isSome = true ∧ (fn.name == "runtime.NumGoroutine") = false
def ac (P:Program) (f:FuncId) (args:List AV) (res:AV):Prop:=
 mz P f∧
 ∀(w:World) (U:Nat→Prop) (vs:Array Value),qf w→aM (aX w U (λ_=>undef) 0) args vs.toList→
  Calls P f vs w λe w'=> ∃v,e= .returned v∧aX w' (λb=>U b∨w.heap.size≤b) (λ_=>undef) 0 res v∧Below w.heap.size w w'
def Tl (P:Program) (f:FuncId) (args:List AV) (res:AV):Prop:=
 mz P f∧
 ∀(w:World) (U:Nat→Prop) (vs:Array Value),qf w→aM (aX w U (λ_=>undef) 0) args vs.toList→
  Calls P f vs w λe w'=> ∃v,e= .returned v∧aX w' (λb=>w.heap.size≤b) (λ_=>undef) 0 res v∧Below w.heap.size w w'
def aw (P:Program) (f:FuncId) (args:List AV) (mem:List (Nat×bk)) (nx:Nat) (res:AV) (mem':List (Nat×bk)) (nx':Nat):Prop:=
 mz P f∧
 ∀(w0:World) (U:Gh) (ι:Pl) (w:World) (vs:Array Value),bV w0 U ⟨[],mem,nx,nx⟩ ι {tmps:= #[],defers:= []} w→aM (aX w (aE w0.heap.size U ι mem) ι nx) args vs.toList→
  Calls P f vs w λe w'=> ∃v ι',e= .returned v∧bV w0 U ⟨[],mem',nx',nx⟩ ι' {tmps:= #[],defers:= []} w'∧aX w' (aE w0.heap.size U ι' mem') ι' nx' res v
def gS (nm:Nat) (rows:List (List PC)):AC→AC
 | .ref m=>if m=nm then .pure (.slice rows)else .ref m
 |x=>x
def nG (nm:Nat) (rows:List (List PC)):AV→AV
 | .c x=> .c (gS nm rows x)
 | .agg xs=> .agg (xs.map (gS nm rows))
 |x=>x
def ub (nm:Nat) (rows:List (List PC)):bk→bk
 | .var xs=> .var (xs.map (gS nm rows))
 | .map kt n ents=> .map kt n (ents.map λx=>(x.1,x.2.map (gS nm rows)))
 | .arn e sz rs=> .arn e sz (rs.map λr=>r.map (gS nm rows))
 |b=>b
def vm (nm:Nat) (rows:List (List PC)):List (Nat×AV)→List (Nat×AV)
 | []=> []
 |(t,v)::r=>(t,nG nm rows v)::vm nm rows r
def kJ (nm:Nat) (rows:List (List PC)):List (Nat×bk)→List (Nat×bk)
 | []=> []
 |(m,b)::r=>if m=nm then kJ nm rows r else(m,ub nm rows b)::kJ nm rows r
def St.frz (σ:St) (nm:Nat) (rows:List (List PC)):St:={σ with fr:=vm nm rows σ.fr,mem:=kJ nm rows σ.mem}
def aQ:List Nat→St→List AV→St×List AV
 | [],σ,args=>(σ,args)
 |nm::l,σ,args=>match al σ.mem nm with
  |some (.arr _ _ rows)=>aQ l (σ.frz nm rows) (args.map (nG nm rows))
  |_=>(σ,args)
def qi (P:Program) (g z:Bool) (f:FuncId) (args:List AV) (σ:St) [K:mZ (AV→St→Prop)]:Prop:=
 ∃l σ' args',(l= []∨z=true)∧aQ l σ args=(σ',args')∧(
 (∃pargs,bN σ'.mem args'=some pargs∧ ∃res,((ac P f pargs res∧(nh res=true∨args'.all gA=true))∨Tl P f pargs res)∧K.out res σ')∨
 (g=true∧ ∃res mem' nx',aw P f args' σ'.mem σ'.nx res mem' nx'∧K.out res {σ' with mem:=mem',nx:=nx'}))
def lA (op:BinOp) (k:IntKind) (a b:Int) (K:Value→Prop):Prop:=
 match op with
 | .add=>K (.int k (k.wrap (a+b)))
 | .sub=>K (.int k (k.wrap (a-b)))
 | .mul=>K (.int k (k.wrap (a*b)))
 | .quo=>db (b≠0) (K:=⟨K (.int k (k.wrap (a.tdiv b)))⟩)
 | .rem=>db (b≠0) (K:=⟨K (.int k (a.tmod b))⟩)
 | .and=>K (.int k (k.wrap (BitVec.ofInt k.bits a&&&BitVec.ofInt k.bits b).toNat))
 | .or=>K (.int k (k.wrap (BitVec.ofInt k.bits a|||BitVec.ofInt k.bits b).toNat))
 | .xor=>K (.int k (k.wrap (BitVec.ofInt k.bits a^^^BitVec.ofInt k.bits b).toNat))
 | .andNot=>K (.int k (k.wrap (BitVec.ofInt k.bits a&&& ~~~BitVec.ofInt k.bits b).toNat))
 | .eql=>K (.bool (a==b))
 | .neq=>K (.bool (a !=b))
 | .lss=>K (.bool (decide (a<b)))
 | .leq=>K (.bool (decide (a≤b)))
 | .gtr=>K (.bool (decide (a>b)))
 | .geq=>K (.bool (decide (a≥b)))
 |_=>False
def tE (op:BinOp) (a b:ByteArray) (K:Value→Prop):Prop:=
 match op with
 | .add=>db (a.size+b.size≤9223372036854775807) (K:=⟨K (.string (a++b))⟩)
 | .eql=>K (.bool (a.toList==b.toList))
 | .neq=>K (.bool (!(a.toList==b.toList)))
 | .lss=>K (.bool (Op.bytesLess a.toList b.toList))
 | .leq=>K (.bool (Op.bytesLess a.toList b.toList||a.toList==b.toList))
 | .gtr=>K (.bool (!(Op.bytesLess a.toList b.toList||a.toList==b.toList)))
 | .geq=>K (.bool (!(Op.bytesLess a.toList b.toList)))
 |_=>False
def yJ (op:BinOp) (x y:Value) (K:Value→Prop):Prop:=
 match x,y with
 | .int k a,.int k' b=>db (k=k') (K:=⟨lA op k a b K⟩)
 | .string a,.string b=>tE op a b K
 |_,_=>False
def rh (op:BinOp) (k:IntKind) (a b:Int) (K:Value→Prop):Prop:=
 match op with
 | .shl=>K (.int k (k.wrap (a*2^(min b.toNat k.bits))))
 | .shr=>K (.int k (a.fdiv (2^(min b.toNat k.bits))))
 |_=>False
def mN (op:BinOp) (x y:Value) (K:Value→Prop):Prop:=
 match x,y with
 | .int k a,.int _ b=>db (0≤b) (K:=⟨rh op k a b K⟩)
 |_,_=>False
def fK (mem:List (Nat×bk)):AV→Option (List (List PC))
 | .c (.pure (.slice rows))=>some rows
 | .c (.tsl rows)=>some rows
 | .c .nils=>some []
 |.c (.ref nm)=>match al mem nm with
  |some (.arr _ _ rows)=>some rows
  |_=>none
 |_=>none
def ST (e sz bytes nm:Nat) (ys:List (List PC)) (σ:St) (K:AV→St→Prop):Prop:=
 ∃rows,al σ.mem nm=some (.arr e sz rows)∧(rows.length+ys.length)*bytes≤140737488355328∧rows.length+ys.length≤140737488355328∧
  K (.c (.ref σ.nx)) {σ with mem:=(σ.nx,.arr e sz (rows++ys))::lz σ.mem nm,nx:=σ.nx+1}
def Qi (e sz bytes:Nat) (rows ys:List (List PC)) (σ:St) (K:AV→St→Prop):Prop:=
 (rows.length+ys.length)*bytes≤140737488355328∧rows.length+ys.length≤140737488355328∧K (.c (.ref σ.nx)) {σ with mem:=(σ.nx,.arr e sz (rows++ys))::σ.mem,nx:=σ.nx+1}
def Lo (bytes:Nat) (rows ys:List (List PC)) (σ:St) (K:AV→St→Prop):Prop:=
 (rows.length+ys.length)*bytes≤140737488355328∧rows.length+ys.length≤140737488355328∧K (.c (.pure (.slice (rows++ys)))) σ
def zS (e sz bytes:Nat) (x y:AV) (ys:List (List PC)) (σ:St) [K:mZ (AV→St→Prop)]:Prop:=
 aK sz ys∧(
  (∃nm,x= .c (.ref nm)∧y≠ .c (.ref nm)∧ST e sz bytes nm ys σ K.out)∨
  (x= .c .nils∧(Qi e sz bytes [] ys σ K.out∨Lo bytes [] ys σ K.out))∨
  (∃rows,x= .c (.tsl rows)∧aK sz rows∧((ys≠ []∧Qi e sz bytes rows ys σ K.out)∨Lo bytes rows ys σ K.out∨(ys= []∧K.out (.c (.tsl rows)) σ))))
def b8 (mem:List (Nat×bk)):AC→Option (List AC)
 |.ptr nm off=>match al mem nm with
  |some (.var xs)=>some (xs.drop off)
  |_=>none
 | .cptr cells=>some (cells.map .pure)
 |.eptr nm sz row off=>match al mem nm with
  |some (.arr _ sz' rows)=>if sz=sz' then(rows[row]?).map λr=>(r.drop off).map .pure else none
  |some (.arn _ sz' rows)=>if sz=sz' then(rows[row]?).map λr=>r.drop off else none
  |_=>none
 |_=>none
def oN (es:List (MK×List PC)):List (MK×List AC):=es.map λx=>(x.1,x.2.map .pure)
def jb:List (MK×List AC)→MK→Option (List AC)
 | [],_=>none
 |(k,v)::r,k'=>if k=k' then some v else jb r k'
def x9:List (MK×List AC)→MK→List AC→List (MK×List AC)
 | [],k,v=> [(k,v)]
 |(k,u)::r,k',v=>if k=k' then(k',v)::r else(k,u)::x9 r k' v
def Bg (n:Option Nat) (v:AV):Option (List AC):=
 match n,v with
 |none,.c x=>some [x]
 |some k,.agg xs=>if xs.length=k then some xs else none
 |_,_=>none
def bR (P:Program) (o:fq) (σ:St) (K:AV→St→Prop):Prop:=
 match o with
 | .mv x=>K (x.ev σ.fr) σ
 |.pick c a b=>match c.ev σ.fr with
  | .c (.pure (.val (.bool t)))=>iC t (A:=⟨K (a.ev σ.fr) σ⟩) (B:=⟨K (b.ev σ.fr) σ⟩)
  |_=>False
 |.box x=>match (x.ev σ.fr).cells with
  |some xs=>K (.c (.ptr σ.nx 0)) {σ with mem:=(σ.nx,.var xs)::σ.mem,nx:=σ.nx+1}
  |none=>False
 |.load n p=>match p.ev σ.fr with
  |.c q=>match b8 σ.mem q with
   |some xs=>match n with
    |none=>match xs with
     |x::_=>K (.c x) σ
     | []=>False
    |some n=>db (n≤xs.length) (K:=⟨K (.agg (xs.take n)) σ⟩)
   |none=>False
  |_=>False
 |.store n p v=>match (v.ev σ.fr).cells,p.ev σ.fr with
  |some ys,.c (.ptr nm off)=>match al σ.mem nm with
   |some (.var xs)=>db (ys.length=n∧off+n≤xs.length) (K:=⟨K (.tup []) {σ with mem:=dJ σ.mem nm (.var (over xs off ys))}⟩)
   |_=>False
  |some ys,.c (.eptr nm sz row off)=>match al σ.mem nm with
   |some (.arr e sz' rows)=>db (sz=sz'∧ys.length=n∧off+n≤sz) (K:=⟨fU (IM ys) (K:=⟨λzs=>fU rows[row]? (K:=⟨λr=>
     K (.tup []) {σ with mem:=dJ σ.mem nm (.arr e sz (rows.set row (over r off zs)))}⟩)⟩)⟩)
   |some (.arn e sz' rows)=>db (sz=sz'∧ys.length=n∧off+n≤sz) (K:=⟨fU rows[row]? (K:=⟨λr=>
     K (.tup []) {σ with mem:=dJ σ.mem nm (.arn e sz (rows.set row (over r off ys)))}⟩)⟩)
   |_=>False
  |_,_=>False
 |.bin op x y=>match x.ev σ.fr,y.ev σ.fr with
  |.c (.pure (.val a)),.c (.pure (.val b))=>match op with
   | .shl| .shr=>mN op a b λv=>K (.c (.pure (.val v))) σ
   |_=>yJ op a b λv=>K (.c (.pure (.val v))) σ
  |_,_=>False
 |.eqb neg x y=>match x.ev σ.fr,y.ev σ.fr with
  | .c (.pure (.val (.bool a))),.c (.pure (.val (.bool b)))=>K (.c (.pure (.val (.bool ((a==b) !=neg))))) σ
  |_,_=>False
 |.eqs neg l x y=>match x.ev σ.fr,y.ev σ.fr with
  | .agg xs,.agg ys=>db (wY l xs ys) (K:=⟨K (.c (.pure (.val (.bool (wA (I4 xs ys) !=neg))))) σ⟩)
  |_,_=>False
 |.un op x=>match op,x.ev σ.fr with
  | .not,.c (.pure (.val (.bool b)))=>K (.c (.pure (.val (.bool (!b))))) σ
  | .neg,.c (.pure (.val (.int k n)))=>K (.c (.pure (.val (.int k (k.wrap (0-n)))))) σ
  | .xor,.c (.pure (.val (.int k n)))=>K (.c (.pure (.val (.int k (k.wrap (BitVec.ofInt k.bits (if k.signed then-1 else k.max)^^^BitVec.ofInt k.bits n).toNat))))) σ
  |_,_=>False
 |.conv k x=>match x.ev σ.fr with
  | .c (.pure (.val (.int _ n)))=>K (.c (.pure (.val (.int k (k.wrap n))))) σ
  |_=>False
 |.fieldA off p=>match p.ev σ.fr with
  | .c (.ptr nm o)=>K (.c (.ptr nm (o+off))) σ
  | .c (.cptr cells)=>K (.c (.cptr (cells.drop off))) σ
  | .c (.eptr nm sz row o)=>K (.c (.eptr nm sz row (o+off))) σ
  |_=>False
 |.field off n x=>match x.ev σ.fr with
  |.agg xs=>match n with
   |none=>match xs.drop off with
    |x::_=>K (.c x) σ
    | []=>False
   |some n=>db (off+n≤xs.length) (K:=⟨K (.agg ((xs.drop off).take n)) σ⟩)
  |_=>False
 |.idxA sz x i=>match x.ev σ.fr,i.ev σ.fr with
  | .c (.pure (.slice rows)),.c (.pure (.val (.int _ i)))| .c (.tsl rows),.c (.pure (.val (.int _ i)))=>db (0≤i) (K:=⟨fU rows[i.toNat]? (K:=⟨λr=>db (r.length=sz∧0<sz) (K:=⟨K (.c (.cptr r)) σ⟩)⟩)⟩)
  |.c (.ref nm),.c (.pure (.val (.int _ i)))=>match al σ.mem nm with
   |some (.arr _ sz' rows)=>db (sz'=sz∧0<sz∧0≤i∧i<rows.length) (K:=⟨K (.c (.eptr nm sz i.toNat 0)) σ⟩)
   |some (.arn _ sz' rows)=>db (sz'=sz∧0<sz∧0≤i∧i<rows.length) (K:=⟨K (.c (.eptr nm sz i.toNat 0)) σ⟩)
   |_=>False
  |_,_=>False
 |.idxR len sz x i=>match x.ev σ.fr,i.ev σ.fr with
  | .c (.ptr nm o),.c (.pure (.val (.int _ i)))=>db (0≤i∧i<len) (K:=⟨K (.c (.ptr nm (o+i.toNat*sz))) σ⟩)
  | .c (.cptr cells),.c (.pure (.val (.int _ i)))=>db (0≤i∧i<len) (K:=⟨K (.c (.cptr (cells.drop (i.toNat*sz)))) σ⟩)
  |_,_=>False
 |.nilc x=>match x.ev σ.fr with
  | .c (.ptr nm o)=>K (.c (.ptr nm o)) σ
  | .c (.cptr cells)=>K (.c (.cptr cells)) σ
  | .c (.eptr nm sz row o)=>K (.c (.eptr nm sz row o)) σ
  | .c (.clo f caps)=>K (.c (.clo f caps)) σ
  |_=>False
 |.idxS x i=>match x.ev σ.fr,i.ev σ.fr with
  | .c (.pure (.val (.string s))),.c (.pure (.val (.int _ i)))=>db (0≤i) (K:=⟨fU s[i.toNat]? (K:=⟨λb=>K (.c (.pure (.val (.int .u8 b.toNat)))) σ⟩)⟩)
  |_,_=>False
 | .build zero parts=>buildW σ parts zero λxs=>K (.agg xs) σ
 | .bslice sz rows=>bsliceW σ sz rows [] λrs=>K (.c (.tsl rs)) σ
 |.mkslice e sz bytes zero l=>match l.ev σ.fr with
  | .c (.pure (.val (.int .i64 n)))=>db (0≤n∧n≤281474976710656∧bytes*n≤281474976710656) (K:=⟨
    K (.c (.ref σ.nx)) {σ with mem:=(σ.nx,.arr e sz (List.replicate n.toNat zero))::σ.mem,nx:=σ.nx+1}⟩)
  |_=>False
 |.slc sz x lo hi mx=>match x.ev σ.fr with
  | .c (.ref _)=>False
  |v=>fU (fK σ.mem v) (K:=⟨λrows=>fU (boundOf σ lo) (K:=⟨λlo=>fU (boundOf σ hi) (K:=⟨λhi=>fU (boundOf σ mx) (K:=⟨λmx=>
   db (aK sz rows∧0≤lo.getD 0∧lo.getD 0≤hi.getD rows.length∧hi.getD rows.length≤mx.getD rows.length∧mx.getD rows.length≤rows.length) (K:=⟨
   K (.c (if mx.isSome=true∧mx=hi then .tsl ((rows.take (hi.getD rows.length).toNat).drop (lo.getD 0).toNat)else .pure (.slice ((rows.take (hi.getD rows.length).toNat).drop (lo.getD 0).toNat)))) σ⟩)⟩)⟩)⟩)⟩)
 |.slcS x lo hi=>match x.ev σ.fr,boundOf σ lo,boundOf σ hi with
  |.c (.pure (.val (.string s))),some lo,some hi=>db (0≤lo.getD 0∧lo.getD 0≤hi.getD s.size∧hi.getD s.size≤s.size) (K:=⟨
   K (.c (.pure (.val (.string (s.extract (lo.getD 0).toNat (hi.getD s.size).toNat))))) σ⟩)
  |_,_,_=>False
 |.ext x i=>match x.ev σ.fr with
  | .tup vs=>fU vs[i]? (K:=⟨λv=>K v σ⟩)
  |_=>False
 |.len x=>match x.ev σ.fr with
  | .c (.pure (.slice rows))| .c (.tsl rows)=>K (.c (.pure (.val (.int .i64 rows.length)))) σ
  | .c .nils=>K (.c (.pure (.val (.int .i64 0)))) σ
  |.c (.ref nm)=>match al σ.mem nm with
   |some (.arr _ _ rows)=>K (.c (.pure (.val (.int .i64 rows.length)))) σ
   |some (.arn _ _ rows)=>K (.c (.pure (.val (.int .i64 rows.length)))) σ
   |_=>False
  |_=>False
 |.lenS x=>match x.ev σ.fr with
  | .c (.pure (.val (.string s)))=>K (.c (.pure (.val (.int .i64 s.size)))) σ
  |_=>False
 |.mm mx x y=>match x.ev σ.fr,y.ev σ.fr with
  | .c (.pure (.val (.int k a))),.c (.pure (.val (.int _ b)))=>K (.c (.pure (.val (.int k (if mx=true then max a b else min a b))))) σ
  |_,_=>False
 |.mm4 x y z t=>match x.ev σ.fr,y.ev σ.fr,z.ev σ.fr,t.ev σ.fr with
  | .c (.pure (.val (.int k a))),.c (.pure (.val (.int _ b))),.c (.pure (.val (.int _ c))),.c (.pure (.val (.int _ d)))=>K (.c (.pure (.val (.int k (max (max (max a b) c) d))))) σ
  |_,_,_,_=>False
 | .dead=>False
 |.fnil neg x=>match x.ev σ.fr with
  | .c (.clo _ _)=>K (.c (.pure (.val (.bool neg)))) σ
  | .c (.pure (.val .nilFunc))=>K (.c (.pure (.val (.bool (!neg))))) σ
  |_=>False
 |.snil neg x=>match x.ev σ.fr with
  | .c .nils=>K (.c (.pure (.val (.bool (!neg))))) σ
  | .c (.pure (.slice rows))| .c (.tsl rows)=>Ei rows (A:=⟨K (.c (.pure (.val (.bool (!neg))))) σ⟩) (B:=⟨K (.c (.pure (.val (.bool neg)))) σ⟩)
  |.c (.ref nm)=>match al σ.mem nm with
   |some (.arr _ _ rows)=>Ei rows (A:=⟨K (.c (.pure (.val (.bool (!neg))))) σ⟩) (B:=⟨K (.c (.pure (.val (.bool neg)))) σ⟩)
   |_=>False
  |_=>False
 | .app e sz bytes x y=>fU (fK σ.mem (y.ev σ.fr)) (K:=⟨λys=>zS e sz bytes (x.ev σ.fr) (y.ev σ.fr) ys σ (K:=⟨K⟩)⟩)
 | .mkfn f caps=>mkfnW σ caps [] λxs=>K (.c (.clo f xs)) σ
 |.call g z f args=>match f.ev σ.fr with
  | .c (.clo f caps)=>qi P g z f (args.map (·.ev σ.fr)++caps.map .c) σ (K:=⟨K⟩)
  |_=>False
 | .bsliceF sz rows=>bsliceFW σ sz rows σ.mem [] λrs mem=>K (.c (.tsl rs)) {σ with mem:=mem}
 | .mkmap kt n=>K (.c (.mref σ.nx)) {σ with mem:=(σ.nx,.map kt n [])::σ.mem,nx:=σ.nx+1}
 |.mget kt n zero ok m k=>match k.ev σ.fr with
  |.c (.pure (.val kv))=>fU (FY kt kv) (K:=⟨λmk=>match m.ev σ.fr with
   |.c (.mref nm)=>match al σ.mem nm with
    |some (.map kt' n' ents)=>db (kt'=kt∧n'=n) (K:=⟨sZ (jb ents mk) (A:=⟨λps=>K (if ok=true then .tup [gx n ps,.c (.pure (.val (.bool true)))]else gx n ps) σ⟩)
     (B:=⟨K (if ok=true then .tup [gx n zero,.c (.pure (.val (.bool false)))]else gx n zero) σ⟩)⟩)
    |_=>False
   | .c (.pure (.fmap kt' n' es))=>db (kt'=kt∧n'=n) (K:=⟨sZ (jb (oN es) mk) (A:=⟨λps=>K (if ok=true then .tup [gx n ps,.c (.pure (.val (.bool true)))]else gx n ps) σ⟩)
     (B:=⟨K (if ok=true then .tup [gx n zero,.c (.pure (.val (.bool false)))]else gx n zero) σ⟩)⟩)
   |_=>False⟩)
  |_=>False
 |.mput kt n m k v=>match k.ev σ.fr with
  |.c (.pure (.val kv))=>fU (FY kt kv) (K:=⟨λmk=>match m.ev σ.fr with
   |.c (.mref nm)=>fU (Bg n (v.ev σ.fr)) (K:=⟨λys=>match al σ.mem nm with
    |some (.map kt' n' ents)=>db (kt'=kt∧n'=n) (K:=⟨K (.tup []) {σ with mem:=dJ σ.mem nm (.map kt n (x9 ents mk ys))}⟩)
    |_=>False⟩)
   |_=>False⟩)
  |_=>False
where
 boundOf (σ:St):Option AX→Option (Option Int)
  |none=>some none
  |some x=>match x.ev σ.fr with
   | .c (.pure (.val (.int _ i)))=>some (some i)
   |_=>none
 buildW (σ:St):List (Nat×Nat×AX)→List AC→(List AC→Prop)→Prop
  | [],acc,K=>K acc
  |(off,n,x)::r,acc,K=>match (x.ev σ.fr).cells with
   |some ys=>db (ys.length=n∧off+n≤acc.length) (K:=⟨buildW σ r (over acc off ys) K⟩)
   |none=>False
 bsliceW (σ:St) (sz:Nat):List AX→List (List PC)→(List (List PC)→Prop)→Prop
  | [],acc,K=>K acc
  |x::r,acc,K=>match (x.ev σ.fr).cells with
   |some ys=>fU (IM ys) (K:=⟨λzs=>db (ys.length=sz) (K:=⟨bsliceW σ sz r (acc++ [zs]) K⟩)⟩)
   |none=>False
 bsliceFW (σ:St) (sz:Nat):List AX→List (Nat×bk)→List (List PC)→(List (List PC)→List (Nat×bk)→Prop)→Prop
  | [],mem,acc,K=>K acc mem
  |x::r,mem,acc,K=>match (x.ev σ.fr).cells with
   |some ys=>fU (DO mem ys) (K:=⟨λz=>db (ys.length=sz) (K:=⟨bsliceFW σ sz r z.2 (acc++ [z.1]) K⟩)⟩)
   |none=>False
 mkfnW (σ:St):List AX→List AC→(List AC→Prop)→Prop
  | [],acc,K=>K acc
  |x::r,acc,K=>match x.ev σ.fr with
   | .c y=>mkfnW σ r (acc++ [y]) K
   |_=>False
def lK (P:Program):List AG→St→(St→Prop)→Prop
 | [],σ,K=>K σ
 |g::r,σ,K=>match g.guard with
  |none=>bR P g.op σ λv σ'=>lK P r (σ'.put g.dst v) K
  |some (t,want)=>match bc σ.fr t with
   | .c (.pure (.val (.bool b)))=>iC (b==want) (A:=⟨bR P g.op σ λv σ'=>lK P r (σ'.put g.dst v) K⟩) (B:=⟨lK P r (σ.put g.dst (.tup [])) K⟩)
   | .tup []=>lK P r (σ.put g.dst (.tup [])) K
   |_=>False
def jP (m m':List (Nat×bk)):Prop:= ∀nm bx,al m nm=some bx→al m' nm=some bx
def JT (m m':List (Nat×bk)):Prop:=m'=m∨ ∃n b,m'=(n,b)::m∧al m n=none
theorem RF {m m':List (Nat×bk)} (h:JT m m'):jP m m':=by
 rcases h with rfl|⟨n,b,rfl,h⟩
 ·exact λ_ _ h=>h
 ·intro nm bx hf
  show(if n=nm then some b else al m nm)=some bx
  rw[if_neg (λe=>by rw[←e,h]at hf;cases hf)]
  exact hf
def jA (P:Program):List (Bool×AG)→St→(St→Prop)→Prop
 | [],σ,K=>K σ
 |(x,g)::r,σ,K=>match g.guard with
  |none=>bR P g.op σ λv σ'=>db (x=true→JT σ.mem σ'.mem) (K:=⟨jA P r (σ'.put g.dst v) K⟩)
  |some (t,want)=>match bc σ.fr t with
   | .c (.pure (.val (.bool b)))=>iC (b==want) (A:=⟨bR P g.op σ λv σ'=>db (x=true→JT σ.mem σ'.mem) (K:=⟨jA P r (σ'.put g.dst v) K⟩)⟩) (B:=⟨jA P r (σ.put g.dst (.tup [])) K⟩)
   | .tup []=>jA P r (σ.put g.dst (.tup [])) K
   |_=>False
def Qb [A:mZ Prop] [B:mZ Prop]:Prop:=A.out∧B.out
theorem af {A B:mZ Prop} (h1:A.out) (h2:B.out): @Qb A B:=⟨h1,h2⟩
def vN (P:Program):List (List (Bool×AG))→St→(St→Prop)→Prop
 | [],_,_=>True
 | [gs],σ,K=>jA P gs σ K
 |gs::hs::r,σ,K=>Qb (A:=⟨jA P gs σ K⟩) (B:=⟨vN P (hs::r) σ K⟩)
theorem Dk {P:Program} {σ:St} {K:St→Prop}: ∀{gss:List (List (Bool×AG))},vN P gss σ K→ ∀gs∈gss,jA P gs σ K
 | [],_,gs,h=>by cases h
 | [x],hd,gs,h=>by rw[List.mem_singleton]at h;rw[h];exact hd
 |x::y::r,hd,gs,h=>by
  rcases List.mem_cons.1 h with h|h
  ·rw[h];exact hd.1
  ·exact Dk hd.2 gs h
def wg:Value→Option AC
 | .slice none 0 0=>some .nils
 |v=>if qK v then some (.pure (.val v))else none
def cellsOf:List Value→Option (List AC)
 | []=>some []
 |v::r=>match wg v,cellsOf r with
  |some x,some xs=>some (x::xs)
  |_,_=>none
def FO:Value→Option PC
 | .slice none 0 0=>some (.slice [])
 |v=>if qK v then some (.val v)else none
def nq:List Value→Option (List PC)
 | []=>some []
 |v::r=>match FO v,nq r with
  |some x,some xs=>some (x::xs)
  |_,_=>none
def uY:Value→Option AV
 | .agg vs=>(cellsOf vs.toList).map .agg
 | .tuple vs=>if vs.size=0 then some (.tup [])else none
 |v=>(wg v).map .c
def aL:Operand→Option AX
 | .tmp t=>some (.t t)
 | .const v=>(uY v).map .k
 | .func f=>some (.k (.c (.clo f [])))
 | .global _=>none
def kn:List Operand→Option (List AX)
 | []=>some []
 |x::r=>match aL x,kn r with
  |some y,some ys=>some (y::ys)
  |_,_=>none
def kF (P:Program) (t:TypeId):Option (Option Nat):=
 match P.underlying t,P.info? t with
 |some (.struct _),some i=>some (some i.size)
 |some (.array _ _),some i=>some (some i.size)
 |some _,some i=>if i.size=1 then some none else none
 |_,_=>none
def eP (P:Program) (t:TypeId):Option (TypeId×Nat×Nat):=
 match P.underlying t with
 |some (.slice e)=>(P.info? e).map λi=>(e,i.size,i.bytes)
 |_=>none
def eM (P:Program) (t:TypeId):Option Value:=(P.info? t).bind (·.zero)
def oh (P:Program) (s:TypeId) (f:Nat):Option Field:=
 match P.underlying s with
 |some (.struct fs)=>fs[f]?
 |_=>none
def jg (P:Program) (t:TypeId):Option Nat:=(P.info? t).map (·.size)
def PU (P:Program) (t:TypeId):Bool:=match P.underlying t with|some .string=>true|_=>false
def ES (P:Program) (t:TypeId):Bool:=match P.underlying t with|some .bool=>true|_=>false
def Ff (P:Program) (t:TypeId):Bool:=match P.underlying t with|some (.func _ _ _)=>true|_=>false
def Fq:AX→Bool
 | .k (.c (.pure (.val .nilFunc)))=>true
 |_=>false
def KX (P:Program) (t:TypeId):Bool:=match P.underlying t with|some (.slice _)=>true|_=>false
def EE:AX→Bool
 | .k (.c .nils)=>true
 |_=>false
def vh (places:List (Nat×Nat)):List (Nat×Operand)→Option (List (Nat×Nat×AX))
 | []=>some []
 |(i,x)::r=>match places[i]?,aL x,vh places r with
  |some (off,n),some y,some ys=>some ((off,n,y)::ys)
  |_,_,_=>none
def zI (P:Program) (t:TypeId):Option (List (Nat×Nat)):=
 match P.underlying t with
 |some (.struct fs)=>fs.toList.mapM λf=>(P.info? f.type).map λi=>(f.offset,i.size)
 |_=>none
def qh:Nat→List (Nat×Operand)→Option (List AX)
 |_, []=>some []
 |k,(i,x)::r=>if i=k then match aL x,qh (k+1) r with
  |some y,some ys=>some (y::ys)
  |_,_=>none else none
def qP (P:Program) (t:TypeId):Option (KT×TypeId×Option Nat):=
 match P.underlying t with
 |some (.map k e)=>match P.underlying k,kF P e with
  |some (.int i),some n=>some (.int i,e,n)
  |some .string,some n=>some (.str,e,n)
  |some .bool,some n=>some (.bool,e,n)
  |_,_=>none
 |_=>none
def J8 (n:Option Nat) (z:Value):Option (List AC):=
 match n with
 |none=>match wg z with
  |some p=>some [p]
  |none=>none
 |some _=>match z with
  | .agg vs=>cellsOf vs.toList
  |_=>none
def AF:List PC→Bool
 | []=>false
 | .slice _::_=>true
 |_::r=>AF r
def Pn (P:Program) (e:TypeId):Bool:=
 match (eM P e).bind λz=>nq z.cells.toList with
 |some zs=>AF zs
 |none=>false
def lq:Option Operand→Option (Option AX)
 |none=>some none
 |some x=>(aL x).map some
def vM (P:Program) (t:TypeId):Bool:=match P.underlying t with|some (.struct _)=>true|_=>false
def EG (P:Program) (f:TypeId→Option (List ET)):List Field→Nat→Option (List ET)
 | [],_=>some []
 |fd :: r, off => if fd.name = "_" ∨ fd.offset ≠ off then none else match f fd.type with
  |some l=>if(P.info? fd.type).map (·.size)=some l.length then(EG P f r (off+l.length)).map (l++ ·)else none
  |none=>none
def Io (P:Program):Nat→TypeId→Option (List ET)
 |0,_=>none
 |n+1,t=>match P.underlying t with
  |some (.int k)=>some [.int k]
  |some .string=>some [.str]
  |some .bool=>some [.bool]
  |some (.struct fs)=>if P.stoodInHeld t=true then none else EG P (Io P n) fs.toList 0
  |_=>none
def K8 (P:Program) (t:TypeId):Option (List ET):=if P.eqGuardType P.depth t=true then none else Io P 6 t
def Rv (P:Program):Operand→Bool
 |.func f=>match P.funcs[f]? with
  |some fn=>(Nat.beq fn.ntmps 68&&Nat.beq fn.params.size 2)||fn.params.toList.any λt=>match P.underlying t with
   |some (.pointer _)=>true
   |some (.slice _)=>fn.resultTypes.toList.contains t
   |_=>false
  |none=>false
 | .tmp _=>true
 |_=>false
def bZ (P:Program) (dr:Bool):Op→Option fq
 | .move x| .assign x=>(aL x).map .mv
 |.pick c a b=>match aL c,aL a,aL b with
  |some c,some a,some b=>some (.pick c a b)
  |_,_,_=>none
 | .alloc t=>((eM P t).bind uY).map λv=> .box (.k v)
 | .box _ x=>(aL x).map .box
 |.build t parts=>match (eM P t).bind (λz=>cellsOf z.cells.toList),(zI P t).bind (vh · parts.toList)with
  |some z,some ps=>some (.build z ps)
  |_,_=>none
 |.buildSlice t n parts=>match eP P t,qh 0 parts.toList with
  |some (e,sz,_),some rs=>if rs.length=n∧n*sz≤16777216∧0<sz∧((eM P e).map λz=>decide (z.cells.size=sz))=some true then some (if(!dr&&Pn P e)=true then .bsliceF sz rs else .bslice sz rs)else none
  |_,_=>none
 |.load t p=>match kF P t,aL p with
  |some n,some p=>some (.load n p)
  |_,_=>none
 |.store t p v=>match jg P t,aL p,aL v with
  |some n,some p,some v=>some (.store n p v)
  |_,_,_=>none
 |.binOp op t x y _=>match aL x,aL y with
  |some x,some y=>match op with
   | .eql=>if ES P t then some (.eqb false x y)else if vM P t then(K8 P t).map (.eqs false · x y)else if Ff P t then(if Fq y then some (.fnil false x)else none)else if KX P t then(if EE y then some (.snil false x)else none)else some (.bin .eql x y)
   | .neq=>if ES P t then some (.eqb true x y)else if vM P t then(K8 P t).map (.eqs true · x y)else if Ff P t then(if Fq y then some (.fnil true x)else none)else if KX P t then(if EE y then some (.snil true x)else none)else some (.bin .neq x y)
   |op=>some (.bin op x y)
  |_,_=>none
 | .unOp op _ x=>(aL x).map (.un op)
 |.convert s d x=>match P.underlying s,P.underlying d,aL x with
  |some (.int _),some (.int k),some x=>some (.conv k x)
  |_,_,_=>none
 | .nilCheck x=>(aL x).map .nilc
 |.slice t x lo' h7 mx'=>match P.underlying t,aL x,lq lo',lq h7,lq mx' with
  |some (.slice _),some x,some lo,some hi,some mx=>match eP P t with
   |some (_,sz,_)=>if 0<sz∧(mx'.isSome=true→h7.isSome=true)then some (.slc sz x lo hi mx)else none
   |none=>none
  |some .string,some x,some lo,some hi,some none=>some (.slcS x lo hi)
  |_,_,_,_,_=>none
 |.fieldAddr s x f=>match oh P s f,aL x with
  |some fd,some x=>if(jg P fd.type).getD 0=0 then none else some (.fieldA fd.offset x)
  |_,_=>none
 |.field s x f=>match oh P s f,aL x with
  |some fd,some x=>(kF P fd.type).map λn=> .field fd.offset n x
  |_,_=>none
 |.indexAddr t x i=>match eP P t,aL x,aL i with
  |some (_,sz,_),some x,some i=>some (.idxA sz x i)
  |none,some x,some i=>match P.underlying t with
   |some (.array n e)=>(jg P e).map λsz=> .idxR n sz x i
   |_=>none
  |_,_,_=>none
 |.index t x i=>if PU P t then match aL x,aL i with
  |some x,some i=>some (.idxS x i)
  |_,_=>none else none
 |.makeSlice t l c=>match eP P t,aL l,aL c with
  |some (e,sz,bytes),some (.t a),some (.t b)=>if a=b∧0<sz∧((eM P e).map λz=>decide (z.cells.size=sz))=some true then((eM P e).bind λz=>nq z.cells.toList).map λz=> .mkslice e sz bytes z (.t a)else none
  |_,_,_=>none
 | .extract x i=>(aL x).map λx=> .ext x i
 | .makeFunc (.func f) first caps=>if first.size=0 then(kn caps.toList).map (.mkfn f)else none
 |.call {callee:= .builtin .len,args,argTypes}=>match args.toList,argTypes.toList with
  |[x], [t]=>match aL x,P.underlying t with
   |some x,some (.slice _)=>some (.len x)
   |some x,some .string=>some (.lenS x)
   |_,_=>none
  |_,_=>none
 |.call {callee:= .builtin .min,args,..}=>match args.toList with
  |[x,y]=>match aL x,aL y with
   |some x,some y=>some (.mm false x y)
   |_,_=>none
  |_=>none
 |.call {callee:= .builtin .max,args,..}=>match args.toList with
  |[x,y]=>match aL x,aL y with
   |some x,some y=>some (.mm true x y)
   |_,_=>none
  |[x,y,z,t]=>match aL x,aL y,aL z,aL t with
   |some x,some y,some z,some t=>some (.mm4 x y z t)
   |_,_,_,_=>none
  |_=>none
 | .makeInterface _ _=>some .dead
 | .panic _=>some .dead
 |.call {callee:= .builtin .append,args,argTypes}=>match args.toList,argTypes.toList with
  |[x,y], [t,u]=>if t=u then match eP P t,aL x,aL y with
   |some (e,sz,bytes),some x,some y=>if 0<sz∧((eM P e).map λz=>decide (z.cells.size=sz))=some true then some (.app e sz bytes x y)else none
   |_,_,_=>none else none
  |_,_=>none
 |.call {callee:= .value f,args,..}=>match aL f,kn args.toList with
  |some y,some xs=>some (.call (!dr||Rv P f) (!dr) y xs)
  |_,_=>none
 |.makeMap t none=>match qP P t with
  |some (kt,_,n)=>some (.mkmap kt n)
  |none=>none
 |.lookup t m k ok=>match qP P t,aL m,aL k with
  |some (kt,e,n),some m,some k=>((eM P e).bind (J8 n)).map λz=> .mget kt n z ok m k
  |_,_,_=>none
 |.mapUpdate t m k v| .insert t m k v=>match qP P t,aL m,aL k,aL v with
  |some (kt,_,n),some m,some k,some v=>some (.mput kt n m k v)
  |_,_,_,_=>none
 |_=>none
def J7 (nt:Nat):Option Nat→Bool
 |some d=>decide (d<nt)
 |none=>true
def tg (P:Program) (dr:Bool) (nt:Nat) (ops:Array Oper) (o:Oper):Option AG:=
 if J7 nt o.dst=false then none else match bZ P dr o.op with
 |some ao=>match o.guard with
  |none=>some ⟨o.dst,none,ao⟩
  |some (j,want)=>match (ops[j]?).bind (·.dst)with
   |some t=>some ⟨o.dst,some (t,want),ao⟩
   |none=>none
 |none=>none
def gk (P:Program) (dr:Bool) (nt:Nat) (ops:Array Oper):List Oper→Option (List AG)
 | []=>some []
 |o::r=>match tg P dr nt ops o,gk P dr nt ops r with
  |some g,some gs=>some (g::gs)
  |_,_=>none
def AX.tmps:AX→List Nat
 | .t n=> [n]
 | .k _=> []
def D4:Option AX→List Nat
 |none=> []
 |some x=>x.tmps
def Be:List (Nat×Nat×AX)→List Nat
 | []=> []
 |(_,_,x)::r=>x.tmps++Be r
def gV:List AX→List Nat
 | []=> []
 |x::r=>x.tmps++gV r
def fq.tmps:fq→List Nat
 | .mv x| .box x| .load _ x| .un _ x| .conv _ x| .fieldA _ x| .field _ _ x| .nilc x| .mkslice _ _ _ _ x| .ext x _| .len x| .lenS x| .fnil _ x| .snil _ x=>x.tmps
 | .pick c a b=>c.tmps++a.tmps++b.tmps
 | .store _ x y| .bin _ x y| .eqb _ x y| .eqs _ _ x y| .idxA _ x y| .idxR _ _ x y| .idxS x y| .app _ _ _ x y| .mm _ x y=>x.tmps++y.tmps
 | .build _ ps=>Be ps
 | .bslice _ xs| .mkfn _ xs| .bsliceF _ xs=>gV xs
 | .slc _ x l h m=>x.tmps++D4 l++D4 h++D4 m
 | .slcS x l h=>x.tmps++D4 l++D4 h
 | .call _ _ f xs=>f.tmps++gV xs
 | .mkmap _ _| .dead=> []
 | .mm4 x y z t=>x.tmps++y.tmps++z.tmps++t.tmps
 | .mget _ _ _ _ m k=>m.tmps++k.tmps
 | .mput _ _ m k v=>m.tmps++k.tmps++v.tmps
def fq.eff:fq→Bool
 | .box _| .store .. | .mkslice .. | .app .. | .bsliceF .. | .mkmap .. | .mput .. =>true
 | .call g z _ _=>g||z
 |_=>false
def fq.gcall:fq→Bool
 | .call _ z _ _=>z
 | .snil _ _=>true
 |_=>false
def fq.sens:fq→Bool
 | .load .. | .idxA .. | .len _| .slc .. | .call .. | .mget .. | .snil .. =>true
 |_=>false
def fq.lays:fq→Bool
 | .box _| .mkslice .. | .app .. | .bsliceF .. | .mkmap .. =>true
 |_=>false
def AG.looks (g:AG):List Nat:=(match g.guard with|some (t,_)=> [t]|none=> [])++g.op.tmps
def iL (g h:AG):Bool:=
 (match g.dst with|some d=>h.looks.contains d||h.dst==some d|none=>false)||
 (match h.dst with|some d=>g.looks.contains d|none=>false)||
 (g.op.eff&&(h.op.eff||h.op.sens))||(g.op.sens&&h.op.eff&& !h.op.lays)
def rW:Nat→List Oper→Bool
 |_, []=>true
 |j,o::r=>(o.after.toList.all λe=> !Region.binds .any e||decide (e.on<j))&&rW (j+1) r
def qB:List (Nat×Nat)→Nat→Nat
 | [],_=>0
 |(j,m)::r,k=>if j=k then m else qB r k
def wj (E:List (Nat×Nat)) (j:Nat) (o:Oper):List Nat:=(o.after.toList.filterMap λe=>if Region.binds .any e=true then some e.on else none)++(E.filterMap λp=>if p.2=j then some p.1 else none)
def T3 (acc:List (Nat×Nat)):List Nat→Nat
 | []=>0
 |k::r=>2^k|||qB acc k|||T3 acc r
def vR (ops:List Oper) (E:List (Nat×Nat)):List Nat→List (Nat×Nat)→List (Nat×Nat)
 | [],acc=>acc
 |j::r,acc=>vR ops E r ((j,match ops[j]? with|some o=>T3 acc (wj E j o)|none=>0)::acc)
def Aj (M:List (Nat×Nat)) (i:Nat) (g:AG) (k:Nat) (x:Bool) (h:AG):Bool:=
 (qB M k).testBit i||(!iL g h&&(!(g.op.sens&&h.op.eff)||x))
def Am (M:List (Nat×Nat)):List (Nat×Bool×AG)→Bool
 | []=>true
 |(i,_,g)::r=>(r.all λy=>Aj M i g y.1 y.2.1 y.2.2)&&Am M r
def zU:List Nat→Bool
 | []=>true
 |i::r=> !r.contains i&&zU r
def Jh (ops:List Oper) (gs:List AG) (E:List (Nat×Nat)):Nat→List Nat→Option (List Nat)
 |0,done=>some done.reverse
 |f+1,done=>
  let rdy:Nat→Bool:= λi=> !done.contains i&&(match ops[i]? with|some o=>(wj E i o).all λk=>done.contains k|none=>false)
  match (List.range gs.length).find? λi=>rdy i&&(match gs[i]? with|some g=> !g.op.eff|none=>false)with
  |some i=>Jh ops gs E f (i::done)
  |none=>match (List.range gs.length).find? rdy with
   |some i=>Jh ops gs E f (i::done)
   |none=>none
def SW (gs:List AG) (h:AG):Bool:=match h.op with
 | .app _ _ _ (.t s) _=>gs.any λg=>(g.dst==some s&&(match g.op with| .app .. =>true|_=>false))||(Nat.ble gs.length 6&&(match g.op,h.dst with| .call _ _ _ xs,some d=>(gV xs).contains d|_,_=>false))
 |_=>false
def EU (gs:List AG) (M:List (Nat×Nat)):List (Nat×AG)→List Nat→Option (List (Nat×Bool×AG))
 |_, []=>some []
 |prev,k::r=>match gs[k]? with
  |some h=>match EU gs M ((k,h)::prev) r with
   |some l=>some ((k,h.op.eff&&h.op.lays&& !SW gs h&&prev.any (λy=>y.2.op.sens&& !(qB M k).testBit y.1),h)::l)
   |none=>none
  |none=>none
def BW (M:List (Nat×Nat)):List (Nat×Bool×AG)→Option (Nat×Nat)
 | []=>none
 |(i,_,g)::r=>match r.find? λy=> !Aj M i g y.1 y.2.1 y.2.2 with
  |some y=>some (i,y.1)
  |none=>BW M r
def zX (ops:List Oper) (gs:List AG):Nat→List (Nat×Nat)→Option (List (List (Nat×Bool×AG)))
 |0,_=>none
 |f+1,E=>match Jh ops gs E gs.length []with
  |none=>none
  |some ord=>match EU gs (vR ops E ord []) [] ord with
   |none=>none
   |some leaf=>match BW (vR ops E ord []) leaf with
    |none=>if(Am (vR ops E ord []) leaf&&zU ord&&(List.range gs.length).all (λi=>ord.contains i)&&ord.all (λi=>decide (i<gs.length)))=true then some [leaf]else none
    |some (i,k)=>if i=k then none else match zX ops gs f ((i,k)::E),zX ops gs f ((k,i)::E)with
     |some a,some b=>some (a++b)
     |_,_=>none
def qd (leaf:List (Nat×Bool×AG)):List (Bool×AG):=leaf.map λy=>y.2
def nj (P:Program) (ops:List Oper) (gs:List AG):bi:=
 if(P.follows .mixedOrders&&rW 0 ops&&gs.all (λg=> !g.op.gcall))=true then match zX ops gs 6 []with
  |some gss=> .draw (gss.map qd)
  |none=> .region gs true
 else .region gs true
def nQ (P:Program) (dr:Bool) (ops:List Oper) (gs:List AG):bi:=if dr=true then nj P ops gs else .region gs false
def d8 (P:Program) (nt:Nat):Code→Option bi
 | .skip=>some .skip
 | .region _ ops draw=>(gk P draw nt ops ops.toList).map λgs=>nQ P draw ops.toList gs
 |.seq a b=>match d8 P nt a,d8 P nt b with
  |some a,some b=>some (.seq a b)
  |_,_=>none
 |.cond c a b=>match aL c,d8 P nt a,d8 P nt b with
  |some c,some a,some b=>some (.cond c a b)
  |_,_,_=>none
 | .block id a=>(d8 P nt a).map (.block id)
 | .loop a=>(d8 P nt a).map .loop
 | .exit id=>some (.exit id)
 | .scope a=>none
 | .ret=>some .ret
 |.rangeFunc f ps a b=>match aL f,d8 P nt a,d8 P nt b,ps.toList.all (λt=>decide (t<nt))with
  |some f,some a,some b,true=>some (.rangeF f ps.toList a b)
  |_,_,_,_=>none
 |_=>none
theorem co.one {w:World} {U:Nat→Prop} {p:PC} {v:Value} (h:co w U p v):v.oneCell'=true:=by
 cases h with
 |val h=>cases v<;>simp_all [qK,Value.oneCell']
 |slice=>rfl
 |fmap=>rfl
theorem b7.one {w:World} {U:Nat→Prop} {ι:Pl} {N:Nat} {x:AC} {v:Value} (h:b7 w U ι N x v):v.oneCell'=true:=by
 cases h with
 |pure h=>exact h.one
 |nils=>rfl
 |tsl h=>rfl
 |ptr=>rfl
 |eptr=>rfl
 |cptr=>rfl
 |ref _ h=>obtain⟨a,n,c,e⟩:=h;rw[e];rfl
 |clo=>rfl
 |mref=>rfl
 |top h=>exact h
theorem Mh {v:Value} (h:v.oneCell'=true):v.cells= #[v]:=by cases v<;>simp_all [Value.oneCell',Value.cells]
theorem b7.mono {w w':World} {U U':Nat→Prop} {ι ι':Pl} {N N':Nat} {x:AC} {v:Value} (h:b7 w U ι N x v) (hU: ∀b,b<w.heap.size→U b→U' b)
  (hw: ∀b,b<w.heap.size→U b→w'.heap[b]? =w.heap[b]?) (hι: ∀nm,nm<N→ι' nm=ι nm) (hN:N≤N'):b7 w' U' ι' N' x v:=by
 induction h with
 |pure h=>exact .pure (h.mono hU hw)
 |nils=>exact .nils
 |tsl h=>exact .tsl (h.mono hU hw)
 |ptr hn h=>exact .ptr (by omega) (by rw[hι _ hn];exact h)
 |eptr hn h=>exact .eptr (by omega) (by rw[hι _ hn];exact h)
 |cptr g hc=>
  refine .cptr g λj p hj=> ?_
  obtain⟨h1,h2,h3⟩:=hc j p hj
  have H:=World.block_lt_of_cell? w _ h2
  exact⟨hU _ H h1,by rw[World.cell?_of_block (hw _ H h1)];exact h2,h3.mono hU hw⟩
 |ref hn h=>rw[←hι _ hn];exact .ref (by omega) (by rw[hι _ hn];exact h)
 |clo hl _ ih=>exact .clo hl ih
 |mref hn h=>exact .mref (by omega) (by rw[hι _ hn];exact h)
 |top h=>exact .top h
theorem aX.mono {w w':World} {U U':Nat→Prop} {ι ι':Pl} {N N':Nat} {x:AV} {v:Value} (h:aX w U ι N x v) (hU: ∀b,b<w.heap.size→U b→U' b)
  (hw: ∀b,b<w.heap.size→U b→w'.heap[b]? =w.heap[b]?) (hι: ∀nm,nm<N→ι' nm=ι nm) (hN:N≤N'):aX w' U' ι' N' x v:=by
 induction h with
 |c h=>exact .c (h.mono hU hw hι hN)
 |agg h=>exact .agg (h.mono λ_ _ h=>h.mono hU hw hι hN)
 |tup hl _ ih=>exact .tup hl ih
 |top=>exact .top
theorem fy {fr:List (Nat×AV)} {d:Nat} {v:AV} {t:Nat}:bc ((d,v)::fr) t=if d=t then v else bc fr t:=rfl
theorem bV.put {w0:World} {U:Gh} {σ:St} {ι:Pl} {a:Act} {w:World} {d:Option Nat} {v:AV} {u:Value} (h:bV w0 U σ ι a w)
  (hd: ∀t,d=some t→t<a.tmps.size) (hv:aX w (aE w0.heap.size U ι σ.mem) ι σ.nx v u):bV w0 U (σ.put d v) ι (a.put d u) w:=by
 cases d with
 |none=>exact h
 |some t=>
  refine⟨λs=> ?_,h.defers,h.names,h.box,h.apart,h.below,h.keep,h.base⟩
  show aX w (aE w0.heap.size U ι σ.mem) ι σ.nx (bc ((t,v)::σ.fr) s) ((a.tmps.setIfInBounds t u).getD s undef)
  rw[fy]
  by_cases hs:t=s
  ·subst hs
   rw[if_pos rfl]
   have:=hd t rfl
   simp[Array.getD_eq_getD_getElem?,this,hv]
  ·rw[if_neg hs]
   have:=h.val s
   simpa[Array.getD_eq_getD_getElem?,Array.getElem?_setIfInBounds_ne hs]using this
theorem l7.block {B:Nat} {w:World} {U:Nat→Prop} {ι:Pl} {N nm:Nat} {bx:bk} (h:l7 B w U ι N nm bx) {b:Nat} (hb:bI (ι nm)=some b):B≤b∧b<w.heap.size:=by
 cases bx with
 |var xs=>
  obtain⟨b',vs,T,h1,h2,h3,_⟩:=h
  rw[h1]at hb
  simp[bI]at hb
  subst hb
  exact⟨h2,(Array.getElem?_eq_some_iff.1 h3).1⟩
 |arr e sz rows=>
  obtain⟨cells,_,h1,_⟩:=h
  refine World.ownsRow.lt h1 b ?_
  generalize ι nm=v at*
  unfold bI at hb
  unfold Value.ownBlock
  split at hb<;>simp_all
  all_goals(rcases h1.2 with⟨h,_⟩|⟨g,cap,cur,h,_⟩<;>cases h)
 |arn e sz rows=>
  obtain⟨cells,_,h1,_⟩:=h
  refine World.ownsRow.lt h1 b ?_
  generalize ι nm=v at*
  unfold bI at hb
  unfold Value.ownBlock
  split at hb<;>simp_all
  all_goals(rcases h1.2 with⟨h,_⟩|⟨g,cap,cur,h,_⟩<;>cases h)
 |map kt n ents=>
  obtain⟨b',es,clock,h1,h2,h3,_⟩:=h
  rw[h1]at hb
  simp[bI]at hb
  subst hb
  exact⟨h2,(Array.getElem?_eq_some_iff.1 h3).1⟩
theorem gF.mono {w w':World} {U U':Nat→Prop} {ι ι':Pl} {N N' sz:Nat} {rows:List (List AC)} {cells:List Value} (h:gF w U ι N sz rows cells) (hU: ∀b,b<w.heap.size→U b→U' b)
  (hw: ∀b,b<w.heap.size→U b→w'.heap[b]? =w.heap[b]?) (hι: ∀nm,nm<N→ι' nm=ι nm) (hN:N≤N'):gF w' U' ι' N' sz rows cells:=
 ⟨h.1,h.2.1,λi row j p hi hj=>by
  obtain⟨v,hv,hp⟩:=h.2.2 i row j p hi hj
  exact⟨v,hv,hp.mono hU hw hι hN⟩⟩
theorem jd.mono {w w':World} {U U':Nat→Prop} {ι ι':Pl} {N N':Nat} {kt:KT} {n:Option Nat} {x:MK×List AC} {e:MapEntry} (h:jd w U ι N kt n x e) (hU: ∀b,b<w.heap.size→U b→U' b)
  (hw: ∀b,b<w.heap.size→U b→w'.heap[b]? =w.heap[b]?) (hι: ∀nm,nm<N→ι' nm=ι nm) (hN:N≤N'):jd w' U' ι' N' kt n x e:=⟨h.1,h.2.mono hU hw hι hN⟩
theorem l7.grow {B:Nat} {w w':World} {U U':Nat→Prop} {ι ι':Pl} {N N' nm:Nat} {bx:bk} (h:l7 B w U ι N nm bx) (hg:Below w.heap.size w w')
  (hU: ∀b,b<w.heap.size→U b→U' b) (hι: ∀nm,nm<N→ι' nm=ι nm) (hN:N≤N') (hn:nm<N):l7 B w' U' ι' N' nm bx:=by
 have hw: ∀b,b<w.heap.size→U b→w'.heap[b]? =w.heap[b]? := λb hb _=>hg.block b hb
 cases bx with
 |var xs=>
  obtain⟨b,vs,T,h1,h2,h3,h4⟩:=h
  exact⟨b,vs,T,by rw[hι _ hn];exact h1,h2,by rw[hg.block b (Array.getElem?_eq_some_iff.1 h3).1];exact h3,h4.mono λ_ _ h=>h.mono hU hw hι hN⟩
 |arr e sz rows=>
  obtain⟨cells,h0,h1,h2,h3,h4,h5⟩:=h
  refine⟨cells,h0, ?_,h2,h3,h4,λi row j p hi hj=> ?_⟩
  ·rw[hι _ hn]
   exact World.ownsRow.kept (row:=none) h1 ⟨hg.os,hg.tape,hg.output,hg.size,λk hk _=>hg.block k hk⟩ (by cases (ι nm).ownBlock<;>simp)
  ·obtain⟨v,hv,hp⟩:=h5 i row j p hi hj
   exact⟨v,hv,hp.mono hU hw⟩
 |arn e sz rows=>
  obtain⟨cells,h0,h1,h2,h3⟩:=h
  refine⟨cells,h0, ?_,h2,h3.mono hU hw hι hN⟩
  rw[hι _ hn]
  exact World.ownsRow.kept (row:=none) h1 ⟨hg.os,hg.tape,hg.output,hg.size,λk hk _=>hg.block k hk⟩ (by cases (ι nm).ownBlock<;>simp)
 |map kt n ents=>
  obtain⟨b,es,clock,h1,h2,h3,h4⟩:=h
  exact⟨b,es,clock,by rw[hι _ hn];exact h1,h2,by rw[hg.block b (Array.getElem?_eq_some_iff.1 h3).1];exact h3,h4.mono λ_ _ h=>h.mono hU hw hι hN⟩
theorem bV.grow {w0:World} {U:Gh} {σ:St} {ι:Pl} {a:Act} {w w':World} (h:bV w0 U σ ι a w) (hg:Below w.heap.size w w'):bV w0 U σ ι a w':=
 ⟨λt=>(h.val t).mono (λ_ _ h=>h) (λb hb _=>hg.block b hb) (λ_ _=>rfl) (Nat.le_refl _),h.defers,h.names,
  λnm bx hf=>(h.box nm bx hf).grow hg (λ_ _ h=>h) (λ_ _=>rfl) (Nat.le_refl _) (h.names _ _ hf),h.apart,h.below.trans (hg.mono h.below.size),
  U.mono _ _ _ _ h.keep (λ_ _ h=>h) (λb hb _=>hg.block b hb),h.base⟩
theorem bT {m:List (Nat×bk)} {k:Nat} {c:bk} {n:Nat}:al ((k,c)::m) n=if k=n then some c else al m n:=rfl
theorem bV.newBox {w0:World} {U:Gh} {σ:St} {ι:Pl} {a:Act} {w w':World} {bx:bk} {pv:Value} (h:bV w0 U σ ι a w) (hg:Below w.heap.size w w')
  (HL: ∀b,bI pv=some b→w.heap.size≤b)
  (hb: ∀ι',(∀nm,nm<σ.nx→ι' nm=ι nm)→ι' σ.nx=pv→(∀b,b<w.heap.size→aE w0.heap.size U ι σ.mem b→aE w0.heap.size U ι' ((σ.nx,bx)::σ.mem) b)→l7 w0.heap.size w' (aE w0.heap.size U ι' ((σ.nx,bx)::σ.mem)) ι' (σ.nx+1) σ.nx bx):
  ∃ι',bV w0 U {σ with mem:=(σ.nx,bx)::σ.mem,nx:=σ.nx+1} ι' a w'∧ι' σ.nx=pv∧(∀nm,nm<σ.nx→ι' nm=ι nm)∧
   (∀b,b<w.heap.size→aE w0.heap.size U ι σ.mem b→aE w0.heap.size U ι' ((σ.nx,bx)::σ.mem) b):=by
 let ι':Pl:= λn=>if n=σ.nx then pv else ι n
 have e1:ι' σ.nx=pv:=if_pos rfl
 have e2: ∀nm,nm<σ.nx→ι' nm=ι nm:= λnm hn=>if_neg (by omega)
 have C: ∀b,b<w.heap.size→aE w0.heap.size U ι σ.mem b→aE w0.heap.size U ι' ((σ.nx,bx)::σ.mem) b:=by
  intro b hb hf
  refine⟨hf.1,λnm bx' hn=> ?_⟩
  rw[bT]at hn
  by_cases e:σ.nx=nm
  ·subst e
   rw[e1]
   intro hc
   have:=HL b hc
   omega
  ·rw[if_neg e]at hn
   rw[e2 _ (h.names _ _ hn)]
   exact hf.2 _ _ hn
 refine⟨ι',⟨λt=> ?_,h.defers,λnm bx' hn=> ?_,λnm bx' hn=> ?_, ?_,h.below.trans (hg.mono h.below.size),U.mono _ _ _ _ h.keep C (λb hb _=>hg.block b hb),⟨Nat.le_succ_of_le h.base.1,λnm hn=>(e2 nm (Nat.lt_of_lt_of_le hn h.base.1)).trans (h.base.2 nm hn)⟩⟩,e1,e2,C⟩
 ·exact(h.val t).mono C (λb hb _=>hg.block b hb) e2 (Nat.le_succ _)
 ·rw[bT]at hn
  show nm<σ.nx+1
  by_cases e:σ.nx=nm
  ·omega
  ·rw[if_neg e]at hn
   have:=h.names _ _ hn
   omega
 ·rw[bT]at hn
  by_cases e:σ.nx=nm
  ·subst e
   rw[if_pos rfl]at hn
   cases hn
   exact hb ι' e2 e1 C
  ·rw[if_neg e]at hn
   exact(h.box nm bx' hn).grow hg C e2 (Nat.le_succ _) (h.names _ _ hn)
 ·intro nm nm' b1 b2 b h1 h2 h3 h4
  rw[bT]at h1 h2
  by_cases e:σ.nx=nm
  ·by_cases e':σ.nx=nm'
   ·omega
   ·rw[if_neg e']at h2
    subst e
    rw[e1]at h3
    rw[e2 _ (h.names _ _ h2)]at h4
    have:=HL b h3
    have:=((h.box _ _ h2).block h4).2
    omega
  ·rw[if_neg e]at h1
   by_cases e':σ.nx=nm'
   ·subst e'
    rw[e1]at h4
    rw[e2 _ (h.names _ _ h1)]at h3
    have:=HL b h4
    have:=((h.box _ _ h1).block h3).2
    omega
   ·rw[if_neg e']at h2
    rw[e2 _ (h.names _ _ h1)]at h3
    rw[e2 _ (h.names _ _ h2)]at h4
    exact h.apart _ _ _ _ _ h1 h2 h3 h4
theorem aj {m:List (Nat×bk)} {k:Nat} {c:bk}: ∀{n:Nat},al (dJ m k c) n=if k=n then(al m n).map (λ_=>c)else al m n:=by
 induction m with
 |nil=>intro n;simp[dJ,al]
 |cons x m ih=>
  intro n
  obtain⟨k',b⟩:=x
  simp only[dJ]
  by_cases e:k'=k
  ·subst e
   rw[if_pos rfl,bT,bT]
   by_cases e':k'=n
   ·simp[e']
   ·simp[e']
  ·rw[if_neg e,bT,bT,ih]
   by_cases e':k'=n
   ·subst e'
    simp[Ne.symm e]
   ·simp[e']
theorem co.nil {w:World} {U:Nat→Prop} {a:Option Addr} {c:Nat}:co w U (.slice []) (.slice a 0 c):=
 .slice (sz:=0) (λ_ _=>undef) rfl (Nat.zero_le _) (by omega) (by simp) (by simp) (by simp)
section
variable {w : World} {U : Nat → Prop} {ι : Pl} {N : Nat}
theorem tF {v:Value} {x:AC} (h:wg v=some x):b7 w U ι N x v:=by
 unfold wg at h
 split at h
 ·cases h;exact .nils
 ·split at h
  ·cases h;exact .pure (.val ‹_›)
  ·cases h
theorem mw: ∀{vs:List Value} {xs:List AC},cellsOf vs=some xs→aM (b7 w U ι N) xs vs
 | [],xs,h=>by cases h;exact .nil
 |v::r,xs,h=>by
  unfold cellsOf at h
  split at h
  ·cases h
   exact .cons (tF ‹_›) (mw ‹_›)
  ·cases h
theorem GG {v:Value} {x:PC} (h:FO v=some x):co w U x v:=by
 unfold FO at h
 split at h
 ·cases h;exact .nil
 ·split at h
  ·cases h;exact .val ‹_›
  ·cases h
theorem vH: ∀{vs:List Value} {xs:List PC},nq vs=some xs→aM (co w U) xs vs
 | [],xs,h=>by cases h;exact .nil
 |v::r,xs,h=>by
  unfold nq at h
  split at h
  ·cases h
   exact .cons (GG ‹_›) (vH ‹_›)
  ·cases h
theorem xt {v:Value} {x:AV} (h:uY v=some x):aX w U ι N x v:=by
 unfold uY at h
 split at h
 ·rename_i vs
  cases e:cellsOf vs.toList with
  |none=>simp[e]at h
  |some xs=>simp[e]at h;subst h;exact .agg (mw e)
 ·rename_i vs
  split at h
  ·cases h
   exact .tup (by simp;omega) (by simp)
  ·cases h
 ·cases e:wg v with
  |none=>simp[e]at h
  |some y=>simp[e]at h;subst h;exact .c (tF e)
theorem bo {v u:Value} (h:aX w U ι N (.c (.pure (.val v))) u):u=v∧qK v=true:=by
 cases h with|c h=>cases h with|pure h=>cases h with|val h=>exact⟨rfl,h⟩
theorem mB {v:Value} (h:qK v=true):aX w U ι N (.c (.pure (.val v))) v:= .c (.pure (.val h))
theorem gu (k:IntKind) (n:Int):aX w U ι N (.c (.pure (.val (.int k n)))) (.int k n):=mB rfl
theorem iB (b:Bool):aX w U ι N (.c (.pure (.val (.bool b)))) (.bool b):=mB rfl
theorem ip:aX w U ι N (.tup []) undef:= .tup rfl (by simp)
theorem aX.cells {v:AV} {u:Value} {xs:List AC} (h:aX w U ι N v u) (hx:v.cells=some xs):aM (b7 w U ι N) xs u.cells.toList:=by
 cases h with
 |c h=>
  cases hx
  rw[Mh h.one]
  exact .cons h .nil
 |agg h=>cases hx;exact h
 |tup=>cases hx
 |top=>cases hx
end
section
variable {P : Program} {o : Oper} {a : Act} {w w0 : World} {U : Gh} {ι : Pl} {σ : St} {next : Act → World → Prop} {Q : Exit → Act → World → Prop} {K : AV → St → Prop}
theorem aB {x:Operand} {y:AX} (h:aL x=some y) (hs:bV w0 U σ ι a w):aX w (aE w0.heap.size U ι σ.mem) ι σ.nx (y.ev σ.fr) (a.eval x):=by
 cases x with
 |tmp t=>cases h;exact hs.val t
 |const v=>
  simp[aL]at h
  obtain⟨z,hz,rfl⟩:=h
  exact xt hz
 |global g=>cases h
 |func f=>
  cases h
  exact .c (.clo rfl (by simp))
def fL (w0:World) (U:Gh) (a:Act) (o:Oper) (K:AV→St→Prop) (next:Act→World→Prop):Prop:=
 ∀v σ' ι' u w',K v σ'→bV w0 U σ' ι' a w'→aX w' (aE w0.heap.size U ι' σ'.mem) ι' σ'.nx v u→next (a.put o.dst u) w'
theorem aG {u:Value} {w':World} (h:(execOp a.eval o).run P w= .ok (.value u) w') (hn:next (a.put o.dst u) w'):o.wp P a w next Q:=by
 unfold Oper.wp
 rw[h]
 exact hn
theorem lM {w':World} (h:(execOp a.eval o).run P w= .ok .skip w') (hn:next (a.put o.dst undef) w'):o.wp P a w next Q:=by
 unfold Oper.wp
 rw[h]
 exact hn
theorem RX {x:Operand} {y:AX} (ho:o.op= .move x∨o.op= .assign x) (hx:aL x=some y) (h:bR P (.mv y) σ K) (hs:bV w0 U σ ι a w) (hn:fL w0 U a o K next):o.wp P a w next Q:=by
 refine aG (u:=a.eval x) (w':=w) ?_ (hn _ σ ι _ w h hs (aB hx hs))
 rcases ho with ho|ho<;>simp[execOp,ho]
theorem Ro {x y z:Operand} {c p q:AX} (ho:o.op= .pick x y z) (hx:aL x=some c) (hy:aL y=some p) (hz:aL z=some q) (h:bR P (.pick c p q) σ K) (hs:bV w0 U σ ι a w) (hn:fL w0 U a o K next):o.wp P a w next Q:=by
 have r1:=aB hx hs
 simp only[bR]at h
 split at h
 ·rename_i t e
  rw[e]at r1
  have e1:=(bo r1).1
  refine aG (u:=if t then a.eval y else a.eval z) (w':=w) (by simp[execOp,ho,e1,asBool]) ?_
  cases t with
  |true=>exact hn _ σ ι _ w (h.1 rfl) hs (aB hy hs)
  |false=>exact hn _ σ ι _ w (h.2 rfl) hs (aB hz hs)
 ·exact h.elim
theorem Qx {s d:TypeId} {x:Operand} {y:AX} {k k0:IntKind} (ho:o.op= .convert s d x) (Zq:P.underlying s=some (.int k0)) (hk:P.underlying d=some (.int k)) (hx:aL x=some y) (h:bR P (.conv k y) σ K) (hs:bV w0 U σ ι a w) (hn:fL w0 U a o K next):o.wp P a w next Q:=by
 have r1:=aB hx hs
 simp only[bR]at h
 split at h
 ·rename_i k1 n e
  rw[e]at r1
  have e1:=(bo r1).1
  refine aG (u:= .int k (k.wrap n)) (w':=w) ?_ (hn _ σ ι _ w h hs (gu _ _))
  simp[execOp,ho,e1,convert,run_underlying Zq,run_underlying hk,Conv.intToInt]
 ·exact h.elim
theorem TV {u:UnOp} {t:TypeId} {x:Operand} {y:AX} (ho:o.op= .unOp u t x) (hx:aL x=some y) (h:bR P (.un u y) σ K) (hs:bV w0 U σ ι a w) (hn:fL w0 U a o K next):o.wp P a w next Q:=by
 have r1:=aB hx hs
 simp only[bR]at h
 split at h
 ·rename_i b e
  rw[e]at r1
  have e1:=(bo r1).1
  exact aG (u:= .bool (!b)) (w':=w) (by simp[execOp,ho,e1,Op.unary]) (hn _ σ ι _ w h hs (iB _))
 ·rename_i k n e
  rw[e]at r1
  have e1:=(bo r1).1
  exact aG (w':=w) (by simp[execOp,ho,e1,Op.unary,Op.intArith];try rfl) (hn _ σ ι _ w h hs (gu _ _))
 ·rename_i k n e
  rw[e]at r1
  have e1:=(bo r1).1
  exact aG (w':=w) (by simp[execOp,ho,e1,Op.unary,Op.intBits];try rfl) (hn _ σ ι _ w h hs (gu _ _))
 ·exact h.elim
theorem Px {op:BinOp} {t:TypeId} {x y:Value} {K:Value→Prop} (h:yJ op x y K) (H1:op≠ .shl∧op≠ .shr): ∃v,(binOp op t x y).run P w= .ok v w∧qK v=true∧K v:=by
 unfold yJ at h
 split at h
 ·obtain⟨rfl,h⟩:=h
  simp only[lA]at h
  split at h<;>first
   |exact h.elim
   |(obtain⟨h0,h⟩:=h;exact⟨_,by simp[binOp,Op.intArith,Op.intDiv,Op.intBits,Op.intCmp,h0];try rfl,rfl,h⟩)
   |exact⟨_,by simp[binOp,Op.intArith,Op.intDiv,Op.intBits,Op.intCmp];try rfl,rfl,h⟩
 ·simp only[tE]at h
  split at h
  ·obtain⟨h0,h⟩:=h
   refine⟨_, ?_,rfl,h⟩
   simp[binOp,Op.stringOp]
   omega
  all_goals first
   |exact h.elim
   |exact⟨_,by simp[binOp,Op.stringOp];try rfl,rfl,h⟩
 ·exact h.elim
def Ju:Value→Bool
 | .nilIface| .agg _=>false
 |_=>true
theorem ql {op:BinOp} {t:TypeId} {x y:Operand} {u v:Value} (hu:Ju u=true):(eqGuard op t x y u v).run P w= .ok () w:=by
 cases u<;>simp[Ju]at hu<;>(unfold eqGuard;cases op<;>simp)
theorem J2 {op:BinOp} {t t':TypeId} {x y:Operand} {p q:AX} (ho:o.op= .binOp op t x y t') (hx:aL x=some p) (hy:aL y=some q) (h:bR P (.bin op p q) σ K) (hs:bV w0 U σ ι a w) (hn:fL w0 U a o K next):o.wp P a w next Q:=by
 have r1:=aB hx hs
 have r2:=aB hy hs
 simp only[bR]at h
 split at h
 ·rename_i u v e e'
  rw[e]at r1
  rw[e']at r2
  obtain⟨e1,s1⟩:=bo r1
  obtain⟨e2,s2⟩:=bo r2
  split at h
  ·unfold mN at h
   split at h
   ·obtain⟨h0,h⟩:=h
    simp only[rh]at h
    refine aG (w':=w) ?_ (hn _ σ ι _ w h hs (gu _ _))
    simp[execOp,ho,e1,e2,eqGuard,binOp,Op.shift,Int.not_lt.2 h0]
   ·exact h.elim
  ·unfold mN at h
   split at h
   ·obtain⟨h0,h⟩:=h
    simp only[rh]at h
    refine aG (w':=w) ?_ (hn _ σ ι _ w h hs (gu _ _))
    simp[execOp,ho,e1,e2,eqGuard,binOp,Op.shift,Int.not_lt.2 h0]
   ·exact h.elim
  ·rename_i n1 n2
   have hg:Ju u=true:=by
    unfold yJ at h
    split at h
    ·rfl
    ·rfl
    ·exact h.elim
   obtain⟨r,hr,Zr,hk⟩:=Px (P:=P) (w:=w) (t:=t) h ⟨n1,n2⟩
   refine aG (u:=r) (w':=w) ?_ (hn _ σ ι _ w hk hs (mB Zr))
   simp only[execOp,ho,e1,e2]
   rw[Sem.run_bind,Sem.run_bind,ql hg]
   simp[hr]
 ·exact h.elim
theorem wQ (d:Nat) {t:TypeId} {u v:Bool} (ht:P.underlying t=some .bool):(Op.equalIn (d+1) t (.bool u) (.bool v)).run P w= .ok (u==v) w:=by
 simp[Op.equalIn,run_underlying ht]
theorem NB {op:BinOp} {t t':TypeId} {x y:Operand} {p q:AX} {neg:Bool} (H1:(op= .eql∧neg=false)∨(op= .neq∧neg=true)) (ht:P.underlying t=some .bool) (ho:o.op= .binOp op t x y t') (hx:aL x=some p) (hy:aL y=some q)
  (h:bR P (.eqb neg p q) σ K) (hs:bV w0 U σ ι a w) (hn:fL w0 U a o K next):o.wp P a w next Q:=by
 have r1:=aB hx hs
 have r2:=aB hy hs
 simp only[bR]at h
 split at h
 ·rename_i u v e e'
  rw[e]at r1
  rw[e']at r2
  have e1:=(bo r1).1
  have e2:=(bo r2).1
  have hq:(Op.equal t (.bool u) (.bool v)).run P w= .ok (u==v) w:=wQ 9999 ht
  refine aG (u:= .bool ((u==v) !=neg)) (w':=w) ?_ (hn _ σ ι _ w h hs (iB _))
  simp only[execOp,ho,e1,e2]
  rw[Sem.run_bind,Sem.run_bind,ql rfl]
  rcases H1 with⟨rfl,rfl⟩|⟨rfl,rfl⟩<;>simp[binOp,hq]
 ·exact h.elim
theorem Lb {op:BinOp} {t t':TypeId} {x y:Operand} {p q:AX} {neg:Bool} (H1:(op= .eql∧neg=false)∨(op= .neq∧neg=true)) (ht:Ff P t=true) (hq:Fq q=true) (ho:o.op= .binOp op t x y t') (hx:aL x=some p) (hy:aL y=some q)
  (h:bR P (.fnil neg p) σ K) (hs:bV w0 U σ ι a w) (hn:fL w0 U a o K next):o.wp P a w next Q:=by
 have r1:=aB hx hs
 have r2:=aB hy hs
 unfold Fq at hq
 split at hq
 ·have e2:=(bo r2).1
  unfold Ff at ht
  split at ht
  ·rename_i hT
   simp only[bR]at h
   split at h
   ·rename_i f caps e
    rw[e]at r1
    generalize hu:a.eval x=u at r1
    cases r1 with
    |c r1=>
     cases r1 with
     | @clo _ _ vs hl hh=>
      have hr:(Op.equal t (.func (.func f) #[] vs) .nilFunc).run P w= .ok false w:=by
       show(Op.equalIn (9999+1) t (.func (.func f) #[] vs) .nilFunc).run P w= .ok false w
       unfold Op.equalIn
       simp[run_underlying hT]
      have hg:(eqGuard op t x y (.func (.func f) #[] vs) .nilFunc).run P w= .ok () w:=by unfold eqGuard;cases op<;>simp
      refine aG (u:= .bool neg) (w':=w) ?_ (hn _ σ ι _ w h hs (iB _))
      simp only[execOp,ho,hu,e2]
      rw[Sem.run_bind,Sem.run_bind,hg]
      rcases H1 with⟨rfl,rfl⟩|⟨rfl,rfl⟩<;>simp[binOp,hr]
   ·rename_i e
    rw[e]at r1
    have e1:=(bo r1).1
    have hr:(Op.equal t .nilFunc .nilFunc).run P w= .ok true w:=by
     show(Op.equalIn (9999+1) t .nilFunc .nilFunc).run P w= .ok true w
     unfold Op.equalIn
     simp[run_underlying hT]
    have hg:(eqGuard op t x y .nilFunc .nilFunc).run P w= .ok () w:=by unfold eqGuard;cases op<;>simp
    refine aG (u:= .bool (!neg)) (w':=w) ?_ (hn _ σ ι _ w h hs (iB _))
    simp only[execOp,ho,e1,e2]
    rw[Sem.run_bind,Sem.run_bind,hg]
    rcases H1 with⟨rfl,rfl⟩|⟨rfl,rfl⟩<;>simp[binOp,hr]
   ·exact h.elim
  ·cases ht
 ·cases hq
end
open Go.RowKit
theorem gI (b off k:Nat):(⟨b,off,none⟩:Addr).add k=⟨b,off+k,none⟩:=by
 unfold Addr.add
 split<;>simp_all
section
variable {P : Program} {o : Oper} {a : Act} {w w0 : World} {U : Gh} {ι : Pl} {σ : St} {next : Act → World → Prop} {Q : Exit → Act → World → Prop} {K : AV → St → Prop}
theorem Da {t:TypeId} (h:kF P t=some none) {v:Value} {ad:Addr} (hc:w.cell? ad=some v):(loadVar t ad).run P w= .ok v w:=by
 unfold kF at h
 split at h
 ·cases h
 ·cases h
 ·rename_i d i n1 n2 hd hi
  have h8:(isAgg t).run P w= .ok false w:=by
   unfold isAgg
   cases d<;>first|(simp[run_underlying hd];done)|exact absurd rfl (n1 _)|exact absurd rfl (n2 _ _)
  simp[loadVar,h8,hc]
 ·cases h
theorem DF {t:TypeId} {n:Nat} (h:kF P t=some (some n)) {vs:List Value} {ad:Addr} (hn:vs.length=n) (hc: ∀(j:Nat) v,vs[j]? =some v→w.cell? (ad.add j)=some v):(loadVar t ad).run P w= .ok (.agg vs.toArray) w:=by
 have hl:=run_loadCells_list (P:=P) w ad vs hc
 unfold kF at h
 split at h
 ·rename_i fs i hd hi
  simp at h
  have h8:(isAgg t).run P w= .ok true w:=by simp[isAgg,run_underlying hd]
  simp[loadVar,h8,sizeOf,typeInfo,hi,h,←hn,hl]
 ·rename_i fs i hd hi
  simp at h
  have h8:(isAgg t).run P w= .ok true w:=by simp[isAgg,run_underlying hd]
  simp[loadVar,h8,sizeOf,typeInfo,hi,h,←hn,hl]
 ·split at h<;>cases h
 ·cases h
theorem BP {q:AC} {u:Value} {xs:List AC} (hs:bV w0 U σ ι a w) (h:b7 w (aE w0.heap.size U ι σ.mem) ι σ.nx q u) (hx:b8 σ.mem q=some xs):
  ∃b off,u= .pointer (some ⟨b,off,none⟩)∧ ∀(j:Nat) x,xs[j]? =some x→ ∃v,w.cell? ⟨b,off+j,none⟩=some v∧b7 w (aE w0.heap.size U ι σ.mem) ι σ.nx x v:=by
 cases h with
 |ptr hn h=>
  rename_i nm off b
  unfold b8 at hx
  split at hx
  ·rename_i nm' off' e
   cases e
   split at hx
   ·rename_i ys hf
    cases hx
    obtain⟨b',vs,T,h1,h2,h3,h4⟩:=hs.box _ _ hf
    rw[h]at h1
    simp at h1
    subst h1
    refine⟨b,off,rfl,λj x hj=> ?_⟩
    rw[List.getElem?_drop]at hj
    obtain⟨v,hv,hr⟩:=h4.get hj
    exact⟨v,by rw[cell_of_row w b _ vs T (0,0) h3];simpa using hv,hr⟩
   ·cases hx
  all_goals simp at*
 |cptr g hc=>
  rename_i cells b off
  simp[b8]at hx
  subst hx
  refine⟨b,off,rfl,λj x hj=> ?_⟩
  rw[List.getElem?_map]at hj
  cases e:cells[j]? with
  |none=>simp[e]at hj
  |some p=>
   simp[e]at hj
   subst hj
   obtain⟨_,h2,h3⟩:=hc j p e
   exact⟨_,h2,.pure h3⟩
 |eptr hn h=>
  rename_i nm sz row off b n c
  simp only[b8]at hx
  split at hx
  ·rename_i e sz' rows hf
   split at hx
   ·rename_i J
    subst J
    cases hr:rows[row]? with
    |none=>simp[hr]at hx
    |some r=>
     simp[hr]at hx
     subst hx
     obtain⟨cells,h0,h1,h2,h3,h4,h5⟩:=hs.box _ _ hf
     refine⟨b,row*sz+off,rfl,λj x hj=> ?_⟩
     rw[List.getElem?_drop,List.getElem?_map]at hj
     cases e:r[off+j]? with
     |none=>simp[e]at hj
     |some p=>
      simp[e]at hj
      subst hj
      obtain⟨v,hv,hp⟩:=h5 row r (off+j) p hr e
      rw[h]at h1
      have:=World.ownsRow.cells h1 (g:=b) rfl (row*sz+(off+j)) v hv
      rw[gI]at this
      exact⟨v,by rw[←this];congr 2;omega,.pure hp⟩
   ·cases hx
  ·rename_i e sz' rows hf
   split at hx
   ·rename_i J
    subst J
    cases hr:rows[row]? with
    |none=>simp[hr]at hx
    |some r=>
     simp[hr]at hx
     subst hx
     obtain⟨cells,h0,h1,h2,h3,h4,h5⟩:=hs.box _ _ hf
     refine⟨b,row*sz+off,rfl,λj x hj=> ?_⟩
     rw[List.getElem?_drop]at hj
     obtain⟨v,hv,hp⟩:=h5 row r (off+j) x hr hj
     rw[h]at h1
     have:=World.ownsRow.cells h1 (g:=b) rfl (row*sz+(off+j)) v hv
     rw[gI]at this
     exact⟨v,by rw[←this];congr 2;omega,hp⟩
   ·cases hx
  ·cases hx
 |pure=>simp[b8]at hx
 |nils=>simp[b8]at hx
 |tsl=>simp[b8]at hx
 |ref=>simp[b8]at hx
 |mref=>simp[b8]at hx
 |clo=>simp[b8]at hx
 |top=>simp[b8]at hx
theorem Q0 {t:TypeId} {x:Operand} {y:AX} {n:Option Nat} (ho:o.op= .load t x) (ht:kF P t=some n) (hx:aL x=some y) (h:bR P (.load n y) σ K) (hs:bV w0 U σ ι a w) (hn:fL w0 U a o K next):o.wp P a w next Q:=by
 have r1:=aB hx hs
 simp only[bR]at h
 split at h
 ·rename_i q e
  rw[e]at r1
  cases r1 with
  |c r1=>
   split at h
   ·rename_i xs H2
    obtain⟨b,off,e1,hc⟩:=BP hs r1 H2
    cases n with
    |none=>
     simp only at h
     split at h
     ·rename_i z zs
      obtain⟨v,hv,hr⟩:=hc 0 z rfl
      refine aG (u:=v) (w':=w) ?_ (hn _ σ ι _ w h hs (.c hr))
      have:=Da (P:=P) ht hv
      simp only[Nat.add_zero]at this
      simp[execOp,ho,e1,Instr.loadAt,Instr.sureAddr,this]
     ·exact h.elim
    |some n=>
     obtain⟨hL,h⟩:=h
     have hg: ∃ys:List Value,ys.length=n∧ ∀(j:Nat) x v,(xs.take n)[j]? =some x→ys[j]? =some v→w.cell? ⟨b,off+j,none⟩=some v∧b7 w (aE w0.heap.size U ι σ.mem) ι σ.nx x v:=by
      refine⟨(List.range n).map λj=>(w.cell? ⟨b,off+j,none⟩).getD undef,by simp,λj x v hj hv=> ?_⟩
      have z4:j<n:=by have:=(List.getElem?_eq_some_iff.1 hj).1;simp at this;omega
      rw[List.getElem?_take_of_lt z4]at hj
      obtain⟨u,hu,hr⟩:=hc j x hj
      simp[List.getElem?_map,List.getElem?_range z4,hu]at hv
      subst hv
      exact⟨hu,hr⟩
     obtain⟨ys,hl,hy⟩:=hg
     have H:(xs.take n).length=n:=by simp;omega
     refine aG (u:= .agg ys.toArray) (w':=w) ?_ (hn _ σ ι _ w h hs (.agg (aM.of_get (by rw[H];simp[hl]) λj x v hj hv=>(hy j x v hj (by simpa using hv)).2)))
     have:=DF (P:=P) (w:=w) (ad:=⟨b,off,none⟩) ht (vs:=ys) hl λj v hv=>by
      have z4:j<(xs.take n).length:=by rw[H,←hl];exact(List.getElem?_eq_some_iff.1 hv).1
      rw[gI]
      exact(hy j _ v (List.getElem?_eq_getElem z4) hv).1
     simp[execOp,ho,e1,Instr.loadAt,Instr.sureAddr,this]
   ·exact h.elim
 ·exact h.elim
theorem Ru {x:Operand} {y:AX} (ho:o.op= .nilCheck x) (hx:aL x=some y) (h:bR P (.nilc y) σ K) (hs:bV w0 U σ ι a w) (hn:fL w0 U a o K next):o.wp P a w next Q:=by
 have r1:=aB hx hs
 generalize hu:a.eval x=u at r1
 simp only[bR]at h
 split at h
 ·rename_i e
  rw[e]at r1
  cases r1 with
  |c r1=>
   have r2:=r1
   cases r1
   exact aG (w':=w) (by simp[execOp,ho,hu]) (hn _ σ ι _ w h hs (.c r2))
 ·rename_i e
  rw[e]at r1
  cases r1 with
  |c r1=>
   have r2:=r1
   cases r1
   exact aG (w':=w) (by simp[execOp,ho,hu]) (hn _ σ ι _ w h hs (.c r2))
 ·rename_i e
  rw[e]at r1
  cases r1 with
  |c r1=>
   have r2:=r1
   cases r1
   exact aG (w':=w) (by simp[execOp,ho,hu]) (hn _ σ ι _ w h hs (.c r2))
 ·rename_i e
  rw[e]at r1
  cases r1 with
  |c r1=>
   have r2:=r1
   cases r1
   exact aG (w':=w) (by simp[execOp,ho,hu]) (hn _ σ ι _ w h hs (.c r2))
 ·exact h.elim
end
open Go.RowKit
section
variable {P : Program} {o : Oper} {a : Act} {w w0 : World} {U : Gh} {ι : Pl} {σ : St} {next : Act → World → Prop} {Q : Exit → Act → World → Prop} {K : AV → St → Prop}
theorem IY {x:AV} {u:Value} {T:TypeId} {xs:List AC} (hx:x.cells=some xs) (hr:aX w (aE w0.heap.size U ι σ.mem) ι σ.nx x u) (h:K (.c (.ptr σ.nx 0)) {σ with mem:=(σ.nx,.var xs)::σ.mem,nx:=σ.nx+1})
  (hs:bV w0 U σ ι a w) (D:(execOp a.eval o).run P w= .ok (.value (.pointer (some ⟨w.heap.size,0,none⟩))) (w.alloc (.cells u.cells T))) (hn:fL w0 U a o K next):o.wp P a w next Q:=by
 have hg:Below w.heap.size w (w.alloc (.cells u.cells T)):=(Below.refl _ _).alloc (Nat.le_refl _) _
 obtain⟨ι',h1,h2,h3,h4⟩:=hs.newBox (pv:= .pointer (some ⟨w.heap.size,0,none⟩)) (bx:= .var xs) hg (λb hb=>by simp[bI]at hb;omega) (λι' e1 e2 C=>by
  refine⟨w.heap.size,u.cells,T,e2,hs.below.size,heap_alloc_new _ _, ?_⟩
  exact(hr.cells hx).mono λ_ _ hr=>hr.mono C (λb hb _=>hg.block b hb) e1 (Nat.le_succ _))
 exact aG D (hn _ _ ι' _ _ h h1 (.c (.ptr (Nat.lt_succ_self _) h2)))
theorem Sv {T:TypeId} {x:Operand} {y:AX} (ho:o.op= .box T x) (hx:aL x=some y) (h:bR P (.box y) σ K) (hs:bV w0 U σ ι a w) (hn:fL w0 U a o K next):o.wp P a w next Q:=by
 have r1:=aB hx hs
 simp only[bR]at h
 split at h
 ·rename_i xs e
  exact IY e r1 h hs (by simp[execOp,ho,Instr.box,newVar,newRow];rfl) hn
 ·exact h.elim
theorem OA {T:TypeId} {z:Value} {y:AV} (ho:o.op= .alloc T) (hz:eM P T=some z) (hx:uY z=some y) (h:bR P (.box (.k y)) σ K) (hs:bV w0 U σ ι a w) (hn:fL w0 U a o K next):o.wp P a w next Q:=by
 simp only[bR]at h
 split at h
 ·rename_i xs e
  unfold eM at hz
  cases hi:P.info? T with
  |none=>simp[hi]at hz
  |some i=>
   simp[hi]at hz
   refine IY e (xt hx) h hs (T:=T) ?_ hn
   simp[execOp,ho,Instr.alloc,zeroValue,typeInfo,hi,hz,newVar,newRow]
   try rfl
 ·exact h.elim
theorem rV {B:Nat} {mem:List (Nat×bk)} {nm:Nat} {bx:bk} {b:Nat}:aE B U ι (dJ mem nm bx) b↔aE B U ι mem b:=by
 constructor
 ·intro h
  refine⟨h.1,λn bx' hf=> ?_⟩
  by_cases e:nm=n
  ·exact h.2 n bx (by rw[aj,if_pos e,hf];rfl)
  ·exact h.2 n bx' (by rw[aj,if_neg e];exact hf)
 ·intro h
  refine⟨h.1,λn bx' hf=> ?_⟩
  rw[aj]at hf
  by_cases e:nm=n
  ·rw[if_pos e]at hf
   cases hm:al mem n with
   |none=>simp[hm]at hf
   |some c=>exact h.2 n c hm
  ·rw[if_neg e]at hf
   exact h.2 n bx' hf
theorem bV.rebox (hs:bV w0 U σ ι a w) {nm:Nat} {bx0 bx:bk} (hf:al σ.mem nm=some bx0) (h9:l7 w0.heap.size w (aE w0.heap.size U ι σ.mem) ι σ.nx nm bx):bV w0 U {σ with mem:=dJ σ.mem nm bx} ι a w:=by
 have C: ∀c,aE w0.heap.size U ι σ.mem c→aE w0.heap.size U ι (dJ σ.mem nm bx) c:= λc h=>rV.2 h
 have HA: ∀n' bx',al (dJ σ.mem nm bx) n'=some bx'→ ∃c,al σ.mem n'=some c:=by
  intro n' bx' h1
  rw[aj]at h1
  by_cases e:nm=n'
  ·subst e;exact⟨_,hf⟩
  ·rw[if_neg e]at h1;exact⟨_,h1⟩
 refine⟨λt=>(hs.val t).mono (λc _ h=>C c h) (λ_ _ _=>rfl) (λ_ _=>rfl) (Nat.le_refl _),hs.defers,λn bx' hn=> ?_,λn bx' hn=> ?_,λn n' b1 b2 c h1 h2 h3 h4=> ?_,hs.below,U.mono _ _ _ _ hs.keep (λc _ h=>C c h) (λ_ _ _=>rfl),hs.base⟩
 ·obtain⟨c,hc⟩:=HA _ _ hn
  exact hs.names _ _ hc
 ·rw[aj]at hn
  have ZW: ∀{m:Nat} {b:bk},m<σ.nx→l7 w0.heap.size w (aE w0.heap.size U ι σ.mem) ι σ.nx m b→l7 w0.heap.size w (aE w0.heap.size U ι (dJ σ.mem nm bx)) ι σ.nx m b:= λhm h=>h.grow (Below.refl _ _) (λc _ h=>C c h) (λ_ _=>rfl) (Nat.le_refl _) hm
  by_cases e:nm=n
  ·subst e
   rw[if_pos rfl,hf]at hn
   cases hn
   exact ZW (hs.names _ _ hf) h9
  ·rw[if_neg e]at hn
   exact ZW (hs.names _ _ hn) (hs.box _ _ hn)
 ·obtain⟨c1,H3⟩:=HA _ _ h1
  obtain⟨c2,H7⟩:=HA _ _ h2
  exact hs.apart _ _ _ _ _ H3 H7 h3 h4
theorem bV.setBox (hs:bV w0 U σ ι a w) {nm:Nat} {bx0 bx:bk} {b:Nat} {cs:Array Value} (hf:al σ.mem nm=some bx0) (hb:bI (ι nm)=some b)
  (h9:l7 w0.heap.size (w.setRow b cs) (aE w0.heap.size U ι σ.mem) ι σ.nx nm bx):bV w0 U {σ with mem:=dJ σ.mem nm bx} ι a (w.setRow b cs):=by
 have hB:=((hs.box _ _ hf).block hb).1
 have C: ∀c,aE w0.heap.size U ι σ.mem c→aE w0.heap.size U ι (dJ σ.mem nm bx) c:= λc h=>rV.2 h
 have Y: ∀c,aE w0.heap.size U ι σ.mem c→c≠b:= λc h e=>h.2 _ _ hf (by rw[hb,e])
 have hw: ∀c,c<w.heap.size→aE w0.heap.size U ι σ.mem c→(w.setRow b cs).heap[c]? =w.heap[c]? := λc _ h=>setRow_other _ _ _ _ (Y c h)
 refine⟨λt=>(hs.val t).mono (λc _ h=>C c h) hw (λ_ _=>rfl) (Nat.le_refl _),hs.defers,λn bx' hn=> ?_,λn bx' hn=> ?_,λn n' b1 b2 c h1 h2 h3 h4=> ?_,hs.below.trans ⟨rfl,rfl,rfl,by simp,λk hk=>setRow_other _ _ _ _ (by omega)⟩,
  U.mono _ _ _ _ hs.keep (λc _ h=>C c h) hw,hs.base⟩
 ·rw[aj]at hn
  by_cases e:nm=n
  ·subst e;exact hs.names _ _ hf
  ·rw[if_neg e]at hn;exact hs.names _ _ hn
 ·rw[aj]at hn
  by_cases e:nm=n
  ·subst e
   rw[if_pos rfl,hf]at hn
   cases hn
   cases bx with
   |var xs=>
    obtain⟨b',vs,T,h1,h2,h3,h4⟩:=h9
    exact⟨b',vs,T,h1,h2,h3,h4.mono λ_ _ h=>h.mono (λc _ h=>C c h) (λ_ _ _=>rfl) (λ_ _=>rfl) (Nat.le_refl _)⟩
   |arr e sz rows=>
    obtain⟨cells,h0,h1,h2,h3,h4,h5⟩:=h9
    refine⟨cells,h0,h1,h2,h3,h4,λi row j p hi hj=> ?_⟩
    obtain⟨v,hv,hp⟩:=h5 i row j p hi hj
    exact⟨v,hv,hp.mono (λc _ h=>C c h) (λ_ _ _=>rfl)⟩
   |arn e sz rows=>
    obtain⟨cells,h0,h1,h2,h3⟩:=h9
    exact⟨cells,h0,h1,h2,h3.mono (λc _ h=>C c h) (λ_ _ _=>rfl) (λ_ _=>rfl) (Nat.le_refl _)⟩
   |map kt m ents=>
    obtain⟨b',es,clock,h1,h2,h3,h4⟩:=h9
    exact⟨b',es,clock,h1,h2,h3,h4.mono λ_ _ h=>h.mono (λc _ h=>C c h) (λ_ _ _=>rfl) (λ_ _=>rfl) (Nat.le_refl _)⟩
  ·rw[if_neg e]at hn
   have hQ: ∀c,bI (ι n)=some c→c≠b:= λc hc e'=>e (hs.apart _ _ _ _ b hf hn hb (by rw[hc,e']))
   have hS:=hs.box _ _ hn
   cases bx' with
   |var xs=>
    obtain⟨b',vs,T,h1,h2,h3,h4⟩:=hS
    exact⟨b',vs,T,h1,h2,by rw[setRow_other _ _ _ _ (hQ b' (by rw[h1];rfl))];exact h3,h4.mono λ_ _ h=>h.mono (λc _ h=>C c h) hw (λ_ _=>rfl) (Nat.le_refl _)⟩
   |arr e sz rows=>
    obtain⟨cells,h0,h1,h2,h3,h4,h5⟩:=hS
    refine⟨cells,h0,World.ownsRow.kept (row:=some b) h1 ⟨rfl,rfl,rfl,by simp,λk _ hk=>setRow_other _ _ _ _ (λe=>hk (by rw[e]))⟩ ?_,h2,h3,h4,λi row j p hi hj=> ?_⟩
    ·rcases h1.2 with⟨h,_⟩|⟨g,cap,cur,h,_⟩
     ·rw[h];exact .inl rfl
     ·right
      rw[h]
      intro e'
      simp[Value.ownBlock]at e'
      exact hQ g (by rw[h];rfl) e'
    ·obtain⟨v,hv,hp⟩:=h5 i row j p hi hj
     exact⟨v,hv,hp.mono (λc _ h=>C c h) hw⟩
   |arn e sz rows=>
    obtain⟨cells,h0,h1,h2,h3⟩:=hS
    refine⟨cells,h0,World.ownsRow.kept (row:=some b) h1 ⟨rfl,rfl,rfl,by simp,λk _ hk=>setRow_other _ _ _ _ (λe=>hk (by rw[e]))⟩ ?_,h2,h3.mono (λc _ h=>C c h) hw (λ_ _=>rfl) (Nat.le_refl _)⟩
    rcases h1.2 with⟨h,_⟩|⟨g,cap,cur,h,_⟩
    ·rw[h];exact .inl rfl
    ·right
     rw[h]
     intro e'
     simp[Value.ownBlock]at e'
     exact hQ g (by rw[h];rfl) e'
   |map kt m ents=>
    obtain⟨b',es,clock,h1,h2,h3,h4⟩:=hS
    exact⟨b',es,clock,h1,h2,by rw[setRow_other _ _ _ _ (hQ b' (by rw[h1];rfl))];exact h3,h4.mono λ_ _ h=>h.mono (λc _ h=>C c h) hw (λ_ _=>rfl) (Nat.le_refl _)⟩
 ·have H3: ∃c,al σ.mem n=some c:=by
   rw[aj]at h1
   by_cases e:nm=n
   ·subst e;exact⟨_,hf⟩
   ·rw[if_neg e]at h1;exact⟨_,h1⟩
  have H7: ∃c,al σ.mem n'=some c:=by
   rw[aj]at h2
   by_cases e:nm=n'
   ·subst e;exact⟨_,hf⟩
   ·rw[if_neg e]at h2;exact⟨_,h2⟩
  obtain⟨c1,H3⟩:=H3
  obtain⟨c2,H7⟩:=H7
  exact hs.apart _ _ _ _ _ H3 H7 h3 h4
theorem aM.over {α β:Type} {R:α→β→Prop} {as as':List α} {bs bs':List β} (h:aM R as bs) (h':aM R as' bs') (off:Nat):aM R (over as off as') (over bs off bs'):=by
 unfold Abs.over
 rw[←h'.length]
 exact((h.take off).append h').append (h.drop _)
theorem Bp {xs:List AC} {vs:List Value} {N:Nat} {V:Nat→Prop} (h:aM (b7 w V ι N) xs vs): ∀v∈vs,v.oneCell'=true:=by
 induction h with
 |nil=>simp
 |cons h _ ih=>
  intro v hv
  rcases List.mem_cons.1 hv with rfl|hv
  ·exact h.one
  ·exact ih v hv
theorem Q3 {V:Nat→Prop} {N:Nat} {x:AC} {z:PC} {v:Value} (h:b7 w V ι N x v) (hz:VJ x=some z):co w V z v:=by
 cases h with
 |pure h=>cases hz;exact h
 |nils=>cases hz;exact .nil
 |tsl h=>cases hz;exact h
 |_=>cases hz
theorem G5 {V:Nat→Prop} {N:Nat} {xs:List AC} {vs:List Value} (h:aM (b7 w V ι N) xs vs): ∀{zs:List PC},IM xs=some zs→aM (co w V) zs vs:=by
 induction h with
 |nil=>intro zs hz;cases hz;exact .nil
 |cons h t ih=>
  intro zs hz
  unfold IM at hz
  split at hz
  ·cases hz
   exact .cons (Q3 h ‹_›) (ih ‹_›)
  ·cases hz
theorem oz {t:TypeId} {n b off:Nat} {u:Value} {cur:Array Value} {T:TypeId} (ht:jg P t=some n) (hn:u.cells.size=n) (ZX:w.heap[b]? =some (.cells cur T (0,0))) (hL:off+n≤cur.size) (h1: ∀v∈u.cells.toList,v.oneCell'=true):
  (storeVar t ⟨b,off,none⟩ u).run P w= .ok () (w.setRow b (over cur.toList off u.cells.toList).toArray):=by
 unfold jg at ht
 cases hi:P.info? t with
 |none=>simp[hi]at ht
 |some i=>
  simp[hi]at ht
  have h:=run_storeCells_at (P:=P) b off T u.cells.toList 0 cur w ZX (by simp;omega) h1
  simp only[Nat.add_zero]at h
  simp[storeVar,sizeOf,typeInfo,hi,ht,hn,h,over]
end
open Go.RowKit
section
variable {P : Program} {o : Oper} {a : Act} {w w0 : World} {U : Gh} {ι : Pl} {σ : St} {next : Act → World → Prop} {Q : Exit → Act → World → Prop} {K : AV → St → Prop}
theorem IZ {α:Type} {R:α→Value→Prop} {sz row off:Nat} {rows:List (List α)} {cells:List Value} {r zs:List α} {vs:List Value} (h3:cells.length=rows.length*sz) (h4: ∀(i:Nat) row,rows[i]? =some row→row.length=sz)
  (h5: ∀(i:Nat) (row:List α) (j:Nat) p,rows[i]? =some row→row[j]? =some p→ ∃v,cells[i*sz+j]? =some v∧R p v) (hr:rows[row]? =some r) (hz:aM R zs vs) (ho:off+zs.length≤sz):
  (over cells (row*sz+off) vs).length=(rows.set row (over r off zs)).length*sz∧(∀(i:Nat) row',(rows.set row (over r off zs))[i]? =some row'→row'.length=sz)∧
  ∀(i:Nat) (row':List α) (j:Nat) p,(rows.set row (over r off zs))[i]? =some row'→row'[j]? =some p→ ∃v,(over cells (row*sz+off) vs)[i*sz+j]? =some v∧R p v:=by
 have F:row<rows.length:=(List.getElem?_eq_some_iff.1 hr).1
 have Zs:=h4 row r hr
 have hlz:=hz.length
 have hm:row*sz+sz≤cells.length:=by
  rw[h3]
  have:(row+1)*sz≤rows.length*sz:=Nat.mul_le_mul_right _ F
  rw[Nat.succ_mul]at this
  exact this
 have hD: ∀k,k<cells.length→(over cells (row*sz+off) vs)[k]? =if row*sz+off≤k∧k<row*sz+off+vs.length then vs[k-(row*sz+off)]? else cells[k]? :=by
  intro k hk
  unfold over
  rw[List.append_assoc]
  by_cases h1:k<row*sz+off
  ·rw[List.getElem?_append_left (by simp;omega),List.getElem?_take_of_lt h1,if_neg (by omega)]
  ·rw[List.getElem?_append_right (by simp;omega)]
   have e1:(cells.take (row*sz+off)).length=row*sz+off:=by simp;omega
   rw[e1]
   by_cases h2:k<row*sz+off+vs.length
   ·rw[List.getElem?_append_left (by omega),if_pos ⟨by omega,h2⟩]
   ·rw[List.getElem?_append_right (by omega),List.getElem?_drop,if_neg (by omega)]
    congr 1
    omega
 have Zt: ∀j,j<r.length→(over r off zs)[j]? =if off≤j∧j<off+zs.length then zs[j-off]? else r[j]? :=by
  intro k hk
  unfold over
  rw[List.append_assoc]
  by_cases h1:k<off
  ·rw[List.getElem?_append_left (by simp;omega),List.getElem?_take_of_lt h1,if_neg (by omega)]
  ·rw[List.getElem?_append_right (by simp;omega)]
   have e1:(r.take off).length=off:=by simp;omega
   rw[e1]
   by_cases h2:k<off+zs.length
   ·rw[List.getElem?_append_left (by omega),if_pos ⟨by omega,h2⟩]
   ·rw[List.getElem?_append_right (by omega),List.getElem?_drop,if_neg (by omega)]
    congr 1
    omega
 have z5:(over r off zs).length=sz:=by
  unfold over
  simp
  omega
 refine⟨?_,λi row' hi=> ?_,λi row' j p hi hj=> ?_⟩
 ·unfold over
  simp
  rw[←h3]
  omega
 ·rw[List.getElem?_set]at hi
  by_cases e:row=i
  ·rw[if_pos e,if_pos (by omega)]at hi
   cases hi;exact z5
  ·rw[if_neg e]at hi
   exact h4 i row' hi
 ·rw[List.getElem?_set]at hi
  by_cases e:row=i
  ·subst e
   rw[if_pos rfl,if_pos F]at hi
   cases hi
   have HE:j<sz:=by rw[←z5];exact(List.getElem?_eq_some_iff.1 hj).1
   rw[Zt j (by omega)]at hj
   rw[hD (row*sz+j) (by omega)]
   by_cases h1:off≤j∧j<off+zs.length
   ·rw[if_pos h1]at hj
    rw[if_pos ⟨by omega,by omega⟩]
    obtain⟨v,hv,hp⟩:=hz.get hj
    exact⟨v,by rw[←hv];congr 1;omega,hp⟩
   ·rw[if_neg h1]at hj
    rw[if_neg (by omega)]
    exact h5 row r j p hr hj
  ·rw[if_neg e]at hi
   obtain⟨v,hv,hp⟩:=h5 i row' j p hi hj
   have HE:j<sz:=by rw[←h4 i row' hi];exact(List.getElem?_eq_some_iff.1 hj).1
   have g9:i<rows.length:=(List.getElem?_eq_some_iff.1 hi).1
   refine⟨v, ?_,hp⟩
   rw[hD (i*sz+j) ((List.getElem?_eq_some_iff.1 hv).1),if_neg ?_]
   ·exact hv
   ·rintro⟨g1,g2⟩
    rcases Nat.lt_or_gt_of_ne e with H|ZH
    ·have:(row+1)*sz≤i*sz:=Nat.mul_le_mul_right _ H
     rw[Nat.succ_mul]at this
     omega
    ·have:(i+1)*sz≤row*sz:=Nat.mul_le_mul_right _ ZH
     rw[Nat.succ_mul]at this
     omega
theorem bu.set {V:Nat→Prop} {sz row off:Nat} {rows:List (List PC)} {cells:List Value} {r zs:List PC} {vs:List Value} (h:bu w V sz rows cells) (hr:rows[row]? =some r) (hz:aM (co w V) zs vs) (ho:off+zs.length≤sz):
  bu w V sz (rows.set row (over r off zs)) (over cells (row*sz+off) vs):=IZ h.1 h.2.1 h.2.2 hr hz ho
theorem gF.set {V:Nat→Prop} {N sz row off:Nat} {rows:List (List AC)} {cells:List Value} {r zs:List AC} {vs:List Value} (h:gF w V ι N sz rows cells) (hr:rows[row]? =some r) (hz:aM (b7 w V ι N) zs vs) (ho:off+zs.length≤sz):
  gF w V ι N sz (rows.set row (over r off zs)) (over cells (row*sz+off) vs):=IZ h.1 h.2.1 h.2.2 hr hz ho
theorem bu.mono {w':World} {V V':Nat→Prop} {sz:Nat} {rows:List (List PC)} {cells:List Value} (h:bu w V sz rows cells) (hU: ∀b,b<w.heap.size→V b→V' b)
  (hw: ∀b,b<w.heap.size→V b→w'.heap[b]? =w.heap[b]?):bu w' V' sz rows cells:=by
 obtain⟨h3,h4,h5⟩:=h
 refine⟨h3,h4,λi row j p hi hj=> ?_⟩
 obtain⟨v,hv,hp⟩:=h5 i row j p hi hj
 exact⟨v,hv,hp.mono hU hw⟩
theorem jX {α:Type} (xs:List α) (off:Nat) (ys:List α) (h:off+ys.length≤xs.length):(over xs off ys).length=xs.length:=by
 unfold over
 simp
 omega
theorem D7 {α:Type} (xs:List α) (off m:Nat) (ys:List α) (h:off+ys.length≤m) (hm:m≤xs.length):(over xs off ys).take m=over (xs.take m) off ys:=by
 unfold over
 rw[List.take_append,List.take_append,List.take_take,List.drop_take,List.length_append,List.length_take]
 have e1:min m off=off:=by omega
 have e2:min off xs.length=off:=by omega
 rw[e1,e2,List.take_take,List.take_of_length_le (l:=ys) (by omega)]
 congr 2
 all_goals(first|omega|(congr 1;omega))
theorem OP {t:TypeId} {x y:Operand} {p q:AX} {n:Nat} (ho:o.op= .store t x y) (ht:jg P t=some n) (hx:aL x=some p) (hy:aL y=some q) (h:bR P (.store n p q) σ K) (hs:bV w0 U σ ι a w) (hn:fL w0 U a o K next):o.wp P a w next Q:=by
 have r1:=aB hx hs
 have r2:=aB hy hs
 simp only[bR]at h
 split at h
 ·rename_i ys nm off e1 e2
  rw[e2]at r1
  have O:=r2.cells e1
  split at h
  ·rename_i xs hf
   obtain⟨⟨hl,hL⟩,h⟩:=h
   cases r1 with
   |c r1=>
    generalize hu:a.eval x=u at r1
    cases r1 with
    |ptr Z hι=>
     rename_i b
     obtain⟨b',vs,T,g1,g2,g3,g4⟩:=hs.box _ _ hf
     rw[hι]at g1
     simp at g1
     subst g1
     have HS:(a.eval y).cells.size=n:=by rw[←hl,O.length,Array.length_toList]
     have D:=oz (P:=P) (off:=off) ht HS g3 (by rw[←Array.length_toList,←g4.length];exact hL) (Bp O)
     refine lM (w':=w.setRow b (over vs.toList off (a.eval y).cells.toList).toArray) ?_ (hn _ _ ι _ _ h ?_ ip)
     ·simp[execOp,ho,hu,Instr.storeAt,Instr.sureAddr,D]
     ·refine hs.setBox hf (by rw[hι];rfl) ⟨b,_,T,hι,g2,setRow_heap _ _ _ _ _ _ g3, ?_⟩
      have Y: ∀c,aE w0.heap.size U ι σ.mem c→c≠b:= λc h e=>h.2 _ _ hf (by rw[hι,e];rfl)
      have:=(g4.over O off).mono λ_ _ (h:b7 w (aE w0.heap.size U ι σ.mem) ι σ.nx _ _)=>h.mono (w':=w.setRow b (over vs.toList off (a.eval y).cells.toList).toArray) (λc _ h=>h) (λc _ h=>setRow_other _ _ _ _ (Y c h)) (λ_ _=>rfl) (Nat.le_refl _)
      simpa using this
  ·exact h.elim
 ·rename_i ys nm sz row off e1 e2
  rw[e2]at r1
  have O:=r2.cells e1
  split at h
  ·rename_i e sz' rows hf
   obtain⟨⟨J,hl,hL⟩,zs,hz,r,hr,h⟩:=h
   subst J
   cases r1 with
   |c r1=>
    generalize hu:a.eval x=u at r1
    cases r1 with
    |eptr Z hι=>
     rename_i b n' c'
     have HF:=G5 O hz
     have HS:(a.eval y).cells.size=n:=by rw[←hl,O.length,Array.length_toList]
     have ZI:zs.length=n:=by rw[HF.length,Array.length_toList,HS]
     obtain⟨cells,g0,g1,g2,g3⟩:=hs.box _ _ hf
     have g1':=g1
     rcases g1.2 with⟨e',_⟩|⟨g,cap,cur,e',hB,hg,hA,HM,HI,hC⟩
     ·rw[hι]at e';cases e'
     ·rw[hι]at e'
      simp at e'
      obtain⟨rfl,rfl,rfl⟩:=e'
      have F:row<rows.length:=(List.getElem?_eq_some_iff.1 hr).1
      have hm:row*sz+sz≤rows.length*sz:=by
       have:(row+1)*sz≤rows.length*sz:=Nat.mul_le_mul_right _ F
       rw[Nat.succ_mul]at this
       exact this
      have ZJ:rows.length*sz≤cur.size:=by
       have:rows.length*sz≤c'*sz:=Nat.mul_le_mul_right _ hA
       omega
      have qp:(a.eval y).cells.toList.length=n:=by rw[Array.length_toList,HS]
      have D:=oz (P:=P) (off:=row*sz+off) ht HS hg (by omega) (Bp O)
      refine lM (w':=w.setRow b (over cur.toList (row*sz+off) (a.eval y).cells.toList).toArray) ?_ (hn _ _ ι _ _ h ?_ ip)
      ·simp[execOp,ho,hu,Instr.storeAt,Instr.sureAddr,D]
      ·have Y: ∀c,aE w0.heap.size U ι σ.mem c→c≠b:= λc h e=>h.2 _ _ hf (by rw[hι,e];rfl)
       refine hs.setBox hf (by rw[hι];rfl) ⟨over cells (row*sz+off) (a.eval y).cells.toList,g0,⟨?_,.inr ⟨b,c',(over cur.toList (row*sz+off) (a.eval y).cells.toList).toArray, ?_,hB,setRow_heap _ _ _ _ _ _ hg, ?_,HM, ?_, ?_⟩⟩, ?_, ?_⟩
       ·rw[jX _ _ _ (by rw[g1.1];omega),List.length_set,g1.1]
       ·rw[hι,List.length_set]
       ·rw[List.length_set];exact hA
       ·rw[List.size_toArray,jX _ _ _ (by simp;omega),Array.length_toList];exact HI
       ·rw[List.length_set,←hC,List.toList_toArray,D7 _ _ _ _ (by omega) (by simp;omega)]
       ·rw[List.length_set];exact g2
       ·exact(g3.mono (w':=w.setRow b (over cur.toList (row*sz+off) (a.eval y).cells.toList).toArray) (λc _ h=>h) (λc _ h=>setRow_other _ _ _ _ (Y c h))).set hr (HF.mono λ_ _ h=>h.mono (λc _ h=>h) (λc _ h=>setRow_other _ _ _ _ (Y c h))) (by omega)
  ·rename_i e sz' rows hf
   obtain⟨⟨J,hl,hL⟩,r,hr,h⟩:=h
   subst J
   cases r1 with
   |c r1=>
    generalize hu:a.eval x=u at r1
    cases r1 with
    |eptr Z hι=>
     rename_i b n' c'
     have HS:(a.eval y).cells.size=n:=by rw[←hl,O.length,Array.length_toList]
     obtain⟨cells,g0,g1,g2,g3⟩:=hs.box _ _ hf
     have g1':=g1
     rcases g1.2 with⟨e',_⟩|⟨g,cap,cur,e',hB,hg,hA,HM,HI,hC⟩
     ·rw[hι]at e';cases e'
     ·rw[hι]at e'
      simp at e'
      obtain⟨rfl,rfl,rfl⟩:=e'
      have F:row<rows.length:=(List.getElem?_eq_some_iff.1 hr).1
      have hm:row*sz+sz≤rows.length*sz:=by
       have:(row+1)*sz≤rows.length*sz:=Nat.mul_le_mul_right _ F
       rw[Nat.succ_mul]at this
       exact this
      have ZJ:rows.length*sz≤cur.size:=by
       have:rows.length*sz≤c'*sz:=Nat.mul_le_mul_right _ hA
       omega
      have qp:(a.eval y).cells.toList.length=n:=by rw[Array.length_toList,HS]
      have D:=oz (P:=P) (off:=row*sz+off) ht HS hg (by omega) (Bp O)
      refine lM (w':=w.setRow b (over cur.toList (row*sz+off) (a.eval y).cells.toList).toArray) ?_ (hn _ _ ι _ _ h ?_ ip)
      ·simp[execOp,ho,hu,Instr.storeAt,Instr.sureAddr,D]
      ·have Y: ∀c,aE w0.heap.size U ι σ.mem c→c≠b:= λc h e=>h.2 _ _ hf (by rw[hι,e];rfl)
       refine hs.setBox hf (by rw[hι];rfl) ⟨over cells (row*sz+off) (a.eval y).cells.toList,g0,⟨?_,.inr ⟨b,c',(over cur.toList (row*sz+off) (a.eval y).cells.toList).toArray, ?_,hB,setRow_heap _ _ _ _ _ _ hg, ?_,HM, ?_, ?_⟩⟩, ?_, ?_⟩
       ·rw[jX _ _ _ (by rw[g1.1];omega),List.length_set,g1.1]
       ·rw[hι,List.length_set]
       ·rw[List.length_set];exact hA
       ·rw[List.size_toArray,jX _ _ _ (by simp;omega),Array.length_toList];exact HI
       ·rw[List.length_set,←hC,List.toList_toArray,D7 _ _ _ _ (by omega) (by simp;omega)]
       ·rw[List.length_set];exact g2
       ·exact(g3.mono (w':=w.setRow b (over cur.toList (row*sz+off) (a.eval y).cells.toList).toArray) (λc _ h=>h) (λc _ h=>setRow_other _ _ _ _ (Y c h)) (λ_ _=>rfl) (Nat.le_refl _)).set hr (O.mono λ_ _ h=>h.mono (λc _ h=>h) (λc _ h=>setRow_other _ _ _ _ (Y c h)) (λ_ _=>rfl) (Nat.le_refl _)) (by omega)
  ·exact h.elim
 ·exact h.elim
end
open Go.RowKit
section
variable {P : Program} {o : Oper} {a : Act} {w w0 : World} {U : Gh} {ι : Pl} {σ : St} {next : Act → World → Prop} {Q : Exit → Act → World → Prop} {K : AV → St → Prop}
theorem DB {V:Nat→Prop} {N b off:Nat} {cells:List PC} (k:Nat) (h:b7 w V ι N (.cptr cells) (.pointer (some ⟨b,off,none⟩))):b7 w V ι N (.cptr (cells.drop k)) (.pointer (some ⟨b,off+k,none⟩)):=by
 cases h with
 |cptr g hc=>
  refine .cptr (λj=>g (k+j)) λj p hj=> ?_
  rw[List.getElem?_drop]at hj
  have:=hc (k+j) p hj
  rw[←Nat.add_assoc]at this
  exact this
theorem qQ {s:TypeId} {f:Nat} {fd:Field} {b off:Nat} (hf:oh P s f=some fd) (hz: ¬(jg P fd.type).getD 0=0):(Instr.fieldAt s (.pointer (some ⟨b,off,none⟩)) f).run P w= .ok (.pointer (some ⟨b,off+fd.offset,none⟩)) w:=by
 unfold oh at hf
 split at hf
 ·rename_i fs hd
  unfold jg at hz
  cases hi:P.info? fd.type with
  |none=>simp[hi]at hz
  |some i=>
   simp[hi]at hz
   simp[Instr.fieldAt,run_underlying hd,hf,Instr.sureAddr,fieldPlace,sizeOf,typeInfo,hi,hz,gI]
 ·cases hf
theorem MA {s:TypeId} {x:Operand} {y:AX} {f:Nat} {fd:Field} (ho:o.op= .fieldAddr s x f) (hf:oh P s f=some fd) (hz: ¬(jg P fd.type).getD 0=0) (hx:aL x=some y) (h:bR P (.fieldA fd.offset y) σ K) (hs:bV w0 U σ ι a w) (hn:fL w0 U a o K next):o.wp P a w next Q:=by
 have r1:=aB hx hs
 generalize hu:a.eval x=u at r1
 simp only[bR]at h
 split at h
 ·rename_i e
  rw[e]at r1
  cases r1 with
  |c r1=>
   cases r1 with
   |ptr h1 h2=>exact aG (w':=w) (by simp[execOp,ho,hu,qQ hf hz];try rfl) (hn _ σ ι _ w h hs (.c (.ptr h1 h2)))
 ·rename_i e
  rw[e]at r1
  cases r1 with
  |c r1=>
   have r2:=r1
   cases r1 with
   |cptr g hc=>exact aG (w':=w) (by simp[execOp,ho,hu,qQ hf hz];try rfl) (hn _ σ ι _ w h hs (.c (DB _ r2)))
 ·rename_i e
  rw[e]at r1
  cases r1 with
  |c r1=>
   cases r1 with
   |eptr h1 h2=>exact aG (w':=w) (by simp[execOp,ho,hu,qQ hf hz];try rfl) (hn _ σ ι _ w h hs (.c (by rw[Nat.add_assoc];exact .eptr h1 h2)))
 ·exact h.elim
theorem E9 {t:TypeId} {cs:Array Value} {off:Nat} {v:Value} (h:kF P t=some none) (hv:cs[off]? =some v):(part t cs off).run P w= .ok v w:=by
 unfold kF at h
 split at h
 ·cases h
 ·cases h
 ·rename_i d i n1 n2 hd hi
  have h8:(isAgg t).run P w= .ok false w:=by
   unfold isAgg
   cases d<;>first|(simp[run_underlying hd];done)|exact absurd rfl (n1 _)|exact absurd rfl (n2 _ _)
  simp[part,h8,hv]
 ·cases h
theorem Em {t:TypeId} {cs:Array Value} {off n:Nat} (h:kF P t=some (some n)):(part t cs off).run P w= .ok (.agg (cs.extract off (off+n))) w:=by
 unfold kF at h
 split at h
 ·rename_i fs i hd hi
  simp at h
  have h8:(isAgg t).run P w= .ok true w:=by simp[isAgg,run_underlying hd]
  simp[part,h8,sizeOf,typeInfo,hi,h]
 ·rename_i fs i hd hi
  simp at h
  have h8:(isAgg t).run P w= .ok true w:=by simp[isAgg,run_underlying hd]
  simp[part,h8,sizeOf,typeInfo,hi,h]
 ·split at h<;>cases h
 ·cases h
theorem NG {s:TypeId} {x:Operand} {y:AX} {f:Nat} {fd:Field} {n:Option Nat} (ho:o.op= .field s x f) (hf:oh P s f=some fd) (ht:kF P fd.type=some n) (hx:aL x=some y) (h:bR P (.field fd.offset n y) σ K) (hs:bV w0 U σ ι a w) (hn:fL w0 U a o K next):o.wp P a w next Q:=by
 have r1:=aB hx hs
 generalize hu:a.eval x=u at r1
 simp only[bR]at h
 split at h
 ·rename_i xs e
  rw[e]at r1
  cases r1 with
  |agg r1=>
   rename_i vs
   have D: ∀{v:Value},(part fd.type vs fd.offset).run P w= .ok v w→(execOp a.eval o).run P w= .ok (.value v) w:=by
    intro v hp
    unfold oh at hf
    split at hf
    ·rename_i fs hd
     simp[execOp,ho,hu,Instr.field,run_underlying hd,hf,asAgg,hp]
    ·cases hf
   cases n with
   |none=>
    simp only at h
    split at h
    ·rename_i z zs ez
     have hz:xs[fd.offset]? =some z:=by
      have:(xs.drop fd.offset)[0]? =some z:=by rw[ez];rfl
      rw[List.getElem?_drop]at this
      simpa using this
     obtain⟨v,hv,hr⟩:=r1.get hz
     exact aG (u:=v) (w':=w) (D (E9 ht (by simpa using hv))) (hn _ σ ι _ w h hs (.c hr))
    ·exact h.elim
   |some n=>
    obtain⟨hL,h⟩:=h
    refine aG (w':=w) (D (Em ht)) (hn _ σ ι _ w h hs (.agg ?_))
    have:=(r1.drop fd.offset).take n
    have e2:(vs.extract fd.offset (fd.offset+n)).toList=(vs.toList.drop fd.offset).take n:=by
     rw[Array.toList_extract,List.extract_eq_take_drop]
     simp
    rw[e2]
    exact this
 ·exact h.elim
theorem rE {t e:TypeId} {sz bytes:Nat} {b off n c:Nat} {k:IntKind} {i:Int} (ht:eP P t=some (e,sz,bytes)) (h0:0≤i) (h1:i<n):(Instr.indexAt t (.slice (some ⟨b,off,none⟩) n c) (.int k i)).run P w= .ok (.pointer (some ⟨b,off+i.toNat*sz,none⟩)) w:=by
 unfold eP at ht
 split at ht
 ·rename_i e' hd
  cases hi:P.info? e' with
  |none=>simp[hi]at ht
  |some inf=>
   simp[hi]at ht
   obtain⟨rfl,rfl,_⟩:=ht
   simp[Instr.indexAt,asIntOf,run_underlying hd,h0,h1,sizeOf,typeInfo,hi,gI]
 ·cases ht
theorem Rk {t e:TypeId} {sz bytes:Nat} {x z:Operand} {y q:AX} (ho:o.op= .indexAddr t x z) (ht:eP P t=some (e,sz,bytes)) (hx:aL x=some y) (hz:aL z=some q) (h:bR P (.idxA sz y q) σ K) (hs:bV w0 U σ ι a w) (hn:fL w0 U a o K next):o.wp P a w next Q:=by
 have r1:=aB hx hs
 have r2:=aB hz hs
 generalize hu:a.eval x=u at r1
 simp only[bR]at h
 have qw: ∀{rows:List (List PC)} {k:IntKind} {i:Int},co w (aE w0.heap.size U ι σ.mem) (.slice rows) u→AX.ev σ.fr q= .c (.pure (.val (.int k i)))→(0≤i∧ ∃r,rows[i.toNat]? =some r∧(r.length=sz∧0<sz)∧K (.c (.cptr r)) σ)→o.wp P a w next Q:=by
  intro rows k i hr hi h
  rw[hi]at r2
  have e2:=(bo r2).1
  obtain⟨h0,r,F,⟨gD,J⟩,hk⟩:=h
  cases hr with
  | @slice sz' _ ad n c g hl hc hm hE hcell hp=>
   obtain rfl:sz'=sz:=by rw[←gD];exact(hE _ _ F).symm
   have g9:i.toNat<rows.length:=(List.getElem?_eq_some_iff.1 F).1
   have Zs:=hE _ _ F
   have Zu:r[0]? =some (r[0]'(by omega)):=List.getElem?_eq_getElem (by omega)
   obtain⟨b,off,rfl,hb,_⟩:=hcell _ r 0 _ F Zu
   refine aG (w':=w) (by simp only[execOp,ho,hu,e2];rw[Sem.run_bind,rE ht h0 (by omega)];rfl) (hn _ σ ι _ w hk hs (.c (.cptr (λj=>g i.toNat j) λj p hj=> ?_)))
   obtain⟨b',off',e',Zv,G1⟩:=hcell _ r j p F hj
   cases e'
   exact⟨Zv,by rw[←G1];congr 2;omega,hp _ r j p F hj⟩
 split at h
 ·rename_i rows k i e1 e2
  rw[e1]at r1
  cases r1 with
  |c r1=>cases r1 with|pure r1=>exact qw r1 e2 h
 ·rename_i rows k i e1 e2
  rw[e1]at r1
  cases r1 with
  |c r1=>cases r1 with|tsl r1=>exact qw r1 e2 h
 ·rename_i nm k i e1 e2
  rw[e1]at r1
  rw[e2]at r2
  have e2':=(bo r2).1
  split at h
  ·rename_i e' sz' rows hf
   obtain⟨⟨rfl,J,h0,H⟩,h⟩:=h
   cases r1 with
   |c r1=>cases r1 with
    |ref Z HN=>
     obtain⟨cells,g0,g1,g2,g3⟩:=hs.box _ _ hf
     rcases g1.2 with⟨e',ga⟩|⟨g,cap,cur,e',hB,hg,hA,HM,HI,hC⟩
     ·omega
     ·refine aG (w':=w) (by simp only[execOp,ho,hu,e',e2'];rw[Sem.run_bind,rE ht h0 (by omega)];rfl) (hn _ σ ι _ w h hs (.c ?_))
      have:=b7.eptr (w:=w) (U:=aE w0.heap.size U ι σ.mem) (sz:=sz') (row:=i.toNat) (off:=0) Z e'
      simpa using this
  ·rename_i e' sz' rows hf
   obtain⟨⟨rfl,J,h0,H⟩,h⟩:=h
   cases r1 with
   |c r1=>cases r1 with
    |ref Z HN=>
     obtain⟨cells,g0,g1,g2,g3⟩:=hs.box _ _ hf
     rcases g1.2 with⟨e',ga⟩|⟨g,cap,cur,e',hB,hg,hA,HM,HI,hC⟩
     ·omega
     ·refine aG (w':=w) (by simp only[execOp,ho,hu,e',e2'];rw[Sem.run_bind,rE ht h0 (by omega)];rfl) (hn _ σ ι _ w h hs (.c ?_))
      have:=b7.eptr (w:=w) (U:=aE w0.heap.size U ι σ.mem) (sz:=sz') (row:=i.toNat) (off:=0) Z e'
      simpa using this
  ·exact h.elim
 ·exact h.elim
theorem RL {t e:TypeId} {len sz:Nat} {x z:Operand} {y q:AX} (ho:o.op= .indexAddr t x z) (ht:P.underlying t=some (.array len e)) (J:jg P e=some sz) (hx:aL x=some y) (hz:aL z=some q) (h:bR P (.idxR len sz y q) σ K) (hs:bV w0 U σ ι a w) (hn:fL w0 U a o K next):o.wp P a w next Q:=by
 have r1:=aB hx hs
 have r2:=aB hz hs
 generalize hu:a.eval x=u at r1
 simp only[bR]at h
 have D: ∀{b off:Nat} {k:IntKind} {i:Int},0≤i→i<len→(Instr.indexAt t (.pointer (some ⟨b,off,none⟩)) (.int k i)).run P w= .ok (.pointer (some ⟨b,off+i.toNat*sz,none⟩)) w:=by
  intro b off k i h0 h1
  unfold jg at J
  cases hi:P.info? e with
  |none=>simp[hi]at J
  |some inf=>
   simp[hi]at J
   simp[Instr.indexAt,asIntOf,run_underlying ht,Instr.sureAddr,h0,h1,sizeOf,typeInfo,hi,J,gI]
 split at h
 ·rename_i nm off k i e1 e2
  rw[e1]at r1
  rw[e2]at r2
  have e2':=(bo r2).1
  obtain⟨⟨h0,h1⟩,h⟩:=h
  cases r1 with
  |c r1=>cases r1 with
   |ptr g1 g2=>exact aG (w':=w) (by simp only[execOp,ho,hu,e2'];rw[Sem.run_bind,D h0 h1];rfl) (hn _ σ ι _ w h hs (.c (.ptr g1 g2)))
 ·rename_i cells k i e1 e2
  rw[e1]at r1
  rw[e2]at r2
  have e2':=(bo r2).1
  obtain⟨⟨h0,h1⟩,h⟩:=h
  cases r1 with
  |c r1=>
   have r3:=r1
   cases r1 with
   |cptr g hc=>exact aG (w':=w) (by simp only[execOp,ho,hu,e2'];rw[Sem.run_bind,D h0 h1];rfl) (hn _ σ ι _ w h hs (.c (DB _ r3)))
 ·exact h.elim
theorem RK {t:TypeId} {x z:Operand} {y q:AX} (ho:o.op= .index t x z) (ht:PU P t=true) (hx:aL x=some y) (hz:aL z=some q) (h:bR P (.idxS y q) σ K) (hs:bV w0 U σ ι a w) (hn:fL w0 U a o K next):o.wp P a w next Q:=by
 have r1:=aB hx hs
 have r2:=aB hz hs
 simp only[bR]at h
 split at h
 ·rename_i s k i e1 e2
  rw[e1]at r1
  rw[e2]at r2
  have e1':=(bo r1).1
  have e2':=(bo r2).1
  obtain⟨h0,b,hb,h⟩:=h
  have hd:P.underlying t=some .string:=by
   unfold PU at ht
   split at ht
   ·assumption
   ·cases ht
  refine aG (u:= .int .u8 b.toNat) (w':=w) ?_ (hn _ σ ι _ w h hs (gu _ _))
  simp[execOp,ho,e1',e2',Instr.index,asIntOf,run_underlying hd,h0,hb]
 ·exact h.elim
theorem Tc {x:Operand} {y:AX} {i:Nat} (ho:o.op= .extract x i) (hx:aL x=some y) (h:bR P (.ext y i) σ K) (hs:bV w0 U σ ι a w) (hn:fL w0 U a o K next):o.wp P a w next Q:=by
 have r1:=aB hx hs
 generalize hu:a.eval x=u at r1
 simp only[bR]at h
 split at h
 ·rename_i vs e
  rw[e]at r1
  obtain⟨v,hv,h⟩:=h
  ·cases r1 with
   |tup hl hr=>
    rename_i us
    have hi:i<us.size:=by rw[←hl];exact(List.getElem?_eq_some_iff.1 hv).1
    have:=hr i v hv
    rw[List.getElem?_eq_getElem (by simpa using hi)]at this
    refine aG (u:=us[i]) (w':=w) ?_ (hn _ σ ι _ w h hs (by simpa using this))
    simp[execOp,ho,hu,Instr.extract,hi]
 ·exact h.elim
theorem BT {v:AV} {u:Value} {rows:List (List PC)} (hs:bV w0 U σ ι a w) (h:aX w (aE w0.heap.size U ι σ.mem) ι σ.nx v u) (hr:fK σ.mem v=some rows): ∃ad c,u= .slice ad rows.length c∧rows.length≤c∧rows.length≤9223372036854775807:=by
 unfold fK at hr
 split at hr
 ·cases hr
  cases h with|c h=>cases h with|pure h=>cases h with|slice g hl hc hm=>subst hl;exact⟨_,_,rfl,hc,hm⟩
 ·cases hr
  cases h with|c h=>cases h with|tsl h=>cases h with|slice g hl hc hm=>subst hl;exact⟨_,_,rfl,hc,hm⟩
 ·cases hr
  cases h with|c h=>cases h with|nils=>exact⟨none,0,rfl,Nat.le_refl _,by simp⟩
 ·split at hr
  ·rename_i nm e sz' rows' hf
   cases hr
   cases h with
   |c h=>cases h with
    |ref Z HN=>
     obtain⟨cells,g0,g1,g2,g3⟩:=hs.box _ _ hf
     rcases g1.2 with⟨e',ga⟩|⟨g,cap,cur,e',hB,hg,hA,HM,HI,hC⟩
     ·exact⟨none,0,by rw[e',ga],by omega,g2⟩
     ·exact⟨_,cap,e',hA,g2⟩
  ·cases hr
 ·cases hr
theorem ta {t e:TypeId} {ad:Option Addr} {n c:Nat} (ht:P.underlying t=some (.slice e)) (ty:TypeId):(Builtin.len_ #[t] ty #[.slice ad n c]).run P w= .ok (.int .i64 n) w:=by
 simp[Builtin.len_,run_underlying ht,goInt]
theorem Tj {t e:TypeId} {x:Operand} {y:AX} {c:Call} (hc:c.callee= .builtin .len) (W:c.args.toList= [x]) (HT:c.argTypes.toList= [t]) (ho:o.op= .call c) (ht:P.underlying t=some (.slice e)) (hx:aL x=some y) (h:bR P (.len y) σ K) (hs:bV w0 U σ ι a w) (hn:fL w0 U a o K next):o.wp P a w next Q:=by
 have r1:=aB hx hs
 have ha:c.args= #[x]:=by rw[←Array.toArray_toList (xs:=c.args),W]
 have G2:c.argTypes= #[t]:=by rw[←Array.toArray_toList (xs:=c.argTypes),HT]
 have key: ∀{rows:List (List PC)},fK σ.mem (AX.ev σ.fr y)=some rows→K (.c (.pure (.val (.int .i64 rows.length)))) σ→o.wp P a w next Q:=by
  intro rows hr h
  obtain⟨ad,cc,e1,_,_⟩:=BT hs r1 hr
  refine aG (u:= .int .i64 rows.length) (w':=w) ?_ (hn _ σ ι _ w h hs (gu _ _))
  simp[execOp,ho,resolve,hc,invoke,builtin,ha,G2,e1,ta ht]
 simp only[bR]at h
 split at h
 ·rename_i rows e
  exact key (by rw[e];rfl) h
 ·rename_i rows e
  exact key (by rw[e];rfl) h
 ·rename_i e
  exact key (rows:= []) (by rw[e];rfl) h
 ·rename_i nm e
  split at h
  ·rename_i e' sz rows hf
   exact key (by rw[e];simp[fK,hf]) h
  ·rename_i e' sz rows hf
   rw[e]at r1
   generalize hu:a.eval x=u at r1
   cases r1 with
   |c r1=>cases r1 with
    |ref Z HN=>
     obtain⟨cells,g0,g1,g2,g3⟩:=hs.box _ _ hf
     have hv: ∃ad cc,ι nm= .slice ad rows.length cc:=by
      rcases g1.2 with⟨e',ga⟩|⟨g,cap,cur,e',_⟩
      ·exact⟨none,0,by rw[e',ga]⟩
      ·exact⟨_,cap,e'⟩
     obtain⟨ad,cc,e1⟩:=hv
     rw[e1]at hu
     refine aG (u:= .int .i64 rows.length) (w':=w) ?_ (hn _ σ ι _ w h hs (gu _ _))
     simp[execOp,ho,resolve,hc,invoke,builtin,ha,G2,hu,ta ht]
  ·exact h.elim
 ·exact h.elim
theorem Q8 {t:TypeId} {x:Operand} {y:AX} {c:Call} (hc:c.callee= .builtin .len) (W:c.args.toList= [x]) (HT:c.argTypes.toList= [t]) (ho:o.op= .call c) (ht:P.underlying t=some .string) (hx:aL x=some y) (h:bR P (.lenS y) σ K) (hs:bV w0 U σ ι a w) (hn:fL w0 U a o K next):o.wp P a w next Q:=by
 have r1:=aB hx hs
 have ha:c.args= #[x]:=by rw[←Array.toArray_toList (xs:=c.args),W]
 have G2:c.argTypes= #[t]:=by rw[←Array.toArray_toList (xs:=c.argTypes),HT]
 simp only[bR]at h
 split at h
 ·rename_i s e
  rw[e]at r1
  have e1:=(bo r1).1
  refine aG (u:= .int .i64 s.size) (w':=w) ?_ (hn _ σ ι _ w h hs (gu _ _))
  simp[execOp,ho,resolve,hc,invoke,builtin,ha,G2,e1,Builtin.len_,run_underlying ht,goInt]
 ·exact h.elim
theorem RU {mx:Bool} {x y:Operand} {p q:AX} {c:Call} (hc:(c.callee= .builtin .min∧mx=false)∨(c.callee= .builtin .max∧mx=true)) (W:c.args.toList= [x,y]) (ho:o.op= .call c) (hx:aL x=some p) (hy:aL y=some q) (h:bR P (.mm mx p q) σ K) (hs:bV w0 U σ ι a w) (hn:fL w0 U a o K next):o.wp P a w next Q:=by
 have r1:=aB hx hs
 have r2:=aB hy hs
 have ha:c.args= #[x,y]:=by rw[←Array.toArray_toList (xs:=c.args),W]
 simp only[bR]at h
 split at h
 ·rename_i k m k' n e e'
  rw[e]at r1
  rw[e']at r2
  have e1:=(bo r1).1
  have e2:=(bo r2).1
  refine aG (w':=w) ?_ (hn _ σ ι _ w h hs (gu _ _))
  rcases hc with⟨hc,rfl⟩|⟨hc,rfl⟩
  ·have:(if n<m then n else m)=min m n:=by split<;>omega
   simp[execOp,ho,resolve,hc,invoke,builtin,ha,e1,e2,Builtin.min_,Builtin.min2,this]
  ·have:(if m<n then n else m)=max m n:=by split<;>omega
   simp[execOp,ho,resolve,hc,invoke,builtin,ha,e1,e2,Builtin.max_,Builtin.max2,this]
 ·exact h.elim
theorem SL {x y z t:Operand} {p q r s:AX} {c:Call} (hc:c.callee= .builtin .max) (W:c.args.toList= [x,y,z,t]) (ho:o.op= .call c) (hx:aL x=some p) (hy:aL y=some q) (hz:aL z=some r) (ht:aL t=some s) (h:bR P (.mm4 p q r s) σ K) (hs:bV w0 U σ ι a w) (hn:fL w0 U a o K next):o.wp P a w next Q:=by
 have r1:=aB hx hs
 have r2:=aB hy hs
 have r3:=aB hz hs
 have r4:=aB ht hs
 have ha:c.args= #[x,y,z,t]:=by rw[←Array.toArray_toList (xs:=c.args),W]
 simp only[bR]at h
 split at h
 ·rename_i k m k2 n k3 n3 k4 n4 e e' e3 e4
  rw[e]at r1
  rw[e']at r2
  rw[e3]at r3
  rw[e4]at r4
  have e1:=(bo r1).1
  have e2:=(bo r2).1
  have e5:=(bo r3).1
  have e6:=(bo r4).1
  refine aG (w':=w) ?_ (hn _ σ ι _ w h hs (gu _ _))
  have mx: ∀a b:Int,(if a<b then b else a)=max a b:= λa b=>by split<;>omega
  simp[execOp,ho,resolve,hc,invoke,builtin,ha,e1,e2,e5,e6,Builtin.max_,Builtin.max2,mx]
 ·exact h.elim
end
open Go.RowKit
theorem Dy: ∀(vs:List Value) (off j:Nat) (cs:Array Value),off+j+vs.length≤cs.size→((vs.zipIdx j).foldl (λcs (x:Value×Nat)=>cs.setIfInBounds (off+x.2) x.1) cs).toList=over cs.toList (off+j) vs
 | [],off,j,cs,_=>by simp[over]
 |v::vs,off,j,cs,h=>by
  simp only[List.length_cons]at h
  rw[List.zipIdx_cons,List.foldl_cons,Dy vs off (j+1) _ (by simp;omega)]
  unfold over
  have hk:off+j<cs.toList.length:=by simp;omega
  rw[Array.toList_setIfInBounds,List.take_set,List.drop_set,List.length_cons]
  have e1:(cs.toList.take (off+(j+1))).set (off+j) v=cs.toList.take (off+j)++ [v]:=by
   rw[←Nat.add_assoc,List.take_succ_eq_append_getElem hk,List.set_append_right _ _ (by simp;omega)]
   have:(off+j)-(cs.toList.take (off+j)).length=0:=by simp;omega
   rw[this]
   rfl
  rw[e1,if_pos (by omega),show off+(j+1)+vs.length=off+j+(vs.length+1)from by omega]
  simp
theorem vX {place:Nat→Option (Nat×Nat)} {cells:Array Value} {i off size:Nat} {v:Value} {rest:List (Nat×Value)} (hp:place i=some (off,size)) (hv:v.cells.size=size) (hL:off+size≤cells.size):
  Instr.fill place cells ((i,v)::rest)=Instr.fill place (over cells.toList off v.cells.toList).toArray rest:=by
 simp only[Instr.fill,hp]
 rw[if_neg (by simp;omega)]
 congr 1
 have:=Dy v.cells.toList off 0 cells (by simp;omega)
 rw[←Array.foldl_toList,Array.toList_zipIdx]
 simp only[Nat.add_zero]at this
 rw[←this,Array.toArray_toList]
section
variable {P : Program} {o : Oper} {a : Act} {w w0 : World} {U : Gh} {ι : Pl} {σ : St} {next : Act → World → Prop} {Q : Exit → Act → World → Prop} {K : AV → St → Prop}
theorem xF {α:Type} {xs ys:List α} {off:Nat} (h:off+ys.length≤xs.length):(over xs off ys).length=xs.length:=jX xs off ys h
theorem y2 (hs:bV w0 U σ ι a w) {places:List (Nat×Nat)}: ∀{parts:List (Nat×Operand)} {ps:List (Nat×Nat×AX)} {acc:List AC} {cells:Array Value} {R:List AC→Prop},vh places parts=some ps→bR.buildW σ ps acc R→
  aM (b7 w (aE w0.heap.size U ι σ.mem) ι σ.nx) acc cells.toList→ ∃cells' xs,Instr.fill (λi=>places[i]?) cells (parts.map λ(i,x)=>(i,a.eval x))=some cells'∧aM (b7 w (aE w0.heap.size U ι σ.mem) ι σ.nx) xs cells'.toList∧R xs
 |[],ps,acc,cells,R,hp,h,hc=>by
  cases hp
  exact⟨cells,acc,rfl,hc,h⟩
 |(i,x)::parts,ps,acc,cells,R,hp,h,hc=>by
  unfold vh at hp
  split at hp
  ·rename_i off n y ys h1 h2 h3
   cases hp
   simp only[bR.buildW]at h
   split at h
   ·rename_i zs e
    obtain⟨⟨hl,hL⟩,h⟩:=h
    have hz:=(aB h2 hs).cells e
    have ZI:=hz.length
    have qm:=hc.length
    have e0:=Array.length_toList (xs:=(a.eval x).cells)
    have e00:=Array.length_toList (xs:=cells)
    obtain⟨cells',xs,hf,hr,hR⟩:=y2 hs (cells:=(over cells.toList off (a.eval x).cells.toList).toArray) h3 h (hc.over hz off)
    refine⟨cells',xs, ?_,hr,hR⟩
    rw[List.map_cons,vX h1 (by omega) (by omega)]
    exact hf
   ·exact h.elim
  ·cases hp
theorem On {t:TypeId} {parts:Array (Nat×Operand)} {z:List AC} {ps:List (Nat×Nat×AX)} (ho:o.op= .build t parts) (hz:(eM P t).bind (λz=>cellsOf z.cells.toList)=some z) (hp:(zI P t).bind (vh · parts.toList)=some ps)
  (h:bR P (.build z ps) σ K) (hs:bV w0 U σ ι a w) (hn:fL w0 U a o K next):o.wp P a w next Q:=by
 simp only[bR]at h
 unfold eM zI at*
 cases hi:P.info? t with
 |none=>simp[hi]at hz
 |some it=>
  cases ZK:it.zero with
  |none=>simp[hi,ZK]at hz
  |some z0=>
   simp[hi,ZK]at hz
   split at hp
   ·rename_i fs hd
    cases ZL:fs.toList.mapM (λf=>(P.info? f.type).map λi=>(f.offset,i.size))with
    |none=>simp[ZL]at hp
    |some places=>
     simp only[ZL,Option.bind_some]at hp
     obtain⟨cells',xs,hf,hr,hR⟩:=y2 hs hp h (cells:=z0.cells) (mw hz)
     refine aG (w':=w) ?_ (hn _ σ ι _ w hR hs (.agg hr))
     have hb:P.built t (parts.map λ(i,x)=>(i,a.eval x)).toList=some cells':=by
      unfold Program.built
      simp only[hi,hd,ZK,ZL]
      rw[Array.toList_map]
      simpa using hf
     simp only[execOp,ho,Sem.run_bind]
     rw[run_build w t _ cells' hb]
     rfl
   ·simp at hp
theorem bu.append {V:Nat→Prop} {sz:Nat} {rows rows':List (List PC)} {cs cs':List Value} (h:bu w V sz rows cs) (h':bu w V sz rows' cs'):bu w V sz (rows++rows') (cs++cs'):=by
 obtain⟨h3,h4,h5⟩:=h
 obtain⟨g3,g4,g5⟩:=h'
 refine⟨by rw[List.length_append,List.length_append,h3,g3,Nat.add_mul],λi row hi=> ?_,λi row j p hi hj=> ?_⟩
 ·by_cases H:i<rows.length
  ·rw[List.getElem?_append_left H]at hi;exact h4 i row hi
  ·rw[List.getElem?_append_right (by omega)]at hi;exact g4 _ row hi
 ·by_cases H:i<rows.length
  ·rw[List.getElem?_append_left H]at hi
   obtain⟨v,hv,hp⟩:=h5 i row j p hi hj
   exact⟨v,by rw[List.getElem?_append_left ((List.getElem?_eq_some_iff.1 hv).1)];exact hv,hp⟩
  ·rw[List.getElem?_append_right (by omega)]at hi
   obtain⟨v,hv,hp⟩:=g5 _ row j p hi hj
   have ZY:rows.length*sz≤i*sz:=Nat.mul_le_mul_right _ (by omega)
   refine⟨v, ?_,hp⟩
   rw[List.getElem?_append_right (by omega),←hv,h3,Nat.sub_mul]
   congr 1
   omega
theorem bu.nil {V:Nat→Prop} {sz:Nat}:bu w V sz [] []:=⟨by simp,by simp,by simp⟩
theorem bu.one {V:Nat→Prop} {sz:Nat} {r:List PC} {vs:List Value} (h:aM (co w V) r vs) (hl:r.length=sz):bu w V sz [r] vs:=by
 refine⟨by rw[←h.length,hl];simp,λi row hi=> ?_,λi row j p hi hj=> ?_⟩
 ·cases i with
  |zero=>simp at hi;subst hi;exact hl
  |succ i=>simp at hi
 ·cases i with
  |zero=>
   simp at hi
   subst hi
   obtain⟨v,hv,hp⟩:=h.get hj
   exact⟨v,by simpa using hv,hp⟩
  |succ i=>simp at hi
theorem IX {b k:Nat} {cs:Array Value} {T:TypeId} {fz:Nat×Nat} (h:w.heap[b]? =some (.cells cs T fz)):w.cell? ⟨b,k,none⟩=cs.toList[k]? :=by
 rw[cell_of_row w b k cs T fz h]
 simp
theorem bu.slice {V:Nat→Prop} {sz b c:Nat} {rows:List (List PC)} {cells:List Value} (h:bu w V sz rows cells) (hb:V b) (hc:rows.length≤c) (hm:rows.length≤9223372036854775807)
  (hcell: ∀(k:Nat) v,cells[k]? =some v→w.cell? ⟨b,k,none⟩=some v):co w V (.slice rows) (.slice (some ⟨b,0,none⟩) rows.length c):=by
 refine .slice (sz:=sz) (λi j=>(cells[i*sz+j]?).getD undef) rfl hc hm h.2.1 (λi row j p hi hj=> ?_) (λi row j p hi hj=> ?_)
 ·obtain⟨v,hv,hp⟩:=h.2.2 i row j p hi hj
  exact⟨b,0,rfl,hb,by rw[Nat.zero_add,hv];exact hcell _ _ hv⟩
 ·obtain⟨v,hv,hp⟩:=h.2.2 i row j p hi hj
  rw[hv]
  exact hp
theorem vB (hs:bV w0 U σ ι a w):aE w0.heap.size U ι σ.mem w.heap.size:=
 ⟨.inr hs.below.size,λnm bx hf e=>by have:=((hs.box _ _ hf).block e).2;omega⟩
theorem xz (hs:bV w0 U σ ι a w) {sz n:Nat}: ∀{k:Nat} {parts:List (Nat×Operand)} {rs:List AX} {acc:List (List PC)} {cells:Array Value} {R:List (List PC)→Prop},qh k parts=some rs→bR.bsliceW σ sz rs acc R→acc.length=k→k+rs.length=n→cells.size=n*sz→
  bu w (aE w0.heap.size U ι σ.mem) sz acc (cells.toList.take (k*sz))→ ∃cells' rows,Instr.fill (λi=>some (i*sz,sz)) cells (parts.map λ(i,x)=>(i,a.eval x))=some cells'∧bu w (aE w0.heap.size U ι σ.mem) sz rows cells'.toList∧rows.length=n∧R rows
 |k, [],rs,acc,cells,R,hp,h,hl,HP,O,hc=>by
  cases hp
  simp at HP
  subst HP
  exact⟨cells,acc,rfl,by rw[List.take_of_length_le (by simp;omega)]at hc;exact hc,hl,h⟩
 |k,(i,x)::parts,rs,acc,cells,R,hp,h,hl,HP,O,hc=>by
  unfold qh at hp
  split at hp
  ·rename_i ZM
   subst ZM
   split at hp
   ·rename_i y ys h2 h3
    cases hp
    simp only[bR.bsliceW]at h
    split at h
    ·rename_i zs e
     obtain⟨r,hr,gD,h⟩:=h
     have hz:=(aB h2 hs).cells e
     have HF:=G5 hz hr
     have ZI:=hz.length
     have e0:=Array.length_toList (xs:=(a.eval x).cells)
     have e00:=Array.length_toList (xs:=cells)
     simp only[List.length_cons]at HP
     have hL:i*sz+sz≤n*sz:=by
      have:(i+1)*sz≤n*sz:=Nat.mul_le_mul_right _ (by omega)
      rw[Nat.succ_mul]at this
      exact this
     have ZN:(over cells.toList (i*sz) (a.eval x).cells.toList).length=cells.toList.length:=xF (by simp;omega)
     obtain⟨cells',rows,hf,h4,h5,hR⟩:=xz hs (n:=n) (cells:=(over cells.toList (i*sz) (a.eval x).cells.toList).toArray) h3 h (by simp[hl]) (by omega) (by simp only[List.size_toArray,ZN,Array.length_toList,O]) (by
      have e1:(over cells.toList (i*sz) (a.eval x).cells.toList).take ((i+1)*sz)=cells.toList.take (i*sz)++(a.eval x).cells.toList:=by
       unfold over
       rw[List.append_assoc,Nat.succ_mul]
       have e2:(cells.toList.take (i*sz)).length=i*sz:=by simp;omega
       rw[List.take_append,e2,List.take_of_length_le (by omega),Nat.add_sub_cancel_left,List.take_append,List.take_of_length_le (l:=(a.eval x).cells.toList) (by simp;omega)]
       have e3:sz-(a.eval x).cells.toList.length=0:=by simp;omega
       rw[e3]
       simp
      simp only[List.toList_toArray]at e1 ⊢
      rw[e1]
      exact hc.append (bu.one HF (by have:=HF.length;omega)))
     refine⟨cells',rows, ?_,h4,h5,hR⟩
     rw[List.map_cons,vX rfl (by omega) (by omega)]
     exact hf
    ·exact h.elim
   ·cases hp
  ·cases hp
theorem Mp {t:TypeId} {n e sz bytes:Nat} {parts:Array (Nat×Operand)} {rs:List AX} {z:Value} (ho:o.op= .buildSlice t n parts) (ht:eP P t=some (e,sz,bytes)) (hr:qh 0 parts.toList=some rs) (hl:rs.length=n) (hm:n*sz≤16777216) (h0:0<sz) (hz:eM P e=some z) (hF:z.cells.size=sz)
  (h:bR P (.bslice sz rs) σ K) (hs:bV w0 U σ ι a w) (hn:fL w0 U a o K next):o.wp P a w next Q:=by
 simp only[bR]at h
 unfold eP eM at*
 split at ht
 ·rename_i e' hd
  cases hi:P.info? e' with
  |none=>simp[hi]at ht
  |some inf=>
   simp[hi]at ht
   obtain⟨rfl,rfl,_⟩:=ht
   simp[hi]at hz
   let base:Array Value:=(Array.range (n*inf.size)).map (λk=>(if n*inf.size=0 then #[]else z.cells)[k%(if n*inf.size=0 then #[]else z.cells).size]!)
   have gb:base.size=n*inf.size:=by simp[base]
   obtain⟨cells',rows,hf,h4,h5,hR⟩:=xz hs (n:=n) (cells:=base) hr h rfl (by omega) gb (by simp;exact bu.nil)
   have hg:Below w.heap.size w (w.alloc (.cells cells' e')):=(Below.refl _ _).alloc (Nat.le_refl _) _
   have hW:co (w.alloc (.cells cells' e')) (aE w0.heap.size U ι σ.mem) (.slice rows) (.slice (some ⟨w.heap.size,0,none⟩) rows.length rows.length):=by
    refine(h4.mono (λ_ _ h=>h) (λb hb _=>hg.block b hb)).slice (vB hs) (Nat.le_refl _) (by have:n*1≤n*inf.size:=Nat.mul_le_mul_left _ h0;omega) λk v hk=> ?_
    rw[IX (heap_alloc_new _ _)]
    exact hk
   rw[h5]at hW
   refine aG (w':=w.alloc (.cells cells' e')) ?_ (hn _ σ ι _ _ hR (hs.grow hg) (.c (.tsl hW)))
   have hY:Instr.fill (λi=>some (i*inf.size,inf.size)) base (parts.map λ(i,x)=>(i,a.eval x)).toList=some cells':=by
    rw[Array.toList_map];exact hf
   by_cases HB:n*inf.size=0
   ·simp only[base,HB,if_true]at hY
    have e1: ¬(16777216<n*inf.size):=by omega
    simp[execOp,ho,Instr.buildSlice,run_underlying hd,sizeOf,typeInfo,hi,HB,newRow]
    simp[Array.range_zero']at hY
    simp[hY,Array.range_zero']
    try rfl
   ·simp only[base,HB,if_false]at hY
    have e1: ¬(16777216<n*inf.size):=by omega
    simp[execOp,ho,Instr.buildSlice,run_underlying hd,sizeOf,typeInfo,hi,HB,newRow,zeroValue,hz,e1]
    simp at hY
    simp[hY]
    try rfl
 ·cases ht
end
open Go.RowKit
section
variable {P : Program} {o : Oper} {a : Act} {w w0 : World} {U : Gh} {ι : Pl} {σ : St} {next : Act → World → Prop} {Q : Exit → Act → World → Prop} {K : AV → St → Prop}
theorem BY {z:Array Value} {m k:Nat} (h:k<m):(madeCells z m).toList[k]? =some (z[k%z.size]!):=by
 unfold madeCells
 simp[h]
theorem Qr {i j sz:Nat} (h:j<sz):(i*sz+j)%sz=j:=by
 rw[Nat.add_comm,Nat.add_mul_mod_self_right,Nat.mod_eq_of_lt h]
theorem Oj {i n j sz:Nat} (hi:i<n) (hj:j<sz):i*sz+j<n*sz:=by
 have:(i+1)*sz≤n*sz:=Nat.mul_le_mul_right _ hi
 rw[Nat.succ_mul]at this
 omega
theorem bu.made {V:Nat→Prop} {sz n:Nat} {zs:List PC} {z:Array Value} (hz:aM (co w V) zs z.toList) (hs:z.size=sz):bu w V sz (List.replicate n zs) (madeCells z (n*sz)).toList:=by
 have hl:zs.length=sz:=by rw[hz.length,Array.length_toList,hs]
 refine⟨by simp[madeCells],λi row hi=> ?_,λi row j p hi hj=> ?_⟩
 ·have:=List.mem_of_getElem? hi
  rw[List.mem_replicate]at this
  rw[this.2,hl]
 ·have g9:i<n:=by have:=(List.getElem?_eq_some_iff.1 hi).1;simpa using this
  have:=List.mem_of_getElem? hi
  rw[List.mem_replicate]at this
  obtain⟨_,rfl⟩:=this
  obtain⟨v,hv,hp⟩:=hz.get hj
  have HE:j<sz:=by rw[←hl];exact(List.getElem?_eq_some_iff.1 hj).1
  refine⟨v, ?_,hp⟩
  rw[BY (Oj g9 HE),hs,Qr HE,←hv]
  simp[hs,HE]
theorem Jm {t e:TypeId} {sz bytes l:Nat} {z:Value} {zs:List PC} (ho:o.op= .makeSlice t (.tmp l) (.tmp l)) (ht:eP P t=some (e,sz,bytes)) (h0:0<sz) (hz:eM P e=some z) (hF:z.cells.size=sz) (HF:nq z.cells.toList=some zs)
  (h:bR P (.mkslice e sz bytes zs (.t l)) σ K) (hs:bV w0 U σ ι a w) (hn:fL w0 U a o K next):o.wp P a w next Q:=by
 have r1:=aB (x:= .tmp l) rfl hs
 simp only[bR]at h
 unfold eP eM at*
 split at ht
 ·rename_i e' hd
  cases hi:P.info? e' with
  |none=>simp[hi]at ht
  |some inf=>
   simp[hi]at ht
   obtain⟨rfl,rfl,rfl⟩:=ht
   simp[hi]at hz
   split at h
   ·rename_i n en
    rw[en]at r1
    have e1:=(bo r1).1
    obtain⟨⟨HB,hm,hb⟩,h⟩:=h
    have D:=run_make (P:=P) w t e' inf z hd hi hz .i64 .i64 n n HB (Int.le_refl _) hb (by omega)
    have hg:Below w.heap.size w (w.alloc (.cells (madeCells z.cells (n.toNat*inf.size)) e')):=(Below.refl _ _).alloc (Nat.le_refl _) _
    obtain⟨ι',h1,h2,h3,h4⟩:=hs.newBox (pv:= .slice (some ⟨w.heap.size,0,none⟩) n.toNat n.toNat) (bx:= .arr e' inf.size (List.replicate n.toNat zs)) hg (λb hb=>by simp[bI]at hb;omega) (λι' e1 e2 C=>by
     refine⟨(madeCells z.cells (n.toNat*inf.size)).toList,h0, ?_,by simp;omega,bu.made (vH HF) hF⟩
     rw[e2,List.length_replicate]
     refine⟨by simp[madeCells],.inr ⟨w.heap.size,n.toNat,madeCells z.cells (n.toNat*inf.size),rfl,hs.below.size,heap_alloc_new _ _,Nat.le_refl _,by unfold maxLen;omega,by simp[madeCells], ?_⟩⟩
     exact List.take_of_length_le (by simp[madeCells]))
    refine aG (u:=ι' σ.nx) (w':=w.alloc (.cells (madeCells z.cells (n.toNat*inf.size)) e')) ?_ (hn _ _ ι' _ _ h h1 (.c (.ref (Nat.lt_succ_self _) ⟨_,_,_,h2⟩)))
    rw[h2]
    simp only[execOp,ho,e1,Sem.run_bind,D]
    rfl
   ·exact h.elim
 ·cases ht
theorem co.part {V:Nat→Prop} {sz n c l h m:Nat} {rows:List (List PC)} {ad:Option Addr} (hp:co w V (.slice rows) (.slice ad n c)) (J:aK sz rows) (hlh:l≤h) (hhn:h≤rows.length) (ZZ:h≤m):
  co w V (.slice ((rows.take h).drop l)) (.slice (if m=l then ad else ad.map (·.add (l*sz))) (h-l) (m-l)):=by
 cases hp with
 | @slice sz' _ _ _ _ g hn hc hm hr hcell hp=>
  have Zw: ∀(i:Nat) row,rows[i]? =some row→sz'=sz:= λi row hi=>by rw[←hr i row hi];exact J row (List.mem_of_getElem? hi)
  have hD: ∀i row,((rows.take h).drop l)[i]? =some row→rows[l+i]? =some row:=by
   intro i row hi
   rw[List.getElem?_drop]at hi
   have:=(List.getElem?_eq_some_iff.1 hi).1
   rw[List.getElem?_take_of_lt (by simp at this;omega)]at hi
   exact hi
  refine .slice (λi j=>g (l+i) j) (by simp;omega) (by omega) (by omega) (λi row hi=>hr _ row (hD i row hi)) (λi row j p hi hj=> ?_) (λi row j p hi hj=>hp _ row j p (hD i row hi) hj)
  have g9:i<h-l:=by have:=(List.getElem?_eq_some_iff.1 hi).1;simp at this;omega
  obtain⟨b,off,rfl,hb,qm⟩:=hcell _ row j p (hD i row hi) hj
  rw[if_neg (by omega)]
  have:=Zw _ row (hD i row hi)
  subst this
  refine⟨b,off+l*sz',by simp[gI],hb, ?_⟩
  rw[←qm,Nat.add_mul]
  congr 2
  omega
theorem nF {x:Option Operand} {y:Option AX} {r:Option Int} (h:lq x=some y) (hs:bV w0 U σ ι a w) (hb:bR.boundOf σ y=some r):(x.map a.eval=none∧r=none)∨ ∃k i,(x.map a.eval)=some (.int k i)∧r=some i:=by
 cases x with
 |none=>
  cases h
  left
  simp[bR.boundOf]at hb
  exact⟨rfl,hb.symm⟩
 |some x=>
  simp[lq]at h
  obtain⟨z,hz,rfl⟩:=h
  have r1:=aB hz hs
  simp only[bR.boundOf]at hb
  split at hb
  ·rename_i k i e
   cases hb
   rw[e]at r1
   exact .inr ⟨k,i,by simp[(bo r1).1],rfl⟩
  ·cases hb
theorem gK {k:IntKind} {i:Int} {y:Nat} {code:BoundsCode} (h0:0≤i) (h1:i≤y):(Instr.sliceBound (.int k i) y code).run P w= .ok i.toNat w:=by
 simp[Instr.sliceBound,asIntOf,h0,h1]
theorem BA {b:Bool} {n c:Nat} {lo hi mx:Option Value} {l h m:Option Int} (z5:(lo=none∧l=none)∨ ∃k i,lo=some (.int k i)∧l=some i) (Zx:(hi=none∧h=none)∨ ∃k i,hi=some (.int k i)∧h=some i)
  (Zy:(mx=none∧m=none)∨ ∃k i,mx=some (.int k i)∧m=some i) (g1:0≤l.getD 0) (g2:l.getD 0≤h.getD n) (g3:h.getD n≤m.getD n) (g4:m.getD n≤n) (hc:n≤c) (hm:m.isSome=true→h.isSome=true):
  (Instr.sliceBounds b n c lo hi mx).run P w= .ok ((l.getD 0).toNat,(h.getD n).toNat,(m.map Int.toNat).getD c) w:=by
 rcases z5 with⟨rfl,rfl⟩|⟨kl,l,rfl,rfl⟩<;>rcases Zx with⟨rfl,rfl⟩|⟨kh,h,rfl,rfl⟩<;>rcases Zy with⟨rfl,rfl⟩|⟨km,m,rfl,rfl⟩<;>simp only[Option.getD_none,Option.getD_some]at g1 g2 g3 g4
 all_goals first
  |(simp at hm;done)
  |skip
 ·simp[Instr.sliceBounds]
 ·unfold Instr.sliceBounds
  simp[gK (P:=P) (w:=w) (show 0≤h by omega) (show h≤(c:Int) by omega)]
 ·unfold Instr.sliceBounds
  have e1:=gK (P:=P) (w:=w) (k:=km) (code:=if b=true then .slice3Acap else .slice3Alen) (show 0≤m by omega) (show m≤(c:Int) by omega)
  have e2:=gK (P:=P) (w:=w) (k:=kh) (code:= .slice3B) (show 0≤h by omega) (show h≤(m.toNat:Int) by omega)
  simp[e1,e2]
 ·unfold Instr.sliceBounds
  have e1:=gK (P:=P) (w:=w) (k:=kl) (code:= .sliceB) (show 0≤l by omega) (show l≤(n:Int) by omega)
  simp[e1]
 ·unfold Instr.sliceBounds
  have e1:=gK (P:=P) (w:=w) (k:=kh) (code:=if b=true then .sliceAcap else .sliceAlen) (show 0≤h by omega) (show h≤(c:Int) by omega)
  have e2:=gK (P:=P) (w:=w) (k:=kl) (code:= .sliceB) (show 0≤l by omega) (show l≤(h.toNat:Int) by omega)
  simp[e1,e2]
 ·unfold Instr.sliceBounds
  have e1:=gK (P:=P) (w:=w) (k:=km) (code:=if b=true then .slice3Acap else .slice3Alen) (show 0≤m by omega) (show m≤(c:Int) by omega)
  have e2:=gK (P:=P) (w:=w) (k:=kh) (code:= .slice3B) (show 0≤h by omega) (show h≤(m.toNat:Int) by omega)
  have e3:=gK (P:=P) (w:=w) (k:=kl) (code:= .slice3C) (show 0≤l by omega) (show l≤(h.toNat:Int) by omega)
  simp[e1,e2,e3]
theorem QN {t:TypeId} {x:Operand} {lo hi:Option Operand} {y:AX} {l h':Option AX} (ho:o.op= .slice t x lo hi none) (ht:P.underlying t=some .string) (hx:aL x=some y) (hl:lq lo=some l) (hh:lq hi=some h')
  (h:bR P (.slcS y l h') σ K) (hs:bV w0 U σ ι a w) (hn:fL w0 U a o K next):o.wp P a w next Q:=by
 have r1:=aB hx hs
 simp only[bR]at h
 split at h
 ·rename_i s lo' h7 e e1 e2
  rw[e]at r1
  have es:=(bo r1).1
  obtain⟨⟨g1,g2,g3⟩,h⟩:=h
  have b1:=nF hl hs e1
  have b2:=nF hh hs e2
  have D:=BA (P:=P) (w:=w) (b:=false) (n:=s.size) (c:=s.size) (lo:=lo.map a.eval) (hi:=hi.map a.eval) (mx:=none) (m:=none) b1 b2 (.inl ⟨rfl,rfl⟩) g1 g2 g3 (by simp) (Nat.le_refl _) (by simp)
  refine aG (w':=w) ?_ (hn _ σ ι _ w h hs (mB rfl))
  simp[execOp,ho,es,Instr.sliceAt,Instr.slice,run_underlying ht,D]
 ·exact h.elim
theorem SJ {t e:TypeId} {sz bytes:Nat} {x:Operand} {lo hi mx:Option Operand} {y:AX} {l h' m:Option AX} (ho:o.op= .slice t x lo hi mx) (ht:eP P t=some (e,sz,bytes)) (hx:aL x=some y) (hl:lq lo=some l) (hh:lq hi=some h') (hm:lq mx=some m) (ZZ:mx.isSome=true→hi.isSome=true)
  (h:bR P (.slc sz y l h' m) σ K) (hs:bV w0 U σ ι a w) (hn:fL w0 U a o K next):o.wp P a w next Q:=by
 have r1:=aB hx hs
 simp only[bR]at h
 split at h
 ·exact h.elim
 ·rename_i nref
  obtain⟨rows,e0,lo',e1,h7,e2,mx',e3,⟨HG,g1,g2,g3,g4⟩,h⟩:=h
  have b1:=nF hl hs e1
  have b2:=nF hh hs e2
  have b3:=nF hm hs e3
  obtain⟨ad,c,eu,hc,HW⟩:=BT hs r1 e0
  have hW:co w (aE w0.heap.size U ι σ.mem) (.slice rows) (.slice ad rows.length c):=by
   unfold fK at e0
   generalize AX.ev σ.fr y=v at*
   split at e0
   ·cases e0
    cases r1 with|c r1=>cases r1 with|pure r1=>rw[eu]at r1;exact r1
   ·cases e0
    cases r1 with|c r1=>
     rw[eu]at r1
     cases r1 with|tsl r1=>exact r1
   ·cases e0
    cases r1 with|c r1=>
     rw[eu]at r1
     cases r1
     exact .nil
   ·exact absurd rfl (nref _)
   ·cases e0
  unfold eP at ht
  split at ht
  ·rename_i e' hd
   cases q0:P.info? e' with
   |none=>simp[q0]at ht
   |some inf=>
    simp[q0]at ht
    obtain⟨rfl,rfl,_⟩:=ht
    have hM:mx'.isSome=true→h7.isSome=true:=by
     intro h1
     have h2:mx.isSome=true:=by
      rcases b3 with⟨_,h3⟩|⟨k,i,h3,_⟩
      ·rw[h3]at h1;cases h1
      ·cases mx with
       |none=>cases h3
       |some _=>rfl
     have h4:=ZZ h2
     rcases b2 with⟨h5,_⟩|⟨k,i,_,h5⟩
     ·cases hi with
      |none=>cases h4
      |some _=>cases h5
     ·rw[h5];rfl
    have D:=BA (P:=P) (w:=w) (b:=true) (n:=rows.length) (c:=c) b1 b2 b3 g1 g2 g3 g4 hc hM
    have q4:=hW.part HG (l:=(lo'.getD 0).toNat) (h:=(h7.getD rows.length).toNat) (m:=(mx'.map Int.toNat).getD c) (by omega) (by omega) (by cases mx' with|none=>simp at g3 ⊢;omega|some m=>simp at g3 ⊢;omega)
    refine aG (u:= .slice (if((mx'.map Int.toNat).getD c)=(lo'.getD 0).toNat then ad else ad.map (·.add ((lo'.getD 0).toNat*inf.size))) ((h7.getD rows.length).toNat-(lo'.getD 0).toNat) (((mx'.map Int.toNat).getD c)-(lo'.getD 0).toNat)) (w':=w) ?_ (hn _ σ ι _ w h hs ?_)
    ·simp only[execOp,ho,Sem.run_bind,Instr.sliceAt,Instr.slice,run_underlying hd,Result.andThen_ok,eu,D,sizeOf,typeInfo,run_program,q0,Sem.run_pure]
    ·split
     ·rename_i Zz
      obtain⟨Z0,ZJ⟩:=Zz
      cases mx' with
      |none=>cases Z0
      |some m=>
       subst ZJ
       exact .c (.tsl q4)
     ·exact .c (.pure q4)
  ·cases ht
end
open Go.RowKit
section
variable {P : Program} {o : Oper} {a : Act} {w w' w0 : World} {U : Gh} {ι : Pl} {σ : St} {next : Act → World → Prop} {Q : Exit → Act → World → Prop} {K : AV → St → Prop}
theorem ij {nm t:Nat}: ∀{m:List (Nat×bk)},al (lz m nm) t=if t=nm then none else al m t
 | []=>by simp[lz,al]
 |(s,b)::m=>by
  simp only[lz]
  by_cases e:s=nm
  ·rw[if_pos e,ij,bT]
   by_cases e2:t=nm
   ·rw[if_pos e2,if_pos e2]
   ·rw[if_neg e2,if_neg e2,if_neg (by omega)]
  ·rw[if_neg e,bT,bT,ij]
   by_cases e2:t=nm
   ·rw[if_pos e2,if_pos e2,if_neg (by omega)]
   ·rw[if_neg e2,if_neg e2]
theorem bV.replace (hs:bV w0 U σ ι a w) {nm e sz:Nat} {rows rows':List (List PC)} {pv:Value} {cells:List Value} (hf:al σ.mem nm=some (.arr e sz rows)) (hg:w.grownBy w' (bI (ι nm)))
  (ZO: ∀b,bI pv=some b→bI (ι nm)=some b∨w.heap.size≤b) (hsl: ∃a n c,pv= .slice a n c) (h0:0<sz) (HY:w'.ownsRow w0.heap.size e sz pv rows'.length cells) (hm:rows'.length≤9223372036854775807)
  (ZP:bu w (aE w0.heap.size U ι σ.mem) sz rows' cells) (z9:Below w0.heap.size w0 w'):
  ∃ι',ι' σ.nx=pv∧σ.nx<σ.nx+1∧bV w0 U {σ with mem:=(σ.nx,.arr e sz rows')::lz σ.mem nm,nx:=σ.nx+1} ι' a w':=by
 let ι':Pl:= λn=>if n=σ.nx then pv else ι n
 have e1:ι' σ.nx=pv:=if_pos rfl
 have e2: ∀m,m<σ.nx→ι' m=ι m:= λm hm=>if_neg (by omega)
 let mem':=(σ.nx,bk.arr e sz rows')::lz σ.mem nm
 have HK: ∀n bx,al mem' n=some bx→(n=σ.nx∧bx= .arr e sz rows')∨(n≠nm∧n<σ.nx∧al σ.mem n=some bx):=by
  intro n bx h
  simp only[mem',bT,ij]at h
  by_cases en:σ.nx=n
  ·rw[if_pos en]at h
   cases h
   exact .inl ⟨en.symm,rfl⟩
  ·rw[if_neg en]at h
   by_cases en':n=nm
   ·rw[if_pos en']at h;cases h
   ·rw[if_neg en']at h
    exact .inr ⟨en',hs.names _ _ h,h⟩
 have C: ∀b,b<w.heap.size→aE w0.heap.size U ι σ.mem b→aE w0.heap.size U ι' mem' b:=by
  intro b hb h
  refine⟨h.1,λn bx hn=> ?_⟩
  rcases HK n bx hn with⟨rfl,_⟩|⟨h1,h2,h3⟩
  ·rw[e1]
   intro hc
   rcases ZO b hc with h2|h2
   ·exact h.2 _ _ hf h2
   ·omega
  ·rw[e2 n h2]
   exact h.2 _ _ h3
 have hw: ∀b,b<w.heap.size→aE w0.heap.size U ι σ.mem b→w'.heap[b]? =w.heap[b]? := λb hb h=>hg.block b hb (λe=>h.2 _ _ hf e.symm)
 refine⟨ι',e1,Nat.lt_succ_self _,⟨λt=> ?_,hs.defers,λn bx hn=> ?_,λn bx hn=> ?_,λn n' b1 b2 b h1 h2 h3 h4=> ?_,z9,U.mono _ _ _ _ hs.keep C hw,
  ⟨Nat.le_succ_of_le hs.base.1,λm hm=>(e2 m (Nat.lt_of_lt_of_le hm hs.base.1)).trans (hs.base.2 m hm)⟩⟩⟩
 ·exact(hs.val t).mono C hw e2 (Nat.le_succ _)
 ·show n<σ.nx+1
  rcases HK n bx hn with⟨rfl,_⟩|⟨h1,h2,h3⟩<;>omega
 ·rcases HK n bx hn with⟨rfl,rfl⟩|⟨h1,h2,h3⟩
  ·exact⟨cells,h0,by rw[e1];exact HY,hm,ZP.mono C hw⟩
  ·have hQ: ∀c,bI (ι n)=some c→bI (ι nm)≠some c:= λc hc e'=>h1 (hs.apart _ _ _ _ c h3 hf hc e')
   have h9:=hs.box _ _ h3
   cases bx with
   |var xs=>
    obtain⟨b',vs,T,g1,g2,g3,g4⟩:=h9
    refine⟨b',vs,T,by rw[e2 n h2];exact g1,g2, ?_,g4.mono λ_ _ h=>h.mono C hw e2 (Nat.le_succ _)⟩
    rw[hg.block b' (Array.getElem?_eq_some_iff.1 g3).1 (λe=>hQ b' (by rw[g1];rfl) e.symm)]
    exact g3
   |arr e' sz' rows0=>
    obtain⟨cells',k0,k1,k2,k3⟩:=h9
    refine⟨cells',k0, ?_,k2,k3.mono C hw⟩
    rw[e2 n h2]
    refine World.ownsRow.kept k1 hg ?_
    rcases k1.2 with⟨h,_⟩|⟨g,cap,cur,h,_⟩
    ·rw[h];exact .inl rfl
    ·right
     rw[h]
     intro e'
     exact hQ g (by rw[h];rfl) e'.symm
   |arn e' sz' rows0=>
    obtain⟨cells',k0,k1,k2,k3⟩:=h9
    refine⟨cells',k0, ?_,k2,k3.mono C hw e2 (Nat.le_succ _)⟩
    rw[e2 n h2]
    refine World.ownsRow.kept k1 hg ?_
    rcases k1.2 with⟨h,_⟩|⟨g,cap,cur,h,_⟩
    ·rw[h];exact .inl rfl
    ·right
     rw[h]
     intro e'
     exact hQ g (by rw[h];rfl) e'.symm
   |map kt m ents=>
    obtain⟨b',es,clock,k1,k2,k3,k4⟩:=h9
    refine⟨b',es,clock,by rw[e2 n h2];exact k1,k2, ?_,k4.mono λ_ _ h=>h.mono C hw e2 (Nat.le_succ _)⟩
    rw[hg.block b' (Array.getElem?_eq_some_iff.1 k3).1 (λe=>hQ b' (by rw[k1];rfl) e.symm)]
    exact k3
 ·rcases HK n b1 h1 with⟨rfl,_⟩|⟨k1,k2,k3⟩
  ·rcases HK n' b2 h2 with⟨rfl,_⟩|⟨k1',k2',k3'⟩
   ·rfl
   ·rw[e1]at h3
    rw[e2 _ k2']at h4
    rcases ZO b h3 with h5|h5
    ·exact absurd (hs.apart _ _ _ _ b k3' hf h4 h5) k1'
    ·have:=((hs.box _ _ k3').block h4).2
     omega
  ·rw[e2 _ k2]at h3
   rcases HK n' b2 h2 with⟨rfl,_⟩|⟨k1',k2',k3'⟩
   ·rw[e1]at h4
    rcases ZO b h4 with h5|h5
    ·exact absurd (hs.apart _ _ _ _ b k3 hf h3 h5) k1
    ·have:=((hs.box _ _ k3).block h3).2
     omega
   ·rw[e2 _ k2']at h4
    exact hs.apart _ _ _ _ b k3 k3' h3 h4
end
open Go.RowKit
section
variable {P : Program} {o : Oper} {a : Act} {w w' w0 : World} {U : Gh} {ι : Pl} {σ : St} {next : Act → World → Prop} {Q : Exit → Act → World → Prop} {K : AV → St → Prop}
theorem bu.ones {V:Nat→Prop} {sz:Nat} {rows:List (List PC)} {cells:List Value} (h:bu w V sz rows cells) (h0:0<sz): ∀v∈cells,v.oneCell'=true:=by
 intro v hv
 obtain⟨k,hk,e⟩:=List.mem_iff_getElem.1 hv
 have ZQ:k/sz<rows.length:=by
  rw[Nat.div_lt_iff_lt_mul h0,←h.1];exact hk
 have F:=List.getElem?_eq_getElem ZQ
 have hl:=h.2.1 _ _ F
 have hj:k%sz<(rows[k/sz]).length:=by rw[hl];exact Nat.mod_lt _ h0
 obtain⟨u,hu,hp⟩:=h.2.2 _ _ _ _ F (List.getElem?_eq_getElem hj)
 rw[Nat.mul_comm,Nat.div_add_mod,List.getElem?_eq_getElem hk]at hu
 cases hu
 rw[←e]
 exact hp.one
theorem tC {V:Nat→Prop} {sz n c:Nat} {rows:List (List PC)} {ad:Option Addr} (h:co w V (.slice rows) (.slice ad n c)) (HG:aK sz rows) (h0:0<sz) (Y:rows≠ []):
  ∃b off cells,ad=some ⟨b,off,none⟩∧n=rows.length∧(∀(j:Nat) x,cells[j]? =some x→w.cell? ⟨b,off+j,none⟩=some x)∧bu w V sz rows cells:=by
 cases h with
 | @slice sz' _ _ _ _ g hn hc hm hr hcell hp=>
  obtain rfl:sz=sz':=by
   symm
   have gD:0<rows.length:=List.length_pos_iff.2 Y
   have hG:=List.getElem?_eq_getElem gD
   rw[←hr _ _ hG]
   exact HG _ (List.mem_of_getElem? hG)
  have gD:0<rows.length:=List.length_pos_iff.2 Y
  have hG:=List.getElem?_eq_getElem gD
  have hl0:=hr _ _ hG
  obtain⟨b,off,rfl,_⟩:=hcell _ _ 0 _ hG (List.getElem?_eq_getElem (by omega))
  refine⟨b,off,(List.range (rows.length*sz)).map λk=>(w.cell? ⟨b,off+k,none⟩).getD undef,rfl,hn,λj x hj=> ?_,by simp,hr,λi row j p hi hj=> ?_⟩
  ·have HE:j<rows.length*sz:=by have:=(List.getElem?_eq_some_iff.1 hj).1;simpa using this
   simp[List.getElem?_map,List.getElem?_range HE]at hj
   have ZQ:j/sz<rows.length:=by rw[Nat.div_lt_iff_lt_mul h0];exact HE
   have F:=List.getElem?_eq_getElem ZQ
   have hl:=hr _ _ F
   have Z1:j%sz<(rows[j/sz]).length:=by rw[hl];exact Nat.mod_lt _ h0
   obtain⟨b',off',e',_,G1⟩:=hcell _ _ _ _ F (List.getElem?_eq_getElem Z1)
   cases e'
   rw[Nat.mul_comm,Nat.div_add_mod]at G1
   rw[G1]at hj ⊢
   simpa using hj
  ·have g9:i<rows.length:=(List.getElem?_eq_some_iff.1 hi).1
   have HE:j<sz:=by rw[←hr i row hi];exact(List.getElem?_eq_some_iff.1 hj).1
   obtain⟨b',off',e',_,G1⟩:=hcell i row j p hi hj
   cases e'
   exact⟨g i j,by simp[List.getElem?_map,List.getElem?_range (Oj g9 HE),G1],hp i row j p hi hj⟩
theorem L4 {B e sz:Nat} {v:Value} {n:Nat} {cells:List Value} (h:w.ownsRow B e sz v n cells) (hn:0<n): ∃b c,v= .slice (some ⟨b,0,none⟩) n c∧ ∀(j:Nat) x,cells[j]? =some x→w.cell? ⟨b,0+j,none⟩=some x:=by
 have h':=h
 rcases h.2 with⟨_,e⟩|⟨g,cap,cur,rfl,hb,hg,hA,HM,O,hC⟩
 ·omega
 ·refine⟨g,cap,rfl,λj x hj=> ?_⟩
  have:=World.ownsRow.cells h' (g:=g) rfl j x hj
  rw[gI]at this
  exact this
theorem zb {v:AV} {u:Value} {sz:Nat} {rows:List (List PC)} (hs:bV w0 U σ ι a w) (h:aX w (aE w0.heap.size U ι σ.mem) ι σ.nx v u) (hr:fK σ.mem v=some rows) (HG:aK sz rows) (h0:0<sz) (Y:rows≠ []):
  ∃b off c cells,u= .slice (some ⟨b,off,none⟩) rows.length c∧(∀(j:Nat) x,cells[j]? =some x→w.cell? ⟨b,off+j,none⟩=some x)∧bu w (aE w0.heap.size U ι σ.mem) sz rows cells:=by
 unfold fK at hr
 split at hr
 ·cases hr
  cases h with|c h=>cases h with|pure h=>
   have h':=h
   cases h with
   |slice g hn hc hm _ _ _=>
    obtain⟨b,off,cells,rfl,rfl,h1,h2⟩:=tC h' HG h0 Y
    exact⟨b,off,_,cells,rfl,h1,h2⟩
 ·cases hr
  cases h with|c h=>cases h with|tsl h=>
   obtain⟨b,off,cells,rfl,rfl,h1,h2⟩:=tC h HG h0 Y
   exact⟨b,off,_,cells,rfl,h1,h2⟩
 ·cases hr
  exact absurd rfl Y
 ·split at hr
  ·rename_i nm e sz' rows' hf
   cases hr
   cases h with
   |c h=>cases h with
    |ref Z HN=>
     obtain⟨cells,g0,g1,g2,g3⟩:=hs.box _ _ hf
     obtain⟨b,c,e1,h1⟩:=L4 g1 (List.length_pos_iff.2 Y)
     obtain rfl:sz=sz':=by
      symm
      have hG:=List.getElem?_eq_getElem (List.length_pos_iff.2 Y)
      rw[←g3.2.1 _ _ hG]
      exact HG _ (List.mem_of_getElem? hG)
     exact⟨b,0,c,cells,e1,h1,g3⟩
  ·cases hr
 ·cases hr
theorem hZ {t e ty:TypeId} {inf:TypeInfo} {base ad:Option Addr} {n c c':Nat} (ht:P.underlying t=some (.slice e)) (hi:P.info? e=some inf) (hc:n≤c):
  (Builtin.append_ #[t,t] ty #[.slice base n c,.slice ad 0 c']).run P w= .ok (.slice base n c) w:=by
 cases ad<;>cases base<;>simp[Builtin.append_,run_underlying ht,sizeOf,typeInfo,hi,Builtin.lenOf,Builtin.firstCells,loadCells,loadCellsFrom,hc,storeCells]
theorem KW (z:Array Value) (n:Nat):(Builtin.zeroCells z n).size=n*z.size:=by simp[Builtin.zeroCells]
theorem o8 {t e ty:TypeId} {inf:TypeInfo} {z:Value} {base:Option Addr} {n c m c' sz bytes:Nat} {ad:Addr} {xs news:List Value} {B:Nat} (ht:P.underlying t=some (.slice e)) (hi:P.info? e=some inf) (hz:inf.zero=some z)
  (J:inf.size=sz) (ZA:inf.bytes=bytes) (hF:z.cells.size=sz) (H2:xs.length=n*sz) (hb:(base=none∧n=0∧c=0)∨ ∃bd,base=some bd∧ ∀(j:Nat) u,xs[j]? =some u→w.cell? (bd.add j)=some u)
  (HC:news.length=m*sz) (hn: ∀(j:Nat) u,news[j]? =some u→w.cell? (ad.add j)=some u) (Z2:c<n+m) (hA:n≤c) (hm:n+m≤9223372036854775807) (hH:(n+m)*bytes≤140737488355328) (hB:B≤w.heap.size):
  ∃cap w',(Builtin.append_ #[t,t] ty #[.slice base n c,.slice (some ad) m c']).run P w= .ok (.slice (some ⟨w.heap.size,0,none⟩) (n+m) cap) w'∧Below w.heap.size w w'∧
   w'.ownsRow B e sz (.slice (some ⟨w.heap.size,0,none⟩) (n+m) cap) (n+m) (xs++news):=by
 subst J
 subst ZA
 have key: ∀old,(w.drew.alloc (.cells (xs.toArray++news.toArray++Builtin.zeroCells z.cells (grownCap w (n+m) old e-(n+m))) e)).ownsRow B e inf.size (.slice (some ⟨w.heap.size,0,none⟩) (n+m) (grownCap w (n+m) old e)) (n+m) (xs++news):=by
  intro old
  have ZY:=grownCap_ge w (n+m) old e
  refine⟨by rw[List.length_append,H2,HC,Nat.add_mul],.inr ⟨w.heap.size,_,_,rfl,hB,heap_alloc_new w.drew _,ZY,grownCap_le_maxLen w (n+m) old e (by unfold maxLen;omega), ?_, ?_⟩⟩
  ·simp only[Array.size_append,List.size_toArray,KW,hF,H2,HC,←Nat.add_mul]
   congr 1
   omega
  ·have hl:(xs++news).length=(n+m)*inf.size:=by rw[List.length_append,H2,HC,Nat.add_mul]
   simp only[Array.toList_append]
   rw[←hl]
   exact List.take_left
 have X: ∀ob,Below w.heap.size w (w.drew.alloc ob):= λob=>(Below.refl _ _).drew.alloc (Nat.le_refl _) ob
 rcases hb with⟨rfl,rfl,rfl⟩|⟨bd,rfl,Z3⟩
 ·have Z4:xs= []:=List.eq_nil_of_length_eq_zero (by simpa using H2)
  subst Z4
  have hr:=run_append_nil (P:=P) w t ty e inf z ht hi hz ad m c' news HC hn (by omega) (by omega) (by have:=hH;simp only[Nat.zero_add]at this;omega)
  have hk:=key 0
  simp only[Nat.zero_add,List.nil_append,Array.empty_append]at hk ⊢
  exact⟨_,_,hr,X _,hk⟩
 ·have hr:=run_append_grow (P:=P) w t ty e inf z ht hi hz bd n c xs H2 Z3 ad m c' news HC hn (by omega) (by omega) (growslice_fits (by omega) hH)
  exact⟨_,_,hr,X _,key c⟩
theorem vc {V:Nat→Prop} {N nm:Nat} {u:Value} (h:aX w V ι N (.c (.ref nm)) u):u=ι nm:=by
 cases h with|c h=>cases h;rfl
theorem rO {V:Nat→Prop} {N:Nat} {u:Value} (h:aX w V ι N (.c .nils) u):u= .slice none 0 0:=by
 cases h with|c h=>cases h;rfl
theorem OW {V:Nat→Prop} {N:Nat} {rows:List (List PC)} {u:Value} (h:aX w V ι N (.c (.tsl rows)) u): ∃ad,u= .slice ad rows.length rows.length∧co w V (.slice rows) u:=by
 cases h with|c h=>cases h with|tsl h=>
  have h':=h
  cases h with|slice g hn=>subst hn;exact⟨_,rfl,h'⟩
theorem Bq {V:Nat→Prop} {B e sz b n c:Nat} {rows:List (List PC)} {cells:List Value} (h:w.ownsRow B e sz (.slice (some ⟨b,0,none⟩) n c) n cells) (hn:n=rows.length) (hr:bu w V sz rows cells) (hb:V b) (hm:n≤9223372036854775807):co w V (.slice rows) (.slice (some ⟨b,0,none⟩) n c):=by
 subst hn
 have h':=h
 rcases h.2 with⟨e,_⟩|⟨g,cap,cur,e,Za,hg,hA,_⟩
 ·cases e
 ·simp at e
  obtain⟨rfl,rfl⟩:=e
  refine hr.slice hb hA hm λk v hk=> ?_
  have:=World.ownsRow.cells h' (g:=b) rfl k v hk
  rw[gI,Nat.zero_add]at this
  exact this
theorem Sz {t e sz bytes:Nat} {z:Value} {x y:Operand} {p q:AX} {c:Call} (hc:c.callee= .builtin .append) (W:c.args.toList= [x,y]) (HT:c.argTypes.toList= [t,t]) (ho:o.op= .call c) (ht:eP P t=some (e,sz,bytes)) (h0:0<sz)
  (hz:eM P e=some z) (hF:z.cells.size=sz) (hx:aL x=some p) (hy:aL y=some q) (h:bR P (.app e sz bytes p q) σ K) (hs:bV w0 U σ ι a w) (hn:fL w0 U a o K next):o.wp P a w next Q:=by
 have r1:=aB hx hs
 have r2:=aB hy hs
 have ha:c.args= #[x,y]:=by rw[←Array.toArray_toList (xs:=c.args),W]
 have G2:c.argTypes= #[t,t]:=by rw[←Array.toArray_toList (xs:=c.argTypes),HT]
 have D: ∀{v':Value} {w':World},(Builtin.append_ #[t,t] o.type #[a.eval x,a.eval y]).run P w= .ok v' w'→(execOp a.eval o).run P w= .ok (.value v') w':=by
  intro v' w' hr
  simp[execOp,ho,resolve,hc,invoke,builtin,ha,G2,hr]
 unfold eP eM at*
 split at ht
 ·rename_i e' hd
  cases hi:P.info? e' with
  |none=>simp[hi]at ht
  |some inf=>
   simp[hi]at ht
   obtain⟨rfl,J,ZA⟩:=ht
   simp[hi]at hz
   simp only[bR,zS]at h
   obtain⟨ys,gd,HG,h⟩:=h
   obtain⟨ady,cy,ey,hcy,hmy⟩:=BT hs r2 gd
   generalize hvx:AX.ev σ.fr p=vx at*
   generalize hvy:AX.ev σ.fr q=vy at*
   have hB:=hs.below.size
   have fresh: ∀{rows:List (List PC)} {ad:Option Addr} {xs:List Value},a.eval x= .slice ad rows.length rows.length→xs.length=rows.length*sz→((ad=none∧rows.length=0∧rows.length=0)∨ ∃bd,ad=some bd∧ ∀(j:Nat) u,xs[j]? =some u→w.cell? (bd.add j)=some u)→
     bu w (aE w0.heap.size U ι σ.mem) sz rows xs→ys≠ []→(rows.length+ys.length)*bytes≤140737488355328→rows.length+ys.length≤140737488355328→((K (.c (.ref σ.nx)) {σ with mem:=(σ.nx,.arr e' sz (rows++ys))::σ.mem,nx:=σ.nx+1})∨K (.c (.pure (.slice (rows++ys)))) σ)→o.wp P a w next Q:=by
    intro rows ad xs ex Z5 hb ge hP hH HW h
    obtain⟨b,off,cc,news,en,ZR,HD⟩:=zb hs r2 gd HG h0 hP
    have Z6:0<ys.length:=List.length_pos_iff.2 hP
    have hE:(rows++ys).length=rows.length+ys.length:=List.length_append
    obtain⟨cap,w',hr,X,HY⟩:=o8 (P:=P) (ty:=o.type) (B:=w0.heap.size) (c:=rows.length) (c':=cc) hd hi hz J ZA hF Z5 hb HD.1 (λj u hj=>by rw[gI];exact ZR j u hj) (by omega) (Nat.le_refl _) (by omega) hH hB
    rw[←ex,←en]at hr
    have hW:=(ge.append HD).mono (w':=w') (λ_ _ h=>h) (λb hb _=>X.block b hb)
    rcases h with h|h
    ·obtain⟨ι',h1,h2,h3,h4⟩:=hs.newBox (pv:= .slice (some ⟨w.heap.size,0,none⟩) (rows.length+ys.length) cap) (bx:= .arr e' sz (rows++ys)) X (λb hb=>by simp[bI]at hb;omega) (λι' e1 e2 C=>by
      refine⟨xs++news,h0, ?_,by rw[hE];omega,(ge.append HD).mono C (λb hb _=>X.block b hb)⟩
      rw[e2,hE]
      exact HY)
     refine aG (u:=ι' σ.nx) (w':=w') (D ?_) (hn _ _ ι' _ _ h h1 (.c (.ref (Nat.lt_succ_self _) ⟨_,_,_,h2⟩)))
     rw[h2]
     exact hr
    ·refine aG (w':=w') (D hr) (hn _ σ ι _ _ h (hs.grow X) (.c (.pure ?_)))
     exact Bq HY hE.symm hW (vB hs) (by omega)
   rcases h with⟨nm,rfl,Y,rows,hf,hH,Z7,h⟩|h
   ·obtain⟨cells,g0,g1,g2,g3⟩:=hs.box _ _ hf
    have eux:a.eval x=ι nm:=vc r1
    have Z:=hs.names _ _ hf
    by_cases hP:ys= []
    ·subst hP
     obtain⟨n',c',ex,hA⟩: ∃ad c',ι nm= .slice ad rows.length c'∧rows.length≤c':=by
      rcases g1.2 with⟨e1,e2⟩|⟨g,cap,cur,e1,_,_,hA,_⟩
      ·exact⟨none,0,by rw[e1,e2],by omega⟩
      ·exact⟨_,cap,e1,hA⟩
     obtain⟨ι',h1,h2,h3⟩:=hs.replace (w':=w) (rows':=rows++ []) (pv:=ι nm) hf ⟨rfl,rfl,rfl,Nat.le_refl _,λ_ _ _=>rfl⟩ (λb hb=> .inl hb) ⟨_,_,_,ex⟩ g0 (by simpa using g1) (by simpa using g2) (by simpa using g3) hs.below
     refine aG (u:=ι' σ.nx) (w':=w) (D ?_) (hn _ _ ι' _ _ h h3 (.c (.ref h2 ⟨_,_,_,h1.trans ex⟩)))
     rw[h1,eux,ex,ey]
     exact hZ hd hi hA
    ·obtain⟨b,off,cc,news,en,ZR,HD⟩:=zb hs r2 gd HG h0 hP
     have Z6:0<ys.length:=List.length_pos_iff.2 hP
     have ZE: ∀(j:Nat) u,news[j]? =some u→w.cell? ((⟨b,off,none⟩:Addr).add j)=some u:= λj u hj=>by rw[gI];exact ZR j u hj
     have hE:(rows++ys).length=rows.length+ys.length:=List.length_append
     have HW:rows.length+ys.length≤9223372036854775807:=by omega
     have grow: ∀{base:Option Addr} {cx:Nat},ι nm= .slice base rows.length cx→((base=none∧rows.length=0∧cx=0)∨ ∃bd,base=some bd∧ ∀(j:Nat) u,cells[j]? =some u→w.cell? (bd.add j)=some u)→rows.length≤cx→cx<rows.length+ys.length→o.wp P a w next Q:=by
      intro base cx ex hb hL H
      obtain⟨cap,w',hr,X,HY⟩:=o8 (P:=P) (ty:=o.type) (B:=w0.heap.size) (c':=cc) hd hi hz J ZA hF g1.1 hb HD.1 ZE H hL HW hH hB
      obtain⟨ι',h1,h2,h3⟩:=hs.replace (w':=w') (rows':=rows++ys) (pv:= .slice (some ⟨w.heap.size,0,none⟩) (rows.length+ys.length) cap) hf ⟨X.os,X.tape,X.output,X.size,λk hk _=>X.block k hk⟩ (λb hb=> .inr (by simp[bI]at hb;omega)) ⟨_,_,_,rfl⟩ g0 (by rw[hE];exact HY) (by rw[hE];exact HW) (g3.append HD) (hs.below.trans (X.mono hB))
      refine aG (u:=ι' σ.nx) (w':=w') (D ?_) (hn _ _ ι' _ _ h h3 (.c (.ref h2 ⟨_,_,_,h1⟩)))
      rw[h1,eux,ex,en]
      exact hr
     rcases g1.2 with⟨ex,e0⟩|⟨g,cap,cur,ex,Za,hg,hA,HM,O,hC⟩
     ·exact grow (base:=none) (cx:=0) (by rw[ex,e0]) (.inl ⟨rfl,e0,rfl⟩) (by omega) (by omega)
     ·by_cases gg:rows.length+ys.length≤cap
      ·have Zb:rows.length*inf.size+news.length≤cur.size:=by
        rw[HD.1,J,O,←Nat.add_mul];exact Nat.mul_le_mul_right _ gg
       have hr:=run_append_room (P:=P) w t o.type e' inf hd hi g rows.length cap cur hg ⟨b,off,none⟩ ys.length cc news (by rw[J];exact HD.1) ZE (HD.ones h0) gg Zb
       have HY:(w.setRow g (cur.toList.take (rows.length*inf.size)++news++cur.toList.drop (rows.length*inf.size+news.length)).toArray).ownsRow w0.heap.size e' sz (.slice (some ⟨g,0,none⟩) (rows.length+ys.length) cap) (rows.length+ys.length) (cells++news):=by
        have hl:(cells++news).length=(rows.length+ys.length)*sz:=by rw[List.length_append,g1.1,HD.1,Nat.add_mul]
        refine⟨hl,.inr ⟨g,cap,_,rfl,Za,setRow_heap _ _ _ _ _ _ hg,gg,HM, ?_, ?_⟩⟩
        ·simp only[List.size_toArray,List.length_append,List.length_take,List.length_drop,Array.length_toList]
         rw[←O]
         omega
        ·rw[List.toList_toArray,J,hC,←hl]
         exact List.take_left
       obtain⟨ι',h1,h2,h3⟩:=hs.replace (w':=w.setRow g (cur.toList.take (rows.length*inf.size)++news++cur.toList.drop (rows.length*inf.size+news.length)).toArray) (rows':=rows++ys) (pv:= .slice (some ⟨g,0,none⟩) (rows.length+ys.length) cap) (cells:=cells++news) hf
        ⟨rfl,rfl,rfl,by simp,λk _ hk=>setRow_other _ _ _ _ (λe=>hk (by rw[ex,e];rfl))⟩ (λb hb=> .inl (by rw[ex];exact hb)) ⟨_,_,_,rfl⟩ g0 (by rw[hE];exact HY) (by rw[hE];exact HW) (g3.append HD) (hs.below.trans ⟨rfl,rfl,rfl,by simp,λk hk=>setRow_other _ _ _ _ (by omega)⟩)
       refine aG (u:=ι' σ.nx) (D ?_) (hn _ _ ι' _ _ h h3 (.c (.ref h2 ⟨_,_,_,h1⟩)))
       rw[h1,eux,ex,en]
       exact hr
      ·exact grow (base:=some ⟨g,0,none⟩) ex (.inr ⟨_,rfl,λj u hj=>World.ownsRow.cells g1 (by rw[ex];rfl) j u hj⟩) hA (by omega)
   ·rcases h with⟨rfl,h⟩|⟨rows,rfl,Zc,h⟩
    ·have ex:=rO r1
     by_cases hP:ys= []
     ·subst hP
      have hr:=hZ (P:=P) (w:=w) (ty:=o.type) (base:=none) (n:=0) (c:=0) (ad:=ady) (c':=cy) hd hi (Nat.le_refl _)
      rw[←ex]at hr
      have Zd:=hr
      rw[show(Value.slice ady 0 cy)=a.eval y from ey.symm]at hr
      rcases h with⟨_,_,h⟩|⟨_,_,h⟩
      ·obtain⟨ι',h1,h2,h3,h4⟩:=hs.newBox (w':=w) (pv:= .slice none 0 0) (bx:= .arr e' sz ([]++ [])) (Below.refl _ _) (λb hb=>by simp[bI]at hb) (λι' e1 e2 C=>⟨[],h0,by rw[e2];exact World.ownsRow_nil _ _ _ _,by simp,bu.nil⟩)
       refine aG (u:=ι' σ.nx) (w':=w) (D ?_) (hn _ _ ι' _ _ h h1 (.c (.ref (Nat.lt_succ_self _) ⟨_,_,_,h2⟩)))
       rw[h2,hr,ex]
      ·refine aG (w':=w) (D hr) (hn _ σ ι _ _ h hs (.c (.pure ?_)))
       rw[ex]
       exact .nil
     ·rcases h with⟨g1,g2,h⟩|⟨g1,g2,h⟩
      ·exact fresh (rows:= []) (xs:= []) ex (by simp) (.inl ⟨rfl,rfl,rfl⟩) .nil hP g1 g2 (.inl h)
      ·exact fresh (rows:= []) (xs:= []) ex (by simp) (.inl ⟨rfl,rfl,rfl⟩) .nil hP g1 g2 (.inr h)
    ·obtain⟨adx,ex,ge⟩:=OW r1
     rw[ex]at ge
     by_cases hP:ys= []
     ·subst hP
      rcases h with⟨h,_⟩|⟨_,_,h⟩|⟨_,h⟩
      ·exact absurd rfl h
      ·have hr:=hZ (P:=P) (w:=w) (ty:=o.type) (base:=adx) (n:=rows.length) (c:=rows.length) (ad:=ady) (c':=cy) hd hi (Nat.le_refl _)
       rw[←ex,show(Value.slice ady 0 cy)=a.eval y from ey.symm]at hr
       refine aG (w':=w) (D hr) (hn _ σ ι _ _ h hs (.c (.pure ?_)))
       rw[ex,List.append_nil]
       exact ge
      ·have hr:=hZ (P:=P) (w:=w) (ty:=o.type) (base:=adx) (n:=rows.length) (c:=rows.length) (ad:=ady) (c':=cy) hd hi (Nat.le_refl _)
       rw[←ex,show(Value.slice ady 0 cy)=a.eval y from ey.symm]at hr
       refine aG (w':=w) (D hr) (hn _ σ ι _ _ h hs (.c ?_))
       rw[ex]
       exact .tsl ge
     ·have hb: ∃xs:List Value,xs.length=rows.length*sz∧((adx=none∧rows.length=0∧rows.length=0)∨ ∃bd,adx=some bd∧ ∀(j:Nat) u,xs[j]? =some u→w.cell? (bd.add j)=some u)∧bu w (aE w0.heap.size U ι σ.mem) sz rows xs:=by
       by_cases Ze:rows= []
       ·subst Ze
        refine⟨[],by simp, ?_,.nil⟩
        cases adx with
        |none=>exact .inl ⟨rfl,rfl,rfl⟩
        |some bd=>exact .inr ⟨bd,rfl,by simp⟩
       ·obtain⟨b,off,xs,rfl,_,Z8,Zf⟩:=tC ge Zc h0 Ze
        exact⟨xs,Zf.1,.inr ⟨_,rfl,λj u hj=>by rw[gI];exact Z8 j u hj⟩,Zf⟩
      obtain⟨xs,h1,h2,h3⟩:=hb
      rcases h with⟨_,g1,g2,h⟩|⟨g1,g2,h⟩|⟨h,_⟩
      ·exact fresh ex h1 h2 h3 hP g1 g2 (.inl h)
      ·exact fresh ex h1 h2 h3 hP g1 g2 (.inr h)
      ·exact absurd h hP
 ·cases ht
end
open Go.RowKit
section
variable {P : Program} {o : Oper} {a : Act} {w w' w0 : World} {U : Gh} {ι : Pl} {σ : St} {next : Act → World → Prop} {Q : Exit → Act → World → Prop} {K : AV → St → Prop}
theorem aM.ofMem {R:AC→Value→Prop} {xs:List AC} {vs:List Value} (h:aM R xs vs) (i:Nat) (x:AC) (hi:xs[i]? =some x):R x (vs[i]?.getD undef):=by
 obtain⟨v,hv,hr⟩:=h.get hi
 rw[hv]
 exact hr
theorem CU (hs:bV w0 U σ ι a w): ∀{caps:List Operand} {xs:List AX} {acc:List AC} {vs:List Value} {R:List AC→Prop},kn caps=some xs→bR.mkfnW σ xs acc R→aM (b7 w (aE w0.heap.size U ι σ.mem) ι σ.nx) acc vs→
  ∃ys,aM (b7 w (aE w0.heap.size U ι σ.mem) ι σ.nx) ys (vs++caps.map a.eval)∧R ys
 |[],xs,acc,vs,R,hx,h,q5=>by
  cases hx
  exact⟨acc,by simpa using q5,h⟩
 |x::caps,xs,acc,vs,R,hx,h,q5=>by
  unfold kn at hx
  split at hx
  ·rename_i y ys h1 h2
   cases hx
   simp only[bR.mkfnW]at h
   have r1:=aB h1 hs
   split at h
   ·rename_i z e
    rw[e]at r1
    cases r1 with
    |c r1=>
     obtain⟨ys',hr,hR⟩:=CU hs (vs:=vs++ [a.eval x]) h2 h (q5.append (.cons r1 .nil))
     exact⟨ys',by simpa using hr,hR⟩
   ·exact h.elim
  ·cases hx
theorem Q6 {f:FuncId} {first caps:Array Operand} {xs:List AX} (ho:o.op= .makeFunc (.func f) first caps) (hf:first.size=0) (hx:kn caps.toList=some xs) (h:bR P (.mkfn f xs) σ K) (hs:bV w0 U σ ι a w) (hn:fL w0 U a o K next):o.wp P a w next Q:=by
 simp only[bR]at h
 obtain⟨ys,hr,hR⟩:=CU hs hx h .nil
 have Z9:first= #[]:=Array.eq_empty_of_size_eq_zero hf
 refine aG (u:= .func (.func f) #[] (caps.map a.eval)) (w':=w) ?_ (hn _ σ ι _ w hR hs (.c (.clo ?_ λi x hi=> ?_)))
 ·simp[execOp,ho,Instr.makeFunc,Z9]
 ·have:=hr.length
  simpa using this
 ·have:=hr.ofMem i x hi
  simpa using this
theorem vz {V:Nat→Prop} {x:AC} {y:PC} {v:Value} (hs:bV w0 U σ ι a w) (h:b7 w (aE w0.heap.size U ι σ.mem) ι σ.nx x v) (hp:dS σ.mem x=some y) (hV: ∀b,aE w0.heap.size U ι σ.mem b→V b) (hN:ja x=true∨ ∀b,w0.heap.size≤b→V b):co w V y v:=by
 have h6: ∀{p:PC} {v:Value},co w (aE w0.heap.size U ι σ.mem) p v→co w V p v:= λh=>h.mono (λb _ h=>hV b h) (λ_ _ _=>rfl)
 cases h with
 |pure h=>cases hp;exact h6 h
 |nils=>cases hp;exact .nil
 |tsl h=>cases hp;exact h6 h
 |ref hn HN=>
  simp only[dS]at hp
  split at hp
  ·rename_i e sz rows hf
   cases hp
   have L: ∀b,w0.heap.size≤b→V b:=by
    rcases hN with h|h
    ·simp[ja]at h
    ·exact h
   obtain⟨cells,g0,g1,g2,g3⟩:=hs.box _ _ hf
   rcases g1.2 with⟨e1,e2⟩|⟨g,cap,cur,e1,hB,_⟩
   ·have:rows= []:=List.eq_nil_of_length_eq_zero e2
    subst this
    rw[e1]
    exact .nil
   ·rw[e1]at g1 ⊢
    exact Bq g1 rfl (g3.mono (λb _ h=>hV b h) (λ_ _ _=>rfl)) (L _ hB) g2
  ·cases hp
 |_=>cases hp
theorem JM {V:Nat→Prop} {xs:List AC} {vs:List Value} (hs:bV w0 U σ ι a w) (h:aM (b7 w (aE w0.heap.size U ι σ.mem) ι σ.nx) xs vs) (hV: ∀b,aE w0.heap.size U ι σ.mem b→V b) (hN: ∀b,w0.heap.size≤b→V b): ∀{ys:List PC},tf σ.mem xs=some ys→aM (co w V) ys vs:=by
 induction h with
 |nil=>intro ys hp;cases hp;exact .nil
 |cons h t ih=>
  intro ys hp
  unfold tf at hp
  split at hp
  ·cases hp
   exact .cons (vz hs h ‹_› hV (.inr hN)) (ih ‹_›)
  ·cases hp
theorem D5 {V:Nat→Prop} {kt:KT} {n:Option Nat} (hs:bV w0 U σ ι a w) (hV: ∀b,aE w0.heap.size U ι σ.mem b→V b) (hN: ∀b,w0.heap.size≤b→V b): ∀{ents:List (MK×List AC)} {es:List MapEntry} {qs:List (MK×List PC)},aM (jd w (aE w0.heap.size U ι σ.mem) ι σ.nx kt n) ents es→kH σ.mem n ents=some qs→
  aM (λx e=>x.1.val kt=some e.key∧(n.isSome=true→ ∃vs,e.val= .agg vs)∧aM (co w V) x.2 (GJ n e.val)) qs es
 | [],es,qs,h,hp=>by cases h;cases hp;exact .nil
 |x::ents,es,qs,h,hp=>by
  cases h with
  | @cons _ e _ es h1 h2=>
   unfold kH at hp
   split at hp
   ·rename_i ps qs' g1 g2
    cases hp
    refine .cons ⟨h1.1, ?_⟩ (D5 hs hV hN h2 g2)
    have hv:=h1.2
    cases n with
    |none=>
     refine⟨(λh=>by cases h), ?_⟩
     cases hx:x.2 with
     |nil=>rw[hx]at g1;simp[mO]at g1
     |cons p r=>
      rw[hx]at g1 hv
      simp only[mO]at g1
      split at g1
      ·rename_i q hq
       cases g1
       cases hv with
       |c hv=>exact .cons (vz hs hv hq hV (.inr hN)) .nil
      ·cases g1
    |some k=>
     simp only[gx]at hv
     generalize e.val=u at hv
     cases hv with
     |agg hv=>exact⟨λ_=>⟨_,rfl⟩,JM hs hv hV hN g1⟩
   ·cases hp
theorem QW {V:Nat→Prop} {kt:KT} {n:Option Nat} {qs:List (MK×List PC)} {es:Array MapEntry} {b clock:Nat} (h:aM (λx e=>x.1.val kt=some e.key∧(n.isSome=true→ ∃vs,e.val= .agg vs)∧aM (co w V) x.2 (GJ n e.val)) qs es.toList)
  (hb:V b) (hm:w.heap[b]? =some (.map es clock)):co w V (.fmap kt n qs) (.map (some b)):=by
 refine .fmap hb hm (by simpa using h.length) (λi x e hx he=> ?_) (λi x e j p v hx he hp hv=> ?_)
 ·obtain⟨e',g1,g2,g3,g4⟩:=h.get hx
  rw[g1]at he
  cases he
  exact⟨g2,g3,g4.length⟩
 ·obtain⟨e',g1,g2,g3,g4⟩:=h.get hx
  rw[g1]at he
  cases he
  obtain⟨v',k1,k2⟩:=g4.get hp
  rw[k1]at hv
  cases hv
  exact k2
theorem Q2 {V:Nat→Prop} {N:Nat} {kt:KT} {n:Option Nat} {qs:List (MK×List PC)} {b:Nat} (h:co w V (.fmap kt n qs) (.map (some b))):V b∧ ∃es clock,w.heap[b]? =some (.map es clock)∧aM (jd w V ι N kt n) (oN qs) es.toList:=by
 cases h with
 | @fmap _ _ _ _ clock es hb hm hl hk hp=>
  refine⟨hb,es,clock,hm,aM.of_get (by simpa[oN]using hl) λi x e hx he=> ?_⟩
  unfold oN at hx
  rw[List.getElem?_map]at hx
  obtain⟨y,hy,rfl⟩:=Option.map_eq_some_iff.1 hx
  obtain⟨k1,k2,k3⟩:=hk i y e hy he
  have k4:=hp i y e
  refine⟨k1, ?_⟩
  cases n with
  |none=>
   cases Zg:y.2 with
   |nil=>rw[Zg]at k3;cases k3
   |cons p r=>exact .c (.pure (k4 0 p e.val hy he (by rw[Zg];rfl) rfl))
  |some k=>
   obtain⟨vs,qp⟩:=k2 rfl
   rw[qp]at k3 k4 ⊢
   refine .agg (aM.of_get (by simpa[GJ]using k3) λj x v hx hv=> ?_)
   rw[List.getElem?_map]at hx
   obtain⟨p,hp',rfl⟩:=Option.map_eq_some_iff.1 hx
   exact .pure (k4 j p v hy he hp' hv)
theorem II {V:Nat→Prop} {nm:Nat} {kt:KT} {n:Option Nat} {ents:List (MK×List AC)} {qs:List (MK×List PC)} (hs:bV w0 U σ ι a w) (hf:al σ.mem nm=some (.map kt n ents)) (hq:kH σ.mem n ents=some qs)
  (hV: ∀b,aE w0.heap.size U ι σ.mem b→V b) (hN: ∀b,w0.heap.size≤b→V b):co w V (.fmap kt n qs) (ι nm):=by
 obtain⟨b,es,clock,g1,g2,g3,g4⟩:=hs.box _ _ hf
 rw[g1]
 exact QW (D5 hs hV hN g4 hq) (hN _ g2) g3
theorem Pg {V:Nat→Prop} {x:AC} {y:PC} {v:Value} (hs:bV w0 U σ ι a w) (h:b7 w (aE w0.heap.size U ι σ.mem) ι σ.nx x v) (hp:eE σ.mem x=some y) (hV: ∀b,aE w0.heap.size U ι σ.mem b→V b) (hN:ja x=true∨ ∀b,w0.heap.size≤b→V b):co w V y v:=by
 cases x with
 |mref nm=>
  have L: ∀b,w0.heap.size≤b→V b:=by
   rcases hN with h|h
   ·simp[ja]at h
   ·exact h
  simp only[eE]at hp
  split at hp
  ·split at hp
   ·cases hp
    have e:v=ι nm:=by cases h with|mref _ h=>exact h.symm
    rw[e]
    exact II hs ‹_› ‹_› hV L
   ·cases hp
  ·cases hp
 |_=>exact vz hs h hp hV hN
theorem Kf {V:Nat→Prop} {xs:List AC} {vs:List Value} (hs:bV w0 U σ ι a w) (h:aM (b7 w (aE w0.heap.size U ι σ.mem) ι σ.nx) xs vs) (hV: ∀b,aE w0.heap.size U ι σ.mem b→V b) (hN: ∀b,w0.heap.size≤b→V b): ∀{ys:List PC},cJ σ.mem xs=some ys→aM (co w V) ys vs:=by
 induction h with
 |nil=>intro ys hp;cases hp;exact .nil
 |cons h t ih=>
  intro ys hp
  unfold cJ at hp
  split at hp
  ·cases hp
   exact .cons (Pg hs h ‹_› hV (.inr hN)) (ih ‹_›)
  ·cases hp
theorem Iy {V:Nat→Prop} {x y:AC} {v:Value} (hs:bV w0 U σ ι a w) (h:b7 w (aE w0.heap.size U ι σ.mem) ι σ.nx x v) (hp:dX σ.mem x=some y) (hV: ∀b,aE w0.heap.size U ι σ.mem b→V b) (hN:ja x=true∨ ∀b,w0.heap.size≤b→V b):b7 w V (λ_=>undef) 0 y v:=by
 have h6: ∀{p:PC} {v:Value},co w (aE w0.heap.size U ι σ.mem) p v→co w V p v:= λh=>h.mono (λb _ h=>hV b h) (λ_ _ _=>rfl)
 have h':=h
 cases h with
 |pure h=>cases hp;exact .pure (h6 h)
 |nils=>cases hp;exact .pure .nil
 |tsl h=>cases hp;exact .pure (h6 h)
 |cptr g hc=>
  cases hp
  refine .cptr g λj p hj=> ?_
  obtain⟨h1,h2,h3⟩:=hc j p hj
  exact⟨hV _ h1,h2,h6 h3⟩
 |ref hn HN=>
  simp only[dX]at hp
  split at hp
  ·rename_i e sz rows hf
   cases hp
   exact .pure (vz hs h' (by simp[dS,hf]) hV hN)
  ·cases hp
 | @mref nm b hn hι=>
  simp only[dX]at hp
  split at hp
  ·split at hp
   ·cases hp
    have L: ∀b,w0.heap.size≤b→V b:=by
     rcases hN with h|h
     ·simp[ja]at h
     ·exact h
    rw[←hι]
    exact .pure (II hs ‹_› ‹_› hV L)
   ·cases hp
  ·cases hp
 | @ptr nm off b hn hι=>
  simp only[dX]at hp
  split at hp
  ·rename_i xs hf
   split at hp
   ·rename_i ps hps
    cases hp
    have L: ∀b,w0.heap.size≤b→V b:=by
     rcases hN with h|h
     ·simp[ja]at h
     ·exact h
    obtain⟨b',vs,T,g1,g2,g3,g4⟩:=hs.box _ _ hf
    rw[hι]at g1
    simp at g1
    subst g1
    have hr:=Kf hs g4 hV L hps
    refine .cptr (λj=>(vs.toList[off+j]?).getD undef) λj p hj=> ?_
    rw[List.getElem?_drop]at hj
    obtain⟨u,hu,hrp⟩:=hr.get hj
    refine⟨L _ g2, ?_, ?_⟩
    ·rw[cell_of_row w b _ vs T (0,0) g3,hu]
     simpa using hu
    ·rw[hu];exact hrp
   ·cases hp
  ·cases hp
 |_=>cases hp
theorem zi {V:Nat→Prop}: ∀{xs:List AC} {vs:List Value},bV w0 U σ ι a w→xs.length=vs.length→(∀(i:Nat) x,xs[i]? =some x→b7 w (aE w0.heap.size U ι σ.mem) ι σ.nx x (vs[i]?.getD undef))→(∀b,aE w0.heap.size U ι σ.mem b→V b)→(xs.all ja=true∨ ∀b,w0.heap.size≤b→V b)→
  ∀{ys:List AC},xx σ.mem xs=some ys→ys.length=vs.length∧ ∀(i:Nat) y,ys[i]? =some y→b7 w V (λ_=>undef) 0 y (vs[i]?.getD undef)
 | [],vs,hs,hl,h,hV,hN,ys,hp=>by cases hp;exact⟨hl,by simp⟩
 |x::xs, [],hs,hl,h,hV,hN,ys,hp=>by simp at hl
 |x::xs,v::vs,hs,hl,h,hV,hN,ys,hp=>by
  unfold xx at hp
  split at hp
  ·rename_i y ys' h1 h2
   cases hp
   have hN1:ja x=true∨ ∀b,w0.heap.size≤b→V b:=by
    rcases hN with h|h
    ·simp only[List.all_cons,Bool.and_eq_true]at h;exact .inl h.1
    ·exact .inr h
   have hN2:xs.all ja=true∨ ∀b,w0.heap.size≤b→V b:=by
    rcases hN with h|h
    ·simp only[List.all_cons,Bool.and_eq_true]at h;exact .inl h.2
    ·exact .inr h
   obtain⟨k1,k2⟩:=zi (xs:=xs) (vs:=vs) hs (by simpa using hl) (λi x hi=>by simpa using h (i+1) x (by simpa using hi)) hV hN2 h2
   refine⟨by simp[k1],λi z hi=> ?_⟩
   cases i with
   |zero=>
    simp at hi
    subst hi
    exact Iy hs (by simpa using h 0 x rfl) h1 hV hN1
   |succ i=>simpa using k2 i z (by simpa using hi)
  ·cases hp
theorem KP {V:Nat→Prop} {x y:AC} {v:Value} (hs:bV w0 U σ ι a w) (h:b7 w (aE w0.heap.size U ι σ.mem) ι σ.nx x v) (hp:ee σ.mem x=some y) (hV: ∀b,aE w0.heap.size U ι σ.mem b→V b) (hN:tX x=true∨ ∀b,w0.heap.size≤b→V b):b7 w V (λ_=>undef) 0 y v:=by
 cases x with
 |clo f caps=>
  cases h with
  | @clo _ _ vs hl h=>
   simp only[ee]at hp
   split at hp
   ·rename_i ys gd
    cases hp
    obtain⟨k1,k2⟩:=zi (vs:=vs.toList) hs (by simpa using hl) h hV (by simpa[tX]using hN) gd
    exact .clo (by simpa using k1) k2
   ·cases hp
 |_=>exact Iy hs h hp hV hN
theorem M1 {V:Nat→Prop} {xs:List AC} {vs:List Value} (hs:bV w0 U σ ι a w) (h:aM (b7 w (aE w0.heap.size U ι σ.mem) ι σ.nx) xs vs) (hV: ∀b,aE w0.heap.size U ι σ.mem b→V b) (hN:xs.all tX=true∨ ∀b,w0.heap.size≤b→V b): ∀{ys:List AC},ti σ.mem xs=some ys→aM (b7 w V (λ_=>undef) 0) ys vs:=by
 induction h with
 |nil=>intro ys hp;cases hp;exact .nil
 |cons h t ih=>
  intro ys hp
  unfold ti at hp
  split at hp
  ·cases hp
   refine .cons (KP hs h ‹_› hV ?_) (ih ?_ ‹_›)
   ·rcases hN with h|h
    ·simp only[List.all_cons,Bool.and_eq_true]at h;exact .inl h.1
    ·exact .inr h
   ·rcases hN with h|h
    ·simp only[List.all_cons,Bool.and_eq_true]at h;exact .inl h.2
    ·exact .inr h
  ·cases hp
theorem vr {V:Nat→Prop} {x y:AV} {v:Value} (hs:bV w0 U σ ι a w) (h:aX w (aE w0.heap.size U ι σ.mem) ι σ.nx x v) (hp:dQ σ.mem x=some y) (hV: ∀b,aE w0.heap.size U ι σ.mem b→V b) (hN:gA x=true∨ ∀b,w0.heap.size≤b→V b):aX w V (λ_=>undef) 0 y v:=by
 cases h with
 |c h=>
  simp only[dQ]at hp
  split at hp
  ·cases hp
   exact .c (KP hs h ‹_› hV (by simpa[gA]using hN))
  ·cases hp
 |agg h=>
  simp only[dQ]at hp
  split at hp
  ·cases hp
   exact .agg (M1 hs h hV (by simpa[gA]using hN) ‹_›)
  ·cases hp
 |tup=>cases hp
 |top=>cases hp
theorem Br (hs:bV w0 U σ ι a w): ∀{xs:List Operand} {ys:List AX},kn xs=some ys→aM (aX w (aE w0.heap.size U ι σ.mem) ι σ.nx) (ys.map (·.ev σ.fr)) (xs.map a.eval)
 | [],ys,h=>by cases h;exact .nil
 |x::xs,ys,h=>by
  unfold kn at h
  split at h
  ·cases h
   exact .cons (aB ‹_› hs) (Br hs ‹_›)
  ·cases h
theorem ll {V:Nat→Prop} {xs:List AV} {vs:List Value} (hs:bV w0 U σ ι a w) (h:aM (aX w (aE w0.heap.size U ι σ.mem) ι σ.nx) xs vs) (hV: ∀b,aE w0.heap.size U ι σ.mem b→V b) (hN:xs.all gA=true∨ ∀b,w0.heap.size≤b→V b): ∀{ys:List AV},bN σ.mem xs=some ys→aM (aX w V (λ_=>undef) 0) ys vs:=by
 induction h with
 |nil=>intro ys hp;cases hp;exact .nil
 |cons h t ih=>
  intro ys hp
  unfold bN at hp
  split at hp
  ·cases hp
   refine .cons (vr hs h ‹_› hV ?_) (ih ?_ ‹_›)
   ·rcases hN with h|h
    ·simp only[List.all_cons,Bool.and_eq_true]at h;exact .inl h.1
    ·exact .inr h
   ·rcases hN with h|h
    ·simp only[List.all_cons,Bool.and_eq_true]at h;exact .inl h.2
    ·exact .inr h
  ·cases hp
theorem vW {V V':Nat→Prop} {x:AC} {v:Value} (h:b7 w V (λ_=>undef) 0 x v) (hf:qn x=true):b7 w V' ι σ.nx x v:=by
 cases h with
 |pure h=>
  cases h with
  |val h=>exact .pure (.val h)
  |slice=>simp[qn]at hf
  |fmap=>simp[qn]at hf
 |_=>simp[qn]at hf
theorem Av {V V':Nat→Prop} {xs:List AC} {vs:List Value} (h:aM (b7 w V (λ_=>undef) 0) xs vs) (hf:xs.all qn=true):aM (b7 w V' ι σ.nx) xs vs:=by
 induction h with
 |nil=>exact .nil
 |cons h _ ih=>
  simp only[List.all_cons,Bool.and_eq_true]at hf
  exact .cons (vW h hf.1) (ih hf.2)
theorem MO {V V':Nat→Prop} {x:AV} {v:Value} (h:aX w V (λ_=>undef) 0 x v) (hf:nh x=true):aX w V' ι σ.nx x v:=by
 cases h with
 |c h=>exact .c (vW h hf)
 |agg h=>exact .agg (Av h hf)
 |tup hl h=>
  refine .tup hl λi x hi=> ?_
  have hx: ∀(xs:List AV),nh.go xs=true→ ∀(i:Nat) x,xs[i]? =some x→(∃y,x= .c y∧qn y=true)∨ ∃ys,x= .agg ys∧ys.all qn=true:=by
   intro xs
   induction xs with
   |nil=>intro _ i x hi;simp at hi
   |cons y ys ih=>
    intro hg i x hi
    cases y with
    |c y=>
     simp only[nh.go,Bool.and_eq_true]at hg
     cases i with
     |zero=>simp at hi;subst hi;exact .inl ⟨_,rfl,hg.1⟩
     |succ i=>simp at hi;exact ih hg.2 i x hi
    |agg zs=>
     simp only[nh.go,Bool.and_eq_true]at hg
     cases i with
     |zero=>simp at hi;subst hi;exact .inr ⟨_,rfl,hg.1⟩
     |succ i=>simp at hi;exact ih hg.2 i x hi
    |tup=>simp[nh.go]at hg
    |top=>simp[nh.go]at hg
  have h7:=h i x hi
  generalize (‹Array Value›.toList[i]?.getD undef)=z at h7 ⊢
  rcases hx _ (by simpa[nh]using hf) i x hi with⟨y,rfl,hy⟩|⟨ys,rfl,hy⟩
  ·cases h7 with|c h=>exact .c (vW h hy)
  ·cases h7 with|agg h=>exact .agg (Av h hy)
 |top=>simp[nh]at hf
theorem Aa {V:Nat→Prop} {N:Nat} {x:AC} {v:Value} (h:b7 w V ι N x v):gT x:=by
 cases h with
 |pure h=>
  cases h with
  |val h=>trivial
  |slice g hn hc hm=>subst hn;exact hm
  |fmap=>trivial
 |_=>trivial
theorem D8 {V:Nat→Prop} {N:Nat} {xs:List AC} {vs:List Value} (h:aM (b7 w V ι N) xs vs):nc xs:=by
 induction h with
 |nil=>trivial
 |cons h _ ih=>exact⟨Aa h,ih⟩
theorem Hh {V:Nat→Prop} {N:Nat} {x:AV} {v:Value} (h:aX w V ι N x v):gw x:=by
 cases h with
 |c h=>exact Aa h
 |agg h=>exact D8 h
 |tup hl h=>
  rename_i xs vs
  have key: ∀(xs:List AV),(∀(i:Nat) x,xs[i]? =some x→ ∃u,aX w V ι N x u)→gw.go xs:=by
   intro xs
   induction xs with
   |nil=>intro _;trivial
   |cons y ys ih=>
    intro hx
    have ht:=ih λi x hi=>hx (i+1) x (by simpa using hi)
    obtain⟨u,hu⟩:=hx 0 y rfl
    cases y with
    |c y=>cases hu with|c hu=>exact⟨Aa hu,ht⟩
    |agg zs=>cases hu with|agg hu=>exact⟨D8 hu,ht⟩
    |tup=>exact ht
    |top=>exact ht
  exact key xs λi x hi=>⟨_,h i x hi⟩
 |top=>trivial
end
open Go.RowKit
section
variable {P : Program} {o : Oper} {a : Act} {w w' w0 : World} {U : Gh} {ι : Pl} {σ : St} {next : Act → World → Prop} {Q : Exit → Act → World → Prop} {K : AV → St → Prop}
theorem De {B:Nat} {mem:List (Nat×bk)} {nm b:Nat} (h:aE B U ι mem b):aE B U ι (lz mem nm) b:=by
 refine⟨h.1,λn bx hf=> ?_⟩
 rw[ij]at hf
 by_cases e:n=nm
 ·rw[if_pos e]at hf;cases hf
 ·rw[if_neg e]at hf;exact h.2 n bx hf
theorem bV.sub (hs:bV w0 U σ ι a w) {mem:List (Nat×bk)} (h: ∀n bx,al mem n=some bx→al σ.mem n=some bx):bV w0 U {σ with mem:=mem} ι a w:=by
 have C: ∀b,b<w.heap.size→aE w0.heap.size U ι σ.mem b→aE w0.heap.size U ι mem b:= λb _ hf=>⟨hf.1,λn bx hn=>hf.2 n bx (h n bx hn)⟩
 refine⟨λt=>(hs.val t).mono C (λ_ _ _=>rfl) (λ_ _=>rfl) (Nat.le_refl _),hs.defers,λn bx hn=>hs.names _ _ (h _ _ hn),λn bx hn=> ?_,
  λn n' b1 b2 b h1 h2=>hs.apart _ _ _ _ _ (h _ _ h1) (h _ _ h2),hs.below,U.mono _ _ _ _ hs.keep C (λ_ _ _=>rfl),hs.base⟩
 exact(hs.box _ _ (h _ _ hn)).grow (Below.refl _ _) C (λ_ _=>rfl) (Nat.le_refl _) (hs.names _ _ (h _ _ hn))
theorem bV.del (hs:bV w0 U σ ι a w) (nm:Nat):bV w0 U {σ with mem:=lz σ.mem nm} ι a w:=by
 refine hs.sub λn bx hn=> ?_
 rw[ij]at hn
 by_cases e:n=nm
 ·rw[if_pos e]at hn;cases hn
 ·rw[if_neg e]at hn;exact hn
theorem IQ {x:AC} {p:PC} {v:Value} {mem':List (Nat×bk)} (hs:bV w0 U σ ι a w) (h:b7 w (aE w0.heap.size U ι σ.mem) ι σ.nx x v) (hf:Pd σ.mem x=some (p,mem')):
  bV w0 U {σ with mem:=mem'} ι a w∧co w (aE w0.heap.size U ι mem') p v∧ ∀b,aE w0.heap.size U ι σ.mem b→aE w0.heap.size U ι mem' b:=by
 cases h with
 |pure h=>cases hf;exact⟨hs,h,λ_ h=>h⟩
 |nils=>cases hf;exact⟨hs,.nil,λ_ h=>h⟩
 |tsl h=>cases hf;exact⟨hs,h,λ_ h=>h⟩
 | @ref nm hn HN=>
  simp only[Pd]at hf
  split at hf
  ·rename_i e sz rows Zh
   cases hf
   refine⟨hs.del nm, ?_,λb h=>De h⟩
   obtain⟨cells,g0,g1,g2,g3⟩:=hs.box _ _ Zh
   rcases g1.2 with⟨e1,e2⟩|⟨g,cap,cur,e1,hB,_⟩
   ·have:rows= []:=List.eq_nil_of_length_eq_zero e2
    subst this
    rw[e1]
    exact .nil
   ·have hb:bI (ι nm)=some g:=by rw[e1];rfl
    rw[e1]at g1 ⊢
    refine Bq g1 rfl (g3.mono (λb _ h=>De h) (λ_ _ _=>rfl)) ⟨.inr hB,λn bx q6 e=> ?_⟩ g2
    rw[ij]at q6
    by_cases en:n=nm
    ·rw[if_pos en]at q6;cases q6
    ·rw[if_neg en]at q6
     exact en (hs.apart _ _ _ _ _ q6 Zh e hb)
  ·cases hf
 |_=>cases hf
theorem Db: ∀{xs:List AC} {σ:St} {vs:List Value} {ps:List PC} {mem':List (Nat×bk)},bV w0 U σ ι a w→aM (b7 w (aE w0.heap.size U ι σ.mem) ι σ.nx) xs vs→DO σ.mem xs=some (ps,mem')→
  bV w0 U {σ with mem:=mem'} ι a w∧aM (co w (aE w0.heap.size U ι mem')) ps vs∧ ∀b,aE w0.heap.size U ι σ.mem b→aE w0.heap.size U ι mem' b
 |[],σ,vs,ps,mem',hs,h,hf=>by
  cases h
  cases hf
  exact⟨hs,.nil,λ_ h=>h⟩
 |x::xs,σ,vs,ps,mem',hs,h,hf=>by
  cases h with
  |cons h1 h2=>
   unfold DO at hf
   split at hf
   ·rename_i y m1 e1
    split at hf
    ·rename_i ys m2 e2
     cases hf
     obtain⟨k1,k2,k3⟩:=IQ hs h1 e1
     obtain⟨j1,j2,j3⟩:=Db (σ:={σ with mem:=m1}) k1 (h2.mono λ_ _ h=>h.mono (λb _ h=>k3 b h) (λ_ _ _=>rfl) (λ_ _=>rfl) (Nat.le_refl _)) e2
     exact⟨j1,.cons (k2.mono (λb _ h=>j3 b h) (λ_ _ _=>rfl)) j2,λb h=>j3 b (k3 b h)⟩
    ·cases hf
   ·cases hf
theorem vf {sz n:Nat}: ∀{k:Nat} {mem:List (Nat×bk)} {parts:List (Nat×Operand)} {rs:List AX} {acc:List (List PC)} {cells:Array Value} {R:List (List PC)→List (Nat×bk)→Prop},bV w0 U {σ with mem:=mem} ι a w→qh k parts=some rs→bR.bsliceFW σ sz rs mem acc R→acc.length=k→k+rs.length=n→cells.size=n*sz→
  bu w (aE w0.heap.size U ι mem) sz acc (cells.toList.take (k*sz))→ ∃cells' rows mem',Instr.fill (λi=>some (i*sz,sz)) cells (parts.map λ(i,x)=>(i,a.eval x))=some cells'∧bV w0 U {σ with mem:=mem'} ι a w∧bu w (aE w0.heap.size U ι mem') sz rows cells'.toList∧rows.length=n∧R rows mem'
 |k,mem, [],rs,acc,cells,R,hs,hp,h,hl,HP,O,hc=>by
  cases hp
  simp at HP
  subst HP
  exact⟨cells,acc,mem,rfl,hs,by rw[List.take_of_length_le (by simp;omega)]at hc;exact hc,hl,h⟩
 |k,mem,(i,x)::parts,rs,acc,cells,R,hs,hp,h,hl,HP,O,hc=>by
  unfold qh at hp
  split at hp
  ·rename_i ZM
   subst ZM
   split at hp
   ·rename_i y ys h2 h3
    cases hp
    simp only[bR.bsliceFW]at h
    split at h
    ·rename_i zs e
     obtain⟨⟨r,mem1⟩,hr,gD,h⟩:=h
     have hz:=(aB h2 hs).cells e
     obtain⟨HZ,HF,hfr⟩:=Db hs hz hr
     have ZI:=hz.length
     have e0:=Array.length_toList (xs:=(a.eval x).cells)
     have e00:=Array.length_toList (xs:=cells)
     simp only[List.length_cons]at HP
     have hL:i*sz+sz≤n*sz:=by
      have:(i+1)*sz≤n*sz:=Nat.mul_le_mul_right _ (by omega)
      rw[Nat.succ_mul]at this
      exact this
     have ZN:(over cells.toList (i*sz) (a.eval x).cells.toList).length=cells.toList.length:=xF (by simp;omega)
     obtain⟨cells',rows,mem',hf,h3',h4,h5,hR⟩:=vf (n:=n) (cells:=(over cells.toList (i*sz) (a.eval x).cells.toList).toArray) HZ h3 h (by simp[hl]) (by omega) (by simp only[List.size_toArray,ZN,Array.length_toList,O]) (by
      have e1:(over cells.toList (i*sz) (a.eval x).cells.toList).take ((i+1)*sz)=cells.toList.take (i*sz)++(a.eval x).cells.toList:=by
       unfold over
       rw[List.append_assoc,Nat.succ_mul]
       have e2:(cells.toList.take (i*sz)).length=i*sz:=by simp;omega
       rw[List.take_append,e2,List.take_of_length_le (by omega),Nat.add_sub_cancel_left,List.take_append,List.take_of_length_le (l:=(a.eval x).cells.toList) (by simp;omega)]
       have e3:sz-(a.eval x).cells.toList.length=0:=by simp;omega
       rw[e3]
       simp
      simp only[List.toList_toArray]at e1 ⊢
      rw[e1]
      exact(hc.mono (λb _ h=>hfr b h) (λ_ _ _=>rfl)).append (bu.one HF (by have:=HF.length;omega)))
     refine⟨cells',rows,mem', ?_,h3',h4,h5,hR⟩
     rw[List.map_cons,vX rfl (by omega) (by omega)]
     exact hf
    ·exact h.elim
   ·cases hp
  ·cases hp
theorem JX {t:TypeId} {n e sz bytes:Nat} {parts:Array (Nat×Operand)} {rs:List AX} {z:Value} (ho:o.op= .buildSlice t n parts) (ht:eP P t=some (e,sz,bytes)) (hr:qh 0 parts.toList=some rs) (hl:rs.length=n) (hm:n*sz≤16777216) (h0:0<sz) (hz:eM P e=some z) (hF:z.cells.size=sz)
  (h:bR P (.bsliceF sz rs) σ K) (hs:bV w0 U σ ι a w) (hn:fL w0 U a o K next):o.wp P a w next Q:=by
 simp only[bR]at h
 unfold eP eM at*
 split at ht
 ·rename_i e' hd
  cases hi:P.info? e' with
  |none=>simp[hi]at ht
  |some inf=>
   simp[hi]at ht
   obtain⟨rfl,rfl,_⟩:=ht
   simp[hi]at hz
   let base:Array Value:=(Array.range (n*inf.size)).map (λk=>(if n*inf.size=0 then #[]else z.cells)[k%(if n*inf.size=0 then #[]else z.cells).size]!)
   have gb:base.size=n*inf.size:=by simp[base]
   obtain⟨cells',rows,mem',hf,ZB,h4,h5,hR⟩:=vf (n:=n) (cells:=base) (mem:=σ.mem) hs hr h rfl (by omega) gb (by simp;exact bu.nil)
   have hg:Below w.heap.size w (w.alloc (.cells cells' e')):=(Below.refl _ _).alloc (Nat.le_refl _) _
   have hW:co (w.alloc (.cells cells' e')) (aE w0.heap.size U ι mem') (.slice rows) (.slice (some ⟨w.heap.size,0,none⟩) rows.length rows.length):=by
    refine(h4.mono (λ_ _ h=>h) (λb hb _=>hg.block b hb)).slice (vB ZB) (Nat.le_refl _) (by have:n*1≤n*inf.size:=Nat.mul_le_mul_left _ h0;omega) λk v hk=> ?_
    rw[IX (heap_alloc_new _ _)]
    exact hk
   rw[h5]at hW
   refine aG (w':=w.alloc (.cells cells' e')) ?_ (hn _ _ ι _ _ hR (ZB.grow hg) (.c (.tsl hW)))
   have hY:Instr.fill (λi=>some (i*inf.size,inf.size)) base (parts.map λ(i,x)=>(i,a.eval x)).toList=some cells':=by
    rw[Array.toList_map];exact hf
   by_cases HB:n*inf.size=0
   ·simp only[base,HB,if_true]at hY
    have e1: ¬(16777216<n*inf.size):=by omega
    simp[execOp,ho,Instr.buildSlice,run_underlying hd,sizeOf,typeInfo,hi,HB,newRow]
    simp[Array.range_zero']at hY
    simp[hY,Array.range_zero']
    try rfl
   ·simp only[base,HB,if_false]at hY
    have e1: ¬(16777216<n*inf.size):=by omega
    simp[execOp,ho,Instr.buildSlice,run_underlying hd,sizeOf,typeInfo,hi,HB,newRow,zeroValue,hz,e1]
    simp at hY
    simp[hY]
    try rfl
 ·cases ht
theorem OZ {t:TypeId} {kt:KT} {n:Option Nat} (ho:o.op= .makeMap t none) (h:bR P (.mkmap kt n) σ K) (hs:bV w0 U σ ι a w) (hn:fL w0 U a o K next):o.wp P a w next Q:=by
 simp only[bR]at h
 have hg:Below w.heap.size w (w.alloc (.map #[] 0)):=(Below.refl _ _).alloc (Nat.le_refl _) _
 obtain⟨ι',h1,h2,h3,h4⟩:=hs.newBox (pv:= .map (some w.heap.size)) (bx:= .map kt n []) hg (λb hb=>by simp[bI]at hb;omega) (λι' e1 e2 C=>
  ⟨w.heap.size, #[],0,e2,hs.below.size,(MapKept.heap_alloc w _).1,.nil⟩)
 exact aG (u:= .map (some w.heap.size)) (w':=w.alloc (.map #[] 0)) (by simp[execOp,ho,run_makeMap]) (hn _ _ ι' _ _ h h1 (.c (.mref (Nat.lt_succ_self _) h2)))
def KT.desc:KT→TypeDesc
 | .int k=> .int k
 | .str=> .string
 | .bool=> .bool
theorem qR {t:TypeId} {kt:KT} {e:TypeId} {n:Option Nat} (h:qP P t=some (kt,e,n)): ∃k,P.underlying t=some (.map k e)∧P.underlying k=some kt.desc∧kF P e=some n:=by
 unfold qP at h
 split at h
 ·rename_i k e' hd
  split at h<;>cases h
  ·exact⟨k,hd,‹_›,‹_›⟩
  ·exact⟨k,hd,‹_›,‹_›⟩
  ·exact⟨k,hd,‹_›,‹_›⟩
 ·cases h
theorem zG {kt:KT} {kv:Value} {mk:MK} (h:FY kt kv=some mk):MapKept.IsKey kt.desc kv∧mk.val kt=some kv:=by
 unfold FY at h
 split at h
 ·split at h
  ·rename_i e
   cases h
   subst e
   exact⟨rfl,rfl⟩
  ·cases h
 ·cases h
  exact⟨trivial,rfl⟩
 ·cases h
  exact⟨trivial,rfl⟩
 ·cases h
theorem Rp {kt:KT} {kv:Value} {mk:MK} (h:mk.val kt=some kv):MapKept.IsKey kt.desc kv:=by
 unfold MK.val at h
 split at h<;>cases h
 ·rfl
 ·trivial
 ·trivial
theorem RD {kt:KT} {kv:Value} {mk mk':MK} (h:mk.val kt=some kv) (h':mk'.val kt=some kv):mk=mk':=by
 unfold MK.val at h h'
 split at h<;>cases h<;>split at h'<;>simp_all
theorem wB {V:Nat→Prop} {N:Nat} {kt:KT} {n:Option Nat} {kv:Value} {mk:MK} (hk:MapKept.IsKey kt.desc kv) (hv:mk.val kt=some kv): ∀{ents:List (MK×List AC)} {es:List MapEntry} {i:Nat},aM (jd w V ι N kt n) ents es→
  (jb ents mk=none∧Instr.findNow kt.desc kv es i=some none)∨ ∃j ps e,jb ents mk=some ps∧Instr.findNow kt.desc kv es i=some (some (i+j,e.val))∧es[j]? =some e∧e.key=kv∧ents[j]? =some (mk,ps)∧ ∀ps',x9 ents mk ps'=ents.set j (mk,ps')
 | [],es,i,h=>by cases h;exact .inl ⟨rfl,rfl⟩
 |(mk0,ps0)::ents,es,i,h=>by
  cases h with
  | @cons _ e _ es h1 h2=>
   obtain⟨r,hr,hJ⟩:=MapKept.sameNow_of_keys hk (Rp h1.1)
   by_cases hm:mk0=mk
   ·subst hm
    have Zi:e.key=kv:=by have:=h1.1.symm.trans hv;simpa using this
    cases r with
    |false=>exact absurd (hJ.2 Zi.symm) (by simp)
    |true=>exact .inr ⟨0,ps0,e,by simp[jb],by simp[Instr.findNow,hr],rfl,Zi,rfl,λps'=>by simp[x9]⟩
   ·cases r with
    |true=>
     have:=hJ.1 rfl
     exact absurd (RD (this▸h1.1) hv) hm
    |false=>
     rcases wB hk hv (i:=i+1) h2 with⟨k1,k2⟩|⟨j,ps,e',k1,k2,k3,k4,k5,k6⟩
     ·exact .inl ⟨by simp[jb,hm,k1],by simp[Instr.findNow,hr,k2]⟩
     ·exact .inr ⟨j+1,ps,e',by simp[jb,hm,k1],by simp[Instr.findNow,hr,k2];omega,by simpa using k3,k4,by simpa using k5,λps'=>by simp[x9,hm,k6]⟩
theorem Id {mk:MK} {ps:List AC}: ∀{ents:List (MK×List AC)},jb ents mk=none→x9 ents mk ps=ents++ [(mk,ps)]
 | [],_=>rfl
 |(k,v)::r,h=>by
  simp only[jb]at h
  by_cases e:k=mk
  ·rw[if_pos e]at h;cases h
  ·rw[if_neg e]at h
   simp[x9,e,Id h]
theorem UD {V:Nat→Prop} {N:Nat} {x y:AV} {u v:Value} (hx:aX w V ι N x u) (hy:aX w V ι N y v):aX w V ι N (.tup [x,y]) (.tuple #[u,v]):=by
 refine .tup rfl λi z hi=> ?_
 cases i with
 |zero=>simp at hi;subst hi;exact hx
 |succ i=>
  cases i with
  |zero=>simp at hi;subst hi;exact hy
  |succ i=>simp at hi
theorem ve {t e:TypeId} {kt:KT} {n:Option Nat} {ok:Bool} {x y:Operand} {z:Value} {zs:List AC} {b clock:Nat} {es:Array MapEntry} {ents:List (MK×List AC)} {kv:Value} {mk:MK} (ho:o.op= .lookup t x y ok) (ht:qP P t=some (kt,e,n)) (hz:eM P e=some z)
  (q7:aX w (aE w0.heap.size U ι σ.mem) ι σ.nx (gx n zs) z) (hu:a.eval x= .map (some b)) (e2:a.eval y=kv) (gt:FY kt kv=some mk) (k3:w.heap[b]? =some (.map es clock)) (k4:aM (jd w (aE w0.heap.size U ι σ.mem) ι σ.nx kt n) ents es.toList)
  (h: @sZ _ (jb ents mk) ⟨λps=>K (if ok=true then .tup [gx n ps,.c (.pure (.val (.bool true)))]else gx n ps) σ⟩ ⟨K (if ok=true then .tup [gx n zs,.c (.pure (.val (.bool false)))]else gx n zs) σ⟩) (hs:bV w0 U σ ι a w) (hn:fL w0 U a o K next):o.wp P a w next Q:=by
 obtain⟨kty,g1,g2,g3⟩:=qR ht
 obtain⟨q1,q2⟩:=zG gt
 have q8: ∀em,(Instr.checkKey em 10000 kty kv).run P w= .ok () w:= λem=>MapKept.run_checkKey g2 q1 em 9999
 have ga:(zeroValue e).run P w= .ok z w:=by
  unfold eM at hz
  cases hi:P.info? e with
  |none=>simp[hi]at hz
  |some i=>simp[hi]at hz;simp[zeroValue,typeInfo,hi,hz]
 rcases wB q1 q2 (i:=0) k4 with⟨l1,l2⟩|⟨j,ps,en,l1,l2,l3,l4,l5,_⟩
 ·have g6:=MapKept.run_findKey (w:=w) g2 l2
  have hk:=h.2 l1
  refine aG (u:=if ok=true then .tuple #[z,.bool false]else z) (w':=w) ?_ (hn _ σ ι _ w hk hs ?_)
  ·cases ok<;>simp[execOp,ho,hu,e2,Instr.lookup,run_underlying g1,MapKept.run_getObj_map k3,q8,g6,ga]
  ·cases ok with
   |false=>exact q7
   |true=>exact UD q7 (iB _)
 ·have g6:=MapKept.run_findKey (w:=w) g2 l2
  have hk:=h.1 ps l1
  obtain⟨en',Zj,g8⟩:=k4.get l5
  rw[l3]at Zj
  cases Zj
  have ZF:aX w (aE w0.heap.size U ι σ.mem) ι σ.nx (gx n ps) en.val:=g8.2
  refine aG (u:=if ok=true then .tuple #[en.val,.bool true]else en.val) (w':=w) ?_ (hn _ σ ι _ w hk hs ?_)
  ·cases ok<;>simp[execOp,ho,hu,e2,Instr.lookup,run_underlying g1,MapKept.run_getObj_map k3,q8,g6]
  ·cases ok with
   |false=>exact ZF
   |true=>exact UD ZF (iB _)
theorem QZ {t e:TypeId} {kt:KT} {n:Option Nat} {ok:Bool} {x y:Operand} {m k:AX} {z:Value} {zs:List AC} (ho:o.op= .lookup t x y ok) (ht:qP P t=some (kt,e,n)) (hz:eM P e=some z) (hF:J8 n z=some zs) (hx:aL x=some m) (hy:aL y=some k)
  (h:bR P (.mget kt n zs ok m k) σ K) (hs:bV w0 U σ ι a w) (hn:fL w0 U a o K next):o.wp P a w next Q:=by
 have r1:=aB hx hs
 have r2:=aB hy hs
 have q7:aX w (aE w0.heap.size U ι σ.mem) ι σ.nx (gx n zs) z:=by
  unfold J8 at hF
  split at hF
  ·split at hF
   ·cases hF;exact .c (tF ‹_›)
   ·cases hF
  ·split at hF
   ·exact .agg (mw hF)
   ·cases hF
 generalize hu:a.eval x=u at r1
 obtain⟨kty,g1,g2,g3⟩:=qR ht
 simp only[bR]at h
 split at h
 ·rename_i kv ek
  rw[ek]at r2
  have e2:=(bo r2).1
  obtain⟨mk,gt,h⟩:=h
  obtain⟨q1,q2⟩:=zG gt
  simp only at h
  split at h
  ·rename_i nm em
   rw[em]at r1
   split at h
   ·rename_i kt' n' ents hf
    obtain⟨⟨rfl,rfl⟩,h⟩:=h
    cases r1 with
    |c r1=>cases r1 with
     | @mref _ b Z hι=>
      obtain⟨b',es,clock,k1,k2,k3,k4⟩:=hs.box _ _ hf
      rw[hι]at k1
      simp at k1
      subst k1
      exact ve ho ht hz q7 hu e2 gt k3 k4 h hs hn
   ·exact h.elim
  ·rename_i kt' n' es em
   obtain⟨⟨rfl,rfl⟩,h⟩:=h
   rw[em]at r1
   cases r1 with
   |c r1=>cases r1 with
    |pure r1=>
     have r0:=r1
     cases r1 with
     |fmap=>
      obtain⟨_,es',clock,k3,k4⟩:=Q2 (ι:=ι) (N:=σ.nx) r0
      exact ve ho ht hz q7 hu e2 gt k3 k4 h hs hn
  ·exact h.elim
 ·exact h.elim
theorem bV.setMap (hs:bV w0 U σ ι a w) {nm b:Nat} {bx0:bk} {kt:KT} {n:Option Nat} {ents:List (MK×List AC)} {es:Array MapEntry} {clock:Nat} {o0:Obj} (hf:al σ.mem nm=some bx0) (hι:ι nm= .map (some b)) (h0:w.heap[b]? =some o0)
  (ZS:aM (jd w (aE w0.heap.size U ι σ.mem) ι σ.nx kt n) ents es.toList):bV w0 U {σ with mem:=dJ σ.mem nm (.map kt n ents)} ι a {w with heap:=w.heap.setIfInBounds b (.map es clock)}:=by
 have hb:bI (ι nm)=some b:=by rw[hι];rfl
 have hB:=((hs.box _ _ hf).block hb).1
 obtain⟨s1,s2⟩:=MapKept.heap_set (o':= .map es clock) h0
 have C: ∀c,aE w0.heap.size U ι σ.mem c→aE w0.heap.size U ι (dJ σ.mem nm (.map kt n ents)) c:= λc h=>rV.2 h
 have Y: ∀c,aE w0.heap.size U ι σ.mem c→c≠b:= λc h e=>h.2 _ _ hf (by rw[hb,e])
 have hw: ∀c,c<w.heap.size→aE w0.heap.size U ι σ.mem c→({w with heap:=w.heap.setIfInBounds b (.map es clock)}:World).heap[c]? =w.heap[c]? := λc _ h=>s2 c (Y c h)
 have HA: ∀n' bx',al (dJ σ.mem nm (.map kt n ents)) n'=some bx'→ ∃c,al σ.mem n'=some c:=by
  intro n' bx' h1
  rw[aj]at h1
  by_cases e:nm=n'
  ·subst e;exact⟨_,hf⟩
  ·rw[if_neg e]at h1;exact⟨_,h1⟩
 refine⟨λt=>(hs.val t).mono (λc _ h=>C c h) hw (λ_ _=>rfl) (Nat.le_refl _),hs.defers,λn' bx' hn=> ?_,λn' bx' hn=> ?_,λn' n'' b1 b2 c h1 h2 h3 h4=> ?_,
  hs.below.trans ⟨rfl,rfl,rfl,by simp,λk hk=>s2 k (by omega)⟩,U.mono _ _ _ _ hs.keep (λc _ h=>C c h) hw,hs.base⟩
 ·obtain⟨c,hc⟩:=HA _ _ hn
  exact hs.names _ _ hc
 ·rw[aj]at hn
  by_cases e:nm=n'
  ·subst e
   rw[if_pos rfl,hf]at hn
   cases hn
   exact⟨b,es,clock,hι,hB,s1,ZS.mono λ_ _ h=>h.mono (λc _ h=>C c h) hw (λ_ _=>rfl) (Nat.le_refl _)⟩
  ·rw[if_neg e]at hn
   have hQ: ∀c,bI (ι n')=some c→c≠b:= λc hc e'=>e (hs.apart _ _ _ _ b hf hn hb (by rw[hc,e']))
   have hS:=hs.box _ _ hn
   cases bx' with
   |var xs=>
    obtain⟨b',vs,T,h1,h2,h3,h4⟩:=hS
    exact⟨b',vs,T,h1,h2,by rw[s2 _ (hQ b' (by rw[h1];rfl))];exact h3,h4.mono λ_ _ h=>h.mono (λc _ h=>C c h) hw (λ_ _=>rfl) (Nat.le_refl _)⟩
   |arr e' sz rows=>
    obtain⟨cells,h0,h1,h2,h3⟩:=hS
    refine⟨cells,h0,World.ownsRow.kept (row:=some b) h1 ⟨rfl,rfl,rfl,by simp,λk _ hk=>s2 k (λe=>hk (by rw[e]))⟩ ?_,h2,h3.mono (λc _ h=>C c h) hw⟩
    rcases h1.2 with⟨h,_⟩|⟨g,cap,cur,h,_⟩
    ·rw[h];exact .inl rfl
    ·right
     rw[h]
     intro e'
     simp[Value.ownBlock]at e'
     exact hQ g (by rw[h];rfl) e'
   |arn e' sz rows=>
    obtain⟨cells,h0,h1,h2,h3⟩:=hS
    refine⟨cells,h0,World.ownsRow.kept (row:=some b) h1 ⟨rfl,rfl,rfl,by simp,λk _ hk=>s2 k (λe=>hk (by rw[e]))⟩ ?_,h2,h3.mono (λc _ h=>C c h) hw (λ_ _=>rfl) (Nat.le_refl _)⟩
    rcases h1.2 with⟨h,_⟩|⟨g,cap,cur,h,_⟩
    ·rw[h];exact .inl rfl
    ·right
     rw[h]
     intro e'
     simp[Value.ownBlock]at e'
     exact hQ g (by rw[h];rfl) e'
   |map kt' m ents'=>
    obtain⟨b',es',clock',h1,h2,h3,h4⟩:=hS
    exact⟨b',es',clock',h1,h2,by rw[s2 _ (hQ b' (by rw[h1];rfl))];exact h3,h4.mono λ_ _ h=>h.mono (λc _ h=>C c h) hw (λ_ _=>rfl) (Nat.le_refl _)⟩
 ·obtain⟨c1,H3⟩:=HA _ _ h1
  obtain⟨c2,H7⟩:=HA _ _ h2
  exact hs.apart _ _ _ _ _ H3 H7 h3 h4
theorem aM.set {α β:Type} {R:α→β→Prop} {as:List α} {bs:List β} (h:aM R as bs) (j:Nat) {x:α} {y:β} (hr:R x y):aM R (as.set j x) (bs.set j y):=by
 induction h generalizing j with
 |nil=>exact .nil
 |cons h t ih=>
  cases j with
  |zero=>exact .cons hr t
  |succ j=>exact .cons h (ih j)
theorem Ji {n:Option Nat} {v:AV} {ys:List AC} (hm:Bg n v=some ys):gx n ys=v:=by
 unfold Bg at hm
 split at hm
 ·cases hm;rfl
 ·split at hm
  ·cases hm;rfl
  ·cases hm
 ·cases hm
theorem KY {t e:TypeId} {kt:KT} {n:Option Nat} {x y v:Operand} {m k q:AX} (ho:o.op= .mapUpdate t x y v∨o.op= .insert t x y v) (ht:qP P t=some (kt,e,n)) (hx:aL x=some m) (hy:aL y=some k) (hv:aL v=some q)
  (h:bR P (.mput kt n m k q) σ K) (hs:bV w0 U σ ι a w) (hn:fL w0 U a o K next):o.wp P a w next Q:=by
 have r1:=aB hx hs
 have r2:=aB hy hs
 have r3:=aB hv hs
 generalize hu:a.eval x=u at r1
 obtain⟨kty,g1,g2,g3⟩:=qR ht
 simp only[bR]at h
 split at h
 ·rename_i kv ek
  rw[ek]at r2
  have e2:=(bo r2).1
  obtain⟨mk,gt,h⟩:=h
  obtain⟨q1,q2⟩:=zG gt
  simp only at h
  split at h
  ·rename_i nm em
   rw[em]at r1
   obtain⟨ys,gd,h⟩:=h
   have hv3:=Ji gd
   simp only at h
   split at h
   ·rename_i kt' n' ents hf
    obtain⟨⟨rfl,rfl⟩,h⟩:=h
    cases r1 with
    |c r1=>cases r1 with
     | @mref _ b Z hι=>
      obtain⟨b',es,clock,k1,k2,k3,k4⟩:=hs.box _ _ hf
      rw[hι]at k1
      simp at k1
      subst k1
      have q8:(Instr.checkKey false 10000 kty kv).run P w= .ok () w:=MapKept.run_checkKey g2 q1 false 9999
      have g8: ∀born,jd w (aE w0.heap.size U ι σ.mem) ι σ.nx kt' n' (mk,ys) {key:=kv,val:=a.eval v,born:=born}:= λborn=>⟨q2,by show aX _ _ _ _ (gx n' ys) _;rw[hv3];exact r3⟩
      rcases wB q1 q2 (i:=0) k4 with⟨l1,l2⟩|⟨j,ps,en,l1,l2,l3,l4,l5,l6⟩
      ·have g6:=MapKept.run_findKey (w:=w) g2 l2
       rw[Id l1]at h
       refine lM (w':={w with heap:=w.heap.setIfInBounds b (.map (es.push {key:=kv,val:=a.eval v,born:=clock}) (clock+1))}) ?_ (hn _ _ ι _ _ h (hs.setMap hf hι k3 ?_) ip)
       ·rcases ho with ho|ho<;>simp[execOp,ho,hu,e2,Instr.mapUpdate,run_underlying g1,MapKept.run_getObj_map k3,q8,g6,MapKept.run_setObj_map _ k3]
       ·rw[Array.toList_push]
        exact k4.append (.cons (g8 _) .nil)
      ·have g6:=MapKept.run_findKey (w:=w) g2 l2
       rw[l6]at h
       have hj:es[j]? =some en:=by simpa using l3
       refine lM (w':={w with heap:=w.heap.setIfInBounds b (.map (es.modify j λe=>{e with key:=kv,val:=a.eval v}) clock)}) ?_ (hn _ _ ι _ _ h (hs.setMap hf hι k3 ?_) ip)
       ·rcases ho with ho|ho<;>simp[execOp,ho,hu,e2,Instr.mapUpdate,run_underlying g1,MapKept.run_getObj_map k3,q8,g6,MapKept.run_setObj_map _ k3,hj,l4,MapKept.run_keyThatStays q1]
       ·rw[Array.toList_modify,ChangeMaps.modify_eq_set _ _ _ _ l3]
        exact k4.set j (g8 _)
   ·exact h.elim
  ·exact h.elim
 ·exact h.elim
end
open Go.RowKit
section
variable {P : Program} {o : Oper} {a : Act} {w w' w0 : World} {U : Gh} {ι : Pl} {σ : St} {next : Act → World → Prop} {Q : Exit → Act → World → Prop} {K : AV → St → Prop}
theorem ui {nm:Nat} {rows:List (List PC)}: ∀{mem:List (Nat×bk)} {n:Nat},al (kJ nm rows mem) n=if n=nm then none else(al mem n).map (ub nm rows)
 | [],n=>by simp[kJ,al]
 |(m,b)::r,n=>by
  simp only[kJ]
  by_cases e:m=nm
  ·subst e
   rw[if_pos rfl,ui,bT]
   by_cases e':m=n
   ·subst e';simp
   ·simp[e']
  ·rw[if_neg e,bT,ui,bT]
   by_cases e':m=n
   ·subst e'
    simp[e]
   ·simp[e']
theorem DX {nm:Nat} {rows:List (List PC)}: ∀{fr:List (Nat×AV)} {t:Nat},bc (vm nm rows fr) t=nG nm rows (bc fr t)
 | [],t=>rfl
 |(s,v)::r,t=>by
  simp only[vm,bc]
  by_cases e:s=t
  ·rw[if_pos e,if_pos e]
  ·rw[if_neg e,if_neg e,DX]
theorem b7.frz {V:Nat→Prop} {N nm:Nat} {rows:List (List PC)} {x:AC} {v:Value} (h:b7 w V ι N x v) (hr:co w V (.slice rows) (ι nm)):b7 w V ι N (gS nm rows x) v:=by
 cases x with
 |ref m=>
  have e:v=ι m:=by cases h;rfl
  simp only[gS]
  by_cases en:m=nm
  ·subst en
   rw[if_pos rfl,e]
   exact .pure hr
  ·rw[if_neg en];exact h
 |_=>exact h
theorem H6 {V:Nat→Prop} {N nm:Nat} {rows:List (List PC)} {xs:List AC} {vs:List Value} (h:aM (b7 w V ι N) xs vs) (hr:co w V (.slice rows) (ι nm)):aM (b7 w V ι N) (xs.map (gS nm rows)) vs:=by
 induction h with
 |nil=>exact .nil
 |cons h _ ih=>exact .cons (h.frz hr) ih
theorem aX.frz {V:Nat→Prop} {N nm:Nat} {rows:List (List PC)} {x:AV} {v:Value} (h:aX w V ι N x v) (hr:co w V (.slice rows) (ι nm)):aX w V ι N (nG nm rows x) v:=by
 cases h with
 |c h=>exact .c (h.frz hr)
 |agg h=>exact .agg (H6 h hr)
 |tup hl h=>exact .tup hl h
 |top=>exact .top
theorem Ow {nm:Nat} {rows:List (List PC)} {n:Option Nat} {ps:List AC}:gx n (ps.map (gS nm rows))=nG nm rows (gx n ps):=by
 cases n with
 |none=>cases ps<;>rfl
 |some k=>rfl
theorem N8 {V:Nat→Prop} {N nm:Nat} {rows:List (List PC)} {kt:KT} {n:Option Nat} {xs:List (MK×List AC)} {es:List MapEntry} (h:aM (jd w V ι N kt n) xs es) (hr:co w V (.slice rows) (ι nm)):aM (jd w V ι N kt n) (xs.map λx=>(x.1,x.2.map (gS nm rows))) es:=by
 induction h with
 |nil=>exact .nil
 |cons h _ ih=>exact .cons ⟨h.1,by show aX _ _ _ _ (gx n (List.map _ _)) _;rw[Ow];exact h.2.frz hr⟩ ih
theorem Mo {V:Nat→Prop} {N nm sz:Nat} {rows:List (List PC)} {rs:List (List AC)} {cells:List Value} (h:gF w V ι N sz rs cells) (hr:co w V (.slice rows) (ι nm)):gF w V ι N sz (rs.map λr=>r.map (gS nm rows)) cells:=by
 refine⟨by rw[List.length_map];exact h.1,λi row hi=> ?_,λi row j p hi hj=> ?_⟩
 ·rw[List.getElem?_map,Option.map_eq_some_iff]at hi
  obtain⟨r,hi,rfl⟩:=hi
  rw[List.length_map]
  exact h.2.1 _ _ hi
 ·rw[List.getElem?_map,Option.map_eq_some_iff]at hi
  obtain⟨r,hi,rfl⟩:=hi
  rw[List.getElem?_map,Option.map_eq_some_iff]at hj
  obtain⟨x,hj,rfl⟩:=hj
  obtain⟨v,hv,hp⟩:=h.2.2 i r j x hi hj
  exact⟨v,hv,hp.frz hr⟩
theorem bV.frz (hs:bV w0 U σ ι a w) {nm e sz:Nat} {rows:List (List PC)} (hf:al σ.mem nm=some (.arr e sz rows)):bV w0 U (σ.frz nm rows) ι a w∧co w (aE w0.heap.size U ι (σ.frz nm rows).mem) (.slice rows) (ι nm)∧ ∀b,aE w0.heap.size U ι σ.mem b→aE w0.heap.size U ι (σ.frz nm rows).mem b:=by
 have HN: ∃a n c,ι nm= .slice a n c:=by
  obtain⟨cells,g0,g1,g2,g3⟩:=hs.box _ _ hf
  rcases g1.2 with⟨e1,e2⟩|⟨g,cap,cur,e1,hB,_⟩
  ·exact⟨_,_,_,e1⟩
  ·exact⟨_,_,_,e1⟩
 obtain⟨HZ,hr1,Zk⟩:=IQ (x:= .ref nm) (p:= .slice rows) (mem':=lz σ.mem nm) hs (.ref (hs.names _ _ hf) HN) (by simp[Pd,hf])
 have hM: ∀n bx,al (kJ nm rows σ.mem) n=some bx→ ∃bx',al (lz σ.mem nm) n=some bx'∧bx=ub nm rows bx':=by
  intro n bx h
  rw[ui]at h
  rw[ij]
  by_cases en:n=nm
  ·rw[if_pos en]at h;cases h
  ·rw[if_neg en]at h ⊢
   cases hq:al σ.mem n with
   |none=>simp[hq]at h
   |some b=>simp[hq]at h;exact⟨b,rfl,h.symm⟩
 have H0: ∀b,aE w0.heap.size U ι (lz σ.mem nm) b→aE w0.heap.size U ι (kJ nm rows σ.mem) b:= λb h=>⟨h.1,λn bx hn=>by
  obtain⟨bx',h1,_⟩:=hM n bx hn
  exact h.2 n bx' h1⟩
 have g7:co w (aE w0.heap.size U ι (kJ nm rows σ.mem)) (.slice rows) (ι nm):=hr1.mono (λb _ h=>H0 b h) (λ_ _ _=>rfl)
 refine⟨⟨λt=> ?_,hs.defers,λn bx hn=> ?_,λn bx hn=> ?_,λn n' b1 b2 b h1 h2 h3 h4=> ?_,hs.below, ?_,hs.base⟩,g7,λb h=>H0 b (Zk b h)⟩
 ·show aX w _ ι σ.nx (bc (vm nm rows σ.fr) t) _
  rw[DX]
  exact((HZ.val t).mono (λb _ h=>H0 b h) (λ_ _ _=>rfl) (λ_ _=>rfl) (Nat.le_refl _)).frz g7
 ·obtain⟨bx',h1,_⟩:=hM n bx hn
  exact HZ.names _ _ h1
 ·obtain⟨bx',h1,rfl⟩:=hM n bx hn
  have h2:=(HZ.box _ _ h1).grow (Below.refl _ _) (λb _ h=>H0 b h) (λ_ _=>rfl) (Nat.le_refl _) (HZ.names _ _ h1)
  cases bx' with
  |var xs=>
   obtain⟨b,vs,T,k1,k2,k3,k4⟩:=h2
   exact⟨b,vs,T,k1,k2,k3,H6 k4 g7⟩
  |arr e sz rows=>exact h2
  |arn e sz rs=>
   obtain⟨cells,k0,k1,k2,k3⟩:=h2
   exact⟨cells,k0,by rw[List.length_map];exact k1,by rw[List.length_map];exact k2,Mo k3 g7⟩
  |map kt n ents=>
   obtain⟨b,es,clock,k1,k2,k3,k4⟩:=h2
   exact⟨b,es,clock,k1,k2,k3,N8 k4 g7⟩
 ·obtain⟨_,g1,_⟩:=hM _ _ h1
  obtain⟨_,g2,_⟩:=hM _ _ h2
  exact HZ.apart _ _ _ _ _ g1 g2 h3 h4
 ·exact U.mono _ _ _ _ HZ.keep (λb _ h=>H0 b h) (λ_ _ _=>rfl)
theorem rH: ∀{l:List Nat} {σ σ':St} {args args':List AV} {us:List Value},bV w0 U σ ι a w→aM (aX w (aE w0.heap.size U ι σ.mem) ι σ.nx) args us→aQ l σ args=(σ',args')→
  bV w0 U σ' ι a w∧aM (aX w (aE w0.heap.size U ι σ'.mem) ι σ'.nx) args' us
 | [],σ,σ',args,args',us,hs,hr,h=>by cases h;exact⟨hs,hr⟩
 |nm::l,σ,σ',args,args',us,hs,hr,h=>by
  simp only[aQ]at h
  split at h
  ·rename_i hf
   obtain⟨h1,h2,h3⟩:=hs.frz hf
   refine rH h1 ?_ h
   clear h
   generalize hl:us=us' at*
   clear hl
   induction hr with
   |nil=>exact .nil
   |cons hr _ ih=>exact .cons ((hr.mono (λb _ h=>h3 b h) (λ_ _ _=>rfl) (λ_ _=>rfl) (Nat.le_refl _)).frz h2) ih
  ·cases h;exact⟨hs,hr⟩
def iq:ET→Value→Prop
 | .int k,.int k' _=>k'=k
 | .str,.string _=>True
 | .bool,.bool _=>True
 |_,_=>False
theorem rM: ∀{l:List ET} {xs ys:List AC},wY l xs ys→ ∃us vs,xs=us.map (λu=> .pure (.val u))∧ys=vs.map (λu=> .pure (.val u))∧aM iq l us∧aM iq l vs∧(I4 xs ys↔us=vs)
 |[],xs,ys,h=>by
  unfold wY at h
  split at h
  ·exact⟨[], [],rfl,rfl,.nil,.nil,by simp[I4]⟩
  ·contradiction
  ·contradiction
  ·contradiction
  ·exact h.elim
 |e::l,xs,ys,h=>by
  unfold wY at h
  split at h
  ·contradiction
  ·rename_i k l' k1 a xs' k2 b ys' e
   cases e
   obtain⟨rfl,rfl,h⟩:=h
   obtain⟨us,vs,rfl,rfl,h1,h2,h3⟩:=rM h
   exact⟨_::us,_::vs,rfl,rfl,.cons rfl h1,.cons rfl h2,by simp[I4,h3]⟩
  ·rename_i l' a xs' b ys' e
   cases e
   obtain⟨us,vs,rfl,rfl,h1,h2,h3⟩:=rM h
   exact⟨_::us,_::vs,rfl,rfl,.cons trivial h1,.cons trivial h2,by simp[I4,h3]⟩
  ·rename_i l' a xs' b ys' e
   cases e
   obtain⟨us,vs,rfl,rfl,h1,h2,h3⟩:=rM h
   exact⟨_::us,_::vs,rfl,rfl,.cons trivial h1,.cons trivial h2,by simp[I4,h3]⟩
  ·exact h.elim
def MD (P:Program) (t:TypeId) (us:List Value):Option Value:=match P.underlying t with
 |some (.struct _)=>some (.agg us.toArray)
 |_=>match us with
  | [u]=>some u
  |_=>none
def Wb (P:Program) (dd:Nat) (t:TypeId) (l:List ET):Prop:= ∀(w:World) us vs a b,MD P t us=some a→MD P t vs=some b→aM iq l us→aM iq l vs→ ∃r:Bool,(Op.equalIn dd t a b).run P w= .ok r w∧(r=true↔us=vs)
theorem KC {n:Nat} {t:TypeId} {l:List ET} (h:Io P n t=some l) (hi:(P.info? t).map (·.size)=some l.length) {xs:Array Value} {off:Nat} (hl:off+l.length≤xs.size): ∃a,(part t xs off).run P w= .ok a w∧MD P t ((xs.toList.drop off).take l.length)=some a:=by
 cases n with
 |zero=>cases h
 |succ n=>
  have hD: ∀(G3:l.length=1),∃u,xs[off]? =some u∧(xs.toList.drop off).take l.length= [u]:=by
   intro G3
   have H:off<xs.size:=by omega
   refine⟨xs[off],Array.getElem?_eq_getElem H, ?_⟩
   rw[G3,List.drop_eq_getElem_cons (by simpa using H)]
   simp
  unfold Io at h
  split at h
  ·rename_i k hu
   cases h
   obtain⟨u,h1,h2⟩:=hD rfl
   exact⟨u,run_part_plain w (by simp[Program.plainKey,hu]) h1,by rw[h2];simp[MD,hu]⟩
  ·rename_i hu
   cases h
   obtain⟨u,h1,h2⟩:=hD rfl
   exact⟨u,run_part_plain w (by simp[Program.plainKey,hu]) h1,by rw[h2];simp[MD,hu]⟩
  ·rename_i hu
   cases h
   obtain⟨u,h1,h2⟩:=hD rfl
   exact⟨u,run_part_plain w (by simp[Program.plainKey,hu]) h1,by rw[h2];simp[MD,hu]⟩
  ·rename_i fs hu
   obtain⟨i,Zl⟩:=info_of_underlying hu
   rw[Zl]at hi
   simp at hi
   refine⟨.agg (xs.extract off (off+l.length)),by simp[part,isAgg,run_underlying hu,sizeOf,typeInfo,Zl,hi], ?_⟩
   simp only[MD,hu]
   congr 2
   apply Array.ext'
   simp[List.take_drop]
  ·cases h
theorem DM {n dd:Nat} (ih: ∀t l,Io P n t=some l→Wb P dd t l) (xs ys:Array Value): ∀{fs:List Field} {off:Nat} {l:List ET},off≤xs.size→off≤ys.size→EG P (Io P n) fs off=some l→aM iq l (xs.toList.drop off)→aM iq l (ys.toList.drop off)→
  ∃r:Bool,(Op.eqFields dd xs ys fs).run P w= .ok r w∧(r=true↔xs.toList.drop off=ys.toList.drop off)
 |[],off,l,ox,oy,h,hx,hy=>by
  cases h
  cases hx':xs.toList.drop off with
  |cons=>rw[hx']at hx;cases hx
  |nil=>
   cases hy':ys.toList.drop off with
   |cons=>rw[hy']at hy;cases hy
   |nil=>exact⟨true,by simp[Op.eqFields],by simp⟩
 |fd::fs,off,l,ox,oy,h,hx,hy=>by
  unfold EG at h
  split at h
  ·cases h
  ·rename_i Zm
   have HQ : fd.name ≠ "_" := λe => Zm (.inl e)
   have Zn:fd.offset=off:=Classical.byContradiction λe=>Zm (.inr e)
   split at h
   ·rename_i l1 G3
    split at h
    ·rename_i J
     simp only[Option.map_eq_some_iff]at h
     obtain⟨l2,h2,rfl⟩:=h
     have lx:=hx.length
     have ly:=hy.length
     simp only[List.length_append,List.length_drop,Array.length_toList]at lx ly
     obtain⟨a,pa,va⟩:=KC (w:=w) G3 J (xs:=xs) (off:=off) (by omega)
     obtain⟨b,pb,vb⟩:=KC (w:=w) G3 J (xs:=ys) (off:=off) (by omega)
     have tk: ∀{zs:List Value},aM iq (l1++l2) zs→aM iq l1 (zs.take l1.length)∧aM iq l2 (zs.drop l1.length):= λhz=>by
      have h1:=hz.take l1.length
      have h2:=hz.drop l1.length
      simp only[List.take_left,List.drop_left]at h1 h2
      exact⟨h1,h2⟩
     obtain⟨r,hr,hJ⟩:=ih _ _ G3 w _ _ a b va vb (tk hx).1 (tk hy).1
     obtain⟨r2,g7,ZT⟩:=DM ih xs ys (by omega) (by omega) h2 (by rw[←List.drop_drop];exact(tk hx).2) (by rw[←List.drop_drop];exact(tk hy).2)
     have key:(xs.toList.drop off=ys.toList.drop off)↔((xs.toList.drop off).take l1.length=(ys.toList.drop off).take l1.length∧xs.toList.drop (off+l1.length)=ys.toList.drop (off+l1.length)):=by
      constructor
      ·intro e
       rw[e,←List.drop_drop,←List.drop_drop,e]
       exact⟨rfl,rfl⟩
      ·rintro⟨e1,e2⟩
       rw[←List.take_append_drop l1.length (xs.toList.drop off),←List.take_append_drop l1.length (ys.toList.drop off),List.drop_drop,List.drop_drop,e1,e2]
     simp only[Op.eqFields,HQ,Zn,ne_eq,not_false_eq_true,if_true,Sem.run_bind,pa,pb,hr,Result.andThen_ok]
     cases r
     ·exact⟨false,by simp,by rw[key];simp;intro e;exact absurd (hJ.2 e) (by simp)⟩
     ·refine⟨r2,by simpa using g7, ?_⟩
      rw[key,ZT]
      simp[hJ.1 rfl]
    ·cases h
   ·cases h
theorem zv: ∀{n d:Nat} {t:TypeId} {l:List ET},Io P n t=some l→Wb P (d+n) t l
 |0,d,t,l,h=>by cases h
 |n+1,d,t,l,h=>by
  intro w us vs a b ha hb hx hy
  unfold Io at h
  split at h
  ·rename_i k hu
   cases h
   cases hx with|cons h1 t1=>cases t1;cases hy with|cons h2 t2=>
    cases t2
    simp only[MD,hu,Option.some.injEq]at ha hb
    subst ha;subst hb
    rename_i u v
    cases u<;>simp[iq]at h1
    cases v<;>simp[iq]at h2
    subst h1;subst h2
    exact⟨_,run_equalIn_int w (d+n) t _ _ _ _ hu,by simp⟩
  ·rename_i hu
   cases h
   cases hx with|cons h1 t1=>cases t1;cases hy with|cons h2 t2=>
    cases t2
    simp only[MD,hu,Option.some.injEq]at ha hb
    subst ha;subst hb
    rename_i u v
    cases u<;>simp[iq]at h1
    cases v<;>simp[iq]at h2
    refine⟨_,run_equalIn_string w (d+n) t _ _ hu, ?_⟩
    rename_i s s'
    obtain⟨⟨s⟩⟩:=s
    obtain⟨⟨s'⟩⟩:=s'
    simp[ByteArray.toList_eq]
  ·rename_i hu
   cases h
   cases hx with|cons h1 t1=>cases t1;cases hy with|cons h2 t2=>
    cases t2
    simp only[MD,hu,Option.some.injEq]at ha hb
    subst ha;subst hb
    rename_i u v
    cases u<;>simp[iq]at h1
    cases v<;>simp[iq]at h2
    exact⟨_,run_equalIn_bool' w (d+n) t _ _ hu,by simp⟩
  ·rename_i fs hu
   split at h
   ·cases h
   ·rename_i q9
    simp only[MD,hu,Option.some.injEq]at ha hb
    subst ha;subst hb
    have Zo:P.fieldsOf t=fs:=by simp[Program.fieldsOf,hu]
    obtain⟨r,hr,hJ⟩:=DM (w:=w) (dd:=d+n) (λt l h=>zv h) us.toArray vs.toArray (Nat.zero_le _) (Nat.zero_le _) h (by simpa using hx) (by simpa using hy)
    refine⟨r, ?_,by simpa using hJ⟩
    rw[show d+(n+1)=(d+n)+1 from rfl,run_equalIn_struct w (d+n) t _ _ (by rw[Zo];exact hu) (by simpa using q9),Zo]
    exact hr
  ·cases h
theorem oQ {V:Nat→Prop} {N:Nat}: ∀{us:List Value} {vs:List Value},aM (b7 w V ι N) (us.map λu=> .pure (.val u)) vs→vs=us
 | [],vs,h=>by cases h;rfl
 |u::us,vs,h=>by
  cases h with
  |cons h1 t=>
   cases h1 with
   |pure h1=>cases h1 with
    |val=>rw[oQ t]
theorem Ny {op:BinOp} {t t':TypeId} {x y:Operand} {p q:AX} {neg:Bool} {l:List ET} (H1:(op= .eql∧neg=false)∨(op= .neq∧neg=true)) (q9:vM P t=true) (hl:K8 P t=some l) (ho:o.op= .binOp op t x y t') (hx:aL x=some p) (hy:aL y=some q)
  (h:bR P (.eqs neg l p q) σ K) (hs:bV w0 U σ ι a w) (hn:fL w0 U a o K next):o.wp P a w next Q:=by
 have r1:=aB hx hs
 have r2:=aB hy hs
 simp only[bR]at h
 split at h
 ·rename_i xs ys e e'
  rw[e]at r1
  rw[e']at r2
  obtain⟨hk,h⟩:=h
  obtain⟨us,vs,rfl,rfl,f1,f2,f3⟩:=rM hk
  generalize hu:a.eval x=u at r1
  generalize hv:a.eval y=v at r2
  cases r1 with
  | @agg _ cu r1=>
   cases r2 with
   | @agg _ cv r2=>
    have e1:=oQ r1
    have e2:=oQ r2
    obtain rfl:cu=us.toArray:=by apply Array.ext';simpa using e1
    obtain rfl:cv=vs.toArray:=by apply Array.ext';simpa using e2
    unfold K8 at hl
    split at hl
    ·cases hl
    ·rename_i ZH
     unfold vM at q9
     split at q9
     ·rename_i fs hT
      obtain⟨r,hr,hJ⟩:=zv (d:=9994) hl w us vs (.agg us.toArray) (.agg vs.toArray) (by simp[MD,hT]) (by simp[MD,hT]) f1 f2
      have Zd:(Op.equal t (.agg us.toArray) (.agg vs.toArray)).run P w= .ok r w:=hr
      have Zp:wA (I4 (us.map λu=> .pure (.val u)) (vs.map λu=> .pure (.val u)))=r:=by
       unfold wA
       cases r
       ·exact @decide_eq_false _ (Classical.propDecidable _) (λhp=>by have:=hJ.2 (f3.1 hp);cases this)
       ·exact @decide_eq_true _ (Classical.propDecidable _) (f3.2 (hJ.1 rfl))
      rw[Zp]at h
      have hg:(eqGuard op t x y (.agg us.toArray) (.agg vs.toArray)).run P w= .ok () w:=by
       unfold eqGuard
       cases op<;>simp[ZH]
      refine aG (u:= .bool (r !=neg)) (w':=w) ?_ (hn _ σ ι _ w h hs (iB _))
      simp only[execOp,ho,hu,hv]
      rw[Sem.run_bind,Sem.run_bind,hg]
      rcases H1 with⟨rfl,rfl⟩|⟨rfl,rfl⟩<;>simp[binOp,Zd]
     ·cases q9
 ·exact h.elim
theorem Qq {f:Operand} {args:List Operand} {p:AX} {xs:List AX} {c:Call} (hc:c.callee= .value f) (W:c.args.toList=args) (ho:o.op= .call c) (hf:aL f=some p) (hx:kn args=some xs) {bg zg:Bool} (h:bR P (.call bg zg p xs) σ K) (hs:bV w0 U σ ι a w) (hn:fL w0 U a o K next):o.wp P a w next Q:=by
 have r1:=aB hf hs
 generalize hu:a.eval f=u at r1
 simp only[bR]at h
 split at h
 ·rename_i g caps e
  rw[e]at r1
  cases r1 with
  |c r1=>cases r1 with
   |clo hl ZG=>
    rename_i cv
    have hB:=hs.below.size
    have L:aM (aX w (aE w0.heap.size U ι σ.mem) ι σ.nx) (xs.map (·.ev σ.fr)++caps.map .c) (args.map a.eval++cv.toList):=by
     refine(Br hs hx).append (aM.of_get (by simpa using hl) λi x v hi hv=> ?_)
     rw[List.getElem?_map]at hi
     cases ec:caps[i]? with
     |none=>simp[ec]at hi
     |some y=>
      simp[ec]at hi
      subst hi
      have:=ZG i y ec
      rw[hv]at this
      exact .c this
    have qp:(args.map a.eval++cv.toList)=((args.map a.eval).toArray++cv).toList:=by simp
    rw[qp]at L
    obtain⟨l,σ',args',-,hz,h⟩:=h
    obtain⟨hs,L⟩:=rH hs L hz
    clear hz ZG hl
    revert hs L h
    generalize σ'=σ at*
    intro h hs L
    have hB:=hs.below.size
    have ZU:c.args.map a.eval=(args.map a.eval).toArray:=by rw[←W];apply Array.ext';simp
    have Q1:mz P g→(execOp a.eval o).run P w= .ok (.enter g ((args.map a.eval).toArray++cv)) w:=by
     rintro⟨fn,hfn,z1,HQ⟩
     have hb: ¬fn.body=none:=by intro e;rw[e]at z1;cases z1
     have ZC : ¬ fn.name = "runtime.NumGoroutine" := by intro e; rw [e] at HQ; simp at HQ
     simp[execOp,ho,resolve,hc,hu,Deferred.ofValue,invoke,callFunc,hfn,ZC,hb,ZU]
    have fresh: ∀{res:AV} {v:Value} {w1:World},Below w.heap.size w w1→aX w1 (λb=>w.heap.size≤b) (λ_=>undef) 0 res v→aX w1 (aE w0.heap.size U ι σ.mem) ι σ.nx res v:=by
     intro res v w1 hb hr
     refine hr.mono (λb H h=>⟨.inr (by omega),λnm bx hf e=> ?_⟩) (λ_ _ _=>rfl) (λnm Z=>by omega) (Nat.zero_le _)
     have:=((hs.box _ _ hf).block e).2
     omega
    rcases h with⟨pargs,z2,res,O,hK⟩|⟨rfl,res,mem',nx',⟨HR,hI⟩,hK⟩
    ·have HR:mz P g:=by rcases O with⟨h,_⟩|h<;>exact h.1
     unfold Oper.wp
     rw[Q1 HR]
     show Calls P g _ w _
     rcases O with⟨⟨_,hI⟩,ZV|ZD⟩|⟨_,hI⟩
     ·have z3:=hI w (λ_=>True) _ hs.glob (ll (V:= λ_=>True) hs L (λ_ _=>trivial) (.inr λ_ _=>trivial) z2)
      refine z3.mono ?_
      rintro e w1 ⟨v,rfl,hr,hb⟩
      exact hn _ σ ι _ w1 hK (hs.grow hb) (MO hr ZV)
     ·have z3:=hI w (aE w0.heap.size U ι σ.mem) _ hs.glob (ll (V:=aE w0.heap.size U ι σ.mem) hs L (λ_ h=>h) (.inl ZD) z2)
      refine z3.mono ?_
      rintro e w1 ⟨v,rfl,hr,hb⟩
      refine hn _ σ ι _ w1 hK (hs.grow hb) (hr.mono (λb H h=> ?_) (λ_ _ _=>rfl) (λnm Z=>by omega) (Nat.zero_le _))
      rcases h with h|h
      ·exact h
      ·refine⟨.inr (by omega),λnm bx hf e=> ?_⟩
       have:=((hs.box _ _ hf).block e).2
       omega
     ·have z3:=hI w (λ_=>True) _ hs.glob (ll (V:= λ_=>True) hs L (λ_ _=>trivial) (.inr λ_ _=>trivial) z2)
      refine z3.mono ?_
      rintro e w1 ⟨v,rfl,hr,hb⟩
      exact hn _ σ ι _ w1 hK (hs.grow hb) (fresh hb hr)
    ·unfold Oper.wp
     rw[Q1 HR]
     show Calls P g _ w _
     let U':Gh:=⟨U.p,ι,λw V=>U.G w V∧ ∀t,aX w V ι σ.nx (bc σ.fr t) (a.tmps.getD t undef),λw w' V V' h hU hw=>⟨U.mono w w' V V' h.1 hU hw,λt=>(h.2 t).mono hU hw (λ_ _=>rfl) (Nat.le_refl _)⟩⟩
     have ZB:bV w0 U' ⟨[],σ.mem,σ.nx,σ.nx⟩ ι {tmps:= #[],defers:= []} w:=⟨λt=> .top,⟨rfl,hs.defers.2⟩,hs.names,hs.box,hs.apart,hs.below,⟨hs.keep,hs.val⟩,⟨Nat.le_refl _,λ_ _=>rfl⟩⟩
     refine(hI w0 U' ι w _ ZB L).mono ?_
     rintro e w1 ⟨v,ι',rfl,hX,hr⟩
     have hL:σ.nx≤nx':=hX.base.1
     refine hn _ _ ι' _ w1 hK ⟨λt=> ?_,hs.defers,hX.names,hX.box,hX.apart,hX.below,hX.keep.1,⟨Nat.le_trans hs.base.1 hL,λnm Z=> ?_⟩⟩ hr
     ·exact(hX.keep.2 t).mono (λ_ _ h=>h) (λ_ _ _=>rfl) (λnm Z=>hX.base.2 nm Z) hL
     ·exact(hX.base.2 nm (Nat.lt_of_lt_of_le Z hs.base.1)).trans (hs.base.2 nm Z)
 ·exact h.elim
end
end Go.Abs
