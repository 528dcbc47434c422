import Derived.WalkKit
import Derived.WalkSpells
import Derived.Below
import Derived.Lib.Space
import Derived.MapKept
import Derived.Carry
import Derived.Laws.StructEq
import Derived.ChangeKeysEq
import Derived.DeepKeys
set_option linter.unusedVariables false
set_option linter.unusedSimpArgs false
namespace Go.Abs
open Go.RowKit
inductive KT where
 |int (k:IntKind)
 |str
 |bool
inductive MK where
 |int (n:Int)
 |str (s:List UInt8)
 |bool (b:Bool)
 deriving DecidableEq
inductive PC where
 |val (v:Value)
 |slice (rows:List (List PC))
 |fmap (kt:KT) (n:Option Nat) (ents:List (MK×List PC))
inductive AC where
 |pure (p:PC)
 |nils
 |tsl (rows:List (List PC))
 |ptr (nm off:Nat)
 |eptr (nm sz row off:Nat)
 |cptr (cells:List PC)
 |ref (nm:Nat)
 |clo (f:FuncId) (caps:List AC)
 |mref (nm:Nat)
 |top
inductive AV where
 |c (x:AC)
 |agg (xs:List AC)
 |tup (xs:List AV)
 |top
def MK.val:KT→MK→Option Value
 | .int k,.int n=>some (.int k n)
 | .str,.str s=>some (.string ⟨⟨s⟩⟩)
 | .bool,.bool b=>some (.bool b)
 |_,_=>none
def EA:KT→Value→Option MK
 | .int k,.int k' n=>if k=k' then some (.int n)else none
 | .str,.string s=>some (.str s.data.toList)
 | .bool,.bool b=>some (.bool b)
 |_,_=>none
inductive bm where
 |var (xs:List AC)
 |arr (e sz:Nat) (rows:List (List PC))
 |arn (e sz:Nat) (rows:List (List AC))
 |map (kt:KT) (n:Option Nat) (ents:List (MK×List AC))
structure St where
 fr:List (Nat×AV)
 mem:List (Nat×bm)
 nx:Nat
 base:Nat
def ry:Value→Bool
 | .bool _| .int _ _| .float _ _| .string _| .pointer none| .map none| .nilFunc| .nilIface| .func (.yield _) _ _=>true
 |_=>false
inductive aJ {α β:Type} (R:α→β→Prop):List α→List β→Prop
 |nil:aJ R [] []
 |cons {a:α} {b:β} {as:List α} {bs:List β} (h:R a b) (t:aJ R as bs):aJ R (a::as) (b::bs)
theorem aJ.length {α β:Type} {R:α→β→Prop} {as:List α} {bs:List β} (h:aJ R as bs):as.length=bs.length:=by
 induction h with
 |nil=>rfl
 |cons _ _ ih=>simp[ih]
theorem aJ.mono {α β:Type} {R S:α→β→Prop} {as:List α} {bs:List β} (h:aJ R as bs) (hs: ∀a b,R a b→S a b):aJ S as bs:=by
 induction h with
 |nil=>exact .nil
 |cons h _ ih=>exact .cons (hs _ _ h) ih
theorem aJ.get {α β:Type} {R:α→β→Prop} {as:List α} {bs:List β} (h:aJ R as bs) {i:Nat} {a:α} (ha:as[i]? =some a): ∃b,bs[i]? =some b∧R a b:=by
 induction h generalizing i with
 |nil=>simp at ha
 |cons h _ ih=>
  cases i with
  |zero=>simp at ha;subst ha;exact⟨_,rfl,h⟩
  |succ i=>simp at ha;exact ih ha
theorem aJ.of_get {α β:Type} {R:α→β→Prop}: ∀{as:List α} {bs:List β},as.length=bs.length→(∀(i:Nat) a b,as[i]? =some a→bs[i]? =some b→R a b)→aJ R as bs
 | [], [],_,_=> .nil
 |a::as,b::bs,hl,h=> .cons (h 0 a b rfl rfl) (aJ.of_get (by simpa using hl) λi x y hx hy=>h (i+1) x y hx hy)
theorem aJ.append {α β:Type} {R:α→β→Prop} {as as':List α} {bs bs':List β} (h:aJ R as bs) (h':aJ R as' bs'):aJ R (as++as') (bs++bs'):=by
 induction h with
 |nil=>exact h'
 |cons h _ ih=>exact .cons h ih
theorem aJ.drop {α β:Type} {R:α→β→Prop} {as:List α} {bs:List β} (h:aJ R as bs) (n:Nat):aJ R (as.drop n) (bs.drop n):=by
 induction h generalizing n with
 |nil=>simp;exact .nil
 |cons h t ih=>
  cases n with
  |zero=>exact .cons h t
  |succ n=>exact ih n
theorem aJ.take {α β:Type} {R:α→β→Prop} {as:List α} {bs:List β} (h:aJ R as bs) (n:Nat):aJ R (as.take n) (bs.take n):=by
 induction h generalizing n with
 |nil=>simp;exact .nil
 |cons h t ih=>
  cases n with
  |zero=>exact .nil
  |succ n=>exact .cons h (ih n)
def JL (n:Option Nat) (v:Value):List Value:=match n,v with
 |none,v=> [v]
 |some _,.agg vs=>vs.toList
 |some _,_=> []
inductive bH (w:World) (U:Nat→Prop):PC→Value→Prop
 |val {v:Value} (h:ry v=true):bH w U (.val v) v
 |slice {sz:Nat} {rows:List (List PC)} {a:Option Addr} {n c:Nat} (g:Nat→Nat→Value) (hn:n=rows.length) (hc:n≤c) (hm:n≤9223372036854775807)
   (hr: ∀(i:Nat) row,rows[i]? =some row→row.length=sz)
   (hcell: ∀(i:Nat) (row:List PC) (j:Nat) p,rows[i]? =some row→row[j]? =some p→ ∃b off,a=some ⟨b,off,none⟩∧U b∧w.cell? ⟨b,off+(i*sz+j),none⟩=some (g i j))
   (hp: ∀(i:Nat) (row:List PC) (j:Nat) p,rows[i]? =some row→row[j]? =some p→bH w U p (g i j)):bH w U (.slice rows) (.slice a n c)
 |fmap {kt:KT} {n:Option Nat} {ents:List (MK×List PC)} {b clock:Nat} {es:Array MapEntry} (hb:U b) (hm:w.heap[b]? =some (.map es clock)) (hl:ents.length=es.size)
   (hk: ∀(i:Nat) x e,ents[i]? =some x→es.toList[i]? =some e→x.1.val kt=some e.key∧(n.isSome=true→ ∃vs,e.val= .agg vs)∧x.2.length=(JL n e.val).length)
   (hp: ∀(i:Nat) x e (j:Nat) p v,ents[i]? =some x→es.toList[i]? =some e→x.2[j]? =some p→(JL n e.val)[j]? =some v→bH w U p v):bH w U (.fmap kt n ents) (.map (some b))
theorem bH.mono {w w':World} {U U':Nat→Prop} {p:PC} {v:Value} (h:bH w U p v) (hU: ∀b,b<w.heap.size→U b→U' b)
  (hw: ∀b,b<w.heap.size→U b→w'.heap[b]? =w.heap[b]?):bH w' U' p v:=by
 induction h with
 |val h=>exact .val h
 |slice g hn hc hm hr hcell hp ih=>
  refine .slice g hn hc hm hr (λi row j p h1 h2=> ?_) ih
  obtain⟨b,off,ha,hb,g7⟩:=hcell i row j p h1 h2
  have H:b<w.heap.size:=World.block_lt_of_cell? w _ g7
  exact⟨b,off,ha,hU b H hb,by rw[World.cell?_of_block (hw b H hb)];exact g7⟩
 |fmap hb hm hl hk hp ih=>
  have H:=(Array.getElem?_eq_some_iff.1 hm).1
  exact .fmap (hU _ H hb) (by rw[hw _ H hb];exact hm) hl hk ih
abbrev Pl:=Nat→Value
inductive bz (w:World) (U:Nat→Prop) (ι:Pl) (N:Nat):AC→Value→Prop
 |pure {p:PC} {v:Value} (h:bH w U p v):bz w U ι N (.pure p) v
 |nils:bz w U ι N .nils (.slice none 0 0)
 |tsl {rows:List (List PC)} {a:Option Addr} {n:Nat} (h:bH w U (.slice rows) (.slice a n n)):bz w U ι N (.tsl rows) (.slice a n n)
 |ptr {nm off b:Nat} (hn:nm<N) (h:ι nm= .pointer (some ⟨b,0,none⟩)):bz w U ι N (.ptr nm off) (.pointer (some ⟨b,off,none⟩))
 |eptr {nm sz row off b n c:Nat} (hn:nm<N) (h:ι nm= .slice (some ⟨b,0,none⟩) n c):bz w U ι N (.eptr nm sz row off) (.pointer (some ⟨b,row*sz+off,none⟩))
 |cptr {cells:List PC} {b off:Nat} (g:Nat→Value) (hcell: ∀(j:Nat) p,cells[j]? =some p→U b∧w.cell? ⟨b,off+j,none⟩=some (g j)∧bH w U p (g j)):bz w U ι N (.cptr cells) (.pointer (some ⟨b,off,none⟩))
 |ref {nm:Nat} (hn:nm<N) (h: ∃a n c,ι nm= .slice a n c):bz w U ι N (.ref nm) (ι nm)
 |clo {f:FuncId} {caps:List AC} {vs:Array Value} (hl:caps.length=vs.size) (h: ∀(i:Nat) x,caps[i]? =some x→bz w U ι N x (vs.toList[i]?.getD undef)):bz w U ι N (.clo f caps) (.func (.func f) #[] vs)
 |mref {nm b:Nat} (hn:nm<N) (h:ι nm= .map (some b)):bz w U ι N (.mref nm) (.map (some b))
 |top {v:Value} (h:v.oneCell'=true):bz w U ι N .top v
inductive aK (w:World) (U:Nat→Prop) (ι:Pl) (N:Nat):AV→Value→Prop
 |c {x:AC} {v:Value} (h:bz w U ι N x v):aK w U ι N (.c x) v
 |agg {xs:List AC} {vs:Array Value} (h:aJ (bz w U ι N) xs vs.toList):aK w U ι N (.agg xs) (.agg vs)
 |tup {xs:List AV} {vs:Array Value} (hl:xs.length=vs.size) (h: ∀(i:Nat) x,xs[i]? =some x→aK w U ι N x (vs.toList[i]?.getD undef)):aK w U ι N (.tup xs) (.tuple vs)
 |top {v:Value}:aK w U ι N .top v
inductive AX where
 |t (n:Nat)
 |k (v:AV)
inductive ET where
 |int (k:IntKind)
 |str
 |bool
inductive dV where
 |mv (x:AX)
 |pick (c a b:AX)
 |box (x:AX)
 |load (n:Option Nat) (p:AX)
 |store (n:Nat) (p v:AX)
 |bin (op:BinOp) (x y:AX)
 |eqb (neg:Bool) (x y:AX)
 |eqs (neg:Bool) (l:List ET) (x y:AX)
 |un (op:UnOp) (x:AX)
 |conv (k:IntKind) (x:AX)
 |fieldA (off:Nat) (p:AX)
 |field (off:Nat) (n:Option Nat) (x:AX)
 |idxA (sz:Nat) (x i:AX)
 |idxR (len sz:Nat) (x i:AX)
 |idxS (x i:AX)
 |nilc (x:AX)
 |build (zero:List AC) (parts:List (Nat×Nat×AX))
 |bslice (sz:Nat) (rows:List AX)
 |mkslice (e sz bytes:Nat) (zero:List PC) (l:AX)
 |slc (sz:Nat) (x:AX) (lo hi mx:Option AX)
 |slcS (x:AX) (lo hi:Option AX)
 |ext (x:AX) (i:Nat)
 |len (x:AX)
 |lenS (x:AX)
 |mm (mx:Bool) (x y:AX)
 |mm4 (x y z t:AX)
 |dead
 |fnil (neg:Bool) (x:AX)
 |snil (neg:Bool) (x:AX)
 |app (e sz bytes:Nat) (x y:AX)
 |mkfn (f:FuncId) (caps:List AX)
 |call (g z:Bool) (f:AX) (args:List AX)
 |bsliceF (sz:Nat) (rows:List AX)
 |mkmap (kt:KT) (n:Option Nat)
 |mget (kt:KT) (n:Option Nat) (zero:List AC) (ok:Bool) (m k:AX)
 |mput (kt:KT) (n:Option Nat) (m k v:AX)
 |ment (kt:KT) (n:Option Nat) (zero:List AC) (m k:AX)
 |eput (kt:KT) (n:Option Nat) (m s v:AX)
structure AG where
 dst:Option Nat
 guard:Option (Nat×Bool)
 op:dV
inductive ah where
 |skip
 |region (ops:List AG) (draw:Bool)
 |draw (gss:List (List (Bool×AG)))
 |seq (a b:ah)
 |cond (c:AX) (thn els:ah)
 |block (id:Nat) (body:ah)
 |loop (body:ah)
 |exit (id:Nat)
 |ret
 |rangeF (f:AX) (ps:List Nat) (asg body:ah)
def aL:List (Nat×AV)→Nat→AV
 | [],_=> .top
 |(m,v)::r,n=>if m=n then v else aL r n
def St.put (σ:St):Option Nat→AV→St
 |some d,v=>{σ with fr:=(d,v)::σ.fr}
 |none,_=>σ
def am:List (Nat×bm)→Nat→Option bm
 | [],_=>none
 |(m,b)::r,n=>if m=n then some b else am r n
def sV:List (Nat×bm)→Nat→List (Nat×bm)
 | [],_=> []
 |(m,b)::r,n=>if m=n then sV r n else(m,b)::sV r n
def dG:List (Nat×bm)→Nat→bm→List (Nat×bm)
 | [],_,_=> []
 |(m,b)::r,n,c=>if m=n then(m,c)::r else(m,b)::dG r n c
def AX.ev (fr:List (Nat×AV)):AX→AV
 | .t n=>aL fr n
 | .k v=>v
def AV.cells:AV→Option (List AC)
 | .c x=>some [x]
 | .agg xs=>some xs
 |_=>none
def over {α:Type} (xs:List α) (off:Nat) (ys:List α):List α:=xs.take off++ys++xs.drop (off+ys.length)
def Hr:List ET→List AC→List AC→Prop
 | [], [], []=>True
 | .int k::l,.pure (.val (.int k1 _))::xs,.pure (.val (.int k2 _))::ys=>k1=k∧k2=k∧Hr l xs ys
 | .str::l,.pure (.val (.string _))::xs,.pure (.val (.string _))::ys=>Hr l xs ys
 | .bool::l,.pure (.val (.bool _))::xs,.pure (.val (.bool _))::ys=>Hr l xs ys
 |_,_,_=>False
def NW:List AC→List AC→Prop
 | .pure (.val (.int _ a))::xs,.pure (.val (.int _ b))::ys=>a=b∧NW xs ys
 | .pure (.val (.string a))::xs,.pure (.val (.string b))::ys=>a=b∧NW xs ys
 | .pure (.val (.bool a))::xs,.pure (.val (.bool b))::ys=>a=b∧NW xs ys
 |_,_=>True
noncomputable def ni (p:Prop):Bool:= @decide p (Classical.propDecidable p)
class qD (α:Type) where
 out:α
def bO (p:Prop) [K:qD Prop]:Prop:=p∧K.out
def el {α:Type} (o:Option α) [K:qD (α→Prop)]:Prop:= ∃x,o=some x∧K.out x
def gY (t:Bool) [A:qD Prop] [B:qD Prop]:Prop:=(t=true→A.out)∧(t=false→B.out)
theorem Ha {p:Prop} {K:qD Prop} (h:p): @bO p K=K.out:=propext ⟨λh=>h.2,λk=>⟨h,k⟩⟩
theorem M4 {K:qD Prop}: @bO True K=K.out:=Ha trivial
theorem MT {α:Type} {x:α} {K:qD (α→Prop)}: @el _ (some x) K=K.out x:=propext ⟨λ⟨_,e,k⟩=>by cases e;exact k,λk=>⟨x,rfl,k⟩⟩
theorem KV {A B:qD Prop}: @gY true A B=A.out:=propext ⟨λh=>h.1 rfl,λa=>⟨λ_=>a,(λe=>by cases e)⟩⟩
theorem IC {A B:qD Prop}: @gY false A B=B.out:=propext ⟨λh=>h.2 rfl,λa=>⟨(λe=>by cases e),λ_=>a⟩⟩
def qp {α:Type} (o:Option α) [A:qD (α→Prop)] [B:qD Prop]:Prop:=(∀x,o=some x→A.out x)∧(o=none→B.out)
theorem KP {α:Type} {x:α} {A:qD (α→Prop)} {B:qD Prop}: @qp _ (some x) A B=A.out x:=propext ⟨λh=>h.1 x rfl,λa=>⟨λy e=>by cases e;exact a,(λe=>by cases e)⟩⟩
theorem Le {α:Type} {A:qD (α→Prop)} {B:qD Prop}: @qp α none A B=B.out:=propext ⟨λh=>h.2 rfl,λb=>⟨(λx e=>by cases e),λ_=>b⟩⟩
def Ib (rows:List (List PC)) [A:qD Prop] [B:qD Prop]:Prop:=((∀r∈rows,r= [])→A.out)∧B.out
theorem Ng {p:PC} {r:List PC} {rows:List (List PC)} {A B:qD Prop}: @Ib ((p::r)::rows) A B=B.out:=propext ⟨λh=>h.2,λh=>⟨(λe=>by cases e _ List.mem_cons_self),h⟩⟩
theorem az {rows:List (List PC)} {A B:qD Prop} (h1:(∀r∈rows,r= [])→A.out) (h2:B.out): @Ib rows A B:=⟨h1,h2⟩
def bV (sz:Nat) (rows:List (List PC)):Prop:= ∀r∈rows,r.length=sz
def Wc:AC→Option PC
 | .pure p=>some p
 | .nils=>some (.slice [])
 | .tsl rows=>some (.slice rows)
 |_=>none
def Kk:List AC→Option (List PC)
 | []=>some []
 |x::xs=>match Wc x,Kk xs with
  |some y,some ys=>some (y::ys)
  |_,_=>none
def OB (mem:List (Nat×bm)):AC→Option (PC×List (Nat×bm))
 | .pure p=>some (p,mem)
 | .nils=>some (.slice [],mem)
 | .tsl rows=>some (.slice rows,mem)
 |.ref nm=>match am mem nm with
  |some (.arr _ _ rows)=>some (.slice rows,sV mem nm)
  |_=>none
 |_=>none
def GD (mem:List (Nat×bm)):List AC→Option (List PC×List (Nat×bm))
 | []=>some ([],mem)
 |x::xs=>match OB mem x with
  |some (y,mem)=>match GD mem xs with
   |some (ys,mem)=>some (y::ys,mem)
   |none=>none
  |none=>none
def cG (mem:List (Nat×bm)):AC→Option PC
 | .pure p=>some p
 | .nils=>some (.slice [])
 | .tsl rows=>some (.slice rows)
 |.ref nm=>match am mem nm with
  |some (.arr _ _ rows)=>some (.slice rows)
  |_=>none
 |_=>none
def um (mem:List (Nat×bm)):List AC→Option (List PC)
 | []=>some []
 |x::xs=>match cG mem x,um mem xs with
  |some y,some ys=>some (y::ys)
  |_,_=>none
def lJ (mem:List (Nat×bm)):Option Nat→List AC→Option (List PC)
 |none,p::_=>match cG mem p with
  |some q=>some [q]
  |none=>none
 |none, []=>none
 |some _,ps=>um mem ps
def jd (mem:List (Nat×bm)) (n:Option Nat):List (MK×List AC)→Option (List (MK×List PC))
 | []=>some []
 |x::r=>match lJ mem n x.2,jd mem n r with
  |some ps,some es=>some ((x.1,ps)::es)
  |_,_=>none
def dn (mem:List (Nat×bm)):AC→Option PC
 |.mref nm=>match am mem nm with
  |some (.map kt n ents)=>match jd mem n ents with
   |some es=>some (.fmap kt n es)
   |none=>none
  |_=>none
 |x=>cG mem x
def bC (mem:List (Nat×bm)):List AC→Option (List PC)
 | []=>some []
 |x::xs=>match dn mem x,bC mem xs with
  |some y,some ys=>some (y::ys)
  |_,_=>none
def dh (mem:List (Nat×bm)):AC→Option AC
 | .pure p=>some (.pure p)
 | .nils=>some (.pure (.slice []))
 | .tsl rows=>some (.pure (.slice rows))
 |.ref nm=>match am mem nm with
  |some (.arr _ _ rows)=>some (.pure (.slice rows))
  |_=>none
 | .cptr cells=>some (.cptr cells)
 |.ptr nm off=>match am mem nm with
  |some (.var xs)=>match bC mem xs with
   |some ps=>some (.cptr (ps.drop off))
   |none=>none
  |_=>none
 |.mref nm=>match am mem nm with
  |some (.map kt n ents)=>match jd mem n ents with
   |some es=>some (.pure (.fmap kt n es))
   |none=>none
  |_=>none
 |_=>none
def AM (mem:List (Nat×bm)):List AC→Option (List AC)
 | []=>some []
 |x::xs=>match dh mem x,AM mem xs with
  |some y,some ys=>some (y::ys)
  |_,_=>none
def dk (mem:List (Nat×bm)):AC→Option AC
 |.clo f caps=>match AM mem caps with
  |some ys=>some (.clo f ys)
  |none=>none
 |x=>dh mem x
def An (mem:List (Nat×bm)):List AC→Option (List AC)
 | []=>some []
 |x::xs=>match dk mem x,An mem xs with
  |some y,some ys=>some (y::ys)
  |_,_=>none
def c9 (mem:List (Nat×bm)):AV→Option AV
 |.c x=>match dk mem x with
  |some y=>some (.c y)
  |none=>none
 |.agg xs=>match An mem xs with
  |some ys=>some (.agg ys)
  |none=>none
 |_=>none
def ba (mem:List (Nat×bm)):List AV→Option (List AV)
 | []=>some []
 |x::xs=>match c9 mem x,ba mem xs with
  |some y,some ys=>some (y::ys)
  |_,_=>none
def s8:AC→Bool
 | .pure (.val _)=>true
 |_=>false
def rg:AV→Bool
 | .c x=>s8 x
 | .agg xs=>xs.all s8
 | .tup vs=>go vs
 | .top=>false
where go:List AV→Bool
 | []=>true
 | .c x::r=>s8 x&&go r
 | .agg xs::r=>xs.all s8&&go r
 |_::_=>false
def kk:AC→Bool
 | .ref _| .ptr _ _| .mref _=>false
 |_=>true
def B6:AC→Bool
 | .clo _ caps=>caps.all kk
 |x=>kk x
def kc:AV→Bool
 | .c x=>B6 x
 | .agg xs=>xs.all B6
 |_=>true
def ft:AC→Prop
 | .pure (.slice rows)=>rows.length≤9223372036854775807
 |_=>True
def jP:List AC→Prop
 | []=>True
 |x::r=>ft x∧jP r
def eW:AV→Prop
 | .c x=>ft x
 | .agg xs=>jP xs
 | .tup vs=>go vs
 | .top=>True
where go:List AV→Prop
 | []=>True
 | .c x::r=>ft x∧go r
 | .agg xs::r=>jP xs∧go r
 |_::r=>go r
def bc (v:Value):Option Nat:=match v with
 | .pointer (some a)=>some a.block
 | .slice (some a) _ _=>some a.block
 | .map (some b)=>some b
 |_=>none
structure Gh where
 p:Nat→Prop
 ι0:Pl
 G:World→(Nat→Prop)→Prop
 mono: ∀(w w':World) (V V':Nat→Prop),G w V→(∀b,b<w.heap.size→V b→V' b)→(∀b,b<w.heap.size→V b→w'.heap[b]? =w.heap[b]?)→G w' V'
def Gh.of (p:Nat→Prop):Gh:=⟨p,λ_=>undef,λ_ _=>True,λ_ _ _ _ _ _ _=>trivial⟩
def aB (B:Nat) (U:Gh) (ι:Pl) (mem:List (Nat×bm)) (b:Nat):Prop:=
 (U.p b∨B≤b)∧ ∀nm bx,am mem nm=some bx→bc (ι nm)≠some b
def aO (w:World) (U:Nat→Prop) (sz:Nat) (rows:List (List PC)) (cells:List Value):Prop:=
 cells.length=rows.length*sz∧(∀(i:Nat) row,rows[i]? =some row→row.length=sz)∧
 ∀(i:Nat) (row:List PC) (j:Nat) p,rows[i]? =some row→row[j]? =some p→ ∃v,cells[i*sz+j]? =some v∧bH w U p v
def fM (w:World) (U:Nat→Prop) (ι:Pl) (N:Nat) (sz:Nat) (rows:List (List AC)) (cells:List Value):Prop:=
 cells.length=rows.length*sz∧(∀(i:Nat) row,rows[i]? =some row→row.length=sz)∧
 ∀(i:Nat) (row:List AC) (j:Nat) p,rows[i]? =some row→row[j]? =some p→ ∃v,cells[i*sz+j]? =some v∧bz w U ι N p v
def eF (n:Option Nat) (ps:List AC):AV:=
 match n with
 |none=>match ps with
  |p::_=> .c p
  | []=> .top
 |some _=> .agg ps
def iL (w:World) (U:Nat→Prop) (ι:Pl) (N:Nat) (kt:KT) (n:Option Nat) (x:MK×List AC) (e:MapEntry):Prop:=
 x.1.val kt=some e.key∧aK w U ι N (eF n x.2) e.val
def Sr (es:Array MapEntry) (clock:Nat):Prop:=clock=es.size∧ ∀(i:Nat) (e:MapEntry),es[i]? =some e→e.born=i
def s4 (B:Nat) (w:World) (U:Nat→Prop) (ι:Pl) (N:Nat) (nm:Nat):bm→Prop
 | .var xs=> ∃b vs T,ι nm= .pointer (some ⟨b,0,none⟩)∧B≤b∧w.heap[b]? =some (.cells vs T (0,0))∧aJ (bz w U ι N) xs vs.toList
 | .arr e sz rows=> ∃cells,0<sz∧w.ownsRow B e sz (ι nm) rows.length cells∧rows.length≤9223372036854775807∧aO w U sz rows cells
 | .arn e sz rows=> ∃cells,0<sz∧w.ownsRow B e sz (ι nm) rows.length cells∧rows.length≤9223372036854775807∧fM w U ι N sz rows cells
 | .map kt n ents=> ∃b es clock,ι nm= .map (some b)∧B≤b∧w.heap[b]? =some (.map es clock)∧aJ (iL w U ι N kt n) ents es.toList∧Sr es clock
def UE:Option Nat:=some 0
def qQ (w:World):Prop:= ∀g,UE=some g→ ∀c:Nat,c<256→w.cell? ⟨g,c,none⟩=some (.int .u8 (if Lib.isSp (UInt8.ofNat c)then 1 else 0))
theorem qQ.below {n:Nat} {w w':World} (h:qQ w) (hn:w.heap.size≤n) (hb:Below n w w'):qQ w':= λg hg c hc=>by
 have h1:=h g hg c hc
 have H:g<w.heap.size:=World.block_lt_of_cell? w _ h1
 rw[World.cell?_of_block (hb.block g (Nat.lt_of_lt_of_le H hn))]
 exact h1
structure bl (w0:World) (U:Gh) (σ:St) (ι:Pl) (a:Act) (w:World):Prop where
 val: ∀t,aK w (aB w0.heap.size U ι σ.mem) ι σ.nx (aL σ.fr t) (a.tmps.getD t undef)
 defers:a.defers= []∧qQ w0
 names: ∀nm bx,am σ.mem nm=some bx→nm<σ.nx
 box: ∀nm bx,am σ.mem nm=some bx→s4 w0.heap.size w (aB w0.heap.size U ι σ.mem) ι σ.nx nm bx
 apart: ∀nm nm' bx bx' b,am σ.mem nm=some bx→am σ.mem nm'=some bx'→bc (ι nm)=some b→bc (ι nm')=some b→nm=nm'
 below:Below w0.heap.size w0 w
 keep:U.G w (aB w0.heap.size U ι σ.mem)
 base:σ.base≤σ.nx∧ ∀nm,nm<σ.base→ι nm=U.ι0 nm
theorem bl.glob {w0 w:World} {U:Gh} {σ:St} {ι:Pl} {a:Act} (h:bl w0 U σ ι a w):qQ w:=h.defers.2.below (Nat.le_refl _) h.below
def la (P : Program) (f : FuncId) : Prop := ∃ fn, P.funcs[f]? = some fn ∧ fn.body.isSome = true ∧ (fn.name == "runtime.NumGoroutine") = false
def af (P:Program) (f:FuncId) (args:List AV) (res:AV):Prop:=
 la P f∧
 ∀(w:World) (U:Nat→Prop) (vs:Array Value),qQ w→aJ (aK w U (λ_=>undef) 0) args vs.toList→
  Calls P f vs w λe w'=> ∃v,e= .returned v∧aK w' (λb=>U b∨w.heap.size≤b) (λ_=>undef) 0 res v∧Below w.heap.size w w'
def Lg (P:Program) (f:FuncId) (args:List AV) (res:AV):Prop:=
 la P f∧
 ∀(w:World) (U:Nat→Prop) (vs:Array Value),qQ w→aJ (aK w U (λ_=>undef) 0) args vs.toList→
  Calls P f vs w λe w'=> ∃v,e= .returned v∧aK w' (λb=>w.heap.size≤b) (λ_=>undef) 0 res v∧Below w.heap.size w w'
def bb (P:Program) (f:FuncId) (args:List AV) (mem:List (Nat×bm)) (nx:Nat) (res:AV) (mem':List (Nat×bm)) (nx':Nat):Prop:=
 la P f∧
 ∀(w0:World) (U:Gh) (ι:Pl) (w:World) (vs:Array Value),bl w0 U ⟨[],mem,nx,nx⟩ ι {tmps:= #[],defers:= []} w→aJ (aK w (aB w0.heap.size U ι mem) ι nx) args vs.toList→
  Calls P f vs w λe w'=> ∃v ι',e= .returned v∧bl w0 U ⟨[],mem',nx',nx⟩ ι' {tmps:= #[],defers:= []} w'∧aK w' (aB w0.heap.size U ι' mem') ι' nx' res v
def zF (nm:Nat) (rows:List (List PC)):AC→AC
 | .ref m=>if m=nm then .pure (.slice rows)else .ref m
 |x=>x
def Np (nm:Nat) (rows:List (List PC)):AV→AV
 | .c x=> .c (zF nm rows x)
 | .agg xs=> .agg (xs.map (zF nm rows))
 |x=>x
def QU (nm:Nat) (rows:List (List PC)):bm→bm
 | .var xs=> .var (xs.map (zF nm rows))
 | .map kt n ents=> .map kt n (ents.map λx=>(x.1,x.2.map (zF nm rows)))
 | .arn e sz rs=> .arn e sz (rs.map λr=>r.map (zF nm rows))
 |b=>b
def NK (nm:Nat) (rows:List (List PC)):List (Nat×AV)→List (Nat×AV)
 | []=> []
 |(t,v)::r=>(t,Np nm rows v)::NK nm rows r
def E7 (nm:Nat) (rows:List (List PC)):List (Nat×bm)→List (Nat×bm)
 | []=> []
 |(m,b)::r=>if m=nm then E7 nm rows r else(m,QU nm rows b)::E7 nm rows r
def St.frz (σ:St) (nm:Nat) (rows:List (List PC)):St:={σ with fr:=NK nm rows σ.fr,mem:=E7 nm rows σ.mem}
def bU:List Nat→St→List AV→St×List AV
 | [],σ,args=>(σ,args)
 |nm::l,σ,args=>match am σ.mem nm with
  |some (.arr _ _ rows)=>bU l (σ.frz nm rows) (args.map (Np nm rows))
  |_=>(σ,args)
def AD (P:Program) (g z:Bool) (f:FuncId) (args:List AV) (σ:St) [K:qD (AV→St→Prop)]:Prop:=
 ∃l σ' args',(l= []∨z=true)∧bU l σ args=(σ',args')∧(
 (∃pargs,ba σ'.mem args'=some pargs∧ ∃res,((af P f pargs res∧(rg res=true∨args'.all kc=true))∨Lg P f pargs res)∧K.out res σ')∨
 (g=true∧ ∃res mem' nx',bb P f args' σ'.mem σ'.nx res mem' nx'∧K.out res {σ' with mem:=mem',nx:=nx'}))
def mw (op:BinOp) (k:IntKind) (a b:Int) (K:Value→Prop):Prop:=
 match op with
 | .add=>K (.int k (k.wrap (a+b)))
 | .sub=>K (.int k (k.wrap (a-b)))
 | .mul=>K (.int k (k.wrap (a*b)))
 | .quo=>bO (b≠0) (K:=⟨K (.int k (k.wrap (a.tdiv b)))⟩)
 | .rem=>bO (b≠0) (K:=⟨K (.int k (a.tmod b))⟩)
 | .and=>K (.int k (k.wrap (BitVec.ofInt k.bits a&&&BitVec.ofInt k.bits b).toNat))
 | .or=>K (.int k (k.wrap (BitVec.ofInt k.bits a|||BitVec.ofInt k.bits b).toNat))
 | .xor=>K (.int k (k.wrap (BitVec.ofInt k.bits a^^^BitVec.ofInt k.bits b).toNat))
 | .andNot=>K (.int k (k.wrap (BitVec.ofInt k.bits a&&& ~~~BitVec.ofInt k.bits b).toNat))
 | .eql=>K (.bool (a==b))
 | .neq=>K (.bool (a !=b))
 | .lss=>K (.bool (decide (a<b)))
 | .leq=>K (.bool (decide (a≤b)))
 | .gtr=>K (.bool (decide (a>b)))
 | .geq=>K (.bool (decide (a≥b)))
 |_=>False
def wj (op:BinOp) (a b:ByteArray) (K:Value→Prop):Prop:=
 match op with
 | .add=>bO (a.size+b.size≤9223372036854775807) (K:=⟨K (.string (a++b))⟩)
 | .eql=>K (.bool (a.toList==b.toList))
 | .neq=>K (.bool (!(a.toList==b.toList)))
 | .lss=>K (.bool (Op.bytesLess a.toList b.toList))
 | .leq=>K (.bool (Op.bytesLess a.toList b.toList||a.toList==b.toList))
 | .gtr=>K (.bool (!(Op.bytesLess a.toList b.toList||a.toList==b.toList)))
 | .geq=>K (.bool (!(Op.bytesLess a.toList b.toList)))
 |_=>False
def Br (op:BinOp) (x y:Value) (K:Value→Prop):Prop:=
 match x,y with
 | .int k a,.int k' b=>bO (k=k') (K:=⟨mw op k a b K⟩)
 | .string a,.string b=>wj op a b K
 |_,_=>False
def sH (op:BinOp) (k:IntKind) (a b:Int) (K:Value→Prop):Prop:=
 match op with
 | .shl=>K (.int k (k.wrap (a*2^(min b.toNat k.bits))))
 | .shr=>K (.int k (a.fdiv (2^(min b.toNat k.bits))))
 |_=>False
def nE (op:BinOp) (x y:Value) (K:Value→Prop):Prop:=
 match x,y with
 | .int k a,.int _ b=>bO (0≤b) (K:=⟨sH op k a b K⟩)
 |_,_=>False
def eL (mem:List (Nat×bm)):AV→Option (List (List PC))
 | .c (.pure (.slice rows))=>some rows
 | .c (.tsl rows)=>some rows
 | .c .nils=>some []
 |.c (.ref nm)=>match am mem nm with
  |some (.arr _ _ rows)=>some rows
  |_=>none
 |_=>none
def TL (e sz bytes nm:Nat) (ys:List (List PC)) (σ:St) (K:AV→St→Prop):Prop:=
 ∃rows,am σ.mem nm=some (.arr e sz rows)∧(rows.length+ys.length)*bytes≤140737488355328∧rows.length+ys.length≤140737488355328∧
  K (.c (.ref σ.nx)) {σ with mem:=(σ.nx,.arr e sz (rows++ys))::sV σ.mem nm,nx:=σ.nx+1}
def OF (e sz bytes:Nat) (rows ys:List (List PC)) (σ:St) (K:AV→St→Prop):Prop:=
 (rows.length+ys.length)*bytes≤140737488355328∧rows.length+ys.length≤140737488355328∧K (.c (.ref σ.nx)) {σ with mem:=(σ.nx,.arr e sz (rows++ys))::σ.mem,nx:=σ.nx+1}
def Mb (bytes:Nat) (rows ys:List (List PC)) (σ:St) (K:AV→St→Prop):Prop:=
 (rows.length+ys.length)*bytes≤140737488355328∧rows.length+ys.length≤140737488355328∧K (.c (.pure (.slice (rows++ys)))) σ
def Fu (e sz bytes:Nat) (x y:AV) (ys:List (List PC)) (σ:St) [K:qD (AV→St→Prop)]:Prop:=
 bV sz ys∧(
  (∃nm,x= .c (.ref nm)∧y≠ .c (.ref nm)∧TL e sz bytes nm ys σ K.out)∨
  (x= .c .nils∧(OF e sz bytes [] ys σ K.out∨Mb bytes [] ys σ K.out))∨
  (∃rows,x= .c (.tsl rows)∧bV sz rows∧((ys≠ []∧OF e sz bytes rows ys σ K.out)∨Mb bytes rows ys σ K.out∨(ys= []∧K.out (.c (.tsl rows)) σ))))
def bv (mem:List (Nat×bm)):AC→Option (List AC)
 |.ptr nm off=>match am mem nm with
  |some (.var xs)=>some (xs.drop off)
  |_=>none
 | .cptr cells=>some (cells.map .pure)
 |.eptr nm sz row off=>match am mem nm with
  |some (.arr _ sz' rows)=>if sz=sz' then(rows[row]?).map λr=>(r.drop off).map .pure else none
  |some (.arn _ sz' rows)=>if sz=sz' then(rows[row]?).map λr=>r.drop off else none
  |_=>none
 |_=>none
def lR (es:List (MK×List PC)):List (MK×List AC):=es.map λx=>(x.1,x.2.map .pure)
def eC:List (MK×List AC)→MK→Option (List AC)
 | [],_=>none
 |(k,v)::r,k'=>if k=k' then some v else eC r k'
def Be:List (MK×List AC)→MK→List AC→List (MK×List AC)
 | [],k,v=> [(k,v)]
 |(k,u)::r,k',v=>if k=k' then(k',v)::r else(k,u)::Be r k' v
def NO:List (MK×List AC)→MK→Nat
 | [],_=>0
 |(k,_)::r,k'=>if k=k' then 0 else NO r k'+1
def C4:List (MK×List AC)→Nat→List AC→List (MK×List AC)
 | [],_,_=> []
 |(k,_)::r,0,v=>(k,v)::r
 |x::r,i+1,v=>x::C4 r i v
def vY (n:Option Nat) (v:AV):Option (List AC):=
 match n,v with
 |none,.c x=>some [x]
 |some k,.agg xs=>if xs.length=k then some xs else none
 |_,_=>none
def bh (P:Program) (o:dV) (σ:St) (K:AV→St→Prop):Prop:=
 match o with
 | .mv x=>K (x.ev σ.fr) σ
 |.pick c a b=>match c.ev σ.fr with
  | .c (.pure (.val (.bool t)))=>gY t (A:=⟨K (a.ev σ.fr) σ⟩) (B:=⟨K (b.ev σ.fr) σ⟩)
  |_=>False
 |.box x=>match (x.ev σ.fr).cells with
  |some xs=>K (.c (.ptr σ.nx 0)) {σ with mem:=(σ.nx,.var xs)::σ.mem,nx:=σ.nx+1}
  |none=>False
 |.load n p=>match p.ev σ.fr with
  |.c q=>match bv σ.mem q with
   |some xs=>match n with
    |none=>match xs with
     |x::_=>K (.c x) σ
     | []=>False
    |some n=>bO (n≤xs.length) (K:=⟨K (.agg (xs.take n)) σ⟩)
   |none=>False
  |_=>False
 |.store n p v=>match (v.ev σ.fr).cells,p.ev σ.fr with
  |some ys,.c (.ptr nm off)=>match am σ.mem nm with
   |some (.var xs)=>bO (ys.length=n∧off+n≤xs.length) (K:=⟨K (.tup []) {σ with mem:=dG σ.mem nm (.var (over xs off ys))}⟩)
   |_=>False
  |some ys,.c (.eptr nm sz row off)=>match am σ.mem nm with
   |some (.arr e sz' rows)=>bO (sz=sz'∧ys.length=n∧off+n≤sz) (K:=⟨el (Kk ys) (K:=⟨λzs=>el rows[row]? (K:=⟨λr=>
     K (.tup []) {σ with mem:=dG σ.mem nm (.arr e sz (rows.set row (over r off zs)))}⟩)⟩)⟩)
   |some (.arn e sz' rows)=>bO (sz=sz'∧ys.length=n∧off+n≤sz) (K:=⟨el rows[row]? (K:=⟨λr=>
     K (.tup []) {σ with mem:=dG σ.mem nm (.arn e sz (rows.set row (over r off ys)))}⟩)⟩)
   |_=>False
  |_,_=>False
 |.bin op x y=>match x.ev σ.fr,y.ev σ.fr with
  |.c (.pure (.val a)),.c (.pure (.val b))=>match op with
   | .shl| .shr=>nE op a b λv=>K (.c (.pure (.val v))) σ
   |_=>Br op a b λv=>K (.c (.pure (.val v))) σ
  |_,_=>False
 |.eqb neg x y=>match x.ev σ.fr,y.ev σ.fr with
  | .c (.pure (.val (.bool a))),.c (.pure (.val (.bool b)))=>K (.c (.pure (.val (.bool ((a==b) !=neg))))) σ
  |_,_=>False
 |.eqs neg l x y=>match x.ev σ.fr,y.ev σ.fr with
  | .agg xs,.agg ys=>bO (Hr l xs ys) (K:=⟨K (.c (.pure (.val (.bool (ni (NW xs ys) !=neg))))) σ⟩)
  |_,_=>False
 |.un op x=>match op,x.ev σ.fr with
  | .not,.c (.pure (.val (.bool b)))=>K (.c (.pure (.val (.bool (!b))))) σ
  | .neg,.c (.pure (.val (.int k n)))=>K (.c (.pure (.val (.int k (k.wrap (0-n)))))) σ
  | .xor,.c (.pure (.val (.int k n)))=>K (.c (.pure (.val (.int k (k.wrap (BitVec.ofInt k.bits (if k.signed then-1 else k.max)^^^BitVec.ofInt k.bits n).toNat))))) σ
  |_,_=>False
 |.conv k x=>match x.ev σ.fr with
  | .c (.pure (.val (.int _ n)))=>K (.c (.pure (.val (.int k (k.wrap n))))) σ
  |_=>False
 |.fieldA off p=>match p.ev σ.fr with
  | .c (.ptr nm o)=>K (.c (.ptr nm (o+off))) σ
  | .c (.cptr cells)=>K (.c (.cptr (cells.drop off))) σ
  | .c (.eptr nm sz row o)=>K (.c (.eptr nm sz row (o+off))) σ
  |_=>False
 |.field off n x=>match x.ev σ.fr with
  |.agg xs=>match n with
   |none=>match xs.drop off with
    |x::_=>K (.c x) σ
    | []=>False
   |some n=>bO (off+n≤xs.length) (K:=⟨K (.agg ((xs.drop off).take n)) σ⟩)
  |_=>False
 |.idxA sz x i=>match x.ev σ.fr,i.ev σ.fr with
  | .c (.pure (.slice rows)),.c (.pure (.val (.int _ i)))| .c (.tsl rows),.c (.pure (.val (.int _ i)))=>bO (0≤i) (K:=⟨el rows[i.toNat]? (K:=⟨λr=>bO (r.length=sz∧0<sz) (K:=⟨K (.c (.cptr r)) σ⟩)⟩)⟩)
  |.c (.ref nm),.c (.pure (.val (.int _ i)))=>match am σ.mem nm with
   |some (.arr _ sz' rows)=>bO (sz'=sz∧0<sz∧0≤i∧i<rows.length) (K:=⟨K (.c (.eptr nm sz i.toNat 0)) σ⟩)
   |some (.arn _ sz' rows)=>bO (sz'=sz∧0<sz∧0≤i∧i<rows.length) (K:=⟨K (.c (.eptr nm sz i.toNat 0)) σ⟩)
   |_=>False
  |_,_=>False
 |.idxR len sz x i=>match x.ev σ.fr,i.ev σ.fr with
  | .c (.ptr nm o),.c (.pure (.val (.int _ i)))=>bO (0≤i∧i<len) (K:=⟨K (.c (.ptr nm (o+i.toNat*sz))) σ⟩)
  | .c (.cptr cells),.c (.pure (.val (.int _ i)))=>bO (0≤i∧i<len) (K:=⟨K (.c (.cptr (cells.drop (i.toNat*sz)))) σ⟩)
  |_,_=>False
 |.nilc x=>match x.ev σ.fr with
  | .c (.ptr nm o)=>K (.c (.ptr nm o)) σ
  | .c (.cptr cells)=>K (.c (.cptr cells)) σ
  | .c (.eptr nm sz row o)=>K (.c (.eptr nm sz row o)) σ
  | .c (.clo f caps)=>K (.c (.clo f caps)) σ
  |_=>False
 |.idxS x i=>match x.ev σ.fr,i.ev σ.fr with
  | .c (.pure (.val (.string s))),.c (.pure (.val (.int _ i)))=>bO (0≤i) (K:=⟨el s[i.toNat]? (K:=⟨λb=>K (.c (.pure (.val (.int .u8 b.toNat)))) σ⟩)⟩)
  |_,_=>False
 | .build zero parts=>buildW σ parts zero λxs=>K (.agg xs) σ
 | .bslice sz rows=>bsliceW σ sz rows [] λrs=>K (.c (.tsl rs)) σ
 |.mkslice e sz bytes zero l=>match l.ev σ.fr with
  | .c (.pure (.val (.int .i64 n)))=>bO (0≤n∧n≤281474976710656∧bytes*n≤281474976710656) (K:=⟨
    K (.c (.ref σ.nx)) {σ with mem:=(σ.nx,.arr e sz (List.replicate n.toNat zero))::σ.mem,nx:=σ.nx+1}⟩)
  |_=>False
 |.slc sz x lo hi mx=>match x.ev σ.fr with
  | .c (.ref _)=>False
  |v=>el (eL σ.mem v) (K:=⟨λrows=>el (boundOf σ lo) (K:=⟨λlo=>el (boundOf σ hi) (K:=⟨λhi=>el (boundOf σ mx) (K:=⟨λmx=>
   bO (bV sz rows∧0≤lo.getD 0∧lo.getD 0≤hi.getD rows.length∧hi.getD rows.length≤mx.getD rows.length∧mx.getD rows.length≤rows.length) (K:=⟨
   K (.c (if mx.isSome=true∧mx=hi then .tsl ((rows.take (hi.getD rows.length).toNat).drop (lo.getD 0).toNat)else .pure (.slice ((rows.take (hi.getD rows.length).toNat).drop (lo.getD 0).toNat)))) σ⟩)⟩)⟩)⟩)⟩)
 |.slcS x lo hi=>match x.ev σ.fr,boundOf σ lo,boundOf σ hi with
  |.c (.pure (.val (.string s))),some lo,some hi=>bO (0≤lo.getD 0∧lo.getD 0≤hi.getD s.size∧hi.getD s.size≤s.size) (K:=⟨
   K (.c (.pure (.val (.string (s.extract (lo.getD 0).toNat (hi.getD s.size).toNat))))) σ⟩)
  |_,_,_=>False
 |.ext x i=>match x.ev σ.fr with
  | .tup vs=>el vs[i]? (K:=⟨λv=>K v σ⟩)
  |_=>False
 |.len x=>match x.ev σ.fr with
  | .c (.pure (.slice rows))| .c (.tsl rows)=>K (.c (.pure (.val (.int .i64 rows.length)))) σ
  | .c .nils=>K (.c (.pure (.val (.int .i64 0)))) σ
  |.c (.ref nm)=>match am σ.mem nm with
   |some (.arr _ _ rows)=>K (.c (.pure (.val (.int .i64 rows.length)))) σ
   |some (.arn _ _ rows)=>K (.c (.pure (.val (.int .i64 rows.length)))) σ
   |_=>False
  |_=>False
 |.lenS x=>match x.ev σ.fr with
  | .c (.pure (.val (.string s)))=>K (.c (.pure (.val (.int .i64 s.size)))) σ
  |_=>False
 |.mm mx x y=>match x.ev σ.fr,y.ev σ.fr with
  | .c (.pure (.val (.int k a))),.c (.pure (.val (.int _ b)))=>K (.c (.pure (.val (.int k (if mx=true then max a b else min a b))))) σ
  |_,_=>False
 |.mm4 x y z t=>match x.ev σ.fr,y.ev σ.fr,z.ev σ.fr,t.ev σ.fr with
  | .c (.pure (.val (.int k a))),.c (.pure (.val (.int _ b))),.c (.pure (.val (.int _ c))),.c (.pure (.val (.int _ d)))=>K (.c (.pure (.val (.int k (max (max (max a b) c) d))))) σ
  |_,_,_,_=>False
 | .dead=>False
 |.fnil neg x=>match x.ev σ.fr with
  | .c (.clo _ _)=>K (.c (.pure (.val (.bool neg)))) σ
  | .c (.pure (.val .nilFunc))=>K (.c (.pure (.val (.bool (!neg))))) σ
  |_=>False
 |.snil neg x=>match x.ev σ.fr with
  | .c .nils=>K (.c (.pure (.val (.bool (!neg))))) σ
  | .c (.pure (.slice rows))| .c (.tsl rows)=>Ib rows (A:=⟨K (.c (.pure (.val (.bool (!neg))))) σ⟩) (B:=⟨K (.c (.pure (.val (.bool neg)))) σ⟩)
  |.c (.ref nm)=>match am σ.mem nm with
   |some (.arr _ _ rows)=>Ib rows (A:=⟨K (.c (.pure (.val (.bool (!neg))))) σ⟩) (B:=⟨K (.c (.pure (.val (.bool neg)))) σ⟩)
   |_=>False
  |_=>False
 | .app e sz bytes x y=>el (eL σ.mem (y.ev σ.fr)) (K:=⟨λys=>Fu e sz bytes (x.ev σ.fr) (y.ev σ.fr) ys σ (K:=⟨K⟩)⟩)
 | .mkfn f caps=>mkfnW σ caps [] λxs=>K (.c (.clo f xs)) σ
 |.call g z f args=>match f.ev σ.fr with
  | .c (.clo f caps)=>AD P g z f (args.map (·.ev σ.fr)++caps.map .c) σ (K:=⟨K⟩)
  |_=>False
 | .bsliceF sz rows=>bsliceFW σ sz rows σ.mem [] λrs mem=>K (.c (.tsl rs)) {σ with mem:=mem}
 | .mkmap kt n=>K (.c (.mref σ.nx)) {σ with mem:=(σ.nx,.map kt n [])::σ.mem,nx:=σ.nx+1}
 |.mget kt n zero ok m k=>match k.ev σ.fr with
  |.c (.pure (.val kv))=>el (EA kt kv) (K:=⟨λmk=>match m.ev σ.fr with
   |.c (.mref nm)=>match am σ.mem nm with
    |some (.map kt' n' ents)=>bO (kt'=kt∧n'=n) (K:=⟨qp (eC ents mk) (A:=⟨λps=>K (if ok=true then .tup [eF n ps,.c (.pure (.val (.bool true)))]else eF n ps) σ⟩)
     (B:=⟨K (if ok=true then .tup [eF n zero,.c (.pure (.val (.bool false)))]else eF n zero) σ⟩)⟩)
    |_=>False
   | .c (.pure (.fmap kt' n' es))=>bO (kt'=kt∧n'=n) (K:=⟨qp (eC (lR es) mk) (A:=⟨λps=>K (if ok=true then .tup [eF n ps,.c (.pure (.val (.bool true)))]else eF n ps) σ⟩)
     (B:=⟨K (if ok=true then .tup [eF n zero,.c (.pure (.val (.bool false)))]else eF n zero) σ⟩)⟩)
   |_=>False⟩)
  |_=>False
 |.mput kt n m k v=>match k.ev σ.fr with
  |.c (.pure (.val kv))=>el (EA kt kv) (K:=⟨λmk=>match m.ev σ.fr with
   |.c (.mref nm)=>el (vY n (v.ev σ.fr)) (K:=⟨λys=>match am σ.mem nm with
    |some (.map kt' n' ents)=>bO (kt'=kt∧n'=n) (K:=⟨K (.tup []) {σ with mem:=dG σ.mem nm (.map kt n (Be ents mk ys))}⟩)
    |_=>False⟩)
   |_=>False⟩)
  |_=>False
 |.ment kt n zero m k=>match k.ev σ.fr with
  |.c (.pure (.val kv))=>el (EA kt kv) (K:=⟨λmk=>match m.ev σ.fr with
   |.c (.mref nm)=>match am σ.mem nm with
    |some (.map kt' n' ents)=>bO (kt'=kt∧n'=n) (K:=⟨qp (eC ents mk) (A:=⟨λps=>K (.tup [eF n ps,.c (.pure (.val (.int .i64 (NO ents mk))))]) σ⟩)
     (B:=⟨K (.tup [eF n zero,.c (.pure (.val (.int .i64 ents.length)))]) {σ with mem:=dG σ.mem nm (.map kt n (ents++ [(mk,zero)]))}⟩)⟩)
    |_=>False
   |_=>False⟩)
  |_=>False
 |.eput kt n m s v=>match s.ev σ.fr with
  |.c (.pure (.val (.int _ i)))=>match m.ev σ.fr with
   |.c (.mref nm)=>el (vY n (v.ev σ.fr)) (K:=⟨λys=>match am σ.mem nm with
    |some (.map kt' n' ents)=>bO (kt'=kt∧n'=n∧0≤i∧i<ents.length) (K:=⟨K (.tup []) {σ with mem:=dG σ.mem nm (.map kt n (C4 ents i.toNat ys))}⟩)
    |_=>False⟩)
   |_=>False
  |_=>False
where
 boundOf (σ:St):Option AX→Option (Option Int)
  |none=>some none
  |some x=>match x.ev σ.fr with
   | .c (.pure (.val (.int _ i)))=>some (some i)
   |_=>none
 buildW (σ:St):List (Nat×Nat×AX)→List AC→(List AC→Prop)→Prop
  | [],acc,K=>K acc
  |(off,n,x)::r,acc,K=>match (x.ev σ.fr).cells with
   |some ys=>bO (ys.length=n∧off+n≤acc.length) (K:=⟨buildW σ r (over acc off ys) K⟩)
   |none=>False
 bsliceW (σ:St) (sz:Nat):List AX→List (List PC)→(List (List PC)→Prop)→Prop
  | [],acc,K=>K acc
  |x::r,acc,K=>match (x.ev σ.fr).cells with
   |some ys=>el (Kk ys) (K:=⟨λzs=>bO (ys.length=sz) (K:=⟨bsliceW σ sz r (acc++ [zs]) K⟩)⟩)
   |none=>False
 bsliceFW (σ:St) (sz:Nat):List AX→List (Nat×bm)→List (List PC)→(List (List PC)→List (Nat×bm)→Prop)→Prop
  | [],mem,acc,K=>K acc mem
  |x::r,mem,acc,K=>match (x.ev σ.fr).cells with
   |some ys=>el (GD mem ys) (K:=⟨λz=>bO (ys.length=sz) (K:=⟨bsliceFW σ sz r z.2 (acc++ [z.1]) K⟩)⟩)
   |none=>False
 mkfnW (σ:St):List AX→List AC→(List AC→Prop)→Prop
  | [],acc,K=>K acc
  |x::r,acc,K=>match x.ev σ.fr with
   | .c y=>mkfnW σ r (acc++ [y]) K
   |_=>False
def lB (P:Program):List AG→St→(St→Prop)→Prop
 | [],σ,K=>K σ
 |g::r,σ,K=>match g.guard with
  |none=>bh P g.op σ λv σ'=>lB P r (σ'.put g.dst v) K
  |some (t,want)=>match aL σ.fr t with
   | .c (.pure (.val (.bool b)))=>gY (b==want) (A:=⟨bh P g.op σ λv σ'=>lB P r (σ'.put g.dst v) K⟩) (B:=⟨lB P r (σ.put g.dst (.tup [])) K⟩)
   | .tup []=>lB P r (σ.put g.dst (.tup [])) K
   |_=>False
def jU (m m':List (Nat×bm)):Prop:= ∀nm bx,am m nm=some bx→am m' nm=some bx
def Ly (m m':List (Nat×bm)):Prop:=m'=m∨ ∃n b,m'=(n,b)::m∧am m n=none
theorem RE {m m':List (Nat×bm)} (h:Ly m m'):jU m m':=by
 rcases h with rfl|⟨n,b,rfl,h⟩
 ·exact λ_ _ h=>h
 ·intro nm bx hf
  show(if n=nm then some b else am m nm)=some bx
  rw[if_neg (λe=>by rw[←e,h]at hf;cases hf)]
  exact hf
def jj (P:Program):List (Bool×AG)→St→(St→Prop)→Prop
 | [],σ,K=>K σ
 |(x,g)::r,σ,K=>match g.guard with
  |none=>bh P g.op σ λv σ'=>bO (x=true→Ly σ.mem σ'.mem) (K:=⟨jj P r (σ'.put g.dst v) K⟩)
  |some (t,want)=>match aL σ.fr t with
   | .c (.pure (.val (.bool b)))=>gY (b==want) (A:=⟨bh P g.op σ λv σ'=>bO (x=true→Ly σ.mem σ'.mem) (K:=⟨jj P r (σ'.put g.dst v) K⟩)⟩) (B:=⟨jj P r (σ.put g.dst (.tup [])) K⟩)
   | .tup []=>jj P r (σ.put g.dst (.tup [])) K
   |_=>False
def P1 [A:qD Prop] [B:qD Prop]:Prop:=A.out∧B.out
theorem au {A B:qD Prop} (h1:A.out) (h2:B.out): @P1 A B:=⟨h1,h2⟩
def ym (P:Program):List (List (Bool×AG))→St→(St→Prop)→Prop
 | [],_,_=>True
 | [gs],σ,K=>jj P gs σ K
 |gs::hs::r,σ,K=>P1 (A:=⟨jj P gs σ K⟩) (B:=⟨ym P (hs::r) σ K⟩)
theorem GI {P:Program} {σ:St} {K:St→Prop}: ∀{gss:List (List (Bool×AG))},ym P gss σ K→ ∀gs∈gss,jj P gs σ K
 | [],_,gs,h=>by cases h
 | [x],hd,gs,h=>by rw[List.mem_singleton]at h;rw[h];exact hd
 |x::y::r,hd,gs,h=>by
  rcases List.mem_cons.1 h with h|h
  ·rw[h];exact hd.1
  ·exact GI hd.2 gs h
def zj:Value→Option AC
 | .slice none 0 0=>some .nils
 |v=>if ry v then some (.pure (.val v))else none
def cellsOf:List Value→Option (List AC)
 | []=>some []
 |v::r=>match zj v,cellsOf r with
  |some x,some xs=>some (x::xs)
  |_,_=>none
def Ip:Value→Option PC
 | .slice none 0 0=>some (.slice [])
 |v=>if ry v then some (.val v)else none
def oS:List Value→Option (List PC)
 | []=>some []
 |v::r=>match Ip v,oS r with
  |some x,some xs=>some (x::xs)
  |_,_=>none
def wQ:Value→Option AV
 | .agg vs=>(cellsOf vs.toList).map .agg
 | .tuple vs=>if vs.size=0 then some (.tup [])else none
 |v=>(zj v).map .c
def aC:Operand→Option AX
 | .tmp t=>some (.t t)
 | .const v=>(wQ v).map .k
 | .func f=>some (.k (.c (.clo f [])))
 | .global _=>none
def ka:List Operand→Option (List AX)
 | []=>some []
 |x::r=>match aC x,ka r with
  |some y,some ys=>some (y::ys)
  |_,_=>none
def kA (P:Program) (t:TypeId):Option (Option Nat):=
 match P.underlying t,P.info? t with
 |some (.struct _),some i=>some (some i.size)
 |some (.array _ _),some i=>some (some i.size)
 |some _,some i=>if i.size=1 then some none else none
 |_,_=>none
def dK (P:Program) (t:TypeId):Option (TypeId×Nat×Nat):=
 match P.underlying t with
 |some (.slice e)=>(P.info? e).map λi=>(e,i.size,i.bytes)
 |_=>none
def dj (P:Program) (t:TypeId):Option Value:=(P.info? t).bind (·.zero)
def pD (P:Program) (s:TypeId) (f:Nat):Option Field:=
 match P.underlying s with
 |some (.struct fs)=>fs[f]?
 |_=>none
def iO (P:Program) (t:TypeId):Option Nat:=(P.info? t).map (·.size)
def OS (P:Program) (t:TypeId):Bool:=match P.underlying t with|some .string=>true|_=>false
def Ih (P:Program) (t:TypeId):Bool:=match P.underlying t with|some .bool=>true|_=>false
def H5 (P:Program) (t:TypeId):Bool:=match P.underlying t with|some (.func _ _ _)=>true|_=>false
def Hj:AX→Bool
 | .k (.c (.pure (.val .nilFunc)))=>true
 |_=>false
def LB (P:Program) (t:TypeId):Bool:=match P.underlying t with|some (.slice _)=>true|_=>false
def G1:AX→Bool
 | .k (.c .nils)=>true
 |_=>false
def xe (places:List (Nat×Nat)):List (Nat×Operand)→Option (List (Nat×Nat×AX))
 | []=>some []
 |(i,x)::r=>match places[i]?,aC x,xe places r with
  |some (off,n),some y,some ys=>some ((off,n,y)::ys)
  |_,_,_=>none
def DH (P:Program) (t:TypeId):Option (List (Nat×Nat)):=
 match P.underlying t with
 |some (.struct fs)=>fs.toList.mapM λf=>(P.info? f.type).map λi=>(f.offset,i.size)
 |_=>none
def rb:Nat→List (Nat×Operand)→Option (List AX)
 |_, []=>some []
 |k,(i,x)::r=>if i=k then match aC x,rb (k+1) r with
  |some y,some ys=>some (y::ys)
  |_,_=>none else none
def kp (P:Program) (t:TypeId):Option (KT×TypeId×Option Nat):=
 match P.underlying t with
 |some (.map k e)=>match P.underlying k,kA P e with
  |some (.int i),some n=>some (.int i,e,n)
  |some .string,some n=>some (.str,e,n)
  |some .bool,some n=>some (.bool,e,n)
  |_,_=>none
 |_=>none
def zT (n:Option Nat) (z:Value):Option (List AC):=
 match n with
 |none=>match zj z with
  |some p=>some [p]
  |none=>none
 |some _=>match z with
  | .agg vs=>cellsOf vs.toList
  |_=>none
def CM:List PC→Bool
 | []=>false
 | .slice _::_=>true
 |_::r=>CM r
def Oi (P:Program) (e:TypeId):Bool:=
 match (dj P e).bind λz=>oS z.cells.toList with
 |some zs=>CM zs
 |none=>false
def mn:Option Operand→Option (Option AX)
 |none=>some none
 |some x=>(aC x).map some
def xa (P:Program) (t:TypeId):Bool:=match P.underlying t with|some (.struct _)=>true|_=>false
def Iq (P:Program) (f:TypeId→Option (List ET)):List Field→Nat→Option (List ET)
 | [],_=>some []
 |fd :: r, off => if fd.name = "_" ∨ fd.offset ≠ off then none else match f fd.type with
  |some l=>if(P.info? fd.type).map (·.size)=some l.length then(Iq P f r (off+l.length)).map (l++ ·)else none
  |none=>none
def Ju (P:Program):Nat→TypeId→Option (List ET)
 |0,_=>none
 |n+1,t=>match P.underlying t with
  |some (.int k)=>some [.int k]
  |some .string=>some [.str]
  |some .bool=>some [.bool]
  |some (.struct fs)=>if P.stoodInHeld t=true then none else Iq P (Ju P n) fs.toList 0
  |_=>none
def Mi (P:Program) (t:TypeId):Option (List ET):=if P.eqGuardType P.depth t=true then none else Ju P 6 t
def Tm (P:Program) (t:TypeId):Bool:=match P.info? t with
 |some i=>(match i.desc with| .named _ _=>true|_=>false)
 |none=>false
def QT (P:Program):Operand→Bool
 |.func f=>match P.funcs[f]? with
  |some fn=>(Nat.beq fn.ntmps 68&&Nat.beq fn.params.size 2)||fn.params.toList.any λt=>match P.underlying t with
   |some (.pointer _)=>true
   |some (.slice _)=>fn.resultTypes.toList.contains t&& !Tm P t
   |_=>false
  |none=>false
 | .tmp _=>true
 |_=>false
def TK (f:Operand) (xs:List AX):Bool:=(match f with| .tmp _=>true|_=>false)&&xs.all λx=>match x with| .k _=>true|_=>false
def bo (P:Program) (dr:Bool):Op→Option dV
 | .move x| .assign x=>(aC x).map .mv
 |.pick c a b=>match aC c,aC a,aC b with
  |some c,some a,some b=>some (.pick c a b)
  |_,_,_=>none
 | .alloc t=>((dj P t).bind wQ).map λv=> .box (.k v)
 | .box _ x=>(aC x).map .box
 |.build t parts=>match (dj P t).bind (λz=>cellsOf z.cells.toList),(DH P t).bind (xe · parts.toList)with
  |some z,some ps=>some (.build z ps)
  |_,_=>none
 |.buildSlice t n parts=>match dK P t,rb 0 parts.toList with
  |some (e,sz,_),some rs=>if rs.length=n∧n*sz≤16777216∧0<sz∧((dj P e).map λz=>decide (z.cells.size=sz))=some true then some (if(!dr&&Oi P e)=true then .bsliceF sz rs else .bslice sz rs)else none
  |_,_=>none
 |.load t p=>match kA P t,aC p with
  |some n,some p=>some (.load n p)
  |_,_=>none
 |.store t p v=>match iO P t,aC p,aC v with
  |some n,some p,some v=>some (.store n p v)
  |_,_,_=>none
 |.binOp op t x y _=>match aC x,aC y with
  |some x,some y=>match op with
   | .eql=>if Ih P t then some (.eqb false x y)else if xa P t then(Mi P t).map (.eqs false · x y)else if H5 P t then(if Hj y then some (.fnil false x)else none)else if LB P t then(if G1 y then some (.snil false x)else none)else some (.bin .eql x y)
   | .neq=>if Ih P t then some (.eqb true x y)else if xa P t then(Mi P t).map (.eqs true · x y)else if H5 P t then(if Hj y then some (.fnil true x)else none)else if LB P t then(if G1 y then some (.snil true x)else none)else some (.bin .neq x y)
   |op=>some (.bin op x y)
  |_,_=>none
 | .unOp op _ x=>(aC x).map (.un op)
 |.convert s d x=>match P.underlying s,P.underlying d,aC x with
  |some (.int _),some (.int k),some x=>some (.conv k x)
  |_,_,_=>none
 | .nilCheck x=>(aC x).map .nilc
 |.slice t x lo' HA mx'=>match P.underlying t,aC x,mn lo',mn HA,mn mx' with
  |some (.slice _),some x,some lo,some hi,some mx=>match dK P t with
   |some (_,sz,_)=>if 0<sz∧(mx'.isSome=true→HA.isSome=true)then some (.slc sz x lo hi mx)else none
   |none=>none
  |some .string,some x,some lo,some hi,some none=>some (.slcS x lo hi)
  |_,_,_,_,_=>none
 |.fieldAddr s x f=>match pD P s f,aC x with
  |some fd,some x=>if(iO P fd.type).getD 0=0 then none else some (.fieldA fd.offset x)
  |_,_=>none
 |.field s x f=>match pD P s f,aC x with
  |some fd,some x=>(kA P fd.type).map λn=> .field fd.offset n x
  |_,_=>none
 |.indexAddr t x i=>match dK P t,aC x,aC i with
  |some (_,sz,_),some x,some i=>some (.idxA sz x i)
  |none,some x,some i=>match P.underlying t with
   |some (.array n e)=>(iO P e).map λsz=> .idxR n sz x i
   |_=>none
  |_,_,_=>none
 |.index t x i=>if OS P t then match aC x,aC i with
  |some x,some i=>some (.idxS x i)
  |_,_=>none else none
 |.makeSlice t l c=>match dK P t,aC l,aC c with
  |some (e,sz,bytes),some (.t a),some (.t b)=>if a=b∧0<sz∧((dj P e).map λz=>decide (z.cells.size=sz))=some true then((dj P e).bind λz=>oS z.cells.toList).map λz=> .mkslice e sz bytes z (.t a)else none
  |_,_,_=>none
 | .extract x i=>(aC x).map λx=> .ext x i
 | .makeFunc (.func f) first caps=>if first.size=0 then(ka caps.toList).map (.mkfn f)else none
 |.call {callee:= .builtin .len,args,argTypes}=>match args.toList,argTypes.toList with
  |[x], [t]=>match aC x,P.underlying t with
   |some x,some (.slice _)=>some (.len x)
   |some x,some .string=>some (.lenS x)
   |_,_=>none
  |_,_=>none
 |.call {callee:= .builtin .min,args,..}=>match args.toList with
  |[x,y]=>match aC x,aC y with
   |some x,some y=>some (.mm false x y)
   |_,_=>none
  |_=>none
 |.call {callee:= .builtin .max,args,..}=>match args.toList with
  |[x,y]=>match aC x,aC y with
   |some x,some y=>some (.mm true x y)
   |_,_=>none
  |[x,y,z,t]=>match aC x,aC y,aC z,aC t with
   |some x,some y,some z,some t=>some (.mm4 x y z t)
   |_,_,_,_=>none
  |_=>none
 | .makeInterface _ _=>some .dead
 | .panic _=>some .dead
 |.call {callee:= .builtin .append,args,argTypes}=>match args.toList,argTypes.toList with
  |[x,y], [t,u]=>if t=u then match dK P t,aC x,aC y with
   |some (e,sz,bytes),some x,some y=>if 0<sz∧((dj P e).map λz=>decide (z.cells.size=sz))=some true then some (.app e sz bytes x y)else none
   |_,_,_=>none else none
  |_,_=>none
 |.call {callee:= .value f,args,..}=>match aC f,ka args.toList with
  |some y,some xs=>some (.call (!dr||(QT P f&& !TK f xs)) (!dr) y xs)
  |_,_=>none
 |.makeMap t none=>match kp P t with
  |some (kt,_,n)=>some (.mkmap kt n)
  |none=>none
 |.lookup t m k ok=>match kp P t,aC m,aC k with
  |some (kt,e,n),some m,some k=>((dj P e).bind (zT n)).map λz=> .mget kt n z ok m k
  |_,_,_=>none
 |.mapUpdate t m k v| .insert t m k v=>match kp P t,aC m,aC k,aC v with
  |some (kt,_,n),some m,some k,some v=>some (.mput kt n m k v)
  |_,_,_,_=>none
 |.mapEntry t m k=>match kp P t,aC m,aC k with
  |some (kt,e,n),some m,some k=>((dj P e).bind (zT n)).map λz=> .ment kt n z m k
  |_,_,_=>none
 |.entryStore t m s v=>match kp P t,aC m,aC s,aC v with
  |some (kt,_,n),some m,some s,some v=>some (.eput kt n m s v)
  |_,_,_,_=>none
 |_=>none
def KY (nt:Nat):Option Nat→Bool
 |some d=>decide (d<nt)
 |none=>true
def uK (P:Program) (dr:Bool) (nt:Nat) (ops:Array Oper) (o:Oper):Option AG:=
 if KY nt o.dst=false then none else match bo P dr o.op with
 |some ao=>match o.guard with
  |none=>some ⟨o.dst,none,ao⟩
  |some (j,want)=>match (ops[j]?).bind (·.dst)with
   |some t=>some ⟨o.dst,some (t,want),ao⟩
   |none=>none
 |none=>none
def fK (P:Program) (dr:Bool) (nt:Nat) (ops:Array Oper):List Oper→Option (List AG)
 | []=>some []
 |o::r=>match uK P dr nt ops o,fK P dr nt ops r with
  |some g,some gs=>some (g::gs)
  |_,_=>none
def AX.tmps:AX→List Nat
 | .t n=> [n]
 | .k _=> []
def GS:Option AX→List Nat
 |none=> []
 |some x=>x.tmps
def C6:List (Nat×Nat×AX)→List Nat
 | []=> []
 |(_,_,x)::r=>x.tmps++C6 r
def gh:List AX→List Nat
 | []=> []
 |x::r=>x.tmps++gh r
def dV.tmps:dV→List Nat
 | .mv x| .box x| .load _ x| .un _ x| .conv _ x| .fieldA _ x| .field _ _ x| .nilc x| .mkslice _ _ _ _ x| .ext x _| .len x| .lenS x| .fnil _ x| .snil _ x=>x.tmps
 | .pick c a b=>c.tmps++a.tmps++b.tmps
 | .store _ x y| .bin _ x y| .eqb _ x y| .eqs _ _ x y| .idxA _ x y| .idxR _ _ x y| .idxS x y| .app _ _ _ x y| .mm _ x y=>x.tmps++y.tmps
 | .build _ ps=>C6 ps
 | .bslice _ xs| .mkfn _ xs| .bsliceF _ xs=>gh xs
 | .slc _ x l h m=>x.tmps++GS l++GS h++GS m
 | .slcS x l h=>x.tmps++GS l++GS h
 | .call _ _ f xs=>f.tmps++gh xs
 | .mkmap _ _| .dead=> []
 | .mm4 x y z t=>x.tmps++y.tmps++z.tmps++t.tmps
 | .mget _ _ _ _ m k=>m.tmps++k.tmps
 | .mput _ _ m k v| .eput _ _ m k v=>m.tmps++k.tmps++v.tmps
 | .ment _ _ _ m k=>m.tmps++k.tmps
def dV.eff:dV→Bool
 | .box _| .store .. | .mkslice .. | .app .. | .bsliceF .. | .mkmap .. | .mput .. | .ment .. | .eput .. =>true
 | .call g z _ _=>g||z
 |_=>false
def dV.gcall:dV→Bool
 | .call _ z _ _=>z
 | .snil _ _=>true
 |_=>false
def dV.sens:dV→Bool
 | .load .. | .idxA .. | .len _| .slc .. | .call .. | .mget .. | .snil .. =>true
 |_=>false
def dV.lays:dV→Bool
 | .box _| .mkslice .. | .app .. | .bsliceF .. | .mkmap .. =>true
 |_=>false
def AG.looks (g:AG):List Nat:=(match g.guard with|some (t,_)=> [t]|none=> [])++g.op.tmps
def il (g h:AG):Bool:=
 (match g.dst with|some d=>h.looks.contains d||h.dst==some d|none=>false)||
 (match h.dst with|some d=>g.looks.contains d|none=>false)||
 (g.op.eff&&(h.op.eff||h.op.sens))||(g.op.sens&&h.op.eff&& !h.op.lays)
def tJ:Nat→List Oper→Bool
 |_, []=>true
 |j,o::r=>(o.after.toList.all λe=> !Region.binds .any e||decide (e.on<j))&&tJ (j+1) r
def su:List (Nat×Nat)→Nat→Nat
 | [],_=>0
 |(j,m)::r,k=>if j=k then m else su r k
def zo (E:List (Nat×Nat)) (j:Nat) (o:Oper):List Nat:=(o.after.toList.filterMap λe=>if Region.binds .any e=true then some e.on else none)++(E.filterMap λp=>if p.2=j then some p.1 else none)
def UI (acc:List (Nat×Nat)):List Nat→Nat
 | []=>0
 |k::r=>2^k|||su acc k|||UI acc r
def xo (ops:List Oper) (E:List (Nat×Nat)):List Nat→List (Nat×Nat)→List (Nat×Nat)
 | [],acc=>acc
 |j::r,acc=>xo ops E r ((j,match ops[j]? with|some o=>UI acc (zo E j o)|none=>0)::acc)
def En (M:List (Nat×Nat)) (i:Nat) (g:AG) (k:Nat) (x:Bool) (h:AG):Bool:=
 (su M k).testBit i||(!il g h&&(!(g.op.sens&&h.op.eff)||x))
def D5 (M:List (Nat×Nat)):List (Nat×Bool×AG)→Bool
 | []=>true
 |(i,_,g)::r=>(r.all λy=>En M i g y.1 y.2.1 y.2.2)&&D5 M r
def Cy:List Nat→Bool
 | []=>true
 |i::r=> !r.contains i&&Cy r
def Lv (ops:List Oper) (gs:List AG) (E:List (Nat×Nat)):Nat→List Nat→Option (List Nat)
 |0,done=>some done.reverse
 |f+1,done=>
  let rdy:Nat→Bool:= λi=> !done.contains i&&(match ops[i]? with|some o=>(zo E i o).all λk=>done.contains k|none=>false)
  match (List.range gs.length).find? λi=>rdy i&&(match gs[i]? with|some g=> !g.op.eff|none=>false)with
  |some i=>Lv ops gs E f (i::done)
  |none=>match (List.range gs.length).find? rdy with
   |some i=>Lv ops gs E f (i::done)
   |none=>none
def T5 (gs:List AG) (h:AG):Bool:=match h.op with
 | .app _ _ _ (.t s) _=>gs.any λg=>(g.dst==some s&&(match g.op with| .app .. =>true|_=>false))||(Nat.ble gs.length 6&&(match g.op,h.dst with| .call _ _ _ xs,some d=>(gh xs).contains d|_,_=>false))
 |_=>false
def Ia (gs:List AG) (M:List (Nat×Nat)):List (Nat×AG)→List Nat→Option (List (Nat×Bool×AG))
 |_, []=>some []
 |prev,k::r=>match gs[k]? with
  |some h=>match Ia gs M ((k,h)::prev) r with
   |some l=>some ((k,h.op.eff&&h.op.lays&& !T5 gs h&&prev.any (λy=>y.2.op.sens&& !(su M k).testBit y.1),h)::l)
   |none=>none
  |none=>none
def Un (M:List (Nat×Nat)):List (Nat×Bool×AG)→Option (Nat×Nat)
 | []=>none
 |(i,_,g)::r=>match r.find? λy=> !En M i g y.1 y.2.1 y.2.2 with
  |some y=>some (i,y.1)
  |none=>Un M r
def DT (ops:List Oper) (gs:List AG):Nat→List (Nat×Nat)→Option (List (List (Nat×Bool×AG)))
 |0,_=>none
 |f+1,E=>match Lv ops gs E gs.length []with
  |none=>none
  |some ord=>match Ia gs (xo ops E ord []) [] ord with
   |none=>none
   |some leaf=>match Un (xo ops E ord []) leaf with
    |none=>if(D5 (xo ops E ord []) leaf&&Cy ord&&(List.range gs.length).all (λi=>ord.contains i)&&ord.all (λi=>decide (i<gs.length)))=true then some [leaf]else none
    |some (i,k)=>if i=k then none else match DT ops gs f ((i,k)::E),DT ops gs f ((k,i)::E)with
     |some a,some b=>some (a++b)
     |_,_=>none
def sR (leaf:List (Nat×Bool×AG)):List (Bool×AG):=leaf.map λy=>y.2
def oa (P:Program) (ops:List Oper) (gs:List AG):ah:=
 if(P.follows .mixedOrders&&tJ 0 ops&&gs.all (λg=> !g.op.gcall))=true then match DT ops gs 6 []with
  |some gss=> .draw (gss.map sR)
  |none=> .region gs true
 else .region gs true
def nQ (P:Program) (dr:Bool) (ops:List Oper) (gs:List AG):ah:=if dr=true then oa P ops gs else .region gs false
def dq (P:Program) (nt:Nat):Code→Option ah
 | .skip=>some .skip
 | .region _ ops draw=>(fK P draw nt ops ops.toList).map λgs=>nQ P draw ops.toList gs
 |.seq a b=>match dq P nt a,dq P nt b with
  |some a,some b=>some (.seq a b)
  |_,_=>none
 |.cond c a b=>match aC c,dq P nt a,dq P nt b with
  |some c,some a,some b=>some (.cond c a b)
  |_,_,_=>none
 | .block id a=>(dq P nt a).map (.block id)
 | .loop a=>(dq P nt a).map .loop
 | .exit id=>some (.exit id)
 | .scope a=>none
 | .ret=>some .ret
 |.rangeFunc f ps a b=>match aC f,dq P nt a,dq P nt b,ps.toList.all (λt=>decide (t<nt))with
  |some f,some a,some b,true=>some (.rangeF f ps.toList a b)
  |_,_,_,_=>none
 |_=>none
theorem bH.one {w:World} {U:Nat→Prop} {p:PC} {v:Value} (h:bH w U p v):v.oneCell'=true:=by
 cases h with
 |val h=>cases v<;>simp_all [ry,Value.oneCell']
 |slice=>rfl
 |fmap=>rfl
theorem bz.one {w:World} {U:Nat→Prop} {ι:Pl} {N:Nat} {x:AC} {v:Value} (h:bz w U ι N x v):v.oneCell'=true:=by
 cases h with
 |pure h=>exact h.one
 |nils=>rfl
 |tsl h=>rfl
 |ptr=>rfl
 |eptr=>rfl
 |cptr=>rfl
 |ref _ h=>obtain⟨a,n,c,e⟩:=h;rw[e];rfl
 |clo=>rfl
 |mref=>rfl
 |top h=>exact h
theorem Nb {v:Value} (h:v.oneCell'=true):v.cells= #[v]:=by cases v<;>simp_all [Value.oneCell',Value.cells]
theorem bz.mono {w w':World} {U U':Nat→Prop} {ι ι':Pl} {N N':Nat} {x:AC} {v:Value} (h:bz w U ι N x v) (hU: ∀b,b<w.heap.size→U b→U' b)
  (hw: ∀b,b<w.heap.size→U b→w'.heap[b]? =w.heap[b]?) (hι: ∀nm,nm<N→ι' nm=ι nm) (hN:N≤N'):bz w' U' ι' N' x v:=by
 induction h with
 |pure h=>exact .pure (h.mono hU hw)
 |nils=>exact .nils
 |tsl h=>exact .tsl (h.mono hU hw)
 |ptr hn h=>exact .ptr (by omega) (by rw[hι _ hn];exact h)
 |eptr hn h=>exact .eptr (by omega) (by rw[hι _ hn];exact h)
 |cptr g hc=>
  refine .cptr g λj p hj=> ?_
  obtain⟨h1,h2,h3⟩:=hc j p hj
  have H:=World.block_lt_of_cell? w _ h2
  exact⟨hU _ H h1,by rw[World.cell?_of_block (hw _ H h1)];exact h2,h3.mono hU hw⟩
 |ref hn h=>rw[←hι _ hn];exact .ref (by omega) (by rw[hι _ hn];exact h)
 |clo hl _ ih=>exact .clo hl ih
 |mref hn h=>exact .mref (by omega) (by rw[hι _ hn];exact h)
 |top h=>exact .top h
theorem aK.mono {w w':World} {U U':Nat→Prop} {ι ι':Pl} {N N':Nat} {x:AV} {v:Value} (h:aK w U ι N x v) (hU: ∀b,b<w.heap.size→U b→U' b)
  (hw: ∀b,b<w.heap.size→U b→w'.heap[b]? =w.heap[b]?) (hι: ∀nm,nm<N→ι' nm=ι nm) (hN:N≤N'):aK w' U' ι' N' x v:=by
 induction h with
 |c h=>exact .c (h.mono hU hw hι hN)
 |agg h=>exact .agg (h.mono λ_ _ h=>h.mono hU hw hι hN)
 |tup hl _ ih=>exact .tup hl ih
 |top=>exact .top
theorem dF {fr:List (Nat×AV)} {d:Nat} {v:AV} {t:Nat}:aL ((d,v)::fr) t=if d=t then v else aL fr t:=rfl
theorem bl.put {w0:World} {U:Gh} {σ:St} {ι:Pl} {a:Act} {w:World} {d:Option Nat} {v:AV} {u:Value} (h:bl w0 U σ ι a w)
  (hd: ∀t,d=some t→t<a.tmps.size) (hv:aK w (aB w0.heap.size U ι σ.mem) ι σ.nx v u):bl w0 U (σ.put d v) ι (a.put d u) w:=by
 cases d with
 |none=>exact h
 |some t=>
  refine⟨λs=> ?_,h.defers,h.names,h.box,h.apart,h.below,h.keep,h.base⟩
  show aK w (aB w0.heap.size U ι σ.mem) ι σ.nx (aL ((t,v)::σ.fr) s) ((a.tmps.setIfInBounds t u).getD s undef)
  rw[dF]
  by_cases hs:t=s
  ·subst hs
   rw[if_pos rfl]
   have:=hd t rfl
   simp[Array.getD_eq_getD_getElem?,this,hv]
  ·rw[if_neg hs]
   have:=h.val s
   simpa[Array.getD_eq_getD_getElem?,Array.getElem?_setIfInBounds_ne hs]using this
theorem s4.block {B:Nat} {w:World} {U:Nat→Prop} {ι:Pl} {N nm:Nat} {bx:bm} (h:s4 B w U ι N nm bx) {b:Nat} (hb:bc (ι nm)=some b):B≤b∧b<w.heap.size:=by
 cases bx with
 |var xs=>
  obtain⟨b',vs,T,h1,h2,h3,_⟩:=h
  rw[h1]at hb
  simp[bc]at hb
  subst hb
  exact⟨h2,(Array.getElem?_eq_some_iff.1 h3).1⟩
 |arr e sz rows=>
  obtain⟨cells,_,h1,_⟩:=h
  refine World.ownsRow.lt h1 b ?_
  generalize ι nm=v at*
  unfold bc at hb
  unfold Value.ownBlock
  split at hb<;>simp_all
  all_goals(rcases h1.2 with⟨h,_⟩|⟨g,cap,cur,h,_⟩<;>cases h)
 |arn e sz rows=>
  obtain⟨cells,_,h1,_⟩:=h
  refine World.ownsRow.lt h1 b ?_
  generalize ι nm=v at*
  unfold bc at hb
  unfold Value.ownBlock
  split at hb<;>simp_all
  all_goals(rcases h1.2 with⟨h,_⟩|⟨g,cap,cur,h,_⟩<;>cases h)
 |map kt n ents=>
  obtain⟨b',es,clock,h1,h2,h3,_⟩:=h
  rw[h1]at hb
  simp[bc]at hb
  subst hb
  exact⟨h2,(Array.getElem?_eq_some_iff.1 h3).1⟩
theorem fM.mono {w w':World} {U U':Nat→Prop} {ι ι':Pl} {N N' sz:Nat} {rows:List (List AC)} {cells:List Value} (h:fM w U ι N sz rows cells) (hU: ∀b,b<w.heap.size→U b→U' b)
  (hw: ∀b,b<w.heap.size→U b→w'.heap[b]? =w.heap[b]?) (hι: ∀nm,nm<N→ι' nm=ι nm) (hN:N≤N'):fM w' U' ι' N' sz rows cells:=
 ⟨h.1,h.2.1,λi row j p hi hj=>by
  obtain⟨v,hv,hp⟩:=h.2.2 i row j p hi hj
  exact⟨v,hv,hp.mono hU hw hι hN⟩⟩
theorem iL.mono {w w':World} {U U':Nat→Prop} {ι ι':Pl} {N N':Nat} {kt:KT} {n:Option Nat} {x:MK×List AC} {e:MapEntry} (h:iL w U ι N kt n x e) (hU: ∀b,b<w.heap.size→U b→U' b)
  (hw: ∀b,b<w.heap.size→U b→w'.heap[b]? =w.heap[b]?) (hι: ∀nm,nm<N→ι' nm=ι nm) (hN:N≤N'):iL w' U' ι' N' kt n x e:=⟨h.1,h.2.mono hU hw hι hN⟩
theorem s4.grow {B:Nat} {w w':World} {U U':Nat→Prop} {ι ι':Pl} {N N' nm:Nat} {bx:bm} (h:s4 B w U ι N nm bx) (hg:Below w.heap.size w w')
  (hU: ∀b,b<w.heap.size→U b→U' b) (hι: ∀nm,nm<N→ι' nm=ι nm) (hN:N≤N') (hn:nm<N):s4 B w' U' ι' N' nm bx:=by
 have hw: ∀b,b<w.heap.size→U b→w'.heap[b]? =w.heap[b]? := λb hb _=>hg.block b hb
 cases bx with
 |var xs=>
  obtain⟨b,vs,T,h1,h2,h3,h4⟩:=h
  exact⟨b,vs,T,by rw[hι _ hn];exact h1,h2,by rw[hg.block b (Array.getElem?_eq_some_iff.1 h3).1];exact h3,h4.mono λ_ _ h=>h.mono hU hw hι hN⟩
 |arr e sz rows=>
  obtain⟨cells,h0,h1,h2,h3,h4,h5⟩:=h
  refine⟨cells,h0, ?_,h2,h3,h4,λi row j p hi hj=> ?_⟩
  ·rw[hι _ hn]
   exact World.ownsRow.kept (row:=none) h1 ⟨hg.os,hg.tape,hg.output,hg.size,λk hk _=>hg.block k hk⟩ (by cases (ι nm).ownBlock<;>simp)
  ·obtain⟨v,hv,hp⟩:=h5 i row j p hi hj
   exact⟨v,hv,hp.mono hU hw⟩
 |arn e sz rows=>
  obtain⟨cells,h0,h1,h2,h3⟩:=h
  refine⟨cells,h0, ?_,h2,h3.mono hU hw hι hN⟩
  rw[hι _ hn]
  exact World.ownsRow.kept (row:=none) h1 ⟨hg.os,hg.tape,hg.output,hg.size,λk hk _=>hg.block k hk⟩ (by cases (ι nm).ownBlock<;>simp)
 |map kt n ents=>
  obtain⟨b,es,clock,h1,h2,h3,h4,h5⟩:=h
  exact⟨b,es,clock,by rw[hι _ hn];exact h1,h2,by rw[hg.block b (Array.getElem?_eq_some_iff.1 h3).1];exact h3,h4.mono λ_ _ h=>h.mono hU hw hι hN,h5⟩
theorem bl.grow {w0:World} {U:Gh} {σ:St} {ι:Pl} {a:Act} {w w':World} (h:bl w0 U σ ι a w) (hg:Below w.heap.size w w'):bl w0 U σ ι a w':=
 ⟨λt=>(h.val t).mono (λ_ _ h=>h) (λb hb _=>hg.block b hb) (λ_ _=>rfl) (Nat.le_refl _),h.defers,h.names,
  λnm bx hf=>(h.box nm bx hf).grow hg (λ_ _ h=>h) (λ_ _=>rfl) (Nat.le_refl _) (h.names _ _ hf),h.apart,h.below.trans (hg.mono h.below.size),
  U.mono _ _ _ _ h.keep (λ_ _ h=>h) (λb hb _=>hg.block b hb),h.base⟩
theorem bt {m:List (Nat×bm)} {k:Nat} {c:bm} {n:Nat}:am ((k,c)::m) n=if k=n then some c else am m n:=rfl
theorem bl.newBox {w0:World} {U:Gh} {σ:St} {ι:Pl} {a:Act} {w w':World} {bx:bm} {pv:Value} (h:bl w0 U σ ι a w) (hg:Below w.heap.size w w')
  (HL: ∀b,bc pv=some b→w.heap.size≤b)
  (hb: ∀ι',(∀nm,nm<σ.nx→ι' nm=ι nm)→ι' σ.nx=pv→(∀b,b<w.heap.size→aB w0.heap.size U ι σ.mem b→aB w0.heap.size U ι' ((σ.nx,bx)::σ.mem) b)→s4 w0.heap.size w' (aB w0.heap.size U ι' ((σ.nx,bx)::σ.mem)) ι' (σ.nx+1) σ.nx bx):
  ∃ι',bl w0 U {σ with mem:=(σ.nx,bx)::σ.mem,nx:=σ.nx+1} ι' a w'∧ι' σ.nx=pv∧(∀nm,nm<σ.nx→ι' nm=ι nm)∧
   (∀b,b<w.heap.size→aB w0.heap.size U ι σ.mem b→aB w0.heap.size U ι' ((σ.nx,bx)::σ.mem) b):=by
 let ι':Pl:= λn=>if n=σ.nx then pv else ι n
 have e1:ι' σ.nx=pv:=if_pos rfl
 have e2: ∀nm,nm<σ.nx→ι' nm=ι nm:= λnm hn=>if_neg (by omega)
 have C: ∀b,b<w.heap.size→aB w0.heap.size U ι σ.mem b→aB w0.heap.size U ι' ((σ.nx,bx)::σ.mem) b:=by
  intro b hb hf
  refine⟨hf.1,λnm bx' hn=> ?_⟩
  rw[bt]at hn
  by_cases e:σ.nx=nm
  ·subst e
   rw[e1]
   intro hc
   have:=HL b hc
   omega
  ·rw[if_neg e]at hn
   rw[e2 _ (h.names _ _ hn)]
   exact hf.2 _ _ hn
 refine⟨ι',⟨λt=> ?_,h.defers,λnm bx' hn=> ?_,λnm bx' hn=> ?_, ?_,h.below.trans (hg.mono h.below.size),U.mono _ _ _ _ h.keep C (λb hb _=>hg.block b hb),⟨Nat.le_succ_of_le h.base.1,λnm hn=>(e2 nm (Nat.lt_of_lt_of_le hn h.base.1)).trans (h.base.2 nm hn)⟩⟩,e1,e2,C⟩
 ·exact(h.val t).mono C (λb hb _=>hg.block b hb) e2 (Nat.le_succ _)
 ·rw[bt]at hn
  show nm<σ.nx+1
  by_cases e:σ.nx=nm
  ·omega
  ·rw[if_neg e]at hn
   have:=h.names _ _ hn
   omega
 ·rw[bt]at hn
  by_cases e:σ.nx=nm
  ·subst e
   rw[if_pos rfl]at hn
   cases hn
   exact hb ι' e2 e1 C
  ·rw[if_neg e]at hn
   exact(h.box nm bx' hn).grow hg C e2 (Nat.le_succ _) (h.names _ _ hn)
 ·intro nm nm' b1 b2 b h1 h2 h3 h4
  rw[bt]at h1 h2
  by_cases e:σ.nx=nm
  ·by_cases e':σ.nx=nm'
   ·omega
   ·rw[if_neg e']at h2
    subst e
    rw[e1]at h3
    rw[e2 _ (h.names _ _ h2)]at h4
    have:=HL b h3
    have:=((h.box _ _ h2).block h4).2
    omega
  ·rw[if_neg e]at h1
   by_cases e':σ.nx=nm'
   ·subst e'
    rw[e1]at h4
    rw[e2 _ (h.names _ _ h1)]at h3
    have:=HL b h4
    have:=((h.box _ _ h1).block h3).2
    omega
   ·rw[if_neg e']at h2
    rw[e2 _ (h.names _ _ h1)]at h3
    rw[e2 _ (h.names _ _ h2)]at h4
    exact h.apart _ _ _ _ _ h1 h2 h3 h4
theorem dp {m:List (Nat×bm)} {k:Nat} {c:bm}: ∀{n:Nat},am (dG m k c) n=if k=n then(am m n).map (λ_=>c)else am m n:=by
 induction m with
 |nil=>intro n;simp[dG,am]
 |cons x m ih=>
  intro n
  obtain⟨k',b⟩:=x
  simp only[dG]
  by_cases e:k'=k
  ·subst e
   rw[if_pos rfl,bt,bt]
   by_cases e':k'=n
   ·simp[e']
   ·simp[e']
  ·rw[if_neg e,bt,bt,ih]
   by_cases e':k'=n
   ·subst e'
    simp[Ne.symm e]
   ·simp[e']
theorem bH.nil {w:World} {U:Nat→Prop} {a:Option Addr} {c:Nat}:bH w U (.slice []) (.slice a 0 c):=
 .slice (sz:=0) (λ_ _=>undef) rfl (Nat.zero_le _) (by omega) (by simp) (by simp) (by simp)
section
variable {w : World} {U : Nat → Prop} {ι : Pl} {N : Nat}
theorem o7 {v:Value} {x:AC} (h:zj v=some x):bz w U ι N x v:=by
 unfold zj at h
 split at h
 ·cases h;exact .nils
 ·split at h
  ·cases h;exact .pure (.val ‹_›)
  ·cases h
theorem jF: ∀{vs:List Value} {xs:List AC},cellsOf vs=some xs→aJ (bz w U ι N) xs vs
 | [],xs,h=>by cases h;exact .nil
 |v::r,xs,h=>by
  unfold cellsOf at h
  split at h
  ·cases h
   exact .cons (o7 ‹_›) (jF ‹_›)
  ·cases h
theorem JG {v:Value} {x:PC} (h:Ip v=some x):bH w U x v:=by
 unfold Ip at h
 split at h
 ·cases h;exact .nil
 ·split at h
  ·cases h;exact .val ‹_›
  ·cases h
theorem wU: ∀{vs:List Value} {xs:List PC},oS vs=some xs→aJ (bH w U) xs vs
 | [],xs,h=>by cases h;exact .nil
 |v::r,xs,h=>by
  unfold oS at h
  split at h
  ·cases h
   exact .cons (JG ‹_›) (wU ‹_›)
  ·cases h
theorem Al {v:Value} {x:AV} (h:wQ v=some x):aK w U ι N x v:=by
 unfold wQ at h
 split at h
 ·rename_i vs
  cases e:cellsOf vs.toList with
  |none=>simp[e]at h
  |some xs=>simp[e]at h;subst h;exact .agg (jF e)
 ·rename_i vs
  split at h
  ·cases h
   exact .tup (by simp;omega) (by simp)
  ·cases h
 ·cases e:zj v with
  |none=>simp[e]at h
  |some y=>simp[e]at h;subst h;exact .c (o7 e)
theorem aQ {v u:Value} (h:aK w U ι N (.c (.pure (.val v))) u):u=v∧ry v=true:=by
 cases h with|c h=>cases h with|pure h=>cases h with|val h=>exact⟨rfl,h⟩
theorem mQ {v:Value} (h:ry v=true):aK w U ι N (.c (.pure (.val v))) v:= .c (.pure (.val h))
theorem fN (k:IntKind) (n:Int):aK w U ι N (.c (.pure (.val (.int k n)))) (.int k n):=mQ rfl
theorem ib (b:Bool):aK w U ι N (.c (.pure (.val (.bool b)))) (.bool b):=mQ rfl
theorem fO:aK w U ι N (.tup []) undef:= .tup rfl (by simp)
theorem aK.cells {v:AV} {u:Value} {xs:List AC} (h:aK w U ι N v u) (hx:v.cells=some xs):aJ (bz w U ι N) xs u.cells.toList:=by
 cases h with
 |c h=>
  cases hx
  rw[Nb h.one]
  exact .cons h .nil
 |agg h=>cases hx;exact h
 |tup=>cases hx
 |top=>cases hx
end
section
variable {P : Program} {o : Oper} {a : Act} {w w0 : World} {U : Gh} {ι : Pl} {σ : St} {next : Act → World → Prop} {Q : Exit → Act → World → Prop} {K : AV → St → Prop}
theorem al {x:Operand} {y:AX} (h:aC x=some y) (hs:bl w0 U σ ι a w):aK w (aB w0.heap.size U ι σ.mem) ι σ.nx (y.ev σ.fr) (a.eval x):=by
 cases x with
 |tmp t=>cases h;exact hs.val t
 |const v=>
  simp[aC]at h
  obtain⟨z,hz,rfl⟩:=h
  exact Al hz
 |global g=>cases h
 |func f=>
  cases h
  exact .c (.clo rfl (by simp))
def eA (w0:World) (U:Gh) (a:Act) (o:Oper) (K:AV→St→Prop) (next:Act→World→Prop):Prop:=
 ∀v σ' ι' u w',K v σ'→bl w0 U σ' ι' a w'→aK w' (aB w0.heap.size U ι' σ'.mem) ι' σ'.nx v u→next (a.put o.dst u) w'
theorem aA {u:Value} {w':World} (h:(execOp a.eval o).run P w= .ok (.value u) w') (hn:next (a.put o.dst u) w'):o.wp P a w next Q:=by
 unfold Oper.wp
 rw[h]
 exact hn
theorem jl {w':World} (h:(execOp a.eval o).run P w= .ok .skip w') (hn:next (a.put o.dst undef) w'):o.wp P a w next Q:=by
 unfold Oper.wp
 rw[h]
 exact hn
theorem Sm {x:Operand} {y:AX} (ho:o.op= .move x∨o.op= .assign x) (hx:aC x=some y) (h:bh P (.mv y) σ K) (hs:bl w0 U σ ι a w) (hn:eA w0 U a o K next):o.wp P a w next Q:=by
 refine aA (u:=a.eval x) (w':=w) ?_ (hn _ σ ι _ w h hs (al hx hs))
 rcases ho with ho|ho<;>simp[execOp,ho]
theorem R8 {x y z:Operand} {c p q:AX} (ho:o.op= .pick x y z) (hx:aC x=some c) (hy:aC y=some p) (hz:aC z=some q) (h:bh P (.pick c p q) σ K) (hs:bl w0 U σ ι a w) (hn:eA w0 U a o K next):o.wp P a w next Q:=by
 have r1:=al hx hs
 simp only[bh]at h
 split at h
 ·rename_i t e
  rw[e]at r1
  have e1:=(aQ r1).1
  refine aA (u:=if t then a.eval y else a.eval z) (w':=w) (by simp[execOp,ho,e1,asBool]) ?_
  cases t with
  |true=>exact hn _ σ ι _ w (h.1 rfl) hs (al hy hs)
  |false=>exact hn _ σ ι _ w (h.2 rfl) hs (al hz hs)
 ·exact h.elim
theorem RF {s d:TypeId} {x:Operand} {y:AX} {k k0:IntKind} (ho:o.op= .convert s d x) (Zq:P.underlying s=some (.int k0)) (hk:P.underlying d=some (.int k)) (hx:aC x=some y) (h:bh P (.conv k y) σ K) (hs:bl w0 U σ ι a w) (hn:eA w0 U a o K next):o.wp P a w next Q:=by
 have r1:=al hx hs
 simp only[bh]at h
 split at h
 ·rename_i k1 n e
  rw[e]at r1
  have e1:=(aQ r1).1
  refine aA (u:= .int k (k.wrap n)) (w':=w) ?_ (hn _ σ ι _ w h hs (fN _ _))
  simp[execOp,ho,e1,convert,run_underlying Zq,run_underlying hk,Conv.intToInt]
 ·exact h.elim
theorem UZ {u:UnOp} {t:TypeId} {x:Operand} {y:AX} (ho:o.op= .unOp u t x) (hx:aC x=some y) (h:bh P (.un u y) σ K) (hs:bl w0 U σ ι a w) (hn:eA w0 U a o K next):o.wp P a w next Q:=by
 have r1:=al hx hs
 simp only[bh]at h
 split at h
 ·rename_i b e
  rw[e]at r1
  have e1:=(aQ r1).1
  exact aA (u:= .bool (!b)) (w':=w) (by simp[execOp,ho,e1,Op.unary]) (hn _ σ ι _ w h hs (ib _))
 ·rename_i k n e
  rw[e]at r1
  have e1:=(aQ r1).1
  exact aA (w':=w) (by simp[execOp,ho,e1,Op.unary,Op.intArith];try rfl) (hn _ σ ι _ w h hs (fN _ _))
 ·rename_i k n e
  rw[e]at r1
  have e1:=(aQ r1).1
  exact aA (w':=w) (by simp[execOp,ho,e1,Op.unary,Op.intBits];try rfl) (hn _ σ ι _ w h hs (fN _ _))
 ·exact h.elim
theorem O8 {op:BinOp} {t:TypeId} {x y:Value} {K:Value→Prop} (h:Br op x y K) (ga:op≠ .shl∧op≠ .shr): ∃v,(binOp op t x y).run P w= .ok v w∧ry v=true∧K v:=by
 unfold Br at h
 split at h
 ·obtain⟨rfl,h⟩:=h
  simp only[mw]at h
  split at h<;>first
   |exact h.elim
   |(obtain⟨h0,h⟩:=h;exact⟨_,by simp[binOp,Op.intArith,Op.intDiv,Op.intBits,Op.intCmp,h0];try rfl,rfl,h⟩)
   |exact⟨_,by simp[binOp,Op.intArith,Op.intDiv,Op.intBits,Op.intCmp];try rfl,rfl,h⟩
 ·simp only[wj]at h
  split at h
  ·obtain⟨h0,h⟩:=h
   refine⟨_, ?_,rfl,h⟩
   simp[binOp,Op.stringOp]
   omega
  all_goals first
   |exact h.elim
   |exact⟨_,by simp[binOp,Op.stringOp];try rfl,rfl,h⟩
 ·exact h.elim
def KF:Value→Bool
 | .nilIface| .agg _=>false
 |_=>true
theorem tf {op:BinOp} {t:TypeId} {x y:Operand} {u v:Value} (hu:KF u=true):(eqGuard op t x y u v).run P w= .ok () w:=by
 cases u<;>simp[KF]at hu<;>(unfold eqGuard;cases op<;>simp)
theorem KM {op:BinOp} {t t':TypeId} {x y:Operand} {p q:AX} (ho:o.op= .binOp op t x y t') (hx:aC x=some p) (hy:aC y=some q) (h:bh P (.bin op p q) σ K) (hs:bl w0 U σ ι a w) (hn:eA w0 U a o K next):o.wp P a w next Q:=by
 have r1:=al hx hs
 have r2:=al hy hs
 simp only[bh]at h
 split at h
 ·rename_i u v e e'
  rw[e]at r1
  rw[e']at r2
  obtain⟨e1,s1⟩:=aQ r1
  obtain⟨e2,s2⟩:=aQ r2
  split at h
  ·unfold nE at h
   split at h
   ·obtain⟨h0,h⟩:=h
    simp only[sH]at h
    refine aA (w':=w) ?_ (hn _ σ ι _ w h hs (fN _ _))
    simp[execOp,ho,e1,e2,eqGuard,binOp,Op.shift,Int.not_lt.2 h0]
   ·exact h.elim
  ·unfold nE at h
   split at h
   ·obtain⟨h0,h⟩:=h
    simp only[sH]at h
    refine aA (w':=w) ?_ (hn _ σ ι _ w h hs (fN _ _))
    simp[execOp,ho,e1,e2,eqGuard,binOp,Op.shift,Int.not_lt.2 h0]
   ·exact h.elim
  ·rename_i n1 n2
   have hg:KF u=true:=by
    unfold Br at h
    split at h
    ·rfl
    ·rfl
    ·exact h.elim
   obtain⟨r,hr,Zr,hk⟩:=O8 (P:=P) (w:=w) (t:=t) h ⟨n1,n2⟩
   refine aA (u:=r) (w':=w) ?_ (hn _ σ ι _ w hk hs (mQ Zr))
   simp only[execOp,ho,e1,e2]
   rw[Sem.run_bind,Sem.run_bind,tf hg]
   simp[hr]
 ·exact h.elim
theorem zr (d:Nat) {t:TypeId} {u v:Bool} (ht:P.underlying t=some .bool):(Op.equalIn (d+1) t (.bool u) (.bool v)).run P w= .ok (u==v) w:=by
 simp[Op.equalIn,run_underlying ht]
theorem Qu {op:BinOp} {t t':TypeId} {x y:Operand} {p q:AX} {neg:Bool} (ga:(op= .eql∧neg=false)∨(op= .neq∧neg=true)) (ht:P.underlying t=some .bool) (ho:o.op= .binOp op t x y t') (hx:aC x=some p) (hy:aC y=some q)
  (h:bh P (.eqb neg p q) σ K) (hs:bl w0 U σ ι a w) (hn:eA w0 U a o K next):o.wp P a w next Q:=by
 have r1:=al hx hs
 have r2:=al hy hs
 simp only[bh]at h
 split at h
 ·rename_i u v e e'
  rw[e]at r1
  rw[e']at r2
  have e1:=(aQ r1).1
  have e2:=(aQ r2).1
  have hq:(Op.equal t (.bool u) (.bool v)).run P w= .ok (u==v) w:=zr 9999 ht
  refine aA (u:= .bool ((u==v) !=neg)) (w':=w) ?_ (hn _ σ ι _ w h hs (ib _))
  simp only[execOp,ho,e1,e2]
  rw[Sem.run_bind,Sem.run_bind,tf rfl]
  rcases ga with⟨rfl,rfl⟩|⟨rfl,rfl⟩<;>simp[binOp,hq]
 ·exact h.elim
theorem LT {op:BinOp} {t t':TypeId} {x y:Operand} {p q:AX} {neg:Bool} (ga:(op= .eql∧neg=false)∨(op= .neq∧neg=true)) (ht:H5 P t=true) (hq:Hj q=true) (ho:o.op= .binOp op t x y t') (hx:aC x=some p) (hy:aC y=some q)
  (h:bh P (.fnil neg p) σ K) (hs:bl w0 U σ ι a w) (hn:eA w0 U a o K next):o.wp P a w next Q:=by
 have r1:=al hx hs
 have r2:=al hy hs
 unfold Hj at hq
 split at hq
 ·have e2:=(aQ r2).1
  unfold H5 at ht
  split at ht
  ·rename_i hT
   simp only[bh]at h
   split at h
   ·rename_i f caps e
    rw[e]at r1
    generalize hu:a.eval x=u at r1
    cases r1 with
    |c r1=>
     cases r1 with
     | @clo _ _ vs hl hh=>
      have hr:(Op.equal t (.func (.func f) #[] vs) .nilFunc).run P w= .ok false w:=by
       show(Op.equalIn (9999+1) t (.func (.func f) #[] vs) .nilFunc).run P w= .ok false w
       unfold Op.equalIn
       simp[run_underlying hT]
      have hg:(eqGuard op t x y (.func (.func f) #[] vs) .nilFunc).run P w= .ok () w:=by unfold eqGuard;cases op<;>simp
      refine aA (u:= .bool neg) (w':=w) ?_ (hn _ σ ι _ w h hs (ib _))
      simp only[execOp,ho,hu,e2]
      rw[Sem.run_bind,Sem.run_bind,hg]
      rcases ga with⟨rfl,rfl⟩|⟨rfl,rfl⟩<;>simp[binOp,hr]
   ·rename_i e
    rw[e]at r1
    have e1:=(aQ r1).1
    have hr:(Op.equal t .nilFunc .nilFunc).run P w= .ok true w:=by
     show(Op.equalIn (9999+1) t .nilFunc .nilFunc).run P w= .ok true w
     unfold Op.equalIn
     simp[run_underlying hT]
    have hg:(eqGuard op t x y .nilFunc .nilFunc).run P w= .ok () w:=by unfold eqGuard;cases op<;>simp
    refine aA (u:= .bool (!neg)) (w':=w) ?_ (hn _ σ ι _ w h hs (ib _))
    simp only[execOp,ho,e1,e2]
    rw[Sem.run_bind,Sem.run_bind,hg]
    rcases ga with⟨rfl,rfl⟩|⟨rfl,rfl⟩<;>simp[binOp,hr]
   ·exact h.elim
  ·cases ht
 ·cases hq
end
open Go.RowKit
theorem fR (b off k:Nat):(⟨b,off,none⟩:Addr).add k=⟨b,off+k,none⟩:=by
 unfold Addr.add
 split<;>simp_all
section
variable {P : Program} {o : Oper} {a : Act} {w w0 : World} {U : Gh} {ι : Pl} {σ : St} {next : Act → World → Prop} {Q : Exit → Act → World → Prop} {K : AV → St → Prop}
theorem F9 {t:TypeId} (h:kA P t=some none) {v:Value} {ad:Addr} (hc:w.cell? ad=some v):(loadVar t ad).run P w= .ok v w:=by
 unfold kA at h
 split at h
 ·cases h
 ·cases h
 ·rename_i d i n1 n2 hd hi
  have HB:(isAgg t).run P w= .ok false w:=by
   unfold isAgg
   cases d<;>first|(simp[run_underlying hd];done)|exact absurd rfl (n1 _)|exact absurd rfl (n2 _ _)
  simp[loadVar,HB,hc]
 ·cases h
theorem F3 {t:TypeId} {n:Nat} (h:kA P t=some (some n)) {vs:List Value} {ad:Addr} (hn:vs.length=n) (hc: ∀(j:Nat) v,vs[j]? =some v→w.cell? (ad.add j)=some v):(loadVar t ad).run P w= .ok (.agg vs.toArray) w:=by
 have hl:=run_loadCells_list (P:=P) w ad vs hc
 unfold kA at h
 split at h
 ·rename_i fs i hd hi
  simp at h
  have HB:(isAgg t).run P w= .ok true w:=by simp[isAgg,run_underlying hd]
  simp[loadVar,HB,sizeOf,typeInfo,hi,h,←hn,hl]
 ·rename_i fs i hd hi
  simp at h
  have HB:(isAgg t).run P w= .ok true w:=by simp[isAgg,run_underlying hd]
  simp[loadVar,HB,sizeOf,typeInfo,hi,h,←hn,hl]
 ·split at h<;>cases h
 ·cases h
theorem Ca {q:AC} {u:Value} {xs:List AC} (hs:bl w0 U σ ι a w) (h:bz w (aB w0.heap.size U ι σ.mem) ι σ.nx q u) (hx:bv σ.mem q=some xs):
  ∃b off,u= .pointer (some ⟨b,off,none⟩)∧ ∀(j:Nat) x,xs[j]? =some x→ ∃v,w.cell? ⟨b,off+j,none⟩=some v∧bz w (aB w0.heap.size U ι σ.mem) ι σ.nx x v:=by
 cases h with
 |ptr hn h=>
  rename_i nm off b
  unfold bv at hx
  split at hx
  ·rename_i nm' off' e
   cases e
   split at hx
   ·rename_i ys hf
    cases hx
    obtain⟨b',vs,T,h1,h2,h3,h4⟩:=hs.box _ _ hf
    rw[h]at h1
    simp at h1
    subst h1
    refine⟨b,off,rfl,λj x hj=> ?_⟩
    rw[List.getElem?_drop]at hj
    obtain⟨v,hv,hr⟩:=h4.get hj
    exact⟨v,by rw[cell_of_row w b _ vs T (0,0) h3];simpa using hv,hr⟩
   ·cases hx
  all_goals simp at*
 |cptr g hc=>
  rename_i cells b off
  simp[bv]at hx
  subst hx
  refine⟨b,off,rfl,λj x hj=> ?_⟩
  rw[List.getElem?_map]at hj
  cases e:cells[j]? with
  |none=>simp[e]at hj
  |some p=>
   simp[e]at hj
   subst hj
   obtain⟨_,h2,h3⟩:=hc j p e
   exact⟨_,h2,.pure h3⟩
 |eptr hn h=>
  rename_i nm sz row off b n c
  simp only[bv]at hx
  split at hx
  ·rename_i e sz' rows hf
   split at hx
   ·rename_i J
    subst J
    cases hr:rows[row]? with
    |none=>simp[hr]at hx
    |some r=>
     simp[hr]at hx
     subst hx
     obtain⟨cells,h0,h1,h2,h3,h4,h5⟩:=hs.box _ _ hf
     refine⟨b,row*sz+off,rfl,λj x hj=> ?_⟩
     rw[List.getElem?_drop,List.getElem?_map]at hj
     cases e:r[off+j]? with
     |none=>simp[e]at hj
     |some p=>
      simp[e]at hj
      subst hj
      obtain⟨v,hv,hp⟩:=h5 row r (off+j) p hr e
      rw[h]at h1
      have:=World.ownsRow.cells h1 (g:=b) rfl (row*sz+(off+j)) v hv
      rw[fR]at this
      exact⟨v,by rw[←this];congr 2;omega,.pure hp⟩
   ·cases hx
  ·rename_i e sz' rows hf
   split at hx
   ·rename_i J
    subst J
    cases hr:rows[row]? with
    |none=>simp[hr]at hx
    |some r=>
     simp[hr]at hx
     subst hx
     obtain⟨cells,h0,h1,h2,h3,h4,h5⟩:=hs.box _ _ hf
     refine⟨b,row*sz+off,rfl,λj x hj=> ?_⟩
     rw[List.getElem?_drop]at hj
     obtain⟨v,hv,hp⟩:=h5 row r (off+j) x hr hj
     rw[h]at h1
     have:=World.ownsRow.cells h1 (g:=b) rfl (row*sz+(off+j)) v hv
     rw[fR]at this
     exact⟨v,by rw[←this];congr 2;omega,hp⟩
   ·cases hx
  ·cases hx
 |pure=>simp[bv]at hx
 |nils=>simp[bv]at hx
 |tsl=>simp[bv]at hx
 |ref=>simp[bv]at hx
 |mref=>simp[bv]at hx
 |clo=>simp[bv]at hx
 |top=>simp[bv]at hx
theorem RK {t:TypeId} {x:Operand} {y:AX} {n:Option Nat} (ho:o.op= .load t x) (ht:kA P t=some n) (hx:aC x=some y) (h:bh P (.load n y) σ K) (hs:bl w0 U σ ι a w) (hn:eA w0 U a o K next):o.wp P a w next Q:=by
 have r1:=al hx hs
 simp only[bh]at h
 split at h
 ·rename_i q e
  rw[e]at r1
  cases r1 with
  |c r1=>
   split at h
   ·rename_i xs gb
    obtain⟨b,off,e1,hc⟩:=Ca hs r1 gb
    cases n with
    |none=>
     simp only at h
     split at h
     ·rename_i z zs
      obtain⟨v,hv,hr⟩:=hc 0 z rfl
      refine aA (u:=v) (w':=w) ?_ (hn _ σ ι _ w h hs (.c hr))
      have:=F9 (P:=P) ht hv
      simp only[Nat.add_zero]at this
      simp[execOp,ho,e1,Instr.loadAt,Instr.sureAddr,this]
     ·exact h.elim
    |some n=>
     obtain⟨hL,h⟩:=h
     have hg: ∃ys:List Value,ys.length=n∧ ∀(j:Nat) x v,(xs.take n)[j]? =some x→ys[j]? =some v→w.cell? ⟨b,off+j,none⟩=some v∧bz w (aB w0.heap.size U ι σ.mem) ι σ.nx x v:=by
      refine⟨(List.range n).map λj=>(w.cell? ⟨b,off+j,none⟩).getD undef,by simp,λj x v hj hv=> ?_⟩
      have z3:j<n:=by have:=(List.getElem?_eq_some_iff.1 hj).1;simp at this;omega
      rw[List.getElem?_take_of_lt z3]at hj
      obtain⟨u,hu,hr⟩:=hc j x hj
      simp[List.getElem?_map,List.getElem?_range z3,hu]at hv
      subst hv
      exact⟨hu,hr⟩
     obtain⟨ys,hl,hy⟩:=hg
     have H:(xs.take n).length=n:=by simp;omega
     refine aA (u:= .agg ys.toArray) (w':=w) ?_ (hn _ σ ι _ w h hs (.agg (aJ.of_get (by rw[H];simp[hl]) λj x v hj hv=>(hy j x v hj (by simpa using hv)).2)))
     have:=F3 (P:=P) (w:=w) (ad:=⟨b,off,none⟩) ht (vs:=ys) hl λj v hv=>by
      have z3:j<(xs.take n).length:=by rw[H,←hl];exact(List.getElem?_eq_some_iff.1 hv).1
      rw[fR]
      exact(hy j _ v (List.getElem?_eq_getElem z3) hv).1
     simp[execOp,ho,e1,Instr.loadAt,Instr.sureAddr,this]
   ·exact h.elim
 ·exact h.elim
theorem R0 {x:Operand} {y:AX} (ho:o.op= .nilCheck x) (hx:aC x=some y) (h:bh P (.nilc y) σ K) (hs:bl w0 U σ ι a w) (hn:eA w0 U a o K next):o.wp P a w next Q:=by
 have r1:=al hx hs
 generalize hu:a.eval x=u at r1
 simp only[bh]at h
 split at h
 ·rename_i e
  rw[e]at r1
  cases r1 with
  |c r1=>
   have r2:=r1
   cases r1
   exact aA (w':=w) (by simp[execOp,ho,hu]) (hn _ σ ι _ w h hs (.c r2))
 ·rename_i e
  rw[e]at r1
  cases r1 with
  |c r1=>
   have r2:=r1
   cases r1
   exact aA (w':=w) (by simp[execOp,ho,hu]) (hn _ σ ι _ w h hs (.c r2))
 ·rename_i e
  rw[e]at r1
  cases r1 with
  |c r1=>
   have r2:=r1
   cases r1
   exact aA (w':=w) (by simp[execOp,ho,hu]) (hn _ σ ι _ w h hs (.c r2))
 ·rename_i e
  rw[e]at r1
  cases r1 with
  |c r1=>
   have r2:=r1
   cases r1
   exact aA (w':=w) (by simp[execOp,ho,hu]) (hn _ σ ι _ w h hs (.c r2))
 ·exact h.elim
end
open Go.RowKit
section
variable {P : Program} {o : Oper} {a : Act} {w w0 : World} {U : Gh} {ι : Pl} {σ : St} {next : Act → World → Prop} {Q : Exit → Act → World → Prop} {K : AV → St → Prop}
theorem JA {x:AV} {u:Value} {T:TypeId} {xs:List AC} (hx:x.cells=some xs) (hr:aK w (aB w0.heap.size U ι σ.mem) ι σ.nx x u) (h:K (.c (.ptr σ.nx 0)) {σ with mem:=(σ.nx,.var xs)::σ.mem,nx:=σ.nx+1})
  (hs:bl w0 U σ ι a w) (D:(execOp a.eval o).run P w= .ok (.value (.pointer (some ⟨w.heap.size,0,none⟩))) (w.alloc (.cells u.cells T))) (hn:eA w0 U a o K next):o.wp P a w next Q:=by
 have hg:Below w.heap.size w (w.alloc (.cells u.cells T)):=(Below.refl _ _).alloc (Nat.le_refl _) _
 obtain⟨ι',h1,h2,h3,h4⟩:=hs.newBox (pv:= .pointer (some ⟨w.heap.size,0,none⟩)) (bx:= .var xs) hg (λb hb=>by simp[bc]at hb;omega) (λι' e1 e2 C=>by
  refine⟨w.heap.size,u.cells,T,e2,hs.below.size,heap_alloc_new _ _, ?_⟩
  exact(hr.cells hx).mono λ_ _ hr=>hr.mono C (λb hb _=>hg.block b hb) e1 (Nat.le_succ _))
 exact aA D (hn _ _ ι' _ _ h h1 (.c (.ptr (Nat.lt_succ_self _) h2)))
theorem SW {T:TypeId} {x:Operand} {y:AX} (ho:o.op= .box T x) (hx:aC x=some y) (h:bh P (.box y) σ K) (hs:bl w0 U σ ι a w) (hn:eA w0 U a o K next):o.wp P a w next Q:=by
 have r1:=al hx hs
 simp only[bh]at h
 split at h
 ·rename_i xs e
  exact JA e r1 h hs (by simp[execOp,ho,Instr.box,newVar,newRow];rfl) hn
 ·exact h.elim
theorem Qj {T:TypeId} {z:Value} {y:AV} (ho:o.op= .alloc T) (hz:dj P T=some z) (hx:wQ z=some y) (h:bh P (.box (.k y)) σ K) (hs:bl w0 U σ ι a w) (hn:eA w0 U a o K next):o.wp P a w next Q:=by
 simp only[bh]at h
 split at h
 ·rename_i xs e
  unfold dj at hz
  cases hi:P.info? T with
  |none=>simp[hi]at hz
  |some i=>
   simp[hi]at hz
   refine JA e (Al hx) h hs (T:=T) ?_ hn
   simp[execOp,ho,Instr.alloc,zeroValue,typeInfo,hi,hz,newVar,newRow]
   try rfl
 ·exact h.elim
theorem zC {B:Nat} {mem:List (Nat×bm)} {nm:Nat} {bx:bm} {b:Nat}:aB B U ι (dG mem nm bx) b↔aB B U ι mem b:=by
 constructor
 ·intro h
  refine⟨h.1,λn bx' hf=> ?_⟩
  by_cases e:nm=n
  ·exact h.2 n bx (by rw[dp,if_pos e,hf];rfl)
  ·exact h.2 n bx' (by rw[dp,if_neg e];exact hf)
 ·intro h
  refine⟨h.1,λn bx' hf=> ?_⟩
  rw[dp]at hf
  by_cases e:nm=n
  ·rw[if_pos e]at hf
   cases hm:am mem n with
   |none=>simp[hm]at hf
   |some c=>exact h.2 n c hm
  ·rw[if_neg e]at hf
   exact h.2 n bx' hf
theorem bl.setBox (hs:bl w0 U σ ι a w) {nm:Nat} {bx0 bx:bm} {b:Nat} {cs:Array Value} (hf:am σ.mem nm=some bx0) (hb:bc (ι nm)=some b)
  (HM:s4 w0.heap.size (w.setRow b cs) (aB w0.heap.size U ι σ.mem) ι σ.nx nm bx):bl w0 U {σ with mem:=dG σ.mem nm bx} ι a (w.setRow b cs):=by
 have hB:=((hs.box _ _ hf).block hb).1
 have C: ∀c,aB w0.heap.size U ι σ.mem c→aB w0.heap.size U ι (dG σ.mem nm bx) c:= λc h=>zC.2 h
 have Z: ∀c,aB w0.heap.size U ι σ.mem c→c≠b:= λc h e=>h.2 _ _ hf (by rw[hb,e])
 have hw: ∀c,c<w.heap.size→aB w0.heap.size U ι σ.mem c→(w.setRow b cs).heap[c]? =w.heap[c]? := λc _ h=>setRow_other _ _ _ _ (Z c h)
 refine⟨λt=>(hs.val t).mono (λc _ h=>C c h) hw (λ_ _=>rfl) (Nat.le_refl _),hs.defers,λn bx' hn=> ?_,λn bx' hn=> ?_,λn n' b1 b2 c h1 h2 h3 h4=> ?_,hs.below.trans ⟨rfl,rfl,rfl,by simp,λk hk=>setRow_other _ _ _ _ (by omega)⟩,
  U.mono _ _ _ _ hs.keep (λc _ h=>C c h) hw,hs.base⟩
 ·rw[dp]at hn
  by_cases e:nm=n
  ·subst e;exact hs.names _ _ hf
  ·rw[if_neg e]at hn;exact hs.names _ _ hn
 ·rw[dp]at hn
  by_cases e:nm=n
  ·subst e
   rw[if_pos rfl,hf]at hn
   cases hn
   cases bx with
   |var xs=>
    obtain⟨b',vs,T,h1,h2,h3,h4⟩:=HM
    exact⟨b',vs,T,h1,h2,h3,h4.mono λ_ _ h=>h.mono (λc _ h=>C c h) (λ_ _ _=>rfl) (λ_ _=>rfl) (Nat.le_refl _)⟩
   |arr e sz rows=>
    obtain⟨cells,h0,h1,h2,h3,h4,h5⟩:=HM
    refine⟨cells,h0,h1,h2,h3,h4,λi row j p hi hj=> ?_⟩
    obtain⟨v,hv,hp⟩:=h5 i row j p hi hj
    exact⟨v,hv,hp.mono (λc _ h=>C c h) (λ_ _ _=>rfl)⟩
   |arn e sz rows=>
    obtain⟨cells,h0,h1,h2,h3⟩:=HM
    exact⟨cells,h0,h1,h2,h3.mono (λc _ h=>C c h) (λ_ _ _=>rfl) (λ_ _=>rfl) (Nat.le_refl _)⟩
   |map kt m ents=>
    obtain⟨b',es,clock,h1,h2,h3,h4,h5⟩:=HM
    exact⟨b',es,clock,h1,h2,h3,h4.mono λ_ _ h=>h.mono (λc _ h=>C c h) (λ_ _ _=>rfl) (λ_ _=>rfl) (Nat.le_refl _),h5⟩
  ·rw[if_neg e]at hn
   have hS: ∀c,bc (ι n)=some c→c≠b:= λc hc e'=>e (hs.apart _ _ _ _ b hf hn hb (by rw[hc,e']))
   have hW:=hs.box _ _ hn
   cases bx' with
   |var xs=>
    obtain⟨b',vs,T,h1,h2,h3,h4⟩:=hW
    exact⟨b',vs,T,h1,h2,by rw[setRow_other _ _ _ _ (hS b' (by rw[h1];rfl))];exact h3,h4.mono λ_ _ h=>h.mono (λc _ h=>C c h) hw (λ_ _=>rfl) (Nat.le_refl _)⟩
   |arr e sz rows=>
    obtain⟨cells,h0,h1,h2,h3,h4,h5⟩:=hW
    refine⟨cells,h0,World.ownsRow.kept (row:=some b) h1 ⟨rfl,rfl,rfl,by simp,λk _ hk=>setRow_other _ _ _ _ (λe=>hk (by rw[e]))⟩ ?_,h2,h3,h4,λi row j p hi hj=> ?_⟩
    ·rcases h1.2 with⟨h,_⟩|⟨g,cap,cur,h,_⟩
     ·rw[h];exact .inl rfl
     ·right
      rw[h]
      intro e'
      simp[Value.ownBlock]at e'
      exact hS g (by rw[h];rfl) e'
    ·obtain⟨v,hv,hp⟩:=h5 i row j p hi hj
     exact⟨v,hv,hp.mono (λc _ h=>C c h) hw⟩
   |arn e sz rows=>
    obtain⟨cells,h0,h1,h2,h3⟩:=hW
    refine⟨cells,h0,World.ownsRow.kept (row:=some b) h1 ⟨rfl,rfl,rfl,by simp,λk _ hk=>setRow_other _ _ _ _ (λe=>hk (by rw[e]))⟩ ?_,h2,h3.mono (λc _ h=>C c h) hw (λ_ _=>rfl) (Nat.le_refl _)⟩
    rcases h1.2 with⟨h,_⟩|⟨g,cap,cur,h,_⟩
    ·rw[h];exact .inl rfl
    ·right
     rw[h]
     intro e'
     simp[Value.ownBlock]at e'
     exact hS g (by rw[h];rfl) e'
   |map kt m ents=>
    obtain⟨b',es,clock,h1,h2,h3,h4,h5⟩:=hW
    exact⟨b',es,clock,h1,h2,by rw[setRow_other _ _ _ _ (hS b' (by rw[h1];rfl))];exact h3,h4.mono λ_ _ h=>h.mono (λc _ h=>C c h) hw (λ_ _=>rfl) (Nat.le_refl _),h5⟩
 ·have g8: ∃c,am σ.mem n=some c:=by
   rw[dp]at h1
   by_cases e:nm=n
   ·subst e;exact⟨_,hf⟩
   ·rw[if_neg e]at h1;exact⟨_,h1⟩
  have g9: ∃c,am σ.mem n'=some c:=by
   rw[dp]at h2
   by_cases e:nm=n'
   ·subst e;exact⟨_,hf⟩
   ·rw[if_neg e]at h2;exact⟨_,h2⟩
  obtain⟨c1,g8⟩:=g8
  obtain⟨c2,g9⟩:=g9
  exact hs.apart _ _ _ _ _ g8 g9 h3 h4
theorem aJ.over {α β:Type} {R:α→β→Prop} {as as':List α} {bs bs':List β} (h:aJ R as bs) (h':aJ R as' bs') (off:Nat):aJ R (over as off as') (over bs off bs'):=by
 unfold Abs.over
 rw[←h'.length]
 exact((h.take off).append h').append (h.drop _)
theorem CX {xs:List AC} {vs:List Value} {N:Nat} {V:Nat→Prop} (h:aJ (bz w V ι N) xs vs): ∀v∈vs,v.oneCell'=true:=by
 induction h with
 |nil=>simp
 |cons h _ ih=>
  intro v hv
  rcases List.mem_cons.1 hv with rfl|hv
  ·exact h.one
  ·exact ih v hv
theorem Ro {V:Nat→Prop} {N:Nat} {x:AC} {z:PC} {v:Value} (h:bz w V ι N x v) (hz:Wc x=some z):bH w V z v:=by
 cases h with
 |pure h=>cases hz;exact h
 |nils=>cases hz;exact .nil
 |tsl h=>cases hz;exact h
 |_=>cases hz
theorem I6 {V:Nat→Prop} {N:Nat} {xs:List AC} {vs:List Value} (h:aJ (bz w V ι N) xs vs): ∀{zs:List PC},Kk xs=some zs→aJ (bH w V) zs vs:=by
 induction h with
 |nil=>intro zs hz;cases hz;exact .nil
 |cons h t ih=>
  intro zs hz
  unfold Kk at hz
  split at hz
  ·cases hz
   exact .cons (Ro h ‹_›) (ih ‹_›)
  ·cases hz
theorem pm {t:TypeId} {n b off:Nat} {u:Value} {cur:Array Value} {T:TypeId} (ht:iO P t=some n) (hn:u.cells.size=n) (ZX:w.heap[b]? =some (.cells cur T (0,0))) (hL:off+n≤cur.size) (h1: ∀v∈u.cells.toList,v.oneCell'=true):
  (storeVar t ⟨b,off,none⟩ u).run P w= .ok () (w.setRow b (over cur.toList off u.cells.toList).toArray):=by
 unfold iO at ht
 cases hi:P.info? t with
 |none=>simp[hi]at ht
 |some i=>
  simp[hi]at ht
  have h:=run_storeCells_at (P:=P) b off T u.cells.toList 0 cur w ZX (by simp;omega) h1
  simp only[Nat.add_zero]at h
  simp[storeVar,sizeOf,typeInfo,hi,ht,hn,h,over]
end
open Go.RowKit
section
variable {P : Program} {o : Oper} {a : Act} {w w0 : World} {U : Gh} {ι : Pl} {σ : St} {next : Act → World → Prop} {Q : Exit → Act → World → Prop} {K : AV → St → Prop}
theorem JM {α:Type} {R:α→Value→Prop} {sz row off:Nat} {rows:List (List α)} {cells:List Value} {r zs:List α} {vs:List Value} (h3:cells.length=rows.length*sz) (h4: ∀(i:Nat) row,rows[i]? =some row→row.length=sz)
  (h5: ∀(i:Nat) (row:List α) (j:Nat) p,rows[i]? =some row→row[j]? =some p→ ∃v,cells[i*sz+j]? =some v∧R p v) (hr:rows[row]? =some r) (hz:aJ R zs vs) (ho:off+zs.length≤sz):
  (over cells (row*sz+off) vs).length=(rows.set row (over r off zs)).length*sz∧(∀(i:Nat) row',(rows.set row (over r off zs))[i]? =some row'→row'.length=sz)∧
  ∀(i:Nat) (row':List α) (j:Nat) p,(rows.set row (over r off zs))[i]? =some row'→row'[j]? =some p→ ∃v,(over cells (row*sz+off) vs)[i*sz+j]? =some v∧R p v:=by
 have F:row<rows.length:=(List.getElem?_eq_some_iff.1 hr).1
 have Zs:=h4 row r hr
 have hlz:=hz.length
 have hm:row*sz+sz≤cells.length:=by
  rw[h3]
  have:(row+1)*sz≤rows.length*sz:=Nat.mul_le_mul_right _ F
  rw[Nat.succ_mul]at this
  exact this
 have hF: ∀k,k<cells.length→(over cells (row*sz+off) vs)[k]? =if row*sz+off≤k∧k<row*sz+off+vs.length then vs[k-(row*sz+off)]? else cells[k]? :=by
  intro k hk
  unfold over
  rw[List.append_assoc]
  by_cases h1:k<row*sz+off
  ·rw[List.getElem?_append_left (by simp;omega),List.getElem?_take_of_lt h1,if_neg (by omega)]
  ·rw[List.getElem?_append_right (by simp;omega)]
   have e1:(cells.take (row*sz+off)).length=row*sz+off:=by simp;omega
   rw[e1]
   by_cases h2:k<row*sz+off+vs.length
   ·rw[List.getElem?_append_left (by omega),if_pos ⟨by omega,h2⟩]
   ·rw[List.getElem?_append_right (by omega),List.getElem?_drop,if_neg (by omega)]
    congr 1
    omega
 have Zt: ∀j,j<r.length→(over r off zs)[j]? =if off≤j∧j<off+zs.length then zs[j-off]? else r[j]? :=by
  intro k hk
  unfold over
  rw[List.append_assoc]
  by_cases h1:k<off
  ·rw[List.getElem?_append_left (by simp;omega),List.getElem?_take_of_lt h1,if_neg (by omega)]
  ·rw[List.getElem?_append_right (by simp;omega)]
   have e1:(r.take off).length=off:=by simp;omega
   rw[e1]
   by_cases h2:k<off+zs.length
   ·rw[List.getElem?_append_left (by omega),if_pos ⟨by omega,h2⟩]
   ·rw[List.getElem?_append_right (by omega),List.getElem?_drop,if_neg (by omega)]
    congr 1
    omega
 have z4:(over r off zs).length=sz:=by
  unfold over
  simp
  omega
 refine⟨?_,λi row' hi=> ?_,λi row' j p hi hj=> ?_⟩
 ·unfold over
  simp
  rw[←h3]
  omega
 ·rw[List.getElem?_set]at hi
  by_cases e:row=i
  ·rw[if_pos e,if_pos (by omega)]at hi
   cases hi;exact z4
  ·rw[if_neg e]at hi
   exact h4 i row' hi
 ·rw[List.getElem?_set]at hi
  by_cases e:row=i
  ·subst e
   rw[if_pos rfl,if_pos F]at hi
   cases hi
   have HG:j<sz:=by rw[←z4];exact(List.getElem?_eq_some_iff.1 hj).1
   rw[Zt j (by omega)]at hj
   rw[hF (row*sz+j) (by omega)]
   by_cases h1:off≤j∧j<off+zs.length
   ·rw[if_pos h1]at hj
    rw[if_pos ⟨by omega,by omega⟩]
    obtain⟨v,hv,hp⟩:=hz.get hj
    exact⟨v,by rw[←hv];congr 1;omega,hp⟩
   ·rw[if_neg h1]at hj
    rw[if_neg (by omega)]
    exact h5 row r j p hr hj
  ·rw[if_neg e]at hi
   obtain⟨v,hv,hp⟩:=h5 i row' j p hi hj
   have HG:j<sz:=by rw[←h4 i row' hi];exact(List.getElem?_eq_some_iff.1 hj).1
   have HN:i<rows.length:=(List.getElem?_eq_some_iff.1 hi).1
   refine⟨v, ?_,hp⟩
   rw[hF (i*sz+j) ((List.getElem?_eq_some_iff.1 hv).1),if_neg ?_]
   ·exact hv
   ·rintro⟨g1,g2⟩
    rcases Nat.lt_or_gt_of_ne e with H|ZG
    ·have:(row+1)*sz≤i*sz:=Nat.mul_le_mul_right _ H
     rw[Nat.succ_mul]at this
     omega
    ·have:(i+1)*sz≤row*sz:=Nat.mul_le_mul_right _ ZG
     rw[Nat.succ_mul]at this
     omega
theorem aO.set {V:Nat→Prop} {sz row off:Nat} {rows:List (List PC)} {cells:List Value} {r zs:List PC} {vs:List Value} (h:aO w V sz rows cells) (hr:rows[row]? =some r) (hz:aJ (bH w V) zs vs) (ho:off+zs.length≤sz):
  aO w V sz (rows.set row (over r off zs)) (over cells (row*sz+off) vs):=JM h.1 h.2.1 h.2.2 hr hz ho
theorem fM.set {V:Nat→Prop} {N sz row off:Nat} {rows:List (List AC)} {cells:List Value} {r zs:List AC} {vs:List Value} (h:fM w V ι N sz rows cells) (hr:rows[row]? =some r) (hz:aJ (bz w V ι N) zs vs) (ho:off+zs.length≤sz):
  fM w V ι N sz (rows.set row (over r off zs)) (over cells (row*sz+off) vs):=JM h.1 h.2.1 h.2.2 hr hz ho
theorem aO.mono {w':World} {V V':Nat→Prop} {sz:Nat} {rows:List (List PC)} {cells:List Value} (h:aO w V sz rows cells) (hU: ∀b,b<w.heap.size→V b→V' b)
  (hw: ∀b,b<w.heap.size→V b→w'.heap[b]? =w.heap[b]?):aO w' V' sz rows cells:=by
 obtain⟨h3,h4,h5⟩:=h
 refine⟨h3,h4,λi row j p hi hj=> ?_⟩
 obtain⟨v,hv,hp⟩:=h5 i row j p hi hj
 exact⟨v,hv,hp.mono hU hw⟩
theorem jX {α:Type} (xs:List α) (off:Nat) (ys:List α) (h:off+ys.length≤xs.length):(over xs off ys).length=xs.length:=by
 unfold over
 simp
 omega
theorem F1 {α:Type} (xs:List α) (off m:Nat) (ys:List α) (h:off+ys.length≤m) (hm:m≤xs.length):(over xs off ys).take m=over (xs.take m) off ys:=by
 unfold over
 rw[List.take_append,List.take_append,List.take_take,List.drop_take,List.length_append,List.length_take]
 have e1:min m off=off:=by omega
 have e2:min off xs.length=off:=by omega
 rw[e1,e2,List.take_take,List.take_of_length_le (l:=ys) (by omega)]
 congr 2
 all_goals(first|omega|(congr 1;omega))
theorem OR {t:TypeId} {x y:Operand} {p q:AX} {n:Nat} (ho:o.op= .store t x y) (ht:iO P t=some n) (hx:aC x=some p) (hy:aC y=some q) (h:bh P (.store n p q) σ K) (hs:bl w0 U σ ι a w) (hn:eA w0 U a o K next):o.wp P a w next Q:=by
 have r1:=al hx hs
 have r2:=al hy hs
 simp only[bh]at h
 split at h
 ·rename_i ys nm off e1 e2
  rw[e2]at r1
  have W:=r2.cells e1
  split at h
  ·rename_i xs hf
   obtain⟨⟨hl,hL⟩,h⟩:=h
   cases r1 with
   |c r1=>
    generalize hu:a.eval x=u at r1
    cases r1 with
    |ptr hA hι=>
     rename_i b
     obtain⟨b',vs,T,g1,g2,g3,g4⟩:=hs.box _ _ hf
     rw[hι]at g1
     simp at g1
     subst g1
     have HY:(a.eval y).cells.size=n:=by rw[←hl,W.length,Array.length_toList]
     have D:=pm (P:=P) (off:=off) ht HY g3 (by rw[←Array.length_toList,←g4.length];exact hL) (CX W)
     refine jl (w':=w.setRow b (over vs.toList off (a.eval y).cells.toList).toArray) ?_ (hn _ _ ι _ _ h ?_ fO)
     ·simp[execOp,ho,hu,Instr.storeAt,Instr.sureAddr,D]
     ·refine hs.setBox hf (by rw[hι];rfl) ⟨b,_,T,hι,g2,setRow_heap _ _ _ _ _ _ g3, ?_⟩
      have Z: ∀c,aB w0.heap.size U ι σ.mem c→c≠b:= λc h e=>h.2 _ _ hf (by rw[hι,e];rfl)
      have:=(g4.over W off).mono λ_ _ (h:bz w (aB w0.heap.size U ι σ.mem) ι σ.nx _ _)=>h.mono (w':=w.setRow b (over vs.toList off (a.eval y).cells.toList).toArray) (λc _ h=>h) (λc _ h=>setRow_other _ _ _ _ (Z c h)) (λ_ _=>rfl) (Nat.le_refl _)
      simpa using this
  ·exact h.elim
 ·rename_i ys nm sz row off e1 e2
  rw[e2]at r1
  have W:=r2.cells e1
  split at h
  ·rename_i e sz' rows hf
   obtain⟨⟨J,hl,hL⟩,zs,hz,r,hr,h⟩:=h
   subst J
   cases r1 with
   |c r1=>
    generalize hu:a.eval x=u at r1
    cases r1 with
    |eptr hA hι=>
     rename_i b n' c'
     have HH:=I6 W hz
     have HY:(a.eval y).cells.size=n:=by rw[←hl,W.length,Array.length_toList]
     have ZH:zs.length=n:=by rw[HH.length,Array.length_toList,HY]
     obtain⟨cells,g0,g1,g2,g3⟩:=hs.box _ _ hf
     have g1':=g1
     rcases g1.2 with⟨e',_⟩|⟨g,cap,cur,e',hB,hg,hD,HP,HJ,hE⟩
     ·rw[hι]at e';cases e'
     ·rw[hι]at e'
      simp at e'
      obtain⟨rfl,rfl,rfl⟩:=e'
      have F:row<rows.length:=(List.getElem?_eq_some_iff.1 hr).1
      have hm:row*sz+sz≤rows.length*sz:=by
       have:(row+1)*sz≤rows.length*sz:=Nat.mul_le_mul_right _ F
       rw[Nat.succ_mul]at this
       exact this
      have ZI:rows.length*sz≤cur.size:=by
       have:rows.length*sz≤c'*sz:=Nat.mul_le_mul_right _ hD
       omega
      have G2:(a.eval y).cells.toList.length=n:=by rw[Array.length_toList,HY]
      have D:=pm (P:=P) (off:=row*sz+off) ht HY hg (by omega) (CX W)
      refine jl (w':=w.setRow b (over cur.toList (row*sz+off) (a.eval y).cells.toList).toArray) ?_ (hn _ _ ι _ _ h ?_ fO)
      ·simp[execOp,ho,hu,Instr.storeAt,Instr.sureAddr,D]
      ·have Z: ∀c,aB w0.heap.size U ι σ.mem c→c≠b:= λc h e=>h.2 _ _ hf (by rw[hι,e];rfl)
       refine hs.setBox hf (by rw[hι];rfl) ⟨over cells (row*sz+off) (a.eval y).cells.toList,g0,⟨?_,.inr ⟨b,c',(over cur.toList (row*sz+off) (a.eval y).cells.toList).toArray, ?_,hB,setRow_heap _ _ _ _ _ _ hg, ?_,HP, ?_, ?_⟩⟩, ?_, ?_⟩
       ·rw[jX _ _ _ (by rw[g1.1];omega),List.length_set,g1.1]
       ·rw[hι,List.length_set]
       ·rw[List.length_set];exact hD
       ·rw[List.size_toArray,jX _ _ _ (by simp;omega),Array.length_toList];exact HJ
       ·rw[List.length_set,←hE,List.toList_toArray,F1 _ _ _ _ (by omega) (by simp;omega)]
       ·rw[List.length_set];exact g2
       ·exact(g3.mono (w':=w.setRow b (over cur.toList (row*sz+off) (a.eval y).cells.toList).toArray) (λc _ h=>h) (λc _ h=>setRow_other _ _ _ _ (Z c h))).set hr (HH.mono λ_ _ h=>h.mono (λc _ h=>h) (λc _ h=>setRow_other _ _ _ _ (Z c h))) (by omega)
  ·rename_i e sz' rows hf
   obtain⟨⟨J,hl,hL⟩,r,hr,h⟩:=h
   subst J
   cases r1 with
   |c r1=>
    generalize hu:a.eval x=u at r1
    cases r1 with
    |eptr hA hι=>
     rename_i b n' c'
     have HY:(a.eval y).cells.size=n:=by rw[←hl,W.length,Array.length_toList]
     obtain⟨cells,g0,g1,g2,g3⟩:=hs.box _ _ hf
     have g1':=g1
     rcases g1.2 with⟨e',_⟩|⟨g,cap,cur,e',hB,hg,hD,HP,HJ,hE⟩
     ·rw[hι]at e';cases e'
     ·rw[hι]at e'
      simp at e'
      obtain⟨rfl,rfl,rfl⟩:=e'
      have F:row<rows.length:=(List.getElem?_eq_some_iff.1 hr).1
      have hm:row*sz+sz≤rows.length*sz:=by
       have:(row+1)*sz≤rows.length*sz:=Nat.mul_le_mul_right _ F
       rw[Nat.succ_mul]at this
       exact this
      have ZI:rows.length*sz≤cur.size:=by
       have:rows.length*sz≤c'*sz:=Nat.mul_le_mul_right _ hD
       omega
      have G2:(a.eval y).cells.toList.length=n:=by rw[Array.length_toList,HY]
      have D:=pm (P:=P) (off:=row*sz+off) ht HY hg (by omega) (CX W)
      refine jl (w':=w.setRow b (over cur.toList (row*sz+off) (a.eval y).cells.toList).toArray) ?_ (hn _ _ ι _ _ h ?_ fO)
      ·simp[execOp,ho,hu,Instr.storeAt,Instr.sureAddr,D]
      ·have Z: ∀c,aB w0.heap.size U ι σ.mem c→c≠b:= λc h e=>h.2 _ _ hf (by rw[hι,e];rfl)
       refine hs.setBox hf (by rw[hι];rfl) ⟨over cells (row*sz+off) (a.eval y).cells.toList,g0,⟨?_,.inr ⟨b,c',(over cur.toList (row*sz+off) (a.eval y).cells.toList).toArray, ?_,hB,setRow_heap _ _ _ _ _ _ hg, ?_,HP, ?_, ?_⟩⟩, ?_, ?_⟩
       ·rw[jX _ _ _ (by rw[g1.1];omega),List.length_set,g1.1]
       ·rw[hι,List.length_set]
       ·rw[List.length_set];exact hD
       ·rw[List.size_toArray,jX _ _ _ (by simp;omega),Array.length_toList];exact HJ
       ·rw[List.length_set,←hE,List.toList_toArray,F1 _ _ _ _ (by omega) (by simp;omega)]
       ·rw[List.length_set];exact g2
       ·exact(g3.mono (w':=w.setRow b (over cur.toList (row*sz+off) (a.eval y).cells.toList).toArray) (λc _ h=>h) (λc _ h=>setRow_other _ _ _ _ (Z c h)) (λ_ _=>rfl) (Nat.le_refl _)).set hr (W.mono λ_ _ h=>h.mono (λc _ h=>h) (λc _ h=>setRow_other _ _ _ _ (Z c h)) (λ_ _=>rfl) (Nat.le_refl _)) (by omega)
  ·exact h.elim
 ·exact h.elim
end
open Go.RowKit
section
variable {P : Program} {o : Oper} {a : Act} {w w0 : World} {U : Gh} {ι : Pl} {σ : St} {next : Act → World → Prop} {Q : Exit → Act → World → Prop} {K : AV → St → Prop}
theorem FF {V:Nat→Prop} {N b off:Nat} {cells:List PC} (k:Nat) (h:bz w V ι N (.cptr cells) (.pointer (some ⟨b,off,none⟩))):bz w V ι N (.cptr (cells.drop k)) (.pointer (some ⟨b,off+k,none⟩)):=by
 cases h with
 |cptr g hc=>
  refine .cptr (λj=>g (k+j)) λj p hj=> ?_
  rw[List.getElem?_drop]at hj
  have:=hc (k+j) p hj
  rw[←Nat.add_assoc]at this
  exact this
theorem rP {s:TypeId} {f:Nat} {fd:Field} {b off:Nat} (hf:pD P s f=some fd) (hz: ¬(iO P fd.type).getD 0=0):(Instr.fieldAt s (.pointer (some ⟨b,off,none⟩)) f).run P w= .ok (.pointer (some ⟨b,off+fd.offset,none⟩)) w:=by
 unfold pD at hf
 split at hf
 ·rename_i fs hd
  unfold iO at hz
  cases hi:P.info? fd.type with
  |none=>simp[hi]at hz
  |some i=>
   simp[hi]at hz
   simp[Instr.fieldAt,run_underlying hd,hf,Instr.sureAddr,fieldPlace,sizeOf,typeInfo,hi,hz,fR]
 ·cases hf
theorem Ny {s:TypeId} {x:Operand} {y:AX} {f:Nat} {fd:Field} (ho:o.op= .fieldAddr s x f) (hf:pD P s f=some fd) (hz: ¬(iO P fd.type).getD 0=0) (hx:aC x=some y) (h:bh P (.fieldA fd.offset y) σ K) (hs:bl w0 U σ ι a w) (hn:eA w0 U a o K next):o.wp P a w next Q:=by
 have r1:=al hx hs
 generalize hu:a.eval x=u at r1
 simp only[bh]at h
 split at h
 ·rename_i e
  rw[e]at r1
  cases r1 with
  |c r1=>
   cases r1 with
   |ptr h1 h2=>exact aA (w':=w) (by simp[execOp,ho,hu,rP hf hz];try rfl) (hn _ σ ι _ w h hs (.c (.ptr h1 h2)))
 ·rename_i e
  rw[e]at r1
  cases r1 with
  |c r1=>
   have r2:=r1
   cases r1 with
   |cptr g hc=>exact aA (w':=w) (by simp[execOp,ho,hu,rP hf hz];try rfl) (hn _ σ ι _ w h hs (.c (FF _ r2)))
 ·rename_i e
  rw[e]at r1
  cases r1 with
  |c r1=>
   cases r1 with
   |eptr h1 h2=>exact aA (w':=w) (by simp[execOp,ho,hu,rP hf hz];try rfl) (hn _ σ ι _ w h hs (.c (by rw[Nat.add_assoc];exact .eptr h1 h2)))
 ·exact h.elim
theorem H6 {t:TypeId} {cs:Array Value} {off:Nat} {v:Value} (h:kA P t=some none) (hv:cs[off]? =some v):(part t cs off).run P w= .ok v w:=by
 unfold kA at h
 split at h
 ·cases h
 ·cases h
 ·rename_i d i n1 n2 hd hi
  have HB:(isAgg t).run P w= .ok false w:=by
   unfold isAgg
   cases d<;>first|(simp[run_underlying hd];done)|exact absurd rfl (n1 _)|exact absurd rfl (n2 _ _)
  simp[part,HB,hv]
 ·cases h
theorem Hn {t:TypeId} {cs:Array Value} {off n:Nat} (h:kA P t=some (some n)):(part t cs off).run P w= .ok (.agg (cs.extract off (off+n))) w:=by
 unfold kA at h
 split at h
 ·rename_i fs i hd hi
  simp at h
  have HB:(isAgg t).run P w= .ok true w:=by simp[isAgg,run_underlying hd]
  simp[part,HB,sizeOf,typeInfo,hi,h]
 ·rename_i fs i hd hi
  simp at h
  have HB:(isAgg t).run P w= .ok true w:=by simp[isAgg,run_underlying hd]
  simp[part,HB,sizeOf,typeInfo,hi,h]
 ·split at h<;>cases h
 ·cases h
theorem P4 {s:TypeId} {x:Operand} {y:AX} {f:Nat} {fd:Field} {n:Option Nat} (ho:o.op= .field s x f) (hf:pD P s f=some fd) (ht:kA P fd.type=some n) (hx:aC x=some y) (h:bh P (.field fd.offset n y) σ K) (hs:bl w0 U σ ι a w) (hn:eA w0 U a o K next):o.wp P a w next Q:=by
 have r1:=al hx hs
 generalize hu:a.eval x=u at r1
 simp only[bh]at h
 split at h
 ·rename_i xs e
  rw[e]at r1
  cases r1 with
  |agg r1=>
   rename_i vs
   have D: ∀{v:Value},(part fd.type vs fd.offset).run P w= .ok v w→(execOp a.eval o).run P w= .ok (.value v) w:=by
    intro v hp
    unfold pD at hf
    split at hf
    ·rename_i fs hd
     simp[execOp,ho,hu,Instr.field,run_underlying hd,hf,asAgg,hp]
    ·cases hf
   cases n with
   |none=>
    simp only at h
    split at h
    ·rename_i z zs ez
     have hz:xs[fd.offset]? =some z:=by
      have:(xs.drop fd.offset)[0]? =some z:=by rw[ez];rfl
      rw[List.getElem?_drop]at this
      simpa using this
     obtain⟨v,hv,hr⟩:=r1.get hz
     exact aA (u:=v) (w':=w) (D (H6 ht (by simpa using hv))) (hn _ σ ι _ w h hs (.c hr))
    ·exact h.elim
   |some n=>
    obtain⟨hL,h⟩:=h
    refine aA (w':=w) (D (Hn ht)) (hn _ σ ι _ w h hs (.agg ?_))
    have:=(r1.drop fd.offset).take n
    have e2:(vs.extract fd.offset (fd.offset+n)).toList=(vs.toList.drop fd.offset).take n:=by
     rw[Array.toList_extract,List.extract_eq_take_drop]
     simp
    rw[e2]
    exact this
 ·exact h.elim
theorem tj {t e:TypeId} {sz bytes:Nat} {b off n c:Nat} {k:IntKind} {i:Int} (ht:dK P t=some (e,sz,bytes)) (h0:0≤i) (h1:i<n):(Instr.indexAt t (.slice (some ⟨b,off,none⟩) n c) (.int k i)).run P w= .ok (.pointer (some ⟨b,off+i.toNat*sz,none⟩)) w:=by
 unfold dK at ht
 split at ht
 ·rename_i e' hd
  cases hi:P.info? e' with
  |none=>simp[hi]at ht
  |some inf=>
   simp[hi]at ht
   obtain⟨rfl,rfl,_⟩:=ht
   simp[Instr.indexAt,asIntOf,run_underlying hd,h0,h1,sizeOf,typeInfo,hi,fR]
 ·cases ht
theorem RR {t e:TypeId} {sz bytes:Nat} {x z:Operand} {y q:AX} (ho:o.op= .indexAddr t x z) (ht:dK P t=some (e,sz,bytes)) (hx:aC x=some y) (hz:aC z=some q) (h:bh P (.idxA sz y q) σ K) (hs:bl w0 U σ ι a w) (hn:eA w0 U a o K next):o.wp P a w next Q:=by
 have r1:=al hx hs
 have r2:=al hz hs
 generalize hu:a.eval x=u at r1
 simp only[bh]at h
 have q0: ∀{rows:List (List PC)} {k:IntKind} {i:Int},bH w (aB w0.heap.size U ι σ.mem) (.slice rows) u→AX.ev σ.fr q= .c (.pure (.val (.int k i)))→(0≤i∧ ∃r,rows[i.toNat]? =some r∧(r.length=sz∧0<sz)∧K (.c (.cptr r)) σ)→o.wp P a w next Q:=by
  intro rows k i hr hi h
  rw[hi]at r2
  have e2:=(aQ r2).1
  obtain⟨h0,r,F,⟨gd,J⟩,hk⟩:=h
  cases hr with
  | @slice sz' _ ad n c g hl hc hm hC hcell hp=>
   obtain rfl:sz'=sz:=by rw[←gd];exact(hC _ _ F).symm
   have HN:i.toNat<rows.length:=(List.getElem?_eq_some_iff.1 F).1
   have Zs:=hC _ _ F
   have Zu:r[0]? =some (r[0]'(by omega)):=List.getElem?_eq_getElem (by omega)
   obtain⟨b,off,rfl,hb,_⟩:=hcell _ r 0 _ F Zu
   refine aA (w':=w) (by simp only[execOp,ho,hu,e2];rw[Sem.run_bind,tj ht h0 (by omega)];rfl) (hn _ σ ι _ w hk hs (.c (.cptr (λj=>g i.toNat j) λj p hj=> ?_)))
   obtain⟨b',off',e',Zv,gq⟩:=hcell _ r j p F hj
   cases e'
   exact⟨Zv,by rw[←gq];congr 2;omega,hp _ r j p F hj⟩
 split at h
 ·rename_i rows k i e1 e2
  rw[e1]at r1
  cases r1 with
  |c r1=>cases r1 with|pure r1=>exact q0 r1 e2 h
 ·rename_i rows k i e1 e2
  rw[e1]at r1
  cases r1 with
  |c r1=>cases r1 with|tsl r1=>exact q0 r1 e2 h
 ·rename_i nm k i e1 e2
  rw[e1]at r1
  rw[e2]at r2
  have e2':=(aQ r2).1
  split at h
  ·rename_i e' sz' rows hf
   obtain⟨⟨rfl,J,h0,H⟩,h⟩:=h
   cases r1 with
   |c r1=>cases r1 with
    |ref hA HQ=>
     obtain⟨cells,g0,g1,g2,g3⟩:=hs.box _ _ hf
     rcases g1.2 with⟨e',HR⟩|⟨g,cap,cur,e',hB,hg,hD,HP,HJ,hE⟩
     ·omega
     ·refine aA (w':=w) (by simp only[execOp,ho,hu,e',e2'];rw[Sem.run_bind,tj ht h0 (by omega)];rfl) (hn _ σ ι _ w h hs (.c ?_))
      have:=bz.eptr (w:=w) (U:=aB w0.heap.size U ι σ.mem) (sz:=sz') (row:=i.toNat) (off:=0) hA e'
      simpa using this
  ·rename_i e' sz' rows hf
   obtain⟨⟨rfl,J,h0,H⟩,h⟩:=h
   cases r1 with
   |c r1=>cases r1 with
    |ref hA HQ=>
     obtain⟨cells,g0,g1,g2,g3⟩:=hs.box _ _ hf
     rcases g1.2 with⟨e',HR⟩|⟨g,cap,cur,e',hB,hg,hD,HP,HJ,hE⟩
     ·omega
     ·refine aA (w':=w) (by simp only[execOp,ho,hu,e',e2'];rw[Sem.run_bind,tj ht h0 (by omega)];rfl) (hn _ σ ι _ w h hs (.c ?_))
      have:=bz.eptr (w:=w) (U:=aB w0.heap.size U ι σ.mem) (sz:=sz') (row:=i.toNat) (off:=0) hA e'
      simpa using this
  ·exact h.elim
 ·exact h.elim
theorem Rm {t e:TypeId} {len sz:Nat} {x z:Operand} {y q:AX} (ho:o.op= .indexAddr t x z) (ht:P.underlying t=some (.array len e)) (J:iO P e=some sz) (hx:aC x=some y) (hz:aC z=some q) (h:bh P (.idxR len sz y q) σ K) (hs:bl w0 U σ ι a w) (hn:eA w0 U a o K next):o.wp P a w next Q:=by
 have r1:=al hx hs
 have r2:=al hz hs
 generalize hu:a.eval x=u at r1
 simp only[bh]at h
 have D: ∀{b off:Nat} {k:IntKind} {i:Int},0≤i→i<len→(Instr.indexAt t (.pointer (some ⟨b,off,none⟩)) (.int k i)).run P w= .ok (.pointer (some ⟨b,off+i.toNat*sz,none⟩)) w:=by
  intro b off k i h0 h1
  unfold iO at J
  cases hi:P.info? e with
  |none=>simp[hi]at J
  |some inf=>
   simp[hi]at J
   simp[Instr.indexAt,asIntOf,run_underlying ht,Instr.sureAddr,h0,h1,sizeOf,typeInfo,hi,J,fR]
 split at h
 ·rename_i nm off k i e1 e2
  rw[e1]at r1
  rw[e2]at r2
  have e2':=(aQ r2).1
  obtain⟨⟨h0,h1⟩,h⟩:=h
  cases r1 with
  |c r1=>cases r1 with
   |ptr g1 g2=>exact aA (w':=w) (by simp only[execOp,ho,hu,e2'];rw[Sem.run_bind,D h0 h1];rfl) (hn _ σ ι _ w h hs (.c (.ptr g1 g2)))
 ·rename_i cells k i e1 e2
  rw[e1]at r1
  rw[e2]at r2
  have e2':=(aQ r2).1
  obtain⟨⟨h0,h1⟩,h⟩:=h
  cases r1 with
  |c r1=>
   have r3:=r1
   cases r1 with
   |cptr g hc=>exact aA (w':=w) (by simp only[execOp,ho,hu,e2'];rw[Sem.run_bind,D h0 h1];rfl) (hn _ σ ι _ w h hs (.c (FF _ r3)))
 ·exact h.elim
theorem RJ {t:TypeId} {x z:Operand} {y q:AX} (ho:o.op= .index t x z) (ht:OS P t=true) (hx:aC x=some y) (hz:aC z=some q) (h:bh P (.idxS y q) σ K) (hs:bl w0 U σ ι a w) (hn:eA w0 U a o K next):o.wp P a w next Q:=by
 have r1:=al hx hs
 have r2:=al hz hs
 simp only[bh]at h
 split at h
 ·rename_i s k i e1 e2
  rw[e1]at r1
  rw[e2]at r2
  have e1':=(aQ r1).1
  have e2':=(aQ r2).1
  obtain⟨h0,b,hb,h⟩:=h
  have hd:P.underlying t=some .string:=by
   unfold OS at ht
   split at ht
   ·assumption
   ·cases ht
  refine aA (u:= .int .u8 b.toNat) (w':=w) ?_ (hn _ σ ι _ w h hs (fN _ _))
  simp[execOp,ho,e1',e2',Instr.index,asIntOf,run_underlying hd,h0,hb]
 ·exact h.elim
theorem Tj {x:Operand} {y:AX} {i:Nat} (ho:o.op= .extract x i) (hx:aC x=some y) (h:bh P (.ext y i) σ K) (hs:bl w0 U σ ι a w) (hn:eA w0 U a o K next):o.wp P a w next Q:=by
 have r1:=al hx hs
 generalize hu:a.eval x=u at r1
 simp only[bh]at h
 split at h
 ·rename_i vs e
  rw[e]at r1
  obtain⟨v,hv,h⟩:=h
  ·cases r1 with
   |tup hl hr=>
    rename_i us
    have hi:i<us.size:=by rw[←hl];exact(List.getElem?_eq_some_iff.1 hv).1
    have:=hr i v hv
    rw[List.getElem?_eq_getElem (by simpa using hi)]at this
    refine aA (u:=us[i]) (w':=w) ?_ (hn _ σ ι _ w h hs (by simpa using this))
    simp[execOp,ho,hu,Instr.extract,hi]
 ·exact h.elim
theorem Cp {v:AV} {u:Value} {rows:List (List PC)} (hs:bl w0 U σ ι a w) (h:aK w (aB w0.heap.size U ι σ.mem) ι σ.nx v u) (hr:eL σ.mem v=some rows): ∃ad c,u= .slice ad rows.length c∧rows.length≤c∧rows.length≤9223372036854775807:=by
 unfold eL at hr
 split at hr
 ·cases hr
  cases h with|c h=>cases h with|pure h=>cases h with|slice g hl hc hm=>subst hl;exact⟨_,_,rfl,hc,hm⟩
 ·cases hr
  cases h with|c h=>cases h with|tsl h=>cases h with|slice g hl hc hm=>subst hl;exact⟨_,_,rfl,hc,hm⟩
 ·cases hr
  cases h with|c h=>cases h with|nils=>exact⟨none,0,rfl,Nat.le_refl _,by simp⟩
 ·split at hr
  ·rename_i nm e sz' rows' hf
   cases hr
   cases h with
   |c h=>cases h with
    |ref hA HQ=>
     obtain⟨cells,g0,g1,g2,g3⟩:=hs.box _ _ hf
     rcases g1.2 with⟨e',HR⟩|⟨g,cap,cur,e',hB,hg,hD,HP,HJ,hE⟩
     ·exact⟨none,0,by rw[e',HR],by omega,g2⟩
     ·exact⟨_,cap,e',hD,g2⟩
  ·cases hr
 ·cases hr
theorem vp {t e:TypeId} {ad:Option Addr} {n c:Nat} (ht:P.underlying t=some (.slice e)) (ty:TypeId):(Builtin.len_ #[t] ty #[.slice ad n c]).run P w= .ok (.int .i64 n) w:=by
 simp[Builtin.len_,run_underlying ht,goInt]
theorem Tn {t e:TypeId} {x:Operand} {y:AX} {c:Call} (hc:c.callee= .builtin .len) (X:c.args.toList= [x]) (H0:c.argTypes.toList= [t]) (ho:o.op= .call c) (ht:P.underlying t=some (.slice e)) (hx:aC x=some y) (h:bh P (.len y) σ K) (hs:bl w0 U σ ι a w) (hn:eA w0 U a o K next):o.wp P a w next Q:=by
 have r1:=al hx hs
 have ha:c.args= #[x]:=by rw[←Array.toArray_toList (xs:=c.args),X]
 have gt:c.argTypes= #[t]:=by rw[←Array.toArray_toList (xs:=c.argTypes),H0]
 have key: ∀{rows:List (List PC)},eL σ.mem (AX.ev σ.fr y)=some rows→K (.c (.pure (.val (.int .i64 rows.length)))) σ→o.wp P a w next Q:=by
  intro rows hr h
  obtain⟨ad,cc,e1,_,_⟩:=Cp hs r1 hr
  refine aA (u:= .int .i64 rows.length) (w':=w) ?_ (hn _ σ ι _ w h hs (fN _ _))
  simp[execOp,ho,resolve,hc,invoke,builtin,ha,gt,e1,vp ht]
 simp only[bh]at h
 split at h
 ·rename_i rows e
  exact key (by rw[e];rfl) h
 ·rename_i rows e
  exact key (by rw[e];rfl) h
 ·rename_i e
  exact key (rows:= []) (by rw[e];rfl) h
 ·rename_i nm e
  split at h
  ·rename_i e' sz rows hf
   exact key (by rw[e];simp[eL,hf]) h
  ·rename_i e' sz rows hf
   rw[e]at r1
   generalize hu:a.eval x=u at r1
   cases r1 with
   |c r1=>cases r1 with
    |ref hA HQ=>
     obtain⟨cells,g0,g1,g2,g3⟩:=hs.box _ _ hf
     have hv: ∃ad cc,ι nm= .slice ad rows.length cc:=by
      rcases g1.2 with⟨e',HR⟩|⟨g,cap,cur,e',_⟩
      ·exact⟨none,0,by rw[e',HR]⟩
      ·exact⟨_,cap,e'⟩
     obtain⟨ad,cc,e1⟩:=hv
     rw[e1]at hu
     refine aA (u:= .int .i64 rows.length) (w':=w) ?_ (hn _ σ ι _ w h hs (fN _ _))
     simp[execOp,ho,resolve,hc,invoke,builtin,ha,gt,hu,vp ht]
  ·exact h.elim
 ·exact h.elim
theorem RM {t:TypeId} {x:Operand} {y:AX} {c:Call} (hc:c.callee= .builtin .len) (X:c.args.toList= [x]) (H0:c.argTypes.toList= [t]) (ho:o.op= .call c) (ht:P.underlying t=some .string) (hx:aC x=some y) (h:bh P (.lenS y) σ K) (hs:bl w0 U σ ι a w) (hn:eA w0 U a o K next):o.wp P a w next Q:=by
 have r1:=al hx hs
 have ha:c.args= #[x]:=by rw[←Array.toArray_toList (xs:=c.args),X]
 have gt:c.argTypes= #[t]:=by rw[←Array.toArray_toList (xs:=c.argTypes),H0]
 simp only[bh]at h
 split at h
 ·rename_i s e
  rw[e]at r1
  have e1:=(aQ r1).1
  refine aA (u:= .int .i64 s.size) (w':=w) ?_ (hn _ σ ι _ w h hs (fN _ _))
  simp[execOp,ho,resolve,hc,invoke,builtin,ha,gt,e1,Builtin.len_,run_underlying ht,goInt]
 ·exact h.elim
theorem Sw {mx:Bool} {x y:Operand} {p q:AX} {c:Call} (hc:(c.callee= .builtin .min∧mx=false)∨(c.callee= .builtin .max∧mx=true)) (X:c.args.toList= [x,y]) (ho:o.op= .call c) (hx:aC x=some p) (hy:aC y=some q) (h:bh P (.mm mx p q) σ K) (hs:bl w0 U σ ι a w) (hn:eA w0 U a o K next):o.wp P a w next Q:=by
 have r1:=al hx hs
 have r2:=al hy hs
 have ha:c.args= #[x,y]:=by rw[←Array.toArray_toList (xs:=c.args),X]
 simp only[bh]at h
 split at h
 ·rename_i k m k' n e e'
  rw[e]at r1
  rw[e']at r2
  have e1:=(aQ r1).1
  have e2:=(aQ r2).1
  refine aA (w':=w) ?_ (hn _ σ ι _ w h hs (fN _ _))
  rcases hc with⟨hc,rfl⟩|⟨hc,rfl⟩
  ·have:(if n<m then n else m)=min m n:=by split<;>omega
   simp[execOp,ho,resolve,hc,invoke,builtin,ha,e1,e2,Builtin.min_,Builtin.min2,this]
  ·have:(if m<n then n else m)=max m n:=by split<;>omega
   simp[execOp,ho,resolve,hc,invoke,builtin,ha,e1,e2,Builtin.max_,Builtin.max2,this]
 ·exact h.elim
theorem Tx {x y z t:Operand} {p q r s:AX} {c:Call} (hc:c.callee= .builtin .max) (X:c.args.toList= [x,y,z,t]) (ho:o.op= .call c) (hx:aC x=some p) (hy:aC y=some q) (hz:aC z=some r) (ht:aC t=some s) (h:bh P (.mm4 p q r s) σ K) (hs:bl w0 U σ ι a w) (hn:eA w0 U a o K next):o.wp P a w next Q:=by
 have r1:=al hx hs
 have r2:=al hy hs
 have r3:=al hz hs
 have r4:=al ht hs
 have ha:c.args= #[x,y,z,t]:=by rw[←Array.toArray_toList (xs:=c.args),X]
 simp only[bh]at h
 split at h
 ·rename_i k m k2 n k3 n3 k4 n4 e e' e3 e4
  rw[e]at r1
  rw[e']at r2
  rw[e3]at r3
  rw[e4]at r4
  have e1:=(aQ r1).1
  have e2:=(aQ r2).1
  have e5:=(aQ r3).1
  have e6:=(aQ r4).1
  refine aA (w':=w) ?_ (hn _ σ ι _ w h hs (fN _ _))
  have mx: ∀a b:Int,(if a<b then b else a)=max a b:= λa b=>by split<;>omega
  simp[execOp,ho,resolve,hc,invoke,builtin,ha,e1,e2,e5,e6,Builtin.max_,Builtin.max2,mx]
 ·exact h.elim
end
open Go.RowKit
theorem Gp: ∀(vs:List Value) (off j:Nat) (cs:Array Value),off+j+vs.length≤cs.size→((vs.zipIdx j).foldl (λcs (x:Value×Nat)=>cs.setIfInBounds (off+x.2) x.1) cs).toList=over cs.toList (off+j) vs
 | [],off,j,cs,_=>by simp[over]
 |v::vs,off,j,cs,h=>by
  simp only[List.length_cons]at h
  rw[List.zipIdx_cons,List.foldl_cons,Gp vs off (j+1) _ (by simp;omega)]
  unfold over
  have hk:off+j<cs.toList.length:=by simp;omega
  rw[Array.toList_setIfInBounds,List.take_set,List.drop_set,List.length_cons]
  have e1:(cs.toList.take (off+(j+1))).set (off+j) v=cs.toList.take (off+j)++ [v]:=by
   rw[←Nat.add_assoc,List.take_succ_eq_append_getElem hk,List.set_append_right _ _ (by simp;omega)]
   have:(off+j)-(cs.toList.take (off+j)).length=0:=by simp;omega
   rw[this]
   rfl
  rw[e1,if_pos (by omega),show off+(j+1)+vs.length=off+j+(vs.length+1)from by omega]
  simp
theorem zY {place:Nat→Option (Nat×Nat)} {cells:Array Value} {i off size:Nat} {v:Value} {rest:List (Nat×Value)} (hp:place i=some (off,size)) (hv:v.cells.size=size) (hL:off+size≤cells.size):
  Instr.fill place cells ((i,v)::rest)=Instr.fill place (over cells.toList off v.cells.toList).toArray rest:=by
 simp only[Instr.fill,hp]
 rw[if_neg (by simp;omega)]
 congr 1
 have:=Gp v.cells.toList off 0 cells (by simp;omega)
 rw[←Array.foldl_toList,Array.toList_zipIdx]
 simp only[Nat.add_zero]at this
 rw[←this,Array.toArray_toList]
section
variable {P : Program} {o : Oper} {a : Act} {w w0 : World} {U : Gh} {ι : Pl} {σ : St} {next : Act → World → Prop} {Q : Exit → Act → World → Prop} {K : AV → St → Prop}
theorem AO {α:Type} {xs ys:List α} {off:Nat} (h:off+ys.length≤xs.length):(over xs off ys).length=xs.length:=jX xs off ys h
theorem B4 (hs:bl w0 U σ ι a w) {places:List (Nat×Nat)}: ∀{parts:List (Nat×Operand)} {ps:List (Nat×Nat×AX)} {acc:List AC} {cells:Array Value} {R:List AC→Prop},xe places parts=some ps→bh.buildW σ ps acc R→
  aJ (bz w (aB w0.heap.size U ι σ.mem) ι σ.nx) acc cells.toList→ ∃cells' xs,Instr.fill (λi=>places[i]?) cells (parts.map λ(i,x)=>(i,a.eval x))=some cells'∧aJ (bz w (aB w0.heap.size U ι σ.mem) ι σ.nx) xs cells'.toList∧R xs
 |[],ps,acc,cells,R,hp,h,hc=>by
  cases hp
  exact⟨cells,acc,rfl,hc,h⟩
 |(i,x)::parts,ps,acc,cells,R,hp,h,hc=>by
  unfold xe at hp
  split at hp
  ·rename_i off n y ys h1 h2 h3
   cases hp
   simp only[bh.buildW]at h
   split at h
   ·rename_i zs e
    obtain⟨⟨hl,hL⟩,h⟩:=h
    have hz:=(al h2 hs).cells e
    have ZH:=hz.length
    have g7:=hc.length
    have e0:=Array.length_toList (xs:=(a.eval x).cells)
    have e00:=Array.length_toList (xs:=cells)
    obtain⟨cells',xs,hf,hr,hR⟩:=B4 hs (cells:=(over cells.toList off (a.eval x).cells.toList).toArray) h3 h (hc.over hz off)
    refine⟨cells',xs, ?_,hr,hR⟩
    rw[List.map_cons,zY h1 (by omega) (by omega)]
    exact hf
   ·exact h.elim
  ·cases hp
theorem O3 {t:TypeId} {parts:Array (Nat×Operand)} {z:List AC} {ps:List (Nat×Nat×AX)} (ho:o.op= .build t parts) (hz:(dj P t).bind (λz=>cellsOf z.cells.toList)=some z) (hp:(DH P t).bind (xe · parts.toList)=some ps)
  (h:bh P (.build z ps) σ K) (hs:bl w0 U σ ι a w) (hn:eA w0 U a o K next):o.wp P a w next Q:=by
 simp only[bh]at h
 unfold dj DH at*
 cases hi:P.info? t with
 |none=>simp[hi]at hz
 |some it=>
  cases ZJ:it.zero with
  |none=>simp[hi,ZJ]at hz
  |some z0=>
   simp[hi,ZJ]at hz
   split at hp
   ·rename_i fs hd
    cases ZK:fs.toList.mapM (λf=>(P.info? f.type).map λi=>(f.offset,i.size))with
    |none=>simp[ZK]at hp
    |some places=>
     simp only[ZK,Option.bind_some]at hp
     obtain⟨cells',xs,hf,hr,hR⟩:=B4 hs hp h (cells:=z0.cells) (jF hz)
     refine aA (w':=w) ?_ (hn _ σ ι _ w hR hs (.agg hr))
     have hb:P.built t (parts.map λ(i,x)=>(i,a.eval x)).toList=some cells':=by
      unfold Program.built
      simp only[hi,hd,ZJ,ZK]
      rw[Array.toList_map]
      simpa using hf
     simp only[execOp,ho,Sem.run_bind]
     rw[run_build w t _ cells' hb]
     rfl
   ·simp at hp
theorem aO.append {V:Nat→Prop} {sz:Nat} {rows rows':List (List PC)} {cs cs':List Value} (h:aO w V sz rows cs) (h':aO w V sz rows' cs'):aO w V sz (rows++rows') (cs++cs'):=by
 obtain⟨h3,h4,h5⟩:=h
 obtain⟨g3,g4,g5⟩:=h'
 refine⟨by rw[List.length_append,List.length_append,h3,g3,Nat.add_mul],λi row hi=> ?_,λi row j p hi hj=> ?_⟩
 ·by_cases H:i<rows.length
  ·rw[List.getElem?_append_left H]at hi;exact h4 i row hi
  ·rw[List.getElem?_append_right (by omega)]at hi;exact g4 _ row hi
 ·by_cases H:i<rows.length
  ·rw[List.getElem?_append_left H]at hi
   obtain⟨v,hv,hp⟩:=h5 i row j p hi hj
   exact⟨v,by rw[List.getElem?_append_left ((List.getElem?_eq_some_iff.1 hv).1)];exact hv,hp⟩
  ·rw[List.getElem?_append_right (by omega)]at hi
   obtain⟨v,hv,hp⟩:=g5 _ row j p hi hj
   have ZY:rows.length*sz≤i*sz:=Nat.mul_le_mul_right _ (by omega)
   refine⟨v, ?_,hp⟩
   rw[List.getElem?_append_right (by omega),←hv,h3,Nat.sub_mul]
   congr 1
   omega
theorem aO.nil {V:Nat→Prop} {sz:Nat}:aO w V sz [] []:=⟨by simp,by simp,by simp⟩
theorem aO.one {V:Nat→Prop} {sz:Nat} {r:List PC} {vs:List Value} (h:aJ (bH w V) r vs) (hl:r.length=sz):aO w V sz [r] vs:=by
 refine⟨by rw[←h.length,hl];simp,λi row hi=> ?_,λi row j p hi hj=> ?_⟩
 ·cases i with
  |zero=>simp at hi;subst hi;exact hl
  |succ i=>simp at hi
 ·cases i with
  |zero=>
   simp at hi
   subst hi
   obtain⟨v,hv,hp⟩:=h.get hj
   exact⟨v,by simpa using hv,hp⟩
  |succ i=>simp at hi
theorem Jy {b k:Nat} {cs:Array Value} {T:TypeId} {fz:Nat×Nat} (h:w.heap[b]? =some (.cells cs T fz)):w.cell? ⟨b,k,none⟩=cs.toList[k]? :=by
 rw[cell_of_row w b k cs T fz h]
 simp
theorem aO.slice {V:Nat→Prop} {sz b c:Nat} {rows:List (List PC)} {cells:List Value} (h:aO w V sz rows cells) (hb:V b) (hc:rows.length≤c) (hm:rows.length≤9223372036854775807)
  (hcell: ∀(k:Nat) v,cells[k]? =some v→w.cell? ⟨b,k,none⟩=some v):bH w V (.slice rows) (.slice (some ⟨b,0,none⟩) rows.length c):=by
 refine .slice (sz:=sz) (λi j=>(cells[i*sz+j]?).getD undef) rfl hc hm h.2.1 (λi row j p hi hj=> ?_) (λi row j p hi hj=> ?_)
 ·obtain⟨v,hv,hp⟩:=h.2.2 i row j p hi hj
  exact⟨b,0,rfl,hb,by rw[Nat.zero_add,hv];exact hcell _ _ hv⟩
 ·obtain⟨v,hv,hp⟩:=h.2.2 i row j p hi hj
  rw[hv]
  exact hp
theorem wY (hs:bl w0 U σ ι a w):aB w0.heap.size U ι σ.mem w.heap.size:=
 ⟨.inr hs.below.size,λnm bx hf e=>by have:=((hs.box _ _ hf).block e).2;omega⟩
theorem AH (hs:bl w0 U σ ι a w) {sz n:Nat}: ∀{k:Nat} {parts:List (Nat×Operand)} {rs:List AX} {acc:List (List PC)} {cells:Array Value} {R:List (List PC)→Prop},rb k parts=some rs→bh.bsliceW σ sz rs acc R→acc.length=k→k+rs.length=n→cells.size=n*sz→
  aO w (aB w0.heap.size U ι σ.mem) sz acc (cells.toList.take (k*sz))→ ∃cells' rows,Instr.fill (λi=>some (i*sz,sz)) cells (parts.map λ(i,x)=>(i,a.eval x))=some cells'∧aO w (aB w0.heap.size U ι σ.mem) sz rows cells'.toList∧rows.length=n∧R rows
 |k, [],rs,acc,cells,R,hp,h,hl,HS,W,hc=>by
  cases hp
  simp at HS
  subst HS
  exact⟨cells,acc,rfl,by rw[List.take_of_length_le (by simp;omega)]at hc;exact hc,hl,h⟩
 |k,(i,x)::parts,rs,acc,cells,R,hp,h,hl,HS,W,hc=>by
  unfold rb at hp
  split at hp
  ·rename_i ZL
   subst ZL
   split at hp
   ·rename_i y ys h2 h3
    cases hp
    simp only[bh.bsliceW]at h
    split at h
    ·rename_i zs e
     obtain⟨r,hr,gd,h⟩:=h
     have hz:=(al h2 hs).cells e
     have HH:=I6 hz hr
     have ZH:=hz.length
     have e0:=Array.length_toList (xs:=(a.eval x).cells)
     have e00:=Array.length_toList (xs:=cells)
     simp only[List.length_cons]at HS
     have hL:i*sz+sz≤n*sz:=by
      have:(i+1)*sz≤n*sz:=Nat.mul_le_mul_right _ (by omega)
      rw[Nat.succ_mul]at this
      exact this
     have ZM:(over cells.toList (i*sz) (a.eval x).cells.toList).length=cells.toList.length:=AO (by simp;omega)
     obtain⟨cells',rows,hf,h4,h5,hR⟩:=AH hs (n:=n) (cells:=(over cells.toList (i*sz) (a.eval x).cells.toList).toArray) h3 h (by simp[hl]) (by omega) (by simp only[List.size_toArray,ZM,Array.length_toList,W]) (by
      have e1:(over cells.toList (i*sz) (a.eval x).cells.toList).take ((i+1)*sz)=cells.toList.take (i*sz)++(a.eval x).cells.toList:=by
       unfold over
       rw[List.append_assoc,Nat.succ_mul]
       have e2:(cells.toList.take (i*sz)).length=i*sz:=by simp;omega
       rw[List.take_append,e2,List.take_of_length_le (by omega),Nat.add_sub_cancel_left,List.take_append,List.take_of_length_le (l:=(a.eval x).cells.toList) (by simp;omega)]
       have e3:sz-(a.eval x).cells.toList.length=0:=by simp;omega
       rw[e3]
       simp
      simp only[List.toList_toArray]at e1 ⊢
      rw[e1]
      exact hc.append (aO.one HH (by have:=HH.length;omega)))
     refine⟨cells',rows, ?_,h4,h5,hR⟩
     rw[List.map_cons,zY rfl (by omega) (by omega)]
     exact hf
    ·exact h.elim
   ·cases hp
  ·cases hp
theorem Nl {t:TypeId} {n e sz bytes:Nat} {parts:Array (Nat×Operand)} {rs:List AX} {z:Value} (ho:o.op= .buildSlice t n parts) (ht:dK P t=some (e,sz,bytes)) (hr:rb 0 parts.toList=some rs) (hl:rs.length=n) (hm:n*sz≤16777216) (h0:0<sz) (hz:dj P e=some z) (O:z.cells.size=sz)
  (h:bh P (.bslice sz rs) σ K) (hs:bl w0 U σ ι a w) (hn:eA w0 U a o K next):o.wp P a w next Q:=by
 simp only[bh]at h
 unfold dK dj at*
 split at ht
 ·rename_i e' hd
  cases hi:P.info? e' with
  |none=>simp[hi]at ht
  |some inf=>
   simp[hi]at ht
   obtain⟨rfl,rfl,_⟩:=ht
   simp[hi]at hz
   let base:Array Value:=(Array.range (n*inf.size)).map (λk=>(if n*inf.size=0 then #[]else z.cells)[k%(if n*inf.size=0 then #[]else z.cells).size]!)
   have ge:base.size=n*inf.size:=by simp[base]
   obtain⟨cells',rows,hf,h4,h5,hR⟩:=AH hs (n:=n) (cells:=base) hr h rfl (by omega) ge (by simp;exact aO.nil)
   have hg:Below w.heap.size w (w.alloc (.cells cells' e')):=(Below.refl _ _).alloc (Nat.le_refl _) _
   have hY:bH (w.alloc (.cells cells' e')) (aB w0.heap.size U ι σ.mem) (.slice rows) (.slice (some ⟨w.heap.size,0,none⟩) rows.length rows.length):=by
    refine(h4.mono (λ_ _ h=>h) (λb hb _=>hg.block b hb)).slice (wY hs) (Nat.le_refl _) (by have:n*1≤n*inf.size:=Nat.mul_le_mul_left _ h0;omega) λk v hk=> ?_
    rw[Jy (heap_alloc_new _ _)]
    exact hk
   rw[h5]at hY
   refine aA (w':=w.alloc (.cells cells' e')) ?_ (hn _ σ ι _ _ hR (hs.grow hg) (.c (.tsl hY)))
   have h7:Instr.fill (λi=>some (i*inf.size,inf.size)) base (parts.map λ(i,x)=>(i,a.eval x)).toList=some cells':=by
    rw[Array.toList_map];exact hf
   by_cases HC:n*inf.size=0
   ·simp only[base,HC,if_true]at h7
    have e1: ¬(16777216<n*inf.size):=by omega
    simp[execOp,ho,Instr.buildSlice,run_underlying hd,sizeOf,typeInfo,hi,HC,newRow]
    simp[Array.range_zero']at h7
    simp[h7,Array.range_zero']
    try rfl
   ·simp only[base,HC,if_false]at h7
    have e1: ¬(16777216<n*inf.size):=by omega
    simp[execOp,ho,Instr.buildSlice,run_underlying hd,sizeOf,typeInfo,hi,HC,newRow,zeroValue,hz,e1]
    simp at h7
    simp[h7]
    try rfl
 ·cases ht
end
open Go.RowKit
section
variable {P : Program} {o : Oper} {a : Act} {w w0 : World} {U : Gh} {ι : Pl} {σ : St} {next : Act → World → Prop} {Q : Exit → Act → World → Prop} {K : AV → St → Prop}
theorem EP {z:Array Value} {m k:Nat} (h:k<m):(madeCells z m).toList[k]? =some (z[k%z.size]!):=by
 unfold madeCells
 simp[h]
theorem Ry {i j sz:Nat} (h:j<sz):(i*sz+j)%sz=j:=by
 rw[Nat.add_comm,Nat.add_mul_mod_self_right,Nat.mod_eq_of_lt h]
theorem N5 {i n j sz:Nat} (hi:i<n) (hj:j<sz):i*sz+j<n*sz:=by
 have:(i+1)*sz≤n*sz:=Nat.mul_le_mul_right _ hi
 rw[Nat.succ_mul]at this
 omega
theorem aO.made {V:Nat→Prop} {sz n:Nat} {zs:List PC} {z:Array Value} (hz:aJ (bH w V) zs z.toList) (hs:z.size=sz):aO w V sz (List.replicate n zs) (madeCells z (n*sz)).toList:=by
 have hl:zs.length=sz:=by rw[hz.length,Array.length_toList,hs]
 refine⟨by simp[madeCells],λi row hi=> ?_,λi row j p hi hj=> ?_⟩
 ·have:=List.mem_of_getElem? hi
  rw[List.mem_replicate]at this
  rw[this.2,hl]
 ·have HN:i<n:=by have:=(List.getElem?_eq_some_iff.1 hi).1;simpa using this
  have:=List.mem_of_getElem? hi
  rw[List.mem_replicate]at this
  obtain⟨_,rfl⟩:=this
  obtain⟨v,hv,hp⟩:=hz.get hj
  have HG:j<sz:=by rw[←hl];exact(List.getElem?_eq_some_iff.1 hj).1
  refine⟨v, ?_,hp⟩
  rw[EP (N5 HN HG),hs,Ry HG,←hv]
  simp[hs,HG]
theorem K6 {t e:TypeId} {sz bytes l:Nat} {z:Value} {zs:List PC} (ho:o.op= .makeSlice t (.tmp l) (.tmp l)) (ht:dK P t=some (e,sz,bytes)) (h0:0<sz) (hz:dj P e=some z) (O:z.cells.size=sz) (HH:oS z.cells.toList=some zs)
  (h:bh P (.mkslice e sz bytes zs (.t l)) σ K) (hs:bl w0 U σ ι a w) (hn:eA w0 U a o K next):o.wp P a w next Q:=by
 have r1:=al (x:= .tmp l) rfl hs
 simp only[bh]at h
 unfold dK dj at*
 split at ht
 ·rename_i e' hd
  cases hi:P.info? e' with
  |none=>simp[hi]at ht
  |some inf=>
   simp[hi]at ht
   obtain⟨rfl,rfl,rfl⟩:=ht
   simp[hi]at hz
   split at h
   ·rename_i n en
    rw[en]at r1
    have e1:=(aQ r1).1
    obtain⟨⟨HC,hm,hb⟩,h⟩:=h
    have D:=run_make (P:=P) w t e' inf z hd hi hz .i64 .i64 n n HC (Int.le_refl _) hb (by omega)
    have hg:Below w.heap.size w (w.alloc (.cells (madeCells z.cells (n.toNat*inf.size)) e')):=(Below.refl _ _).alloc (Nat.le_refl _) _
    obtain⟨ι',h1,h2,h3,h4⟩:=hs.newBox (pv:= .slice (some ⟨w.heap.size,0,none⟩) n.toNat n.toNat) (bx:= .arr e' inf.size (List.replicate n.toNat zs)) hg (λb hb=>by simp[bc]at hb;omega) (λι' e1 e2 C=>by
     refine⟨(madeCells z.cells (n.toNat*inf.size)).toList,h0, ?_,by simp;omega,aO.made (wU HH) O⟩
     rw[e2,List.length_replicate]
     refine⟨by simp[madeCells],.inr ⟨w.heap.size,n.toNat,madeCells z.cells (n.toNat*inf.size),rfl,hs.below.size,heap_alloc_new _ _,Nat.le_refl _,by unfold maxLen;omega,by simp[madeCells], ?_⟩⟩
     exact List.take_of_length_le (by simp[madeCells]))
    refine aA (u:=ι' σ.nx) (w':=w.alloc (.cells (madeCells z.cells (n.toNat*inf.size)) e')) ?_ (hn _ _ ι' _ _ h h1 (.c (.ref (Nat.lt_succ_self _) ⟨_,_,_,h2⟩)))
    rw[h2]
    simp only[execOp,ho,e1,Sem.run_bind,D]
    rfl
   ·exact h.elim
 ·cases ht
theorem bH.part {V:Nat→Prop} {sz n c l h m:Nat} {rows:List (List PC)} {ad:Option Addr} (hp:bH w V (.slice rows) (.slice ad n c)) (J:bV sz rows) (hlh:l≤h) (hhn:h≤rows.length) (ZZ:h≤m):
  bH w V (.slice ((rows.take h).drop l)) (.slice (if m=l then ad else ad.map (·.add (l*sz))) (h-l) (m-l)):=by
 cases hp with
 | @slice sz' _ _ _ _ g hn hc hm hr hcell hp=>
  have Zw: ∀(i:Nat) row,rows[i]? =some row→sz'=sz:= λi row hi=>by rw[←hr i row hi];exact J row (List.mem_of_getElem? hi)
  have hF: ∀i row,((rows.take h).drop l)[i]? =some row→rows[l+i]? =some row:=by
   intro i row hi
   rw[List.getElem?_drop]at hi
   have:=(List.getElem?_eq_some_iff.1 hi).1
   rw[List.getElem?_take_of_lt (by simp at this;omega)]at hi
   exact hi
  refine .slice (λi j=>g (l+i) j) (by simp;omega) (by omega) (by omega) (λi row hi=>hr _ row (hF i row hi)) (λi row j p hi hj=> ?_) (λi row j p hi hj=>hp _ row j p (hF i row hi) hj)
  have HN:i<h-l:=by have:=(List.getElem?_eq_some_iff.1 hi).1;simp at this;omega
  obtain⟨b,off,rfl,hb,g7⟩:=hcell _ row j p (hF i row hi) hj
  rw[if_neg (by omega)]
  have:=Zw _ row (hF i row hi)
  subst this
  refine⟨b,off+l*sz',by simp[fR],hb, ?_⟩
  rw[←g7,Nat.add_mul]
  congr 2
  omega
theorem ou {x:Option Operand} {y:Option AX} {r:Option Int} (h:mn x=some y) (hs:bl w0 U σ ι a w) (hb:bh.boundOf σ y=some r):(x.map a.eval=none∧r=none)∨ ∃k i,(x.map a.eval)=some (.int k i)∧r=some i:=by
 cases x with
 |none=>
  cases h
  left
  simp[bh.boundOf]at hb
  exact⟨rfl,hb.symm⟩
 |some x=>
  simp[mn]at h
  obtain⟨z,hz,rfl⟩:=h
  have r1:=al hz hs
  simp only[bh.boundOf]at hb
  split at hb
  ·rename_i k i e
   cases hb
   rw[e]at r1
   exact .inr ⟨k,i,by simp[(aQ r1).1],rfl⟩
  ·cases hb
theorem fS {k:IntKind} {i:Int} {y:Nat} {code:BoundsCode} (h0:0≤i) (h1:i≤y):(Instr.sliceBound (.int k i) y code).run P w= .ok i.toNat w:=by
 simp[Instr.sliceBound,asIntOf,h0,h1]
theorem DM {b:Bool} {n c:Nat} {lo hi mx:Option Value} {l h m:Option Int} (z4:(lo=none∧l=none)∨ ∃k i,lo=some (.int k i)∧l=some i) (Zx:(hi=none∧h=none)∨ ∃k i,hi=some (.int k i)∧h=some i)
  (Zy:(mx=none∧m=none)∨ ∃k i,mx=some (.int k i)∧m=some i) (g1:0≤l.getD 0) (g2:l.getD 0≤h.getD n) (g3:h.getD n≤m.getD n) (g4:m.getD n≤n) (hc:n≤c) (hm:m.isSome=true→h.isSome=true):
  (Instr.sliceBounds b n c lo hi mx).run P w= .ok ((l.getD 0).toNat,(h.getD n).toNat,(m.map Int.toNat).getD c) w:=by
 rcases z4 with⟨rfl,rfl⟩|⟨kl,l,rfl,rfl⟩<;>rcases Zx with⟨rfl,rfl⟩|⟨kh,h,rfl,rfl⟩<;>rcases Zy with⟨rfl,rfl⟩|⟨km,m,rfl,rfl⟩<;>simp only[Option.getD_none,Option.getD_some]at g1 g2 g3 g4
 all_goals first
  |(simp at hm;done)
  |skip
 ·simp[Instr.sliceBounds]
 ·unfold Instr.sliceBounds
  simp[fS (P:=P) (w:=w) (show 0≤h by omega) (show h≤(c:Int) by omega)]
 ·unfold Instr.sliceBounds
  have e1:=fS (P:=P) (w:=w) (k:=km) (code:=if b=true then .slice3Acap else .slice3Alen) (show 0≤m by omega) (show m≤(c:Int) by omega)
  have e2:=fS (P:=P) (w:=w) (k:=kh) (code:= .slice3B) (show 0≤h by omega) (show h≤(m.toNat:Int) by omega)
  simp[e1,e2]
 ·unfold Instr.sliceBounds
  have e1:=fS (P:=P) (w:=w) (k:=kl) (code:= .sliceB) (show 0≤l by omega) (show l≤(n:Int) by omega)
  simp[e1]
 ·unfold Instr.sliceBounds
  have e1:=fS (P:=P) (w:=w) (k:=kh) (code:=if b=true then .sliceAcap else .sliceAlen) (show 0≤h by omega) (show h≤(c:Int) by omega)
  have e2:=fS (P:=P) (w:=w) (k:=kl) (code:= .sliceB) (show 0≤l by omega) (show l≤(h.toNat:Int) by omega)
  simp[e1,e2]
 ·unfold Instr.sliceBounds
  have e1:=fS (P:=P) (w:=w) (k:=km) (code:=if b=true then .slice3Acap else .slice3Alen) (show 0≤m by omega) (show m≤(c:Int) by omega)
  have e2:=fS (P:=P) (w:=w) (k:=kh) (code:= .slice3B) (show 0≤h by omega) (show h≤(m.toNat:Int) by omega)
  have e3:=fS (P:=P) (w:=w) (k:=kl) (code:= .slice3C) (show 0≤l by omega) (show l≤(h.toNat:Int) by omega)
  simp[e1,e2,e3]
theorem QS {t:TypeId} {x:Operand} {lo hi:Option Operand} {y:AX} {l h':Option AX} (ho:o.op= .slice t x lo hi none) (ht:P.underlying t=some .string) (hx:aC x=some y) (hl:mn lo=some l) (hh:mn hi=some h')
  (h:bh P (.slcS y l h') σ K) (hs:bl w0 U σ ι a w) (hn:eA w0 U a o K next):o.wp P a w next Q:=by
 have r1:=al hx hs
 simp only[bh]at h
 split at h
 ·rename_i s lo' HA e e1 e2
  rw[e]at r1
  have es:=(aQ r1).1
  obtain⟨⟨g1,g2,g3⟩,h⟩:=h
  have b1:=ou hl hs e1
  have b2:=ou hh hs e2
  have D:=DM (P:=P) (w:=w) (b:=false) (n:=s.size) (c:=s.size) (lo:=lo.map a.eval) (hi:=hi.map a.eval) (mx:=none) (m:=none) b1 b2 (.inl ⟨rfl,rfl⟩) g1 g2 g3 (by simp) (Nat.le_refl _) (by simp)
  refine aA (w':=w) ?_ (hn _ σ ι _ w h hs (mQ rfl))
  simp[execOp,ho,es,Instr.sliceAt,Instr.slice,run_underlying ht,D]
 ·exact h.elim
theorem SV {t e:TypeId} {sz bytes:Nat} {x:Operand} {lo hi mx:Option Operand} {y:AX} {l h' m:Option AX} (ho:o.op= .slice t x lo hi mx) (ht:dK P t=some (e,sz,bytes)) (hx:aC x=some y) (hl:mn lo=some l) (hh:mn hi=some h') (hm:mn mx=some m) (ZZ:mx.isSome=true→hi.isSome=true)
  (h:bh P (.slc sz y l h' m) σ K) (hs:bl w0 U σ ι a w) (hn:eA w0 U a o K next):o.wp P a w next Q:=by
 have r1:=al hx hs
 simp only[bh]at h
 split at h
 ·exact h.elim
 ·rename_i nref
  obtain⟨rows,e0,lo',e1,HA,e2,mx',e3,⟨HI,g1,g2,g3,g4⟩,h⟩:=h
  have b1:=ou hl hs e1
  have b2:=ou hh hs e2
  have b3:=ou hm hs e3
  obtain⟨ad,c,eu,hc,H1⟩:=Cp hs r1 e0
  have hY:bH w (aB w0.heap.size U ι σ.mem) (.slice rows) (.slice ad rows.length c):=by
   unfold eL at e0
   generalize AX.ev σ.fr y=v at*
   split at e0
   ·cases e0
    cases r1 with|c r1=>cases r1 with|pure r1=>rw[eu]at r1;exact r1
   ·cases e0
    cases r1 with|c r1=>
     rw[eu]at r1
     cases r1 with|tsl r1=>exact r1
   ·cases e0
    cases r1 with|c r1=>
     rw[eu]at r1
     cases r1
     exact .nil
   ·exact absurd rfl (nref _)
   ·cases e0
  unfold dK at ht
  split at ht
  ·rename_i e' hd
   cases q3:P.info? e' with
   |none=>simp[q3]at ht
   |some inf=>
    simp[q3]at ht
    obtain⟨rfl,rfl,_⟩:=ht
    have hM:mx'.isSome=true→HA.isSome=true:=by
     intro h1
     have h2:mx.isSome=true:=by
      rcases b3 with⟨_,h3⟩|⟨k,i,h3,_⟩
      ·rw[h3]at h1;cases h1
      ·cases mx with
       |none=>cases h3
       |some _=>rfl
     have h4:=ZZ h2
     rcases b2 with⟨h5,_⟩|⟨k,i,_,h5⟩
     ·cases hi with
      |none=>cases h4
      |some _=>cases h5
     ·rw[h5];rfl
    have D:=DM (P:=P) (w:=w) (b:=true) (n:=rows.length) (c:=c) b1 b2 b3 g1 g2 g3 g4 hc hM
    have q4:=hY.part HI (l:=(lo'.getD 0).toNat) (h:=(HA.getD rows.length).toNat) (m:=(mx'.map Int.toNat).getD c) (by omega) (by omega) (by cases mx' with|none=>simp at g3 ⊢;omega|some m=>simp at g3 ⊢;omega)
    refine aA (u:= .slice (if((mx'.map Int.toNat).getD c)=(lo'.getD 0).toNat then ad else ad.map (·.add ((lo'.getD 0).toNat*inf.size))) ((HA.getD rows.length).toNat-(lo'.getD 0).toNat) (((mx'.map Int.toNat).getD c)-(lo'.getD 0).toNat)) (w':=w) ?_ (hn _ σ ι _ w h hs ?_)
    ·simp only[execOp,ho,Sem.run_bind,Instr.sliceAt,Instr.slice,run_underlying hd,Result.andThen_ok,eu,D,sizeOf,typeInfo,run_program,q3,Sem.run_pure]
    ·split
     ·rename_i Zz
      obtain⟨Z0,ZI⟩:=Zz
      cases mx' with
      |none=>cases Z0
      |some m=>
       subst ZI
       exact .c (.tsl q4)
     ·exact .c (.pure q4)
  ·cases ht
end
open Go.RowKit
section
variable {P : Program} {o : Oper} {a : Act} {w w' w0 : World} {U : Gh} {ι : Pl} {σ : St} {next : Act → World → Prop} {Q : Exit → Act → World → Prop} {K : AV → St → Prop}
theorem gI {nm t:Nat}: ∀{m:List (Nat×bm)},am (sV m nm) t=if t=nm then none else am m t
 | []=>by simp[sV,am]
 |(s,b)::m=>by
  simp only[sV]
  by_cases e:s=nm
  ·rw[if_pos e,gI,bt]
   by_cases e2:t=nm
   ·rw[if_pos e2,if_pos e2]
   ·rw[if_neg e2,if_neg e2,if_neg (by omega)]
  ·rw[if_neg e,bt,bt,gI]
   by_cases e2:t=nm
   ·rw[if_pos e2,if_pos e2,if_neg (by omega)]
   ·rw[if_neg e2,if_neg e2]
theorem bl.replace (hs:bl w0 U σ ι a w) {nm e sz:Nat} {rows rows':List (List PC)} {pv:Value} {cells:List Value} (hf:am σ.mem nm=some (.arr e sz rows)) (hg:w.grownBy w' (bc (ι nm)))
  (ZN: ∀b,bc pv=some b→bc (ι nm)=some b∨w.heap.size≤b) (hsl: ∃a n c,pv= .slice a n c) (h0:0<sz) (H2:w'.ownsRow w0.heap.size e sz pv rows'.length cells) (hm:rows'.length≤9223372036854775807)
  (ZO:aO w (aB w0.heap.size U ι σ.mem) sz rows' cells) (z5:Below w0.heap.size w0 w'):
  ∃ι',ι' σ.nx=pv∧σ.nx<σ.nx+1∧bl w0 U {σ with mem:=(σ.nx,.arr e sz rows')::sV σ.mem nm,nx:=σ.nx+1} ι' a w':=by
 let ι':Pl:= λn=>if n=σ.nx then pv else ι n
 have e1:ι' σ.nx=pv:=if_pos rfl
 have e2: ∀m,m<σ.nx→ι' m=ι m:= λm hm=>if_neg (by omega)
 let mem':=(σ.nx,bm.arr e sz rows')::sV σ.mem nm
 have HK: ∀n bx,am mem' n=some bx→(n=σ.nx∧bx= .arr e sz rows')∨(n≠nm∧n<σ.nx∧am σ.mem n=some bx):=by
  intro n bx h
  simp only[mem',bt,gI]at h
  by_cases en:σ.nx=n
  ·rw[if_pos en]at h
   cases h
   exact .inl ⟨en.symm,rfl⟩
  ·rw[if_neg en]at h
   by_cases en':n=nm
   ·rw[if_pos en']at h;cases h
   ·rw[if_neg en']at h
    exact .inr ⟨en',hs.names _ _ h,h⟩
 have C: ∀b,b<w.heap.size→aB w0.heap.size U ι σ.mem b→aB w0.heap.size U ι' mem' b:=by
  intro b hb h
  refine⟨h.1,λn bx hn=> ?_⟩
  rcases HK n bx hn with⟨rfl,_⟩|⟨h1,h2,h3⟩
  ·rw[e1]
   intro hc
   rcases ZN b hc with h2|h2
   ·exact h.2 _ _ hf h2
   ·omega
  ·rw[e2 n h2]
   exact h.2 _ _ h3
 have hw: ∀b,b<w.heap.size→aB w0.heap.size U ι σ.mem b→w'.heap[b]? =w.heap[b]? := λb hb h=>hg.block b hb (λe=>h.2 _ _ hf e.symm)
 refine⟨ι',e1,Nat.lt_succ_self _,⟨λt=> ?_,hs.defers,λn bx hn=> ?_,λn bx hn=> ?_,λn n' b1 b2 b h1 h2 h3 h4=> ?_,z5,U.mono _ _ _ _ hs.keep C hw,
  ⟨Nat.le_succ_of_le hs.base.1,λm hm=>(e2 m (Nat.lt_of_lt_of_le hm hs.base.1)).trans (hs.base.2 m hm)⟩⟩⟩
 ·exact(hs.val t).mono C hw e2 (Nat.le_succ _)
 ·show n<σ.nx+1
  rcases HK n bx hn with⟨rfl,_⟩|⟨h1,h2,h3⟩<;>omega
 ·rcases HK n bx hn with⟨rfl,rfl⟩|⟨h1,h2,h3⟩
  ·exact⟨cells,h0,by rw[e1];exact H2,hm,ZO.mono C hw⟩
  ·have hS: ∀c,bc (ι n)=some c→bc (ι nm)≠some c:= λc hc e'=>h1 (hs.apart _ _ _ _ c h3 hf hc e')
   have HM:=hs.box _ _ h3
   cases bx with
   |var xs=>
    obtain⟨b',vs,T,g1,g2,g3,g4⟩:=HM
    refine⟨b',vs,T,by rw[e2 n h2];exact g1,g2, ?_,g4.mono λ_ _ h=>h.mono C hw e2 (Nat.le_succ _)⟩
    rw[hg.block b' (Array.getElem?_eq_some_iff.1 g3).1 (λe=>hS b' (by rw[g1];rfl) e.symm)]
    exact g3
   |arr e' sz' rows0=>
    obtain⟨cells',k0,k1,k2,k3⟩:=HM
    refine⟨cells',k0, ?_,k2,k3.mono C hw⟩
    rw[e2 n h2]
    refine World.ownsRow.kept k1 hg ?_
    rcases k1.2 with⟨h,_⟩|⟨g,cap,cur,h,_⟩
    ·rw[h];exact .inl rfl
    ·right
     rw[h]
     intro e'
     exact hS g (by rw[h];rfl) e'.symm
   |arn e' sz' rows0=>
    obtain⟨cells',k0,k1,k2,k3⟩:=HM
    refine⟨cells',k0, ?_,k2,k3.mono C hw e2 (Nat.le_succ _)⟩
    rw[e2 n h2]
    refine World.ownsRow.kept k1 hg ?_
    rcases k1.2 with⟨h,_⟩|⟨g,cap,cur,h,_⟩
    ·rw[h];exact .inl rfl
    ·right
     rw[h]
     intro e'
     exact hS g (by rw[h];rfl) e'.symm
   |map kt m ents=>
    obtain⟨b',es,clock,k1,k2,k3,k4,k5⟩:=HM
    refine⟨b',es,clock,by rw[e2 n h2];exact k1,k2, ?_,k4.mono λ_ _ h=>h.mono C hw e2 (Nat.le_succ _),k5⟩
    rw[hg.block b' (Array.getElem?_eq_some_iff.1 k3).1 (λe=>hS b' (by rw[k1];rfl) e.symm)]
    exact k3
 ·rcases HK n b1 h1 with⟨rfl,_⟩|⟨k1,k2,k3⟩
  ·rcases HK n' b2 h2 with⟨rfl,_⟩|⟨k1',k2',k3'⟩
   ·rfl
   ·rw[e1]at h3
    rw[e2 _ k2']at h4
    rcases ZN b h3 with h5|h5
    ·exact absurd (hs.apart _ _ _ _ b k3' hf h4 h5) k1'
    ·have:=((hs.box _ _ k3').block h4).2
     omega
  ·rw[e2 _ k2]at h3
   rcases HK n' b2 h2 with⟨rfl,_⟩|⟨k1',k2',k3'⟩
   ·rw[e1]at h4
    rcases ZN b h4 with h5|h5
    ·exact absurd (hs.apart _ _ _ _ b k3 hf h3 h5) k1
    ·have:=((hs.box _ _ k3).block h3).2
     omega
   ·rw[e2 _ k2']at h4
    exact hs.apart _ _ _ _ b k3 k3' h3 h4
end
open Go.RowKit
section
variable {P : Program} {o : Oper} {a : Act} {w w' w0 : World} {U : Gh} {ι : Pl} {σ : St} {next : Act → World → Prop} {Q : Exit → Act → World → Prop} {K : AV → St → Prop}
theorem aO.ones {V:Nat→Prop} {sz:Nat} {rows:List (List PC)} {cells:List Value} (h:aO w V sz rows cells) (h0:0<sz): ∀v∈cells,v.oneCell'=true:=by
 intro v hv
 obtain⟨k,hk,e⟩:=List.mem_iff_getElem.1 hv
 have ZP:k/sz<rows.length:=by
  rw[Nat.div_lt_iff_lt_mul h0,←h.1];exact hk
 have F:=List.getElem?_eq_getElem ZP
 have hl:=h.2.1 _ _ F
 have hj:k%sz<(rows[k/sz]).length:=by rw[hl];exact Nat.mod_lt _ h0
 obtain⟨u,hu,hp⟩:=h.2.2 _ _ _ _ F (List.getElem?_eq_getElem hj)
 rw[Nat.mul_comm,Nat.div_add_mod,List.getElem?_eq_getElem hk]at hu
 cases hu
 rw[←e]
 exact hp.one
theorem vK {V:Nat→Prop} {sz n c:Nat} {rows:List (List PC)} {ad:Option Addr} (h:bH w V (.slice rows) (.slice ad n c)) (HI:bV sz rows) (h0:0<sz) (Z:rows≠ []):
  ∃b off cells,ad=some ⟨b,off,none⟩∧n=rows.length∧(∀(j:Nat) x,cells[j]? =some x→w.cell? ⟨b,off+j,none⟩=some x)∧aO w V sz rows cells:=by
 cases h with
 | @slice sz' _ _ _ _ g hn hc hm hr hcell hp=>
  obtain rfl:sz=sz':=by
   symm
   have gd:0<rows.length:=List.length_pos_iff.2 Z
   have hG:=List.getElem?_eq_getElem gd
   rw[←hr _ _ hG]
   exact HI _ (List.mem_of_getElem? hG)
  have gd:0<rows.length:=List.length_pos_iff.2 Z
  have hG:=List.getElem?_eq_getElem gd
  have hl0:=hr _ _ hG
  obtain⟨b,off,rfl,_⟩:=hcell _ _ 0 _ hG (List.getElem?_eq_getElem (by omega))
  refine⟨b,off,(List.range (rows.length*sz)).map λk=>(w.cell? ⟨b,off+k,none⟩).getD undef,rfl,hn,λj x hj=> ?_,by simp,hr,λi row j p hi hj=> ?_⟩
  ·have HG:j<rows.length*sz:=by have:=(List.getElem?_eq_some_iff.1 hj).1;simpa using this
   simp[List.getElem?_map,List.getElem?_range HG]at hj
   have ZP:j/sz<rows.length:=by rw[Nat.div_lt_iff_lt_mul h0];exact HG
   have F:=List.getElem?_eq_getElem ZP
   have hl:=hr _ _ F
   have Z1:j%sz<(rows[j/sz]).length:=by rw[hl];exact Nat.mod_lt _ h0
   obtain⟨b',off',e',_,gq⟩:=hcell _ _ _ _ F (List.getElem?_eq_getElem Z1)
   cases e'
   rw[Nat.mul_comm,Nat.div_add_mod]at gq
   rw[gq]at hj ⊢
   simpa using hj
  ·have HN:i<rows.length:=(List.getElem?_eq_some_iff.1 hi).1
   have HG:j<sz:=by rw[←hr i row hi];exact(List.getElem?_eq_some_iff.1 hj).1
   obtain⟨b',off',e',_,gq⟩:=hcell i row j p hi hj
   cases e'
   exact⟨g i j,by simp[List.getElem?_map,List.getElem?_range (N5 HN HG),gq],hp i row j p hi hj⟩
theorem Ni {B e sz:Nat} {v:Value} {n:Nat} {cells:List Value} (h:w.ownsRow B e sz v n cells) (hn:0<n): ∃b c,v= .slice (some ⟨b,0,none⟩) n c∧ ∀(j:Nat) x,cells[j]? =some x→w.cell? ⟨b,0+j,none⟩=some x:=by
 have h':=h
 rcases h.2 with⟨_,e⟩|⟨g,cap,cur,rfl,hb,hg,hD,HP,W,hE⟩
 ·omega
 ·refine⟨g,cap,rfl,λj x hj=> ?_⟩
  have:=World.ownsRow.cells h' (g:=g) rfl j x hj
  rw[fR]at this
  exact this
theorem DU {v:AV} {u:Value} {sz:Nat} {rows:List (List PC)} (hs:bl w0 U σ ι a w) (h:aK w (aB w0.heap.size U ι σ.mem) ι σ.nx v u) (hr:eL σ.mem v=some rows) (HI:bV sz rows) (h0:0<sz) (Z:rows≠ []):
  ∃b off c cells,u= .slice (some ⟨b,off,none⟩) rows.length c∧(∀(j:Nat) x,cells[j]? =some x→w.cell? ⟨b,off+j,none⟩=some x)∧aO w (aB w0.heap.size U ι σ.mem) sz rows cells:=by
 unfold eL at hr
 split at hr
 ·cases hr
  cases h with|c h=>cases h with|pure h=>
   have h':=h
   cases h with
   |slice g hn hc hm _ _ _=>
    obtain⟨b,off,cells,rfl,rfl,h1,h2⟩:=vK h' HI h0 Z
    exact⟨b,off,_,cells,rfl,h1,h2⟩
 ·cases hr
  cases h with|c h=>cases h with|tsl h=>
   obtain⟨b,off,cells,rfl,rfl,h1,h2⟩:=vK h HI h0 Z
   exact⟨b,off,_,cells,rfl,h1,h2⟩
 ·cases hr
  exact absurd rfl Z
 ·split at hr
  ·rename_i nm e sz' rows' hf
   cases hr
   cases h with
   |c h=>cases h with
    |ref hA HQ=>
     obtain⟨cells,g0,g1,g2,g3⟩:=hs.box _ _ hf
     obtain⟨b,c,e1,h1⟩:=Ni g1 (List.length_pos_iff.2 Z)
     obtain rfl:sz=sz':=by
      symm
      have hG:=List.getElem?_eq_getElem (List.length_pos_iff.2 Z)
      rw[←g3.2.1 _ _ hG]
      exact HI _ (List.mem_of_getElem? hG)
     exact⟨b,0,c,cells,e1,h1,g3⟩
  ·cases hr
 ·cases hr
theorem gF {t e ty:TypeId} {inf:TypeInfo} {base ad:Option Addr} {n c c':Nat} (ht:P.underlying t=some (.slice e)) (hi:P.info? e=some inf) (hc:n≤c):
  (Builtin.append_ #[t,t] ty #[.slice base n c,.slice ad 0 c']).run P w= .ok (.slice base n c) w:=by
 cases ad<;>cases base<;>simp[Builtin.append_,run_underlying ht,sizeOf,typeInfo,hi,Builtin.lenOf,Builtin.firstCells,loadCells,loadCellsFrom,hc,storeCells]
theorem Mz (z:Array Value) (n:Nat):(Builtin.zeroCells z n).size=n*z.size:=by simp[Builtin.zeroCells]
theorem qe {t e ty:TypeId} {inf:TypeInfo} {z:Value} {base:Option Addr} {n c m c' sz bytes:Nat} {ad:Addr} {xs news:List Value} {B:Nat} (ht:P.underlying t=some (.slice e)) (hi:P.info? e=some inf) (hz:inf.zero=some z)
  (J:inf.size=sz) (z9:inf.bytes=bytes) (O:z.cells.size=sz) (gb:xs.length=n*sz) (hb:(base=none∧n=0∧c=0)∨ ∃bd,base=some bd∧ ∀(j:Nat) u,xs[j]? =some u→w.cell? (bd.add j)=some u)
  (HD:news.length=m*sz) (hn: ∀(j:Nat) u,news[j]? =some u→w.cell? (ad.add j)=some u) (Z2:c<n+m) (hD:n≤c) (hm:n+m≤9223372036854775807) (hH:(n+m)*bytes≤140737488355328) (hB:B≤w.heap.size):
  ∃cap w',(Builtin.append_ #[t,t] ty #[.slice base n c,.slice (some ad) m c']).run P w= .ok (.slice (some ⟨w.heap.size,0,none⟩) (n+m) cap) w'∧Below w.heap.size w w'∧
   w'.ownsRow B e sz (.slice (some ⟨w.heap.size,0,none⟩) (n+m) cap) (n+m) (xs++news):=by
 subst J
 subst z9
 have key: ∀old,(w.drew.alloc (.cells (xs.toArray++news.toArray++Builtin.zeroCells z.cells (grownCap w (n+m) old e-(n+m))) e)).ownsRow B e inf.size (.slice (some ⟨w.heap.size,0,none⟩) (n+m) (grownCap w (n+m) old e)) (n+m) (xs++news):=by
  intro old
  have ZY:=grownCap_ge w (n+m) old e
  refine⟨by rw[List.length_append,gb,HD,Nat.add_mul],.inr ⟨w.heap.size,_,_,rfl,hB,heap_alloc_new w.drew _,ZY,grownCap_le_maxLen w (n+m) old e (by unfold maxLen;omega), ?_, ?_⟩⟩
  ·simp only[Array.size_append,List.size_toArray,Mz,O,gb,HD,←Nat.add_mul]
   congr 1
   omega
  ·have hl:(xs++news).length=(n+m)*inf.size:=by rw[List.length_append,gb,HD,Nat.add_mul]
   simp only[Array.toList_append]
   rw[←hl]
   exact List.take_left
 have Y: ∀ob,Below w.heap.size w (w.drew.alloc ob):= λob=>(Below.refl _ _).drew.alloc (Nat.le_refl _) ob
 rcases hb with⟨rfl,rfl,rfl⟩|⟨bd,rfl,Z3⟩
 ·have Z4:xs= []:=List.eq_nil_of_length_eq_zero (by simpa using gb)
  subst Z4
  have hr:=run_append_nil (P:=P) w t ty e inf z ht hi hz ad m c' news HD hn (by omega) (by omega) (by have:=hH;simp only[Nat.zero_add]at this;omega)
  have hk:=key 0
  simp only[Nat.zero_add,List.nil_append,Array.empty_append]at hk ⊢
  exact⟨_,_,hr,Y _,hk⟩
 ·have hr:=run_append_grow (P:=P) w t ty e inf z ht hi hz bd n c xs gb Z3 ad m c' news HD hn (by omega) (by omega) (growslice_fits (by omega) hH)
  exact⟨_,_,hr,Y _,key c⟩
theorem sW {V:Nat→Prop} {N nm:Nat} {u:Value} (h:aK w V ι N (.c (.ref nm)) u):u=ι nm:=by
 cases h with|c h=>cases h;rfl
theorem tx {V:Nat→Prop} {N:Nat} {u:Value} (h:aK w V ι N (.c .nils) u):u= .slice none 0 0:=by
 cases h with|c h=>cases h;rfl
theorem Ou {V:Nat→Prop} {N:Nat} {rows:List (List PC)} {u:Value} (h:aK w V ι N (.c (.tsl rows)) u): ∃ad,u= .slice ad rows.length rows.length∧bH w V (.slice rows) u:=by
 cases h with|c h=>cases h with|tsl h=>
  have h':=h
  cases h with|slice g hn=>subst hn;exact⟨_,rfl,h'⟩
theorem yD {V:Nat→Prop} {B e sz b n c:Nat} {rows:List (List PC)} {cells:List Value} (h:w.ownsRow B e sz (.slice (some ⟨b,0,none⟩) n c) n cells) (hn:n=rows.length) (hr:aO w V sz rows cells) (hb:V b) (hm:n≤9223372036854775807):bH w V (.slice rows) (.slice (some ⟨b,0,none⟩) n c):=by
 subst hn
 have h':=h
 rcases h.2 with⟨e,_⟩|⟨g,cap,cur,e,Za,hg,hD,_⟩
 ·cases e
 ·simp at e
  obtain⟨rfl,rfl⟩:=e
  refine hr.slice hb hD hm λk v hk=> ?_
  have:=World.ownsRow.cells h' (g:=b) rfl k v hk
  rw[fR,Nat.zero_add]at this
  exact this
theorem TT {t e sz bytes:Nat} {z:Value} {x y:Operand} {p q:AX} {c:Call} (hc:c.callee= .builtin .append) (X:c.args.toList= [x,y]) (H0:c.argTypes.toList= [t,t]) (ho:o.op= .call c) (ht:dK P t=some (e,sz,bytes)) (h0:0<sz)
  (hz:dj P e=some z) (O:z.cells.size=sz) (hx:aC x=some p) (hy:aC y=some q) (h:bh P (.app e sz bytes p q) σ K) (hs:bl w0 U σ ι a w) (hn:eA w0 U a o K next):o.wp P a w next Q:=by
 have r1:=al hx hs
 have r2:=al hy hs
 have ha:c.args= #[x,y]:=by rw[←Array.toArray_toList (xs:=c.args),X]
 have gt:c.argTypes= #[t,t]:=by rw[←Array.toArray_toList (xs:=c.argTypes),H0]
 have D: ∀{v':Value} {w':World},(Builtin.append_ #[t,t] o.type #[a.eval x,a.eval y]).run P w= .ok v' w'→(execOp a.eval o).run P w= .ok (.value v') w':=by
  intro v' w' hr
  simp[execOp,ho,resolve,hc,invoke,builtin,ha,gt,hr]
 unfold dK dj at*
 split at ht
 ·rename_i e' hd
  cases hi:P.info? e' with
  |none=>simp[hi]at ht
  |some inf=>
   simp[hi]at ht
   obtain⟨rfl,J,z9⟩:=ht
   simp[hi]at hz
   simp only[bh,Fu]at h
   obtain⟨ys,HT,HI,h⟩:=h
   obtain⟨ady,cy,ey,hcy,hmy⟩:=Cp hs r2 HT
   generalize hvx:AX.ev σ.fr p=vx at*
   generalize hvy:AX.ev σ.fr q=vy at*
   have hB:=hs.below.size
   have fresh: ∀{rows:List (List PC)} {ad:Option Addr} {xs:List Value},a.eval x= .slice ad rows.length rows.length→xs.length=rows.length*sz→((ad=none∧rows.length=0∧rows.length=0)∨ ∃bd,ad=some bd∧ ∀(j:Nat) u,xs[j]? =some u→w.cell? (bd.add j)=some u)→
     aO w (aB w0.heap.size U ι σ.mem) sz rows xs→ys≠ []→(rows.length+ys.length)*bytes≤140737488355328→rows.length+ys.length≤140737488355328→((K (.c (.ref σ.nx)) {σ with mem:=(σ.nx,.arr e' sz (rows++ys))::σ.mem,nx:=σ.nx+1})∨K (.c (.pure (.slice (rows++ys)))) σ)→o.wp P a w next Q:=by
    intro rows ad xs ex Z5 hb gg hQ hH H1 h
    obtain⟨b,off,cc,news,en,ZQ,HE⟩:=DU hs r2 HT HI h0 hQ
    have Z6:0<ys.length:=List.length_pos_iff.2 hQ
    have hC:(rows++ys).length=rows.length+ys.length:=List.length_append
    obtain⟨cap,w',hr,Y,H2⟩:=qe (P:=P) (ty:=o.type) (B:=w0.heap.size) (c:=rows.length) (c':=cc) hd hi hz J z9 O Z5 hb HE.1 (λj u hj=>by rw[fR];exact ZQ j u hj) (by omega) (Nat.le_refl _) (by omega) hH hB
    rw[←ex,←en]at hr
    have hY:=(gg.append HE).mono (w':=w') (λ_ _ h=>h) (λb hb _=>Y.block b hb)
    rcases h with h|h
    ·obtain⟨ι',h1,h2,h3,h4⟩:=hs.newBox (pv:= .slice (some ⟨w.heap.size,0,none⟩) (rows.length+ys.length) cap) (bx:= .arr e' sz (rows++ys)) Y (λb hb=>by simp[bc]at hb;omega) (λι' e1 e2 C=>by
      refine⟨xs++news,h0, ?_,by rw[hC];omega,(gg.append HE).mono C (λb hb _=>Y.block b hb)⟩
      rw[e2,hC]
      exact H2)
     refine aA (u:=ι' σ.nx) (w':=w') (D ?_) (hn _ _ ι' _ _ h h1 (.c (.ref (Nat.lt_succ_self _) ⟨_,_,_,h2⟩)))
     rw[h2]
     exact hr
    ·refine aA (w':=w') (D hr) (hn _ σ ι _ _ h (hs.grow Y) (.c (.pure ?_)))
     exact yD H2 hC.symm hY (wY hs) (by omega)
   rcases h with⟨nm,rfl,Z,rows,hf,hH,Z7,h⟩|h
   ·obtain⟨cells,g0,g1,g2,g3⟩:=hs.box _ _ hf
    have eux:a.eval x=ι nm:=sW r1
    have hA:=hs.names _ _ hf
    by_cases hQ:ys= []
    ·subst hQ
     obtain⟨n',c',ex,hD⟩: ∃ad c',ι nm= .slice ad rows.length c'∧rows.length≤c':=by
      rcases g1.2 with⟨e1,e2⟩|⟨g,cap,cur,e1,_,_,hD,_⟩
      ·exact⟨none,0,by rw[e1,e2],by omega⟩
      ·exact⟨_,cap,e1,hD⟩
     obtain⟨ι',h1,h2,h3⟩:=hs.replace (w':=w) (rows':=rows++ []) (pv:=ι nm) hf ⟨rfl,rfl,rfl,Nat.le_refl _,λ_ _ _=>rfl⟩ (λb hb=> .inl hb) ⟨_,_,_,ex⟩ g0 (by simpa using g1) (by simpa using g2) (by simpa using g3) hs.below
     refine aA (u:=ι' σ.nx) (w':=w) (D ?_) (hn _ _ ι' _ _ h h3 (.c (.ref h2 ⟨_,_,_,h1.trans ex⟩)))
     rw[h1,eux,ex,ey]
     exact gF hd hi hD
    ·obtain⟨b,off,cc,news,en,ZQ,HE⟩:=DU hs r2 HT HI h0 hQ
     have Z6:0<ys.length:=List.length_pos_iff.2 hQ
     have ZD: ∀(j:Nat) u,news[j]? =some u→w.cell? ((⟨b,off,none⟩:Addr).add j)=some u:= λj u hj=>by rw[fR];exact ZQ j u hj
     have hC:(rows++ys).length=rows.length+ys.length:=List.length_append
     have H1:rows.length+ys.length≤9223372036854775807:=by omega
     have grow: ∀{base:Option Addr} {cx:Nat},ι nm= .slice base rows.length cx→((base=none∧rows.length=0∧cx=0)∨ ∃bd,base=some bd∧ ∀(j:Nat) u,cells[j]? =some u→w.cell? (bd.add j)=some u)→rows.length≤cx→cx<rows.length+ys.length→o.wp P a w next Q:=by
      intro base cx ex hb hL H
      obtain⟨cap,w',hr,Y,H2⟩:=qe (P:=P) (ty:=o.type) (B:=w0.heap.size) (c':=cc) hd hi hz J z9 O g1.1 hb HE.1 ZD H hL H1 hH hB
      obtain⟨ι',h1,h2,h3⟩:=hs.replace (w':=w') (rows':=rows++ys) (pv:= .slice (some ⟨w.heap.size,0,none⟩) (rows.length+ys.length) cap) hf ⟨Y.os,Y.tape,Y.output,Y.size,λk hk _=>Y.block k hk⟩ (λb hb=> .inr (by simp[bc]at hb;omega)) ⟨_,_,_,rfl⟩ g0 (by rw[hC];exact H2) (by rw[hC];exact H1) (g3.append HE) (hs.below.trans (Y.mono hB))
      refine aA (u:=ι' σ.nx) (w':=w') (D ?_) (hn _ _ ι' _ _ h h3 (.c (.ref h2 ⟨_,_,_,h1⟩)))
      rw[h1,eux,ex,en]
      exact hr
     rcases g1.2 with⟨ex,e0⟩|⟨g,cap,cur,ex,Za,hg,hD,HP,W,hE⟩
     ·exact grow (base:=none) (cx:=0) (by rw[ex,e0]) (.inl ⟨rfl,e0,rfl⟩) (by omega) (by omega)
     ·by_cases gi:rows.length+ys.length≤cap
      ·have Zb:rows.length*inf.size+news.length≤cur.size:=by
        rw[HE.1,J,W,←Nat.add_mul];exact Nat.mul_le_mul_right _ gi
       have hr:=run_append_room (P:=P) w t o.type e' inf hd hi g rows.length cap cur hg ⟨b,off,none⟩ ys.length cc news (by rw[J];exact HE.1) ZD (HE.ones h0) gi Zb
       have H2:(w.setRow g (cur.toList.take (rows.length*inf.size)++news++cur.toList.drop (rows.length*inf.size+news.length)).toArray).ownsRow w0.heap.size e' sz (.slice (some ⟨g,0,none⟩) (rows.length+ys.length) cap) (rows.length+ys.length) (cells++news):=by
        have hl:(cells++news).length=(rows.length+ys.length)*sz:=by rw[List.length_append,g1.1,HE.1,Nat.add_mul]
        refine⟨hl,.inr ⟨g,cap,_,rfl,Za,setRow_heap _ _ _ _ _ _ hg,gi,HP, ?_, ?_⟩⟩
        ·simp only[List.size_toArray,List.length_append,List.length_take,List.length_drop,Array.length_toList]
         rw[←W]
         omega
        ·rw[List.toList_toArray,J,hE,←hl]
         exact List.take_left
       obtain⟨ι',h1,h2,h3⟩:=hs.replace (w':=w.setRow g (cur.toList.take (rows.length*inf.size)++news++cur.toList.drop (rows.length*inf.size+news.length)).toArray) (rows':=rows++ys) (pv:= .slice (some ⟨g,0,none⟩) (rows.length+ys.length) cap) (cells:=cells++news) hf
        ⟨rfl,rfl,rfl,by simp,λk _ hk=>setRow_other _ _ _ _ (λe=>hk (by rw[ex,e];rfl))⟩ (λb hb=> .inl (by rw[ex];exact hb)) ⟨_,_,_,rfl⟩ g0 (by rw[hC];exact H2) (by rw[hC];exact H1) (g3.append HE) (hs.below.trans ⟨rfl,rfl,rfl,by simp,λk hk=>setRow_other _ _ _ _ (by omega)⟩)
       refine aA (u:=ι' σ.nx) (D ?_) (hn _ _ ι' _ _ h h3 (.c (.ref h2 ⟨_,_,_,h1⟩)))
       rw[h1,eux,ex,en]
       exact hr
      ·exact grow (base:=some ⟨g,0,none⟩) ex (.inr ⟨_,rfl,λj u hj=>World.ownsRow.cells g1 (by rw[ex];rfl) j u hj⟩) hD (by omega)
   ·rcases h with⟨rfl,h⟩|⟨rows,rfl,Zc,h⟩
    ·have ex:=tx r1
     by_cases hQ:ys= []
     ·subst hQ
      have hr:=gF (P:=P) (w:=w) (ty:=o.type) (base:=none) (n:=0) (c:=0) (ad:=ady) (c':=cy) hd hi (Nat.le_refl _)
      rw[←ex]at hr
      have Zd:=hr
      rw[show(Value.slice ady 0 cy)=a.eval y from ey.symm]at hr
      rcases h with⟨_,_,h⟩|⟨_,_,h⟩
      ·obtain⟨ι',h1,h2,h3,h4⟩:=hs.newBox (w':=w) (pv:= .slice none 0 0) (bx:= .arr e' sz ([]++ [])) (Below.refl _ _) (λb hb=>by simp[bc]at hb) (λι' e1 e2 C=>⟨[],h0,by rw[e2];exact World.ownsRow_nil _ _ _ _,by simp,aO.nil⟩)
       refine aA (u:=ι' σ.nx) (w':=w) (D ?_) (hn _ _ ι' _ _ h h1 (.c (.ref (Nat.lt_succ_self _) ⟨_,_,_,h2⟩)))
       rw[h2,hr,ex]
      ·refine aA (w':=w) (D hr) (hn _ σ ι _ _ h hs (.c (.pure ?_)))
       rw[ex]
       exact .nil
     ·rcases h with⟨g1,g2,h⟩|⟨g1,g2,h⟩
      ·exact fresh (rows:= []) (xs:= []) ex (by simp) (.inl ⟨rfl,rfl,rfl⟩) .nil hQ g1 g2 (.inl h)
      ·exact fresh (rows:= []) (xs:= []) ex (by simp) (.inl ⟨rfl,rfl,rfl⟩) .nil hQ g1 g2 (.inr h)
    ·obtain⟨adx,ex,gg⟩:=Ou r1
     rw[ex]at gg
     by_cases hQ:ys= []
     ·subst hQ
      rcases h with⟨h,_⟩|⟨_,_,h⟩|⟨_,h⟩
      ·exact absurd rfl h
      ·have hr:=gF (P:=P) (w:=w) (ty:=o.type) (base:=adx) (n:=rows.length) (c:=rows.length) (ad:=ady) (c':=cy) hd hi (Nat.le_refl _)
       rw[←ex,show(Value.slice ady 0 cy)=a.eval y from ey.symm]at hr
       refine aA (w':=w) (D hr) (hn _ σ ι _ _ h hs (.c (.pure ?_)))
       rw[ex,List.append_nil]
       exact gg
      ·have hr:=gF (P:=P) (w:=w) (ty:=o.type) (base:=adx) (n:=rows.length) (c:=rows.length) (ad:=ady) (c':=cy) hd hi (Nat.le_refl _)
       rw[←ex,show(Value.slice ady 0 cy)=a.eval y from ey.symm]at hr
       refine aA (w':=w) (D hr) (hn _ σ ι _ _ h hs (.c ?_))
       rw[ex]
       exact .tsl gg
     ·have hb: ∃xs:List Value,xs.length=rows.length*sz∧((adx=none∧rows.length=0∧rows.length=0)∨ ∃bd,adx=some bd∧ ∀(j:Nat) u,xs[j]? =some u→w.cell? (bd.add j)=some u)∧aO w (aB w0.heap.size U ι σ.mem) sz rows xs:=by
       by_cases Ze:rows= []
       ·subst Ze
        refine⟨[],by simp, ?_,.nil⟩
        cases adx with
        |none=>exact .inl ⟨rfl,rfl,rfl⟩
        |some bd=>exact .inr ⟨bd,rfl,by simp⟩
       ·obtain⟨b,off,xs,rfl,_,Z8,Zf⟩:=vK gg Zc h0 Ze
        exact⟨xs,Zf.1,.inr ⟨_,rfl,λj u hj=>by rw[fR];exact Z8 j u hj⟩,Zf⟩
      obtain⟨xs,h1,h2,h3⟩:=hb
      rcases h with⟨_,g1,g2,h⟩|⟨g1,g2,h⟩|⟨h,_⟩
      ·exact fresh ex h1 h2 h3 hQ g1 g2 (.inl h)
      ·exact fresh ex h1 h2 h3 hQ g1 g2 (.inr h)
      ·exact absurd h hQ
 ·cases ht
end
open Go.RowKit
section
variable {P : Program} {o : Oper} {a : Act} {w w' w0 : World} {U : Gh} {ι : Pl} {σ : St} {next : Act → World → Prop} {Q : Exit → Act → World → Prop} {K : AV → St → Prop}
theorem aJ.ofMem {R:AC→Value→Prop} {xs:List AC} {vs:List Value} (h:aJ R xs vs) (i:Nat) (x:AC) (hi:xs[i]? =some x):R x (vs[i]?.getD undef):=by
 obtain⟨v,hv,hr⟩:=h.get hi
 rw[hv]
 exact hr
theorem GV (hs:bl w0 U σ ι a w): ∀{caps:List Operand} {xs:List AX} {acc:List AC} {vs:List Value} {R:List AC→Prop},ka caps=some xs→bh.mkfnW σ xs acc R→aJ (bz w (aB w0.heap.size U ι σ.mem) ι σ.nx) acc vs→
  ∃ys,aJ (bz w (aB w0.heap.size U ι σ.mem) ι σ.nx) ys (vs++caps.map a.eval)∧R ys
 |[],xs,acc,vs,R,hx,h,q5=>by
  cases hx
  exact⟨acc,by simpa using q5,h⟩
 |x::caps,xs,acc,vs,R,hx,h,q5=>by
  unfold ka at hx
  split at hx
  ·rename_i y ys h1 h2
   cases hx
   simp only[bh.mkfnW]at h
   have r1:=al h1 hs
   split at h
   ·rename_i z e
    rw[e]at r1
    cases r1 with
    |c r1=>
     obtain⟨ys',hr,hR⟩:=GV hs (vs:=vs++ [a.eval x]) h2 h (q5.append (.cons r1 .nil))
     exact⟨ys',by simpa using hr,hR⟩
   ·exact h.elim
  ·cases hx
theorem RA {f:FuncId} {first caps:Array Operand} {xs:List AX} (ho:o.op= .makeFunc (.func f) first caps) (hf:first.size=0) (hx:ka caps.toList=some xs) (h:bh P (.mkfn f xs) σ K) (hs:bl w0 U σ ι a w) (hn:eA w0 U a o K next):o.wp P a w next Q:=by
 simp only[bh]at h
 obtain⟨ys,hr,hR⟩:=GV hs hx h .nil
 have Z9:first= #[]:=Array.eq_empty_of_size_eq_zero hf
 refine aA (u:= .func (.func f) #[] (caps.map a.eval)) (w':=w) ?_ (hn _ σ ι _ w hR hs (.c (.clo ?_ λi x hi=> ?_)))
 ·simp[execOp,ho,Instr.makeFunc,Z9]
 ·have:=hr.length
  simpa using this
 ·have:=hr.ofMem i x hi
  simpa using this
theorem yd {V:Nat→Prop} {x:AC} {y:PC} {v:Value} (hs:bl w0 U σ ι a w) (h:bz w (aB w0.heap.size U ι σ.mem) ι σ.nx x v) (hp:cG σ.mem x=some y) (hV: ∀b,aB w0.heap.size U ι σ.mem b→V b) (hN:kk x=true∨ ∀b,w0.heap.size≤b→V b):bH w V y v:=by
 have h8: ∀{p:PC} {v:Value},bH w (aB w0.heap.size U ι σ.mem) p v→bH w V p v:= λh=>h.mono (λb _ h=>hV b h) (λ_ _ _=>rfl)
 cases h with
 |pure h=>cases hp;exact h8 h
 |nils=>cases hp;exact .nil
 |tsl h=>cases hp;exact h8 h
 |ref hn HQ=>
  simp only[cG]at hp
  split at hp
  ·rename_i e sz rows hf
   cases hp
   have L: ∀b,w0.heap.size≤b→V b:=by
    rcases hN with h|h
    ·simp[kk]at h
    ·exact h
   obtain⟨cells,g0,g1,g2,g3⟩:=hs.box _ _ hf
   rcases g1.2 with⟨e1,e2⟩|⟨g,cap,cur,e1,hB,_⟩
   ·have:rows= []:=List.eq_nil_of_length_eq_zero e2
    subst this
    rw[e1]
    exact .nil
   ·rw[e1]at g1 ⊢
    exact yD g1 rfl (g3.mono (λb _ h=>hV b h) (λ_ _ _=>rfl)) (L _ hB) g2
  ·cases hp
 |_=>cases hp
theorem Lq {V:Nat→Prop} {xs:List AC} {vs:List Value} (hs:bl w0 U σ ι a w) (h:aJ (bz w (aB w0.heap.size U ι σ.mem) ι σ.nx) xs vs) (hV: ∀b,aB w0.heap.size U ι σ.mem b→V b) (hN: ∀b,w0.heap.size≤b→V b): ∀{ys:List PC},um σ.mem xs=some ys→aJ (bH w V) ys vs:=by
 induction h with
 |nil=>intro ys hp;cases hp;exact .nil
 |cons h t ih=>
  intro ys hp
  unfold um at hp
  split at hp
  ·cases hp
   exact .cons (yd hs h ‹_› hV (.inr hN)) (ih ‹_›)
  ·cases hp
theorem FJ {V:Nat→Prop} {kt:KT} {n:Option Nat} (hs:bl w0 U σ ι a w) (hV: ∀b,aB w0.heap.size U ι σ.mem b→V b) (hN: ∀b,w0.heap.size≤b→V b): ∀{ents:List (MK×List AC)} {es:List MapEntry} {qs:List (MK×List PC)},aJ (iL w (aB w0.heap.size U ι σ.mem) ι σ.nx kt n) ents es→jd σ.mem n ents=some qs→
  aJ (λx e=>x.1.val kt=some e.key∧(n.isSome=true→ ∃vs,e.val= .agg vs)∧aJ (bH w V) x.2 (JL n e.val)) qs es
 | [],es,qs,h,hp=>by cases h;cases hp;exact .nil
 |x::ents,es,qs,h,hp=>by
  cases h with
  | @cons _ e _ es h1 h2=>
   unfold jd at hp
   split at hp
   ·rename_i ps qs' g1 g2
    cases hp
    refine .cons ⟨h1.1, ?_⟩ (FJ hs hV hN h2 g2)
    have hv:=h1.2
    cases n with
    |none=>
     refine⟨(λh=>by cases h), ?_⟩
     cases hx:x.2 with
     |nil=>rw[hx]at g1;simp[lJ]at g1
     |cons p r=>
      rw[hx]at g1 hv
      simp only[lJ]at g1
      split at g1
      ·rename_i q hq
       cases g1
       cases hv with
       |c hv=>exact .cons (yd hs hv hq hV (.inr hN)) .nil
      ·cases g1
    |some k=>
     simp only[eF]at hv
     generalize e.val=u at hv
     cases hv with
     |agg hv=>exact⟨λ_=>⟨_,rfl⟩,Lq hs hv hV hN g1⟩
   ·cases hp
theorem QO {V:Nat→Prop} {kt:KT} {n:Option Nat} {qs:List (MK×List PC)} {es:Array MapEntry} {b clock:Nat} (h:aJ (λx e=>x.1.val kt=some e.key∧(n.isSome=true→ ∃vs,e.val= .agg vs)∧aJ (bH w V) x.2 (JL n e.val)) qs es.toList)
  (hb:V b) (hm:w.heap[b]? =some (.map es clock)):bH w V (.fmap kt n qs) (.map (some b)):=by
 refine .fmap hb hm (by simpa using h.length) (λi x e hx he=> ?_) (λi x e j p v hx he hp hv=> ?_)
 ·obtain⟨e',g1,g2,g3,g4⟩:=h.get hx
  rw[g1]at he
  cases he
  exact⟨g2,g3,g4.length⟩
 ·obtain⟨e',g1,g2,g3,g4⟩:=h.get hx
  rw[g1]at he
  cases he
  obtain⟨v',k1,k2⟩:=g4.get hp
  rw[k1]at hv
  cases hv
  exact k2
theorem RI {V:Nat→Prop} {N:Nat} {kt:KT} {n:Option Nat} {qs:List (MK×List PC)} {b:Nat} (h:bH w V (.fmap kt n qs) (.map (some b))):V b∧ ∃es clock,w.heap[b]? =some (.map es clock)∧aJ (iL w V ι N kt n) (lR qs) es.toList:=by
 cases h with
 | @fmap _ _ _ _ clock es hb hm hl hk hp=>
  refine⟨hb,es,clock,hm,aJ.of_get (by simpa[lR]using hl) λi x e hx he=> ?_⟩
  unfold lR at hx
  rw[List.getElem?_map]at hx
  obtain⟨y,hy,rfl⟩:=Option.map_eq_some_iff.1 hx
  obtain⟨k1,k2,k3⟩:=hk i y e hy he
  have k4:=hp i y e
  refine⟨k1, ?_⟩
  cases n with
  |none=>
   cases Zg:y.2 with
   |nil=>rw[Zg]at k3;cases k3
   |cons p r=>exact .c (.pure (k4 0 p e.val hy he (by rw[Zg];rfl) rfl))
  |some k=>
   obtain⟨vs,G2⟩:=k2 rfl
   rw[G2]at k3 k4 ⊢
   refine .agg (aJ.of_get (by simpa[JL]using k3) λj x v hx hv=> ?_)
   rw[List.getElem?_map]at hx
   obtain⟨p,hp',rfl⟩:=Option.map_eq_some_iff.1 hx
   exact .pure (k4 j p v hy he hp' hv)
theorem JT {V:Nat→Prop} {nm:Nat} {kt:KT} {n:Option Nat} {ents:List (MK×List AC)} {qs:List (MK×List PC)} (hs:bl w0 U σ ι a w) (hf:am σ.mem nm=some (.map kt n ents)) (hq:jd σ.mem n ents=some qs)
  (hV: ∀b,aB w0.heap.size U ι σ.mem b→V b) (hN: ∀b,w0.heap.size≤b→V b):bH w V (.fmap kt n qs) (ι nm):=by
 obtain⟨b,es,clock,g1,g2,g3,g4⟩:=hs.box _ _ hf
 rw[g1]
 exact QO (FJ hs hV hN g4.1 hq) (hN _ g2) g3
theorem Pj {V:Nat→Prop} {x:AC} {y:PC} {v:Value} (hs:bl w0 U σ ι a w) (h:bz w (aB w0.heap.size U ι σ.mem) ι σ.nx x v) (hp:dn σ.mem x=some y) (hV: ∀b,aB w0.heap.size U ι σ.mem b→V b) (hN:kk x=true∨ ∀b,w0.heap.size≤b→V b):bH w V y v:=by
 cases x with
 |mref nm=>
  have L: ∀b,w0.heap.size≤b→V b:=by
   rcases hN with h|h
   ·simp[kk]at h
   ·exact h
  simp only[dn]at hp
  split at hp
  ·split at hp
   ·cases hp
    have e:v=ι nm:=by cases h with|mref _ h=>exact h.symm
    rw[e]
    exact JT hs ‹_› ‹_› hV L
   ·cases hp
  ·cases hp
 |_=>exact yd hs h hp hV hN
theorem KH {V:Nat→Prop} {xs:List AC} {vs:List Value} (hs:bl w0 U σ ι a w) (h:aJ (bz w (aB w0.heap.size U ι σ.mem) ι σ.nx) xs vs) (hV: ∀b,aB w0.heap.size U ι σ.mem b→V b) (hN: ∀b,w0.heap.size≤b→V b): ∀{ys:List PC},bC σ.mem xs=some ys→aJ (bH w V) ys vs:=by
 induction h with
 |nil=>intro ys hp;cases hp;exact .nil
 |cons h t ih=>
  intro ys hp
  unfold bC at hp
  split at hp
  ·cases hp
   exact .cons (Pj hs h ‹_› hV (.inr hN)) (ih ‹_›)
  ·cases hp
theorem I1 {V:Nat→Prop} {x y:AC} {v:Value} (hs:bl w0 U σ ι a w) (h:bz w (aB w0.heap.size U ι σ.mem) ι σ.nx x v) (hp:dh σ.mem x=some y) (hV: ∀b,aB w0.heap.size U ι σ.mem b→V b) (hN:kk x=true∨ ∀b,w0.heap.size≤b→V b):bz w V (λ_=>undef) 0 y v:=by
 have h8: ∀{p:PC} {v:Value},bH w (aB w0.heap.size U ι σ.mem) p v→bH w V p v:= λh=>h.mono (λb _ h=>hV b h) (λ_ _ _=>rfl)
 have h':=h
 cases h with
 |pure h=>cases hp;exact .pure (h8 h)
 |nils=>cases hp;exact .pure .nil
 |tsl h=>cases hp;exact .pure (h8 h)
 |cptr g hc=>
  cases hp
  refine .cptr g λj p hj=> ?_
  obtain⟨h1,h2,h3⟩:=hc j p hj
  exact⟨hV _ h1,h2,h8 h3⟩
 |ref hn HQ=>
  simp only[dh]at hp
  split at hp
  ·rename_i e sz rows hf
   cases hp
   exact .pure (yd hs h' (by simp[cG,hf]) hV hN)
  ·cases hp
 | @mref nm b hn hι=>
  simp only[dh]at hp
  split at hp
  ·split at hp
   ·cases hp
    have L: ∀b,w0.heap.size≤b→V b:=by
     rcases hN with h|h
     ·simp[kk]at h
     ·exact h
    rw[←hι]
    exact .pure (JT hs ‹_› ‹_› hV L)
   ·cases hp
  ·cases hp
 | @ptr nm off b hn hι=>
  simp only[dh]at hp
  split at hp
  ·rename_i xs hf
   split at hp
   ·rename_i ps hps
    cases hp
    have L: ∀b,w0.heap.size≤b→V b:=by
     rcases hN with h|h
     ·simp[kk]at h
     ·exact h
    obtain⟨b',vs,T,g1,g2,g3,g4⟩:=hs.box _ _ hf
    rw[hι]at g1
    simp at g1
    subst g1
    have hr:=KH hs g4 hV L hps
    refine .cptr (λj=>(vs.toList[off+j]?).getD undef) λj p hj=> ?_
    rw[List.getElem?_drop]at hj
    obtain⟨u,hu,hrp⟩:=hr.get hj
    refine⟨L _ g2, ?_, ?_⟩
    ·rw[cell_of_row w b _ vs T (0,0) g3,hu]
     simpa using hu
    ·rw[hu];exact hrp
   ·cases hp
  ·cases hp
 |_=>cases hp
theorem Eo {V:Nat→Prop}: ∀{xs:List AC} {vs:List Value},bl w0 U σ ι a w→xs.length=vs.length→(∀(i:Nat) x,xs[i]? =some x→bz w (aB w0.heap.size U ι σ.mem) ι σ.nx x (vs[i]?.getD undef))→(∀b,aB w0.heap.size U ι σ.mem b→V b)→(xs.all kk=true∨ ∀b,w0.heap.size≤b→V b)→
  ∀{ys:List AC},AM σ.mem xs=some ys→ys.length=vs.length∧ ∀(i:Nat) y,ys[i]? =some y→bz w V (λ_=>undef) 0 y (vs[i]?.getD undef)
 | [],vs,hs,hl,h,hV,hN,ys,hp=>by cases hp;exact⟨hl,by simp⟩
 |x::xs, [],hs,hl,h,hV,hN,ys,hp=>by simp at hl
 |x::xs,v::vs,hs,hl,h,hV,hN,ys,hp=>by
  unfold AM at hp
  split at hp
  ·rename_i y ys' h1 h2
   cases hp
   have hN1:kk x=true∨ ∀b,w0.heap.size≤b→V b:=by
    rcases hN with h|h
    ·simp only[List.all_cons,Bool.and_eq_true]at h;exact .inl h.1
    ·exact .inr h
   have hN2:xs.all kk=true∨ ∀b,w0.heap.size≤b→V b:=by
    rcases hN with h|h
    ·simp only[List.all_cons,Bool.and_eq_true]at h;exact .inl h.2
    ·exact .inr h
   obtain⟨k1,k2⟩:=Eo (xs:=xs) (vs:=vs) hs (by simpa using hl) (λi x hi=>by simpa using h (i+1) x (by simpa using hi)) hV hN2 h2
   refine⟨by simp[k1],λi z hi=> ?_⟩
   cases i with
   |zero=>
    simp at hi
    subst hi
    exact I1 hs (by simpa using h 0 x rfl) h1 hV hN1
   |succ i=>simpa using k2 i z (by simpa using hi)
  ·cases hp
theorem Mm {V:Nat→Prop} {x y:AC} {v:Value} (hs:bl w0 U σ ι a w) (h:bz w (aB w0.heap.size U ι σ.mem) ι σ.nx x v) (hp:dk σ.mem x=some y) (hV: ∀b,aB w0.heap.size U ι σ.mem b→V b) (hN:B6 x=true∨ ∀b,w0.heap.size≤b→V b):bz w V (λ_=>undef) 0 y v:=by
 cases x with
 |clo f caps=>
  cases h with
  | @clo _ _ vs hl h=>
   simp only[dk]at hp
   split at hp
   ·rename_i ys HT
    cases hp
    obtain⟨k1,k2⟩:=Eo (vs:=vs.toList) hs (by simpa using hl) h hV (by simpa[B6]using hN) HT
    exact .clo (by simpa using k1) k2
   ·cases hp
 |_=>exact I1 hs h hp hV hN
theorem Na {V:Nat→Prop} {xs:List AC} {vs:List Value} (hs:bl w0 U σ ι a w) (h:aJ (bz w (aB w0.heap.size U ι σ.mem) ι σ.nx) xs vs) (hV: ∀b,aB w0.heap.size U ι σ.mem b→V b) (hN:xs.all B6=true∨ ∀b,w0.heap.size≤b→V b): ∀{ys:List AC},An σ.mem xs=some ys→aJ (bz w V (λ_=>undef) 0) ys vs:=by
 induction h with
 |nil=>intro ys hp;cases hp;exact .nil
 |cons h t ih=>
  intro ys hp
  unfold An at hp
  split at hp
  ·cases hp
   refine .cons (Mm hs h ‹_› hV ?_) (ih ?_ ‹_›)
   ·rcases hN with h|h
    ·simp only[List.all_cons,Bool.and_eq_true]at h;exact .inl h.1
    ·exact .inr h
   ·rcases hN with h|h
    ·simp only[List.all_cons,Bool.and_eq_true]at h;exact .inl h.2
    ·exact .inr h
  ·cases hp
theorem yW {V:Nat→Prop} {x y:AV} {v:Value} (hs:bl w0 U σ ι a w) (h:aK w (aB w0.heap.size U ι σ.mem) ι σ.nx x v) (hp:c9 σ.mem x=some y) (hV: ∀b,aB w0.heap.size U ι σ.mem b→V b) (hN:kc x=true∨ ∀b,w0.heap.size≤b→V b):aK w V (λ_=>undef) 0 y v:=by
 cases h with
 |c h=>
  simp only[c9]at hp
  split at hp
  ·cases hp
   exact .c (Mm hs h ‹_› hV (by simpa[kc]using hN))
  ·cases hp
 |agg h=>
  simp only[c9]at hp
  split at hp
  ·cases hp
   exact .agg (Na hs h hV (by simpa[kc]using hN) ‹_›)
  ·cases hp
 |tup=>cases hp
 |top=>cases hp
theorem Ei (hs:bl w0 U σ ι a w): ∀{xs:List Operand} {ys:List AX},ka xs=some ys→aJ (aK w (aB w0.heap.size U ι σ.mem) ι σ.nx) (ys.map (·.ev σ.fr)) (xs.map a.eval)
 | [],ys,h=>by cases h;exact .nil
 |x::xs,ys,h=>by
  unfold ka at h
  split at h
  ·cases h
   exact .cons (al ‹_› hs) (Ei hs ‹_›)
  ·cases h
theorem js {V:Nat→Prop} {xs:List AV} {vs:List Value} (hs:bl w0 U σ ι a w) (h:aJ (aK w (aB w0.heap.size U ι σ.mem) ι σ.nx) xs vs) (hV: ∀b,aB w0.heap.size U ι σ.mem b→V b) (hN:xs.all kc=true∨ ∀b,w0.heap.size≤b→V b): ∀{ys:List AV},ba σ.mem xs=some ys→aJ (aK w V (λ_=>undef) 0) ys vs:=by
 induction h with
 |nil=>intro ys hp;cases hp;exact .nil
 |cons h t ih=>
  intro ys hp
  unfold ba at hp
  split at hp
  ·cases hp
   refine .cons (yW hs h ‹_› hV ?_) (ih ?_ ‹_›)
   ·rcases hN with h|h
    ·simp only[List.all_cons,Bool.and_eq_true]at h;exact .inl h.1
    ·exact .inr h
   ·rcases hN with h|h
    ·simp only[List.all_cons,Bool.and_eq_true]at h;exact .inl h.2
    ·exact .inr h
  ·cases hp
theorem zk {V V':Nat→Prop} {x:AC} {v:Value} (h:bz w V (λ_=>undef) 0 x v) (hf:s8 x=true):bz w V' ι σ.nx x v:=by
 cases h with
 |pure h=>
  cases h with
  |val h=>exact .pure (.val h)
  |slice=>simp[s8]at hf
  |fmap=>simp[s8]at hf
 |_=>simp[s8]at hf
theorem DE {V V':Nat→Prop} {xs:List AC} {vs:List Value} (h:aJ (bz w V (λ_=>undef) 0) xs vs) (hf:xs.all s8=true):aJ (bz w V' ι σ.nx) xs vs:=by
 induction h with
 |nil=>exact .nil
 |cons h _ ih=>
  simp only[List.all_cons,Bool.and_eq_true]at hf
  exact .cons (zk h hf.1) (ih hf.2)
theorem MR {V V':Nat→Prop} {x:AV} {v:Value} (h:aK w V (λ_=>undef) 0 x v) (hf:rg x=true):aK w V' ι σ.nx x v:=by
 cases h with
 |c h=>exact .c (zk h hf)
 |agg h=>exact .agg (DE h hf)
 |tup hl h=>
  refine .tup hl λi x hi=> ?_
  have hx: ∀(xs:List AV),rg.go xs=true→ ∀(i:Nat) x,xs[i]? =some x→(∃y,x= .c y∧s8 y=true)∨ ∃ys,x= .agg ys∧ys.all s8=true:=by
   intro xs
   induction xs with
   |nil=>intro _ i x hi;simp at hi
   |cons y ys ih=>
    intro hg i x hi
    cases y with
    |c y=>
     simp only[rg.go,Bool.and_eq_true]at hg
     cases i with
     |zero=>simp at hi;subst hi;exact .inl ⟨_,rfl,hg.1⟩
     |succ i=>simp at hi;exact ih hg.2 i x hi
    |agg zs=>
     simp only[rg.go,Bool.and_eq_true]at hg
     cases i with
     |zero=>simp at hi;subst hi;exact .inr ⟨_,rfl,hg.1⟩
     |succ i=>simp at hi;exact ih hg.2 i x hi
    |tup=>simp[rg.go]at hg
    |top=>simp[rg.go]at hg
  have HA:=h i x hi
  generalize (‹Array Value›.toList[i]?.getD undef)=z at HA ⊢
  rcases hx _ (by simpa[rg]using hf) i x hi with⟨y,rfl,hy⟩|⟨ys,rfl,hy⟩
  ·cases HA with|c h=>exact .c (zk h hy)
  ·cases HA with|agg h=>exact .agg (DE h hy)
 |top=>simp[rg]at hf
theorem Cf {V:Nat→Prop} {N:Nat} {x:AC} {v:Value} (h:bz w V ι N x v):ft x:=by
 cases h with
 |pure h=>
  cases h with
  |val h=>trivial
  |slice g hn hc hm=>subst hn;exact hm
  |fmap=>trivial
 |_=>trivial
theorem FZ {V:Nat→Prop} {N:Nat} {xs:List AC} {vs:List Value} (h:aJ (bz w V ι N) xs vs):jP xs:=by
 induction h with
 |nil=>trivial
 |cons h _ ih=>exact⟨Cf h,ih⟩
theorem I9 {V:Nat→Prop} {N:Nat} {x:AV} {v:Value} (h:aK w V ι N x v):eW x:=by
 cases h with
 |c h=>exact Cf h
 |agg h=>exact FZ h
 |tup hl h=>
  rename_i xs vs
  have key: ∀(xs:List AV),(∀(i:Nat) x,xs[i]? =some x→ ∃u,aK w V ι N x u)→eW.go xs:=by
   intro xs
   induction xs with
   |nil=>intro _;trivial
   |cons y ys ih=>
    intro hx
    have ht:=ih λi x hi=>hx (i+1) x (by simpa using hi)
    obtain⟨u,hu⟩:=hx 0 y rfl
    cases y with
    |c y=>cases hu with|c hu=>exact⟨Cf hu,ht⟩
    |agg zs=>cases hu with|agg hu=>exact⟨FZ hu,ht⟩
    |tup=>exact ht
    |top=>exact ht
  exact key xs λi x hi=>⟨_,h i x hi⟩
 |top=>trivial
end
open Go.RowKit
section
variable {P : Program} {o : Oper} {a : Act} {w w' w0 : World} {U : Gh} {ι : Pl} {σ : St} {next : Act → World → Prop} {Q : Exit → Act → World → Prop} {K : AV → St → Prop}
theorem GP {B:Nat} {mem:List (Nat×bm)} {nm b:Nat} (h:aB B U ι mem b):aB B U ι (sV mem nm) b:=by
 refine⟨h.1,λn bx hf=> ?_⟩
 rw[gI]at hf
 by_cases e:n=nm
 ·rw[if_pos e]at hf;cases hf
 ·rw[if_neg e]at hf;exact h.2 n bx hf
theorem bl.sub (hs:bl w0 U σ ι a w) {mem:List (Nat×bm)} (h: ∀n bx,am mem n=some bx→am σ.mem n=some bx):bl w0 U {σ with mem:=mem} ι a w:=by
 have C: ∀b,b<w.heap.size→aB w0.heap.size U ι σ.mem b→aB w0.heap.size U ι mem b:= λb _ hf=>⟨hf.1,λn bx hn=>hf.2 n bx (h n bx hn)⟩
 refine⟨λt=>(hs.val t).mono C (λ_ _ _=>rfl) (λ_ _=>rfl) (Nat.le_refl _),hs.defers,λn bx hn=>hs.names _ _ (h _ _ hn),λn bx hn=> ?_,
  λn n' b1 b2 b h1 h2=>hs.apart _ _ _ _ _ (h _ _ h1) (h _ _ h2),hs.below,U.mono _ _ _ _ hs.keep C (λ_ _ _=>rfl),hs.base⟩
 exact(hs.box _ _ (h _ _ hn)).grow (Below.refl _ _) C (λ_ _=>rfl) (Nat.le_refl _) (hs.names _ _ (h _ _ hn))
theorem bl.del (hs:bl w0 U σ ι a w) (nm:Nat):bl w0 U {σ with mem:=sV σ.mem nm} ι a w:=by
 refine hs.sub λn bx hn=> ?_
 rw[gI]at hn
 by_cases e:n=nm
 ·rw[if_pos e]at hn;cases hn
 ·rw[if_neg e]at hn;exact hn
theorem J5 {x:AC} {p:PC} {v:Value} {mem':List (Nat×bm)} (hs:bl w0 U σ ι a w) (h:bz w (aB w0.heap.size U ι σ.mem) ι σ.nx x v) (hf:OB σ.mem x=some (p,mem')):
  bl w0 U {σ with mem:=mem'} ι a w∧bH w (aB w0.heap.size U ι mem') p v∧ ∀b,aB w0.heap.size U ι σ.mem b→aB w0.heap.size U ι mem' b:=by
 cases h with
 |pure h=>cases hf;exact⟨hs,h,λ_ h=>h⟩
 |nils=>cases hf;exact⟨hs,.nil,λ_ h=>h⟩
 |tsl h=>cases hf;exact⟨hs,h,λ_ h=>h⟩
 | @ref nm hn HQ=>
  simp only[OB]at hf
  split at hf
  ·rename_i e sz rows Zh
   cases hf
   refine⟨hs.del nm, ?_,λb h=>GP h⟩
   obtain⟨cells,g0,g1,g2,g3⟩:=hs.box _ _ Zh
   rcases g1.2 with⟨e1,e2⟩|⟨g,cap,cur,e1,hB,_⟩
   ·have:rows= []:=List.eq_nil_of_length_eq_zero e2
    subst this
    rw[e1]
    exact .nil
   ·have hb:bc (ι nm)=some g:=by rw[e1];rfl
    rw[e1]at g1 ⊢
    refine yD g1 rfl (g3.mono (λb _ h=>GP h) (λ_ _ _=>rfl)) ⟨.inr hB,λn bx q6 e=> ?_⟩ g2
    rw[gI]at q6
    by_cases en:n=nm
    ·rw[if_pos en]at q6;cases q6
    ·rw[if_neg en]at q6
     exact en (hs.apart _ _ _ _ _ q6 Zh e hb)
  ·cases hf
 |_=>cases hf
theorem FT: ∀{xs:List AC} {σ:St} {vs:List Value} {ps:List PC} {mem':List (Nat×bm)},bl w0 U σ ι a w→aJ (bz w (aB w0.heap.size U ι σ.mem) ι σ.nx) xs vs→GD σ.mem xs=some (ps,mem')→
  bl w0 U {σ with mem:=mem'} ι a w∧aJ (bH w (aB w0.heap.size U ι mem')) ps vs∧ ∀b,aB w0.heap.size U ι σ.mem b→aB w0.heap.size U ι mem' b
 |[],σ,vs,ps,mem',hs,h,hf=>by
  cases h
  cases hf
  exact⟨hs,.nil,λ_ h=>h⟩
 |x::xs,σ,vs,ps,mem',hs,h,hf=>by
  cases h with
  |cons h1 h2=>
   unfold GD at hf
   split at hf
   ·rename_i y m1 e1
    split at hf
    ·rename_i ys m2 e2
     cases hf
     obtain⟨k1,k2,k3⟩:=J5 hs h1 e1
     obtain⟨j1,j2,j3⟩:=FT (σ:={σ with mem:=m1}) k1 (h2.mono λ_ _ h=>h.mono (λb _ h=>k3 b h) (λ_ _ _=>rfl) (λ_ _=>rfl) (Nat.le_refl _)) e2
     exact⟨j1,.cons (k2.mono (λb _ h=>j3 b h) (λ_ _ _=>rfl)) j2,λb h=>j3 b (k3 b h)⟩
    ·cases hf
   ·cases hf
theorem wD {sz n:Nat}: ∀{k:Nat} {mem:List (Nat×bm)} {parts:List (Nat×Operand)} {rs:List AX} {acc:List (List PC)} {cells:Array Value} {R:List (List PC)→List (Nat×bm)→Prop},bl w0 U {σ with mem:=mem} ι a w→rb k parts=some rs→bh.bsliceFW σ sz rs mem acc R→acc.length=k→k+rs.length=n→cells.size=n*sz→
  aO w (aB w0.heap.size U ι mem) sz acc (cells.toList.take (k*sz))→ ∃cells' rows mem',Instr.fill (λi=>some (i*sz,sz)) cells (parts.map λ(i,x)=>(i,a.eval x))=some cells'∧bl w0 U {σ with mem:=mem'} ι a w∧aO w (aB w0.heap.size U ι mem') sz rows cells'.toList∧rows.length=n∧R rows mem'
 |k,mem, [],rs,acc,cells,R,hs,hp,h,hl,HS,W,hc=>by
  cases hp
  simp at HS
  subst HS
  exact⟨cells,acc,mem,rfl,hs,by rw[List.take_of_length_le (by simp;omega)]at hc;exact hc,hl,h⟩
 |k,mem,(i,x)::parts,rs,acc,cells,R,hs,hp,h,hl,HS,W,hc=>by
  unfold rb at hp
  split at hp
  ·rename_i ZL
   subst ZL
   split at hp
   ·rename_i y ys h2 h3
    cases hp
    simp only[bh.bsliceFW]at h
    split at h
    ·rename_i zs e
     obtain⟨⟨r,mem1⟩,hr,gd,h⟩:=h
     have hz:=(al h2 hs).cells e
     obtain⟨H3,HH,hfr⟩:=FT hs hz hr
     have ZH:=hz.length
     have e0:=Array.length_toList (xs:=(a.eval x).cells)
     have e00:=Array.length_toList (xs:=cells)
     simp only[List.length_cons]at HS
     have hL:i*sz+sz≤n*sz:=by
      have:(i+1)*sz≤n*sz:=Nat.mul_le_mul_right _ (by omega)
      rw[Nat.succ_mul]at this
      exact this
     have ZM:(over cells.toList (i*sz) (a.eval x).cells.toList).length=cells.toList.length:=AO (by simp;omega)
     obtain⟨cells',rows,mem',hf,h3',h4,h5,hR⟩:=wD (n:=n) (cells:=(over cells.toList (i*sz) (a.eval x).cells.toList).toArray) H3 h3 h (by simp[hl]) (by omega) (by simp only[List.size_toArray,ZM,Array.length_toList,W]) (by
      have e1:(over cells.toList (i*sz) (a.eval x).cells.toList).take ((i+1)*sz)=cells.toList.take (i*sz)++(a.eval x).cells.toList:=by
       unfold over
       rw[List.append_assoc,Nat.succ_mul]
       have e2:(cells.toList.take (i*sz)).length=i*sz:=by simp;omega
       rw[List.take_append,e2,List.take_of_length_le (by omega),Nat.add_sub_cancel_left,List.take_append,List.take_of_length_le (l:=(a.eval x).cells.toList) (by simp;omega)]
       have e3:sz-(a.eval x).cells.toList.length=0:=by simp;omega
       rw[e3]
       simp
      simp only[List.toList_toArray]at e1 ⊢
      rw[e1]
      exact(hc.mono (λb _ h=>hfr b h) (λ_ _ _=>rfl)).append (aO.one HH (by have:=HH.length;omega)))
     refine⟨cells',rows,mem', ?_,h3',h4,h5,hR⟩
     rw[List.map_cons,zY rfl (by omega) (by omega)]
     exact hf
    ·exact h.elim
   ·cases hp
  ·cases hp
theorem K7 {t:TypeId} {n e sz bytes:Nat} {parts:Array (Nat×Operand)} {rs:List AX} {z:Value} (ho:o.op= .buildSlice t n parts) (ht:dK P t=some (e,sz,bytes)) (hr:rb 0 parts.toList=some rs) (hl:rs.length=n) (hm:n*sz≤16777216) (h0:0<sz) (hz:dj P e=some z) (O:z.cells.size=sz)
  (h:bh P (.bsliceF sz rs) σ K) (hs:bl w0 U σ ι a w) (hn:eA w0 U a o K next):o.wp P a w next Q:=by
 simp only[bh]at h
 unfold dK dj at*
 split at ht
 ·rename_i e' hd
  cases hi:P.info? e' with
  |none=>simp[hi]at ht
  |some inf=>
   simp[hi]at ht
   obtain⟨rfl,rfl,_⟩:=ht
   simp[hi]at hz
   let base:Array Value:=(Array.range (n*inf.size)).map (λk=>(if n*inf.size=0 then #[]else z.cells)[k%(if n*inf.size=0 then #[]else z.cells).size]!)
   have ge:base.size=n*inf.size:=by simp[base]
   obtain⟨cells',rows,mem',hf,ZA,h4,h5,hR⟩:=wD (n:=n) (cells:=base) (mem:=σ.mem) hs hr h rfl (by omega) ge (by simp;exact aO.nil)
   have hg:Below w.heap.size w (w.alloc (.cells cells' e')):=(Below.refl _ _).alloc (Nat.le_refl _) _
   have hY:bH (w.alloc (.cells cells' e')) (aB w0.heap.size U ι mem') (.slice rows) (.slice (some ⟨w.heap.size,0,none⟩) rows.length rows.length):=by
    refine(h4.mono (λ_ _ h=>h) (λb hb _=>hg.block b hb)).slice (wY ZA) (Nat.le_refl _) (by have:n*1≤n*inf.size:=Nat.mul_le_mul_left _ h0;omega) λk v hk=> ?_
    rw[Jy (heap_alloc_new _ _)]
    exact hk
   rw[h5]at hY
   refine aA (w':=w.alloc (.cells cells' e')) ?_ (hn _ _ ι _ _ hR (ZA.grow hg) (.c (.tsl hY)))
   have h7:Instr.fill (λi=>some (i*inf.size,inf.size)) base (parts.map λ(i,x)=>(i,a.eval x)).toList=some cells':=by
    rw[Array.toList_map];exact hf
   by_cases HC:n*inf.size=0
   ·simp only[base,HC,if_true]at h7
    have e1: ¬(16777216<n*inf.size):=by omega
    simp[execOp,ho,Instr.buildSlice,run_underlying hd,sizeOf,typeInfo,hi,HC,newRow]
    simp[Array.range_zero']at h7
    simp[h7,Array.range_zero']
    try rfl
   ·simp only[base,HC,if_false]at h7
    have e1: ¬(16777216<n*inf.size):=by omega
    simp[execOp,ho,Instr.buildSlice,run_underlying hd,sizeOf,typeInfo,hi,HC,newRow,zeroValue,hz,e1]
    simp at h7
    simp[h7]
    try rfl
 ·cases ht
theorem Qt {t:TypeId} {kt:KT} {n:Option Nat} (ho:o.op= .makeMap t none) (h:bh P (.mkmap kt n) σ K) (hs:bl w0 U σ ι a w) (hn:eA w0 U a o K next):o.wp P a w next Q:=by
 simp only[bh]at h
 have hg:Below w.heap.size w (w.alloc (.map #[] 0)):=(Below.refl _ _).alloc (Nat.le_refl _) _
 obtain⟨ι',h1,h2,h3,h4⟩:=hs.newBox (pv:= .map (some w.heap.size)) (bx:= .map kt n []) hg (λb hb=>by simp[bc]at hb;omega) (λι' e1 e2 C=>
  ⟨w.heap.size, #[],0,e2,hs.below.size,(MapKept.heap_alloc w _).1,.nil,rfl,(λi e h=>by simp at h)⟩)
 exact aA (u:= .map (some w.heap.size)) (w':=w.alloc (.map #[] 0)) (by simp[execOp,ho,run_makeMap]) (hn _ _ ι' _ _ h h1 (.c (.mref (Nat.lt_succ_self _) h2)))
def KT.desc:KT→TypeDesc
 | .int k=> .int k
 | .str=> .string
 | .bool=> .bool
theorem nb {t:TypeId} {kt:KT} {e:TypeId} {n:Option Nat} (h:kp P t=some (kt,e,n)): ∃k,P.underlying t=some (.map k e)∧P.underlying k=some kt.desc∧kA P e=some n:=by
 unfold kp at h
 split at h
 ·rename_i k e' hd
  split at h<;>cases h
  ·exact⟨k,hd,‹_›,‹_›⟩
  ·exact⟨k,hd,‹_›,‹_›⟩
  ·exact⟨k,hd,‹_›,‹_›⟩
 ·cases h
theorem yJ {kt:KT} {kv:Value} {mk:MK} (h:EA kt kv=some mk):MapKept.IsKey kt.desc kv∧mk.val kt=some kv:=by
 unfold EA at h
 split at h
 ·split at h
  ·rename_i e
   cases h
   subst e
   exact⟨rfl,rfl⟩
  ·cases h
 ·cases h
  exact⟨trivial,rfl⟩
 ·cases h
  exact⟨trivial,rfl⟩
 ·cases h
theorem Sc {kt:KT} {kv:Value} {mk:MK} (h:mk.val kt=some kv):MapKept.IsKey kt.desc kv:=by
 unfold MK.val at h
 split at h<;>cases h
 ·rfl
 ·trivial
 ·trivial
theorem RT {kt:KT} {kv:Value} {mk mk':MK} (h:mk.val kt=some kv) (h':mk'.val kt=some kv):mk=mk':=by
 unfold MK.val at h h'
 split at h<;>cases h<;>split at h'<;>simp_all
theorem tw {V:Nat→Prop} {N:Nat} {kt:KT} {n:Option Nat} {kv:Value} {mk:MK} (hk:MapKept.IsKey kt.desc kv) (hv:mk.val kt=some kv): ∀{ents:List (MK×List AC)} {es:List MapEntry} {i:Nat},aJ (iL w V ι N kt n) ents es→
  (eC ents mk=none∧Instr.findNow kt.desc kv es i=some none)∨ ∃j ps e,eC ents mk=some ps∧Instr.findNow kt.desc kv es i=some (some (i+j,e.val))∧es[j]? =some e∧e.key=kv∧ents[j]? =some (mk,ps)∧NO ents mk=j∧ ∀ps',Be ents mk ps'=ents.set j (mk,ps')
 | [],es,i,h=>by cases h;exact .inl ⟨rfl,rfl⟩
 |(mk0,ps0)::ents,es,i,h=>by
  cases h with
  | @cons _ e _ es h1 h2=>
   obtain⟨r,hr,hJ⟩:=MapKept.sameNow_of_keys hk (Sc h1.1)
   by_cases hm:mk0=mk
   ·subst hm
    have Zi:e.key=kv:=by have:=h1.1.symm.trans hv;simpa using this
    cases r with
    |false=>exact absurd (hJ.2 Zi.symm) (by simp)
    |true=>exact .inr ⟨0,ps0,e,by simp[eC],by simp[Instr.findNow,hr],rfl,Zi,rfl,by simp[NO],λps'=>by simp[Be]⟩
   ·cases r with
    |true=>
     have:=hJ.1 rfl
     exact absurd (RT (this▸h1.1) hv) hm
    |false=>
     rcases tw hk hv (i:=i+1) h2 with⟨k1,k2⟩|⟨j,ps,e',k1,k2,k3,k4,k5,k7,k6⟩
     ·exact .inl ⟨by simp[eC,hm,k1],by simp[Instr.findNow,hr,k2]⟩
     ·exact .inr ⟨j+1,ps,e',by simp[eC,hm,k1],by simp[Instr.findNow,hr,k2];omega,by simpa using k3,k4,by simpa using k5,by simp[NO,hm,k7],λps'=>by simp[Be,hm,k6]⟩
theorem I4 {mk:MK} {ps:List AC}: ∀{ents:List (MK×List AC)},eC ents mk=none→Be ents mk ps=ents++ [(mk,ps)]
 | [],_=>rfl
 |(k,v)::r,h=>by
  simp only[eC]at h
  by_cases e:k=mk
  ·rw[if_pos e]at h;cases h
  ·rw[if_neg e]at h
   simp[Be,e,I4 h]
theorem Rw {V:Nat→Prop} {N:Nat} {x y:AV} {u v:Value} (hx:aK w V ι N x u) (hy:aK w V ι N y v):aK w V ι N (.tup [x,y]) (.tuple #[u,v]):=by
 refine .tup rfl λi z hi=> ?_
 cases i with
 |zero=>simp at hi;subst hi;exact hx
 |succ i=>
  cases i with
  |zero=>simp at hi;subst hi;exact hy
  |succ i=>simp at hi
theorem yP {t e:TypeId} {kt:KT} {n:Option Nat} {ok:Bool} {x y:Operand} {z:Value} {zs:List AC} {b clock:Nat} {es:Array MapEntry} {ents:List (MK×List AC)} {kv:Value} {mk:MK} (ho:o.op= .lookup t x y ok) (ht:kp P t=some (kt,e,n)) (hz:dj P e=some z)
  (H4:aK w (aB w0.heap.size U ι σ.mem) ι σ.nx (eF n zs) z) (hu:a.eval x= .map (some b)) (e2:a.eval y=kv) (HV:EA kt kv=some mk) (k3:w.heap[b]? =some (.map es clock)) (k4:aJ (iL w (aB w0.heap.size U ι σ.mem) ι σ.nx kt n) ents es.toList)
  (h: @qp _ (eC ents mk) ⟨λps=>K (if ok=true then .tup [eF n ps,.c (.pure (.val (.bool true)))]else eF n ps) σ⟩ ⟨K (if ok=true then .tup [eF n zs,.c (.pure (.val (.bool false)))]else eF n zs) σ⟩) (hs:bl w0 U σ ι a w) (hn:eA w0 U a o K next):o.wp P a w next Q:=by
 obtain⟨kty,g1,g2,g3⟩:=nb ht
 obtain⟨q1,q2⟩:=yJ HV
 have H7: ∀em,(Instr.checkKey em 10000 kty kv).run P w= .ok () w:= λem=>MapKept.run_checkKey g2 q1 em 9999
 have HR:(zeroValue e).run P w= .ok z w:=by
  unfold dj at hz
  cases hi:P.info? e with
  |none=>simp[hi]at hz
  |some i=>simp[hi]at hz;simp[zeroValue,typeInfo,hi,hz]
 rcases tw q1 q2 (i:=0) k4 with⟨l1,l2⟩|⟨j,ps,en,l1,l2,l3,l4,l5,_⟩
 ·have HF:=MapKept.run_findKey (w:=w) g2 l2
  have hk:=h.2 l1
  refine aA (u:=if ok=true then .tuple #[z,.bool false]else z) (w':=w) ?_ (hn _ σ ι _ w hk hs ?_)
  ·cases ok<;>simp[execOp,ho,hu,e2,Instr.lookup,run_underlying g1,MapKept.run_getObj_map k3,H7,HF,HR]
  ·cases ok with
   |false=>exact H4
   |true=>exact Rw H4 (ib _)
 ·have HF:=MapKept.run_findKey (w:=w) g2 l2
  have hk:=h.1 ps l1
  obtain⟨en',H8,h9⟩:=k4.get l5
  rw[l3]at H8
  cases H8
  have ZE:aK w (aB w0.heap.size U ι σ.mem) ι σ.nx (eF n ps) en.val:=h9.2
  refine aA (u:=if ok=true then .tuple #[en.val,.bool true]else en.val) (w':=w) ?_ (hn _ σ ι _ w hk hs ?_)
  ·cases ok<;>simp[execOp,ho,hu,e2,Instr.lookup,run_underlying g1,MapKept.run_getObj_map k3,H7,HF]
  ·cases ok with
   |false=>exact ZE
   |true=>exact Rw ZE (ib _)
theorem RQ {t e:TypeId} {kt:KT} {n:Option Nat} {ok:Bool} {x y:Operand} {m k:AX} {z:Value} {zs:List AC} (ho:o.op= .lookup t x y ok) (ht:kp P t=some (kt,e,n)) (hz:dj P e=some z) (O:zT n z=some zs) (hx:aC x=some m) (hy:aC y=some k)
  (h:bh P (.mget kt n zs ok m k) σ K) (hs:bl w0 U σ ι a w) (hn:eA w0 U a o K next):o.wp P a w next Q:=by
 have r1:=al hx hs
 have r2:=al hy hs
 have H4:aK w (aB w0.heap.size U ι σ.mem) ι σ.nx (eF n zs) z:=by
  unfold zT at O
  split at O
  ·split at O
   ·cases O;exact .c (o7 ‹_›)
   ·cases O
  ·split at O
   ·exact .agg (jF O)
   ·cases O
 generalize hu:a.eval x=u at r1
 obtain⟨kty,g1,g2,g3⟩:=nb ht
 simp only[bh]at h
 split at h
 ·rename_i kv ek
  rw[ek]at r2
  have e2:=(aQ r2).1
  obtain⟨mk,HV,h⟩:=h
  obtain⟨q1,q2⟩:=yJ HV
  simp only at h
  split at h
  ·rename_i nm em
   rw[em]at r1
   split at h
   ·rename_i kt' n' ents hf
    obtain⟨⟨rfl,rfl⟩,h⟩:=h
    cases r1 with
    |c r1=>cases r1 with
     | @mref _ b hA hι=>
      obtain⟨b',es,clock,k1,k2,k3,k4,k5⟩:=hs.box _ _ hf
      rw[hι]at k1
      simp at k1
      subst k1
      exact yP ho ht hz H4 hu e2 HV k3 k4 h hs hn
   ·exact h.elim
  ·rename_i kt' n' es em
   obtain⟨⟨rfl,rfl⟩,h⟩:=h
   rw[em]at r1
   cases r1 with
   |c r1=>cases r1 with
    |pure r1=>
     have r0:=r1
     cases r1 with
     |fmap=>
      obtain⟨_,es',clock,k3,k4⟩:=RI (ι:=ι) (N:=σ.nx) r0
      exact yP ho ht hz H4 hu e2 HV k3 k4 h hs hn
  ·exact h.elim
 ·exact h.elim
theorem Sr.push {es:Array MapEntry} {clock:Nat} {e:MapEntry} (h:Sr es clock) (he:e.born=clock):Sr (es.push e) (clock+1):=by
 refine⟨by rw[Array.size_push,h.1],λi x hx=> ?_⟩
 rw[Array.getElem?_push]at hx
 by_cases hi:i=es.size
 ·rw[if_pos hi]at hx
  cases hx
  rw[he,h.1,hi]
 ·rw[if_neg hi]at hx
  exact h.2 i x hx
theorem Sr.modify {es:Array MapEntry} {clock j:Nat} {f:MapEntry→MapEntry} (h:Sr es clock) (hf: ∀e,(f e).born=e.born):Sr (es.modify j f) clock:=by
 refine⟨by rw[Array.size_modify,h.1],λi x hx=> ?_⟩
 rw[Array.getElem?_modify]at hx
 by_cases hi:j=i
 ·rw[if_pos hi,Option.map_eq_some_iff]at hx
  obtain⟨y,hy,rfl⟩:=hx
  rw[hf]
  exact h.2 i y hy
 ·rw[if_neg hi]at hx
  exact h.2 i x hx
theorem bl.setMap (hs:bl w0 U σ ι a w) {nm b:Nat} {bx0:bm} {kt:KT} {n:Option Nat} {ents:List (MK×List AC)} {es:Array MapEntry} {clock:Nat} {o0:Obj} (hf:am σ.mem nm=some bx0) (hι:ι nm= .map (some b)) (h0:w.heap[b]? =some o0)
  (ZR:aJ (iL w (aB w0.heap.size U ι σ.mem) ι σ.nx kt n) ents es.toList) (Zj:Sr es clock):bl w0 U {σ with mem:=dG σ.mem nm (.map kt n ents)} ι a {w with heap:=w.heap.setIfInBounds b (.map es clock)}:=by
 have hb:bc (ι nm)=some b:=by rw[hι];rfl
 have hB:=((hs.box _ _ hf).block hb).1
 obtain⟨s1,s2⟩:=MapKept.heap_set (o':= .map es clock) h0
 have C: ∀c,aB w0.heap.size U ι σ.mem c→aB w0.heap.size U ι (dG σ.mem nm (.map kt n ents)) c:= λc h=>zC.2 h
 have Z: ∀c,aB w0.heap.size U ι σ.mem c→c≠b:= λc h e=>h.2 _ _ hf (by rw[hb,e])
 have hw: ∀c,c<w.heap.size→aB w0.heap.size U ι σ.mem c→({w with heap:=w.heap.setIfInBounds b (.map es clock)}:World).heap[c]? =w.heap[c]? := λc _ h=>s2 c (Z c h)
 have q7: ∀n' bx',am (dG σ.mem nm (.map kt n ents)) n'=some bx'→ ∃c,am σ.mem n'=some c:=by
  intro n' bx' h1
  rw[dp]at h1
  by_cases e:nm=n'
  ·subst e;exact⟨_,hf⟩
  ·rw[if_neg e]at h1;exact⟨_,h1⟩
 refine⟨λt=>(hs.val t).mono (λc _ h=>C c h) hw (λ_ _=>rfl) (Nat.le_refl _),hs.defers,λn' bx' hn=> ?_,λn' bx' hn=> ?_,λn' n'' b1 b2 c h1 h2 h3 h4=> ?_,
  hs.below.trans ⟨rfl,rfl,rfl,by simp,λk hk=>s2 k (by omega)⟩,U.mono _ _ _ _ hs.keep (λc _ h=>C c h) hw,hs.base⟩
 ·obtain⟨c,hc⟩:=q7 _ _ hn
  exact hs.names _ _ hc
 ·rw[dp]at hn
  by_cases e:nm=n'
  ·subst e
   rw[if_pos rfl,hf]at hn
   cases hn
   exact⟨b,es,clock,hι,hB,s1,ZR.mono λ_ _ h=>h.mono (λc _ h=>C c h) hw (λ_ _=>rfl) (Nat.le_refl _),Zj⟩
  ·rw[if_neg e]at hn
   have hS: ∀c,bc (ι n')=some c→c≠b:= λc hc e'=>e (hs.apart _ _ _ _ b hf hn hb (by rw[hc,e']))
   have hW:=hs.box _ _ hn
   cases bx' with
   |var xs=>
    obtain⟨b',vs,T,h1,h2,h3,h4⟩:=hW
    exact⟨b',vs,T,h1,h2,by rw[s2 _ (hS b' (by rw[h1];rfl))];exact h3,h4.mono λ_ _ h=>h.mono (λc _ h=>C c h) hw (λ_ _=>rfl) (Nat.le_refl _)⟩
   |arr e' sz rows=>
    obtain⟨cells,h0,h1,h2,h3⟩:=hW
    refine⟨cells,h0,World.ownsRow.kept (row:=some b) h1 ⟨rfl,rfl,rfl,by simp,λk _ hk=>s2 k (λe=>hk (by rw[e]))⟩ ?_,h2,h3.mono (λc _ h=>C c h) hw⟩
    rcases h1.2 with⟨h,_⟩|⟨g,cap,cur,h,_⟩
    ·rw[h];exact .inl rfl
    ·right
     rw[h]
     intro e'
     simp[Value.ownBlock]at e'
     exact hS g (by rw[h];rfl) e'
   |arn e' sz rows=>
    obtain⟨cells,h0,h1,h2,h3⟩:=hW
    refine⟨cells,h0,World.ownsRow.kept (row:=some b) h1 ⟨rfl,rfl,rfl,by simp,λk _ hk=>s2 k (λe=>hk (by rw[e]))⟩ ?_,h2,h3.mono (λc _ h=>C c h) hw (λ_ _=>rfl) (Nat.le_refl _)⟩
    rcases h1.2 with⟨h,_⟩|⟨g,cap,cur,h,_⟩
    ·rw[h];exact .inl rfl
    ·right
     rw[h]
     intro e'
     simp[Value.ownBlock]at e'
     exact hS g (by rw[h];rfl) e'
   |map kt' m ents'=>
    obtain⟨b',es',clock',h1,h2,h3,h4,h5⟩:=hW
    exact⟨b',es',clock',h1,h2,by rw[s2 _ (hS b' (by rw[h1];rfl))];exact h3,h4.mono λ_ _ h=>h.mono (λc _ h=>C c h) hw (λ_ _=>rfl) (Nat.le_refl _),h5⟩
 ·obtain⟨c1,g8⟩:=q7 _ _ h1
  obtain⟨c2,g9⟩:=q7 _ _ h2
  exact hs.apart _ _ _ _ _ g8 g9 h3 h4
theorem aJ.set {α β:Type} {R:α→β→Prop} {as:List α} {bs:List β} (h:aJ R as bs) (j:Nat) {x:α} {y:β} (hr:R x y):aJ R (as.set j x) (bs.set j y):=by
 induction h generalizing j with
 |nil=>exact .nil
 |cons h t ih=>
  cases j with
  |zero=>exact .cons hr t
  |succ j=>exact .cons h (ih j)
theorem Dz {n:Option Nat} {v:AV} {ys:List AC} (hm:vY n v=some ys):eF n ys=v:=by
 unfold vY at hm
 split at hm
 ·cases hm;rfl
 ·split at hm
  ·cases hm;rfl
  ·cases hm
 ·cases hm
theorem MG {t e:TypeId} {kt:KT} {n:Option Nat} {x y v:Operand} {m k q:AX} (ho:o.op= .mapUpdate t x y v∨o.op= .insert t x y v) (ht:kp P t=some (kt,e,n)) (hx:aC x=some m) (hy:aC y=some k) (hv:aC v=some q)
  (h:bh P (.mput kt n m k q) σ K) (hs:bl w0 U σ ι a w) (hn:eA w0 U a o K next):o.wp P a w next Q:=by
 have r1:=al hx hs
 have r2:=al hy hs
 have r3:=al hv hs
 generalize hu:a.eval x=u at r1
 obtain⟨kty,g1,g2,g3⟩:=nb ht
 simp only[bh]at h
 split at h
 ·rename_i kv ek
  rw[ek]at r2
  have e2:=(aQ r2).1
  obtain⟨mk,HV,h⟩:=h
  obtain⟨q1,q2⟩:=yJ HV
  simp only at h
  split at h
  ·rename_i nm em
   rw[em]at r1
   obtain⟨ys,HT,h⟩:=h
   have ZS:=Dz HT
   simp only at h
   split at h
   ·rename_i kt' n' ents hf
    obtain⟨⟨rfl,rfl⟩,h⟩:=h
    cases r1 with
    |c r1=>cases r1 with
     | @mref _ b hA hι=>
      obtain⟨b',es,clock,k1,k2,k3,k4,k5⟩:=hs.box _ _ hf
      rw[hι]at k1
      simp at k1
      subst k1
      have H7:(Instr.checkKey false 10000 kty kv).run P w= .ok () w:=MapKept.run_checkKey g2 q1 false 9999
      have h9: ∀born,iL w (aB w0.heap.size U ι σ.mem) ι σ.nx kt' n' (mk,ys) {key:=kv,val:=a.eval v,born:=born}:= λborn=>⟨q2,by show aK _ _ _ _ (eF n' ys) _;rw[ZS];exact r3⟩
      rcases tw q1 q2 (i:=0) k4 with⟨l1,l2⟩|⟨j,ps,en,l1,l2,l3,l4,l5,_,l6⟩
      ·have HF:=MapKept.run_findKey (w:=w) g2 l2
       rw[I4 l1]at h
       refine jl (w':={w with heap:=w.heap.setIfInBounds b (.map (es.push {key:=kv,val:=a.eval v,born:=clock}) (clock+1))}) ?_ (hn _ _ ι _ _ h (hs.setMap hf hι k3 ?_ ?_) fO)
       ·rcases ho with ho|ho<;>simp[execOp,ho,hu,e2,Instr.mapUpdate,run_underlying g1,MapKept.run_getObj_map k3,H7,HF,MapKept.run_setObj_map _ k3]
       ·rw[Array.toList_push]
        exact k4.append (.cons (h9 _) .nil)
       ·exact k5.push rfl
      ·have HF:=MapKept.run_findKey (w:=w) g2 l2
       rw[l6]at h
       have hj:es[j]? =some en:=by simpa using l3
       refine jl (w':={w with heap:=w.heap.setIfInBounds b (.map (es.modify j λe=>{e with key:=kv,val:=a.eval v}) clock)}) ?_ (hn _ _ ι _ _ h (hs.setMap hf hι k3 ?_ ?_) fO)
       ·rcases ho with ho|ho<;>simp[execOp,ho,hu,e2,Instr.mapUpdate,run_underlying g1,MapKept.run_getObj_map k3,H7,HF,MapKept.run_setObj_map _ k3,hj,l4,MapKept.run_keyThatStays q1]
       ·rw[Array.toList_modify,ChangeMaps.modify_eq_set _ _ _ _ l3]
        exact k4.set j (h9 _)
       ·exact k5.modify λ_=>rfl
   ·exact h.elim
  ·exact h.elim
 ·exact h.elim
theorem Is {k:MK} {u v:List AC}: ∀{l:List (MK×List AC)} {i:Nat},l[i]? =some (k,u)→C4 l i v=l.set i (k,v)
 |(k0,u0)::r,0,h=>by
  simp only[List.getElem?_cons_zero,Option.some.injEq,Prod.mk.injEq]at h
  obtain⟨rfl,rfl⟩:=h
  rfl
 |x::r,i+1,h=>by
  simp only[List.getElem?_cons_succ]at h
  simp only[C4,List.set_cons_succ,Is h]
theorem M6 {w:World} {b:Nat} {x:Obj} (h:w.heap[b]? =some x):({w with heap:=w.heap.setIfInBounds b x}:World)=w:=by
 have:w.heap.setIfInBounds b x=w.heap:=by
  refine Array.ext_getElem? λi=> ?_
  rw[Array.getElem?_setIfInBounds]
  by_cases e:b=i
  ·subst e
   rw[if_pos rfl,if_pos (Array.getElem?_eq_some_iff.1 h).1,h]
  ·rw[if_neg e]
 rw[this]
theorem Rc {t e:TypeId} {kt:KT} {n:Option Nat} {x y:Operand} {m k:AX} {z:Value} {zs:List AC} (ho:o.op= .mapEntry t x y) (ht:kp P t=some (kt,e,n)) (hz:dj P e=some z) (O:zT n z=some zs) (hx:aC x=some m) (hy:aC y=some k)
  (h:bh P (.ment kt n zs m k) σ K) (hs:bl w0 U σ ι a w) (hn:eA w0 U a o K next):o.wp P a w next Q:=by
 have r1:=al hx hs
 have r2:=al hy hs
 have H4: ∀(w:World) (V:Nat→Prop) (ι:Pl) (N:Nat),aK w V ι N (eF n zs) z:=by
  intro w V ι N
  unfold zT at O
  split at O
  ·split at O
   ·cases O;exact .c (o7 ‹_›)
   ·cases O
  ·split at O
   ·exact .agg (jF O)
   ·cases O
 have HR:(zeroValue e).run P w= .ok z w:=by
  unfold dj at hz
  cases hi:P.info? e with
  |none=>simp[hi]at hz
  |some i=>simp[hi]at hz;simp[zeroValue,typeInfo,hi,hz]
 generalize hu:a.eval x=u at r1
 obtain⟨kty,g1,g2,g3⟩:=nb ht
 simp only[bh]at h
 split at h
 ·rename_i kv ek
  rw[ek]at r2
  have e2:=(aQ r2).1
  obtain⟨mk,HV,h⟩:=h
  obtain⟨q1,q2⟩:=yJ HV
  simp only at h
  split at h
  ·rename_i nm em
   rw[em]at r1
   split at h
   ·rename_i kt' n' ents hf
    obtain⟨⟨rfl,rfl⟩,h⟩:=h
    cases r1 with
    |c r1=>cases r1 with
     | @mref _ b hA hι=>
      obtain⟨b',es,clock,k1,k2,k3,k4,k5⟩:=hs.box _ _ hf
      rw[hι]at k1
      simp at k1
      subst k1
      have H7:(Instr.checkKey false 10000 kty kv).run P w= .ok () w:=MapKept.run_checkKey g2 q1 false 9999
      have hC:ents.length=es.size:=by rw[←Array.length_toList];exact k4.length
      rcases tw q1 q2 (i:=0) k4 with⟨l1,l2⟩|⟨j,ps,en,l1,l2,l3,l4,l5,l7,l6⟩
      ·have HF:=MapKept.run_findKey (w:=w) g2 l2
       have hk:=h.2 l1
       refine aA (u:= .tuple #[z,.int .i64 clock]) (w':={w with heap:=w.heap.setIfInBounds b (.map (es.push {key:=kv,val:=z,born:=clock}) (clock+1))}) ?_ (hn _ _ ι _ _ hk (hs.setMap hf hι k3 ?_ (k5.push rfl)) (Rw (H4 _ _ _ _) ?_))
       ·simp[execOp,ho,hu,e2,Instr.mapEntry,run_underlying g1,MapKept.run_getObj_map k3,H7,HF,HR,MapKept.run_setObj_map _ k3,goInt]
       ·rw[Array.toList_push]
        exact k4.append (.cons ⟨q2,H4 _ _ _ _⟩ .nil)
       ·rw[k5.1,←hC]
        exact .c (.pure (.val rfl))
      ·have HF:=MapKept.run_findKey (w:=w) g2 l2
       have hk:=h.1 ps l1
       have hj:es[j]? =some en:=by simpa using l3
       have hb:=k5.2 j en hj
       have ZT:es.modify j (λe=>{e with key:=kv})=es:=by
        refine Array.ext_getElem? λi=> ?_
        rw[Array.getElem?_modify]
        by_cases e:j=i
        ·subst e
         rw[if_pos rfl,hj]
         simp[←l4]
        ·rw[if_neg e]
       obtain⟨en',H8,h9⟩:=k4.get l5
       rw[l3]at H8
       cases H8
       refine aA (u:= .tuple #[en.val,.int .i64 j]) (w':=w) ?_ (hn _ σ ι _ w hk hs (Rw h9.2 ?_))
       ·simp[execOp,ho,hu,e2,Instr.mapEntry,run_underlying g1,MapKept.run_getObj_map k3,H7,HF,MapKept.run_setObj_map _ k3,hj,l4,MapKept.run_keyThatStays q1,goInt,ZT,hb,M6 k3]
       ·rw[l7]
        exact .c (.pure (.val rfl))
   ·exact h.elim
  ·exact h.elim
 ·exact h.elim
theorem RG {t e:TypeId} {kt:KT} {n:Option Nat} {x y v:Operand} {m k q:AX} (ho:o.op= .entryStore t x y v) (ht:kp P t=some (kt,e,n)) (hx:aC x=some m) (hy:aC y=some k) (hv:aC v=some q)
  (h:bh P (.eput kt n m k q) σ K) (hs:bl w0 U σ ι a w) (hn:eA w0 U a o K next):o.wp P a w next Q:=by
 have r1:=al hx hs
 have r2:=al hy hs
 have r3:=al hv hs
 generalize hu:a.eval x=u at r1
 simp only[bh]at h
 split at h
 ·rename_i ik i ek
  rw[ek]at r2
  have e2:=(aQ r2).1
  split at h
  ·rename_i nm em
   rw[em]at r1
   obtain⟨ys,HT,h⟩:=h
   have ZS:=Dz HT
   simp only at h
   split at h
   ·rename_i kt' n' ents hf
    obtain⟨⟨rfl,rfl,h0,hi⟩,h⟩:=h
    cases r1 with
    |c r1=>cases r1 with
     | @mref _ b hA hι=>
      obtain⟨b',es,clock,k1,k2,k3,k4,k5⟩:=hs.box _ _ hf
      rw[hι]at k1
      simp at k1
      subst k1
      have HN:i.toNat<ents.length:=by omega
      obtain⟨en,H8,h9⟩:=k4.get (List.getElem?_eq_getElem HN)
      have hj:es[i.toNat]? =some en:=by simpa using H8
      have hfi:es.findIdx? (λe=>(e.born:Int)==i)=some i.toNat:=by
       rw[Array.findIdx?_eq_some_iff_getElem]
       obtain⟨hl,hg⟩:=Array.getElem?_eq_some_iff.1 hj
       refine⟨hl, ?_,λj hji=> ?_⟩
       ·have:=k5.2 _ _ hj
        rw[hg,this]
        simp
        omega
       ·have:=k5.2 j _ (Array.getElem?_eq_getElem (by omega))
        rw[this]
        simp
        omega
      rw[Is (List.getElem?_eq_getElem HN)]at h
      refine jl (w':={w with heap:=w.heap.setIfInBounds b (.map (es.modify i.toNat λe=>{e with val:=a.eval v}) clock)}) ?_ (hn _ _ ι _ _ h (hs.setMap hf hι k3 ?_ (k5.modify λ_=>rfl)) fO)
      ·simp[execOp,ho,hu,e2,Instr.entryStore,MapKept.run_getObj_map k3,asInt,asIntOf,hfi,MapKept.run_setObj_map _ k3]
      ·rw[Array.toList_modify,ChangeMaps.modify_eq_set _ _ _ _ H8]
       exact k4.set _ ⟨h9.1,by show aK _ _ _ _ (eF n' ys) _;rw[ZS];exact r3⟩
   ·exact h.elim
  ·exact h.elim
 ·exact h.elim
end
open Go.RowKit
section
variable {P : Program} {o : Oper} {a : Act} {w w' w0 : World} {U : Gh} {ι : Pl} {σ : St} {next : Act → World → Prop} {Q : Exit → Act → World → Prop} {K : AV → St → Prop}
theorem wr {nm:Nat} {rows:List (List PC)}: ∀{mem:List (Nat×bm)} {n:Nat},am (E7 nm rows mem) n=if n=nm then none else(am mem n).map (QU nm rows)
 | [],n=>by simp[E7,am]
 |(m,b)::r,n=>by
  simp only[E7]
  by_cases e:m=nm
  ·subst e
   rw[if_pos rfl,wr,bt]
   by_cases e':m=n
   ·subst e';simp
   ·simp[e']
  ·rw[if_neg e,bt,wr,bt]
   by_cases e':m=n
   ·subst e'
    simp[e]
   ·simp[e']
theorem FS {nm:Nat} {rows:List (List PC)}: ∀{fr:List (Nat×AV)} {t:Nat},aL (NK nm rows fr) t=Np nm rows (aL fr t)
 | [],t=>rfl
 |(s,v)::r,t=>by
  simp only[NK,aL]
  by_cases e:s=t
  ·rw[if_pos e,if_pos e]
  ·rw[if_neg e,if_neg e,FS]
theorem bz.frz {V:Nat→Prop} {N nm:Nat} {rows:List (List PC)} {x:AC} {v:Value} (h:bz w V ι N x v) (hr:bH w V (.slice rows) (ι nm)):bz w V ι N (zF nm rows x) v:=by
 cases x with
 |ref m=>
  have e:v=ι m:=by cases h;rfl
  simp only[zF]
  by_cases en:m=nm
  ·subst en
   rw[if_pos rfl,e]
   exact .pure hr
  ·rw[if_neg en];exact h
 |_=>exact h
theorem JJ {V:Nat→Prop} {N nm:Nat} {rows:List (List PC)} {xs:List AC} {vs:List Value} (h:aJ (bz w V ι N) xs vs) (hr:bH w V (.slice rows) (ι nm)):aJ (bz w V ι N) (xs.map (zF nm rows)) vs:=by
 induction h with
 |nil=>exact .nil
 |cons h _ ih=>exact .cons (h.frz hr) ih
theorem aK.frz {V:Nat→Prop} {N nm:Nat} {rows:List (List PC)} {x:AV} {v:Value} (h:aK w V ι N x v) (hr:bH w V (.slice rows) (ι nm)):aK w V ι N (Np nm rows x) v:=by
 cases h with
 |c h=>exact .c (h.frz hr)
 |agg h=>exact .agg (JJ h hr)
 |tup hl h=>exact .tup hl h
 |top=>exact .top
theorem Pr {nm:Nat} {rows:List (List PC)} {n:Option Nat} {ps:List AC}:eF n (ps.map (zF nm rows))=Np nm rows (eF n ps):=by
 cases n with
 |none=>cases ps<;>rfl
 |some k=>rfl
theorem N9 {V:Nat→Prop} {N nm:Nat} {rows:List (List PC)} {kt:KT} {n:Option Nat} {xs:List (MK×List AC)} {es:List MapEntry} (h:aJ (iL w V ι N kt n) xs es) (hr:bH w V (.slice rows) (ι nm)):aJ (iL w V ι N kt n) (xs.map λx=>(x.1,x.2.map (zF nm rows))) es:=by
 induction h with
 |nil=>exact .nil
 |cons h _ ih=>exact .cons ⟨h.1,by show aK _ _ _ _ (eF n (List.map _ _)) _;rw[Pr];exact h.2.frz hr⟩ ih
theorem Nf {V:Nat→Prop} {N nm sz:Nat} {rows:List (List PC)} {rs:List (List AC)} {cells:List Value} (h:fM w V ι N sz rs cells) (hr:bH w V (.slice rows) (ι nm)):fM w V ι N sz (rs.map λr=>r.map (zF nm rows)) cells:=by
 refine⟨by rw[List.length_map];exact h.1,λi row hi=> ?_,λi row j p hi hj=> ?_⟩
 ·rw[List.getElem?_map,Option.map_eq_some_iff]at hi
  obtain⟨r,hi,rfl⟩:=hi
  rw[List.length_map]
  exact h.2.1 _ _ hi
 ·rw[List.getElem?_map,Option.map_eq_some_iff]at hi
  obtain⟨r,hi,rfl⟩:=hi
  rw[List.getElem?_map,Option.map_eq_some_iff]at hj
  obtain⟨x,hj,rfl⟩:=hj
  obtain⟨v,hv,hp⟩:=h.2.2 i r j x hi hj
  exact⟨v,hv,hp.frz hr⟩
theorem bl.frz (hs:bl w0 U σ ι a w) {nm e sz:Nat} {rows:List (List PC)} (hf:am σ.mem nm=some (.arr e sz rows)):bl w0 U (σ.frz nm rows) ι a w∧bH w (aB w0.heap.size U ι (σ.frz nm rows).mem) (.slice rows) (ι nm)∧ ∀b,aB w0.heap.size U ι σ.mem b→aB w0.heap.size U ι (σ.frz nm rows).mem b:=by
 have HQ: ∃a n c,ι nm= .slice a n c:=by
  obtain⟨cells,g0,g1,g2,g3⟩:=hs.box _ _ hf
  rcases g1.2 with⟨e1,e2⟩|⟨g,cap,cur,e1,hB,_⟩
  ·exact⟨_,_,_,e1⟩
  ·exact⟨_,_,_,e1⟩
 obtain⟨H3,hr1,Zk⟩:=J5 (x:= .ref nm) (p:= .slice rows) (mem':=sV σ.mem nm) hs (.ref (hs.names _ _ hf) HQ) (by simp[OB,hf])
 have hM: ∀n bx,am (E7 nm rows σ.mem) n=some bx→ ∃bx',am (sV σ.mem nm) n=some bx'∧bx=QU nm rows bx':=by
  intro n bx h
  rw[wr]at h
  rw[gI]
  by_cases en:n=nm
  ·rw[if_pos en]at h;cases h
  ·rw[if_neg en]at h ⊢
   cases hq:am σ.mem n with
   |none=>simp[hq]at h
   |some b=>simp[hq]at h;exact⟨b,rfl,h.symm⟩
 have gN: ∀b,aB w0.heap.size U ι (sV σ.mem nm) b→aB w0.heap.size U ι (E7 nm rows σ.mem) b:= λb h=>⟨h.1,λn bx hn=>by
  obtain⟨bx',h1,_⟩:=hM n bx hn
  exact h.2 n bx' h1⟩
 have gj:bH w (aB w0.heap.size U ι (E7 nm rows σ.mem)) (.slice rows) (ι nm):=hr1.mono (λb _ h=>gN b h) (λ_ _ _=>rfl)
 refine⟨⟨λt=> ?_,hs.defers,λn bx hn=> ?_,λn bx hn=> ?_,λn n' b1 b2 b h1 h2 h3 h4=> ?_,hs.below, ?_,hs.base⟩,gj,λb h=>gN b (Zk b h)⟩
 ·show aK w _ ι σ.nx (aL (NK nm rows σ.fr) t) _
  rw[FS]
  exact((H3.val t).mono (λb _ h=>gN b h) (λ_ _ _=>rfl) (λ_ _=>rfl) (Nat.le_refl _)).frz gj
 ·obtain⟨bx',h1,_⟩:=hM n bx hn
  exact H3.names _ _ h1
 ·obtain⟨bx',h1,rfl⟩:=hM n bx hn
  have h2:=(H3.box _ _ h1).grow (Below.refl _ _) (λb _ h=>gN b h) (λ_ _=>rfl) (Nat.le_refl _) (H3.names _ _ h1)
  cases bx' with
  |var xs=>
   obtain⟨b,vs,T,k1,k2,k3,k4⟩:=h2
   exact⟨b,vs,T,k1,k2,k3,JJ k4 gj⟩
  |arr e sz rows=>exact h2
  |arn e sz rs=>
   obtain⟨cells,k0,k1,k2,k3⟩:=h2
   exact⟨cells,k0,by rw[List.length_map];exact k1,by rw[List.length_map];exact k2,Nf k3 gj⟩
  |map kt n ents=>
   obtain⟨b,es,clock,k1,k2,k3,k4,k5⟩:=h2
   exact⟨b,es,clock,k1,k2,k3,N9 k4 gj,k5⟩
 ·obtain⟨_,g1,_⟩:=hM _ _ h1
  obtain⟨_,g2,_⟩:=hM _ _ h2
  exact H3.apart _ _ _ _ _ g1 g2 h3 h4
 ·exact U.mono _ _ _ _ H3.keep (λb _ h=>gN b h) (λ_ _ _=>rfl)
theorem tB: ∀{l:List Nat} {σ σ':St} {args args':List AV} {us:List Value},bl w0 U σ ι a w→aJ (aK w (aB w0.heap.size U ι σ.mem) ι σ.nx) args us→bU l σ args=(σ',args')→
  bl w0 U σ' ι a w∧aJ (aK w (aB w0.heap.size U ι σ'.mem) ι σ'.nx) args' us
 | [],σ,σ',args,args',us,hs,hr,h=>by cases h;exact⟨hs,hr⟩
 |nm::l,σ,σ',args,args',us,hs,hr,h=>by
  simp only[bU]at h
  split at h
  ·rename_i hf
   obtain⟨h1,h2,h3⟩:=hs.frz hf
   refine tB h1 ?_ h
   clear h
   generalize hl:us=us' at*
   clear hl
   induction hr with
   |nil=>exact .nil
   |cons hr _ ih=>exact .cons ((hr.mono (λb _ h=>h3 b h) (λ_ _ _=>rfl) (λ_ _=>rfl) (Nat.le_refl _)).frz h2) ih
  ·cases h;exact⟨hs,hr⟩
def gP:ET→Value→Prop
 | .int k,.int k' _=>k'=k
 | .str,.string _=>True
 | .bool,.bool _=>True
 |_,_=>False
theorem tD: ∀{l:List ET} {xs ys:List AC},Hr l xs ys→ ∃us vs,xs=us.map (λu=> .pure (.val u))∧ys=vs.map (λu=> .pure (.val u))∧aJ gP l us∧aJ gP l vs∧(NW xs ys↔us=vs)
 |[],xs,ys,h=>by
  unfold Hr at h
  split at h
  ·exact⟨[], [],rfl,rfl,.nil,.nil,by simp[NW]⟩
  ·contradiction
  ·contradiction
  ·contradiction
  ·exact h.elim
 |e::l,xs,ys,h=>by
  unfold Hr at h
  split at h
  ·contradiction
  ·rename_i k l' k1 a xs' k2 b ys' e
   cases e
   obtain⟨rfl,rfl,h⟩:=h
   obtain⟨us,vs,rfl,rfl,h1,h2,h3⟩:=tD h
   exact⟨_::us,_::vs,rfl,rfl,.cons rfl h1,.cons rfl h2,by simp[NW,h3]⟩
  ·rename_i l' a xs' b ys' e
   cases e
   obtain⟨us,vs,rfl,rfl,h1,h2,h3⟩:=tD h
   exact⟨_::us,_::vs,rfl,rfl,.cons trivial h1,.cons trivial h2,by simp[NW,h3]⟩
  ·rename_i l' a xs' b ys' e
   cases e
   obtain⟨us,vs,rfl,rfl,h1,h2,h3⟩:=tD h
   exact⟨_::us,_::vs,rfl,rfl,.cons trivial h1,.cons trivial h2,by simp[NW,h3]⟩
  ·exact h.elim
def NU (P:Program) (t:TypeId) (us:List Value):Option Value:=match P.underlying t with
 |some (.struct _)=>some (.agg us.toArray)
 |_=>match us with
  | [u]=>some u
  |_=>none
def Wy (P:Program) (dd:Nat) (t:TypeId) (l:List ET):Prop:= ∀(w:World) us vs a b,NU P t us=some a→NU P t vs=some b→aJ gP l us→aJ gP l vs→ ∃r:Bool,(Op.equalIn dd t a b).run P w= .ok r w∧(r=true↔us=vs)
theorem LN {n:Nat} {t:TypeId} {l:List ET} (h:Ju P n t=some l) (hi:(P.info? t).map (·.size)=some l.length) {xs:Array Value} {off:Nat} (hl:off+l.length≤xs.size): ∃a,(part t xs off).run P w= .ok a w∧NU P t ((xs.toList.drop off).take l.length)=some a:=by
 cases n with
 |zero=>cases h
 |succ n=>
  have hF: ∀(g6:l.length=1),∃u,xs[off]? =some u∧(xs.toList.drop off).take l.length= [u]:=by
   intro g6
   have H:off<xs.size:=by omega
   refine⟨xs[off],Array.getElem?_eq_getElem H, ?_⟩
   rw[g6,List.drop_eq_getElem_cons (by simpa using H)]
   simp
  unfold Ju at h
  split at h
  ·rename_i k hu
   cases h
   obtain⟨u,h1,h2⟩:=hF rfl
   exact⟨u,run_part_plain w (by simp[Program.plainKey,hu]) h1,by rw[h2];simp[NU,hu]⟩
  ·rename_i hu
   cases h
   obtain⟨u,h1,h2⟩:=hF rfl
   exact⟨u,run_part_plain w (by simp[Program.plainKey,hu]) h1,by rw[h2];simp[NU,hu]⟩
  ·rename_i hu
   cases h
   obtain⟨u,h1,h2⟩:=hF rfl
   exact⟨u,run_part_plain w (by simp[Program.plainKey,hu]) h1,by rw[h2];simp[NU,hu]⟩
  ·rename_i fs hu
   obtain⟨i,Zl⟩:=info_of_underlying hu
   rw[Zl]at hi
   simp at hi
   refine⟨.agg (xs.extract off (off+l.length)),by simp[part,isAgg,run_underlying hu,sizeOf,typeInfo,Zl,hi], ?_⟩
   simp only[NU,hu]
   congr 2
   apply Array.ext'
   simp[List.take_drop]
  ·cases h
theorem F0 {n dd:Nat} (ih: ∀t l,Ju P n t=some l→Wy P dd t l) (xs ys:Array Value): ∀{fs:List Field} {off:Nat} {l:List ET},off≤xs.size→off≤ys.size→Iq P (Ju P n) fs off=some l→aJ gP l (xs.toList.drop off)→aJ gP l (ys.toList.drop off)→
  ∃r:Bool,(Op.eqFields dd xs ys fs).run P w= .ok r w∧(r=true↔xs.toList.drop off=ys.toList.drop off)
 |[],off,l,ox,oy,h,hx,hy=>by
  cases h
  cases hx':xs.toList.drop off with
  |cons=>rw[hx']at hx;cases hx
  |nil=>
   cases hy':ys.toList.drop off with
   |cons=>rw[hy']at hy;cases hy
   |nil=>exact⟨true,by simp[Op.eqFields],by simp⟩
 |fd::fs,off,l,ox,oy,h,hx,hy=>by
  unfold Iq at h
  split at h
  ·cases h
  ·rename_i Zm
   have HW : fd.name ≠ "_" := λe => Zm (.inl e)
   have Zn:fd.offset=off:=Classical.byContradiction λe=>Zm (.inr e)
   split at h
   ·rename_i l1 g6
    split at h
    ·rename_i J
     simp only[Option.map_eq_some_iff]at h
     obtain⟨l2,h2,rfl⟩:=h
     have lx:=hx.length
     have ly:=hy.length
     simp only[List.length_append,List.length_drop,Array.length_toList]at lx ly
     obtain⟨a,pa,va⟩:=LN (w:=w) g6 J (xs:=xs) (off:=off) (by omega)
     obtain⟨b,pb,vb⟩:=LN (w:=w) g6 J (xs:=ys) (off:=off) (by omega)
     have tk: ∀{zs:List Value},aJ gP (l1++l2) zs→aJ gP l1 (zs.take l1.length)∧aJ gP l2 (zs.drop l1.length):= λhz=>by
      have h1:=hz.take l1.length
      have h2:=hz.drop l1.length
      simp only[List.take_left,List.drop_left]at h1 h2
      exact⟨h1,h2⟩
     obtain⟨r,hr,hJ⟩:=ih _ _ g6 w _ _ a b va vb (tk hx).1 (tk hy).1
     obtain⟨r2,gj,ZU⟩:=F0 ih xs ys (by omega) (by omega) h2 (by rw[←List.drop_drop];exact(tk hx).2) (by rw[←List.drop_drop];exact(tk hy).2)
     have key:(xs.toList.drop off=ys.toList.drop off)↔((xs.toList.drop off).take l1.length=(ys.toList.drop off).take l1.length∧xs.toList.drop (off+l1.length)=ys.toList.drop (off+l1.length)):=by
      constructor
      ·intro e
       rw[e,←List.drop_drop,←List.drop_drop,e]
       exact⟨rfl,rfl⟩
      ·rintro⟨e1,e2⟩
       rw[←List.take_append_drop l1.length (xs.toList.drop off),←List.take_append_drop l1.length (ys.toList.drop off),List.drop_drop,List.drop_drop,e1,e2]
     simp only[Op.eqFields,HW,Zn,ne_eq,not_false_eq_true,if_true,Sem.run_bind,pa,pb,hr,Result.andThen_ok]
     cases r
     ·exact⟨false,by simp,by rw[key];simp;intro e;exact absurd (hJ.2 e) (by simp)⟩
     ·refine⟨r2,by simpa using gj, ?_⟩
      rw[key,ZU]
      simp[hJ.1 rfl]
    ·cases h
   ·cases h
theorem C5: ∀{n d:Nat} {t:TypeId} {l:List ET},Ju P n t=some l→Wy P (d+n) t l
 |0,d,t,l,h=>by cases h
 |n+1,d,t,l,h=>by
  intro w us vs a b ha hb hx hy
  unfold Ju at h
  split at h
  ·rename_i k hu
   cases h
   cases hx with|cons h1 t1=>cases t1;cases hy with|cons h2 t2=>
    cases t2
    simp only[NU,hu,Option.some.injEq]at ha hb
    subst ha;subst hb
    rename_i u v
    cases u<;>simp[gP]at h1
    cases v<;>simp[gP]at h2
    subst h1;subst h2
    exact⟨_,run_equalIn_int w (d+n) t _ _ _ _ hu,by simp⟩
  ·rename_i hu
   cases h
   cases hx with|cons h1 t1=>cases t1;cases hy with|cons h2 t2=>
    cases t2
    simp only[NU,hu,Option.some.injEq]at ha hb
    subst ha;subst hb
    rename_i u v
    cases u<;>simp[gP]at h1
    cases v<;>simp[gP]at h2
    refine⟨_,run_equalIn_string w (d+n) t _ _ hu, ?_⟩
    rename_i s s'
    obtain⟨⟨s⟩⟩:=s
    obtain⟨⟨s'⟩⟩:=s'
    simp[ByteArray.toList_eq]
  ·rename_i hu
   cases h
   cases hx with|cons h1 t1=>cases t1;cases hy with|cons h2 t2=>
    cases t2
    simp only[NU,hu,Option.some.injEq]at ha hb
    subst ha;subst hb
    rename_i u v
    cases u<;>simp[gP]at h1
    cases v<;>simp[gP]at h2
    exact⟨_,run_equalIn_bool' w (d+n) t _ _ hu,by simp⟩
  ·rename_i fs hu
   split at h
   ·cases h
   ·rename_i q8
    simp only[NU,hu,Option.some.injEq]at ha hb
    subst ha;subst hb
    have Zo:P.fieldsOf t=fs:=by simp[Program.fieldsOf,hu]
    obtain⟨r,hr,hJ⟩:=F0 (w:=w) (dd:=d+n) (λt l h=>C5 h) us.toArray vs.toArray (Nat.zero_le _) (Nat.zero_le _) h (by simpa using hx) (by simpa using hy)
    refine⟨r, ?_,by simpa using hJ⟩
    rw[show d+(n+1)=(d+n)+1 from rfl,run_equalIn_struct w (d+n) t _ _ (by rw[Zo];exact hu) (by simpa using q8),Zo]
    exact hr
  ·cases h
theorem pP {V:Nat→Prop} {N:Nat}: ∀{us:List Value} {vs:List Value},aJ (bz w V ι N) (us.map λu=> .pure (.val u)) vs→vs=us
 | [],vs,h=>by cases h;rfl
 |u::us,vs,h=>by
  cases h with
  |cons h1 t=>
   cases h1 with
   |pure h1=>cases h1 with
    |val=>rw[pP t]
theorem P0 {op:BinOp} {t t':TypeId} {x y:Operand} {p q:AX} {neg:Bool} {l:List ET} (ga:(op= .eql∧neg=false)∨(op= .neq∧neg=true)) (q8:xa P t=true) (hl:Mi P t=some l) (ho:o.op= .binOp op t x y t') (hx:aC x=some p) (hy:aC y=some q)
  (h:bh P (.eqs neg l p q) σ K) (hs:bl w0 U σ ι a w) (hn:eA w0 U a o K next):o.wp P a w next Q:=by
 have r1:=al hx hs
 have r2:=al hy hs
 simp only[bh]at h
 split at h
 ·rename_i xs ys e e'
  rw[e]at r1
  rw[e']at r2
  obtain⟨hk,h⟩:=h
  obtain⟨us,vs,rfl,rfl,f1,f2,f3⟩:=tD hk
  generalize hu:a.eval x=u at r1
  generalize hv:a.eval y=v at r2
  cases r1 with
  | @agg _ cu r1=>
   cases r2 with
   | @agg _ cv r2=>
    have e1:=pP r1
    have e2:=pP r2
    obtain rfl:cu=us.toArray:=by apply Array.ext';simpa using e1
    obtain rfl:cv=vs.toArray:=by apply Array.ext';simpa using e2
    unfold Mi at hl
    split at hl
    ·cases hl
    ·rename_i ZG
     unfold xa at q8
     split at q8
     ·rename_i fs hT
      obtain⟨r,hr,hJ⟩:=C5 (d:=9994) hl w us vs (.agg us.toArray) (.agg vs.toArray) (by simp[NU,hT]) (by simp[NU,hT]) f1 f2
      have Zd:(Op.equal t (.agg us.toArray) (.agg vs.toArray)).run P w= .ok r w:=hr
      have Zp:ni (NW (us.map λu=> .pure (.val u)) (vs.map λu=> .pure (.val u)))=r:=by
       unfold ni
       cases r
       ·exact @decide_eq_false _ (Classical.propDecidable _) (λhp=>by have:=hJ.2 (f3.1 hp);cases this)
       ·exact @decide_eq_true _ (Classical.propDecidable _) (f3.2 (hJ.1 rfl))
      rw[Zp]at h
      have hg:(eqGuard op t x y (.agg us.toArray) (.agg vs.toArray)).run P w= .ok () w:=by
       unfold eqGuard
       cases op<;>simp[ZG]
      refine aA (u:= .bool (r !=neg)) (w':=w) ?_ (hn _ σ ι _ w h hs (ib _))
      simp only[execOp,ho,hu,hv]
      rw[Sem.run_bind,Sem.run_bind,hg]
      rcases ga with⟨rfl,rfl⟩|⟨rfl,rfl⟩<;>simp[binOp,Zd]
     ·cases q8
 ·exact h.elim
theorem Rz {f:Operand} {args:List Operand} {p:AX} {xs:List AX} {c:Call} (hc:c.callee= .value f) (X:c.args.toList=args) (ho:o.op= .call c) (hf:aC f=some p) (hx:ka args=some xs) {bg zg:Bool} (h:bh P (.call bg zg p xs) σ K) (hs:bl w0 U σ ι a w) (hn:eA w0 U a o K next):o.wp P a w next Q:=by
 have r1:=al hf hs
 generalize hu:a.eval f=u at r1
 simp only[bh]at h
 split at h
 ·rename_i g caps e
  rw[e]at r1
  cases r1 with
  |c r1=>cases r1 with
   |clo hl ZF=>
    rename_i cv
    have hB:=hs.below.size
    have L:aJ (aK w (aB w0.heap.size U ι σ.mem) ι σ.nx) (xs.map (·.ev σ.fr)++caps.map .c) (args.map a.eval++cv.toList):=by
     refine(Ei hs hx).append (aJ.of_get (by simpa using hl) λi x v hi hv=> ?_)
     rw[List.getElem?_map]at hi
     cases ec:caps[i]? with
     |none=>simp[ec]at hi
     |some y=>
      simp[ec]at hi
      subst hi
      have:=ZF i y ec
      rw[hv]at this
      exact .c this
    have G2:(args.map a.eval++cv.toList)=((args.map a.eval).toArray++cv).toList:=by simp
    rw[G2]at L
    obtain⟨l,σ',args',-,hz,h⟩:=h
    obtain⟨hs,L⟩:=tB hs L hz
    clear hz ZF hl
    revert hs L h
    generalize σ'=σ at*
    intro h hs L
    have hB:=hs.below.size
    have ZV:c.args.map a.eval=(args.map a.eval).toArray:=by rw[←X];apply Array.ext';simp
    have q9:la P g→(execOp a.eval o).run P w= .ok (.enter g ((args.map a.eval).toArray++cv)) w:=by
     rintro⟨fn,hfn,Q1,HW⟩
     have hb: ¬fn.body=none:=by intro e;rw[e]at Q1;cases Q1
     have ZB : ¬ fn.name = "runtime.NumGoroutine" := by intro e; rw [e] at HW; simp at HW
     simp[execOp,ho,resolve,hc,hu,Deferred.ofValue,invoke,callFunc,hfn,ZB,hb,ZV]
    have fresh: ∀{res:AV} {v:Value} {w1:World},Below w.heap.size w w1→aK w1 (λb=>w.heap.size≤b) (λ_=>undef) 0 res v→aK w1 (aB w0.heap.size U ι σ.mem) ι σ.nx res v:=by
     intro res v w1 hb hr
     refine hr.mono (λb H h=>⟨.inr (by omega),λnm bx hf e=> ?_⟩) (λ_ _ _=>rfl) (λnm hA=>by omega) (Nat.zero_le _)
     have:=((hs.box _ _ hf).block e).2
     omega
    rcases h with⟨pargs,zz,res,W,hK⟩|⟨rfl,res,mem',nx',⟨HX,hI⟩,hK⟩
    ·have HX:la P g:=by rcases W with⟨h,_⟩|h<;>exact h.1
     unfold Oper.wp
     rw[q9 HX]
     show Calls P g _ w _
     rcases W with⟨⟨_,hI⟩,ZW|ZC⟩|⟨_,hI⟩
     ·have z2:=hI w (λ_=>True) _ hs.glob (js (V:= λ_=>True) hs L (λ_ _=>trivial) (.inr λ_ _=>trivial) zz)
      refine z2.mono ?_
      rintro e w1 ⟨v,rfl,hr,hb⟩
      exact hn _ σ ι _ w1 hK (hs.grow hb) (MR hr ZW)
     ·have z2:=hI w (aB w0.heap.size U ι σ.mem) _ hs.glob (js (V:=aB w0.heap.size U ι σ.mem) hs L (λ_ h=>h) (.inl ZC) zz)
      refine z2.mono ?_
      rintro e w1 ⟨v,rfl,hr,hb⟩
      refine hn _ σ ι _ w1 hK (hs.grow hb) (hr.mono (λb H h=> ?_) (λ_ _ _=>rfl) (λnm hA=>by omega) (Nat.zero_le _))
      rcases h with h|h
      ·exact h
      ·refine⟨.inr (by omega),λnm bx hf e=> ?_⟩
       have:=((hs.box _ _ hf).block e).2
       omega
     ·have z2:=hI w (λ_=>True) _ hs.glob (js (V:= λ_=>True) hs L (λ_ _=>trivial) (.inr λ_ _=>trivial) zz)
      refine z2.mono ?_
      rintro e w1 ⟨v,rfl,hr,hb⟩
      exact hn _ σ ι _ w1 hK (hs.grow hb) (fresh hb hr)
    ·unfold Oper.wp
     rw[q9 HX]
     show Calls P g _ w _
     let U':Gh:=⟨U.p,ι,λw V=>U.G w V∧ ∀t,aK w V ι σ.nx (aL σ.fr t) (a.tmps.getD t undef),λw w' V V' h hU hw=>⟨U.mono w w' V V' h.1 hU hw,λt=>(h.2 t).mono hU hw (λ_ _=>rfl) (Nat.le_refl _)⟩⟩
     have ZA:bl w0 U' ⟨[],σ.mem,σ.nx,σ.nx⟩ ι {tmps:= #[],defers:= []} w:=⟨λt=> .top,⟨rfl,hs.defers.2⟩,hs.names,hs.box,hs.apart,hs.below,⟨hs.keep,hs.val⟩,⟨Nat.le_refl _,λ_ _=>rfl⟩⟩
     refine(hI w0 U' ι w _ ZA L).mono ?_
     rintro e w1 ⟨v,ι',rfl,h6,hr⟩
     have hL:σ.nx≤nx':=h6.base.1
     refine hn _ _ ι' _ w1 hK ⟨λt=> ?_,hs.defers,h6.names,h6.box,h6.apart,h6.below,h6.keep.1,⟨Nat.le_trans hs.base.1 hL,λnm hA=> ?_⟩⟩ hr
     ·exact(h6.keep.2 t).mono (λ_ _ h=>h) (λ_ _ _=>rfl) (λnm hA=>h6.base.2 nm hA) hL
     ·exact(h6.base.2 nm (Nat.lt_of_lt_of_le hA hs.base.1)).trans (hs.base.2 nm hA)
 ·exact h.elim
end
end Go.Abs
