import Derived.Test.YtjhkikmonejkjaaGreatDoorV12a
set_option linter.unusedVariables false
set_option linter.unusedSimpArgs false
namespace Go.Proofs.YtjhkikmonejkjaaGreatDoor
open Go.Abs Go.RowKit
noncomputable section
abbrev Ix:=fc×ByteArray×List fc
def bP (l:fc):List PC:= [pI l.1,bp l.2]
def dN (x:Ix):List PC:= [pI x.1.1,bp x.1.2,pS x.2.1,cZ bP x.2.2]
abbrev Um (x:Ix):AV:= .agg [.pure (pI x.1.1),.pure (bp x.1.2),.pure (pS x.2.1),.pure (cZ bP x.2.2)]
inductive Ex where
 |mk (op:Int) (name:ByteArray) (val:Fr) (ty:Ty) (lin:fc) (idx:List Ix) (args:List Ex)
namespace Ex
def op:Ex→Int| .mk o _ _ _ _ _ _=>o
def name:Ex→ByteArray| .mk _ s _ _ _ _ _=>s
def val:Ex→Fr| .mk _ _ v _ _ _ _=>v
def ty:Ex→Ty| .mk _ _ _ t _ _ _=>t
def lin:Ex→fc| .mk _ _ _ _ l _ _=>l
def idx:Ex→List Ix| .mk _ _ _ _ _ x _=>x
def args:Ex→List Ex| .mk _ _ _ _ _ _ a=>a
mutual
def row:Ex→List PC
 | .mk op name val ty lin idx args=> [pI op,pS name,pI val.1,pI val.2,pI ty.1,pI ty.2.1,pI ty.2.2.1,pI ty.2.2.2.1,pI ty.2.2.2.2,pI lin.1,bp lin.2,cZ dN idx,.slice (rows args)]
def rows:List Ex→List (List PC)
 | []=> []
 |e::r=>row e::rows r
end
theorem Mv: ∀l:List Ex,rows l=l.map row
 | []=>by rw[rows];rfl
 |e::r=>by rw[rows,Mv r];rfl
theorem row_eq (e:Ex):e.row= [pI e.op,pS e.name,pI e.val.1,pI e.val.2,pI e.ty.1,pI e.ty.2.1,pI e.ty.2.2.1,pI e.ty.2.2.2.1,pI e.ty.2.2.2.2,pI e.lin.1,bp e.lin.2,cZ dN e.idx,.slice (e.args.map row)]:=by
 obtain⟨op,name,val,ty,lin,idx,args⟩:=e
 rw[row,Mv]
 rfl
mutual
def dep:Ex→Nat
 | .mk _ _ _ _ _ _ args=>1+deps args
def deps:List Ex→Nat
 | []=>0
 |e::r=>max (dep e) (deps r)
end
mutual
def sz:Ex→Nat
 | .mk _ _ _ _ _ _ args=>1+szs args
def szs:List Ex→Nat
 | []=>0
 |e::r=>sz e+szs r
end
mutual
def pre:Ex→List Ex
 | .mk op name val ty lin idx args=> .mk op name val ty lin idx args::pres args
def pres:List Ex→List Ex
 | []=> []
 |e::r=>pre e++pres r
end
theorem dep_eq (e:Ex):e.dep=1+deps e.args:=by cases e;rw[dep];rfl
theorem sz_eq (e:Ex):e.sz=1+szs e.args:=by cases e;rw[sz];rfl
theorem pre_eq (e:Ex):e.pre=e::pres e.args:=by cases e;rw[pre];rfl
theorem Nh {e a:Ex} (h:a∈e.args):SizeOf.sizeOf a<SizeOf.sizeOf e:=by
 obtain⟨op,name,val,ty,lin,idx,args⟩:=e
 have:=List.sizeOf_lt_of_mem (show a∈args from h)
 simp only[mk.sizeOf_spec]
 omega
theorem ind {p:Ex→Prop} (h: ∀e:Ex,(∀a∈e.args,p a)→p e): ∀e:Ex,p e:=by
 have key: ∀(n:Nat) (e:Ex),SizeOf.sizeOf e<n→p e:=by
  intro n
  induction n with
  |zero=>intro e he;omega
  |succ n ih=>exact λe he=>h e λa ha=>ih a (by have:=Nh ha;omega)
 exact λe=>key _ e (Nat.lt_succ_self _)
theorem dep_pos (e:Ex):1≤e.dep:=by rw[dep_eq];omega
theorem deps_take: ∀{l:List Ex} {k:Nat} (h:k<l.length),deps (l.take (k+1))=max (deps (l.take k)) (l[k].dep)
 |e::r,0,h=>by simp[deps]
 |e::r,k+1,h=>by
  have:=deps_take (l:=r) (k:=k) (by simpa using h)
  simp only[List.take_succ_cons,deps,this,List.getElem_cons_succ]
  omega
theorem szs_append: ∀(l r:List Ex),szs (l++r)=szs l+szs r
 | [],r=>by simp[szs]
 |e::l,r=>by simp only[List.cons_append,szs,szs_append l r];omega
theorem szs_take {l:List Ex} {k:Nat} (h:k<l.length):szs (l.take (k+1))=szs (l.take k)+l[k].sz:=by
 rw[List.take_succ_eq_append_getElem h,szs_append]
 simp[szs]
theorem pres_append: ∀(l r:List Ex),pres (l++r)=pres l++pres r
 | [],r=>by simp[pres]
 |e::l,r=>by simp only[List.cons_append,pres,pres_append l r,List.append_assoc]
theorem pres_take {l:List Ex} {k:Nat} (h:k<l.length):pres (l.take (k+1))=pres (l.take k)++l[k].pre:=by
 rw[List.take_succ_eq_append_getElem h,pres_append]
 simp[pres]
theorem pres_length: ∀{l:List Ex},(∀a∈l,a.pre.length=a.sz)→(pres l).length=szs l
 | [],_=>by simp[pres,szs]
 |e::r,h=>by rw[pres,szs,List.length_append,h e List.mem_cons_self,pres_length λa ha=>h a (List.mem_cons_of_mem _ ha)]
theorem pre_length (e:Ex):e.pre.length=e.sz:=by
 refine ind (p:= λe=>e.pre.length=e.sz) (λe ih=> ?_) e
 rw[pre_eq,sz_eq,List.length_cons,pres_length ih]
 omega
theorem Tk (e:Ex):1≤e.sz:=by rw[sz_eq];omega
theorem szs_len: ∀l:List Ex,l.length≤szs l
 | []=>by simp
 |e::r=>by have:=szs_len r;have:=Tk e;rw[szs,List.length_cons];omega
end Ex
abbrev gc (e:Ex):AV:= .agg [.pure (pI e.op),.pure (pS e.name),.pure (pI e.val.1),.pure (pI e.val.2),.pure (pI e.ty.1),.pure (pI e.ty.2.1),.pure (pI e.ty.2.2.1),.pure (pI e.ty.2.2.2.1),.pure (pI e.ty.2.2.2.2),.pure (pI e.lin.1),.pure (bp e.lin.2),.pure (cZ dN e.idx),.pure (.slice (e.args.map Ex.row))]
theorem BD {b:Bool} {p:Prop} [Decidable p] (h:b=true↔p):AV.c (.pure (.val (.bool b)))=Go.Abs.B (decide p):=by
 have:b=decide p:=by by_cases hp:p<;>simp_all
 rw[this]
theorem IE {a b:Int} (h:a=b):AV.c (.pure (.val (.int .i64 a)))=I b:=by rw[h]
theorem A3 {p:Prop}:ni p=true↔p:=⟨λh=>Classical.byContradiction (λhn=>(by rw[fa hn]at h;cases h)),gz⟩
theorem BF {p:Prop}:ni p=false↔ ¬p:=⟨λh hp=>(by rw[gz hp]at h;cases h),fa⟩
theorem BC {b:Bool} {p:Prop} (h:b=true↔p):AV.c (.pure (.val (.bool b)))=Go.Abs.B (ni p):=by
 have:b=ni p:=by
  by_cases hp:p
  ·rw[gz hp,h.2 hp]
  ·rw[fa hp];exact Bool.eq_false_iff.2 λe=>hp (h.1 e)
 rw[this]
def jm (o:Int):Prop:=13≤o∧o≤18
instance (o:Int):Decidable (jm o):=inferInstanceAs (Decidable (_∧_))
def mq (o:Int):Int:=if o=1∨o=2∨o=3 then 0 else if o=8∨o=12∨o=18 then 1 else if o=11 then 3 else 2
def pZ (o:Int) (i:Nat):Prop:=o=16∨o=17∨o=18∨(o=11∧i=0)
instance (o:Int) (i:Nat):Decidable (pZ o i):=inferInstanceAs (Decidable (_∨_))
def Fx (l:fc):Prop:=l.1=0∧l.2.length=0
instance (l:fc):Decidable (Fx l):=inferInstanceAs (Decidable (_∧_))
def Ja (x:Ix):Prop:=(x.2.1=⟨⟨[]⟩⟩→x.2.2.length=0)∧(x.2.1≠⟨⟨[]⟩⟩→Fx x.1)
instance (x:Ix):Decidable (Ja x):=Classical.propDecidable _
def qc (e:Ex):Prop:=(1≤e.op∧e.op≤18)∧(e.op≠1→e.val.1=0∧e.val.2=0)∧(e.op≠1→e.op≠12→e.ty.1=0∧e.ty.2.1=0∧e.ty.2.2.1=0∧e.ty.2.2.2.1=0∧e.ty.2.2.2.2=0)∧
 (e.op≠2→Fx e.lin)∧(e.op≠3→e.name=⟨⟨[]⟩⟩∧e.idx.length=0)∧ ∀x∈e.idx,Ja x
def qq (e:Ex):Prop:=(e.op=3→eI e.name)∧ ∀x∈e.idx,x.2.1≠⟨⟨[]⟩⟩→eI x.2.1
def qx (e:Ex):Prop:=(e.args.length:Int)=mq e.op∧e.idx.length≤6∧ ∀x∈e.idx,x.2.2.length≤6
def kn (e:Ex):Prop:=((e.op=1∨e.op=12)→ju e.ty)∧ ∀(i:Nat) (h:i<e.args.length),jm e.args[i].op↔pZ e.op i
def Ex.forms (e:Ex):List fc:=e.lin::e.idx.flatMap λx=>x.1::x.2.2
def pq (e:Ex):Prop:=(e.op=1→e7 e.ty e.val)∧ ∀l∈e.forms,dZ l.2
instance (e:Ex):Decidable (qc e):=Classical.propDecidable _
instance (e:Ex):Decidable (qq e):=Classical.propDecidable _
instance (e:Ex):Decidable (qx e):=Classical.propDecidable _
instance (e:Ex):Decidable (kn e):=Classical.propDecidable _
instance (e:Ex):Decidable (pq e):=Classical.propDecidable _
def aP (e:Ex):Int:=if ¬qc e then 5 else if ¬qq e then 7 else if ¬qx e then 11 else if ¬kn e then 10 else if ¬pq e then 1 else 0
def bY:List Int→Int
 | []=>0
 |x::r=>if x≠0 then x else bY r
theorem jL: ∀(l r:List Int),bY (l++r)=if bY l≠0 then bY l else bY r
 | [],r=>by simp[bY]
 |x::l,r=>by
  simp only[List.cons_append,bY,jL l r]
  by_cases h:x=0<;>simp[h]
theorem gV {l:List Int} {k:Nat} (h:k<l.length) (hf:bY (l.take k)=0):bY (l.take (k+1))=l[k]:=by
 rw[List.take_succ_eq_append_getElem h,jL,if_neg (by rw[hf];simp)]
 simp only[bY]
 split<;>simp_all
theorem l9 {l:List Int} {k:Nat} (h:k<l.length) (hf:bY (l.take k)=0) (hp:l[k]≠0):bY l=l[k]:=by
 have key:bY (l.take (k+1)++l.drop (k+1))=l[k]:=by rw[jL,gV h hf,if_pos hp]
 rw[List.take_append_drop]at key
 exact key
def iK (e:Ex):Int:=bY (e.pre.map aP)
def gn (e:Ex):Int:=if 40<e.dep then 13 else if 2000<e.sz then 2 else iK e
theorem Ld (e:Ex):iK e=if aP e≠0 then aP e else bY ((Ex.pres e.args).map aP):=by
 rw[iK,Ex.pre_eq,List.map_cons,bY]
theorem Cv {e:Ex} (h:aP e=0):qc e∧qq e∧qx e∧kn e∧pq e:=by
 unfold aP at h
 repeat' split at h
 all_goals first
  |(simp at h;done)
  |simp_all
def iY {α:Type} (p:α→Prop) (xs:List α):Int:=match xs.findIdx? (λx=>ni (p x))with
 |some k=>k
 |none=> -1
theorem lv {α:Type} {p:α→Prop} {xs:List α} {k:Nat} (hk:k<xs.length) (h:p xs[k]) (hn: ∀j (hj:j<k),¬p (xs[j]'(by omega))):iY p xs=k:=by
 have:xs.findIdx? (λx=>ni (p x))=some k:=by
  rw[List.findIdx?_eq_some_iff_getElem]
  exact⟨hk,gz h,λj hj=>by simp[fa (hn j hj)]⟩
 rw[iY,this]
theorem gK {α:Type} {p:α→Prop} {xs:List α} (hn: ∀j (hj:j<xs.length),¬p xs[j]):iY p xs= -1:=by
 have:xs.findIdx? (λx=>ni (p x))=none:=by
  rw[List.findIdx?_eq_none_iff]
  intro x hx
  obtain⟨j,hj,rfl⟩:=List.mem_iff_getElem.1 hx
  exact fa (hn j hj)
 rw[iY,this]
theorem nc {α:Type} (p:α→Prop) (xs:List α):(iY p xs= -1∧ ∀x∈xs,¬p x)∨ ∃k,∃h:k<xs.length,iY p xs=k∧p xs[k]∧ ∀j (hj:j<k),¬p (xs[j]'(by omega)):=by
 unfold iY
 cases e:xs.findIdx? (λx=>ni (p x))with
 |none=>
  rw[List.findIdx?_eq_none_iff]at e
  refine .inl ⟨rfl,λx hx h=> ?_⟩
  have:=e x hx
  rw[gz h]at this
  cases this
 |some k=>
  rw[List.findIdx?_eq_some_iff_getElem]at e
  obtain⟨hk,h1,h2⟩:=e
  refine .inr ⟨k,hk,rfl, ?_,λj hj h=> ?_⟩
  ·exact Classical.byContradiction λhn=>by rw[fa hn]at h1;cases h1
  ·have:=h2 j hj
   rw[gz h]at this
   simp at this
theorem yf {α:Type} {p:α→Prop} {xs:List α}:0≤iY p xs↔ ∃x∈xs,p x:=by
 rcases nc p xs with⟨h1,h2⟩|⟨k,hk,h1,h2,_⟩
 ·rw[h1]
  exact⟨λh=>by omega,λ⟨x,hx,h⟩=>absurd h (h2 x hx)⟩
 ·rw[h1]
  exact⟨λ_=>⟨_,List.getElem_mem hk,h2⟩,λ_=>by omega⟩
open Go.Abs Go.RowKit
abbrev eU:=ByteArray×fc
def ee (a:eU):List PC:= [pS a.1,pI a.2.1,bp a.2.2]
abbrev kO:=ByteArray×Ty×List fc
def d7 (x:kO):List PC:= [pS x.1,pI x.2.1.1,pI x.2.1.2.1,pI x.2.1.2.2.1,pI x.2.1.2.2.2.1,pI x.2.1.2.2.2.2,cZ bP x.2.2]
structure jA where
 name:ByteArray
 ty:Ty
 dims:List eU
 red:List eU
 fold:Int
 body:Ex
def br (d:jA):List PC:= [pS d.name,pI d.ty.1,pI d.ty.2.1,pI d.ty.2.2.1,pI d.ty.2.2.2.1,pI d.ty.2.2.2.2,cZ ee d.dims,cZ ee d.red,pI d.fold,pI d.body.op,pS d.body.name,pI d.body.val.1,pI d.body.val.2,pI d.body.ty.1,pI d.body.ty.2.1,pI d.body.ty.2.2.1,pI d.body.ty.2.2.2.1,pI d.body.ty.2.2.2.2,pI d.body.lin.1,bp d.body.lin.2,cZ dN d.body.idx,.slice (d.body.args.map Ex.row)]
structure be where
 sizes:List ByteArray
 wher:List Ey
 params:List kO
 defs:List jA
 outs:List ByteArray
abbrev b6 (l:List ByteArray):PC:=cZ (λs=> [pS s]) l
abbrev eX (p:be):AV:= .agg [.pure (b6 p.sizes),.pure (cZ cP p.wher),.pure (cZ d7 p.params),.pure (cZ br p.defs),.pure (b6 p.outs)]
abbrev dL (p:be):bm:= .var [.pure (b6 p.sizes),.pure (cZ cP p.wher),.pure (cZ d7 p.params),.pure (cZ br p.defs),.pure (b6 p.outs)]
abbrev sK (d:jA):AV:= .agg [.pure (pS d.name),.pure (pI d.ty.1),.pure (pI d.ty.2.1),.pure (pI d.ty.2.2.1),.pure (pI d.ty.2.2.2.1),.pure (pI d.ty.2.2.2.2),.pure (cZ ee d.dims),.pure (cZ ee d.red),.pure (pI d.fold),.pure (pI d.body.op),.pure (pS d.body.name),.pure (pI d.body.val.1),.pure (pI d.body.val.2),.pure (pI d.body.ty.1),.pure (pI d.body.ty.2.1),.pure (pI d.body.ty.2.2.1),.pure (pI d.body.ty.2.2.2.1),.pure (pI d.body.ty.2.2.2.2),.pure (pI d.body.lin.1),.pure (bp d.body.lin.2),.pure (cZ dN d.body.idx),.pure (.slice (d.body.args.map Ex.row))]
abbrev qJ (d:jA):bm:= .var [.pure (pS d.name),.pure (pI d.ty.1),.pure (pI d.ty.2.1),.pure (pI d.ty.2.2.1),.pure (pI d.ty.2.2.2.1),.pure (pI d.ty.2.2.2.2),.pure (cZ ee d.dims),.pure (cZ ee d.red),.pure (pI d.fold),.pure (pI d.body.op),.pure (pS d.body.name),.pure (pI d.body.val.1),.pure (pI d.body.val.2),.pure (pI d.body.ty.1),.pure (pI d.body.ty.2.1),.pure (pI d.body.ty.2.2.1),.pure (pI d.body.ty.2.2.2.1),.pure (pI d.body.ty.2.2.2.2),.pure (pI d.body.lin.1),.pure (bp d.body.lin.2),.pure (cZ dN d.body.idx),.pure (.slice (d.body.args.map Ex.row))]
abbrev VD (x:kO):AV:= .agg [.pure (pS x.1),.pure (pI x.2.1.1),.pure (pI x.2.1.2.1),.pure (pI x.2.1.2.2.1),.pure (pI x.2.1.2.2.2.1),.pure (pI x.2.1.2.2.2.2),.pure (cZ bP x.2.2)]
abbrev Ov (x:kO):bm:= .var [.pure (pS x.1),.pure (pI x.2.1.1),.pure (pI x.2.1.2.1),.pure (pI x.2.1.2.2.1),.pure (pI x.2.1.2.2.2.1),.pure (pI x.2.1.2.2.2.2),.pure (cZ bP x.2.2)]
abbrev my (l:List fc):AV:= .c (.pure (cZ bP l))
abbrev yG (t:Ty):AV:= .agg [.pure (pI t.1),.pure (pI t.2.1),.pure (pI t.2.2.1),.pure (pI t.2.2.2.1),.pure (pI t.2.2.2.2)]
def aZ (p:be) (s:ByteArray):Option (Ty×List fc):=
 match p.params.find? (λx=>decide (x.1=s))with
 |some x=>some x.2
 |none=>match p.defs.find? (λd=>decide (d.name=s))with
  |some d=>some (d.ty,d.dims.map (·.2))
  |none=>none
def eR (p:be):Prop:=(∀x∈p.params,x.2.2.length≤12∧ ∀l∈x.2.2,l.2.length≤20)∧ ∀d∈p.defs,d.dims.length≤12∧d.red.length≤12∧(∀a∈d.dims,a.2.2.length≤20)∧ ∀a∈d.red,a.2.2.length≤20
def ar (d:jA):List ByteArray:=(d.dims++d.red).map (·.1)
def fe (vars sizes:List ByteArray) (l:fc):Prop:= ∀m∈l.2,m.1∈vars∨m.1∈sizes
instance (vars sizes:List ByteArray) (l:fc):Decidable (fe vars sizes l):=Classical.propDecidable _
def d9 (p:be) (vars:List ByteArray) (l:List fc):Int:=if ∀x∈l,fe vars p.sizes x then 0 else 9
def gL:Ty:=(0,0,0,0,0)
def f6 (p:be) (vars:List ByteArray) (x:Ix):Int:=
 if x.2.1=⟨⟨[]⟩⟩then d9 p vars [x.1]
 else match aZ p x.2.1 with
  |none=>9
  |some (t,dims)=>if t.1≠3 then 10 else if x.2.2.length≠dims.length then 11 else d9 p vars x.2.2
def fm (p:be) (vars:List ByteArray) (e:Ex):Ty×Int:=
 match aZ p e.name with
 |none=>(gL,9)
 |some (t,dims)=>if e.idx.length≠dims.length then(gL,11)else if bY (e.idx.map (f6 p vars))≠0 then(gL,bY (e.idx.map (f6 p vars)))else(t,0)
def aM (p:be) (vars:List ByteArray) (e:Ex) (l:List Ty):Ty×Int:=
 if e.op=1∨e.op=12 then(e.ty,0)
 else if e.op=2 then((3,0,0,0,0),d9 p vars [e.lin])
 else if e.op=3 then fm p vars e
 else if e.op=8 then(l.getD 0 gL,0)
 else if e.op=11 then(l.getD 1 gL,if l.getD 1 gL=l.getD 2 gL then 0 else 10)
 else if 16≤e.op then(gL,0)
 else if 13≤e.op then(gL,if l.getD 0 gL=l.getD 1 gL then 0 else 10)
 else(l.getD 0 gL,if l.getD 0 gL=l.getD 1 gL then 0 else 10)
mutual
def dE (p:be) (vars:List ByteArray):Ex→Ty×Int
 |.mk op name val ty lin idx args=>match cp p vars args with
  | .inl err=>(gL,err)
  | .inr l=>aM p vars (.mk op name val ty lin idx args) l
def cp (p:be) (vars:List ByteArray):List Ex→Int⊕List Ty
 | []=> .inr []
 |e::r=>if(dE p vars e).2≠0 then .inl (dE p vars e).2 else match cp p vars r with
  | .inl err=> .inl err
  | .inr l=> .inr ((dE p vars e).1::l)
end
theorem kY (p:be) (vars:List ByteArray) (e:Ex):dE p vars e=match cp p vars e.args with
  | .inl err=>(gL,err)
  | .inr l=>aM p vars e l:=by
 obtain⟨op,name,val,ty,lin,idx,args⟩:=e
 rw[dE]
 rfl
def aT (p:be) (vars:List ByteArray) (e:Ex):Ty×Int:=
 if gn e≠0 then(gL,gn e)else if jm e.op then(gL,10)else if(dE p vars e).2≠0 then(gL,(dE p vars e).2)else((dE p vars e).1,0)
def aE (taken:List ByteArray) (s:ByteArray):Int:=if ¬eI s then 7 else if s∈taken then 8 else 0
def bi (sizes:List ByteArray) (l:fc):Int:=if ¬dZ l.2 then 1 else if ¬fe [] sizes l then 9 else 0
def cg (sizes taken:List ByteArray) (x:kO):Int:=
 if aE taken x.1≠0 then aE taken x.1 else if ¬ju x.2.1 then 10 else if 6<x.2.2.length then 11 else bY (x.2.2.map (bi sizes))
def aY (sizes:List ByteArray):List ByteArray→List eU→Int
 |_, []=>0
 |taken,a::r=>if aE taken a.1≠0 then aE taken a.1 else if bi sizes a.2≠0 then bi sizes a.2 else aY sizes (taken++ [a.1]) r
def fj (d:jA):Int:=if d.fold<0∨5<d.fold then 1 else if((d.fold=0∨d.fold=5)↔d.red.length=0)∧ ¬(d.fold=5∧d.dims.length=0)then 0 else 11
def aR (p:be) (k:Nat) (taken:List ByteArray) (d:jA):Int:=
 if aE taken d.name≠0 then aE taken d.name else if ¬ju d.ty then 10 else if 6<d.dims.length∨6<d.red.length then 11
 else if aY p.sizes p.sizes (d.dims++d.red)≠0 then aY p.sizes p.sizes (d.dims++d.red)else if fj d≠0 then fj d
 else if(aT {p with wher:= [],defs:=p.defs.take k,outs:= []} (ar d) d.body).2≠0 then(aT {p with wher:= [],defs:=p.defs.take k,outs:= []} (ar d) d.body).2
 else if(aT {p with wher:= [],defs:=p.defs.take k,outs:= []} (ar d) d.body).1≠d.ty then 10 else 0
section
variable {p : be} {vars : List ByteArray}
theorem pN: ∀(l r:List Ex),cp p vars (l++r)=match cp p vars l with
  | .inl err=> .inl err
  |.inr a=>match cp p vars r with
   | .inl err=> .inl err
   | .inr b=> .inr (a++b)
 |[],r=>by
  simp only[List.nil_append,cp]
  cases cp p vars r<;>rfl
 |e::l,r=>by
  simp only[List.cons_append,cp]
  by_cases h:(dE p vars e).2=0
  ·rw[if_neg (not_not_intro h),if_neg (not_not_intro h),pN l r]
   cases cp p vars l with
   |inl x=>rfl
   |inr a=>cases cp p vars r<;>rfl
  ·rw[if_pos h,if_pos h]
theorem Cc {l:List Ex} {k:Nat} {ts:List Ty} (h:k<l.length) (hk:cp p vars (l.take k)= .inr ts) (h0:(dE p vars l[k]).2=0):cp p vars (l.take (k+1))= .inr (ts++ [(dE p vars l[k]).1]):=by
 rw[List.take_succ_eq_append_getElem h,pN,hk]
 simp only[cp]
 rw[if_neg (not_not_intro h0)]
theorem DI {l:List Ex} {k:Nat} {ts:List Ty} (h:k<l.length) (hk:cp p vars (l.take k)= .inr ts) (h0:(dE p vars l[k]).2≠0):cp p vars l= .inl (dE p vars l[k]).2:=by
 have e:cp p vars (l.take k++(l[k]::l.drop (k+1)))= .inl (dE p vars l[k]).2:=by
  rw[pN,hk]
  simp only[cp]
  rw[if_pos h0]
 rw[←List.drop_eq_getElem_cons h,List.take_append_drop]at e
 exact e
theorem oC: ∀{l:List Ex} {ts:List Ty},cp p vars l= .inr ts→ts.length=l.length
 | [],ts,h=>by cases h;rfl
 |e::l,ts,h=>by
  simp only[cp]at h
  split at h
  ·cases h
  ·split at h
   ·cases h
   ·rename_i l' hl
    cases h
    simp[oC hl]
def zE (op:Int) (r:Ty×Int):Ty×Int:=if r.2≠0∧op≠2 then(gL,r.2)else r
def gW (p:be) (vars:List ByteArray) (e:Ex):Ty×Int:=match cp p vars e.args with
  | .inl err=>(gL,err)
  | .inr l=>zE e.op (aM p vars e l)
theorem ll (e:Ex):(gW p vars e).2=(dE p vars e).2:=by
 rw[kY]
 unfold gW
 cases cp p vars e.args with
 |inl x=>rfl
 |inr l=>
  simp only[zE]
  split<;>rfl
theorem I2 {e:Ex} (h:(dE p vars e).2=0):(gW p vars e).1=(dE p vars e).1:=by
 rw[kY]at h ⊢
 unfold gW
 cases hx:cp p vars e.args with
 |inl x=>rfl
 |inr l=>
  rw[hx]at h
  simp only[zE]at h ⊢
  rw[if_neg (λhh=>hh.1 h)]
end
theorem vP {a b:Ty} (h:a.1=b.1∧a.2.1=b.2.1∧a.2.2.1=b.2.2.1∧a.2.2.2.1=b.2.2.2.1∧a.2.2.2.2=b.2.2.2.2):a=b:=by
 obtain⟨a1,a2,a3,a4,a5⟩:=a
 obtain⟨b1,b2,b3,b4,b5⟩:=b
 simp_all
def rx (e:Ex):Prop:= ∀a∈e.pre,(a.args.length:Int)=mq a.op∧1≤a.op∧a.op≤18∧a.idx.length≤6∧ ∀x∈a.idx,x.2.2.length≤6
theorem nP: ∀{l:List Int},bY l=0→ ∀x∈l,x=0
 |y::r,h,x,hx=>by
  simp only[bY]at h
  split at h
  ·exact absurd h ‹_›
  ·rcases List.mem_cons.1 hx with rfl|hx
   ·exact Classical.not_not.1 ‹_›
   ·exact nP h x hx
theorem zx {e:Ex} (h:gn e=0):rx e:=by
 unfold gn at h
 split at h
 ·cases h
 ·split at h
  ·cases h
  ·intro a ha
   have:=Cv (nP h _ (List.mem_map_of_mem ha))
   exact⟨this.2.2.1.1,this.1.1.1,this.1.1.2,this.2.2.1.2.1,this.2.2.1.2.2⟩
theorem Ds {e a:Ex} (h:rx e) (ha:a∈e.args):rx a:= λb hb=>h b (by
 rw[Ex.pre_eq]
 refine List.mem_cons_of_mem _ ?_
 clear h
 generalize e.args=l at ha
 induction l with
 |nil=>cases ha
 |cons x r g=>
  rw[Ex.pres]
  rcases List.mem_cons.1 ha with rfl|ha
  ·exact List.mem_append_left _ hb
  ·exact List.mem_append_right _ (g ha))
theorem Aq {e:Ex} (h:rx e):(e.args.length:Int)=mq e.op∧1≤e.op∧e.op≤18∧e.idx.length≤6∧ ∀x∈e.idx,x.2.2.length≤6:=h e (by rw[Ex.pre_eq];exact List.mem_cons_self)
theorem xl {o:Int} (h1:1≤o) (h2:o≤18):((o=1∨o=2∨o=3)∧mq o=0)∨((o=8∨o=12∨o=18)∧mq o=1)∨(o=11∧mq o=3)∨((o=13∨o=14∨o=15)∧mq o=2)∨((o=16∨o=17)∧mq o=2)∨((4≤o∧o≤10∧o≠8)∧mq o=2):=by
 unfold mq
 have:o=1∨o=2∨o=3∨o=4∨o=5∨o=6∨o=7∨o=8∨o=9∨o=10∨o=11∨o=12∨o=13∨o=14∨o=15∨o=16∨o=17∨o=18:=by omega
 rcases this with rfl|rfl|rfl|rfl|rfl|rfl|rfl|rfl|rfl|rfl|rfl|rfl|rfl|rfl|rfl|rfl|rfl|rfl<;>simp
theorem Ut {l:List Ty} (h:l.length=1): ∃a,l= [a]:=by match l,h with| [a],_=>exact⟨a,rfl⟩
theorem R7 {l:List Ty} (h:l.length=2): ∃a b,l= [a,b]:=by match l,h with| [a,b],_=>exact⟨a,b,rfl⟩
theorem VH {l:List Ty} (h:l.length=3): ∃a b c,l= [a,b,c]:=by match l,h with| [a,b,c],_=>exact⟨a,b,c,rfl⟩
def Dm:Int→List Int→Option (Int×Int)
 |_, []=>none
 |at',x::r=>if x≠0 then some (at',x)else Dm (at'+1) r
theorem MX {l:List Int}: ∀{a:Int},(∀x∈l,x=0)→Dm a l=none:=by
 induction l with
 |nil=>intro a _;rfl
 |cons x r ih=>
  intro a h
  rw[Dm,if_neg (not_not_intro (h x List.mem_cons_self))]
  exact ih λy hy=>h y (List.mem_cons_of_mem _ hy)
theorem Rn {l:List Int}: ∀{a:Int} {k:Nat} (hk:k<l.length),(∀j (h:j<k),l[j]'(by omega)=0)→l[k]≠0→Dm a l=some (a+k,l[k]):=by
 induction l with
 |nil=>intro a k hk;simp at hk
 |cons x r ih=>
  intro a k hk h1 h2
  cases k with
  |zero=>
   rw[Dm,if_pos (by simpa using h2)]
   simp
  |succ k=>
   rw[Dm,if_neg (not_not_intro (show x=0 from h1 0 (by omega)))]
   rw[ih (k:=k) (by simpa using hk) (λj hj=>h1 (j+1) (by omega)) (by simpa using h2)]
   simp
   omega
theorem ln {n k:Nat} {f:Nat→Int} (h:k<((List.range n).map f).length):((List.range n).map f)[k]=f k:=by simp
theorem jx {n:Nat} {f:Nat→Int} {a:Int} (h: ∀j,j<n→f j=0):Dm a ((List.range n).map f)=none:=MX λx hx=>by
 obtain⟨j,hj,rfl⟩:=List.mem_map.1 hx
 exact h j (List.mem_range.1 hj)
theorem pJ {n k:Nat} {f:Nat→Int} {a:Int} (hk:k<n) (h: ∀j,j<k→f j=0) (h2:f k≠0):Dm a ((List.range n).map f)=some (a+k,f k):=by
 have:=Rn (l:=(List.range n).map f) (a:=a) (k:=k) (by simpa using hk) (λj hj=>by rw[ln];exact h j hj) (by rw[ln];exact h2)
 rw[this,ln]
def ci (p:be) (k:Nat):List ByteArray:=p.sizes++(p.params.take k).map (·.1)
def cM (p:be) (k:Nat):List ByteArray:=p.sizes++p.params.map (·.1)++(p.defs.take k).map (·.name)
def Pf (p:be) (k:Nat):Int:=match p.sizes[k]? with
 |some s=>aE (p.sizes.take k) s
 |none=>0
def xS (p:be) (k:Nat):Int:=match p.params[k]? with
 |some x=>cg p.sizes (ci p k) x
 |none=>0
def xD (p:be) (k:Nat):Int:=match p.defs[k]? with
 |some d=>aR p k (cM p k) d
 |none=>0
def I3 (p:be) (k:Nat):Int:=match p.outs[k]? with
 |some s=>if aZ p s=none then 9 else if s∈p.outs.take k then 8 else 0
 |none=>0
def iC (p:be):Prop:=p.sizes.length≤64∧p.params.length≤64∧p.defs.length≤64∧p.outs.length≤64∧p.wher.length≤256
instance (p:be):Decidable (iC p):=inferInstanceAs (Decidable (_∧_))
def lF (p:be):Int:=bY ((List.range p.sizes.length).map (Pf p))
def rE (p:be):Int:=bY (p.wher.map λc=>bi p.sizes c.1)
def aV (p:be):Int×Int:=
 if ¬iC p then(0,2)else if lF p≠0 then(0,lF p)else if rE p≠0 then(1,rE p)
 else match Dm 2 ((List.range p.params.length).map (xS p))with
 |some r=>r
 |none=>match Dm (2+p.params.length) ((List.range p.defs.length).map (xD p))with
  |some r=>r
  |none=>match Dm (2+p.params.length+p.defs.length) ((List.range p.outs.length).map (I3 p))with
   |some r=>r
   |none=>(0,0)
section
variable {p : be}
theorem wi (h: ¬iC p):aV p=(0,2):=if_pos h
theorem zy (h:iC p) {x:Int} (h1:lF p=x) (hx:x≠0):aV p=(0,x):=by
 unfold aV
 rw[if_neg (not_not_intro h),h1,if_pos hx]
theorem zf (h:iC p) (h1:lF p=0) {x:Int} (h2:rE p=x) (hx:x≠0):aV p=(1,x):=by
 unfold aV
 rw[if_neg (not_not_intro h),if_neg (not_not_intro h1),h2,if_pos hx]
theorem wd (h:iC p) (h1:lF p=0) (h2:rE p=0) {k:Nat} (hk:k<p.params.length) (h3: ∀j,j<k→xS p j=0) {x:Int} (h4:xS p k=x) (hx:x≠0):aV p=((2:Int)+k,x):=by
 unfold aV
 rw[if_neg (not_not_intro h),if_neg (not_not_intro h1),if_neg (not_not_intro h2),pJ hk h3 (by rw[h4];exact hx),h4]
theorem ww (h:iC p) (h1:lF p=0) (h2:rE p=0) (h3: ∀j,j<p.params.length→xS p j=0) {k:Nat} (hk:k<p.defs.length) (h4: ∀j,j<k→xD p j=0) {x:Int} (h5:xD p k=x) (hx:x≠0):aV p=((2:Int)+p.params.length+k,x):=by
 unfold aV
 rw[if_neg (not_not_intro h),if_neg (not_not_intro h1),if_neg (not_not_intro h2),jx h3]
 simp only
 rw[pJ hk h4 (by rw[h5];exact hx),h5]
theorem pH (h:iC p) (h1:lF p=0) (h2:rE p=0) (h3: ∀j,j<p.params.length→xS p j=0) (h4: ∀j,j<p.defs.length→xD p j=0) {k:Nat} (hk:k<p.outs.length) (h5: ∀j,j<k→I3 p j=0) {x:Int} (h6:I3 p k=x) (hx:x≠0):
  aV p=((2:Int)+p.params.length+p.defs.length+k,x):=by
 unfold aV
 rw[if_neg (not_not_intro h),if_neg (not_not_intro h1),if_neg (not_not_intro h2),jx h3]
 simp only
 rw[jx h4]
 simp only
 rw[pJ hk h5 (by rw[h6];exact hx),h6]
theorem zc (h:iC p) (h1:lF p=0) (h2:rE p=0) (h3: ∀j,j<p.params.length→xS p j=0) (h4: ∀j,j<p.defs.length→xD p j=0) (h5: ∀j,j<p.outs.length→I3 p j=0):aV p=(0,0):=by
 unfold aV
 rw[if_neg (not_not_intro h),if_neg (not_not_intro h1),if_neg (not_not_intro h2),jx h3]
 simp only
 rw[jx h4]
 simp only
 rw[jx h5]
theorem KZ {k:Nat} (h:k<p.sizes.length):Pf p k=aE (p.sizes.take k) p.sizes[k]:=by
 unfold Pf
 rw[List.getElem?_eq_getElem h]
theorem BV {k:Nat} (h:k<p.params.length):xS p k=cg p.sizes (ci p k) p.params[k]:=by
 unfold xS
 rw[List.getElem?_eq_getElem h]
theorem w8 {k:Nat} (h:k<p.defs.length):xD p k=aR p k (cM p k) p.defs[k]:=by
 unfold xD
 rw[List.getElem?_eq_getElem h]
theorem Iw {k:Nat} (h:k<p.outs.length):I3 p k=if aZ p p.outs[k]=none then 9 else if p.outs[k]∈p.outs.take k then 8 else 0:=by
 unfold I3
 rw[List.getElem?_eq_getElem h]
theorem D4 (h: ∀j,j<p.sizes.length→Pf p j=0):lF p=0:=by
 have key: ∀l:List Int,(∀x∈l,x=0)→bY l=0:=by
  intro l
  induction l with
  |nil=>intro _;rfl
  |cons x r ih=>
   intro h
   rw[bY,if_neg (not_not_intro (h x List.mem_cons_self))]
   exact ih λy hy=>h y (List.mem_cons_of_mem _ hy)
 exact key _ λx hx=>by
  obtain⟨j,hj,rfl⟩:=List.mem_map.1 hx
  exact h j (List.mem_range.1 hj)
theorem JP {k:Nat} (hk:k<p.sizes.length) (h: ∀j,j<k→Pf p j=0) {x:Int} (h2:Pf p k=x) (hx:x≠0):lF p=x:=by
 have hl:k<((List.range p.sizes.length).map (Pf p)).length:=by simpa using hk
 have h0:bY (((List.range p.sizes.length).map (Pf p)).take k)=0:=by
  have key: ∀l:List Int,(∀x∈l,x=0)→bY l=0:=by
   intro l
   induction l with
   |nil=>intro _;rfl
   |cons x r ih=>
    intro h
    rw[bY,if_neg (not_not_intro (h x List.mem_cons_self))]
    exact ih λy hy=>h y (List.mem_cons_of_mem _ hy)
  refine key _ λx hx=> ?_
  obtain⟨j,hj,rfl⟩:=List.mem_iff_getElem.1 hx
  rw[List.getElem_take,ln]
  exact h j (by simp at hj;omega)
 have:=l9 hl h0 (by rw[ln,h2];exact hx)
 unfold lF
 rw[this,ln,h2]
theorem JQ {k:Nat} (h:k<p.params.length):ci p (k+1)=ci p k++ [p.params[k].1]:=by
 unfold ci
 rw[List.take_succ_eq_append_getElem h,List.map_append,List.append_assoc]
 rfl
theorem IL:ci p p.params.length=p.sizes++p.params.map (·.1):=by
 unfold ci
 rw[List.take_of_length_le (Nat.le_refl _)]
theorem Kj:cM p 0=p.sizes++p.params.map (·.1):=by simp[cM]
theorem IG {k:Nat} (h:k<p.defs.length):cM p (k+1)=cM p k++ [p.defs[k].name]:=by
 unfold cM
 rw[List.take_succ_eq_append_getElem h,List.map_append,←List.append_assoc]
 rfl
theorem Gx (k:Nat) (h:iC p):(ci p k).length≤128∧(cM p k).length≤192:=by
 obtain⟨h1,h2,h3,_⟩:=h
 unfold ci cM
 simp
 omega
end
def bu (p:be) (k:Nat):be:={p with wher:= [],defs:=p.defs.take k,outs:= []}
theorem AS {p:be} (h:eR p) (k:Nat):eR (bu p k):=⟨h.1,λd hd=>h.2 d (List.mem_of_mem_take hd)⟩
def ij (p:be):Prop:= ∀d∈p.defs,∀a∈d.body.pre,o9 a.val
abbrev KL:=List (ByteArray×Int)
def D0 (K:KL):List (MK×List PC):=K.map λx=>(MK.str x.1.data.toList, [pI x.2])
def ja (K:KL):List (MK×List AC):=K.map λx=>(MK.str x.1.data.toList, [.pure (pI x.2)])
def ix:KL→ByteArray→Option Int
 | [],_=>none
 |(a,k)::r,s=>if a=s then some k else ix r s
def t8:KL→ByteArray→Int→KL
 | [],s,k=> [(s,k)]
 |(a,j)::r,s,k=>if a=s then(s,k)::r else(a,j)::t8 r s k
def qV (K:KL) (s:ByteArray):Int:=(ix K s).getD 0
theorem pX {a s:ByteArray}:(MK.str a.data.toList=MK.str s.data.toList)↔a=s:=by
 constructor
 ·intro h
  have h1:a.data.toList=s.data.toList:=by injection h
  obtain⟨⟨a⟩⟩:=a
  obtain⟨⟨s⟩⟩:=s
  simp only at h1
  rw[h1]
 ·intro h;rw[h]
theorem DY (K:KL):lR (D0 K)=ja K:=by simp[lR,D0,ja,List.map_map,Function.comp_def]
theorem pW (s:ByteArray): ∀K:KL,eC (ja K) (.str s.data.toList)=(ix K s).map λk=> [.pure (pI k)]
 | []=>rfl
 |(a,k)::r=>by
  have ih:=pW s r
  simp only[ja,List.map_cons,eC,ix]at ih ⊢
  by_cases h:a=s
  ·rw[if_pos (pX.2 h),if_pos h];rfl
  ·rw[if_neg (λe=>h (pX.1 e)),if_neg h,ih]
theorem LX {mem:List (Nat×bm)}: ∀K:KL,jd mem none (ja K)=some (D0 K)
 | []=>rfl
 |x::r=>by
  have ih:=LX (mem:=mem) r
  simp only[ja,D0,List.map_cons,jd,lJ,cG]at ih ⊢
  rw[ih]
theorem Hu (s:ByteArray) (k:Int): ∀K:KL,Be (ja K) (.str s.data.toList) [.pure (pI k)]=ja (t8 K s k)
 | []=>rfl
 |(a,j)::r=>by
  have ih:=Hu s k r
  simp only[ja,List.map_cons,Be,t8]at ih ⊢
  by_cases h:a=s
  ·rw[if_pos (pX.2 h),if_pos h];rfl
  ·rw[if_neg (λe=>h (pX.1 e)),if_neg h,ih];rfl
theorem NH (K:KL) (s s':ByteArray) (k:Int):ix (t8 K s k) s'=if s=s' then some k else ix K s':=by
 induction K with
 |nil=>simp[t8,ix]
 |cons x r ih=>
  obtain⟨a,j⟩:=x
  simp only[t8]
  by_cases h:a=s
  ·subst h
   rw[if_pos rfl]
   simp only[ix]
   by_cases h2:a=s'<;>simp[h2]
  ·rw[if_neg h]
   simp only[ix,ih]
   by_cases h2:a=s'
   ·subst h2
    rw[if_pos rfl,if_neg (λe=>h e.symm),if_pos rfl]
   ·rw[if_neg h2,if_neg h2]
theorem Jf (K:KL) (s s':ByteArray) (k:Int):qV (t8 K s k) s'=if s=s' then k else qV K s':=by
 unfold qV
 rw[NH]
 split<;>rfl
theorem Cl (s:ByteArray):qV [] s=0:=rfl
theorem gX {K:KL} {s:ByteArray} {k:Int} (h:ix K s=some k):qV K s=k:=by unfold qV;rw[h];rfl
theorem mu {K:KL} {s:ByteArray} (h:ix K s=none):qV K s=0:=by unfold qV;rw[h];rfl
def jY (K:KL) (k:Int):List ByteArray→KL
 | []=>K
 |s::r=>jY (t8 K s k) k r
theorem Dp (k:Int): ∀(l r:List ByteArray) (K:KL),jY K k (l++r)=jY (jY K k l) k r
 | [],r,K=>rfl
 |s::l,r,K=>by
  simp only[List.cons_append,jY]
  exact Dp k l r _
theorem zZ {K:KL} {k:Int} {l:List ByteArray} {i:Nat} (h:i<l.length):jY K k (l.take (i+1))=t8 (jY K k (l.take i)) l[i] k:=by
 rw[List.take_succ_eq_append_getElem h,Dp]
 rfl
theorem nM {k:Int} (s:ByteArray): ∀(l:List ByteArray) (K:KL),qV (jY K k l) s=if s∈l then k else qV K s
 | [],K=>by simp[jY]
 |a::l,K=>by
  rw[jY,nM s l,Jf]
  by_cases h:s∈l
  ·rw[if_pos h,if_pos (List.mem_cons_of_mem _ h)]
  ·rw[if_neg h]
   by_cases h2:a=s
   ·rw[if_pos h2,if_pos (by rw[h2];exact List.mem_cons_self)]
   ·rw[if_neg h2,if_neg]
    intro hm
    rcases List.mem_cons.1 hm with rfl|hm
    ·exact h2 rfl
    ·exact h hm
end
end Go.Proofs.YtjhkikmonejkjaaGreatDoor
