import Derived.Test.YthbcbaembicdbaaGreatDoorV12a
set_option linter.unusedVariables false
set_option linter.unusedSimpArgs false
namespace Go.Proofs.YthbcbaembicdbaaGreatDoor
open Go.Abs Go.RowKit
noncomputable section
abbrev Ix:=bU×ByteArray×List bU
def cR (l:bU):List PC:= [pI l.1,aw l.2]
def fQ (x:Ix):List PC:= [pI x.1.1,aw x.1.2,pS x.2.1,dg cR x.2.2]
abbrev aIx (x:Ix):AV:= .agg [.pure (pI x.1.1),.pure (aw x.1.2),.pure (pS x.2.1),.pure (dg cR x.2.2)]
inductive Ex where
 |mk (op:Int) (name:ByteArray) (val:Fr) (ty:Ty) (lin:bU) (idx:List Ix) (args:List Ex)
namespace Ex
def op:Ex→Int| .mk o _ _ _ _ _ _=>o
def name:Ex→ByteArray| .mk _ s _ _ _ _ _=>s
def val:Ex→Fr| .mk _ _ v _ _ _ _=>v
def ty:Ex→Ty| .mk _ _ _ t _ _ _=>t
def lin:Ex→bU| .mk _ _ _ _ l _ _=>l
def idx:Ex→List Ix| .mk _ _ _ _ _ x _=>x
def args:Ex→List Ex| .mk _ _ _ _ _ _ a=>a
mutual
def row:Ex→List PC
 | .mk op name val ty lin idx args=> [pI op,pS name,pI val.1,pI val.2,pI ty.1,pI ty.2.1,pI ty.2.2.1,pI ty.2.2.2.1,pI ty.2.2.2.2,pI lin.1,aw lin.2,dg fQ idx,.slice (rows args)]
def rows:List Ex→List (List PC)
 | []=> []
 |e::r=>row e::rows r
end
theorem Pk: ∀l:List Ex,rows l=l.map row
 | []=>by rw[rows];rfl
 |e::r=>by rw[rows,Pk r];rfl
theorem row_eq (e:Ex):e.row= [pI e.op,pS e.name,pI e.val.1,pI e.val.2,pI e.ty.1,pI e.ty.2.1,pI e.ty.2.2.1,pI e.ty.2.2.2.1,pI e.ty.2.2.2.2,pI e.lin.1,aw e.lin.2,dg fQ e.idx,.slice (e.args.map row)]:=by
 obtain⟨op,name,val,ty,lin,idx,args⟩:=e
 rw[row,Pk]
 rfl
mutual
def dep:Ex→Nat
 | .mk _ _ _ _ _ _ args=>1+deps args
def deps:List Ex→Nat
 | []=>0
 |e::r=>max (dep e) (deps r)
end
mutual
def sz:Ex→Nat
 | .mk _ _ _ _ _ _ args=>1+szs args
def szs:List Ex→Nat
 | []=>0
 |e::r=>sz e+szs r
end
mutual
def pre:Ex→List Ex
 | .mk op name val ty lin idx args=> .mk op name val ty lin idx args::pres args
def pres:List Ex→List Ex
 | []=> []
 |e::r=>pre e++pres r
end
theorem dep_eq (e:Ex):e.dep=1+deps e.args:=by cases e;rw[dep];rfl
theorem sz_eq (e:Ex):e.sz=1+szs e.args:=by cases e;rw[sz];rfl
theorem pre_eq (e:Ex):e.pre=e::pres e.args:=by cases e;rw[pre];rfl
theorem Q3 {e a:Ex} (h:a∈e.args):SizeOf.sizeOf a<SizeOf.sizeOf e:=by
 obtain⟨op,name,val,ty,lin,idx,args⟩:=e
 have:=List.sizeOf_lt_of_mem (show a∈args from h)
 simp only[mk.sizeOf_spec]
 omega
theorem ind {p:Ex→Prop} (h: ∀e:Ex,(∀a∈e.args,p a)→p e): ∀e:Ex,p e:=by
 have key: ∀(n:Nat) (e:Ex),SizeOf.sizeOf e<n→p e:=by
  intro n
  induction n with
  |zero=>intro e he;omega
  |succ n ih=>exact λe he=>h e λa ha=>ih a (by have:=Q3 ha;omega)
 exact λe=>key _ e (Nat.lt_succ_self _)
theorem dep_pos (e:Ex):1≤e.dep:=by rw[dep_eq];omega
theorem deps_take: ∀{l:List Ex} {k:Nat} (h:k<l.length),deps (l.take (k+1))=max (deps (l.take k)) (l[k].dep)
 |e::r,0,h=>by simp[deps]
 |e::r,k+1,h=>by
  have:=deps_take (l:=r) (k:=k) (by simpa using h)
  simp only[List.take_succ_cons,deps,this,List.getElem_cons_succ]
  omega
theorem szs_append: ∀(l r:List Ex),szs (l++r)=szs l+szs r
 | [],r=>by simp[szs]
 |e::l,r=>by simp only[List.cons_append,szs,szs_append l r];omega
theorem szs_take {l:List Ex} {k:Nat} (h:k<l.length):szs (l.take (k+1))=szs (l.take k)+l[k].sz:=by
 rw[List.take_succ_eq_append_getElem h,szs_append]
 simp[szs]
theorem pres_append: ∀(l r:List Ex),pres (l++r)=pres l++pres r
 | [],r=>by simp[pres]
 |e::l,r=>by simp only[List.cons_append,pres,pres_append l r,List.append_assoc]
theorem pres_length: ∀{l:List Ex},(∀a∈l,a.pre.length=a.sz)→(pres l).length=szs l
 | [],_=>by simp[pres,szs]
 |e::r,h=>by rw[pres,szs,List.length_append,h e List.mem_cons_self,pres_length λa ha=>h a (List.mem_cons_of_mem _ ha)]
theorem pre_length (e:Ex):e.pre.length=e.sz:=by
 refine ind (p:= λe=>e.pre.length=e.sz) (λe ih=> ?_) e
 rw[pre_eq,sz_eq,List.length_cons,pres_length ih]
 omega
theorem sz_pos (e:Ex):1≤e.sz:=by rw[sz_eq];omega
theorem szs_len: ∀l:List Ex,l.length≤szs l
 | []=>by simp
 |e::r=>by have:=szs_len r;have:=sz_pos e;rw[szs,List.length_cons];omega
end Ex
abbrev j5 (e:Ex):AV:= .agg [.pure (pI e.op),.pure (pS e.name),.pure (pI e.val.1),.pure (pI e.val.2),.pure (pI e.ty.1),.pure (pI e.ty.2.1),.pure (pI e.ty.2.2.1),.pure (pI e.ty.2.2.2.1),.pure (pI e.ty.2.2.2.2),.pure (pI e.lin.1),.pure (aw e.lin.2),.pure (dg fQ e.idx),.pure (.slice (e.args.map Ex.row))]
theorem BD {b:Bool} {p:Prop} [Decidable p] (h:b=true↔p):AV.c (.pure (.val (.bool b)))=Go.Abs.B (decide p):=by
 have:b=decide p:=by by_cases hp:p<;>simp_all
 rw[this]
theorem IE {a b:Int} (h:a=b):AV.c (.pure (.val (.int .i64 a)))=I b:=by rw[h]
theorem M6 {p:Prop}:re p=true↔p:=⟨λh=>Classical.byContradiction (λhn=>(by rw[jd hn]at h;cases h)),lV⟩
theorem Oj {p:Prop}:re p=false↔ ¬p:=⟨λh hp=>(by rw[lV hp]at h;cases h),jd⟩
theorem BC {b:Bool} {p:Prop} (h:b=true↔p):AV.c (.pure (.val (.bool b)))=Go.Abs.B (re p):=by
 have:b=re p:=by
  by_cases hp:p
  ·rw[lV hp,h.2 hp]
  ·rw[jd hp];exact Bool.eq_false_iff.2 λe=>hp (h.1 e)
 rw[this]
def vr (o:Int):Prop:=13≤o∧o≤18
instance (o:Int):Decidable (vr o):=inferInstanceAs (Decidable (_∧_))
def nG (o:Int):Int:=if o=1∨o=2∨o=3 then 0 else if o=8∨o=12∨o=18 then 1 else if o=11 then 3 else 2
def Du (o:Int) (i:Nat):Prop:=o=16∨o=17∨o=18∨(o=11∧i=0)
instance (o:Int) (i:Nat):Decidable (Du o i):=inferInstanceAs (Decidable (_∨_))
def QW (l:bU):Prop:=l.1=0∧l.2.length=0
instance (l:bU):Decidable (QW l):=inferInstanceAs (Decidable (_∧_))
def S6 (x:Ix):Prop:=(x.2.1=⟨⟨[]⟩⟩→x.2.2.length=0)∧(x.2.1≠⟨⟨[]⟩⟩→QW x.1)
instance (x:Ix):Decidable (S6 x):=Classical.propDecidable _
def wL (e:Ex):Prop:=(1≤e.op∧e.op≤18)∧(e.op≠1→e.val.1=0∧e.val.2=0)∧(e.op≠1→e.op≠12→e.ty.1=0∧e.ty.2.1=0∧e.ty.2.2.1=0∧e.ty.2.2.2.1=0∧e.ty.2.2.2.2=0)∧
 (e.op≠2→QW e.lin)∧(e.op≠3→e.name=⟨⟨[]⟩⟩∧e.idx.length=0)∧ ∀x∈e.idx,S6 x
def Ch (e:Ex):Prop:=(e.op=3→gk e.name)∧ ∀x∈e.idx,x.2.1≠⟨⟨[]⟩⟩→gk x.2.1
def B9 (e:Ex):Prop:=(e.args.length:Int)=nG e.op∧e.idx.length≤6∧ ∀x∈e.idx,x.2.2.length≤6
def uU (e:Ex):Prop:=((e.op=1∨e.op=12)→uz e.ty)∧ ∀(i:Nat) (h:i<e.args.length),vr e.args[i].op↔Du e.op i
def Ex.forms (e:Ex):List bU:=e.lin::e.idx.flatMap λx=>x.1::x.2.2
def IZ (e:Ex):Prop:=(e.op=1→qV e.ty e.val)∧ ∀l∈e.forms,bn l.2
instance (e:Ex):Decidable (wL e):=Classical.propDecidable _
instance (e:Ex):Decidable (Ch e):=Classical.propDecidable _
instance (e:Ex):Decidable (B9 e):=Classical.propDecidable _
instance (e:Ex):Decidable (uU e):=Classical.propDecidable _
instance (e:Ex):Decidable (IZ e):=Classical.propDecidable _
def co (e:Ex):Int:=if ¬wL e then 5 else if ¬Ch e then 7 else if ¬B9 e then 11 else if ¬uU e then 10 else if ¬IZ e then 1 else 0
def dV:List Int→Int
 | []=>0
 |x::r=>if x≠0 then x else dV r
theorem uw: ∀(l r:List Int),dV (l++r)=if dV l≠0 then dV l else dV r
 | [],r=>by simp[dV]
 |x::l,r=>by
  simp only[List.cons_append,dV,uw l r]
  by_cases h:x=0<;>simp[h]
theorem ni {l:List Int} {k:Nat} (h:k<l.length) (hf:dV (l.take k)=0):dV (l.take (k+1))=l[k]:=by
 rw[List.take_succ_eq_append_getElem h,uw,if_neg (by rw[hf];simp)]
 simp only[dV]
 split<;>simp_all
theorem uL {l:List Int} {k:Nat} (h:k<l.length) (hf:dV (l.take k)=0) (hp:l[k]≠0):dV l=l[k]:=by
 have key:dV (l.take (k+1)++l.drop (k+1))=l[k]:=by rw[uw,ni h hf,if_pos hp]
 rw[List.take_append_drop]at key
 exact key
def Pe (e:Ex):Int:=dV (e.pre.map co)
def jC (e:Ex):Int:=if 40<e.dep then 13 else if 2000<e.sz then 2 else Pe e
theorem iO {e:Ex} (h:co e=0):wL e∧Ch e∧B9 e∧uU e∧IZ e:=by
 unfold co at h
 repeat' split at h
 all_goals first
  |(simp at h;done)
  |simp_all
def ny {α:Type} (p:α→Prop) (xs:List α):Int:=match xs.findIdx? (λx=>re (p x))with
 |some k=>k
 |none=> -1
theorem yS {α:Type} {p:α→Prop} {xs:List α} {k:Nat} (hk:k<xs.length) (h:p xs[k]) (hn: ∀j (hj:j<k),¬p (xs[j]'(by omega))):ny p xs=k:=by
 have:xs.findIdx? (λx=>re (p x))=some k:=by
  rw[List.findIdx?_eq_some_iff_getElem]
  exact⟨hk,lV h,λj hj=>by simp[jd (hn j hj)]⟩
 rw[ny,this]
theorem rf {α:Type} {p:α→Prop} {xs:List α} (hn: ∀j (hj:j<xs.length),¬p xs[j]):ny p xs= -1:=by
 have:xs.findIdx? (λx=>re (p x))=none:=by
  rw[List.findIdx?_eq_none_iff]
  intro x hx
  obtain⟨j,hj,rfl⟩:=List.mem_iff_getElem.1 hx
  exact jd (hn j hj)
 rw[ny,this]
theorem vK {α:Type} (p:α→Prop) (xs:List α):(ny p xs= -1∧ ∀x∈xs,¬p x)∨ ∃k,∃h:k<xs.length,ny p xs=k∧p xs[k]∧ ∀j (hj:j<k),¬p (xs[j]'(by omega)):=by
 unfold ny
 cases e:xs.findIdx? (λx=>re (p x))with
 |none=>
  rw[List.findIdx?_eq_none_iff]at e
  refine .inl ⟨rfl,λx hx h=> ?_⟩
  have:=e x hx
  rw[lV h]at this
  cases this
 |some k=>
  rw[List.findIdx?_eq_some_iff_getElem]at e
  obtain⟨hk,h1,h2⟩:=e
  refine .inr ⟨k,hk,rfl, ?_,λj hj h=> ?_⟩
  ·exact Classical.byContradiction λhn=>by rw[jd hn]at h1;cases h1
  ·have:=h2 j hj
   rw[lV h]at this
   simp at this
theorem LH {α:Type} {p:α→Prop} {xs:List α}:0≤ny p xs↔ ∃x∈xs,p x:=by
 rcases vK p xs with⟨h1,h2⟩|⟨k,hk,h1,h2,_⟩
 ·rw[h1]
  exact⟨λh=>by omega,λ⟨x,hx,h⟩=>absurd h (h2 x hx)⟩
 ·rw[h1]
  exact⟨λ_=>⟨_,List.getElem_mem hk,h2⟩,λ_=>by omega⟩
open Go.Abs Go.RowKit
abbrev dW:=ByteArray×bU
def ic (a:dW):List PC:= [pS a.1,pI a.2.1,aw a.2.2]
abbrev su:=ByteArray×Ty×List bU
def ku (x:su):List PC:= [pS x.1,pI x.2.1.1,pI x.2.1.2.1,pI x.2.1.2.2.1,pI x.2.1.2.2.2.1,pI x.2.1.2.2.2.2,dg cR x.2.2]
structure y5 where
 name:ByteArray
 ty:Ty
 dims:List dW
 red:List dW
 fold:Int
 body:Ex
def eh (d:y5):List PC:= [pS d.name,pI d.ty.1,pI d.ty.2.1,pI d.ty.2.2.1,pI d.ty.2.2.2.1,pI d.ty.2.2.2.2,dg ic d.dims,dg ic d.red,pI d.fold,pI d.body.op,pS d.body.name,pI d.body.val.1,pI d.body.val.2,pI d.body.ty.1,pI d.body.ty.2.1,pI d.body.ty.2.2.1,pI d.body.ty.2.2.2.1,pI d.body.ty.2.2.2.2,pI d.body.lin.1,aw d.body.lin.2,dg fQ d.body.idx,.slice (d.body.args.map Ex.row)]
structure bz where
 sizes:List ByteArray
 wher:List aR
 params:List su
 defs:List y5
 outs:List ByteArray
abbrev gn (l:List ByteArray):PC:=dg (λs=> [pS s]) l
abbrev jE (p:bz):AV:= .agg [.pure (gn p.sizes),.pure (dg cP p.wher),.pure (dg ku p.params),.pure (dg eh p.defs),.pure (gn p.outs)]
abbrev kx (p:bz):aU:= .var [.pure (gn p.sizes),.pure (dg cP p.wher),.pure (dg ku p.params),.pure (dg eh p.defs),.pure (gn p.outs)]
abbrev Qa (d:y5):AV:= .agg [.pure (pS d.name),.pure (pI d.ty.1),.pure (pI d.ty.2.1),.pure (pI d.ty.2.2.1),.pure (pI d.ty.2.2.2.1),.pure (pI d.ty.2.2.2.2),.pure (dg ic d.dims),.pure (dg ic d.red),.pure (pI d.fold),.pure (pI d.body.op),.pure (pS d.body.name),.pure (pI d.body.val.1),.pure (pI d.body.val.2),.pure (pI d.body.ty.1),.pure (pI d.body.ty.2.1),.pure (pI d.body.ty.2.2.1),.pure (pI d.body.ty.2.2.2.1),.pure (pI d.body.ty.2.2.2.2),.pure (pI d.body.lin.1),.pure (aw d.body.lin.2),.pure (dg fQ d.body.idx),.pure (.slice (d.body.args.map Ex.row))]
abbrev QD (d:y5):aU:= .var [.pure (pS d.name),.pure (pI d.ty.1),.pure (pI d.ty.2.1),.pure (pI d.ty.2.2.1),.pure (pI d.ty.2.2.2.1),.pure (pI d.ty.2.2.2.2),.pure (dg ic d.dims),.pure (dg ic d.red),.pure (pI d.fold),.pure (pI d.body.op),.pure (pS d.body.name),.pure (pI d.body.val.1),.pure (pI d.body.val.2),.pure (pI d.body.ty.1),.pure (pI d.body.ty.2.1),.pure (pI d.body.ty.2.2.1),.pure (pI d.body.ty.2.2.2.1),.pure (pI d.body.ty.2.2.2.2),.pure (pI d.body.lin.1),.pure (aw d.body.lin.2),.pure (dg fQ d.body.idx),.pure (.slice (d.body.args.map Ex.row))]
abbrev abE (x:su):AV:= .agg [.pure (pS x.1),.pure (pI x.2.1.1),.pure (pI x.2.1.2.1),.pure (pI x.2.1.2.2.1),.pure (pI x.2.1.2.2.2.1),.pure (pI x.2.1.2.2.2.2),.pure (dg cR x.2.2)]
abbrev WK (x:su):aU:= .var [.pure (pS x.1),.pure (pI x.2.1.1),.pure (pI x.2.1.2.1),.pure (pI x.2.1.2.2.1),.pure (pI x.2.1.2.2.2.1),.pure (pI x.2.1.2.2.2.2),.pure (dg cR x.2.2)]
abbrev sH (l:List bU):AV:= .c (.pure (dg cR l))
abbrev I0 (t:Ty):AV:= .agg [.pure (pI t.1),.pure (pI t.2.1),.pure (pI t.2.2.1),.pure (pI t.2.2.2.1),.pure (pI t.2.2.2.2)]
def dJ (p:bz) (s:ByteArray):Option (Ty×List bU):=
 match p.params.find? (λx=>decide (x.1=s))with
 |some x=>some x.2
 |none=>match p.defs.find? (λd=>decide (d.name=s))with
  |some d=>some (d.ty,d.dims.map (·.2))
  |none=>none
def rI (p:bz):Prop:=(∀x∈p.params,x.2.2.length≤12∧ ∀l∈x.2.2,l.2.length≤20)∧ ∀d∈p.defs,d.dims.length≤12∧d.red.length≤12∧(∀a∈d.dims,a.2.2.length≤20)∧ ∀a∈d.red,a.2.2.length≤20
def bX (d:y5):List ByteArray:=(d.dims++d.red).map (·.1)
def fU (vars sizes:List ByteArray) (l:bU):Prop:= ∀m∈l.2,m.1∈vars∨m.1∈sizes
instance (vars sizes:List ByteArray) (l:bU):Decidable (fU vars sizes l):=Classical.propDecidable _
def eH (p:bz) (vars:List ByteArray) (l:List bU):Int:=if ∀x∈l,fU vars p.sizes x then 0 else 9
def pH:Ty:=(0,0,0,0,0)
def jz (p:bz) (vars:List ByteArray) (x:Ix):Int:=
 if x.2.1=⟨⟨[]⟩⟩then eH p vars [x.1]
 else match dJ p x.2.1 with
  |none=>9
  |some (t,dims)=>if t.1≠3 then 10 else if x.2.2.length≠dims.length then 11 else eH p vars x.2.2
def jV (p:bz) (vars:List ByteArray) (e:Ex):Ty×Int:=
 match dJ p e.name with
 |none=>(pH,9)
 |some (t,dims)=>if e.idx.length≠dims.length then(pH,11)else if dV (e.idx.map (jz p vars))≠0 then(pH,dV (e.idx.map (jz p vars)))else(t,0)
def b9 (p:bz) (vars:List ByteArray) (e:Ex) (l:List Ty):Ty×Int:=
 if e.op=1∨e.op=12 then(e.ty,0)
 else if e.op=2 then((3,0,0,0,0),eH p vars [e.lin])
 else if e.op=3 then jV p vars e
 else if e.op=8 then(l.getD 0 pH,0)
 else if e.op=11 then(l.getD 1 pH,if l.getD 1 pH=l.getD 2 pH then 0 else 10)
 else if 16≤e.op then(pH,0)
 else if 13≤e.op then(pH,if l.getD 0 pH=l.getD 1 pH then 0 else 10)
 else(l.getD 0 pH,if l.getD 0 pH=l.getD 1 pH then 0 else 10)
mutual
def eS (p:bz) (vars:List ByteArray):Ex→Ty×Int
 |.mk op name val ty lin idx args=>match d5 p vars args with
  | .inl err=>(pH,err)
  | .inr l=>b9 p vars (.mk op name val ty lin idx args) l
def d5 (p:bz) (vars:List ByteArray):List Ex→Int⊕List Ty
 | []=> .inr []
 |e::r=>if(eS p vars e).2≠0 then .inl (eS p vars e).2 else match d5 p vars r with
  | .inl err=> .inl err
  | .inr l=> .inr ((eS p vars e).1::l)
end
theorem vP (p:bz) (vars:List ByteArray) (e:Ex):eS p vars e=match d5 p vars e.args with
  | .inl err=>(pH,err)
  | .inr l=>b9 p vars e l:=by
 obtain⟨op,name,val,ty,lin,idx,args⟩:=e
 rw[eS]
 rfl
def du (p:bz) (vars:List ByteArray) (e:Ex):Ty×Int:=
 if jC e≠0 then(pH,jC e)else if vr e.op then(pH,10)else if(eS p vars e).2≠0 then(pH,(eS p vars e).2)else((eS p vars e).1,0)
def be (taken:List ByteArray) (s:ByteArray):Int:=if ¬gk s then 7 else if s∈taken then 8 else 0
def cq (sizes:List ByteArray) (l:bU):Int:=if ¬bn l.2 then 1 else if ¬fU [] sizes l then 9 else 0
def gH (sizes taken:List ByteArray) (x:su):Int:=
 if be taken x.1≠0 then be taken x.1 else if ¬uz x.2.1 then 10 else if 6<x.2.2.length then 11 else dV (x.2.2.map (cq sizes))
def cK (sizes:List ByteArray):List ByteArray→List dW→Int
 |_, []=>0
 |taken,a::r=>if be taken a.1≠0 then be taken a.1 else if cq sizes a.2≠0 then cq sizes a.2 else cK sizes (taken++ [a.1]) r
def oF (d:y5):Int:=if d.fold<0∨5<d.fold then 1 else if((d.fold=0∨d.fold=5)↔d.red.length=0)∧ ¬(d.fold=5∧d.dims.length=0)then 0 else 11
def dE (p:bz) (k:Nat) (taken:List ByteArray) (d:y5):Int:=
 if be taken d.name≠0 then be taken d.name else if ¬uz d.ty then 10 else if 6<d.dims.length∨6<d.red.length then 11
 else if cK p.sizes p.sizes (d.dims++d.red)≠0 then cK p.sizes p.sizes (d.dims++d.red)else if oF d≠0 then oF d
 else if(du {p with wher:= [],defs:=p.defs.take k,outs:= []} (bX d) d.body).2≠0 then(du {p with wher:= [],defs:=p.defs.take k,outs:= []} (bX d) d.body).2
 else if(du {p with wher:= [],defs:=p.defs.take k,outs:= []} (bX d) d.body).1≠d.ty then 10 else 0
section
variable {p : bz} {vars : List ByteArray}
theorem rF: ∀(l r:List Ex),d5 p vars (l++r)=match d5 p vars l with
  | .inl err=> .inl err
  |.inr a=>match d5 p vars r with
   | .inl err=> .inl err
   | .inr b=> .inr (a++b)
 |[],r=>by
  simp only[List.nil_append,d5]
  cases d5 p vars r<;>rfl
 |e::l,r=>by
  simp only[List.cons_append,d5]
  by_cases h:(eS p vars e).2=0
  ·rw[if_neg (not_not_intro h),if_neg (not_not_intro h),rF l r]
   cases d5 p vars l with
   |inl x=>rfl
   |inr a=>cases d5 p vars r<;>rfl
  ·rw[if_pos h,if_pos h]
theorem NL {l:List Ex} {k:Nat} {ts:List Ty} (h:k<l.length) (hk:d5 p vars (l.take k)= .inr ts) (h0:(eS p vars l[k]).2=0):d5 p vars (l.take (k+1))= .inr (ts++ [(eS p vars l[k]).1]):=by
 rw[List.take_succ_eq_append_getElem h,rF,hk]
 simp only[d5]
 rw[if_neg (not_not_intro h0)]
theorem MD {l:List Ex} {k:Nat} {ts:List Ty} (h:k<l.length) (hk:d5 p vars (l.take k)= .inr ts) (h0:(eS p vars l[k]).2≠0):d5 p vars l= .inl (eS p vars l[k]).2:=by
 have e:d5 p vars (l.take k++(l[k]::l.drop (k+1)))= .inl (eS p vars l[k]).2:=by
  rw[rF,hk]
  simp only[d5]
  rw[if_pos h0]
 rw[←List.drop_eq_getElem_cons h,List.take_append_drop]at e
 exact e
theorem A6: ∀{l:List Ex} {ts:List Ty},d5 p vars l= .inr ts→ts.length=l.length
 | [],ts,h=>by cases h;rfl
 |e::l,ts,h=>by
  simp only[d5]at h
  split at h
  ·cases h
  ·split at h
   ·cases h
   ·rename_i l' hl
    cases h
    simp[A6 hl]
end
theorem S7 {a b:Ty} (h:a.1=b.1∧a.2.1=b.2.1∧a.2.2.1=b.2.2.1∧a.2.2.2.1=b.2.2.2.1∧a.2.2.2.2=b.2.2.2.2):a=b:=by
 obtain⟨a1,a2,a3,a4,a5⟩:=a
 obtain⟨b1,b2,b3,b4,b5⟩:=b
 simp_all
def lX (e:Ex):Prop:= ∀a∈e.pre,(a.args.length:Int)=nG a.op∧1≤a.op∧a.op≤18∧a.idx.length≤6∧ ∀x∈a.idx,x.2.2.length≤6
theorem gN: ∀{l:List Int},dV l=0→ ∀x∈l,x=0
 |y::r,h,x,hx=>by
  simp only[dV]at h
  split at h
  ·exact absurd h ‹_›
  ·rcases List.mem_cons.1 hx with rfl|hx
   ·exact Classical.not_not.1 ‹_›
   ·exact gN h x hx
theorem vU {e:Ex} (h:jC e=0):lX e:=by
 unfold jC at h
 split at h
 ·cases h
 ·split at h
  ·cases h
  ·intro a ha
   have:=iO (gN h _ (List.mem_map_of_mem ha))
   exact⟨this.2.2.1.1,this.1.1.1,this.1.1.2,this.2.2.1.2.1,this.2.2.1.2.2⟩
theorem nU {e a:Ex} (h:lX e) (ha:a∈e.args):lX a:= λb hb=>h b (by
 rw[Ex.pre_eq]
 refine List.mem_cons_of_mem _ ?_
 clear h
 generalize e.args=l at ha
 induction l with
 |nil=>cases ha
 |cons x r ihr=>
  rw[Ex.pres]
  rcases List.mem_cons.1 ha with rfl|ha
  ·exact List.mem_append_left _ hb
  ·exact List.mem_append_right _ (ihr ha))
theorem jk {e:Ex} (h:lX e):(e.args.length:Int)=nG e.op∧1≤e.op∧e.op≤18∧e.idx.length≤6∧ ∀x∈e.idx,x.2.2.length≤6:=h e (by rw[Ex.pre_eq];exact List.mem_cons_self)
theorem La {o:Int} (h1:1≤o) (h2:o≤18):((o=1∨o=2∨o=3)∧nG o=0)∨((o=8∨o=12∨o=18)∧nG o=1)∨(o=11∧nG o=3)∨((o=13∨o=14∨o=15)∧nG o=2)∨((o=16∨o=17)∧nG o=2)∨((4≤o∧o≤10∧o≠8)∧nG o=2):=by
 unfold nG
 have:o=1∨o=2∨o=3∨o=4∨o=5∨o=6∨o=7∨o=8∨o=9∨o=10∨o=11∨o=12∨o=13∨o=14∨o=15∨o=16∨o=17∨o=18:=by omega
 rcases this with rfl|rfl|rfl|rfl|rfl|rfl|rfl|rfl|rfl|rfl|rfl|rfl|rfl|rfl|rfl|rfl|rfl|rfl<;>simp
theorem abx {l:List Ty} (h:l.length=1): ∃a,l= [a]:=by match l,h with| [a],_=>exact⟨a,rfl⟩
theorem aac {l:List Ty} (h:l.length=2): ∃a b,l= [a,b]:=by match l,h with| [a,b],_=>exact⟨a,b,rfl⟩
theorem abO {l:List Ty} (h:l.length=3): ∃a b c,l= [a,b,c]:=by match l,h with| [a,b,c],_=>exact⟨a,b,c,rfl⟩
def EK:Int→List Int→Option (Int×Int)
 |_, []=>none
 |at',x::r=>if x≠0 then some (at',x)else EK (at'+1) r
theorem Q2 {l:List Int}: ∀{a:Int},(∀x∈l,x=0)→EK a l=none:=by
 induction l with
 |nil=>intro a _;rfl
 |cons x r ih=>
  intro a h
  rw[EK,if_neg (not_not_intro (h x List.mem_cons_self))]
  exact ih λy hy=>h y (List.mem_cons_of_mem _ hy)
theorem Wc {l:List Int}: ∀{a:Int} {k:Nat} (hk:k<l.length),(∀j (h:j<k),l[j]'(by omega)=0)→l[k]≠0→EK a l=some (a+k,l[k]):=by
 induction l with
 |nil=>intro a k hk;simp at hk
 |cons x r ih=>
  intro a k hk h1 h2
  cases k with
  |zero=>
   rw[EK,if_pos (by simpa using h2)]
   simp
  |succ k=>
   rw[EK,if_neg (not_not_intro (show x=0 from h1 0 (by omega)))]
   rw[ih (k:=k) (by simpa using hk) (λj hj=>h1 (j+1) (by omega)) (by simpa using h2)]
   simp
   omega
theorem m0 {n k:Nat} {f:Nat→Int} (h:k<((List.range n).map f).length):((List.range n).map f)[k]=f k:=by simp
theorem kE {n:Nat} {f:Nat→Int} {a:Int} (h: ∀j,j<n→f j=0):EK a ((List.range n).map f)=none:=Q2 λx hx=>by
 obtain⟨j,hj,rfl⟩:=List.mem_map.1 hx
 exact h j (List.mem_range.1 hj)
theorem ro {n k:Nat} {f:Nat→Int} {a:Int} (hk:k<n) (h: ∀j,j<k→f j=0) (h2:f k≠0):EK a ((List.range n).map f)=some (a+k,f k):=by
 have:=Wc (l:=(List.range n).map f) (a:=a) (k:=k) (by simpa using hk) (λj hj=>by rw[m0];exact h j hj) (by rw[m0];exact h2)
 rw[this,m0]
def vn (p:bz) (k:Nat):List ByteArray:=p.sizes++(p.params.take k).map (·.1)
def rW (p:bz) (k:Nat):List ByteArray:=p.sizes++p.params.map (·.1)++(p.defs.take k).map (·.name)
def V4 (p:bz) (k:Nat):Int:=match p.sizes[k]? with
 |some s=>be (p.sizes.take k) s
 |none=>0
def CG (p:bz) (k:Nat):Int:=match p.params[k]? with
 |some x=>gH p.sizes (vn p k) x
 |none=>0
def Aj (p:bz) (k:Nat):Int:=match p.defs[k]? with
 |some d=>dE p k (rW p k) d
 |none=>0
def MT (p:bz) (k:Nat):Int:=match p.outs[k]? with
 |some s=>if dJ p s=none then 9 else if s∈p.outs.take k then 8 else 0
 |none=>0
def oC (p:bz):Prop:=p.sizes.length≤64∧p.params.length≤64∧p.defs.length≤64∧p.outs.length≤64∧p.wher.length≤256
instance (p:bz):Decidable (oC p):=inferInstanceAs (Decidable (_∧_))
def oB (p:bz):Int:=dV ((List.range p.sizes.length).map (V4 p))
def uo (p:bz):Int:=dV (p.wher.map λc=>cq p.sizes c.1)
def bB (p:bz):Int×Int:=
 if ¬oC p then(0,2)else if oB p≠0 then(0,oB p)else if uo p≠0 then(1,uo p)
 else match EK 2 ((List.range p.params.length).map (CG p))with
 |some r=>r
 |none=>match EK (2+p.params.length) ((List.range p.defs.length).map (Aj p))with
  |some r=>r
  |none=>match EK (2+p.params.length+p.defs.length) ((List.range p.outs.length).map (MT p))with
   |some r=>r
   |none=>(0,0)
section
variable {p : bz}
theorem Eu (h: ¬oC p):bB p=(0,2):=if_pos h
theorem Ad (h:oC p) {x:Int} (h1:oB p=x) (hx:x≠0):bB p=(0,x):=by
 unfold bB
 rw[if_neg (not_not_intro h),h1,if_pos hx]
theorem Ay (h:oC p) (h1:oB p=0) {x:Int} (h2:uo p=x) (hx:x≠0):bB p=(1,x):=by
 unfold bB
 rw[if_neg (not_not_intro h),if_neg (not_not_intro h1),h2,if_pos hx]
theorem FU (h:oC p) (h1:oB p=0) (h2:uo p=0) {k:Nat} (hk:k<p.params.length) (h3: ∀j,j<k→CG p j=0) {x:Int} (h4:CG p k=x) (hx:x≠0):bB p=((2:Int)+k,x):=by
 unfold bB
 rw[if_neg (not_not_intro h),if_neg (not_not_intro h1),if_neg (not_not_intro h2),ro hk h3 (by rw[h4];exact hx),h4]
theorem EN (h:oC p) (h1:oB p=0) (h2:uo p=0) (h3: ∀j,j<p.params.length→CG p j=0) {k:Nat} (hk:k<p.defs.length) (h4: ∀j,j<k→Aj p j=0) {x:Int} (h5:Aj p k=x) (hx:x≠0):bB p=((2:Int)+p.params.length+k,x):=by
 unfold bB
 rw[if_neg (not_not_intro h),if_neg (not_not_intro h1),if_neg (not_not_intro h2),kE h3]
 simp only
 rw[ro hk h4 (by rw[h5];exact hx),h5]
theorem DA (h:oC p) (h1:oB p=0) (h2:uo p=0) (h3: ∀j,j<p.params.length→CG p j=0) (h4: ∀j,j<p.defs.length→Aj p j=0) {k:Nat} (hk:k<p.outs.length) (h5: ∀j,j<k→MT p j=0) {x:Int} (h6:MT p k=x) (hx:x≠0):
  bB p=((2:Int)+p.params.length+p.defs.length+k,x):=by
 unfold bB
 rw[if_neg (not_not_intro h),if_neg (not_not_intro h1),if_neg (not_not_intro h2),kE h3]
 simp only
 rw[kE h4]
 simp only
 rw[ro hk h5 (by rw[h6];exact hx),h6]
theorem Iv (h:oC p) (h1:oB p=0) (h2:uo p=0) (h3: ∀j,j<p.params.length→CG p j=0) (h4: ∀j,j<p.defs.length→Aj p j=0) (h5: ∀j,j<p.outs.length→MT p j=0):bB p=(0,0):=by
 unfold bB
 rw[if_neg (not_not_intro h),if_neg (not_not_intro h1),if_neg (not_not_intro h2),kE h3]
 simp only
 rw[kE h4]
 simp only
 rw[kE h5]
theorem Vr {k:Nat} (h:k<p.sizes.length):V4 p k=be (p.sizes.take k) p.sizes[k]:=by
 unfold V4
 rw[List.getElem?_eq_getElem h]
theorem PY {k:Nat} (h:k<p.params.length):CG p k=gH p.sizes (vn p k) p.params[k]:=by
 unfold CG
 rw[List.getElem?_eq_getElem h]
theorem Dh {k:Nat} (h:k<p.defs.length):Aj p k=dE p k (rW p k) p.defs[k]:=by
 unfold Aj
 rw[List.getElem?_eq_getElem h]
theorem O3 {k:Nat} (h:k<p.outs.length):MT p k=if dJ p p.outs[k]=none then 9 else if p.outs[k]∈p.outs.take k then 8 else 0:=by
 unfold MT
 rw[List.getElem?_eq_getElem h]
theorem Kq (h: ∀j,j<p.sizes.length→V4 p j=0):oB p=0:=by
 have key: ∀l:List Int,(∀x∈l,x=0)→dV l=0:=by
  intro l
  induction l with
  |nil=>intro _;rfl
  |cons x r ih=>
   intro h
   rw[dV,if_neg (not_not_intro (h x List.mem_cons_self))]
   exact ih λy hy=>h y (List.mem_cons_of_mem _ hy)
 exact key _ λx hx=>by
  obtain⟨j,hj,rfl⟩:=List.mem_map.1 hx
  exact h j (List.mem_range.1 hj)
theorem UY {k:Nat} (hk:k<p.sizes.length) (h: ∀j,j<k→V4 p j=0) {x:Int} (h2:V4 p k=x) (hx:x≠0):oB p=x:=by
 have hl:k<((List.range p.sizes.length).map (V4 p)).length:=by simpa using hk
 have h0:dV (((List.range p.sizes.length).map (V4 p)).take k)=0:=by
  have key: ∀l:List Int,(∀x∈l,x=0)→dV l=0:=by
   intro l
   induction l with
   |nil=>intro _;rfl
   |cons x r ih=>
    intro h
    rw[dV,if_neg (not_not_intro (h x List.mem_cons_self))]
    exact ih λy hy=>h y (List.mem_cons_of_mem _ hy)
  refine key _ λx hx=> ?_
  obtain⟨j,hj,rfl⟩:=List.mem_iff_getElem.1 hx
  rw[List.getElem_take,m0]
  exact h j (by simp at hj;omega)
 have:=uL hl h0 (by rw[m0,h2];exact hx)
 unfold oB
 rw[this,m0,h2]
end
def fe (p:bz) (k:Nat):bz:={p with wher:= [],defs:=p.defs.take k,outs:= []}
theorem Lw {p:bz} (h:rI p) (k:Nat):rI (fe p k):=⟨h.1,λd hd=>h.2 d (List.mem_of_mem_take hd)⟩
def tP (p:bz):Prop:= ∀d∈p.defs,∀a∈d.body.pre,GC a.val
abbrev KL:=List (ByteArray×Int)
def Dk (K:KL):List (MK×List PC):=K.map λx=>(MK.str x.1.data.toList, [pI x.2])
def kb (K:KL):List (MK×List AC):=K.map λx=>(MK.str x.1.data.toList, [.pure (pI x.2)])
def jF:KL→ByteArray→Option Int
 | [],_=>none
 |(a,k)::r,s=>if a=s then some k else jF r s
def vj:KL→ByteArray→Int→KL
 | [],s,k=> [(s,k)]
 |(a,j)::r,s,k=>if a=s then(s,k)::r else(a,j)::vj r s k
def s8 (K:KL) (s:ByteArray):Int:=(jF K s).getD 0
theorem yf {a s:ByteArray}:(MK.str a.data.toList=MK.str s.data.toList)↔a=s:=by
 constructor
 ·intro h
  have h1:a.data.toList=s.data.toList:=by injection h
  obtain⟨⟨a⟩⟩:=a
  obtain⟨⟨s⟩⟩:=s
  simp only at h1
  rw[h1]
 ·intro h;rw[h]
theorem FY (K:KL):pE (Dk K)=kb K:=by simp[pE,Dk,kb,List.map_map,Function.comp_def]
theorem rQ (s:ByteArray): ∀K:KL,iy (kb K) (.str s.data.toList)=(jF K s).map λk=> [.pure (pI k)]
 | []=>rfl
 |(a,k)::r=>by
  have ih:=rQ s r
  simp only[kb,List.map_cons,iy,jF]at ih ⊢
  by_cases h:a=s
  ·rw[if_pos (yf.2 h),if_pos h];rfl
  ·rw[if_neg (λe=>h (yf.1 e)),if_neg h,ih]
theorem OX {mem:List (Nat×aU)}: ∀K:KL,mC mem none (kb K)=some (Dk K)
 | []=>rfl
 |x::r=>by
  have ih:=OX (mem:=mem) r
  simp only[kb,Dk,List.map_cons,mC,pC,cz]at ih ⊢
  rw[ih]
theorem JR (s:ByteArray) (k:Int): ∀K:KL,Bk (kb K) (.str s.data.toList) [.pure (pI k)]=kb (vj K s k)
 | []=>rfl
 |(a,j)::r=>by
  have ih:=JR s k r
  simp only[kb,List.map_cons,Bk,vj]at ih ⊢
  by_cases h:a=s
  ·rw[if_pos (yf.2 h),if_pos h];rfl
  ·rw[if_neg (λe=>h (yf.1 e)),if_neg h,ih];rfl
theorem RG (K:KL) (s s':ByteArray) (k:Int):jF (vj K s k) s'=if s=s' then some k else jF K s':=by
 induction K with
 |nil=>simp[vj,jF]
 |cons x r ih=>
  obtain⟨a,j⟩:=x
  simp only[vj]
  by_cases h:a=s
  ·subst h
   rw[if_pos rfl]
   simp only[jF]
   by_cases h2:a=s'<;>simp[h2]
  ·rw[if_neg h]
   simp only[jF,ih]
   by_cases h2:a=s'
   ·subst h2
    rw[if_pos rfl,if_neg (λe=>h e.symm),if_pos rfl]
   ·rw[if_neg h2,if_neg h2]
theorem E7 (K:KL) (s s':ByteArray) (k:Int):s8 (vj K s k) s'=if s=s' then k else s8 K s':=by
 unfold s8
 rw[RG]
 split<;>rfl
theorem Dp (s:ByteArray):s8 [] s=0:=rfl
theorem iY {K:KL} {s:ByteArray} {k:Int} (h:jF K s=some k):s8 K s=k:=by unfold s8;rw[h];rfl
theorem nw {K:KL} {s:ByteArray} (h:jF K s=none):s8 K s=0:=by unfold s8;rw[h];rfl
def kZ (K:KL) (k:Int):List ByteArray→KL
 | []=>K
 |s::r=>kZ (vj K s k) k r
theorem FQ (k:Int): ∀(l r:List ByteArray) (K:KL),kZ K k (l++r)=kZ (kZ K k l) k r
 | [],r,K=>rfl
 |s::l,r,K=>by
  simp only[List.cons_append,kZ]
  exact FQ k l r _
theorem AK {K:KL} {k:Int} {l:List ByteArray} {i:Nat} (h:i<l.length):kZ K k (l.take (i+1))=vj (kZ K k (l.take i)) l[i] k:=by
 rw[List.take_succ_eq_append_getElem h,FQ]
 rfl
theorem qR {k:Int} (s:ByteArray): ∀(l:List ByteArray) (K:KL),s8 (kZ K k l) s=if s∈l then k else s8 K s
 | [],K=>by simp[kZ]
 |a::l,K=>by
  rw[kZ,qR s l,E7]
  by_cases h:s∈l
  ·rw[if_pos h,if_pos (List.mem_cons_of_mem _ h)]
  ·rw[if_neg h]
   by_cases h2:a=s
   ·rw[if_pos h2,if_pos (by rw[h2];exact List.mem_cons_self)]
   ·rw[if_neg h2,if_neg]
    intro hm
    rcases List.mem_cons.1 hm with rfl|hm
    ·exact h2 rfl
    ·exact h hm
end
end Go.Proofs.YthbcbaembicdbaaGreatDoor
