import Derived.Test.YtiapgekjmcjjgaaGreatDoorV12a
set_option linter.unusedVariables false
set_option linter.unusedSimpArgs false
namespace Go.Proofs.YtiapgekjmcjjgaaGreatDoor
open Go.Abs Go.RowKit
noncomputable section
abbrev Ix:=bW×ByteArray×List bW
def b9 (l:bW):List PC:= [pI l.1,ay l.2]
def eR (x:Ix):List PC:= [pI x.1.1,ay x.1.2,pS x.2.1,dp b9 x.2.2]
abbrev VQ (x:Ix):AV:= .agg [.pure (pI x.1.1),.pure (ay x.1.2),.pure (pS x.2.1),.pure (dp b9 x.2.2)]
inductive Ex where
 |mk (op:Int) (name:ByteArray) (val:Fr) (ty:Ty) (lin:bW) (idx:List Ix) (args:List Ex)
namespace Ex
def op:Ex→Int| .mk o _ _ _ _ _ _=>o
def name:Ex→ByteArray| .mk _ s _ _ _ _ _=>s
def val:Ex→Fr| .mk _ _ v _ _ _ _=>v
def ty:Ex→Ty| .mk _ _ _ t _ _ _=>t
def lin:Ex→bW| .mk _ _ _ _ l _ _=>l
def idx:Ex→List Ix| .mk _ _ _ _ _ x _=>x
def args:Ex→List Ex| .mk _ _ _ _ _ _ a=>a
mutual
def row:Ex→List PC
 | .mk op name val ty lin idx args=> [pI op,pS name,pI val.1,pI val.2,pI ty.1,pI ty.2.1,pI ty.2.2.1,pI ty.2.2.2.1,pI ty.2.2.2.2,pI lin.1,ay lin.2,dp eR idx,.slice (rows args)]
def rows:List Ex→List (List PC)
 | []=> []
 |e::r=>row e::rows r
end
theorem Lx: ∀l:List Ex,rows l=l.map row
 | []=>by rw[rows];rfl
 |e::r=>by rw[rows,Lx r];rfl
theorem row_eq (e:Ex):e.row= [pI e.op,pS e.name,pI e.val.1,pI e.val.2,pI e.ty.1,pI e.ty.2.1,pI e.ty.2.2.1,pI e.ty.2.2.2.1,pI e.ty.2.2.2.2,pI e.lin.1,ay e.lin.2,dp eR e.idx,.slice (e.args.map row)]:=by
 obtain⟨op,name,val,ty,lin,idx,args⟩:=e
 rw[row,Lx]
 rfl
mutual
def dep:Ex→Nat
 | .mk _ _ _ _ _ _ args=>1+deps args
def deps:List Ex→Nat
 | []=>0
 |e::r=>max (dep e) (deps r)
end
mutual
def sz:Ex→Nat
 | .mk _ _ _ _ _ _ args=>1+szs args
def szs:List Ex→Nat
 | []=>0
 |e::r=>sz e+szs r
end
mutual
def pre:Ex→List Ex
 | .mk op name val ty lin idx args=> .mk op name val ty lin idx args::pres args
def pres:List Ex→List Ex
 | []=> []
 |e::r=>pre e++pres r
end
theorem dep_eq (e:Ex):e.dep=1+deps e.args:=by cases e;rw[dep];rfl
theorem sz_eq (e:Ex):e.sz=1+szs e.args:=by cases e;rw[sz];rfl
theorem pre_eq (e:Ex):e.pre=e::pres e.args:=by cases e;rw[pre];rfl
theorem My {e a:Ex} (h:a∈e.args):SizeOf.sizeOf a<SizeOf.sizeOf e:=by
 obtain⟨op,name,val,ty,lin,idx,args⟩:=e
 have:=List.sizeOf_lt_of_mem (show a∈args from h)
 simp only[mk.sizeOf_spec]
 omega
theorem ind {p:Ex→Prop} (h: ∀e:Ex,(∀a∈e.args,p a)→p e): ∀e:Ex,p e:=by
 have key: ∀(n:Nat) (e:Ex),SizeOf.sizeOf e<n→p e:=by
  intro n
  induction n with
  |zero=>intro e he;omega
  |succ n ih=>exact λe he=>h e λa ha=>ih a (by have:=My ha;omega)
 exact λe=>key _ e (Nat.lt_succ_self _)
theorem dep_pos (e:Ex):1≤e.dep:=by rw[dep_eq];omega
theorem deps_take: ∀{l:List Ex} {k:Nat} (h:k<l.length),deps (l.take (k+1))=max (deps (l.take k)) (l[k].dep)
 |e::r,0,h=>by simp[deps]
 |e::r,k+1,h=>by
  have:=deps_take (l:=r) (k:=k) (by simpa using h)
  simp only[List.take_succ_cons,deps,this,List.getElem_cons_succ]
  omega
theorem szs_append: ∀(l r:List Ex),szs (l++r)=szs l+szs r
 | [],r=>by simp[szs]
 |e::l,r=>by simp only[List.cons_append,szs,szs_append l r];omega
theorem szs_take {l:List Ex} {k:Nat} (h:k<l.length):szs (l.take (k+1))=szs (l.take k)+l[k].sz:=by
 rw[List.take_succ_eq_append_getElem h,szs_append]
 simp[szs]
theorem pres_append: ∀(l r:List Ex),pres (l++r)=pres l++pres r
 | [],r=>by simp[pres]
 |e::l,r=>by simp only[List.cons_append,pres,pres_append l r,List.append_assoc]
theorem pres_take {l:List Ex} {k:Nat} (h:k<l.length):pres (l.take (k+1))=pres (l.take k)++l[k].pre:=by
 rw[List.take_succ_eq_append_getElem h,pres_append]
 simp[pres]
theorem pres_length: ∀{l:List Ex},(∀a∈l,a.pre.length=a.sz)→(pres l).length=szs l
 | [],_=>by simp[pres,szs]
 |e::r,h=>by rw[pres,szs,List.length_append,h e List.mem_cons_self,pres_length λa ha=>h a (List.mem_cons_of_mem _ ha)]
theorem pre_length (e:Ex):e.pre.length=e.sz:=by
 refine ind (p:= λe=>e.pre.length=e.sz) (λe ih=> ?_) e
 rw[pre_eq,sz_eq,List.length_cons,pres_length ih]
 omega
theorem sz_pos (e:Ex):1≤e.sz:=by rw[sz_eq];omega
theorem szs_len: ∀l:List Ex,l.length≤szs l
 | []=>by simp
 |e::r=>by have:=szs_len r;have:=sz_pos e;rw[szs,List.length_cons];omega
end Ex
abbrev fE (e:Ex):AV:= .agg [.pure (pI e.op),.pure (pS e.name),.pure (pI e.val.1),.pure (pI e.val.2),.pure (pI e.ty.1),.pure (pI e.ty.2.1),.pure (pI e.ty.2.2.1),.pure (pI e.ty.2.2.2.1),.pure (pI e.ty.2.2.2.2),.pure (pI e.lin.1),.pure (ay e.lin.2),.pure (dp eR e.idx),.pure (.slice (e.args.map Ex.row))]
theorem BD {b:Bool} {p:Prop} [Decidable p] (h:b=true↔p):AV.c (.pure (.val (.bool b)))=Go.Abs.B (decide p):=by
 have:b=decide p:=by by_cases hp:p<;>simp_all
 rw[this]
theorem IE {a b:Int} (h:a=b):AV.c (.pure (.val (.int .i64 a)))=I b:=by rw[h]
theorem xP {p:Prop}:wA p=true↔p:=⟨λh=>Classical.byContradiction (λhn=>(by rw[jz hn]at h;cases h)),l9⟩
theorem yB {p:Prop}:wA p=false↔ ¬p:=⟨λh hp=>(by rw[l9 hp]at h;cases h),jz⟩
theorem BC {b:Bool} {p:Prop} (h:b=true↔p):AV.c (.pure (.val (.bool b)))=Go.Abs.B (wA p):=by
 have:b=wA p:=by
  by_cases hp:p
  ·rw[l9 hp,h.2 hp]
  ·rw[jz hp];exact Bool.eq_false_iff.2 λe=>hp (h.1 e)
 rw[this]
def kj (o:Int):Prop:=13≤o∧o≤18
instance (o:Int):Decidable (kj o):=inferInstanceAs (Decidable (_∧_))
def iW (o:Int):Int:=if o=1∨o=2∨o=3 then 0 else if o=8∨o=12∨o=18 then 1 else if o=11 then 3 else 2
def qx (o:Int) (i:Nat):Prop:=o=16∨o=17∨o=18∨(o=11∧i=0)
instance (o:Int) (i:Nat):Decidable (qx o i):=inferInstanceAs (Decidable (_∨_))
def Bn (l:bW):Prop:=l.1=0∧l.2.length=0
instance (l:bW):Decidable (Bn l):=inferInstanceAs (Decidable (_∧_))
def Iw (x:Ix):Prop:=(x.2.1=⟨⟨[]⟩⟩→x.2.2.length=0)∧(x.2.1≠⟨⟨[]⟩⟩→Bn x.1)
instance (x:Ix):Decidable (Iw x):=Classical.propDecidable _
def nK (e:Ex):Prop:=(1≤e.op∧e.op≤18)∧(e.op≠1→e.val.1=0∧e.val.2=0)∧(e.op≠1→e.op≠12→e.ty.1=0∧e.ty.2.1=0∧e.ty.2.2.1=0∧e.ty.2.2.2.1=0∧e.ty.2.2.2.2=0)∧
 (e.op≠2→Bn e.lin)∧(e.op≠3→e.name=⟨⟨[]⟩⟩∧e.idx.length=0)∧ ∀x∈e.idx,Iw x
def rv (e:Ex):Prop:=(e.op=3→fW e.name)∧ ∀x∈e.idx,x.2.1≠⟨⟨[]⟩⟩→fW x.2.1
def rt (e:Ex):Prop:=(e.args.length:Int)=iW e.op∧e.idx.length≤6∧ ∀x∈e.idx,x.2.2.length≤6
def lB (e:Ex):Prop:=((e.op=1∨e.op=12)→kU e.ty)∧ ∀(i:Nat) (h:i<e.args.length),kj e.args[i].op↔qx e.op i
def Ex.forms (e:Ex):List bW:=e.lin::e.idx.flatMap λx=>x.1::x.2.2
def rc (e:Ex):Prop:=(e.op=1→fR e.ty e.val)∧ ∀l∈e.forms,aI l.2
instance (e:Ex):Decidable (nK e):=Classical.propDecidable _
instance (e:Ex):Decidable (rv e):=Classical.propDecidable _
instance (e:Ex):Decidable (rt e):=Classical.propDecidable _
instance (e:Ex):Decidable (lB e):=Classical.propDecidable _
instance (e:Ex):Decidable (rc e):=Classical.propDecidable _
def bf (e:Ex):Int:=if ¬nK e then 5 else if ¬rv e then 7 else if ¬rt e then 11 else if ¬lB e then 10 else if ¬rc e then 1 else 0
def de:List Int→Int
 | []=>0
 |x::r=>if x≠0 then x else de r
theorem jQ: ∀(l r:List Int),de (l++r)=if de l≠0 then de l else de r
 | [],r=>by simp[de]
 |x::l,r=>by
  simp only[List.cons_append,de,jQ l r]
  by_cases h:x=0<;>simp[h]
theorem ix {l:List Int} {k:Nat} (h:k<l.length) (hf:de (l.take k)=0):de (l.take (k+1))=l[k]:=by
 rw[List.take_succ_eq_append_getElem h,jQ,if_neg (by rw[hf];simp)]
 simp only[de]
 split<;>simp_all
theorem lY {l:List Int} {k:Nat} (h:k<l.length) (hf:de (l.take k)=0) (hp:l[k]≠0):de l=l[k]:=by
 have key:de (l.take (k+1)++l.drop (k+1))=l[k]:=by rw[jQ,ix h hf,if_pos hp]
 rw[List.take_append_drop]at key
 exact key
def i5 (e:Ex):Int:=de (e.pre.map bf)
def gG (e:Ex):Int:=if 40<e.dep then 13 else if 2000<e.sz then 2 else i5 e
theorem JF (e:Ex):i5 e=if bf e≠0 then bf e else de ((Ex.pres e.args).map bf):=by
 rw[i5,Ex.pre_eq,List.map_cons,de]
theorem iw {e:Ex} (h:bf e=0):nK e∧rv e∧rt e∧lB e∧rc e:=by
 unfold bf at h
 repeat' split at h
 all_goals first
  |(simp at h;done)
  |simp_all
def oY {α:Type} (p:α→Prop) (xs:List α):Int:=match xs.findIdx? (λx=>wA (p x))with
 |some k=>k
 |none=> -1
theorem AH {α:Type} {p:α→Prop} {xs:List α} {k:Nat} (hk:k<xs.length) (h:p xs[k]) (hn: ∀j (hj:j<k),¬p (xs[j]'(by omega))):oY p xs=k:=by
 have:xs.findIdx? (λx=>wA (p x))=some k:=by
  rw[List.findIdx?_eq_some_iff_getElem]
  exact⟨hk,l9 h,λj hj=>by simp[jz (hn j hj)]⟩
 rw[oY,this]
theorem tZ {α:Type} {p:α→Prop} {xs:List α} (hn: ∀j (hj:j<xs.length),¬p xs[j]):oY p xs= -1:=by
 have:xs.findIdx? (λx=>wA (p x))=none:=by
  rw[List.findIdx?_eq_none_iff]
  intro x hx
  obtain⟨j,hj,rfl⟩:=List.mem_iff_getElem.1 hx
  exact jz (hn j hj)
 rw[oY,this]
theorem xn {α:Type} (p:α→Prop) (xs:List α):(oY p xs= -1∧ ∀x∈xs,¬p x)∨ ∃k,∃h:k<xs.length,oY p xs=k∧p xs[k]∧ ∀j (hj:j<k),¬p (xs[j]'(by omega)):=by
 unfold oY
 cases e:xs.findIdx? (λx=>wA (p x))with
 |none=>
  rw[List.findIdx?_eq_none_iff]at e
  refine .inl ⟨rfl,λx hx h=> ?_⟩
  have:=e x hx
  rw[l9 h]at this
  cases this
 |some k=>
  rw[List.findIdx?_eq_some_iff_getElem]at e
  obtain⟨hk,h1,h2⟩:=e
  refine .inr ⟨k,hk,rfl, ?_,λj hj h=> ?_⟩
  ·exact Classical.byContradiction λhn=>by rw[jz hn]at h1;cases h1
  ·have:=h2 j hj
   rw[l9 h]at this
   simp at this
theorem Hr {α:Type} {p:α→Prop} {xs:List α}:0≤oY p xs↔ ∃x∈xs,p x:=by
 rcases xn p xs with⟨h1,h2⟩|⟨k,hk,h1,h2,_⟩
 ·rw[h1]
  exact⟨λh=>by omega,λ⟨x,hx,h⟩=>absurd h (h2 x hx)⟩
 ·rw[h1]
  exact⟨λ_=>⟨_,List.getElem_mem hk,h2⟩,λ_=>by omega⟩
open Go.Abs Go.RowKit
abbrev gU:=ByteArray×bW
def fg (a:gU):List PC:= [pS a.1,pI a.2.1,ay a.2.2]
abbrev nP:=ByteArray×Ty×List bW
def gR (x:nP):List PC:= [pS x.1,pI x.2.1.1,pI x.2.1.2.1,pI x.2.1.2.2.1,pI x.2.1.2.2.2.1,pI x.2.1.2.2.2.2,dp b9 x.2.2]
structure uu where
 name:ByteArray
 ty:Ty
 dims:List gU
 red:List gU
 fold:Int
 body:Ex
def di (d:uu):List PC:= [pS d.name,pI d.ty.1,pI d.ty.2.1,pI d.ty.2.2.1,pI d.ty.2.2.2.1,pI d.ty.2.2.2.2,dp fg d.dims,dp fg d.red,pI d.fold,pI d.body.op,pS d.body.name,pI d.body.val.1,pI d.body.val.2,pI d.body.ty.1,pI d.body.ty.2.1,pI d.body.ty.2.2.1,pI d.body.ty.2.2.2.1,pI d.body.ty.2.2.2.2,pI d.body.lin.1,ay d.body.lin.2,dp eR d.body.idx,.slice (d.body.args.map Ex.row)]
structure bG where
 sizes:List ByteArray
 wher:List aU
 params:List nP
 defs:List uu
 outs:List ByteArray
abbrev c7 (l:List ByteArray):PC:=dp (λs=> [pS s]) l
abbrev gy (p:bG):AV:= .agg [.pure (c7 p.sizes),.pure (dp cP p.wher),.pure (dp gR p.params),.pure (dp di p.defs),.pure (c7 p.outs)]
abbrev eJ (p:bG):bk:= .var [.pure (c7 p.sizes),.pure (dp cP p.wher),.pure (dp gR p.params),.pure (dp di p.defs),.pure (c7 p.outs)]
abbrev Ia (d:uu):AV:= .agg [.pure (pS d.name),.pure (pI d.ty.1),.pure (pI d.ty.2.1),.pure (pI d.ty.2.2.1),.pure (pI d.ty.2.2.2.1),.pure (pI d.ty.2.2.2.2),.pure (dp fg d.dims),.pure (dp fg d.red),.pure (pI d.fold),.pure (pI d.body.op),.pure (pS d.body.name),.pure (pI d.body.val.1),.pure (pI d.body.val.2),.pure (pI d.body.ty.1),.pure (pI d.body.ty.2.1),.pure (pI d.body.ty.2.2.1),.pure (pI d.body.ty.2.2.2.1),.pure (pI d.body.ty.2.2.2.2),.pure (pI d.body.lin.1),.pure (ay d.body.lin.2),.pure (dp eR d.body.idx),.pure (.slice (d.body.args.map Ex.row))]
abbrev L0 (d:uu):bk:= .var [.pure (pS d.name),.pure (pI d.ty.1),.pure (pI d.ty.2.1),.pure (pI d.ty.2.2.1),.pure (pI d.ty.2.2.2.1),.pure (pI d.ty.2.2.2.2),.pure (dp fg d.dims),.pure (dp fg d.red),.pure (pI d.fold),.pure (pI d.body.op),.pure (pS d.body.name),.pure (pI d.body.val.1),.pure (pI d.body.val.2),.pure (pI d.body.ty.1),.pure (pI d.body.ty.2.1),.pure (pI d.body.ty.2.2.1),.pure (pI d.body.ty.2.2.2.1),.pure (pI d.body.ty.2.2.2.2),.pure (pI d.body.lin.1),.pure (ay d.body.lin.2),.pure (dp eR d.body.idx),.pure (.slice (d.body.args.map Ex.row))]
abbrev UV (x:nP):AV:= .agg [.pure (pS x.1),.pure (pI x.2.1.1),.pure (pI x.2.1.2.1),.pure (pI x.2.1.2.2.1),.pure (pI x.2.1.2.2.2.1),.pure (pI x.2.1.2.2.2.2),.pure (dp b9 x.2.2)]
abbrev Pa (x:nP):bk:= .var [.pure (pS x.1),.pure (pI x.2.1.1),.pure (pI x.2.1.2.1),.pure (pI x.2.1.2.2.1),.pure (pI x.2.1.2.2.2.1),.pure (pI x.2.1.2.2.2.2),.pure (dp b9 x.2.2)]
abbrev j6 (l:List bW):AV:= .c (.pure (dp b9 l))
abbrev Fz (t:Ty):AV:= .agg [.pure (pI t.1),.pure (pI t.2.1),.pure (pI t.2.2.1),.pure (pI t.2.2.2.1),.pure (pI t.2.2.2.2)]
def dm (p:bG) (s:ByteArray):Option (Ty×List bW):=
 match p.params.find? (λx=>decide (x.1=s))with
 |some x=>some x.2
 |none=>match p.defs.find? (λd=>decide (d.name=s))with
  |some d=>some (d.ty,d.dims.map (·.2))
  |none=>none
def iR (p:bG):Prop:=(∀x∈p.params,x.2.2.length≤12∧ ∀l∈x.2.2,l.2.length≤20)∧ ∀d∈p.defs,d.dims.length≤12∧d.red.length≤12∧(∀a∈d.dims,a.2.2.length≤20)∧ ∀a∈d.red,a.2.2.length≤20
def aS (d:uu):List ByteArray:=(d.dims++d.red).map (·.1)
def fl (vars sizes:List ByteArray) (l:bW):Prop:= ∀m∈l.2,m.1∈vars∨m.1∈sizes
instance (vars sizes:List ByteArray) (l:bW):Decidable (fl vars sizes l):=Classical.propDecidable _
def dR (p:bG) (vars:List ByteArray) (l:List bW):Int:=if ∀x∈l,fl vars p.sizes x then 0 else 9
def iH:Ty:=(0,0,0,0,0)
def gB (p:bG) (vars:List ByteArray) (x:Ix):Int:=
 if x.2.1=⟨⟨[]⟩⟩then dR p vars [x.1]
 else match dm p x.2.1 with
  |none=>9
  |some (t,dims)=>if t.1≠3 then 10 else if x.2.2.length≠dims.length then 11 else dR p vars x.2.2
def gc (p:bG) (vars:List ByteArray) (e:Ex):Ty×Int:=
 match dm p e.name with
 |none=>(iH,9)
 |some (t,dims)=>if e.idx.length≠dims.length then(iH,11)else if de (e.idx.map (gB p vars))≠0 then(iH,de (e.idx.map (gB p vars)))else(t,0)
def aY (p:bG) (vars:List ByteArray) (e:Ex) (l:List Ty):Ty×Int:=
 if e.op=1∨e.op=12 then(e.ty,0)
 else if e.op=2 then((3,0,0,0,0),dR p vars [e.lin])
 else if e.op=3 then gc p vars e
 else if e.op=8 then(l.getD 0 iH,0)
 else if e.op=11 then(l.getD 1 iH,if l.getD 1 iH=l.getD 2 iH then 0 else 10)
 else if 16≤e.op then(iH,0)
 else if 13≤e.op then(iH,if l.getD 0 iH=l.getD 1 iH then 0 else 10)
 else(l.getD 0 iH,if l.getD 0 iH=l.getD 1 iH then 0 else 10)
mutual
def eD (p:bG) (vars:List ByteArray):Ex→Ty×Int
 |.mk op name val ty lin idx args=>match dN p vars args with
  | .inl err=>(iH,err)
  | .inr l=>aY p vars (.mk op name val ty lin idx args) l
def dN (p:bG) (vars:List ByteArray):List Ex→Int⊕List Ty
 | []=> .inr []
 |e::r=>if(eD p vars e).2≠0 then .inl (eD p vars e).2 else match dN p vars r with
  | .inl err=> .inl err
  | .inr l=> .inr ((eD p vars e).1::l)
end
theorem mE (p:bG) (vars:List ByteArray) (e:Ex):eD p vars e=match dN p vars e.args with
  | .inl err=>(iH,err)
  | .inr l=>aY p vars e l:=by
 obtain⟨op,name,val,ty,lin,idx,args⟩:=e
 rw[eD]
 rfl
def bv (p:bG) (vars:List ByteArray) (e:Ex):Ty×Int:=
 if gG e≠0 then(iH,gG e)else if kj e.op then(iH,10)else if(eD p vars e).2≠0 then(iH,(eD p vars e).2)else((eD p vars e).1,0)
def aP (taken:List ByteArray) (s:ByteArray):Int:=if ¬fW s then 7 else if s∈taken then 8 else 0
def bH (sizes:List ByteArray) (l:bW):Int:=if ¬aI l.2 then 1 else if ¬fl [] sizes l then 9 else 0
def dL (sizes taken:List ByteArray) (x:nP):Int:=
 if aP taken x.1≠0 then aP taken x.1 else if ¬kU x.2.1 then 10 else if 6<x.2.2.length then 11 else de (x.2.2.map (bH sizes))
def bF (sizes:List ByteArray):List ByteArray→List gU→Int
 |_, []=>0
 |taken,a::r=>if aP taken a.1≠0 then aP taken a.1 else if bH sizes a.2≠0 then bH sizes a.2 else bF sizes (taken++ [a.1]) r
def f8 (d:uu):Int:=if d.fold<0∨5<d.fold then 1 else if((d.fold=0∨d.fold=5)↔d.red.length=0)∧ ¬(d.fold=5∧d.dims.length=0)then 0 else 11
def bt (p:bG) (k:Nat) (taken:List ByteArray) (d:uu):Int:=
 if aP taken d.name≠0 then aP taken d.name else if ¬kU d.ty then 10 else if 6<d.dims.length∨6<d.red.length then 11
 else if bF p.sizes p.sizes (d.dims++d.red)≠0 then bF p.sizes p.sizes (d.dims++d.red)else if f8 d≠0 then f8 d
 else if(bv {p with wher:= [],defs:=p.defs.take k,outs:= []} (aS d) d.body).2≠0 then(bv {p with wher:= [],defs:=p.defs.take k,outs:= []} (aS d) d.body).2
 else if(bv {p with wher:= [],defs:=p.defs.take k,outs:= []} (aS d) d.body).1≠d.ty then 10 else 0
section
variable {p : bG} {vars : List ByteArray}
theorem oK: ∀(l r:List Ex),dN p vars (l++r)=match dN p vars l with
  | .inl err=> .inl err
  |.inr a=>match dN p vars r with
   | .inl err=> .inl err
   | .inr b=> .inr (a++b)
 |[],r=>by
  simp only[List.nil_append,dN]
  cases dN p vars r<;>rfl
 |e::l,r=>by
  simp only[List.cons_append,dN]
  by_cases h:(eD p vars e).2=0
  ·rw[if_neg (not_not_intro h),if_neg (not_not_intro h),oK l r]
   cases dN p vars l with
   |inl x=>rfl
   |inr a=>cases dN p vars r<;>rfl
  ·rw[if_pos h,if_pos h]
theorem BH {l:List Ex} {k:Nat} {ts:List Ty} (h:k<l.length) (hk:dN p vars (l.take k)= .inr ts) (h0:(eD p vars l[k]).2=0):dN p vars (l.take (k+1))= .inr (ts++ [(eD p vars l[k]).1]):=by
 rw[List.take_succ_eq_append_getElem h,oK,hk]
 simp only[dN]
 rw[if_neg (not_not_intro h0)]
theorem Ai {l:List Ex} {k:Nat} {ts:List Ty} (h:k<l.length) (hk:dN p vars (l.take k)= .inr ts) (h0:(eD p vars l[k]).2≠0):dN p vars l= .inl (eD p vars l[k]).2:=by
 have e:dN p vars (l.take k++(l[k]::l.drop (k+1)))= .inl (eD p vars l[k]).2:=by
  rw[oK,hk]
  simp only[dN]
  rw[if_pos h0]
 rw[←List.drop_eq_getElem_cons h,List.take_append_drop]at e
 exact e
theorem nC: ∀{l:List Ex} {ts:List Ty},dN p vars l= .inr ts→ts.length=l.length
 | [],ts,h=>by cases h;rfl
 |e::l,ts,h=>by
  simp only[dN]at h
  split at h
  ·cases h
  ·split at h
   ·cases h
   ·rename_i l' hl
    cases h
    simp[nC hl]
def zE (op:Int) (r:Ty×Int):Ty×Int:=if r.2≠0∧op≠2 then(iH,r.2)else r
def iN (p:bG) (vars:List ByteArray) (e:Ex):Ty×Int:=match dN p vars e.args with
  | .inl err=>(iH,err)
  | .inr l=>zE e.op (aY p vars e l)
theorem lh (e:Ex):(iN p vars e).2=(eD p vars e).2:=by
 rw[mE]
 unfold iN
 cases dN p vars e.args with
 |inl x=>rfl
 |inr l=>
  simp only[zE]
  split<;>rfl
theorem Hf {e:Ex} (h:(eD p vars e).2=0):(iN p vars e).1=(eD p vars e).1:=by
 rw[mE]at h ⊢
 unfold iN
 cases hx:dN p vars e.args with
 |inl x=>rfl
 |inr l=>
  rw[hx]at h
  simp only[zE]at h ⊢
  rw[if_neg (λhh=>hh.1 h)]
end
theorem tG {a b:Ty} (h:a.1=b.1∧a.2.1=b.2.1∧a.2.2.1=b.2.2.1∧a.2.2.2.1=b.2.2.2.1∧a.2.2.2.2=b.2.2.2.2):a=b:=by
 obtain⟨a1,a2,a3,a4,a5⟩:=a
 obtain⟨b1,b2,b3,b4,b5⟩:=b
 simp_all
def iy (e:Ex):Prop:= ∀a∈e.pre,(a.args.length:Int)=iW a.op∧1≤a.op∧a.op≤18∧a.idx.length≤6∧ ∀x∈a.idx,x.2.2.length≤6
theorem iF: ∀{l:List Int},de l=0→ ∀x∈l,x=0
 |y::r,h,x,hx=>by
  simp only[de]at h
  split at h
  ·exact absurd h ‹_›
  ·rcases List.mem_cons.1 hx with rfl|hx
   ·exact Classical.not_not.1 ‹_›
   ·exact iF h x hx
theorem m0 {e:Ex} (h:gG e=0):iy e:=by
 unfold gG at h
 split at h
 ·cases h
 ·split at h
  ·cases h
  ·intro a ha
   have:=iw (iF h _ (List.mem_map_of_mem ha))
   exact⟨this.2.2.1.1,this.1.1.1,this.1.1.2,this.2.2.1.2.1,this.2.2.1.2.2⟩
theorem il {e a:Ex} (h:iy e) (ha:a∈e.args):iy a:= λb hb=>h b (by
 rw[Ex.pre_eq]
 refine List.mem_cons_of_mem _ ?_
 clear h
 generalize e.args=l at ha
 induction l with
 |nil=>cases ha
 |cons x r g=>
  rw[Ex.pres]
  rcases List.mem_cons.1 ha with rfl|ha
  ·exact List.mem_append_left _ hb
  ·exact List.mem_append_right _ (g ha))
theorem dP {e:Ex} (h:iy e):(e.args.length:Int)=iW e.op∧1≤e.op∧e.op≤18∧e.idx.length≤6∧ ∀x∈e.idx,x.2.2.length≤6:=h e (by rw[Ex.pre_eq];exact List.mem_cons_self)
theorem uN {o:Int} (h1:1≤o) (h2:o≤18):((o=1∨o=2∨o=3)∧iW o=0)∨((o=8∨o=12∨o=18)∧iW o=1)∨(o=11∧iW o=3)∨((o=13∨o=14∨o=15)∧iW o=2)∨((o=16∨o=17)∧iW o=2)∨((4≤o∧o≤10∧o≠8)∧iW o=2):=by
 unfold iW
 have:o=1∨o=2∨o=3∨o=4∨o=5∨o=6∨o=7∨o=8∨o=9∨o=10∨o=11∨o=12∨o=13∨o=14∨o=15∨o=16∨o=17∨o=18:=by omega
 rcases this with rfl|rfl|rfl|rfl|rfl|rfl|rfl|rfl|rfl|rfl|rfl|rfl|rfl|rfl|rfl|rfl|rfl|rfl<;>simp
theorem Um {l:List Ty} (h:l.length=1): ∃a,l= [a]:=by match l,h with| [a],_=>exact⟨a,rfl⟩
theorem RC {l:List Ty} (h:l.length=2): ∃a b,l= [a,b]:=by match l,h with| [a,b],_=>exact⟨a,b,rfl⟩
theorem T6 {l:List Ty} (h:l.length=3): ∃a b c,l= [a,b,c]:=by match l,h with| [a,b,c],_=>exact⟨a,b,c,rfl⟩
def zV:Int→List Int→Option (Int×Int)
 |_, []=>none
 |at',x::r=>if x≠0 then some (at',x)else zV (at'+1) r
theorem Nc {l:List Int}: ∀{a:Int},(∀x∈l,x=0)→zV a l=none:=by
 induction l with
 |nil=>intro a _;rfl
 |cons x r ih=>
  intro a h
  rw[zV,if_neg (not_not_intro (h x List.mem_cons_self))]
  exact ih λy hy=>h y (List.mem_cons_of_mem _ hy)
theorem QH {l:List Int}: ∀{a:Int} {k:Nat} (hk:k<l.length),(∀j (h:j<k),l[j]'(by omega)=0)→l[k]≠0→zV a l=some (a+k,l[k]):=by
 induction l with
 |nil=>intro a k hk;simp at hk
 |cons x r ih=>
  intro a k hk h1 h2
  cases k with
  |zero=>
   rw[zV,if_pos (by simpa using h2)]
   simp
  |succ k=>
   rw[zV,if_neg (not_not_intro (show x=0 from h1 0 (by omega)))]
   rw[ih (k:=k) (by simpa using hk) (λj hj=>h1 (j+1) (by omega)) (by simpa using h2)]
   simp
   omega
theorem lp {n k:Nat} {f:Nat→Int} (h:k<((List.range n).map f).length):((List.range n).map f)[k]=f k:=by simp
theorem jD {n:Nat} {f:Nat→Int} {a:Int} (h: ∀j,j<n→f j=0):zV a ((List.range n).map f)=none:=Nc λx hx=>by
 obtain⟨j,hj,rfl⟩:=List.mem_map.1 hx
 exact h j (List.mem_range.1 hj)
theorem oE {n k:Nat} {f:Nat→Int} {a:Int} (hk:k<n) (h: ∀j,j<k→f j=0) (h2:f k≠0):zV a ((List.range n).map f)=some (a+k,f k):=by
 have:=QH (l:=(List.range n).map f) (a:=a) (k:=k) (by simpa using hk) (λj hj=>by rw[lp];exact h j hj) (by rw[lp];exact h2)
 rw[this,lp]
def dT (p:bG) (k:Nat):List ByteArray:=p.sizes++(p.params.take k).map (·.1)
def dY (p:bG) (k:Nat):List ByteArray:=p.sizes++p.params.map (·.1)++(p.defs.take k).map (·.name)
def PQ (p:bG) (k:Nat):Int:=match p.sizes[k]? with
 |some s=>aP (p.sizes.take k) s
 |none=>0
def uK (p:bG) (k:Nat):Int:=match p.params[k]? with
 |some x=>dL p.sizes (dT p k) x
 |none=>0
def vI (p:bG) (k:Nat):Int:=match p.defs[k]? with
 |some d=>bt p k (dY p k) d
 |none=>0
def GO (p:bG) (k:Nat):Int:=match p.outs[k]? with
 |some s=>if dm p s=none then 9 else if s∈p.outs.take k then 8 else 0
 |none=>0
def jf (p:bG):Prop:=p.sizes.length≤64∧p.params.length≤64∧p.defs.length≤64∧p.outs.length≤64∧p.wher.length≤256
instance (p:bG):Decidable (jf p):=inferInstanceAs (Decidable (_∧_))
def lW (p:bG):Int:=de ((List.range p.sizes.length).map (PQ p))
def qU (p:bG):Int:=de (p.wher.map λc=>bH p.sizes c.1)
def bn (p:bG):Int×Int:=
 if ¬jf p then(0,2)else if lW p≠0 then(0,lW p)else if qU p≠0 then(1,qU p)
 else match zV 2 ((List.range p.params.length).map (uK p))with
 |some r=>r
 |none=>match zV (2+p.params.length) ((List.range p.defs.length).map (vI p))with
  |some r=>r
  |none=>match zV (2+p.params.length+p.defs.length) ((List.range p.outs.length).map (GO p))with
   |some r=>r
   |none=>(0,0)
section
variable {p : bG}
theorem tP (h: ¬jf p):bn p=(0,2):=if_pos h
theorem wO (h:jf p) {x:Int} (h1:lW p=x) (hx:x≠0):bn p=(0,x):=by
 unfold bn
 rw[if_neg (not_not_intro h),h1,if_pos hx]
theorem wV (h:jf p) (h1:lW p=0) {x:Int} (h2:qU p=x) (hx:x≠0):bn p=(1,x):=by
 unfold bn
 rw[if_neg (not_not_intro h),if_neg (not_not_intro h1),h2,if_pos hx]
theorem tu (h:jf p) (h1:lW p=0) (h2:qU p=0) {k:Nat} (hk:k<p.params.length) (h3: ∀j,j<k→uK p j=0) {x:Int} (h4:uK p k=x) (hx:x≠0):bn p=((2:Int)+k,x):=by
 unfold bn
 rw[if_neg (not_not_intro h),if_neg (not_not_intro h1),if_neg (not_not_intro h2),oE hk h3 (by rw[h4];exact hx),h4]
theorem tU (h:jf p) (h1:lW p=0) (h2:qU p=0) (h3: ∀j,j<p.params.length→uK p j=0) {k:Nat} (hk:k<p.defs.length) (h4: ∀j,j<k→vI p j=0) {x:Int} (h5:vI p k=x) (hx:x≠0):bn p=((2:Int)+p.params.length+k,x):=by
 unfold bn
 rw[if_neg (not_not_intro h),if_neg (not_not_intro h1),if_neg (not_not_intro h2),jD h3]
 simp only
 rw[oE hk h4 (by rw[h5];exact hx),h5]
theorem oF (h:jf p) (h1:lW p=0) (h2:qU p=0) (h3: ∀j,j<p.params.length→uK p j=0) (h4: ∀j,j<p.defs.length→vI p j=0) {k:Nat} (hk:k<p.outs.length) (h5: ∀j,j<k→GO p j=0) {x:Int} (h6:GO p k=x) (hx:x≠0):
  bn p=((2:Int)+p.params.length+p.defs.length+k,x):=by
 unfold bn
 rw[if_neg (not_not_intro h),if_neg (not_not_intro h1),if_neg (not_not_intro h2),jD h3]
 simp only
 rw[jD h4]
 simp only
 rw[oE hk h5 (by rw[h6];exact hx),h6]
theorem v7 (h:jf p) (h1:lW p=0) (h2:qU p=0) (h3: ∀j,j<p.params.length→uK p j=0) (h4: ∀j,j<p.defs.length→vI p j=0) (h5: ∀j,j<p.outs.length→GO p j=0):bn p=(0,0):=by
 unfold bn
 rw[if_neg (not_not_intro h),if_neg (not_not_intro h1),if_neg (not_not_intro h2),jD h3]
 simp only
 rw[jD h4]
 simp only
 rw[jD h5]
theorem Jk {k:Nat} (h:k<p.sizes.length):PQ p k=aP (p.sizes.take k) p.sizes[k]:=by
 unfold PQ
 rw[List.getElem?_eq_getElem h]
theorem Fc {k:Nat} (h:k<p.params.length):uK p k=dL p.sizes (dT p k) p.params[k]:=by
 unfold uK
 rw[List.getElem?_eq_getElem h]
theorem yW {k:Nat} (h:k<p.defs.length):vI p k=bt p k (dY p k) p.defs[k]:=by
 unfold vI
 rw[List.getElem?_eq_getElem h]
theorem FB {k:Nat} (h:k<p.outs.length):GO p k=if dm p p.outs[k]=none then 9 else if p.outs[k]∈p.outs.take k then 8 else 0:=by
 unfold GO
 rw[List.getElem?_eq_getElem h]
theorem BS (h: ∀j,j<p.sizes.length→PQ p j=0):lW p=0:=by
 have key: ∀l:List Int,(∀x∈l,x=0)→de l=0:=by
  intro l
  induction l with
  |nil=>intro _;rfl
  |cons x r ih=>
   intro h
   rw[de,if_neg (not_not_intro (h x List.mem_cons_self))]
   exact ih λy hy=>h y (List.mem_cons_of_mem _ hy)
 exact key _ λx hx=>by
  obtain⟨j,hj,rfl⟩:=List.mem_map.1 hx
  exact h j (List.mem_range.1 hj)
theorem GI {k:Nat} (hk:k<p.sizes.length) (h: ∀j,j<k→PQ p j=0) {x:Int} (h2:PQ p k=x) (hx:x≠0):lW p=x:=by
 have hl:k<((List.range p.sizes.length).map (PQ p)).length:=by simpa using hk
 have h0:de (((List.range p.sizes.length).map (PQ p)).take k)=0:=by
  have key: ∀l:List Int,(∀x∈l,x=0)→de l=0:=by
   intro l
   induction l with
   |nil=>intro _;rfl
   |cons x r ih=>
    intro h
    rw[de,if_neg (not_not_intro (h x List.mem_cons_self))]
    exact ih λy hy=>h y (List.mem_cons_of_mem _ hy)
  refine key _ λx hx=> ?_
  obtain⟨j,hj,rfl⟩:=List.mem_iff_getElem.1 hx
  rw[List.getElem_take,lp]
  exact h j (by simp at hj;omega)
 have:=lY hl h0 (by rw[lp,h2];exact hx)
 unfold lW
 rw[this,lp,h2]
theorem IJ {k:Nat} (h:k<p.params.length):dT p (k+1)=dT p k++ [p.params[k].1]:=by
 unfold dT
 rw[List.take_succ_eq_append_getElem h,List.map_append,List.append_assoc]
 rfl
theorem FV:dT p p.params.length=p.sizes++p.params.map (·.1):=by
 unfold dT
 rw[List.take_of_length_le (Nat.le_refl _)]
theorem GZ:dY p 0=p.sizes++p.params.map (·.1):=by simp[dY]
theorem Ig {k:Nat} (h:k<p.defs.length):dY p (k+1)=dY p k++ [p.defs[k].name]:=by
 unfold dY
 rw[List.take_succ_eq_append_getElem h,List.map_append,←List.append_assoc]
 rfl
theorem Dc (k:Nat) (h:jf p):(dT p k).length≤128∧(dY p k).length≤192:=by
 obtain⟨h1,h2,h3,_⟩:=h
 unfold dT dY
 simp
 omega
end
def cU (p:bG) (k:Nat):bG:={p with wher:= [],defs:=p.defs.take k,outs:= []}
theorem xp {p:bG} (h:iR p) (k:Nat):iR (cU p k):=⟨h.1,λd hd=>h.2 d (List.mem_of_mem_take hd)⟩
def kI (p:bG):Prop:= ∀d∈p.defs,∀a∈d.body.pre,pE a.val
abbrev KL:=List (ByteArray×Int)
def A2 (K:KL):List (MK×List PC):=K.map λx=>(MK.str x.1.data.toList, [pI x.2])
def js (K:KL):List (MK×List AC):=K.map λx=>(MK.str x.1.data.toList, [.pure (pI x.2)])
def jj:KL→ByteArray→Option Int
 | [],_=>none
 |(a,k)::r,s=>if a=s then some k else jj r s
def sM:KL→ByteArray→Int→KL
 | [],s,k=> [(s,k)]
 |(a,j)::r,s,k=>if a=s then(s,k)::r else(a,j)::sM r s k
def pN (K:KL) (s:ByteArray):Int:=(jj K s).getD 0
theorem tD {a s:ByteArray}:(MK.str a.data.toList=MK.str s.data.toList)↔a=s:=by
 constructor
 ·intro h
  have h1:a.data.toList=s.data.toList:=by injection h
  obtain⟨⟨a⟩⟩:=a
  obtain⟨⟨s⟩⟩:=s
  simp only at h1
  rw[h1]
 ·intro h;rw[h]
theorem zc (K:KL):oN (A2 K)=js K:=by simp[oN,A2,js,List.map_map,Function.comp_def]
theorem oi (s:ByteArray): ∀K:KL,jb (js K) (.str s.data.toList)=(jj K s).map λk=> [.pure (pI k)]
 | []=>rfl
 |(a,k)::r=>by
  have ih:=oi s r
  simp only[js,List.map_cons,jb,jj]at ih ⊢
  by_cases h:a=s
  ·rw[if_pos (tD.2 h),if_pos h];rfl
  ·rw[if_neg (λe=>h (tD.1 e)),if_neg h,ih]
theorem LF {mem:List (Nat×bk)}: ∀K:KL,kH mem none (js K)=some (A2 K)
 | []=>rfl
 |x::r=>by
  have ih:=LF (mem:=mem) r
  simp only[js,A2,List.map_cons,kH,mO,dS]at ih ⊢
  rw[ih]
theorem El (s:ByteArray) (k:Int): ∀K:KL,x9 (js K) (.str s.data.toList) [.pure (pI k)]=js (sM K s k)
 | []=>rfl
 |(a,j)::r=>by
  have ih:=El s k r
  simp only[js,List.map_cons,x9,sM]at ih ⊢
  by_cases h:a=s
  ·rw[if_pos (tD.2 h),if_pos h];rfl
  ·rw[if_neg (λe=>h (tD.1 e)),if_neg h,ih];rfl
theorem Ng (K:KL) (s s':ByteArray) (k:Int):jj (sM K s k) s'=if s=s' then some k else jj K s':=by
 induction K with
 |nil=>simp[sM,jj]
 |cons x r ih=>
  obtain⟨a,j⟩:=x
  simp only[sM]
  by_cases h:a=s
  ·subst h
   rw[if_pos rfl]
   simp only[jj]
   by_cases h2:a=s'<;>simp[h2]
  ·rw[if_neg h]
   simp only[jj,ih]
   by_cases h2:a=s'
   ·subst h2
    rw[if_pos rfl,if_neg (λe=>h e.symm),if_pos rfl]
   ·rw[if_neg h2,if_neg h2]
theorem Gt (K:KL) (s s':ByteArray) (k:Int):pN (sM K s k) s'=if s=s' then k else pN K s':=by
 unfold pN
 rw[Ng]
 split<;>rfl
theorem A8 (s:ByteArray):pN [] s=0:=rfl
theorem iz {K:KL} {s:ByteArray} {k:Int} (h:jj K s=some k):pN K s=k:=by unfold pN;rw[h];rfl
theorem lJ {K:KL} {s:ByteArray} (h:jj K s=none):pN K s=0:=by unfold pN;rw[h];rfl
def kd (K:KL) (k:Int):List ByteArray→KL
 | []=>K
 |s::r=>kd (sM K s k) k r
theorem zK (k:Int): ∀(l r:List ByteArray) (K:KL),kd K k (l++r)=kd (kd K k l) k r
 | [],r,K=>rfl
 |s::l,r,K=>by
  simp only[List.cons_append,kd]
  exact zK k l r _
theorem wF {K:KL} {k:Int} {l:List ByteArray} {i:Nat} (h:i<l.length):kd K k (l.take (i+1))=sM (kd K k (l.take i)) l[i] k:=by
 rw[List.take_succ_eq_append_getElem h,zK]
 rfl
theorem nu {k:Int} (s:ByteArray): ∀(l:List ByteArray) (K:KL),pN (kd K k l) s=if s∈l then k else pN K s
 | [],K=>by simp[kd]
 |a::l,K=>by
  rw[kd,nu s l,Gt]
  by_cases h:s∈l
  ·rw[if_pos h,if_pos (List.mem_cons_of_mem _ h)]
  ·rw[if_neg h]
   by_cases h2:a=s
   ·rw[if_pos h2,if_pos (by rw[h2];exact List.mem_cons_self)]
   ·rw[if_neg h2,if_neg]
    intro hm
    rcases List.mem_cons.1 hm with rfl|hm
    ·exact h2 rfl
    ·exact h hm
end
end Go.Proofs.YtiapgekjmcjjgaaGreatDoor
