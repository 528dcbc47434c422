import Derived.Test.YthbcbaembicdbaaGreatDoorV12a
set_option linter.unusedVariables false
set_option linter.unusedSimpArgs false
namespace Go.Proofs.YthbcbaembicdbaaGreatDoor
open Go.Abs Go.RowKit
noncomputable section
abbrev Ix:=bY×ByteArray×List bY
def cd (l:bY):List PC:= [pI l.1,aw l.2]
def eQ (x:Ix):List PC:= [pI x.1.1,aw x.1.2,pS x.2.1,du cd x.2.2]
abbrev aIx (x:Ix):AV:= .agg [.pure (pI x.1.1),.pure (aw x.1.2),.pure (pS x.2.1),.pure (du cd x.2.2)]
inductive Ex where
 |mk (op:Int) (name:ByteArray) (val:Fr) (ty:Ty) (lin:bY) (idx:List Ix) (args:List Ex)
namespace Ex
def op:Ex→Int| .mk o _ _ _ _ _ _=>o
def name:Ex→ByteArray| .mk _ s _ _ _ _ _=>s
def val:Ex→Fr| .mk _ _ v _ _ _ _=>v
def ty:Ex→Ty| .mk _ _ _ t _ _ _=>t
def lin:Ex→bY| .mk _ _ _ _ l _ _=>l
def idx:Ex→List Ix| .mk _ _ _ _ _ x _=>x
def args:Ex→List Ex| .mk _ _ _ _ _ _ a=>a
mutual
def row:Ex→List PC
 | .mk op name val ty lin idx args=> [pI op,pS name,pI val.1,pI val.2,pI ty.1,pI ty.2.1,pI ty.2.2.1,pI ty.2.2.2.1,pI ty.2.2.2.2,pI lin.1,aw lin.2,du eQ idx,.slice (rows args)]
def rows:List Ex→List (List PC)
 | []=> []
 |e::r=>row e::rows r
end
theorem Rr: ∀l:List Ex,rows l=l.map row
 | []=>by rw[rows];rfl
 |e::r=>by rw[rows,Rr r];rfl
theorem row_eq (e:Ex):e.row= [pI e.op,pS e.name,pI e.val.1,pI e.val.2,pI e.ty.1,pI e.ty.2.1,pI e.ty.2.2.1,pI e.ty.2.2.2.1,pI e.ty.2.2.2.2,pI e.lin.1,aw e.lin.2,du eQ e.idx,.slice (e.args.map row)]:=by
 obtain⟨op,name,val,ty,lin,idx,args⟩:=e
 rw[row,Rr]
 rfl
mutual
def dep:Ex→Nat
 | .mk _ _ _ _ _ _ args=>1+deps args
def deps:List Ex→Nat
 | []=>0
 |e::r=>max (dep e) (deps r)
end
mutual
def sz:Ex→Nat
 | .mk _ _ _ _ _ _ args=>1+szs args
def szs:List Ex→Nat
 | []=>0
 |e::r=>sz e+szs r
end
mutual
def pre:Ex→List Ex
 | .mk op name val ty lin idx args=> .mk op name val ty lin idx args::pres args
def pres:List Ex→List Ex
 | []=> []
 |e::r=>pre e++pres r
end
theorem dep_eq (e:Ex):e.dep=1+deps e.args:=by cases e;rw[dep];rfl
theorem sz_eq (e:Ex):e.sz=1+szs e.args:=by cases e;rw[sz];rfl
theorem pre_eq (e:Ex):e.pre=e::pres e.args:=by cases e;rw[pre];rfl
theorem SA {e a:Ex} (h:a∈e.args):SizeOf.sizeOf a<SizeOf.sizeOf e:=by
 obtain⟨op,name,val,ty,lin,idx,args⟩:=e
 have:=List.sizeOf_lt_of_mem (show a∈args from h)
 simp only[mk.sizeOf_spec]
 omega
theorem ind {p:Ex→Prop} (h: ∀e:Ex,(∀a∈e.args,p a)→p e): ∀e:Ex,p e:=by
 have key: ∀(n:Nat) (e:Ex),SizeOf.sizeOf e<n→p e:=by
  intro n
  induction n with
  |zero=>intro e he;omega
  |succ n ih=>exact fun e he=>h e fun a ha=>ih a (by have:=SA ha;omega)
 exact fun e=>key _ e (Nat.lt_succ_self _)
theorem dep_pos (e:Ex):1≤e.dep:=by rw[dep_eq];omega
theorem deps_take: ∀{l:List Ex} {k:Nat} (h:k<l.length),deps (l.take (k+1))=max (deps (l.take k)) (l[k].dep)
 |e::r,0,h=>by simp[deps]
 |e::r,k+1,h=>by
  have:=deps_take (l:=r) (k:=k) (by simpa using h)
  simp only[List.take_succ_cons,deps,this,List.getElem_cons_succ]
  omega
theorem szs_append: ∀(l r:List Ex),szs (l++r)=szs l+szs r
 | [],r=>by simp[szs]
 |e::l,r=>by simp only[List.cons_append,szs,szs_append l r];omega
theorem szs_take {l:List Ex} {k:Nat} (h:k<l.length):szs (l.take (k+1))=szs (l.take k)+l[k].sz:=by
 rw[List.take_succ_eq_append_getElem h,szs_append]
 simp[szs]
theorem pres_append: ∀(l r:List Ex),pres (l++r)=pres l++pres r
 | [],r=>by simp[pres]
 |e::l,r=>by simp only[List.cons_append,pres,pres_append l r,List.append_assoc]
theorem pres_take {l:List Ex} {k:Nat} (h:k<l.length):pres (l.take (k+1))=pres (l.take k)++l[k].pre:=by
 rw[List.take_succ_eq_append_getElem h,pres_append]
 simp[pres]
theorem pres_length: ∀{l:List Ex},(∀a∈l,a.pre.length=a.sz)→(pres l).length=szs l
 | [],_=>by simp[pres,szs]
 |e::r,h=>by rw[pres,szs,List.length_append,h e List.mem_cons_self,pres_length fun a ha=>h a (List.mem_cons_of_mem _ ha)]
theorem pre_length (e:Ex):e.pre.length=e.sz:=by
 refine ind (p:=fun e=>e.pre.length=e.sz) (fun e ih=> ?_) e
 rw[pre_eq,sz_eq,List.length_cons,pres_length ih]
 omega
theorem sz_pos (e:Ex):1≤e.sz:=by rw[sz_eq];omega
theorem szs_len: ∀l:List Ex,l.length≤szs l
 | []=>by simp
 |e::r=>by have:=szs_len r;have:=sz_pos e;rw[szs,List.length_cons];omega
end Ex
abbrev fJ (e:Ex):AV:= .agg [.pure (pI e.op),.pure (pS e.name),.pure (pI e.val.1),.pure (pI e.val.2),.pure (pI e.ty.1),.pure (pI e.ty.2.1),.pure (pI e.ty.2.2.1),.pure (pI e.ty.2.2.2.1),.pure (pI e.ty.2.2.2.2),.pure (pI e.lin.1),.pure (aw e.lin.2),.pure (du eQ e.idx),.pure (.slice (e.args.map Ex.row))]
theorem BD {b:Bool} {p:Prop} [Decidable p] (h:b=true↔p):AV.c (.pure (.val (.bool b)))=Go.Abs.B (decide p):=by
 have:b=decide p:=by by_cases hp:p<;>simp_all
 rw[this]
theorem IE {a b:Int} (h:a=b):AV.c (.pure (.val (.int .i64 a)))=I b:=by rw[h]
theorem D9 {p:Prop}:BI p=true↔p:=⟨fun h=>Classical.byContradiction (fun hn=>(by rw[kG hn]at h;cases h)),oE⟩
theorem D7 {p:Prop}:BI p=false↔ ¬p:=⟨fun h hp=>(by rw[oE hp]at h;cases h),kG⟩
theorem BC {b:Bool} {p:Prop} (h:b=true↔p):AV.c (.pure (.val (.bool b)))=Go.Abs.B (BI p):=by
 have:b=BI p:=by
  by_cases hp:p
  ·rw[oE hp,h.2 hp]
  ·rw[kG hp];exact Bool.eq_false_iff.2 fun e=>hp (h.1 e)
 rw[this]
def mi (o:Int):Prop:=13≤o∧o≤18
instance (o:Int):Decidable (mi o):=inferInstanceAs (Decidable (_∧_))
def jJ (o:Int):Int:=if o=1∨o=2∨o=3 then 0 else if o=8∨o=12∨o=18 then 1 else if o=11 then 3 else 2
def vF (o:Int) (i:Nat):Prop:=o=16∨o=17∨o=18∨(o=11∧i=0)
instance (o:Int) (i:Nat):Decidable (vF o i):=inferInstanceAs (Decidable (_∨_))
def Is (l:bY):Prop:=l.1=0∧l.2.length=0
instance (l:bY):Decidable (Is l):=inferInstanceAs (Decidable (_∧_))
def OF (x:Ix):Prop:=(x.2.1=⟨⟨[]⟩⟩→x.2.2.length=0)∧(x.2.1≠⟨⟨[]⟩⟩→Is x.1)
instance (x:Ix):Decidable (OF x):=Classical.propDecidable _
def ry (e:Ex):Prop:=(1≤e.op∧e.op≤18)∧(e.op≠1→e.val.1=0∧e.val.2=0)∧(e.op≠1→e.op≠12→e.ty.1=0∧e.ty.2.1=0∧e.ty.2.2.1=0∧e.ty.2.2.2.1=0∧e.ty.2.2.2.2=0)∧
 (e.op≠2→Is e.lin)∧(e.op≠3→e.name=⟨⟨[]⟩⟩∧e.idx.length=0)∧ ∀x∈e.idx,OF x
def uB (e:Ex):Prop:=(e.op=3→gc e.name)∧ ∀x∈e.idx,x.2.1≠⟨⟨[]⟩⟩→gc x.2.1
def uh (e:Ex):Prop:=(e.args.length:Int)=jJ e.op∧e.idx.length≤6∧ ∀x∈e.idx,x.2.2.length≤6
def nQ (e:Ex):Prop:=((e.op=1∨e.op=12)→nb e.ty)∧ ∀(i:Nat) (h:i<e.args.length),mi e.args[i].op↔vF e.op i
def Ex.forms (e:Ex):List bY:=e.lin::e.idx.flatMap fun x=>x.1::x.2.2
def vQ (e:Ex):Prop:=(e.op=1→fY e.ty e.val)∧ ∀l∈e.forms,bi l.2
instance (e:Ex):Decidable (ry e):=Classical.propDecidable _
instance (e:Ex):Decidable (uB e):=Classical.propDecidable _
instance (e:Ex):Decidable (uh e):=Classical.propDecidable _
instance (e:Ex):Decidable (nQ e):=Classical.propDecidable _
instance (e:Ex):Decidable (vQ e):=Classical.propDecidable _
def bh (e:Ex):Int:=if ¬ry e then 5 else if ¬uB e then 7 else if ¬uh e then 11 else if ¬nQ e then 10 else if ¬vQ e then 1 else 0
def de:List Int→Int
 | []=>0
 |x::r=>if x≠0 then x else de r
theorem li: ∀(l r:List Int),de (l++r)=if de l≠0 then de l else de r
 | [],r=>by simp[de]
 |x::l,r=>by
  simp only[List.cons_append,de,li l r]
  by_cases h:x=0<;>simp[h]
theorem iR {l:List Int} {k:Nat} (h:k<l.length) (hf:de (l.take k)=0):de (l.take (k+1))=l[k]:=by
 rw[List.take_succ_eq_append_getElem h,li,if_neg (by rw[hf];simp)]
 simp only[de]
 split<;>simp_all
theorem oH {l:List Int} {k:Nat} (h:k<l.length) (hf:de (l.take k)=0) (hp:l[k]≠0):de l=l[k]:=by
 have key:de (l.take (k+1)++l.drop (k+1))=l[k]:=by rw[li,iR h hf,if_pos hp]
 rw[List.take_append_drop]at key
 exact key
def jX (e:Ex):Int:=de (e.pre.map bh)
def gZ (e:Ex):Int:=if 40<e.dep then 13 else if 2000<e.sz then 2 else jX e
theorem QW (e:Ex):jX e=if bh e≠0 then bh e else de ((Ex.pres e.args).map bh):=by
 rw[jX,Ex.pre_eq,List.map_cons,de]
theorem iT {e:Ex} (h:bh e=0):ry e∧uB e∧uh e∧nQ e∧vQ e:=by
 unfold bh at h
 repeat' split at h
 all_goals first
  |(simp at h;done)
  |simp_all
def sV {α:Type} (p:α→Prop) (xs:List α):Int:=match xs.findIdx? (fun x=>BI (p x))with
 |some k=>k
 |none=> -1
theorem GM {α:Type} {p:α→Prop} {xs:List α} {k:Nat} (hk:k<xs.length) (h:p xs[k]) (hn: ∀j (hj:j<k),¬p (xs[j]'(by omega))):sV p xs=k:=by
 have:xs.findIdx? (fun x=>BI (p x))=some k:=by
  rw[List.findIdx?_eq_some_iff_getElem]
  exact⟨hk,oE h,fun j hj=>by simp[kG (hn j hj)]⟩
 rw[sV,this]
theorem y6 {α:Type} {p:α→Prop} {xs:List α} (hn: ∀j (hj:j<xs.length),¬p xs[j]):sV p xs= -1:=by
 have:xs.findIdx? (fun x=>BI (p x))=none:=by
  rw[List.findIdx?_eq_none_iff]
  intro x hx
  obtain⟨j,hj,rfl⟩:=List.mem_iff_getElem.1 hx
  exact kG (hn j hj)
 rw[sV,this]
theorem Do {α:Type} (p:α→Prop) (xs:List α):(sV p xs= -1∧ ∀x∈xs,¬p x)∨ ∃k,∃h:k<xs.length,sV p xs=k∧p xs[k]∧ ∀j (hj:j<k),¬p (xs[j]'(by omega)):=by
 unfold sV
 cases e:xs.findIdx? (fun x=>BI (p x))with
 |none=>
  rw[List.findIdx?_eq_none_iff]at e
  refine .inl ⟨rfl,fun x hx h=> ?_⟩
  have:=e x hx
  rw[oE h]at this
  cases this
 |some k=>
  rw[List.findIdx?_eq_some_iff_getElem]at e
  obtain⟨hk,h1,h2⟩:=e
  refine .inr ⟨k,hk,rfl, ?_,fun j hj h=> ?_⟩
  ·exact Classical.byContradiction fun hn=>by rw[kG hn]at h1;cases h1
  ·have:=h2 j hj
   rw[oE h]at this
   simp at this
theorem NH {α:Type} {p:α→Prop} {xs:List α}:0≤sV p xs↔ ∃x∈xs,p x:=by
 rcases Do p xs with⟨h1,h2⟩|⟨k,hk,h1,h2,_⟩
 ·rw[h1]
  exact⟨fun h=>by omega,fun⟨x,hx,h⟩=>absurd h (h2 x hx)⟩
 ·rw[h1]
  exact⟨fun _=>⟨_,List.getElem_mem hk,h2⟩,fun _=>by omega⟩
open Go.Abs Go.RowKit
abbrev iu:=ByteArray×bY
def fl (a:iu):List PC:= [pS a.1,pI a.2.1,aw a.2.2]
abbrev qZ:=ByteArray×Ty×List bY
def ip (x:qZ):List PC:= [pS x.1,pI x.2.1.1,pI x.2.1.2.1,pI x.2.1.2.2.1,pI x.2.1.2.2.2.1,pI x.2.1.2.2.2.2,du cd x.2.2]
structure zB where
 name:ByteArray
 ty:Ty
 dims:List iu
 red:List iu
 fold:Int
 body:Ex
def da (d:zB):List PC:= [pS d.name,pI d.ty.1,pI d.ty.2.1,pI d.ty.2.2.1,pI d.ty.2.2.2.1,pI d.ty.2.2.2.2,du fl d.dims,du fl d.red,pI d.fold,pI d.body.op,pS d.body.name,pI d.body.val.1,pI d.body.val.2,pI d.body.ty.1,pI d.body.ty.2.1,pI d.body.ty.2.2.1,pI d.body.ty.2.2.2.1,pI d.body.ty.2.2.2.2,pI d.body.lin.1,aw d.body.lin.2,du eQ d.body.idx,.slice (d.body.args.map Ex.row)]
structure bI where
 sizes:List ByteArray
 wher:List bt
 params:List qZ
 defs:List zB
 outs:List ByteArray
abbrev c8 (l:List ByteArray):PC:=du (fun s=> [pS s]) l
abbrev fO (p:bI):AV:= .agg [.pure (c8 p.sizes),.pure (du cP p.wher),.pure (du ip p.params),.pure (du da p.defs),.pure (c8 p.outs)]
abbrev eV (p:bI):bc:= .var [.pure (c8 p.sizes),.pure (du cP p.wher),.pure (du ip p.params),.pure (du da p.defs),.pure (c8 p.outs)]
abbrev Oq (d:zB):AV:= .agg [.pure (pS d.name),.pure (pI d.ty.1),.pure (pI d.ty.2.1),.pure (pI d.ty.2.2.1),.pure (pI d.ty.2.2.2.1),.pure (pI d.ty.2.2.2.2),.pure (du fl d.dims),.pure (du fl d.red),.pure (pI d.fold),.pure (pI d.body.op),.pure (pS d.body.name),.pure (pI d.body.val.1),.pure (pI d.body.val.2),.pure (pI d.body.ty.1),.pure (pI d.body.ty.2.1),.pure (pI d.body.ty.2.2.1),.pure (pI d.body.ty.2.2.2.1),.pure (pI d.body.ty.2.2.2.2),.pure (pI d.body.lin.1),.pure (aw d.body.lin.2),.pure (du eQ d.body.idx),.pure (.slice (d.body.args.map Ex.row))]
abbrev Uc (d:zB):bc:= .var [.pure (pS d.name),.pure (pI d.ty.1),.pure (pI d.ty.2.1),.pure (pI d.ty.2.2.1),.pure (pI d.ty.2.2.2.1),.pure (pI d.ty.2.2.2.2),.pure (du fl d.dims),.pure (du fl d.red),.pure (pI d.fold),.pure (pI d.body.op),.pure (pS d.body.name),.pure (pI d.body.val.1),.pure (pI d.body.val.2),.pure (pI d.body.ty.1),.pure (pI d.body.ty.2.1),.pure (pI d.body.ty.2.2.1),.pure (pI d.body.ty.2.2.2.1),.pure (pI d.body.ty.2.2.2.2),.pure (pI d.body.lin.1),.pure (aw d.body.lin.2),.pure (du eQ d.body.idx),.pure (.slice (d.body.args.map Ex.row))]
abbrev abO (x:qZ):AV:= .agg [.pure (pS x.1),.pure (pI x.2.1.1),.pure (pI x.2.1.2.1),.pure (pI x.2.1.2.2.1),.pure (pI x.2.1.2.2.2.1),.pure (pI x.2.1.2.2.2.2),.pure (du cd x.2.2)]
abbrev Xh (x:qZ):bc:= .var [.pure (pS x.1),.pure (pI x.2.1.1),.pure (pI x.2.1.2.1),.pure (pI x.2.1.2.2.1),.pure (pI x.2.1.2.2.2.1),.pure (pI x.2.1.2.2.2.2),.pure (du cd x.2.2)]
abbrev md (l:List bY):AV:= .c (.pure (du cd l))
abbrev Mg (t:Ty):AV:= .agg [.pure (pI t.1),.pure (pI t.2.1),.pure (pI t.2.2.1),.pure (pI t.2.2.2.1),.pure (pI t.2.2.2.2)]
def di (p:bI) (s:ByteArray):Option (Ty×List bY):=
 match p.params.find? (fun x=>decide (x.1=s))with
 |some x=>some x.2
 |none=>match p.defs.find? (fun d=>decide (d.name=s))with
  |some d=>some (d.ty,d.dims.map (·.2))
  |none=>none
def j0 (p:bI):Prop:=(∀x∈p.params,x.2.2.length≤12∧ ∀l∈x.2.2,l.2.length≤20)∧ ∀d∈p.defs,d.dims.length≤12∧d.red.length≤12∧(∀a∈d.dims,a.2.2.length≤20)∧ ∀a∈d.red,a.2.2.length≤20
def aW (d:zB):List ByteArray:=(d.dims++d.red).map (·.1)
def fq (vars sizes:List ByteArray) (l:bY):Prop:= ∀m∈l.2,m.1∈vars∨m.1∈sizes
instance (vars sizes:List ByteArray) (l:bY):Decidable (fq vars sizes l):=Classical.propDecidable _
def dX (p:bI) (vars:List ByteArray) (l:List bY):Int:=if ∀x∈l,fq vars p.sizes x then 0 else 9
def js:Ty:=(0,0,0,0,0)
def gU (p:bI) (vars:List ByteArray) (x:Ix):Int:=
 if x.2.1=⟨⟨[]⟩⟩then dX p vars [x.1]
 else match di p x.2.1 with
  |none=>9
  |some (t,dims)=>if t.1≠3 then 10 else if x.2.2.length≠dims.length then 11 else dX p vars x.2.2
def gx (p:bI) (vars:List ByteArray) (e:Ex):Ty×Int:=
 match di p e.name with
 |none=>(js,9)
 |some (t,dims)=>if e.idx.length≠dims.length then(js,11)else if de (e.idx.map (gU p vars))≠0 then(js,de (e.idx.map (gU p vars)))else(t,0)
def aZ (p:bI) (vars:List ByteArray) (e:Ex) (l:List Ty):Ty×Int:=
 if e.op=1∨e.op=12 then(e.ty,0)
 else if e.op=2 then((3,0,0,0,0),dX p vars [e.lin])
 else if e.op=3 then gx p vars e
 else if e.op=8 then(l.getD 0 js,0)
 else if e.op=11 then(l.getD 1 js,if l.getD 1 js=l.getD 2 js then 0 else 10)
 else if 16≤e.op then(js,0)
 else if 13≤e.op then(js,if l.getD 0 js=l.getD 1 js then 0 else 10)
 else(l.getD 0 js,if l.getD 0 js=l.getD 1 js then 0 else 10)
mutual
def eA (p:bI) (vars:List ByteArray):Ex→Ty×Int
 |.mk op name val ty lin idx args=>match dO p vars args with
  | .inl err=>(js,err)
  | .inr l=>aZ p vars (.mk op name val ty lin idx args) l
def dO (p:bI) (vars:List ByteArray):List Ex→Int⊕List Ty
 | []=> .inr []
 |e::r=>if(eA p vars e).2≠0 then .inl (eA p vars e).2 else match dO p vars r with
  | .inl err=> .inl err
  | .inr l=> .inr ((eA p vars e).1::l)
end
theorem oT (p:bI) (vars:List ByteArray) (e:Ex):eA p vars e=match dO p vars e.args with
  | .inl err=>(js,err)
  | .inr l=>aZ p vars e l:=by
 obtain⟨op,name,val,ty,lin,idx,args⟩:=e
 rw[eA]
 rfl
def bu (p:bI) (vars:List ByteArray) (e:Ex):Ty×Int:=
 if gZ e≠0 then(js,gZ e)else if mi e.op then(js,10)else if(eA p vars e).2≠0 then(js,(eA p vars e).2)else((eA p vars e).1,0)
def aS (taken:List ByteArray) (s:ByteArray):Int:=if ¬gc s then 7 else if s∈taken then 8 else 0
def bE (sizes:List ByteArray) (l:bY):Int:=if ¬bi l.2 then 1 else if ¬fq [] sizes l then 9 else 0
def dN (sizes taken:List ByteArray) (x:qZ):Int:=
 if aS taken x.1≠0 then aS taken x.1 else if ¬nb x.2.1 then 10 else if 6<x.2.2.length then 11 else de (x.2.2.map (bE sizes))
def bB (sizes:List ByteArray):List ByteArray→List iu→Int
 |_, []=>0
 |taken,a::r=>if aS taken a.1≠0 then aS taken a.1 else if bE sizes a.2≠0 then bE sizes a.2 else bB sizes (taken++ [a.1]) r
def gy (d:zB):Int:=if d.fold<0∨5<d.fold then 1 else if((d.fold=0∨d.fold=5)↔d.red.length=0)∧ ¬(d.fold=5∧d.dims.length=0)then 0 else 11
def br (p:bI) (k:Nat) (taken:List ByteArray) (d:zB):Int:=
 if aS taken d.name≠0 then aS taken d.name else if ¬nb d.ty then 10 else if 6<d.dims.length∨6<d.red.length then 11
 else if bB p.sizes p.sizes (d.dims++d.red)≠0 then bB p.sizes p.sizes (d.dims++d.red)else if gy d≠0 then gy d
 else if(bu {p with wher:= [],defs:=p.defs.take k,outs:= []} (aW d) d.body).2≠0 then(bu {p with wher:= [],defs:=p.defs.take k,outs:= []} (aW d) d.body).2
 else if(bu {p with wher:= [],defs:=p.defs.take k,outs:= []} (aW d) d.body).1≠d.ty then 10 else 0
section
variable {p : bI} {vars : List ByteArray}
theorem sS: ∀(l r:List Ex),dO p vars (l++r)=match dO p vars l with
  | .inl err=> .inl err
  |.inr a=>match dO p vars r with
   | .inl err=> .inl err
   | .inr b=> .inr (a++b)
 |[],r=>by
  simp only[List.nil_append,dO]
  cases dO p vars r<;>rfl
 |e::l,r=>by
  simp only[List.cons_append,dO]
  by_cases h:(eA p vars e).2=0
  ·rw[if_neg (not_not_intro h),if_neg (not_not_intro h),sS l r]
   cases dO p vars l with
   |inl x=>rfl
   |inr a=>cases dO p vars r<;>rfl
  ·rw[if_pos h,if_pos h]
theorem Gz {l:List Ex} {k:Nat} {ts:List Ty} (h:k<l.length) (hk:dO p vars (l.take k)= .inr ts) (h0:(eA p vars l[k]).2=0):dO p vars (l.take (k+1))= .inr (ts++ [(eA p vars l[k]).1]):=by
 rw[List.take_succ_eq_append_getElem h,sS,hk]
 simp only[dO]
 rw[if_neg (not_not_intro h0)]
theorem GY {l:List Ex} {k:Nat} {ts:List Ty} (h:k<l.length) (hk:dO p vars (l.take k)= .inr ts) (h0:(eA p vars l[k]).2≠0):dO p vars l= .inl (eA p vars l[k]).2:=by
 have e:dO p vars (l.take k++(l[k]::l.drop (k+1)))= .inl (eA p vars l[k]).2:=by
  rw[sS,hk]
  simp only[dO]
  rw[if_pos h0]
 rw[←List.drop_eq_getElem_cons h,List.take_append_drop]at e
 exact e
theorem qJ: ∀{l:List Ex} {ts:List Ty},dO p vars l= .inr ts→ts.length=l.length
 | [],ts,h=>by cases h;rfl
 |e::l,ts,h=>by
  simp only[dO]at h
  split at h
  ·cases h
  ·split at h
   ·cases h
   ·rename_i l' hl
    cases h
    simp[qJ hl]
def zE (op:Int) (r:Ty×Int):Ty×Int:=if r.2≠0∧op≠2 then(js,r.2)else r
def jf (p:bI) (vars:List ByteArray) (e:Ex):Ty×Int:=match dO p vars e.args with
  | .inl err=>(js,err)
  | .inr l=>zE e.op (aZ p vars e l)
theorem nn (e:Ex):(jf p vars e).2=(eA p vars e).2:=by
 rw[oT]
 unfold jf
 cases dO p vars e.args with
 |inl x=>rfl
 |inr l=>
  simp only[zE]
  split<;>rfl
theorem Nl {e:Ex} (h:(eA p vars e).2=0):(jf p vars e).1=(eA p vars e).1:=by
 rw[oT]at h ⊢
 unfold jf
 cases hx:dO p vars e.args with
 |inl x=>rfl
 |inr l=>
  rw[hx]at h
  simp only[zE]at h ⊢
  rw[if_neg (fun hh=>hh.1 h)]
end
theorem yX {a b:Ty} (h:a.1=b.1∧a.2.1=b.2.1∧a.2.2.1=b.2.2.1∧a.2.2.2.1=b.2.2.2.1∧a.2.2.2.2=b.2.2.2.2):a=b:=by
 obtain⟨a1,a2,a3,a4,a5⟩:=a
 obtain⟨b1,b2,b3,b4,b5⟩:=b
 simp_all
def i0 (e:Ex):Prop:= ∀a∈e.pre,(a.args.length:Int)=jJ a.op∧1≤a.op∧a.op≤18∧a.idx.length≤6∧ ∀x∈a.idx,x.2.2.length≤6
theorem jd: ∀{l:List Int},de l=0→ ∀x∈l,x=0
 |y::r,h,x,hx=>by
  simp only[de]at h
  split at h
  ·exact absurd h ‹_›
  ·rcases List.mem_cons.1 hx with rfl|hx
   ·exact Classical.not_not.1 ‹_›
   ·exact jd h x hx
theorem ro {e:Ex} (h:gZ e=0):i0 e:=by
 unfold gZ at h
 split at h
 ·cases h
 ·split at h
  ·cases h
  ·intro a ha
   have:=iT (jd h _ (List.mem_map_of_mem ha))
   exact⟨this.2.2.1.1,this.1.1.1,this.1.1.2,this.2.2.1.2.1,this.2.2.1.2.2⟩
theorem iU {e a:Ex} (h:i0 e) (ha:a∈e.args):i0 a:=fun b hb=>h b (by
 rw[Ex.pre_eq]
 refine List.mem_cons_of_mem _ ?_
 clear h
 generalize e.args=l at ha
 induction l with
 |nil=>cases ha
 |cons x r ihr=>
  rw[Ex.pres]
  rcases List.mem_cons.1 ha with rfl|ha
  ·exact List.mem_append_left _ hb
  ·exact List.mem_append_right _ (ihr ha))
theorem dY {e:Ex} (h:i0 e):(e.args.length:Int)=jJ e.op∧1≤e.op∧e.op≤18∧e.idx.length≤6∧ ∀x∈e.idx,x.2.2.length≤6:=h e (by rw[Ex.pre_eq];exact List.mem_cons_self)
theorem zS {o:Int} (h1:1≤o) (h2:o≤18):((o=1∨o=2∨o=3)∧jJ o=0)∨((o=8∨o=12∨o=18)∧jJ o=1)∨(o=11∧jJ o=3)∨((o=13∨o=14∨o=15)∧jJ o=2)∨((o=16∨o=17)∧jJ o=2)∨((4≤o∧o≤10∧o≠8)∧jJ o=2):=by
 unfold jJ
 have:o=1∨o=2∨o=3∨o=4∨o=5∨o=6∨o=7∨o=8∨o=9∨o=10∨o=11∨o=12∨o=13∨o=14∨o=15∨o=16∨o=17∨o=18:=by omega
 rcases this with rfl|rfl|rfl|rfl|rfl|rfl|rfl|rfl|rfl|rfl|rfl|rfl|rfl|rfl|rfl|rfl|rfl|rfl<;>simp
theorem abg {l:List Ty} (h:l.length=1): ∃a,l= [a]:=by match l,h with| [a],_=>exact⟨a,rfl⟩
theorem YC {l:List Ty} (h:l.length=2): ∃a b,l= [a,b]:=by match l,h with| [a,b],_=>exact⟨a,b,rfl⟩
theorem abG {l:List Ty} (h:l.length=3): ∃a b c,l= [a,b,c]:=by match l,h with| [a,b,c],_=>exact⟨a,b,c,rfl⟩
def Fg:Int→List Int→Option (Int×Int)
 |_, []=>none
 |at',x::r=>if x≠0 then some (at',x)else Fg (at'+1) r
theorem TW {l:List Int}: ∀{a:Int},(∀x∈l,x=0)→Fg a l=none:=by
 induction l with
 |nil=>intro a _;rfl
 |cons x r ih=>
  intro a h
  rw[Fg,if_neg (not_not_intro (h x List.mem_cons_self))]
  exact ih fun y hy=>h y (List.mem_cons_of_mem _ hy)
theorem Y9 {l:List Int}: ∀{a:Int} {k:Nat} (hk:k<l.length),(∀j (h:j<k),l[j]'(by omega)=0)→l[k]≠0→Fg a l=some (a+k,l[k]):=by
 induction l with
 |nil=>intro a k hk;simp at hk
 |cons x r ih=>
  intro a k hk h1 h2
  cases k with
  |zero=>
   rw[Fg,if_pos (by simpa using h2)]
   simp
  |succ k=>
   rw[Fg,if_neg (not_not_intro (show x=0 from h1 0 (by omega)))]
   rw[ih (k:=k) (by simpa using hk) (fun j hj=>h1 (j+1) (by omega)) (by simpa using h2)]
   simp
   omega
theorem nk {n k:Nat} {f:Nat→Int} (h:k<((List.range n).map f).length):((List.range n).map f)[k]=f k:=by simp
theorem kI {n:Nat} {f:Nat→Int} {a:Int} (h: ∀j,j<n→f j=0):Fg a ((List.range n).map f)=none:=TW fun x hx=>by
 obtain⟨j,hj,rfl⟩:=List.mem_map.1 hx
 exact h j (List.mem_range.1 hj)
theorem so {n k:Nat} {f:Nat→Int} {a:Int} (hk:k<n) (h: ∀j,j<k→f j=0) (h2:f k≠0):Fg a ((List.range n).map f)=some (a+k,f k):=by
 have:=Y9 (l:=(List.range n).map f) (a:=a) (k:=k) (by simpa using hk) (fun j hj=>by rw[nk];exact h j hj) (by rw[nk];exact h2)
 rw[this,nk]
def dZ (p:bI) (k:Nat):List ByteArray:=p.sizes++(p.params.take k).map (·.1)
def ee (p:bI) (k:Nat):List ByteArray:=p.sizes++p.params.map (·.1)++(p.defs.take k).map (·.name)
def VB (p:bI) (k:Nat):Int:=match p.sizes[k]? with
 |some s=>aS (p.sizes.take k) s
 |none=>0
def Aq (p:bI) (k:Nat):Int:=match p.params[k]? with
 |some x=>dN p.sizes (dZ p k) x
 |none=>0
def Bi (p:bI) (k:Nat):Int:=match p.defs[k]? with
 |some d=>br p k (ee p k) d
 |none=>0
def Py (p:bI) (k:Nat):Int:=match p.outs[k]? with
 |some s=>if di p s=none then 9 else if s∈p.outs.take k then 8 else 0
 |none=>0
def jU (p:bI):Prop:=p.sizes.length≤64∧p.params.length≤64∧p.defs.length≤64∧p.outs.length≤64∧p.wher.length≤256
instance (p:bI):Decidable (jU p):=inferInstanceAs (Decidable (_∧_))
def ou (p:bI):Int:=de ((List.range p.sizes.length).map (VB p))
def uj (p:bI):Int:=de (p.wher.map fun c=>bE p.sizes c.1)
def bQ (p:bI):Int×Int:=
 if ¬jU p then(0,2)else if ou p≠0 then(0,ou p)else if uj p≠0 then(1,uj p)
 else match Fg 2 ((List.range p.params.length).map (Aq p))with
 |some r=>r
 |none=>match Fg (2+p.params.length) ((List.range p.defs.length).map (Bi p))with
  |some r=>r
  |none=>match Fg (2+p.params.length+p.defs.length) ((List.range p.outs.length).map (Py p))with
   |some r=>r
   |none=>(0,0)
section
variable {p : bI}
theorem yZ (h: ¬jU p):bQ p=(0,2):=if_pos h
theorem CT (h:jU p) {x:Int} (h1:ou p=x) (hx:x≠0):bQ p=(0,x):=by
 unfold bQ
 rw[if_neg (not_not_intro h),h1,if_pos hx]
theorem Co (h:jU p) (h1:ou p=0) {x:Int} (h2:uj p=x) (hx:x≠0):bQ p=(1,x):=by
 unfold bQ
 rw[if_neg (not_not_intro h),if_neg (not_not_intro h1),h2,if_pos hx]
theorem zb (h:jU p) (h1:ou p=0) (h2:uj p=0) {k:Nat} (hk:k<p.params.length) (h3: ∀j,j<k→Aq p j=0) {x:Int} (h4:Aq p k=x) (hx:x≠0):bQ p=((2:Int)+k,x):=by
 unfold bQ
 rw[if_neg (not_not_intro h),if_neg (not_not_intro h1),if_neg (not_not_intro h2),so hk h3 (by rw[h4];exact hx),h4]
theorem yK (h:jU p) (h1:ou p=0) (h2:uj p=0) (h3: ∀j,j<p.params.length→Aq p j=0) {k:Nat} (hk:k<p.defs.length) (h4: ∀j,j<k→Bi p j=0) {x:Int} (h5:Bi p k=x) (hx:x≠0):bQ p=((2:Int)+p.params.length+k,x):=by
 unfold bQ
 rw[if_neg (not_not_intro h),if_neg (not_not_intro h1),if_neg (not_not_intro h2),kI h3]
 simp only
 rw[so hk h4 (by rw[h5];exact hx),h5]
theorem sL (h:jU p) (h1:ou p=0) (h2:uj p=0) (h3: ∀j,j<p.params.length→Aq p j=0) (h4: ∀j,j<p.defs.length→Bi p j=0) {k:Nat} (hk:k<p.outs.length) (h5: ∀j,j<k→Py p j=0) {x:Int} (h6:Py p k=x) (hx:x≠0):
  bQ p=((2:Int)+p.params.length+p.defs.length+k,x):=by
 unfold bQ
 rw[if_neg (not_not_intro h),if_neg (not_not_intro h1),if_neg (not_not_intro h2),kI h3]
 simp only
 rw[kI h4]
 simp only
 rw[so hk h5 (by rw[h6];exact hx),h6]
theorem Cg (h:jU p) (h1:ou p=0) (h2:uj p=0) (h3: ∀j,j<p.params.length→Aq p j=0) (h4: ∀j,j<p.defs.length→Bi p j=0) (h5: ∀j,j<p.outs.length→Py p j=0):bQ p=(0,0):=by
 unfold bQ
 rw[if_neg (not_not_intro h),if_neg (not_not_intro h1),if_neg (not_not_intro h2),kI h3]
 simp only
 rw[kI h4]
 simp only
 rw[kI h5]
theorem Qv {k:Nat} (h:k<p.sizes.length):VB p k=aS (p.sizes.take k) p.sizes[k]:=by
 unfold VB
 rw[List.getElem?_eq_getElem h]
theorem LG {k:Nat} (h:k<p.params.length):Aq p k=dN p.sizes (dZ p k) p.params[k]:=by
 unfold Aq
 rw[List.getElem?_eq_getElem h]
theorem EV {k:Nat} (h:k<p.defs.length):Bi p k=br p k (ee p k) p.defs[k]:=by
 unfold Bi
 rw[List.getElem?_eq_getElem h]
theorem Ly {k:Nat} (h:k<p.outs.length):Py p k=if di p p.outs[k]=none then 9 else if p.outs[k]∈p.outs.take k then 8 else 0:=by
 unfold Py
 rw[List.getElem?_eq_getElem h]
theorem F5 (h: ∀j,j<p.sizes.length→VB p j=0):ou p=0:=by
 have key: ∀l:List Int,(∀x∈l,x=0)→de l=0:=by
  intro l
  induction l with
  |nil=>intro _;rfl
  |cons x r ih=>
   intro h
   rw[de,if_neg (not_not_intro (h x List.mem_cons_self))]
   exact ih fun y hy=>h y (List.mem_cons_of_mem _ hy)
 exact key _ fun x hx=>by
  obtain⟨j,hj,rfl⟩:=List.mem_map.1 hx
  exact h j (List.mem_range.1 hj)
theorem Oh {k:Nat} (hk:k<p.sizes.length) (h: ∀j,j<k→VB p j=0) {x:Int} (h2:VB p k=x) (hx:x≠0):ou p=x:=by
 have hl:k<((List.range p.sizes.length).map (VB p)).length:=by simpa using hk
 have h0:de (((List.range p.sizes.length).map (VB p)).take k)=0:=by
  have key: ∀l:List Int,(∀x∈l,x=0)→de l=0:=by
   intro l
   induction l with
   |nil=>intro _;rfl
   |cons x r ih=>
    intro h
    rw[de,if_neg (not_not_intro (h x List.mem_cons_self))]
    exact ih fun y hy=>h y (List.mem_cons_of_mem _ hy)
  refine key _ fun x hx=> ?_
  obtain⟨j,hj,rfl⟩:=List.mem_iff_getElem.1 hx
  rw[List.getElem_take,nk]
  exact h j (by simp at hj;omega)
 have:=oH hl h0 (by rw[nk,h2];exact hx)
 unfold ou
 rw[this,nk,h2]
theorem OC {k:Nat} (h:k<p.params.length):dZ p (k+1)=dZ p k++ [p.params[k].1]:=by
 unfold dZ
 rw[List.take_succ_eq_append_getElem h,List.map_append,List.append_assoc]
 rfl
theorem Pw:dZ p p.params.length=p.sizes++p.params.map (·.1):=by
 unfold dZ
 rw[List.take_of_length_le (Nat.le_refl _)]
theorem Ok:ee p 0=p.sizes++p.params.map (·.1):=by simp[ee]
theorem Pv {k:Nat} (h:k<p.defs.length):ee p (k+1)=ee p k++ [p.defs[k].name]:=by
 unfold ee
 rw[List.take_succ_eq_append_getElem h,List.map_append,←List.append_assoc]
 rfl
theorem KY (k:Nat) (h:jU p):(dZ p k).length≤128∧(ee p k).length≤192:=by
 obtain⟨h1,h2,h3,_⟩:=h
 unfold dZ ee
 simp
 omega
end
def cM (p:bI) (k:Nat):bI:={p with wher:= [],defs:=p.defs.take k,outs:= []}
theorem DO {p:bI} (h:j0 p) (k:Nat):j0 (cM p k):=⟨h.1,fun d hd=>h.2 d (List.mem_of_mem_take hd)⟩
def pR (p:bI):Prop:= ∀d∈p.defs,∀a∈d.body.pre,tL a.val
abbrev KL:=List (ByteArray×Int)
def Ht (K:KL):List (MK×List PC):=K.map fun x=>(MK.str x.1.data.toList, [pI x.2])
def kw (K:KL):List (MK×List AC):=K.map fun x=>(MK.str x.1.data.toList, [.pure (pI x.2)])
def jK:KL→ByteArray→Option Int
 | [],_=>none
 |(a,k)::r,s=>if a=s then some k else jK r s
def um:KL→ByteArray→Int→KL
 | [],s,k=> [(s,k)]
 |(a,j)::r,s,k=>if a=s then(s,k)::r else(a,j)::um r s k
def tG (K:KL) (s:ByteArray):Int:=(jK K s).getD 0
theorem zc {a s:ByteArray}:(MK.str a.data.toList=MK.str s.data.toList)↔a=s:=by
 constructor
 ·intro h
  have h1:a.data.toList=s.data.toList:=by injection h
  obtain⟨⟨a⟩⟩:=a
  obtain⟨⟨s⟩⟩:=s
  simp only at h1
  rw[h1]
 ·intro h;rw[h]
theorem FM (K:KL):qi (Ht K)=kw K:=by simp[qi,Ht,kw,List.map_map,Function.comp_def]
theorem sN (s:ByteArray): ∀K:KL,iD (kw K) (.str s.data.toList)=(jK K s).map fun k=> [.pure (pI k)]
 | []=>rfl
 |(a,k)::r=>by
  have ih:=sN s r
  simp only[kw,List.map_cons,iD,jK]at ih ⊢
  by_cases h:a=s
  ·rw[if_pos (zc.2 h),if_pos h];rfl
  ·rw[if_neg (fun e=>h (zc.1 e)),if_neg h,ih]
theorem RL {mem:List (Nat×bc)}: ∀K:KL,mG mem none (kw K)=some (Ht K)
 | []=>rfl
 |x::r=>by
  have ih:=RL (mem:=mem) r
  simp only[kw,Ht,List.map_cons,mG,qn,dS]at ih ⊢
  rw[ih]
theorem K6 (s:ByteArray) (k:Int): ∀K:KL,Ct (kw K) (.str s.data.toList) [.pure (pI k)]=kw (um K s k)
 | []=>rfl
 |(a,j)::r=>by
  have ih:=K6 s k r
  simp only[kw,List.map_cons,Ct,um]at ih ⊢
  by_cases h:a=s
  ·rw[if_pos (zc.2 h),if_pos h];rfl
  ·rw[if_neg (fun e=>h (zc.1 e)),if_neg h,ih];rfl
theorem S9 (K:KL) (s s':ByteArray) (k:Int):jK (um K s k) s'=if s=s' then some k else jK K s':=by
 induction K with
 |nil=>simp[um,jK]
 |cons x r ih=>
  obtain⟨a,j⟩:=x
  simp only[um]
  by_cases h:a=s
  ·subst h
   rw[if_pos rfl]
   simp only[jK]
   by_cases h2:a=s'<;>simp[h2]
  ·rw[if_neg h]
   simp only[jK,ih]
   by_cases h2:a=s'
   ·subst h2
    rw[if_pos rfl,if_neg (fun e=>h e.symm),if_pos rfl]
   ·rw[if_neg h2,if_neg h2]
theorem GB (K:KL) (s s':ByteArray) (k:Int):tG (um K s k) s'=if s=s' then k else tG K s':=by
 unfold tG
 rw[S9]
 split<;>rfl
theorem Gk (s:ByteArray):tG [] s=0:=rfl
theorem ja {K:KL} {s:ByteArray} {k:Int} (h:jK K s=some k):tG K s=k:=by unfold tG;rw[h];rfl
theorem oF {K:KL} {s:ByteArray} (h:jK K s=none):tG K s=0:=by unfold tG;rw[h];rfl
def lS (K:KL) (k:Int):List ByteArray→KL
 | []=>K
 |s::r=>lS (um K s k) k r
theorem Gi (k:Int): ∀(l r:List ByteArray) (K:KL),lS K k (l++r)=lS (lS K k l) k r
 | [],r,K=>rfl
 |s::l,r,K=>by
  simp only[List.cons_append,lS]
  exact Gi k l r _
theorem CP {K:KL} {k:Int} {l:List ByteArray} {i:Nat} (h:i<l.length):lS K k (l.take (i+1))=um (lS K k (l.take i)) l[i] k:=by
 rw[List.take_succ_eq_append_getElem h,Gi]
 rfl
theorem rq {k:Int} (s:ByteArray): ∀(l:List ByteArray) (K:KL),tG (lS K k l) s=if s∈l then k else tG K s
 | [],K=>by simp[lS]
 |a::l,K=>by
  rw[lS,rq s l,GB]
  by_cases h:s∈l
  ·rw[if_pos h,if_pos (List.mem_cons_of_mem _ h)]
  ·rw[if_neg h]
   by_cases h2:a=s
   ·rw[if_pos h2,if_pos (by rw[h2];exact List.mem_cons_self)]
   ·rw[if_neg h2,if_neg]
    intro hm
    rcases List.mem_cons.1 hm with rfl|hm
    ·exact h2 rfl
    ·exact h hm
end
end Go.Proofs.YthbcbaembicdbaaGreatDoor
