import Derived.Test.YthkaaahphlneiaaGreatDoorV12a
set_option linter.unusedVariables false
set_option linter.unusedSimpArgs false
namespace Go.Proofs.YthkaaahphlneiaaGreatDoor
open Go.Abs Go.RowKit
abbrev Ix:=ca×ByteArray×List ca
def bQ (l:ca):List PC:= [pI l.1,aE l.2]
def eB (x:Ix):List PC:= [pI x.1.1,aE x.1.2,pS x.2.1,c9 bQ x.2.2]
abbrev YL (x:Ix):AV:= .agg [.pure (pI x.1.1),.pure (aE x.1.2),.pure (pS x.2.1),.pure (c9 bQ x.2.2)]
inductive Ex where
 |mk (op:Int) (name:ByteArray) (val:Fr) (ty:Ty) (lin:ca) (idx:List Ix) (args:List Ex)
namespace Ex
def op:Ex→Int| .mk o _ _ _ _ _ _=>o
def name:Ex→ByteArray| .mk _ s _ _ _ _ _=>s
def val:Ex→Fr| .mk _ _ v _ _ _ _=>v
def ty:Ex→Ty| .mk _ _ _ t _ _ _=>t
def lin:Ex→ca| .mk _ _ _ _ l _ _=>l
def idx:Ex→List Ix| .mk _ _ _ _ _ x _=>x
def args:Ex→List Ex| .mk _ _ _ _ _ _ a=>a
mutual
def row:Ex→List PC
 | .mk op name val ty lin idx args=> [pI op,pS name,pI val.1,pI val.2,pI ty.1,pI ty.2.1,pI ty.2.2.1,pI ty.2.2.2.1,pI ty.2.2.2.2,pI lin.1,aE lin.2,c9 eB idx,.slice (rows args)]
def rows:List Ex→List (List PC)
 | []=> []
 |e::r=>row e::rows r
end
theorem Ou: ∀l:List Ex,rows l=l.map row
 | []=>by rw[rows];rfl
 |e::r=>by rw[rows,Ou r];rfl
theorem row_eq (e:Ex):e.row= [pI e.op,pS e.name,pI e.val.1,pI e.val.2,pI e.ty.1,pI e.ty.2.1,pI e.ty.2.2.1,pI e.ty.2.2.2.1,pI e.ty.2.2.2.2,pI e.lin.1,aE e.lin.2,c9 eB e.idx,.slice (e.args.map row)]:=by
 obtain⟨op,name,val,ty,lin,idx,args⟩:=e
 rw[row,Ou]
 rfl
mutual
def dep:Ex→Nat
 | .mk _ _ _ _ _ _ args=>1+deps args
def deps:List Ex→Nat
 | []=>0
 |e::r=>max (dep e) (deps r)
end
mutual
def sz:Ex→Nat
 | .mk _ _ _ _ _ _ args=>1+szs args
def szs:List Ex→Nat
 | []=>0
 |e::r=>sz e+szs r
end
mutual
def pre:Ex→List Ex
 | .mk op name val ty lin idx args=> .mk op name val ty lin idx args::pres args
def pres:List Ex→List Ex
 | []=> []
 |e::r=>pre e++pres r
end
theorem dep_eq (e:Ex):e.dep=1+deps e.args:=by cases e;rw[dep];rfl
theorem sz_eq (e:Ex):e.sz=1+szs e.args:=by cases e;rw[sz];rfl
theorem pre_eq (e:Ex):e.pre=e::pres e.args:=by cases e;rw[pre];rfl
theorem PV {e a:Ex} (h:a∈e.args):SizeOf.sizeOf a<SizeOf.sizeOf e:=by
 obtain⟨op,name,val,ty,lin,idx,args⟩:=e
 have:=List.sizeOf_lt_of_mem (show a∈args from h)
 simp only[mk.sizeOf_spec]
 omega
theorem ind {p:Ex→Prop} (h: ∀e:Ex,(∀a∈e.args,p a)→p e): ∀e:Ex,p e:=by
 have key: ∀(n:Nat) (e:Ex),SizeOf.sizeOf e<n→p e:=by
  intro n
  induction n with
  |zero=>intro e he;omega
  |succ n ih=>exact fun e he=>h e fun a ha=>ih a (by have:=PV ha;omega)
 exact fun e=>key _ e (Nat.lt_succ_self _)
theorem dep_pos (e:Ex):1≤e.dep:=by rw[dep_eq];omega
theorem deps_take: ∀{l:List Ex} {k:Nat} (h:k<l.length),deps (l.take (k+1))=max (deps (l.take k)) (l[k].dep)
 |e::r,0,h=>by simp[deps]
 |e::r,k+1,h=>by
  have:=deps_take (l:=r) (k:=k) (by simpa using h)
  simp only[List.take_succ_cons,deps,this,List.getElem_cons_succ]
  omega
theorem szs_append: ∀(l r:List Ex),szs (l++r)=szs l+szs r
 | [],r=>by simp[szs]
 |e::l,r=>by simp only[List.cons_append,szs,szs_append l r];omega
theorem szs_take {l:List Ex} {k:Nat} (h:k<l.length):szs (l.take (k+1))=szs (l.take k)+l[k].sz:=by
 rw[List.take_succ_eq_append_getElem h,szs_append]
 simp[szs]
theorem pres_append: ∀(l r:List Ex),pres (l++r)=pres l++pres r
 | [],r=>by simp[pres]
 |e::l,r=>by simp only[List.cons_append,pres,pres_append l r,List.append_assoc]
theorem pres_take {l:List Ex} {k:Nat} (h:k<l.length):pres (l.take (k+1))=pres (l.take k)++l[k].pre:=by
 rw[List.take_succ_eq_append_getElem h,pres_append]
 simp[pres]
theorem pres_length: ∀{l:List Ex},(∀a∈l,a.pre.length=a.sz)→(pres l).length=szs l
 | [],_=>by simp[pres,szs]
 |e::r,h=>by rw[pres,szs,List.length_append,h e List.mem_cons_self,pres_length fun a ha=>h a (List.mem_cons_of_mem _ ha)]
theorem pre_length (e:Ex):e.pre.length=e.sz:=by
 refine ind (p:=fun e=>e.pre.length=e.sz) (fun e ih=> ?_) e
 rw[pre_eq,sz_eq,List.length_cons,pres_length ih]
 omega
theorem sz_pos (e:Ex):1≤e.sz:=by rw[sz_eq];omega
theorem szs_len: ∀l:List Ex,l.length≤szs l
 | []=>by simp
 |e::r=>by have:=szs_len r;have:=sz_pos e;rw[szs,List.length_cons];omega
end Ex
abbrev fm (e:Ex):AV:= .agg [.pure (pI e.op),.pure (pS e.name),.pure (pI e.val.1),.pure (pI e.val.2),.pure (pI e.ty.1),.pure (pI e.ty.2.1),.pure (pI e.ty.2.2.1),.pure (pI e.ty.2.2.2.1),.pure (pI e.ty.2.2.2.2),.pure (pI e.lin.1),.pure (aE e.lin.2),.pure (c9 eB e.idx),.pure (.slice (e.args.map Ex.row))]
theorem BD {b:Bool} {p:Prop} [Decidable p] (h:b=true↔p):AV.c (.pure (.val (.bool b)))=Go.Abs.B (decide p):=by
 have:b=decide p:=by by_cases hp:p<;>simp_all
 rw[this]
theorem IE {a b:Int} (h:a=b):AV.c (.pure (.val (.int .i64 a)))=I b:=by rw[h]
theorem BT {p:Prop}:qD p=true↔p:=⟨fun h=>Classical.byContradiction (fun hn=>(by rw[iZ hn]at h;cases h)),kM⟩
theorem B4 {p:Prop}:qD p=false↔ ¬p:=⟨fun h hp=>(by rw[kM hp]at h;cases h),iZ⟩
theorem BC {b:Bool} {p:Prop} (h:b=true↔p):AV.c (.pure (.val (.bool b)))=Go.Abs.B (qD p):=by
 have:b=qD p:=by
  by_cases hp:p
  ·rw[kM hp,h.2 hp]
  ·rw[iZ hp];exact Bool.eq_false_iff.2 fun e=>hp (h.1 e)
 rw[this]
def lF (o:Int):Prop:=13≤o∧o≤18
instance (o:Int):Decidable (lF o):=inferInstanceAs (Decidable (_∧_))
def jn (o:Int):Int:=if o=1∨o=2∨o=3 then 0 else if o=8∨o=12∨o=18 then 1 else if o=11 then 3 else 2
def uj (o:Int) (i:Nat):Prop:=o=16∨o=17∨o=18∨(o=11∧i=0)
instance (o:Int) (i:Nat):Decidable (uj o i):=inferInstanceAs (Decidable (_∨_))
def Ei (l:ca):Prop:=l.1=0∧l.2.length=0
instance (l:ca):Decidable (Ei l):=inferInstanceAs (Decidable (_∧_))
def LG (x:Ix):Prop:=(x.2.1=⟨⟨[]⟩⟩→x.2.2.length=0)∧(x.2.1≠⟨⟨[]⟩⟩→Ei x.1)
noncomputable instance (x:Ix):Decidable (LG x):=Classical.propDecidable _
def qz (e:Ex):Prop:=(1≤e.op∧e.op≤18)∧(e.op≠1→e.val.1=0∧e.val.2=0)∧(e.op≠1→e.op≠12→e.ty.1=0∧e.ty.2.1=0∧e.ty.2.2.1=0∧e.ty.2.2.2.1=0∧e.ty.2.2.2.2=0)∧
 (e.op≠2→Ei e.lin)∧(e.op≠3→e.name=⟨⟨[]⟩⟩∧e.idx.length=0)∧ ∀x∈e.idx,LG x
def tG (e:Ex):Prop:=(e.op=3→fp e.name)∧ ∀x∈e.idx,x.2.1≠⟨⟨[]⟩⟩→fp x.2.1
def tg (e:Ex):Prop:=(e.args.length:Int)=jn e.op∧e.idx.length≤6∧ ∀x∈e.idx,x.2.2.length≤6
def nv (e:Ex):Prop:=((e.op=1∨e.op=12)→l8 e.ty)∧ ∀(i:Nat) (h:i<e.args.length),lF e.args[i].op↔uj e.op i
def Ex.forms (e:Ex):List ca:=e.lin::e.idx.flatMap fun x=>x.1::x.2.2
def tO (e:Ex):Prop:=(e.op=1→fI e.ty e.val)∧ ∀l∈e.forms,cd l.2
noncomputable instance (e:Ex):Decidable (qz e):=Classical.propDecidable _
noncomputable instance (e:Ex):Decidable (tG e):=Classical.propDecidable _
noncomputable instance (e:Ex):Decidable (tg e):=Classical.propDecidable _
noncomputable instance (e:Ex):Decidable (nv e):=Classical.propDecidable _
noncomputable instance (e:Ex):Decidable (tO e):=Classical.propDecidable _
noncomputable def ba (e:Ex):Int:=if ¬qz e then 5 else if ¬tG e then 7 else if ¬tg e then 11 else if ¬nv e then 10 else if ¬tO e then 1 else 0
def cQ:List Int→Int
 | []=>0
 |x::r=>if x≠0 then x else cQ r
theorem kV: ∀(l r:List Int),cQ (l++r)=if cQ l≠0 then cQ l else cQ r
 | [],r=>by simp[cQ]
 |x::l,r=>by
  simp only[List.cons_append,cQ,kV l r]
  by_cases h:x=0<;>simp[h]
theorem iD {l:List Int} {k:Nat} (h:k<l.length) (hf:cQ (l.take k)=0):cQ (l.take (k+1))=l[k]:=by
 rw[List.take_succ_eq_append_getElem h,kV,if_neg (by rw[hf];simp)]
 simp only[cQ]
 split<;>simp_all
theorem m9 {l:List Int} {k:Nat} (h:k<l.length) (hf:cQ (l.take k)=0) (hp:l[k]≠0):cQ l=l[k]:=by
 have key:cQ (l.take (k+1)++l.drop (k+1))=l[k]:=by rw[kV,iD h hf,if_pos hp]
 rw[List.take_append_drop]at key
 exact key
noncomputable def jt (e:Ex):Int:=cQ (e.pre.map ba)
noncomputable def gT (e:Ex):Int:=if 40<e.dep then 13 else if 2000<e.sz then 2 else jt e
theorem Nk (e:Ex):jt e=if ba e≠0 then ba e else cQ ((Ex.pres e.args).map ba):=by
 rw[jt,Ex.pre_eq,List.map_cons,cQ]
theorem m4 {e:Ex} (h:ba e=0):qz e∧tG e∧tg e∧nv e∧tO e:=by
 unfold ba at h
 repeat' split at h
 all_goals first
  |(simp at h;done)
  |simp_all
noncomputable def nB {α:Type} (p:α→Prop) (xs:List α):Int:=match xs.findIdx? (fun x=>qD (p x))with
 |some k=>k
 |none=> -1
theorem y8 {α:Type} {p:α→Prop} {xs:List α} {k:Nat} (hk:k<xs.length) (h:p xs[k]) (hn: ∀j (hj:j<k),¬p (xs[j]'(by omega))):nB p xs=k:=by
 have:xs.findIdx? (fun x=>qD (p x))=some k:=by
  rw[List.findIdx?_eq_some_iff_getElem]
  exact⟨hk,kM h,fun j hj=>by simp[iZ (hn j hj)]⟩
 rw[nB,this]
theorem re {α:Type} {p:α→Prop} {xs:List α} (hn: ∀j (hj:j<xs.length),¬p xs[j]):nB p xs= -1:=by
 have:xs.findIdx? (fun x=>qD (p x))=none:=by
  rw[List.findIdx?_eq_none_iff]
  intro x hx
  obtain⟨j,hj,rfl⟩:=List.mem_iff_getElem.1 hx
  exact iZ (hn j hj)
 rw[nB,this]
theorem sW {α:Type} (p:α→Prop) (xs:List α):(nB p xs= -1∧ ∀x∈xs,¬p x)∨ ∃k,∃h:k<xs.length,nB p xs=k∧p xs[k]∧ ∀j (hj:j<k),¬p (xs[j]'(by omega)):=by
 unfold nB
 cases e:xs.findIdx? (fun x=>qD (p x))with
 |none=>
  rw[List.findIdx?_eq_none_iff]at e
  refine .inl ⟨rfl,fun x hx h=> ?_⟩
  have:=e x hx
  rw[kM h]at this
  cases this
 |some k=>
  rw[List.findIdx?_eq_some_iff_getElem]at e
  obtain⟨hk,h1,h2⟩:=e
  refine .inr ⟨k,hk,rfl, ?_,fun j hj h=> ?_⟩
  ·exact Classical.byContradiction fun hn=>by rw[iZ hn]at h1;cases h1
  ·have:=h2 j hj
   rw[kM h]at this
   simp at this
theorem KB {α:Type} {p:α→Prop} {xs:List α}:0≤nB p xs↔ ∃x∈xs,p x:=by
 rcases sW p xs with⟨h1,h2⟩|⟨k,hk,h1,h2,_⟩
 ·rw[h1]
  exact⟨fun h=>by omega,fun⟨x,hx,h⟩=>absurd h (h2 x hx)⟩
 ·rw[h1]
  exact⟨fun _=>⟨_,List.getElem_mem hk,h2⟩,fun _=>by omega⟩
end Go.Proofs.YthkaaahphlneiaaGreatDoor
