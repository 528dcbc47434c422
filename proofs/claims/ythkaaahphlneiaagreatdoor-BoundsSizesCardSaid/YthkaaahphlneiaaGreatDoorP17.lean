import Derived.Test.YthkaaahphlneiaaGreatDoorP14
import Derived.Test.YthkaaahphlneiaaGreatDoorV12a
set_option linter.unusedVariables false
set_option linter.unusedSimpArgs false
namespace Go.Proofs.YthkaaahphlneiaaGreatDoor
open Go.Abs Go.RowKit
abbrev eY:=ByteArray×ca
def ed (a:eY):List PC:= [pS a.1,pI a.2.1,aE a.2.2]
abbrev pH:=ByteArray×Ty×List ca
def gV (x:pH):List PC:= [pS x.1,pI x.2.1.1,pI x.2.1.2.1,pI x.2.1.2.2.1,pI x.2.1.2.2.2.1,pI x.2.1.2.2.2.2,c9 bQ x.2.2]
structure zH where
 name:ByteArray
 ty:Ty
 dims:List eY
 red:List eY
 fold:Int
 body:Ex
def cr (d:zH):List PC:= [pS d.name,pI d.ty.1,pI d.ty.2.1,pI d.ty.2.2.1,pI d.ty.2.2.2.1,pI d.ty.2.2.2.2,c9 ed d.dims,c9 ed d.red,pI d.fold,pI d.body.op,pS d.body.name,pI d.body.val.1,pI d.body.val.2,pI d.body.ty.1,pI d.body.ty.2.1,pI d.body.ty.2.2.1,pI d.body.ty.2.2.2.1,pI d.body.ty.2.2.2.2,pI d.body.lin.1,aE d.body.lin.2,c9 eB d.body.idx,.slice (d.body.args.map Ex.row)]
structure bK where
 sizes:List ByteArray
 wher:List gf
 params:List pH
 defs:List zH
 outs:List ByteArray
abbrev cH (l:List ByteArray):PC:=c9 (fun s=> [pS s]) l
abbrev fK (p:bK):AV:= .agg [.pure (cH p.sizes),.pure (c9 cP p.wher),.pure (c9 gV p.params),.pure (c9 cr p.defs),.pure (cH p.outs)]
abbrev d6 (p:bK):aS:= .var [.pure (cH p.sizes),.pure (c9 cP p.wher),.pure (c9 gV p.params),.pure (c9 cr p.defs),.pure (cH p.outs)]
abbrev JI (d:zH):AV:= .agg [.pure (pS d.name),.pure (pI d.ty.1),.pure (pI d.ty.2.1),.pure (pI d.ty.2.2.1),.pure (pI d.ty.2.2.2.1),.pure (pI d.ty.2.2.2.2),.pure (c9 ed d.dims),.pure (c9 ed d.red),.pure (pI d.fold),.pure (pI d.body.op),.pure (pS d.body.name),.pure (pI d.body.val.1),.pure (pI d.body.val.2),.pure (pI d.body.ty.1),.pure (pI d.body.ty.2.1),.pure (pI d.body.ty.2.2.1),.pure (pI d.body.ty.2.2.2.1),.pure (pI d.body.ty.2.2.2.2),.pure (pI d.body.lin.1),.pure (aE d.body.lin.2),.pure (c9 eB d.body.idx),.pure (.slice (d.body.args.map Ex.row))]
abbrev J4 (d:zH):aS:= .var [.pure (pS d.name),.pure (pI d.ty.1),.pure (pI d.ty.2.1),.pure (pI d.ty.2.2.1),.pure (pI d.ty.2.2.2.1),.pure (pI d.ty.2.2.2.2),.pure (c9 ed d.dims),.pure (c9 ed d.red),.pure (pI d.fold),.pure (pI d.body.op),.pure (pS d.body.name),.pure (pI d.body.val.1),.pure (pI d.body.val.2),.pure (pI d.body.ty.1),.pure (pI d.body.ty.2.1),.pure (pI d.body.ty.2.2.1),.pure (pI d.body.ty.2.2.2.1),.pure (pI d.body.ty.2.2.2.2),.pure (pI d.body.lin.1),.pure (aE d.body.lin.2),.pure (c9 eB d.body.idx),.pure (.slice (d.body.args.map Ex.row))]
abbrev Xo (x:pH):AV:= .agg [.pure (pS x.1),.pure (pI x.2.1.1),.pure (pI x.2.1.2.1),.pure (pI x.2.1.2.2.1),.pure (pI x.2.1.2.2.2.1),.pure (pI x.2.1.2.2.2.2),.pure (c9 bQ x.2.2)]
abbrev RQ (x:pH):aS:= .var [.pure (pS x.1),.pure (pI x.2.1.1),.pure (pI x.2.1.2.1),.pure (pI x.2.1.2.2.1),.pure (pI x.2.1.2.2.2.1),.pure (pI x.2.1.2.2.2.2),.pure (c9 bQ x.2.2)]
abbrev kL (l:List ca):AV:= .c (.pure (c9 bQ l))
abbrev I7 (t:Ty):AV:= .agg [.pure (pI t.1),.pure (pI t.2.1),.pure (pI t.2.2.1),.pure (pI t.2.2.2.1),.pure (pI t.2.2.2.2)]
def c8 (p:bK) (s:ByteArray):Option (Ty×List ca):=
 match p.params.find? (fun x=>decide (x.1=s))with
 |some x=>some x.2
 |none=>match p.defs.find? (fun d=>decide (d.name=s))with
  |some d=>some (d.ty,d.dims.map (·.2))
  |none=>none
def j8 (p:bK):Prop:=(∀x∈p.params,x.2.2.length≤12∧ ∀l∈x.2.2,l.2.length≤20)∧ ∀d∈p.defs,d.dims.length≤12∧d.red.length≤12∧(∀a∈d.dims,a.2.2.length≤20)∧ ∀a∈d.red,a.2.2.length≤20
def aT (d:zH):List ByteArray:=(d.dims++d.red).map (·.1)
def eU (vars sizes:List ByteArray) (l:ca):Prop:= ∀m∈l.2,m.1∈vars∨m.1∈sizes
noncomputable instance (vars sizes:List ByteArray) (l:ca):Decidable (eU vars sizes l):=Classical.propDecidable _
noncomputable def dQ (p:bK) (vars:List ByteArray) (l:List ca):Int:=if ∀x∈l,eU vars p.sizes x then 0 else 9
def iU:Ty:=(0,0,0,0,0)
noncomputable def gD (p:bK) (vars:List ByteArray) (x:Ix):Int:=
 if x.2.1=⟨⟨[]⟩⟩then dQ p vars [x.1]
 else match c8 p x.2.1 with
  |none=>9
  |some (t,dims)=>if t.1≠3 then 10 else if x.2.2.length≠dims.length then 11 else dQ p vars x.2.2
noncomputable def f7 (p:bK) (vars:List ByteArray) (e:Ex):Ty×Int:=
 match c8 p e.name with
 |none=>(iU,9)
 |some (t,dims)=>if e.idx.length≠dims.length then(iU,11)else if cQ (e.idx.map (gD p vars))≠0 then(iU,cQ (e.idx.map (gD p vars)))else(t,0)
noncomputable def aR (p:bK) (vars:List ByteArray) (e:Ex) (l:List Ty):Ty×Int:=
 if e.op=1∨e.op=12 then(e.ty,0)
 else if e.op=2 then((3,0,0,0,0),dQ p vars [e.lin])
 else if e.op=3 then f7 p vars e
 else if e.op=8 then(l.getD 0 iU,0)
 else if e.op=11 then(l.getD 1 iU,if l.getD 1 iU=l.getD 2 iU then 0 else 10)
 else if 16≤e.op then(iU,0)
 else if 13≤e.op then(iU,if l.getD 0 iU=l.getD 1 iU then 0 else 10)
 else(l.getD 0 iU,if l.getD 0 iU=l.getD 1 iU then 0 else 10)
mutual
noncomputable def d9 (p:bK) (vars:List ByteArray):Ex→Ty×Int
 |.mk op name val ty lin idx args=>match dF p vars args with
  | .inl err=>(iU,err)
  | .inr l=>aR p vars (.mk op name val ty lin idx args) l
noncomputable def dF (p:bK) (vars:List ByteArray):List Ex→Int⊕List Ty
 | []=> .inr []
 |e::r=>if(d9 p vars e).2≠0 then .inl (d9 p vars e).2 else match dF p vars r with
  | .inl err=> .inl err
  | .inr l=> .inr ((d9 p vars e).1::l)
end
theorem nM (p:bK) (vars:List ByteArray) (e:Ex):d9 p vars e=match dF p vars e.args with
  | .inl err=>(iU,err)
  | .inr l=>aR p vars e l:=by
 obtain⟨op,name,val,ty,lin,idx,args⟩:=e
 rw[d9]
 rfl
noncomputable def bi (p:bK) (vars:List ByteArray) (e:Ex):Ty×Int:=
 if gT e≠0 then(iU,gT e)else if lF e.op then(iU,10)else if(d9 p vars e).2≠0 then(iU,(d9 p vars e).2)else((d9 p vars e).1,0)
noncomputable def aO (taken:List ByteArray) (s:ByteArray):Int:=if ¬fp s then 7 else if s∈taken then 8 else 0
noncomputable def bq (sizes:List ByteArray) (l:ca):Int:=if ¬cd l.2 then 1 else if ¬eU [] sizes l then 9 else 0
noncomputable def dC (sizes taken:List ByteArray) (x:pH):Int:=
 if aO taken x.1≠0 then aO taken x.1 else if ¬l8 x.2.1 then 10 else if 6<x.2.2.length then 11 else cQ (x.2.2.map (bq sizes))
noncomputable def bk (sizes:List ByteArray):List ByteArray→List eY→Int
 |_, []=>0
 |taken,a::r=>if aO taken a.1≠0 then aO taken a.1 else if bq sizes a.2≠0 then bq sizes a.2 else bk sizes (taken++ [a.1]) r
noncomputable def f8 (d:zH):Int:=if d.fold<0∨5<d.fold then 1 else if((d.fold=0∨d.fold=5)↔d.red.length=0)∧ ¬(d.fold=5∧d.dims.length=0)then 0 else 11
noncomputable def bh (p:bK) (k:Nat) (taken:List ByteArray) (d:zH):Int:=
 if aO taken d.name≠0 then aO taken d.name else if ¬l8 d.ty then 10 else if 6<d.dims.length∨6<d.red.length then 11
 else if bk p.sizes p.sizes (d.dims++d.red)≠0 then bk p.sizes p.sizes (d.dims++d.red)else if f8 d≠0 then f8 d
 else if(bi {p with wher:= [],defs:=p.defs.take k,outs:= []} (aT d) d.body).2≠0 then(bi {p with wher:= [],defs:=p.defs.take k,outs:= []} (aT d) d.body).2
 else if(bi {p with wher:= [],defs:=p.defs.take k,outs:= []} (aT d) d.body).1≠d.ty then 10 else 0
section
variable {p : bK} {vars : List ByteArray}
theorem qL: ∀(l r:List Ex),dF p vars (l++r)=match dF p vars l with
  | .inl err=> .inl err
  |.inr a=>match dF p vars r with
   | .inl err=> .inl err
   | .inr b=> .inr (a++b)
 |[],r=>by
  simp only[List.nil_append,dF]
  cases dF p vars r<;>rfl
 |e::l,r=>by
  simp only[List.cons_append,dF]
  by_cases h:(d9 p vars e).2=0
  ·rw[if_neg (not_not_intro h),if_neg (not_not_intro h),qL l r]
   cases dF p vars l with
   |inl x=>rfl
   |inr a=>cases dF p vars r<;>rfl
  ·rw[if_pos h,if_pos h]
theorem Er {l:List Ex} {k:Nat} {ts:List Ty} (h:k<l.length) (hk:dF p vars (l.take k)= .inr ts) (h0:(d9 p vars l[k]).2=0):dF p vars (l.take (k+1))= .inr (ts++ [(d9 p vars l[k]).1]):=by
 rw[List.take_succ_eq_append_getElem h,qL,hk]
 simp only[dF]
 rw[if_neg (not_not_intro h0)]
theorem C2 {l:List Ex} {k:Nat} {ts:List Ty} (h:k<l.length) (hk:dF p vars (l.take k)= .inr ts) (h0:(d9 p vars l[k]).2≠0):dF p vars l= .inl (d9 p vars l[k]).2:=by
 have e:dF p vars (l.take k++(l[k]::l.drop (k+1)))= .inl (d9 p vars l[k]).2:=by
  rw[qL,hk]
  simp only[dF]
  rw[if_pos h0]
 rw[←List.drop_eq_getElem_cons h,List.take_append_drop]at e
 exact e
theorem pL: ∀{l:List Ex} {ts:List Ty},dF p vars l= .inr ts→ts.length=l.length
 | [],ts,h=>by cases h;rfl
 |e::l,ts,h=>by
  simp only[dF]at h
  split at h
  ·cases h
  ·split at h
   ·cases h
   ·rename_i l' hl
    cases h
    simp[pL hl]
noncomputable def zE (op:Int) (r:Ty×Int):Ty×Int:=if r.2≠0∧op≠2 then(iU,r.2)else r
noncomputable def i5 (p:bK) (vars:List ByteArray) (e:Ex):Ty×Int:=match dF p vars e.args with
  | .inl err=>(iU,err)
  | .inr l=>zE e.op (aR p vars e l)
theorem my (e:Ex):(i5 p vars e).2=(d9 p vars e).2:=by
 rw[nM]
 unfold i5
 cases dF p vars e.args with
 |inl x=>rfl
 |inr l=>
  simp only[zE]
  split<;>rfl
theorem Mj {e:Ex} (h:(d9 p vars e).2=0):(i5 p vars e).1=(d9 p vars e).1:=by
 rw[nM]at h ⊢
 unfold i5
 cases hx:dF p vars e.args with
 |inl x=>rfl
 |inr l=>
  rw[hx]at h
  simp only[zE]at h ⊢
  rw[if_neg (fun hh=>hh.1 h)]
end
theorem xD {a b:Ty} (h:a.1=b.1∧a.2.1=b.2.1∧a.2.2.1=b.2.2.1∧a.2.2.2.1=b.2.2.2.1∧a.2.2.2.2=b.2.2.2.2):a=b:=by
 obtain⟨a1,a2,a3,a4,a5⟩:=a
 obtain⟨b1,b2,b3,b4,b5⟩:=b
 simp_all
def iE (e:Ex):Prop:= ∀a∈e.pre,(a.args.length:Int)=jn a.op∧1≤a.op∧a.op≤18∧a.idx.length≤6∧ ∀x∈a.idx,x.2.2.length≤6
theorem kn: ∀{l:List Int},cQ l=0→ ∀x∈l,x=0
 |y::r,h,x,hx=>by
  simp only[cQ]at h
  split at h
  ·exact absurd h ‹_›
  ·rcases List.mem_cons.1 hx with rfl|hx
   ·exact Classical.not_not.1 ‹_›
   ·exact kn h x hx
theorem vj {e:Ex} (h:gT e=0):iE e:=by
 unfold gT at h
 split at h
 ·cases h
 ·split at h
  ·cases h
  ·intro a ha
   have:=m4 (kn h _ (List.mem_map_of_mem ha))
   exact⟨this.2.2.1.1,this.1.1.1,this.1.1.2,this.2.2.1.2.1,this.2.2.1.2.2⟩
theorem iJ {e a:Ex} (h:iE e) (ha:a∈e.args):iE a:=fun b hb=>h b (by
 rw[Ex.pre_eq]
 refine List.mem_cons_of_mem _ ?_
 clear h
 generalize e.args=l at ha
 induction l with
 |nil=>cases ha
 |cons x r ihr=>
  rw[Ex.pres]
  rcases List.mem_cons.1 ha with rfl|ha
  ·exact List.mem_append_left _ hb
  ·exact List.mem_append_right _ (ihr ha))
theorem dO {e:Ex} (h:iE e):(e.args.length:Int)=jn e.op∧1≤e.op∧e.op≤18∧e.idx.length≤6∧ ∀x∈e.idx,x.2.2.length≤6:=h e (by rw[Ex.pre_eq];exact List.mem_cons_self)
theorem yT {o:Int} (h1:1≤o) (h2:o≤18):((o=1∨o=2∨o=3)∧jn o=0)∨((o=8∨o=12∨o=18)∧jn o=1)∨(o=11∧jn o=3)∨((o=13∨o=14∨o=15)∧jn o=2)∨((o=16∨o=17)∧jn o=2)∨((4≤o∧o≤10∧o≠8)∧jn o=2):=by
 unfold jn
 have:o=1∨o=2∨o=3∨o=4∨o=5∨o=6∨o=7∨o=8∨o=9∨o=10∨o=11∨o=12∨o=13∨o=14∨o=15∨o=16∨o=17∨o=18:=by omega
 rcases this with rfl|rfl|rfl|rfl|rfl|rfl|rfl|rfl|rfl|rfl|rfl|rfl|rfl|rfl|rfl|rfl|rfl|rfl<;>simp
theorem Xp {l:List Ty} (h:l.length=1): ∃a,l= [a]:=by match l,h with| [a],_=>exact⟨a,rfl⟩
theorem TW {l:List Ty} (h:l.length=2): ∃a b,l= [a,b]:=by match l,h with| [a,b],_=>exact⟨a,b,rfl⟩
theorem Xs {l:List Ty} (h:l.length=3): ∃a b c,l= [a,b,c]:=by match l,h with| [a,b,c],_=>exact⟨a,b,c,rfl⟩
def Ew:Int→List Int→Option (Int×Int)
 |_, []=>none
 |at',x::r=>if x≠0 then some (at',x)else Ew (at'+1) r
theorem PY {l:List Int}: ∀{a:Int},(∀x∈l,x=0)→Ew a l=none:=by
 induction l with
 |nil=>intro a _;rfl
 |cons x r ih=>
  intro a h
  rw[Ew,if_neg (not_not_intro (h x List.mem_cons_self))]
  exact ih fun y hy=>h y (List.mem_cons_of_mem _ hy)
theorem US {l:List Int}: ∀{a:Int} {k:Nat} (hk:k<l.length),(∀j (h:j<k),l[j]'(by omega)=0)→l[k]≠0→Ew a l=some (a+k,l[k]):=by
 induction l with
 |nil=>intro a k hk;simp at hk
 |cons x r ih=>
  intro a k hk h1 h2
  cases k with
  |zero=>
   rw[Ew,if_pos (by simpa using h2)]
   simp
  |succ k=>
   rw[Ew,if_neg (not_not_intro (show x=0 from h1 0 (by omega)))]
   rw[ih (k:=k) (by simpa using hk) (fun j hj=>h1 (j+1) (by omega)) (by simpa using h2)]
   simp
   omega
theorem mA {n k:Nat} {f:Nat→Int} (h:k<((List.range n).map f).length):((List.range n).map f)[k]=f k:=by simp
theorem kj {n:Nat} {f:Nat→Int} {a:Int} (h: ∀j,j<n→f j=0):Ew a ((List.range n).map f)=none:=PY fun x hx=>by
 obtain⟨j,hj,rfl⟩:=List.mem_map.1 hx
 exact h j (List.mem_range.1 hj)
theorem qF {n k:Nat} {f:Nat→Int} {a:Int} (hk:k<n) (h: ∀j,j<k→f j=0) (h2:f k≠0):Ew a ((List.range n).map f)=some (a+k,f k):=by
 have:=US (l:=(List.range n).map f) (a:=a) (k:=k) (by simpa using hk) (fun j hj=>by rw[mA];exact h j hj) (by rw[mA];exact h2)
 rw[this,mA]
def dM (p:bK) (k:Nat):List ByteArray:=p.sizes++(p.params.take k).map (·.1)
def dV (p:bK) (k:Nat):List ByteArray:=p.sizes++p.params.map (·.1)++(p.defs.take k).map (·.name)
noncomputable def S5 (p:bK) (k:Nat):Int:=match p.sizes[k]? with
 |some s=>aO (p.sizes.take k) s
 |none=>0
noncomputable def x5 (p:bK) (k:Nat):Int:=match p.params[k]? with
 |some x=>dC p.sizes (dM p k) x
 |none=>0
noncomputable def yR (p:bK) (k:Nat):Int:=match p.defs[k]? with
 |some d=>bh p k (dV p k) d
 |none=>0
noncomputable def KE (p:bK) (k:Nat):Int:=match p.outs[k]? with
 |some s=>if c8 p s=none then 9 else if s∈p.outs.take k then 8 else 0
 |none=>0
def jE (p:bK):Prop:=p.sizes.length≤64∧p.params.length≤64∧p.defs.length≤64∧p.outs.length≤64∧p.wher.length≤256
instance (p:bK):Decidable (jE p):=inferInstanceAs (Decidable (_∧_))
noncomputable def mN (p:bK):Int:=cQ ((List.range p.sizes.length).map (S5 p))
noncomputable def ua (p:bK):Int:=cQ (p.wher.map fun c=>bq p.sizes c.1)
noncomputable def c7 (p:bK):Int×Int:=
 if ¬jE p then(0,2)else if mN p≠0 then(0,mN p)else if ua p≠0 then(1,ua p)
 else match Ew 2 ((List.range p.params.length).map (x5 p))with
 |some r=>r
 |none=>match Ew (2+p.params.length) ((List.range p.defs.length).map (yR p))with
  |some r=>r
  |none=>match Ew (2+p.params.length+p.defs.length) ((List.range p.outs.length).map (KE p))with
   |some r=>r
   |none=>(0,0)
section
variable {p : bK}
theorem xp (h: ¬jE p):c7 p=(0,2):=if_pos h
theorem zK (h:jE p) {x:Int} (h1:mN p=x) (hx:x≠0):c7 p=(0,x):=by
 unfold c7
 rw[if_neg (not_not_intro h),h1,if_pos hx]
theorem Aj (h:jE p) (h1:mN p=0) {x:Int} (h2:ua p=x) (hx:x≠0):c7 p=(1,x):=by
 unfold c7
 rw[if_neg (not_not_intro h),if_neg (not_not_intro h1),h2,if_pos hx]
theorem xC (h:jE p) (h1:mN p=0) (h2:ua p=0) {k:Nat} (hk:k<p.params.length) (h3: ∀j,j<k→x5 p j=0) {x:Int} (h4:x5 p k=x) (hx:x≠0):c7 p=((2:Int)+k,x):=by
 unfold c7
 rw[if_neg (not_not_intro h),if_neg (not_not_intro h1),if_neg (not_not_intro h2),qF hk h3 (by rw[h4];exact hx),h4]
theorem xR (h:jE p) (h1:mN p=0) (h2:ua p=0) (h3: ∀j,j<p.params.length→x5 p j=0) {k:Nat} (hk:k<p.defs.length) (h4: ∀j,j<k→yR p j=0) {x:Int} (h5:yR p k=x) (hx:x≠0):c7 p=((2:Int)+p.params.length+k,x):=by
 unfold c7
 rw[if_neg (not_not_intro h),if_neg (not_not_intro h1),if_neg (not_not_intro h2),kj h3]
 simp only
 rw[qF hk h4 (by rw[h5];exact hx),h5]
theorem qI (h:jE p) (h1:mN p=0) (h2:ua p=0) (h3: ∀j,j<p.params.length→x5 p j=0) (h4: ∀j,j<p.defs.length→yR p j=0) {k:Nat} (hk:k<p.outs.length) (h5: ∀j,j<k→KE p j=0) {x:Int} (h6:KE p k=x) (hx:x≠0):
  c7 p=((2:Int)+p.params.length+p.defs.length+k,x):=by
 unfold c7
 rw[if_neg (not_not_intro h),if_neg (not_not_intro h1),if_neg (not_not_intro h2),kj h3]
 simp only
 rw[kj h4]
 simp only
 rw[qF hk h5 (by rw[h6];exact hx),h6]
theorem zZ (h:jE p) (h1:mN p=0) (h2:ua p=0) (h3: ∀j,j<p.params.length→x5 p j=0) (h4: ∀j,j<p.defs.length→yR p j=0) (h5: ∀j,j<p.outs.length→KE p j=0):c7 p=(0,0):=by
 unfold c7
 rw[if_neg (not_not_intro h),if_neg (not_not_intro h1),if_neg (not_not_intro h2),kj h3]
 simp only
 rw[kj h4]
 simp only
 rw[kj h5]
theorem Nd {k:Nat} (h:k<p.sizes.length):S5 p k=aO (p.sizes.take k) p.sizes[k]:=by
 unfold S5
 rw[List.getElem?_eq_getElem h]
theorem JZ {k:Nat} (h:k<p.params.length):x5 p k=dC p.sizes (dM p k) p.params[k]:=by
 unfold x5
 rw[List.getElem?_eq_getElem h]
theorem CL {k:Nat} (h:k<p.defs.length):yR p k=bh p k (dV p k) p.defs[k]:=by
 unfold yR
 rw[List.getElem?_eq_getElem h]
theorem Jx {k:Nat} (h:k<p.outs.length):KE p k=if c8 p p.outs[k]=none then 9 else if p.outs[k]∈p.outs.take k then 8 else 0:=by
 unfold KE
 rw[List.getElem?_eq_getElem h]
theorem DY (h: ∀j,j<p.sizes.length→S5 p j=0):mN p=0:=by
 have key: ∀l:List Int,(∀x∈l,x=0)→cQ l=0:=by
  intro l
  induction l with
  |nil=>intro _;rfl
  |cons x r ih=>
   intro h
   rw[cQ,if_neg (not_not_intro (h x List.mem_cons_self))]
   exact ih fun y hy=>h y (List.mem_cons_of_mem _ hy)
 exact key _ fun x hx=>by
  obtain⟨j,hj,rfl⟩:=List.mem_map.1 hx
  exact h j (List.mem_range.1 hj)
theorem Lt {k:Nat} (hk:k<p.sizes.length) (h: ∀j,j<k→S5 p j=0) {x:Int} (h2:S5 p k=x) (hx:x≠0):mN p=x:=by
 have hl:k<((List.range p.sizes.length).map (S5 p)).length:=by simpa using hk
 have h0:cQ (((List.range p.sizes.length).map (S5 p)).take k)=0:=by
  have key: ∀l:List Int,(∀x∈l,x=0)→cQ l=0:=by
   intro l
   induction l with
   |nil=>intro _;rfl
   |cons x r ih=>
    intro h
    rw[cQ,if_neg (not_not_intro (h x List.mem_cons_self))]
    exact ih fun y hy=>h y (List.mem_cons_of_mem _ hy)
  refine key _ fun x hx=> ?_
  obtain⟨j,hj,rfl⟩:=List.mem_iff_getElem.1 hx
  rw[List.getElem_take,mA]
  exact h j (by simp at hj;omega)
 have:=m9 hl h0 (by rw[mA,h2];exact hx)
 unfold mN
 rw[this,mA,h2]
theorem Ln {k:Nat} (h:k<p.params.length):dM p (k+1)=dM p k++ [p.params[k].1]:=by
 unfold dM
 rw[List.take_succ_eq_append_getElem h,List.map_append,List.append_assoc]
 rfl
theorem Ke:dM p p.params.length=p.sizes++p.params.map (·.1):=by
 unfold dM
 rw[List.take_of_length_le (Nat.le_refl _)]
theorem LW:dV p 0=p.sizes++p.params.map (·.1):=by simp[dV]
theorem Kz {k:Nat} (h:k<p.defs.length):dV p (k+1)=dV p k++ [p.defs[k].name]:=by
 unfold dV
 rw[List.take_succ_eq_append_getElem h,List.map_append,←List.append_assoc]
 rfl
theorem Ij (k:Nat) (h:jE p):(dM p k).length≤128∧(dV p k).length≤192:=by
 obtain⟨h1,h2,h3,_⟩:=h
 unfold dM dV
 simp
 omega
end
def ce (p:bK) (k:Nat):bK:={p with wher:= [],defs:=p.defs.take k,outs:= []}
theorem Bt {p:bK} (h:j8 p) (k:Nat):j8 (ce p k):=⟨h.1,fun d hd=>h.2 d (List.mem_of_mem_take hd)⟩
def sd (p:bK):Prop:= ∀d∈p.defs,∀a∈d.body.pre,sS a.val
abbrev KL:=List (ByteArray×Int)
def EK (K:KL):List (MK×List PC):=K.map fun x=>(MK.str x.1.data.toList, [pI x.2])
def jK (K:KL):List (MK×List AC):=K.map fun x=>(MK.str x.1.data.toList, [.pure (pI x.2)])
def jl:KL→ByteArray→Option Int
 | [],_=>none
 |(a,k)::r,s=>if a=s then some k else jl r s
def uD:KL→ByteArray→Int→KL
 | [],s,k=> [(s,k)]
 |(a,j)::r,s,k=>if a=s then(s,k)::r else(a,j)::uD r s k
def sO (K:KL) (s:ByteArray):Int:=(jl K s).getD 0
theorem xG {a s:ByteArray}:(MK.str a.data.toList=MK.str s.data.toList)↔a=s:=by
 constructor
 ·intro h
  have h1:a.data.toList=s.data.toList:=by injection h
  obtain⟨⟨a⟩⟩:=a
  obtain⟨⟨s⟩⟩:=s
  simp only at h1
  rw[h1]
 ·intro h;rw[h]
theorem DV (K:KL):oT (EK K)=jK K:=by simp[oT,EK,jK,List.map_map,Function.comp_def]
theorem qX (s:ByteArray): ∀K:KL,ij (jK K) (.str s.data.toList)=(jl K s).map fun k=> [.pure (pI k)]
 | []=>rfl
 |(a,k)::r=>by
  have ih:=qX s r
  simp only[jK,List.map_cons,ij,jl]at ih ⊢
  by_cases h:a=s
  ·rw[if_pos (xG.2 h),if_pos h];rfl
  ·rw[if_neg (fun e=>h (xG.1 e)),if_neg h,ih]
theorem Ox {mem:List (Nat×aS)}: ∀K:KL,lM mem none (jK K)=some (EK K)
 | []=>rfl
 |x::r=>by
  have ih:=Ox (mem:=mem) r
  simp only[jK,EK,List.map_cons,lM,oD,ci]at ih ⊢
  rw[ih]
theorem I8 (s:ByteArray) (k:Int): ∀K:KL,zX (jK K) (.str s.data.toList) [.pure (pI k)]=jK (uD K s k)
 | []=>rfl
 |(a,j)::r=>by
  have ih:=I8 s k r
  simp only[jK,List.map_cons,zX,uD]at ih ⊢
  by_cases h:a=s
  ·rw[if_pos (xG.2 h),if_pos h];rfl
  ·rw[if_neg (fun e=>h (xG.1 e)),if_neg h,ih];rfl
theorem Pj (K:KL) (s s':ByteArray) (k:Int):jl (uD K s k) s'=if s=s' then some k else jl K s':=by
 induction K with
 |nil=>simp[uD,jl]
 |cons x r ih=>
  obtain⟨a,j⟩:=x
  simp only[uD]
  by_cases h:a=s
  ·subst h
   rw[if_pos rfl]
   simp only[jl]
   by_cases h2:a=s'<;>simp[h2]
  ·rw[if_neg h]
   simp only[jl,ih]
   by_cases h2:a=s'
   ·subst h2
    rw[if_pos rfl,if_neg (fun e=>h e.symm),if_pos rfl]
   ·rw[if_neg h2,if_neg h2]
theorem C4 (K:KL) (s s':ByteArray) (k:Int):sO (uD K s k) s'=if s=s' then k else sO K s':=by
 unfold sO
 rw[Pj]
 split<;>rfl
theorem EV (s:ByteArray):sO [] s=0:=rfl
theorem i9 {K:KL} {s:ByteArray} {k:Int} (h:jl K s=some k):sO K s=k:=by unfold sO;rw[h];rfl
theorem no {K:KL} {s:ByteArray} (h:jl K s=none):sO K s=0:=by unfold sO;rw[h];rfl
def kZ (K:KL) (k:Int):List ByteArray→KL
 | []=>K
 |s::r=>kZ (uD K s k) k r
theorem E9 (k:Int): ∀(l r:List ByteArray) (K:KL),kZ K k (l++r)=kZ (kZ K k l) k r
 | [],r,K=>rfl
 |s::l,r,K=>by
  simp only[List.cons_append,kZ]
  exact E9 k l r _
theorem AF {K:KL} {k:Int} {l:List ByteArray} {i:Nat} (h:i<l.length):kZ K k (l.take (i+1))=uD (kZ K k (l.take i)) l[i] k:=by
 rw[List.take_succ_eq_append_getElem h,E9]
 rfl
theorem qi {k:Int} (s:ByteArray): ∀(l:List ByteArray) (K:KL),sO (kZ K k l) s=if s∈l then k else sO K s
 | [],K=>by simp[kZ]
 |a::l,K=>by
  rw[kZ,qi s l,C4]
  by_cases h:s∈l
  ·rw[if_pos h,if_pos (List.mem_cons_of_mem _ h)]
  ·rw[if_neg h]
   by_cases h2:a=s
   ·rw[if_pos h2,if_pos (by rw[h2];exact List.mem_cons_self)]
   ·rw[if_neg h2,if_neg]
    intro hm
    rcases List.mem_cons.1 hm with rfl|hm
    ·exact h2 rfl
    ·exact h hm
end Go.Proofs.YthkaaahphlneiaaGreatDoor
