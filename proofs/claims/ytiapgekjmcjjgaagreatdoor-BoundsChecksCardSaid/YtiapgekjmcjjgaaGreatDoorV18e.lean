import Derived.Test.YtiapgekjmcjjgaaGreatDoorP18w
set_option maxHeartbeats 4000000
set_option linter.unusedVariables false
set_option linter.unusedSimpArgs false
open Go.Proofs.Tryz renaming prog→Ya
namespace Go.Proofs.YtiapgekjmcjjgaaGreatDoor
open Go.Abs Go.RowKit
noncomputable section
abbrev LB:=bW×Bool
abbrev CB:=List aU×Bool
abbrev jn:LB:=((0, []),false)
def QV (x:bW×Int):LB:=(x.1,decide (x.2=0))
def t8 (op:Int) (val:Fr) (ty:Ty) (l:bW) (az:List LB):LB:=
 if op=2 then(l,true)else if op=1 then((val.1, []),decide (ty.1=3))
 else if op=8 then(if(az.getD 0 jn).2=true then QV (bM (az.getD 0 jn).1 (-1))else jn)
 else if op=4∨op=5 then(if(az.getD 0 jn).2=true∧(az.getD 1 jn).2=true then QV (if op=5 then i0 (az.getD 1 jn).1 (az.getD 0 jn).1 else fj (az.getD 0 jn).1 (az.getD 1 jn).1)else jn)
 else jn
def ky (op:Int) (val:Fr) (ty:Ty) (l:bW) (az:List LB):LB:=
 if op=2 then(l,true)else if op=1 then((val.1, []),decide (ty.1=3))
 else if op=8 then((bM (az.getD 0 jn).1 (-1)).1,(az.getD 0 jn).2&&decide ((bM (az.getD 0 jn).1 (-1)).2=0))
 else if op=5 then((fj (az.getD 0 jn).1 (bM (az.getD 1 jn).1 (-1)).1).1,(az.getD 0 jn).2&&(az.getD 1 jn).2&&decide ((bM (az.getD 1 jn).1 (-1)).2=0)&&decide ((fj (az.getD 0 jn).1 (bM (az.getD 1 jn).1 (-1)).1).2=0))
 else if op=4 then((fj (az.getD 0 jn).1 (az.getD 1 jn).1).1,(az.getD 0 jn).2&&(az.getD 1 jn).2&&true&&decide ((fj (az.getD 0 jn).1 (az.getD 1 jn).1).2=0))
 else jn
mutual
def du:Ex→LB
 | .mk op _ val ty lin _ args=>t8 op val ty lin (Dv args)
def Dv:List Ex→List LB
 | []=> []
 |e::r=>du e::Dv r
end
mutual
def dU:Ex→LB
 | .mk op _ val ty lin _ args=>ky op val ty lin (H5 args)
def H5:List Ex→List LB
 | []=> []
 |e::r=>dU e::H5 r
end
theorem AE: ∀l:List Ex,Dv l=l.map du
 | []=>by rw[Dv];rfl
 |e::r=>by rw[Dv,AE r];rfl
theorem Gp: ∀l:List Ex,H5 l=l.map dU
 | []=>by rw[H5];rfl
 |e::r=>by rw[H5,Gp r];rfl
theorem yX (e:Ex):du e=t8 e.op e.val e.ty e.lin (e.args.map du):=by
 obtain⟨op,name,val,ty,lin,idx,args⟩:=e
 rw[du,AE]
 rfl
theorem EP (e:Ex):dU e=ky e.op e.val e.ty e.lin (e.args.map dU):=by
 obtain⟨op,name,val,ty,lin,idx,args⟩:=e
 rw[dU,Gp]
 rfl
def Lq (a b:LB):Prop:=a.2=b.2∧(a.2=true→a.1=b.1)
theorem Hm {l:List Ex} {f:Ex→LB} {k:Nat}:((l.map f).getD k jn)=match l[k]? with|some a=>f a|none=>jn:=by
 rw[List.getD_eq_getElem?_getD,List.getElem?_map]
 cases l[k]? <;>rfl
theorem Ef {l:List Ex} (h: ∀a∈l,Lq (du a) (dU a)) (k:Nat):Lq ((l.map du).getD k jn) ((l.map dU).getD k jn):=by
 rw[Hm,Hm]
 cases hk:l[k]? with
 |none=>exact⟨rfl,λ_=>rfl⟩
 |some a=>exact h a (List.mem_of_getElem? hk)
theorem RZ (e:Ex):Lq (du e) (dU e):=by
 refine Ex.ind (p:= λe=>Lq (du e) (dU e)) (λe ih=> ?_) e
 have h0:=Ef ih 0
 have h1:=Ef ih 1
 rw[yX,EP]
 unfold t8 ky
 generalize (e.args.map du).getD 0 jn=a at*
 generalize (e.args.map dU).getD 0 jn=a' at*
 generalize (e.args.map du).getD 1 jn=b at*
 generalize (e.args.map dU).getD 1 jn=b' at*
 obtain⟨a1,a2⟩:=a
 obtain⟨b1,b2⟩:=b
 obtain⟨a1',a2'⟩:=a'
 obtain⟨b1',b2'⟩:=b'
 obtain⟨h0,M⟩:=h0
 obtain⟨h1,P⟩:=h1
 simp only at h0 M h1 P
 subst h0
 subst h1
 by_cases k2:e.op=2
 ·simp only[k2,if_pos];exact⟨rfl,λ_=>rfl⟩
 by_cases k1:e.op=1
 ·simp only[k2,k1,if_pos,if_neg,not_false_eq_true];exact⟨rfl,λ_=>rfl⟩
 by_cases k8:e.op=8
 ·rw[if_neg k2,if_neg k1,if_pos k8,if_neg k2,if_neg k1,if_pos k8]
  cases a2
  ·exact⟨by simp,by simp⟩
  ·obtain rfl:=M rfl
   rw[if_pos rfl]
   exact⟨by simp[QV],λ_=>rfl⟩
 by_cases k5:e.op=5
 ·simp only[k5,show ¬(5:Int)=2 by decide,show ¬(5:Int)=1 by decide,show ¬(5:Int)=8 by decide,if_false,or_true,if_true]
  cases a2
  ·exact⟨by simp,by simp⟩
  ·cases b2
   ·exact⟨by simp,by simp⟩
   ·obtain rfl:=M rfl
    obtain rfl:=P rfl
    rw[if_pos ⟨rfl,rfl⟩]
    unfold QV i0
    by_cases hs:(bM b1 (-1)).2=0
    ·rw[if_neg (not_not_intro hs)]
     exact⟨by simp[hs],λ_=>rfl⟩
    ·rw[if_pos hs]
     exact⟨by simp[hs],λh=>by simp[hs]at h⟩
 by_cases k4:e.op=4
 ·simp only[k4,show ¬(4:Int)=2 by decide,show ¬(4:Int)=1 by decide,show ¬(4:Int)=8 by decide,show ¬(4:Int)=5 by decide,if_false,or_false,if_true]
  cases a2
  ·exact⟨by simp,by simp⟩
  ·cases b2
   ·exact⟨by simp,by simp⟩
   ·obtain rfl:=M rfl
    obtain rfl:=P rfl
    rw[if_pos ⟨rfl,rfl⟩]
    exact⟨by simp[QV],λ_=>rfl⟩
 ·simp only[k2,k1,k8,k5,k4,if_false,or_false]
  exact⟨rfl,λ_=>rfl⟩
def oP (op:Int) (a b:bW):bW×Int:=if op=13 then d5 a b else i0 a b
def Tg (x:bW×Int) (q:Bool):CB:=if x.2=0 then([(x.1,q)],true)else([],false)
theorem Lg (op:Int) (a b:bW):bl (oP op a b).1∧(oP op a b).1.2.length≤a.2.length+b.2.length:=by
 unfold oP
 split
 ·exact⟨Fi _ _,AZ _ _⟩
 ·exact⟨FK _ _,rB _ _⟩
def uX (r:CB):CB:=match r with
 |([c],true)=>if(eT c).2=0∧(eT c).1.length=1 then((eT c).1,true)else([],false)
 |_=>([],false)
theorem Ll {r:CB} (h: ¬(r.1.length=1∧r.2=true)):uX r=([],false):=by
 unfold uX
 split
 ·exact absurd ⟨rfl,rfl⟩ h
 ·rfl
def Ij (op:Int) (ls:List LB) (fs:List CB):CB:=
 if 13≤op∧op≤15 then(if(ls.getD 0 jn).2=true∧(ls.getD 1 jn).2=true then
   Tg (oP op (ls.getD 0 jn).1 (ls.getD 1 jn).1) (decide (op=15))
  else([],false))
 else if op=16 then((fs.getD 0 ([],false)).1++(fs.getD 1 ([],false)).1,(fs.getD 0 ([],false)).2&&(fs.getD 1 ([],false)).2)
 else if op=18 then uX (fs.getD 0 ([],false))
 else([],false)
mutual
def bE:Ex→CB
 | .mk op _ _ _ _ _ args=>Ij op (Dv args) (Gs args)
def Gs:List Ex→List CB
 | []=> []
 |e::r=>bE e::Gs r
end
theorem IV: ∀l:List Ex,Gs l=l.map bE
 | []=>by rw[Gs];rfl
 |e::r=>by rw[Gs,IV r];rfl
theorem rS (e:Ex):bE e=Ij e.op (e.args.map du) (e.args.map bE):=by
 obtain⟨op,name,val,ty,lin,idx,args⟩:=e
 rw[bE,AE,IV]
 rfl
def fc (a:Ex):Ex:= .mk 18 ⟨⟨[]⟩⟩ (0,0) iH (0, []) [] [a]
def d7 (f x:bW):List aU:= [(f,false),(if(d5 f x).2=0 then(d5 f x).1 else(-1, []),false)]
def nE (p:bG) (s:ByteArray):List bW:=match dm p s with
 |some x=>x.2
 |none=> []
def u0 (p:bG) (x:Ix) (d:bW):List aU:=if x.2.1=⟨⟨[]⟩⟩then d7 x.1 d else(x.2.2.zip (nE p x.2.1)).flatMap λq=>d7 q.1 q.2
def vd (p:bG) (idx:List Ix) (s:ByteArray):List aU:=(idx.zip (nE p s)).flatMap λq=>u0 p q.1 q.2
abbrev Ob:=aU×List aU
mutual
def jo (p:bG):Ex→List aU→List Ob
 | .mk op name _ _ _ idx args,cs=>(if op=3 then(vd p idx name).map (λc=>(c,cs))else [])++(if op=11 then Qm p args cs else m8 p args cs)
def m8 (p:bG):List Ex→List aU→List Ob
 | [],_=> []
 |e::r,cs=>jo p e cs++m8 p r cs
def Qm (p:bG):List Ex→List aU→List Ob
 | [],_=> []
 | [a],cs=> []
 | [a,b],cs=> []
 |a::b::c::r,cs=>jo p a cs++jo p b (cs++(bE a).1)++jo p c (cs++(bE (fc a)).1)
end
theorem lU (p:bG) (e:Ex) (cs:List aU):jo p e cs=(if e.op=3 then(vd p e.idx e.name).map (λc=>(c,cs))else [])++(if e.op=11 then Qm p e.args cs else m8 p e.args cs):=by
 obtain⟨op,name,val,ty,lin,idx,args⟩:=e
 rw[jo]
 rfl
theorem zx (p:bG) (cs:List aU): ∀l r:List Ex,m8 p (l++r) cs=m8 p l cs++m8 p r cs
 | [],r=>by simp[m8]
 |e::l,r=>by simp only[List.cons_append,m8,zx p cs l r,List.append_assoc]
theorem Ge (p:bG) (cs:List aU) {l:List Ex} {k:Nat} (h:k<l.length):m8 p (l.take (k+1)) cs=m8 p (l.take k) cs++jo p l[k] cs:=by
 rw[List.take_succ_eq_append_getElem h,zx]
 simp[m8]
theorem Jg {e a b:Ex} (ha:a∈e.args) (hb:b∈a.pre):b∈e.pre:=by
 rw[Ex.pre_eq]
 refine List.mem_cons_of_mem _ ?_
 generalize e.args=l at ha
 induction l with
 |nil=>cases ha
 |cons x r E=>
  rw[Ex.pres]
  rcases List.mem_cons.1 ha with rfl|ha
  ·exact List.mem_append_left _ hb
  ·exact List.mem_append_right _ (E ha)
theorem jh (e:Ex):e∈e.pre:=by rw[Ex.pre_eq];exact List.mem_cons_self
def VD (e:Ex):Prop:= ∀a∈e.pre,am a.val.1∧ ∀l∈a.forms,bl l∧l.2.length≤1000
def iZ (e:Ex):Prop:=iy e∧VD e
theorem aV {e a:Ex} (h:iZ e) (ha:a∈e.args):iZ a:=⟨il h.1 ha,λb hb=>h.2 b (Jg ha hb)⟩
theorem IN {e:Ex} (h:iZ e):bl e.lin∧e.lin.2.length≤1000:=(h.2 e (jh e)).2 _ List.mem_cons_self
theorem HV {e:Ex} (h:iZ e):am e.val.1:=(h.2 e (jh e)).1
theorem vA {a:Ex} (h:iZ a):iZ (fc a):=by
 have hp: ∀b∈(fc a).pre,b=fc a∨b∈a.pre:= λb hb=>by
  rw[Ex.pre_eq]at hb
  rcases List.mem_cons.1 hb with rfl|hb
  ·exact .inl rfl
  ·exact .inr (by simpa[fc,Ex.args,Ex.pres]using hb)
 refine⟨λb hb=> ?_,λb hb=> ?_⟩
 ·rcases hp b hb with rfl|hb
  ·exact⟨rfl,by show(1:Int)≤18;decide,by show(18:Int)≤18;decide,by show(0:Nat)≤6;decide,λx hx=>by cases hx⟩
  ·exact h.1 b hb
 ·rcases hp b hb with rfl|hb
  ·refine⟨by show am 0;decide,λl hl=> ?_⟩
   simp only[fc,Ex.forms,Ex.lin,Ex.idx,List.flatMap_nil,List.mem_singleton]at hl
   subst hl
   exact⟨⟨by decide,λm hm=>by cases hm⟩,by simp⟩
  ·exact h.2 b hb
theorem Uw:bl (0, []):=⟨by decide,λm hm=>by cases hm⟩
def Sb (n:Nat) (x:LB):Prop:=bl x.1∧x.1.2.length≤1000*n
theorem E6 {f:Ex→LB}: ∀{l:List Ex},(∀a∈l,Sb a.sz (f a))→ ∃m n,m+n≤Ex.szs l∧Sb m ((l.map f).getD 0 jn)∧Sb n ((l.map f).getD 1 jn)
 | [],_=>⟨0,0,by simp,⟨Uw,by simp⟩,⟨Uw,by simp⟩⟩
 | [a],h=>⟨a.sz,0,by simp[Ex.szs],h a List.mem_cons_self,⟨Uw,by simp⟩⟩
 |a::b::r,h=>⟨a.sz,b.sz,by simp[Ex.szs,←Nat.add_assoc],h a List.mem_cons_self,h b (List.mem_cons_of_mem _ List.mem_cons_self)⟩
theorem wd (e:Ex):iZ e→Sb e.sz (du e):=by
 refine Ex.ind (p:= λe=>iZ e→Sb e.sz (du e)) (λe ih h=> ?_) e
 obtain⟨m,n,V,⟨a1,a2⟩,⟨b1,b2⟩⟩:=E6 (f:=du) λa ha=>ih a ha (aV h ha)
 have hz:=Ex.sz_eq e
 have hl:=IN h
 rw[yX]
 unfold t8
 generalize (e.args.map du).getD 0 jn=a at*
 generalize (e.args.map du).getD 1 jn=b at*
 repeat' split
 all_goals first
  |exact⟨Uw,by simp⟩
  |exact⟨hl.1,by show e.lin.2.length≤_;omega⟩
  |exact⟨⟨HV h,λm hm=>by cases hm⟩,by simp⟩
  |exact⟨ni,by have:=gC a.1 (-1);show(bM a.1 (-1)).1.2.length≤_;omega⟩
  |exact⟨FK _ _,by have:=rB b.1 a.1;show(i0 b.1 a.1).1.2.length≤_;omega⟩
  |exact⟨rI _ _,by have:=lu a.1 b.1;show(fj a.1 b.1).1.2.length≤_;omega⟩
theorem uF (e:Ex):iZ e→Sb e.sz (dU e):=by
 refine Ex.ind (p:= λe=>iZ e→Sb e.sz (dU e)) (λe ih h=> ?_) e
 obtain⟨m,n,V,⟨a1,a2⟩,⟨b1,b2⟩⟩:=E6 (f:=dU) λa ha=>ih a ha (aV h ha)
 have hz:=Ex.sz_eq e
 have hl:=IN h
 rw[EP]
 unfold ky
 generalize (e.args.map dU).getD 0 jn=a at*
 generalize (e.args.map dU).getD 1 jn=b at*
 repeat' split
 all_goals first
  |exact⟨Uw,by simp⟩
  |exact⟨hl.1,by show e.lin.2.length≤_;omega⟩
  |exact⟨⟨HV h,λm hm=>by cases hm⟩,by simp⟩
  |exact⟨ni,by have:=gC a.1 (-1);show(bM a.1 (-1)).1.2.length≤_;omega⟩
  |exact⟨rI _ _,by have:=lu a.1 (bM b.1 (-1)).1;have:=gC b.1 (-1);show(fj a.1 (bM b.1 (-1)).1).1.2.length≤_;omega⟩
  |exact⟨rI _ _,by have:=lu a.1 b.1;show(fj a.1 b.1).1.2.length≤_;omega⟩
theorem Rr {c:aU} (h:br c): ∀x∈(eT c).1,br x∧x.1.2.length≤c.1.2.length:=by
 intro x hx
 unfold eT at hx
 split at hx
 ·cases hx
 split at hx
 ·cases hx
 rename_i hm
 have h1:br (kG c.1)∧(kG c.1).1.2.length≤c.1.2.length:=⟨z8 h hm,by simp[kG]⟩
 split at hx
 ·rw[List.mem_singleton.1 hx];exact h1
 split at hx
 ·cases hx
 rename_i hk
 rcases List.mem_cons.1 hx with rfl|hx
 ·refine⟨⟨?_,h.2⟩,Nat.le_refl _⟩
  have:=h.1
  show am (c.1.1-1)
  unfold am at*
  omega
 ·rw[List.mem_singleton.1 hx];exact h1
def Qn (n:Nat) (l:List aU):Prop:=l.length≤n∧ ∀c∈l,br c∧c.1.2.length≤1000*n
theorem mF (n:Nat):Qn n []:=⟨by simp,λc h=>by cases h⟩
theorem IU {n m:Nat} {l:List aU} (h:Qn n l) (hm:n≤m):Qn m l:=⟨by have:=h.1;omega,λc hc=>⟨(h.2 c hc).1,by have:=(h.2 c hc).2;omega⟩⟩
theorem Ri: ∀{l:List Ex},(∀a∈l,Qn a.sz (bE a).1)→ ∃m n,m+n≤Ex.szs l∧Qn m ((l.map bE).getD 0 ([],false)).1∧Qn n ((l.map bE).getD 1 ([],false)).1
 | [],_=>⟨0,0,by simp,mF _,mF _⟩
 | [a],h=>⟨a.sz,0,by simp[Ex.szs],h a List.mem_cons_self,mF _⟩
 |a::b::r,h=>⟨a.sz,b.sz,by simp[Ex.szs,←Nat.add_assoc],h a List.mem_cons_self,h b (List.mem_cons_of_mem _ List.mem_cons_self)⟩
theorem kf (e:Ex):iZ e→Qn e.sz (bE e).1:=by
 refine Ex.ind (p:= λe=>iZ e→Qn e.sz (bE e).1) (λe ih h=> ?_) e
 obtain⟨m,n,V,⟨a1,a2⟩,⟨b1,b2⟩⟩:=E6 (f:=du) λa ha=>wd a (aV h ha)
 obtain⟨m',n',hX,c0,c1⟩:=Ri λa ha=>ih a ha (aV h ha)
 have hz:=Ex.sz_eq e
 rw[rS]
 unfold Ij
 generalize (e.args.map du).getD 0 jn=a at*
 generalize (e.args.map du).getD 1 jn=b at*
 generalize (e.args.map bE).getD 0 ([],false)=c at*
 generalize (e.args.map bE).getD 1 ([],false)=d at*
 split
 ·split
  ·obtain⟨g1,g2⟩:=Lg e.op a.1 b.1
   unfold Tg
   split
   ·refine⟨by simp;omega,λx hx=> ?_⟩
    rw[List.mem_singleton.1 hx]
    exact⟨g1,by show(oP e.op a.1 b.1).1.2.length≤_;omega⟩
   ·exact mF _
  ·exact mF _
 split
 ·refine⟨by have:=c0.1;have:=c1.1;simp only[List.length_append];omega,λx hx=> ?_⟩
  rcases List.mem_append.1 hx with hx|hx
  ·exact⟨(c0.2 x hx).1,by have:=(c0.2 x hx).2;omega⟩
  ·exact⟨(c1.2 x hx).1,by have:=(c1.2 x hx).2;omega⟩
 split
 ·unfold uX
  split
  ·rename_i x
   obtain⟨v,z⟩:=c0.2 x List.mem_cons_self
   split
   ·rename_i hh
    refine⟨by show(eT x).1.length≤_;omega,λy hy=> ?_⟩
    obtain⟨g1,g2⟩:=Rr v y hy
    exact⟨g1,by omega⟩
   ·exact mF _
  ·exact mF _
 ·exact mF _
open Go.Abs Go.RowKit
def NJ (l:bW):Prop:=bl l∧l.2.length≤1000
def Ul (p:bG) (a:Ex):Prop:= ∃t ds,dm p a.name=some (t,ds)∧a.idx.length=ds.length∧(∀l∈ds,NJ l)∧
 ∀x∈a.idx,x.2.1≠⟨⟨[]⟩⟩→ ∃t' ds',dm p x.2.1=some (t',ds')∧x.2.2.length=ds'.length∧ ∀l∈ds',NJ l
def uk (p:bG) (e:Ex):Prop:=iZ e∧ ∀a∈e.pre,a.op=3→Ul p a
theorem gY {p:bG} {e a:Ex} (h:uk p e) (ha:a∈e.args):uk p a:=⟨aV h.1 ha,λb hb=>h.2 b (Jg ha hb)⟩
theorem Nt {q:bG} {vars:List ByteArray} (e:Ex):(eD q vars e).2=0→ ∀a∈e.pre,a.op=3→(gc q vars a).2=0:=by
 refine Ex.ind (p:= λe=>(eD q vars e).2=0→ ∀a∈e.pre,a.op=3→(gc q vars a).2=0) (λe ih h a ha h3=> ?_) e
 obtain⟨h1,l,h2⟩:=C1 h
 rw[Ex.pre_eq]at ha
 rcases List.mem_cons.1 ha with rfl|ha
 ·unfold aY at h2
  rw[if_neg (by omega),if_neg (by omega),if_pos h3]at h2
  exact h2
 ·have key: ∀l:List Ex,a∈Ex.pres l→ ∃b∈l,a∈b.pre:=by
   intro l
   induction l with
   |nil=>intro h;simp[Ex.pres]at h
   |cons b r E=>
    intro h
    rw[Ex.pres]at h
    rcases List.mem_append.1 h with h|h
    ·exact⟨b,List.mem_cons_self,h⟩
    ·obtain⟨c,hc,h⟩:=E h
     exact⟨c,List.mem_cons_of_mem _ hc,h⟩
  obtain⟨b,hb,hK⟩:=key _ ha
  exact ih b hb (h1 b hb) a hK h3
theorem uZ {p:bG} {k:Nat} {s:ByteArray} {x:Ty×List bW} (h:dm (cU p k) s=some x):dm p s=some x:=by
 unfold dm cU at*
 simp only at h
 split
 ·rename_i y hy
  rw[hy]at h
  exact h
 ·rename_i hy
  rw[hy]at h
  simp only at h
  split at h
  ·rename_i d hd
   have:p.defs.find? (λd=>decide (d.name=s))=some d:=by
    rw[←List.take_append_drop k p.defs,List.find?_append,hd]
    rfl
   rw[this]
   exact h
  ·cases h
theorem ur {p:bG} (hf:iR p) (hL:Cs p) {s:ByteArray} {t:Ty} {ds:List bW} (h:dm p s=some (t,ds)): ∀l∈ds,NJ l:=by
 unfold dm at h
 split at h
 ·rename_i x hx
  have hm:=List.mem_of_find?_eq_some hx
  have e:x.2.2=ds:=by rw[Option.some.inj h]
  subst e
  exact λl hl=>⟨hL.2.1 x hm l hl,by have:=(hf.1 x hm).2 l hl;omega⟩
 ·split at h
  ·rename_i d hd
   have hm:=List.mem_of_find?_eq_some hd
   cases h
   intro l hl
   obtain⟨a,ha,rfl⟩:=List.mem_map.1 hl
   exact⟨(hL.2.2 d hm).1 a (List.mem_append_left _ ha),by have:=(hf.2 d hm).2.2.1 a ha;omega⟩
  ·cases h
theorem TK {p:bG} {k:Nat} {vars:List ByteArray} {a:Ex} (hf:iR p) (hL:Cs p) (h:(gc (cU p k) vars a).2=0):Ul p a:=by
 unfold gc at h
 split at h
 ·cases h
 ·rename_i t ds hM
  split at h
  ·cases h
  ·rename_i z
   split at h
   ·contradiction
   ·rename_i hz
    have hb:=uZ hM
    refine⟨t,ds,hb,Classical.not_not.1 z,ur hf hL hb,λx hx hn=> ?_⟩
    have A:=iF (Classical.not_not.1 hz) _ (List.mem_map.2 ⟨x,hx,rfl⟩)
    unfold gB at A
    rw[if_neg hn]at A
    split at A
    ·cases A
    ·rename_i t' ds' W
     have Y:=uZ W
     split at A
     ·cases A
     ·split at A
      ·cases A
      ·rename_i G
       exact⟨t',ds',Y,Classical.not_not.1 G,ur hf hL Y⟩
theorem zR {p:bG} (hl: ¬iM p) (v:kI p) (hL:Cs p) (h:(bn p).2=0) {k:Nat} (hk:k<p.defs.length):uk p p.defs[k].body∧p.defs[k].body.sz≤2000:=by
 obtain⟨⟨c1,c2,c3,c4,c5⟩,hs,hp,hd⟩:=jU h
 have hf:=mQ hl
 obtain⟨f1,f2,f3,f4⟩:=hf.2 _ (List.getElem_mem hk)
 obtain⟨_,ht⟩:=sd hk (hd k hk)
 obtain⟨t1,t2⟩:=v6 ht
 have hr:=m0 t1
 have hz: ∀a∈p.defs[k].body.pre,bf a=0:=by
  intro a ha
  unfold gG at t1
  split at t1
  ·cases t1
  ·split at t1
   ·cases t1
   ·exact iF t1 _ (List.mem_map.2 ⟨a,ha,rfl⟩)
 have hP:=qO _ hr (λa ha=>(iw (hz a ha)).1) t2
 have Z:p.defs[k].body.sz≤2000:=by
  unfold gG at t1
  split at t1
  ·cases t1
  ·split at t1
   ·cases t1
   ·omega
 refine⟨⟨⟨hr,λa ha=>⟨(v _ (List.getElem_mem hk) a ha).1,λl Q=>⟨(hL.2.2 _ (List.getElem_mem hk)).2 a ha l Q, ?_⟩⟩⟩,λa ha h3=>TK hf hL (Nt _ t2 a ha h3)⟩,Z⟩
 have hQ:=(bD.1 ((iw (hz a ha)).2.2.2.2.2 l Q)).1
 have:=E5 hQ (L:=aS p.defs[k]++p.sizes) λm hm=>by
  rcases hP a ha l Q m hm with h|h
  ·exact List.mem_append_left _ h
  ·exact List.mem_append_right _ h
 have hY:(aS p.defs[k]).length≤24:=by unfold aS;simp;omega
 simp only[List.length_append]at this
 omega
theorem ML (f x:bW):(d7 f x).length=2:=rfl
theorem E7 {l:List (bW×bW)}:(l.flatMap λq=>d7 q.1 q.2).length=2*l.length:=by
 induction l with
 |nil=>rfl
 |cons a r ih=>simp only[List.flatMap_cons,List.length_append,ih,ML,List.length_cons];omega
theorem yR {p:bG} {x:Ix} {d:bW} (h:x.2.2.length≤6):(u0 p x d).length≤12:=by
 unfold u0
 split
 ·simp[d7]
 ·rw[E7]
  have:(x.2.2.zip (nE p x.2.1)).length≤x.2.2.length:=by simp;omega
  omega
theorem D6 {p:bG}: ∀{l:List (Ix×bW)},(∀x∈l,x.1.2.2.length≤6)→(l.flatMap λq=>u0 p q.1 q.2).length≤12*l.length
 | [],_=>by simp
 |a::r,h=>by
  have h1:=yR (p:=p) (d:=a.2) (h a List.mem_cons_self)
  have h2:=D6 (p:=p) (l:=r) λx hx=>h x (List.mem_cons_of_mem _ hx)
  simp only[List.flatMap_cons,List.length_append,List.length_cons]
  omega
theorem tz (p:bG) (e:Ex):iy e→ ∀cs,(jo p e cs).length≤72*e.sz:=by
 refine Ex.ind (p:= λe=>iy e→ ∀cs,(jo p e cs).length≤72*e.sz) (λe ih h cs=> ?_) e
 obtain⟨_,_,_,h4,h5⟩:=dP h
 have hz:=Ex.sz_eq e
 rw[lU,List.length_append]
 have h1:(if e.op=3 then(vd p e.idx e.name).map (λc=>(c,cs))else []).length≤72:=by
  split
  ·rw[List.length_map]
   have:=D6 (p:=p) (l:=e.idx.zip (nE p e.name)) λx hx=>h5 _ (List.of_mem_zip hx).1
   have h6:(e.idx.zip (nE p e.name)).length≤e.idx.length:=by simp;omega
   unfold vd
   omega
  ·simp
 have C: ∀a∈e.args,∀cs,(jo p a cs).length≤72*a.sz:= λa ha=>ih a ha (il h ha)
 have h2:(m8 p e.args cs).length≤72*Ex.szs e.args:=by
  generalize e.args=l at C
  clear hz ih h1 h h4 h5
  induction l with
  |nil=>simp[m8]
  |cons a r E=>
   have:=C a List.mem_cons_self cs
   have:=E λb hb=>C b (List.mem_cons_of_mem _ hb)
   simp only[m8,List.length_append,Ex.szs]
   omega
 have h3:(Qm p e.args cs).length≤72*Ex.szs e.args:=by
  match hm:e.args with
  | []=>simp[Qm]
  | [a]=>simp[Qm]
  | [a,b]=>simp[Qm]
  |a::b::c::r=>
   have:=C a (by rw[hm];simp) cs
   have:=C b (by rw[hm];simp) (cs++(bE a).1)
   have:=C c (by rw[hm];simp) (cs++(bE (fc a)).1)
   simp only[Qm,List.length_append,Ex.szs]
   omega
 by_cases hC:e.op=11
 ·rw[if_pos hC];omega
 ·rw[if_neg hC];omega
set_option maxRecDepth 1000000
abbrev Vf (x:LB):AV:= .tup [da x.1.1 x.1.2,Go.Abs.B x.2]
abbrev Ve (x:CB):AV:= .tup [bB x.1,Go.Abs.B x.2]
theorem KA {l:List Ex} (h:(l.length:Int)=1): ∃a,l= [a]:=by match l,h with| [a],_=>exact⟨a,rfl⟩
theorem Di {l:List Ex} (h:(l.length:Int)=2): ∃a b,l= [a,b]:=by match l,h with| [a,b],_=>exact⟨a,b,rfl⟩
theorem RP {l:List Ex} (h:(l.length:Int)=3): ∃a b c,l= [a,b,c]:=by match l,h with| [a,b,c],_=>exact⟨a,b,c,rfl⟩
theorem cQ {e a:Ex} (h:a∈e.args):a.sz<e.sz:=by
 rw[Ex.sz_eq e]
 generalize e.args=l at h
 induction l with
 |nil=>cases h
 |cons b r ih=>
  rw[Ex.szs]
  rcases List.mem_cons.1 h with rfl|h
  ·omega
  ·have:=ih h;omega
theorem fY {n:Nat} {x:LB} (h:Sb n x) (hn:n≤20000):bl x.1∧short x.1.2∧x.1.2.length≤40000000:=⟨h.1,by have:=h.2;unfold short;omega,by have:=h.2;omega⟩
theorem mH (e:Ex):iZ e→e.sz≤20000→ac Ya 161 [fE e] (Vf (du e)):=by
 refine Ex.ind (p:= λe=>iZ e→e.sz≤20000→ac Ya 161 [fE e] (Vf (du e))) (λe ih h hs=> ?_) e
 refine ac.of xd (by simp) λhb=>aa ?_
 clear hb
 have ha:=(dP h.1).1
 rw[yX]
 conv in bh _ _=>cbv
 by_cases k2:e.op=2
 ·rw[show t8 e.op e.val e.ty e.lin (e.args.map du)=(e.lin,true) by simp[t8,k2]]
  clear ih ha h
  repeat' first|simp(disch:=omega)only[go_sem, *,k2]|apply ab<;>intro h<;>try omega|apply af|(with_reducible refine ag (λh=> ?_) ?_)
  all_goals rfl
 by_cases k1:e.op=1
 ·rw[show t8 e.op e.val e.ty e.lin (e.args.map du)=((e.val.1, []),decide (e.ty.1=3)) by simp[t8,k1]]
  have pc:=mT e.val.1
  clear ih ha h k2
  repeat' first|simp(disch:=omega)only[go_sem, *,k1]|apply ab<;>intro h<;>try omega|apply af|(with_reducible refine ag (λh=> ?_) ?_)|refine aW pc rfl rfl ?_
  all_goals rfl
 by_cases k8:e.op=8
 ·rw[k8]at ha
  obtain⟨a,g⟩:=KA (l:=e.args) ha
  have hm:a∈e.args:=by rw[g];exact List.mem_cons_self
  have hN:t8 e.op e.val e.ty e.lin (e.args.map du)=if(du a).2=true then QV (bM (du a).1 (-1))else jn:=by rw[g,k8];simp[t8]
  rw[hN]
  have pa:=ih a hm (aV h hm) (by have:=cQ hm;omega)
  obtain⟨q1,q2,_⟩:=fY (wd a (aV h hm)) (by have:=cQ hm;omega)
  have hg:(e.args.map Ex.row)[0]? =some a.row:=by rw[g];rfl
  have hl:e.args.length=1:=by rw[g];rfl
  clear ih ha h k2 k1 hN hm g hs
  generalize du a=r at*
  obtain⟨⟨K,l⟩,b⟩:=r
  cases b
  ·rw[if_neg (by simp)]
   repeat' first|simp(disch:=omega)only[go_sem, *,k8,hl,hg,Ex.row_eq,Int.toNat_zero]|apply ab<;>intro h<;>try omega|apply af|(with_reducible refine ag (λh=> ?_) ?_)|refine aW pa rfl rfl ?_
   all_goals rfl
  ·rw[if_pos rfl]
   have ps:=jK (a:=(K,l)) (b:= -1) q1 (by decide) q2
   clear q1 q2
   unfold QV
   generalize bM (K,l) (-1)=s at*
   obtain⟨⟨K',l'⟩,er⟩:=s
   try simp only at ps
   repeat' first|simp(disch:=omega)only[go_sem, *,k8,hl,hg,Ex.row_eq,Int.toNat_zero]|apply ab<;>intro h<;>try omega|apply af|(with_reducible refine ag (λh=> ?_) ?_)|refine aW pa rfl rfl ?_|refine aW ps rfl rfl ?_
   all_goals rfl
 by_cases k45:e.op=4∨e.op=5
 ·have w:(e.args.length:Int)=2:=by rw[ha];unfold iW;rcases k45 with k|k<;>rw[k]<;>rfl
  obtain⟨a,b,g⟩:=Di w
  have hm:a∈e.args:=by rw[g];exact List.mem_cons_self
  have i:b∈e.args:=by rw[g];exact List.mem_cons_of_mem _ List.mem_cons_self
  have hN:t8 e.op e.val e.ty e.lin (e.args.map du)=if(du a).2=true∧(du b).2=true then QV (if e.op=5 then i0 (du b).1 (du a).1 else fj (du a).1 (du b).1)else jn:=by
   rw[g]
   unfold t8
   rw[if_neg k2,if_neg k1,if_neg k8,if_pos k45]
   rfl
  rw[hN]
  have pa:=ih a hm (aV h hm) (by have:=cQ hm;omega)
  have pb:=ih b i (aV h i) (by have:=cQ i;omega)
  obtain⟨q1,q2,q3⟩:=fY (wd a (aV h hm)) (by have:=cQ hm;omega)
  obtain⟨r1,r2,r3⟩:=fY (wd b (aV h i)) (by have:=cQ i;omega)
  have hg:(e.args.map Ex.row)[0]? =some a.row:=by rw[g];rfl
  have u:(e.args.map Ex.row)[1]? =some b.row:=by rw[g];rfl
  have hl:e.args.length=2:=by rw[g];rfl
  clear ih ha w h k2 k1 k8 hN hm i g hs
  generalize du a=r at*
  obtain⟨⟨K,l⟩,x⟩:=r
  generalize du b=r at*
  obtain⟨⟨K',l'⟩,y⟩:=r
  by_cases j:x=true∧y=true
  ·obtain⟨rfl,rfl⟩:=j
   rw[if_pos ⟨rfl,rfl⟩]
   unfold QV
   rcases k45 with k|k
   ·have ps:=mt q1 r1 q2 r2
    rw[if_neg (by omega)]
    clear q1 q2 r1 r2 q3 r3
    simp only at ps ⊢
    generalize fj (K,l) (K',l')=s at*
    obtain⟨⟨K2,l2⟩,er⟩:=s
    try simp only at ps
    repeat' first|simp(disch:=omega)only[go_sem, *,k,hl,hg,u,Ex.row_eq,Int.toNat_zero,Int.toNat_one]|apply ab<;>intro h<;>try omega|apply af|(with_reducible refine ag (λh=> ?_) ?_)|refine aW pa rfl rfl ?_|refine aW pb rfl rfl ?_|refine aW ps rfl rfl ?_
    all_goals rfl
   ·have ps:=jC q1 r1 (by omega) (by omega)
    rw[if_pos k]
    clear q1 q2 r1 r2 q3 r3
    simp only at ps ⊢
    generalize i0 (K',l') (K,l)=s at*
    obtain⟨⟨K2,l2⟩,er⟩:=s
    try simp only at ps
    repeat' first|simp(disch:=omega)only[go_sem, *,k,hl,hg,u,Ex.row_eq,Int.toNat_zero,Int.toNat_one]|apply ab<;>intro h<;>try omega|apply af|(with_reducible refine ag (λh=> ?_) ?_)|refine aW pa rfl rfl ?_|refine aW pb rfl rfl ?_|refine aW ps rfl rfl ?_
    all_goals rfl
  ·rw[if_neg j]
   clear q1 q2 r1 r2 q3 r3
   rcases k45 with k|k
   all_goals
    cases x<;>cases y
    all_goals first
     |(exact absurd ⟨rfl,rfl⟩ j;done)
     |skip
    all_goals
     clear j
     repeat' first|simp(disch:=omega)only[go_sem, *,k,hl,hg,u,Ex.row_eq,Int.toNat_zero,Int.toNat_one]|apply ab<;>intro h<;>try omega|apply af|(with_reducible refine ag (λh=> ?_) ?_)|refine aW pa rfl rfl ?_|refine aW pb rfl rfl ?_
    all_goals rfl
 ·have hN:t8 e.op e.val e.ty e.lin (e.args.map du)=jn:=by
   unfold t8
   rw[if_neg k2,if_neg k1,if_neg k8,if_neg k45]
  rw[hN]
  have k4: ¬e.op=4:= λh=>k45 (.inl h)
  have k5: ¬e.op=5:= λh=>k45 (.inr h)
  clear ih ha h hN k45
  repeat' first|simp(disch:=omega)only[go_sem, *,k2,k1,k8,k4,k5]|apply ab<;>intro h<;>try omega|apply af|(with_reducible refine ag (λh=> ?_) ?_)
  all_goals rfl
theorem sv {e a b:Ex} (h:iZ e) (hs:e.sz≤20000) (g:e.args= [a,b]):ac Ya 122 [fE e] (if(du a).2=true∧(du b).2=true then .tup [iS ((oP e.op (du a).1 (du b).1).1,decide (e.op=15)),Go.Abs.B (decide ((oP e.op (du a).1 (du b).1).2=0))]else .tup [iS ((0, []),false),Go.Abs.B false]):=by
 refine ac.of ug (by simp) λhb=>aa ?_
 clear hb
 conv in bh _ _=>cbv
 have hm:a∈e.args:=by rw[g];exact List.mem_cons_self
 have i:b∈e.args:=by rw[g];exact List.mem_cons_of_mem _ List.mem_cons_self
 have pa:=mH a (aV h hm) (by have:=cQ hm;omega)
 have pb:=mH b (aV h i) (by have:=cQ i;omega)
 obtain⟨q1,q2,q3⟩:=fY (wd a (aV h hm)) (by have:=cQ hm;omega)
 obtain⟨r1,r2,r3⟩:=fY (wd b (aV h i)) (by have:=cQ i;omega)
 have hg:(e.args.map Ex.row)[0]? =some a.row:=by rw[g];rfl
 have u:(e.args.map Ex.row)[1]? =some b.row:=by rw[g];rfl
 have hl:e.args.length=2:=by rw[g];rfl
 clear h hm i g hs
 generalize du a=r at*
 obtain⟨⟨K,l⟩,x⟩:=r
 generalize du b=r at*
 obtain⟨⟨K',l'⟩,y⟩:=r
 by_cases j:x=true∧y=true
 ·obtain⟨rfl,rfl⟩:=j
  rw[if_pos ⟨rfl,rfl⟩]
  have p1:=jC r1 q1 (by omega) (by omega)
  have p2:=jy q1 r1 (by omega) (by omega)
  clear q1 q2 r1 r2 q3 r3
  simp only at p1 p2 ⊢
  by_cases k:e.op=13
  ·rw[show oP e.op (K,l) (K',l')=d5 (K,l) (K',l') by rw[oP,if_pos k]]
   generalize i0 (K,l) (K',l')=s at*
   obtain⟨⟨K1,l1⟩,e1⟩:=s
   generalize d5 (K,l) (K',l')=s at*
   obtain⟨⟨K2,l2⟩,er⟩:=s
   try simp only at p1 p2
   repeat' first|simp(disch:=omega)only[go_sem, *,k,hl,hg,u,Ex.row_eq,Int.toNat_zero,Int.toNat_one]|apply ab<;>intro h<;>try omega|apply af|(with_reducible refine ag (λh=> ?_) ?_)|refine aW pa rfl rfl ?_|refine aW pb rfl rfl ?_|refine aW p1 rfl rfl ?_|refine aW p2 rfl rfl ?_
   all_goals rfl
  ·rw[show oP e.op (K,l) (K',l')=i0 (K,l) (K',l') by rw[oP,if_neg k]]
   generalize i0 (K,l) (K',l')=s at*
   obtain⟨⟨K1,l1⟩,e1⟩:=s
   try simp only at p1
   clear p2
   repeat' first|simp(disch:=omega)only[go_sem, *,k,hl,hg,u,Ex.row_eq,Int.toNat_zero,Int.toNat_one]|apply ab<;>intro h<;>try omega|apply af|(with_reducible refine ag (λh=> ?_) ?_)|refine aW pa rfl rfl ?_|refine aW pb rfl rfl ?_|refine aW p1 rfl rfl ?_
   all_goals rfl
 ·rw[if_neg j]
  clear q1 q2 r1 r2 q3 r3
  cases x<;>cases y
  all_goals first
   |(exact absurd ⟨rfl,rfl⟩ j;done)
   |skip
  all_goals
   clear j
   repeat' first|simp(disch:=omega)only[go_sem, *,hl,hg,u,Ex.row_eq,Int.toNat_zero,Int.toNat_one]|apply ab<;>intro h<;>try omega|apply af|(with_reducible refine ag (λh=> ?_) ?_)|refine aW pa rfl rfl ?_|refine aW pb rfl rfl ?_
  all_goals rfl
theorem IT {e a b:Ex} (hk:13≤e.op∧e.op≤15) (g:e.args= [a,b]):bE e=if(du a).2=true∧(du b).2=true then Tg (oP e.op (du a).1 (du b).1) (decide (e.op=15))else([],false):=by
 rw[rS,g,Ij,if_pos hk]
 rfl
theorem F3 {e a b:Ex} (hk:e.op=16) (g:e.args= [a,b]):bE e=((bE a).1++(bE b).1,(bE a).2&&(bE b).2):=by
 rw[rS,g,Ij,if_neg (by omega),if_pos hk]
 rfl
theorem vt {e a:Ex} (hk:e.op=18) (g:e.args= [a]):bE e=uX (bE a):=by
 rw[rS,g,Ij,if_neg (by omega),if_neg (by omega),if_pos hk]
 rfl
theorem K9 {e:Ex} (h1: ¬(13≤e.op∧e.op≤15)) (h2:e.op≠16) (h3:e.op≠18):bE e=([],false):=by
 rw[rS,Ij,if_neg h1,if_neg h2,if_neg h3]
set_option maxRecDepth 20000
set_option maxRecDepth 1000000
theorem IG {c:aU} (h0:(eT c).2=0) (h1:(eT c).1.length=1):aI c.1.2∧ ¬kB c.1.2∧c.2=false∧eT c=([kG c.1],0):=by
 by_cases a:aI c.1.2
 ·by_cases b:kB c.1.2
  ·unfold eT at h0
   rw[if_neg (not_not_intro a),if_pos b]at h0
   cases h0
  ·by_cases d:c.2=false
   ·exact⟨a,b,d,by unfold eT;rw[if_neg (not_not_intro a),if_neg b,if_pos d]⟩
   ·unfold eT at h0 h1
    rw[if_neg (not_not_intro a),if_neg b,if_neg d]at h0 h1
    by_cases e:c.1.1= -9223372036854775808
    ·rw[if_pos e]at h0;cases h0
    ·rw[if_neg e]at h1;cases h1
 ·unfold eT at h0
  rw[if_pos a]at h0
  cases h0
theorem py {c:aU} (v:br c) (hs:short c.1.2) (h0:(eT c).2=0) (h1:(eT c).1.length=1):aw Ya 73 [iS c] [] 0 (.tup [.c (.tsl ((eT c).1.map cP)),I 0]) [] 0:=by
 obtain⟨hD,hm,hq,hN⟩:=IG h0 h1
 have pv:=b6 c
 have po:=iD (f:=c.1) v hs
 rw[vS,if_neg hm]at po
 rw[if_pos hD]at pv
 rw[hN]
 clear hN h0 h1 hD hm v hs
 obtain⟨⟨K,l⟩,q⟩:=c
 simp only at hq
 subst hq
 refine aw.ofZ (ress:= [.c (.tsl ([kG (K,l)].map cP)),I 0]) ke (by simp) λ_=>aa ?_
 conv in bh _ _=>cbv
 try simp only at po pv
 repeat' first|simp(disch:=omega)only[go_sem, *]|apply ab<;>intro h<;>try omega|apply af|(with_reducible refine ag (λh=> ?_) ?_)|refine aq pv rfl rfl ?_|refine aW po rfl rfl ?_
 refine⟨[], [], ?_⟩
 simp(disch:=omega)only[go_sem,aQ]
 simp[cn,dW,kG,rp,cP]
def NK (e:Ex):Prop:=
 (aw Ya 71 [fE e] [] 0 (.tup [.c .nils,Go.Abs.B (bE e).2]) [] 0∧(bE e).1= [])∨
 (aw Ya 71 [fE e] [] 0 (.tup [.c (.tsl ((bE e).1.map cP)),Go.Abs.B (bE e).2]) [] 0∧(bE e).1≠ [])∨
 aw Ya 71 [fE e] [] 0 (.tup [.c (.ref 0),Go.Abs.B (bE e).2]) [(0,.arr 64 3 ((bE e).1.map cP))] 1
theorem AI (e:Ex):iZ e→e.sz≤20000→NK e:=by
 refine Ex.ind (p:= λe=>iZ e→e.sz≤20000→NK e) (λe ih h hs=> ?_) e
 have ha:=(dP h.1).1
 unfold NK
 by_cases k:13≤e.op∧e.op≤15
 ·have w:(e.args.length:Int)=2:=by
   rw[ha]
   have:e.op=13∨e.op=14∨e.op=15:=by omega
   rcases this with k|k|k<;>rw[k]<;>rfl
  obtain⟨a,b,g⟩:=Di w
  have pc:=sv h hs g
  rw[IT k g]
  clear ih ha w h hs g
  have hd:e.op=13∨e.op=14∨e.op=15:=by omega
  clear k
  by_cases j:(du a).2=true∧(du b).2=true
  ·rw[if_pos j]at pc ⊢
   clear j
   unfold Tg
   generalize oP e.op (du a).1 (du b).1=s at*
   obtain⟨⟨K2,l2⟩,er⟩:=s
   by_cases h0:er=0
   ·subst h0
    rw[if_pos rfl]
    try simp only at pc
    refine .inr (.inl ⟨aw.ofZ (ress:= [.c (.tsl ([((K2,l2),decide (e.op=15))].map cP)),Go.Abs.B true]) bj (by simp) λ_=>aa ?_,by simp⟩)
    simp only[bp]
    rcases hd with hd|hd|hd
    all_goals
     simp only[fE,hd]at pc
     repeat' first|simp(disch:=omega)only[go_sem, *,hd]|apply ab<;>intro h<;>try omega|apply af|(with_reducible refine ag (λh=> ?_) ?_)|refine aW pc rfl rfl ?_
     refine⟨[], [], ?_⟩
     simp(disch:=omega)only[go_sem,aQ]
     simp[cn,dW,cP,hd]
   ·rw[if_neg h0]
    try simp only at pc
    refine .inl ⟨aw.ofZ (ress:= [.c .nils,Go.Abs.B false]) bj (by simp) λ_=>aa ?_,rfl⟩
    simp only[bp]
    rcases hd with hd|hd|hd
    all_goals
     simp only[fE,hd]at pc
     repeat' first|simp(disch:=omega)only[go_sem, *,h0,hd]|apply ab<;>intro h<;>try omega|apply af|(with_reducible refine ag (λh=> ?_) ?_)|refine aW pc rfl rfl ?_
     refine⟨[], [], ?_⟩
     simp(disch:=omega)only[go_sem,aQ]
     simp[cn,dW,cP]
  ·rw[if_neg j]at pc ⊢
   clear j
   refine .inl ⟨aw.ofZ (ress:= [.c .nils,Go.Abs.B false]) bj (by simp) λ_=>aa ?_,rfl⟩
   simp only[bp]
   rcases hd with hd|hd|hd
   all_goals
    simp only[fE,hd]at pc
    repeat' first|simp(disch:=omega)only[go_sem, *,hd]|apply ab<;>intro h<;>try omega|apply af|(with_reducible refine ag (λh=> ?_) ?_)|refine aW pc rfl rfl ?_
    refine⟨[], [], ?_⟩
    simp(disch:=omega)only[go_sem,aQ]
    simp[cn,dW,cP]
 by_cases k16:e.op=16
 ·have w:(e.args.length:Int)=2:=by rw[ha,k16];rfl
  obtain⟨a,b,g⟩:=Di w
  rw[F3 k16 g]
  have hm:a∈e.args:=by rw[g];exact List.mem_cons_self
  have i:b∈e.args:=by rw[g];exact List.mem_cons_of_mem _ List.mem_cons_self
  have hA:=ih a hm (aV h hm) (by have:=cQ hm;omega)
  have hB:=ih b i (aV h i) (by have:=cQ i;omega)
  have q1:=(kf a (aV h hm)).1
  have q2:=(kf b (aV h i)).1
  have s1:=cQ hm
  have s2:=cQ i
  have hg:(e.args.map Ex.row)[0]? =some a.row:=by rw[g];rfl
  have u:(e.args.map Ex.row)[1]? =some b.row:=by rw[g];rfl
  have hl:e.args.length=2:=by rw[g];rfl
  clear ih ha w h k hm i g
  have l1:(bE a).1.length≤20000:=by omega
  have l2:(bE b).1.length≤20000:=by omega
  clear q1 q2 s1 s2 hs
  unfold NK at hA hB
  generalize bE a=r at*
  obtain⟨x,y⟩:=r
  generalize bE b=r at*
  obtain⟨x',y'⟩:=r
  have ok':aK 3 (x'.map cP):=ar λ_=>rfl
  have ok:aK 3 (x.map cP):=ar λ_=>rfl
  simp only at l1 l2 hA hB ⊢
  rcases hA with⟨pa,ea⟩|⟨pa,ea⟩|pa<;>rcases hB with⟨pb,eb⟩|⟨pb,eb⟩|pb
  ·subst ea
   subst eb
   cases y
   all_goals
    refine .inr (.inr (aw.ofZ (ress:= [.c (.ref 0),_]) bj (by simp) λ_=>aa ?_))
    simp only[bp]
    repeat' first|simp(disch:=omega)only[go_sem, *,k16,hl,hg,u,Ex.row_eq,Int.toNat_zero,Int.toNat_one]|apply ab<;>intro h<;>try omega|apply af|(with_reducible refine ag (λh=> ?_) ?_)|refine ap (pa.lift0 rfl rfl) ?_|refine ap (pb.lift0 rfl rfl) ?_|refine ia ok' (by simp;try omega) (by simp;try omega) ?_
    refine⟨[], [(0,1)], ?_⟩
    simp(disch:=omega)only[go_sem,aQ]
    simp[cn,dW]
  ·subst ea
   cases y
   all_goals
    refine .inr (.inr (aw.ofZ (ress:= [.c (.ref 0),_]) bj (by simp) λ_=>aa ?_))
    simp only[bp]
    repeat' first|simp(disch:=omega)only[go_sem, *,k16,hl,hg,u,Ex.row_eq,Int.toNat_zero,Int.toNat_one]|apply ab<;>intro h<;>try omega|apply af|(with_reducible refine ag (λh=> ?_) ?_)|refine ap (pa.lift0 rfl rfl) ?_|refine ap (pb.lift0 rfl rfl) ?_|refine ia ok' (by simp;try omega) (by simp;try omega) ?_
    refine⟨[], [(0,1)], ?_⟩
    simp(disch:=omega)only[go_sem,aQ]
    simp[cn,dW]
  ·subst ea
   cases y
   all_goals
    refine .inr (.inr (aw.ofZ (ress:= [.c (.ref 0),_]) bj (by simp) λ_=>aa ?_))
    simp only[bp]
    repeat' first|simp(disch:=omega)only[go_sem, *,k16,hl,hg,u,Ex.row_eq,Int.toNat_zero,Int.toNat_one]|apply ab<;>intro h<;>try omega|apply af|(with_reducible refine ag (λh=> ?_) ?_)|refine ap (pa.lift0 rfl rfl) ?_|refine ap (pb.lift1 rfl rfl rfl) ?_|refine ia ok' (by simp;try omega) (by simp;try omega) ?_
    refine⟨[], [(0,2)], ?_⟩
    simp(disch:=omega)only[go_sem,aQ]
    simp[cn,dW]
  ·subst eb
   rw[show x++([]:List aU)=x from List.append_nil x]
   cases y
   all_goals
    refine .inr (.inl ⟨aw.ofZ (ress:= [.c (.tsl (x.map cP)),_]) bj (by simp) λ_=>aa ?_,ea⟩)
    simp only[bp]
    repeat' first|simp(disch:=omega)only[go_sem, *,k16,hl,hg,u,Ex.row_eq,Int.toNat_zero,Int.toNat_one]|apply ab<;>intro h<;>try omega|apply af|(with_reducible refine ag (λh=> ?_) ?_)|refine ap (pa.lift0 rfl rfl) ?_|refine ap (pb.lift0 rfl rfl) ?_|refine dy ok ?_
    refine⟨[], [], ?_⟩
    simp(disch:=omega)only[go_sem,aQ]
    simp[cn,dW]
  ·cases y
   all_goals
    refine .inr (.inr (aw.ofZ (ress:= [.c (.ref 0),_]) bj (by simp) λ_=>aa ?_))
    simp only[bp]
    repeat' first|simp(disch:=omega)only[go_sem, *,k16,hl,hg,u,Ex.row_eq,Int.toNat_zero,Int.toNat_one]|apply ab<;>intro h<;>try omega|apply af|(with_reducible refine ag (λh=> ?_) ?_)|refine ap (pa.lift0 rfl rfl) ?_|refine ap (pb.lift0 rfl rfl) ?_|refine c8 ok ok' (by simpa using eb) (by simp;try omega) (by simp;try omega) ?_
    refine⟨[], [(0,1)], ?_⟩
    simp(disch:=omega)only[go_sem,aQ]
    simp[cn,dW]
  ·by_cases eb:x'= []
   ·subst eb
    rw[show x++([]:List aU)=x from List.append_nil x]
    cases y
    all_goals
     refine .inr (.inl ⟨aw.ofZ (ress:= [.c (.tsl (x.map cP)),_]) bj (by simp) λ_=>aa ?_,ea⟩)
     simp only[bp]
     repeat' first|simp(disch:=omega)only[go_sem, *,k16,hl,hg,u,Ex.row_eq,Int.toNat_zero,Int.toNat_one]|apply ab<;>intro h<;>try omega|apply af|(with_reducible refine ag (λh=> ?_) ?_)|refine ap (pa.lift0 rfl rfl) ?_|refine ap (pb.lift1 rfl rfl rfl) ?_|refine dy ok ?_
     refine⟨[], [], ?_⟩
     simp(disch:=omega)only[go_sem,aQ]
     simp[cn,dW]
   ·cases y
    all_goals
     refine .inr (.inr (aw.ofZ (ress:= [.c (.ref 0),_]) bj (by simp) λ_=>aa ?_))
     simp only[bp]
     repeat' first|simp(disch:=omega)only[go_sem, *,k16,hl,hg,u,Ex.row_eq,Int.toNat_zero,Int.toNat_one]|apply ab<;>intro h<;>try omega|apply af|(with_reducible refine ag (λh=> ?_) ?_)|refine ap (pa.lift0 rfl rfl) ?_|refine ap (pb.lift1 rfl rfl rfl) ?_|refine c8 ok ok' (by simpa using eb) (by simp;try omega) (by simp;try omega) ?_
     refine⟨[], [(0,2)], ?_⟩
     simp(disch:=omega)only[go_sem,aQ]
     simp[cn,dW]
  ·subst eb
   cases y
   all_goals
    refine .inr (.inr (aw.ofZ (ress:= [.c (.ref 0),_]) bj (by simp) λ_=>aa ?_))
    simp only[bp]
    repeat' first|simp(disch:=omega)only[go_sem, *,k16,hl,hg,u,Ex.row_eq,Int.toNat_zero,Int.toNat_one]|apply ab<;>intro h<;>try omega|apply af|(with_reducible refine ag (λh=> ?_) ?_)|refine ap (pa.lift1 rfl rfl rfl) ?_|refine ap (pb.lift0 rfl rfl) ?_|refine aA rfl (by intro h;cases h) ok' (by simp;try omega) (by simp;try omega) ?_
    refine⟨[], [(0,2)], ?_⟩
    simp(disch:=omega)only[go_sem,aQ]
    simp[cn,dW]
  ·cases y
   all_goals
    refine .inr (.inr (aw.ofZ (ress:= [.c (.ref 0),_]) bj (by simp) λ_=>aa ?_))
    simp only[bp]
    repeat' first|simp(disch:=omega)only[go_sem, *,k16,hl,hg,u,Ex.row_eq,Int.toNat_zero,Int.toNat_one]|apply ab<;>intro h<;>try omega|apply af|(with_reducible refine ag (λh=> ?_) ?_)|refine ap (pa.lift1 rfl rfl rfl) ?_|refine ap (pb.lift0 rfl rfl) ?_|refine aA rfl (by intro h;cases h) ok' (by simp;try omega) (by simp;try omega) ?_
    refine⟨[], [(0,2)], ?_⟩
    simp(disch:=omega)only[go_sem,aQ]
    simp[cn,dW]
  ·cases y
   all_goals
    refine .inr (.inr (aw.ofZ (ress:= [.c (.ref 0),_]) bj (by simp) λ_=>aa ?_))
    simp only[bp]
    repeat' first|simp(disch:=omega)only[go_sem, *,k16,hl,hg,u,Ex.row_eq,Int.toNat_zero,Int.toNat_one]|apply ab<;>intro h<;>try omega|apply af|(with_reducible refine ag (λh=> ?_) ?_)|refine ap (pa.lift1 rfl rfl rfl) ?_|refine ap (pb.lift1 rfl rfl rfl) ?_|refine aA rfl (by intro h;cases h) ok' (by simp;try omega) (by simp;try omega) ?_
    refine⟨[], [(0,3)], ?_⟩
    simp(disch:=omega)only[go_sem,aQ]
    simp[cn,dW]
 by_cases k18:e.op=18
 ·have w:(e.args.length:Int)=1:=by rw[ha,k18];rfl
  obtain⟨a,g⟩:=KA w
  rw[vt k18 g]
  have hm:a∈e.args:=by rw[g];exact List.mem_cons_self
  have hA:=ih a hm (aV h hm) (by have:=cQ hm;omega)
  have q1:=kf a (aV h hm)
  have s1:=cQ hm
  have hg:(e.args.map Ex.row)[0]? =some a.row:=by rw[g];rfl
  have hl:e.args.length=1:=by rw[g];rfl
  clear ih ha w h k k16 hm g
  unfold NK at hA
  have hq:Qn 20000 (bE a).1:=IU q1 (by omega)
  clear q1 s1 hs
  generalize bE a=r at*
  obtain⟨x,y⟩:=r
  simp only at hA hq ⊢
  by_cases j:x.length=1∧y=true
  ·obtain⟨hx,rfl⟩:=j
   obtain⟨c,rfl⟩: ∃c,x= [c]:=by match x,hx with| [c],_=>exact⟨c,rfl⟩
   obtain⟨v,z⟩:=hq.2 c List.mem_cons_self
   have O:short c.1.2:=by unfold short;omega
   have pn:=jr v O
   rw[show uX ([c],true)=if(eT c).2=0∧(eT c).1.length=1 then((eT c).1,true)else([],false)from rfl]
   try simp only at hA ⊢
   by_cases hn:(eT c).2=0∧(eT c).1.length=1
   ·rw[if_pos hn]
    have pl:=py v O hn.1 hn.2
    have hN:=(IG hn.1 hn.2).2.2.2
    rw[hN]at pl ⊢
    clear pn hN hn v z hq O
    refine .inr (.inl ⟨aw.ofZ (ress:= [.c (.tsl ([kG c.1].map cP)),Go.Abs.B true]) bj (by simp) λ_=>aa ?_,by simp⟩)
    simp only[bp]
    rcases hA with⟨pa,ea⟩|⟨pa,ea⟩|pa
    ·cases ea
    ·repeat' first|simp(disch:=omega)only[go_sem, *,k18,hl,hg,Ex.row_eq,Int.toNat_zero,cP]|apply ab<;>intro h<;>try omega|apply af|(with_reducible refine ag (λh=> ?_) ?_)|refine ap (pa.lift0 rfl rfl) ?_|refine ap (pl.lift0 rfl rfl) ?_
     refine⟨[], [], ?_⟩
     simp(disch:=omega)only[go_sem,aQ]
     simp[cn,dW,cP]
    ·repeat' first|simp(disch:=omega)only[go_sem, *,k18,hl,hg,Ex.row_eq,Int.toNat_zero,cP]|apply ab<;>intro h<;>try omega|apply af|(with_reducible refine ag (λh=> ?_) ?_)|refine ap (pa.lift1 rfl rfl rfl) ?_|refine ap (pl.lift0 rfl rfl) ?_
     refine⟨[], [], ?_⟩
     simp(disch:=omega)only[go_sem,aQ]
     simp[cn,dW,cP]
   ·rw[if_neg hn]
    clear v z hq O
    generalize eT c=X at*
    obtain⟨xs,er⟩:=X
    try simp only at pn hn
    have hE:er≠0∨(er=0∧ ¬((xs.length:Nat):Int)=1):=by
     by_cases h:er=0
     ·exact .inr ⟨h,λh1=>hn ⟨h,by omega⟩⟩
     ·exact .inl h
    clear hn
    refine .inl ⟨aw.ofZ (ress:= [.c .nils,Go.Abs.B false]) bj (by simp) λ_=>aa ?_,rfl⟩
    simp only[bp]
    rcases hA with⟨pa,ea⟩|⟨pa,ea⟩|pa
    ·cases ea
    ·rcases hE with h1|⟨rfl,h1⟩
     all_goals
      repeat' first|simp(disch:=omega)only[go_sem, *,k18,hl,hg,Ex.row_eq,Int.toNat_zero,cP,h1]|apply ab<;>intro h<;>try omega|apply af|(with_reducible refine ag (λh=> ?_) ?_)|refine ap (pa.lift0 rfl rfl) ?_|refine aW pn rfl rfl ?_
      refine⟨[], [], ?_⟩
      simp(disch:=omega)only[go_sem,aQ]
      simp[cn,dW,cP]
    ·rcases hE with h1|⟨rfl,h1⟩
     all_goals
      repeat' first|simp(disch:=omega)only[go_sem, *,k18,hl,hg,Ex.row_eq,Int.toNat_zero,cP,h1]|apply ab<;>intro h<;>try omega|apply af|(with_reducible refine ag (λh=> ?_) ?_)|refine ap (pa.lift1 rfl rfl rfl) ?_|refine aW pn rfl rfl ?_
      refine⟨[], [], ?_⟩
      simp(disch:=omega)only[go_sem,aQ]
      simp[cn,dW,cP]
  ·have hR:uX (x,y)=(([],false):CB):=Ll j
   rw[hR]
   have hy:y=false∨(y=true∧ ¬((x.length:Nat):Int)=1):=by
    cases y
    ·exact .inl rfl
    ·exact .inr ⟨rfl,λh1=>j ⟨by omega,rfl⟩⟩
   clear hR j hq
   refine .inl ⟨aw.ofZ (ress:= [.c .nils,Go.Abs.B false]) bj (by simp) λ_=>aa ?_,rfl⟩
   simp only[bp]
   rcases hA with⟨pa,ea⟩|⟨pa,ea⟩|pa
   ·subst ea
    rcases hy with rfl|⟨rfl,h1⟩
    all_goals
     repeat' first|simp(disch:=omega)only[go_sem, *,k18,hl,hg,Ex.row_eq,Int.toNat_zero,cP]|apply ab<;>intro h<;>try omega|apply af|(with_reducible refine ag (λh=> ?_) ?_)|refine ap (pa.lift0 rfl rfl) ?_
     refine⟨[], [], ?_⟩
     simp(disch:=omega)only[go_sem,aQ]
     simp[cn,dW,cP]
   ·rcases hy with rfl|⟨rfl,h1⟩
    ·repeat' first|simp(disch:=omega)only[go_sem, *,k18,hl,hg,Ex.row_eq,Int.toNat_zero,cP]|apply ab<;>intro h<;>try omega|apply af|(with_reducible refine ag (λh=> ?_) ?_)|refine ap (pa.lift0 rfl rfl) ?_
     refine⟨[], [], ?_⟩
     simp(disch:=omega)only[go_sem,aQ]
     simp[cn,dW,cP]
    ·repeat' first|simp(disch:=omega)only[go_sem, *,k18,hl,hg,Ex.row_eq,Int.toNat_zero,cP,h1]|apply ab<;>intro h<;>try omega|apply af|(with_reducible refine ag (λh=> ?_) ?_)|refine ap (pa.lift0 rfl rfl) ?_
     refine⟨[], [], ?_⟩
     simp(disch:=omega)only[go_sem,aQ]
     simp[cn,dW,cP]
   ·rcases hy with rfl|⟨rfl,h1⟩
    ·repeat' first|simp(disch:=omega)only[go_sem, *,k18,hl,hg,Ex.row_eq,Int.toNat_zero,cP]|apply ab<;>intro h<;>try omega|apply af|(with_reducible refine ag (λh=> ?_) ?_)|refine ap (pa.lift1 rfl rfl rfl) ?_
     refine⟨[], [], ?_⟩
     simp(disch:=omega)only[go_sem,aQ]
     simp[cn,dW,cP]
    ·repeat' first|simp(disch:=omega)only[go_sem, *,k18,hl,hg,Ex.row_eq,Int.toNat_zero,cP,h1]|apply ab<;>intro h<;>try omega|apply af|(with_reducible refine ag (λh=> ?_) ?_)|refine ap (pa.lift1 rfl rfl rfl) ?_
     refine⟨[], [], ?_⟩
     simp(disch:=omega)only[go_sem,aQ]
     simp[cn,dW,cP]
 ·rw[K9 k k16 k18]
  have d1: ¬e.op=13:=by omega
  have d2: ¬e.op=14:=by omega
  have d3: ¬e.op=15:=by omega
  clear ih ha h k
  refine .inl ⟨aw.ofZ (ress:= [.c .nils,Go.Abs.B false]) bj (by simp) λ_=>aa ?_,rfl⟩
  simp only[bp]
  repeat' first|simp(disch:=omega)only[go_sem, *,d1,d2,d3,k16,k18]|apply ab<;>intro h<;>try omega|apply af|(with_reducible refine ag (λh=> ?_) ?_)
  refine⟨[], [], ?_⟩
  simp(disch:=omega)only[go_sem,aQ]
  simp[cn,dW,cP]
set_option maxRecDepth 20000
set_option maxRecDepth 1000000
theorem qF {e:Ex} (h:iZ e) (hs:e.sz≤20000):ac Ya 71 [fE e] (Ve (bE e)):=by
 rcases AI e h hs with⟨c,h0⟩|⟨c,_⟩|c
 ·exact c.toP (by show _=some (AV.tup [bB (bE e).1,Go.Abs.B (bE e).2]);rw[h0];rfl)
 ·exact c.toP rfl
 ·exact c.toP rfl
theorem qv {q N N' a r r':Nat} {b:bk} {F:List (Nat×bk)} (h:Go.Abs.dq N [q,r] F) (h0:q<a) (ha:N≤a) (hS:a<N') (hb:pu b=true) (hr:r'=r∨N≤r') (he:a≠r'):Go.Abs.dq N' [q,r'] ((a,b)::F):=by
 refine⟨hS,hb,dB.2 λm hm=> ?_,h.mono (by omega) λn hn h'=>dB.2 λm hm=> ?_⟩
 ·simp only[List.mem_cons,List.not_mem_nil,or_false]at hm
  omega
 ·have h1:=dB.1 h' q (by simp)
  have h2:=dB.1 h' r (by simp)
  simp only[List.mem_cons,List.not_mem_nil,or_false]at hm
  omega
def Vk (d k:Nat) (o:Ob):List PC:= [pI d,pI k,pI o.1.1.1,ay o.1.1.2,pB o.1.2,dp cP o.2]
def iU (d:Nat) (l:List Ob):List (List PC):=l.zipIdx.map λx=>Vk d x.2 x.1
theorem Dw (d:Nat) (l:List Ob) (o:Ob):iU d (l++ [o])=iU d l++ [[pI d,pI l.length,pI o.1.1.1,ay o.1.1.2,pB o.1.2,dp cP o.2]]:=by simp[iU,List.zipIdx_append,Vk]
theorem Dm (d:Nat) (l:List Ob):(iU d l).length=l.length:=by simp[iU]
abbrev Wm (p:bG) (d:Nat) (c:AC) (n:Int):bk:= .var [.pure (c7 p.sizes),.pure (dp cP p.wher),.pure (dp gR p.params),.pure (dp di p.defs),.pure (c7 p.outs),.pure (pI d),c,.pure (pI n)]
abbrev QM (q r:Nat) (p:bG) (d:Nat) (l:List Ob) (F:List (Nat×bk)):List (Nat×bk):=(r,.arr 68 6 (iU d l))::(q,Wm p d (.ref r) l.length)::F
def oJ (cs:List aU) (l:List aU):List Ob:=l.map λc=>(c,cs)
theorem Gk (f x:bW): ∃T:bW,d7 f x= [(f,false),(T,false)]∧((d5 f x).2=0→T=(d5 f x).1)∧((d5 f x).2≠0→T=(-1, [])):=⟨if(d5 f x).2=0 then(d5 f x).1 else(-1, []),rfl,λh=>if_pos h,λh=>if_neg h⟩
theorem oW {p:bG} {d:Nat} {f x:bW} {cs:List aU} {l:List Ob} {q r nx:Nat} {F:List (Nat×bk)} (hf:bl f) (hx:bl x) (lf:f.2.length≤40000000) (lx:x.2.length≤40000000) (hl:l.length≤100000000) (hr:q<r) (hi:r<nx) (hF:Go.Abs.dq nx [q,r] F):
  aw Ya 70 [.c (.ptr q 0),da f.1 f.2,da x.1 x.2,bB cs] (QM q r p d l F) nx (fm []) (QM q nx p d (l++oJ cs (d7 f x)) F) (nx+1):=by
 refine aw.ofZ pP (by simp) λ_=>aa ?_
 have pb:=jy hf hx lf lx
 have pc:=mT (-1)
 have hU:=hF.del (n:=r) (.inl (by simp))
 have D: ∀k,q<nx+k:= λk=>by omega
 obtain⟨T,hT,h1,h2⟩:=Gk f x
 rw[hT]
 clear hT lf lx hf hx
 obtain⟨K,L⟩:=f
 conv in bh _ _=>cbv
 have key:T=(-1, [])∨True:= .inr trivial
 obtain⟨os,H⟩: ∃os:List aU,os= [((K,L),false),(T,false)]:=⟨_,rfl⟩
 have hV:os.length=2:=by rw[H];rfl
 have hG: ∀c∈os,c.2=false:=by rw[H];simp
 have hH:os.map (λc=>b9 c.1)= [[pI K,ay L], [pI T.1,ay T.2]]:=by rw[H];rfl
 rw[←H]
 generalize d5 (K,L) x=s at*
 obtain⟨⟨K3,L3⟩,er⟩:=s
 try simp only at pb h1 h2
 have hd:(er=0∧T=(K3,L3))∨(er≠0∧T=(-1, [])):=by
  by_cases h:er=0
  ·exact .inl ⟨h,h1 h⟩
  ·exact .inr ⟨h,h2 h⟩
 clear h1 h2 key
 rcases hd with⟨h0,rfl⟩|⟨h0,rfl⟩
 all_goals
  repeat' first|simp(disch:=omega)only[go_sem, *,aF,aN,h0]|apply ab<;>intro h<;>try omega|refine aW pb rfl rfl ?_|refine aW pc rfl rfl ?_
  refine ai (λk:Nat=>⟨[(0,.c (.ptr q 0)),(3,bB cs),(23,.c (.tsl (os.map λc=>b9 c.1))),(24,I 2),(25,I k)],QM q nx p d (l++oJ cs (os.take k)) F,nx+1,nx⟩) (λk=>k≤2) (λk=>2-k) ⟨0, [(nx,r)],by omega, ?_⟩ ?_
  ·rw[hH]
   simp only[List.take_zero,oJ,List.map_nil,List.append_nil]
   refine au (by simp(disch:=omega) [aF,D]) ?_ rfl (by simp;try omega) (by simp[eg];try omega)
   repeat' first|exact hF.wkA|refine av ?_ ?_ ?_ ?_ ?_|(simp(disch:=omega) [aF,D]<;>omega)|omega
  clear hH hU pb pc
  intro k hk
  refine aa ?_
  have hI:q<nx:=by omega
  have hW:=hF.del (n:=nx) (.inr (Nat.le_refl _))
  by_cases hj:k<2
  ·have J:k<os.length:=by omega
   have g1:=ah (f:= λc:aU=>b9 c.1) J
   have hq:=hG _ (List.getElem_mem J)
   have hu:(l++oJ cs (os.take k)).length≤100000002:=by simp[oJ];omega
   have ho:l++oJ cs (os.take (k+1))=l++oJ cs (os.take k)++ [(os[k],cs)]:=by
    rw[List.take_succ_eq_append_getElem J,oJ,List.map_append,List.append_assoc]
    rfl
   have R:=Dw d (l++oJ cs (os.take k)) (os[k],cs)
   rw[←ho]at R
   have hJ:((l++oJ cs (os.take (k+1))).length:Int)=(l++oJ cs (os.take k)).length+1:=by rw[ho];simp only[List.length_append,List.length_cons,List.length_nil];omega
   have hv:=Dm d (l++oJ cs (os.take k))
   have HR:=Lib.hid R
   have HN:=Lib.hid hJ
   clear R hJ ho H
   obtain⟨l2,G⟩: ∃l2,l2=l++oJ cs (os.take (k+1)):=⟨_,rfl⟩
   rw[←G]at HR HN
   have HL:=Lib.hid G
   clear G
   generalize l++oJ cs (os.take k)=l1 at*
   generalize os[k]=c at*
   obtain⟨⟨Kc,Lc⟩,q⟩:=c
   simp only at hq
   subst hq
   have g2:(os.map λc:aU=>b9 c.1)[k]? =some [pI Kc,ay Lc]:=g1
   clear g1 hG hV h0
   simp only at HR
   repeat' first|simp(disch:=omega)only[go_sem, *,g2,aF,aN,wrap_i64]|apply ab<;>intro h<;>try omega|refine aA (by simp(disch:=omega)only[al,aj,aF,eq_self,↓reduceIte,Option.map_some]<;>rfl) (by intro h;cases h) (an rfl) (by simp only[List.length_append,List.length_cons,List.length_nil];omega) (by simp only[List.length_append,List.length_cons,List.length_nil];omega) ?_
   rw[←HR.out,←HN.out]
   try rw[hW]
   refine⟨k+1, [(nx,nx+2)],by omega,by omega, ?_⟩
   rw[←HL.out]
   refine au (by simp(disch:=omega) [aF,D,hI]) ?_ rfl (by simp;try omega) (by simp[eg];try omega)
   repeat' first|exact hF.wkA|refine av ?_ ?_ ?_ ?_ ?_|(simp(disch:=omega) [aF,D,hI]<;>omega)|omega
  ·obtain rfl:k=2:=by omega
   rw[List.take_of_length_le (by omega)]
   repeat' first|simp(disch:=omega)only[go_sem, *,aF,aN]|apply ab<;>intro h<;>try omega
   refine⟨[], [], ?_⟩
   simp(disch:=omega)only[go_sem,aQ,aF,aN]
   refine au (by simp(disch:=omega) [aF,D]) ?_ rfl (by simp;try omega) (by simp[eg];try omega)
   repeat' first|exact hF.wkA|refine av ?_ ?_ ?_ ?_ ?_|(simp(disch:=omega) [aF,D]<;>omega)|omega
end
