import Derived.Test.YthbcbaembicdbaaGreatDoorP18w
set_option linter.unusedVariables false
set_option linter.unusedSimpArgs false
namespace Go.Proofs.YthbcbaembicdbaaGreatDoor
open Go.Abs Go.RowKit
noncomputable section
abbrev LB:=bY×Bool
abbrev CB:=List bt×Bool
abbrev jY:LB:=((0, []),false)
def YV (x:bY×Int):LB:=(x.1,decide (x.2=0))
def zi (op:Int) (val:Fr) (ty:Ty) (l:bY) (az:List LB):LB:=
 if op=2 then(l,true)else if op=1 then((val.1, []),decide (ty.1=3))
 else if op=8 then(if(az.getD 0 jY).2=true then YV (bO (az.getD 0 jY).1 (-1))else jY)
 else if op=4∨op=5 then(if(az.getD 0 jY).2=true∧(az.getD 1 jY).2=true then YV (if op=5 then kC (az.getD 1 jY).1 (az.getD 0 jY).1 else fK (az.getD 0 jY).1 (az.getD 1 jY).1)else jY)
 else jY
def mN (op:Int) (val:Fr) (ty:Ty) (l:bY) (az:List LB):LB:=
 if op=2 then(l,true)else if op=1 then((val.1, []),decide (ty.1=3))
 else if op=8 then((bO (az.getD 0 jY).1 (-1)).1,(az.getD 0 jY).2&&decide ((bO (az.getD 0 jY).1 (-1)).2=0))
 else if op=5 then((fK (az.getD 0 jY).1 (bO (az.getD 1 jY).1 (-1)).1).1,(az.getD 0 jY).2&&(az.getD 1 jY).2&&decide ((bO (az.getD 1 jY).1 (-1)).2=0)&&decide ((fK (az.getD 0 jY).1 (bO (az.getD 1 jY).1 (-1)).1).2=0))
 else if op=4 then((fK (az.getD 0 jY).1 (az.getD 1 jY).1).1,(az.getD 0 jY).2&&(az.getD 1 jY).2&&true&&decide ((fK (az.getD 0 jY).1 (az.getD 1 jY).1).2=0))
 else jY
mutual
def dj:Ex→LB
 | .mk op _ val ty lin _ args=>zi op val ty lin (JO args)
def JO:List Ex→List LB
 | []=> []
 |e::r=>dj e::JO r
end
mutual
def d4:Ex→LB
 | .mk op _ val ty lin _ args=>mN op val ty lin (M4 args)
def M4:List Ex→List LB
 | []=> []
 |e::r=>d4 e::M4 r
end
theorem Hm: ∀l:List Ex,JO l=l.map dj
 | []=>by rw[JO];rfl
 |e::r=>by rw[JO,Hm r];rfl
theorem OU: ∀l:List Ex,M4 l=l.map d4
 | []=>by rw[M4];rfl
 |e::r=>by rw[M4,OU r];rfl
theorem E4 (e:Ex):dj e=zi e.op e.val e.ty e.lin (e.args.map dj):=by
 obtain⟨op,name,val,ty,lin,idx,args⟩:=e
 rw[dj,Hm]
 rfl
theorem Mr (e:Ex):d4 e=mN e.op e.val e.ty e.lin (e.args.map d4):=by
 obtain⟨op,name,val,ty,lin,idx,args⟩:=e
 rw[d4,OU]
 rfl
def RC (a b:LB):Prop:=a.2=b.2∧(a.2=true→a.1=b.1)
theorem M8 {l:List Ex} {f:Ex→LB} {k:Nat}:((l.map f).getD k jY)=match l[k]? with|some a=>f a|none=>jY:=by
 rw[List.getD_eq_getElem?_getD,List.getElem?_map]
 cases l[k]? <;>rfl
theorem Kq {l:List Ex} (h: ∀a∈l,RC (dj a) (d4 a)) (k:Nat):RC ((l.map dj).getD k jY) ((l.map d4).getD k jY):=by
 rw[M8,M8]
 cases hk:l[k]? with
 |none=>exact⟨rfl,λ_=>rfl⟩
 |some a=>exact h a (List.mem_of_getElem? hk)
theorem ZE (e:Ex):RC (dj e) (d4 e):=by
 refine Ex.ind (p:=λe=>RC (dj e) (d4 e)) (λe ih=> ?_) e
 have h0:=Kq ih 0
 have h1:=Kq ih 1
 rw[E4,Mr]
 unfold zi mN
 generalize (e.args.map dj).getD 0 jY=a at*
 generalize (e.args.map d4).getD 0 jY=a' at*
 generalize (e.args.map dj).getD 1 jY=b at*
 generalize (e.args.map d4).getD 1 jY=b' at*
 obtain⟨a1,a2⟩:=a
 obtain⟨b1,b2⟩:=b
 obtain⟨a1',a2'⟩:=a'
 obtain⟨b1',b2'⟩:=b'
 obtain⟨h0,M⟩:=h0
 obtain⟨h1,P⟩:=h1
 simp only at h0 M h1 P
 subst h0
 subst h1
 by_cases k2:e.op=2
 ·simp only[k2,if_pos];exact⟨rfl,λ_=>rfl⟩
 by_cases k1:e.op=1
 ·simp only[k2,k1,if_pos,if_neg,not_false_eq_true];exact⟨rfl,λ_=>rfl⟩
 by_cases k8:e.op=8
 ·rw[if_neg k2,if_neg k1,if_pos k8,if_neg k2,if_neg k1,if_pos k8]
  cases a2
  ·exact⟨by simp,by simp⟩
  ·obtain rfl:=M rfl
   rw[if_pos rfl]
   exact⟨by simp[YV],λ_=>rfl⟩
 by_cases k5:e.op=5
 ·simp only[k5,show ¬(5:Int)=2 by decide,show ¬(5:Int)=1 by decide,show ¬(5:Int)=8 by decide,if_false,or_true,if_true]
  cases a2
  ·exact⟨by simp,by simp⟩
  ·cases b2
   ·exact⟨by simp,by simp⟩
   ·obtain rfl:=M rfl
    obtain rfl:=P rfl
    rw[if_pos ⟨rfl,rfl⟩]
    unfold YV kC
    by_cases hs:(bO b1 (-1)).2=0
    ·rw[if_neg (not_not_intro hs)]
     exact⟨by simp[hs],λ_=>rfl⟩
    ·rw[if_pos hs]
     exact⟨by simp[hs],λh=>by simp[hs]at h⟩
 by_cases k4:e.op=4
 ·simp only[k4,show ¬(4:Int)=2 by decide,show ¬(4:Int)=1 by decide,show ¬(4:Int)=8 by decide,show ¬(4:Int)=5 by decide,if_false,or_false,if_true]
  cases a2
  ·exact⟨by simp,by simp⟩
  ·cases b2
   ·exact⟨by simp,by simp⟩
   ·obtain rfl:=M rfl
    obtain rfl:=P rfl
    rw[if_pos ⟨rfl,rfl⟩]
    exact⟨by simp[YV],λ_=>rfl⟩
 ·simp only[k2,k1,k8,k5,k4,if_false,or_false]
  exact⟨rfl,λ_=>rfl⟩
def sK (op:Int) (a b:bY):bY×Int:=if op=13 then eD a b else kC a b
def Nh (x:bY×Int) (q:Bool):CB:=if x.2=0 then([(x.1,q)],true)else([],false)
theorem RH (op:Int) (a b:bY):bq (sK op a b).1∧(sK op a b).1.2.length≤a.2.length+b.2.length:=by
 unfold sK
 split
 ·exact⟨Ld _ _,Fs _ _⟩
 ·exact⟨Le _ _,vI _ _⟩
def Bt (r:CB):CB:=match r with
 |([c],true)=>if(fp c).2=0∧(fp c).1.length=1 then((fp c).1,true)else([],false)
 |_=>([],false)
theorem Rq {r:CB} (h: ¬(r.1.length=1∧r.2=true)):Bt r=([],false):=by
 unfold Bt
 split
 ·exact absurd ⟨rfl,rfl⟩ h
 ·rfl
def N8 (op:Int) (ls:List LB) (fs:List CB):CB:=
 if 13≤op∧op≤15 then(if(ls.getD 0 jY).2=true∧(ls.getD 1 jY).2=true then
   Nh (sK op (ls.getD 0 jY).1 (ls.getD 1 jY).1) (decide (op=15))
  else([],false))
 else if op=16 then((fs.getD 0 ([],false)).1++(fs.getD 1 ([],false)).1,(fs.getD 0 ([],false)).2&&(fs.getD 1 ([],false)).2)
 else if op=18 then Bt (fs.getD 0 ([],false))
 else([],false)
mutual
def bA:Ex→CB
 | .mk op _ _ _ _ _ args=>N8 op (JO args) (OE args)
def OE:List Ex→List CB
 | []=> []
 |e::r=>bA e::OE r
end
theorem MM: ∀l:List Ex,OE l=l.map bA
 | []=>by rw[OE];rfl
 |e::r=>by rw[OE,MM r];rfl
theorem wD (e:Ex):bA e=N8 e.op (e.args.map dj) (e.args.map bA):=by
 obtain⟨op,name,val,ty,lin,idx,args⟩:=e
 rw[bA,Hm,MM]
 rfl
def fh (a:Ex):Ex:= .mk 18 ⟨⟨[]⟩⟩ (0,0) js (0, []) [] [a]
def eP (f x:bY):List bt:= [(f,false),(if(eD f x).2=0 then(eD f x).1 else(-1, []),false)]
def uW (p:bI) (s:ByteArray):List bY:=match di p s with
 |some x=>x.2
 |none=> []
def BJ (p:bI) (x:Ix) (d:bY):List bt:=if x.2.1=⟨⟨[]⟩⟩then eP x.1 d else(x.2.2.zip (uW p x.2.1)).flatMap λq=>eP q.1 q.2
def Gu (p:bI) (idx:List Ix) (s:ByteArray):List bt:=(idx.zip (uW p s)).flatMap λq=>BJ p q.1 q.2
abbrev Ob:=bt×List bt
mutual
def kF (p:bI):Ex→List bt→List Ob
 | .mk op name _ _ _ idx args,cs=>(if op=3 then(Gu p idx name).map (λc=>(c,cs))else [])++(if op=11 then XN p args cs else sy p args cs)
def sy (p:bI):List Ex→List bt→List Ob
 | [],_=> []
 |e::r,cs=>kF p e cs++sy p r cs
def XN (p:bI):List Ex→List bt→List Ob
 | [],_=> []
 | [a],cs=> []
 | [a,b],cs=> []
 |a::b::c::r,cs=>kF p a cs++kF p b (cs++(bA a).1)++kF p c (cs++(bA (fh a)).1)
end
theorem pV (p:bI) (e:Ex) (cs:List bt):kF p e cs=(if e.op=3 then(Gu p e.idx e.name).map (λc=>(c,cs))else [])++(if e.op=11 then XN p e.args cs else sy p e.args cs):=by
 obtain⟨op,name,val,ty,lin,idx,args⟩:=e
 rw[kF]
 rfl
theorem Hq (p:bI) (cs:List bt): ∀l r:List Ex,sy p (l++r) cs=sy p l cs++sy p r cs
 | [],r=>by simp[sy]
 |e::l,r=>by simp only[List.cons_append,sy,Hq p cs l r,List.append_assoc]
theorem Px (p:bI) (cs:List bt) {l:List Ex} {k:Nat} (h:k<l.length):sy p (l.take (k+1)) cs=sy p (l.take k) cs++kF p l[k] cs:=by
 rw[List.take_succ_eq_append_getElem h,Hq]
 simp[sy]
theorem Qi {e a b:Ex} (ha:a∈e.args) (hb:b∈a.pre):b∈e.pre:=by
 rw[Ex.pre_eq]
 refine List.mem_cons_of_mem _ ?_
 generalize e.args=l at ha
 induction l with
 |nil=>cases ha
 |cons x r E=>
  rw[Ex.pres]
  rcases List.mem_cons.1 ha with rfl|ha
  ·exact List.mem_append_left _ hb
  ·exact List.mem_append_right _ (E ha)
theorem jG (e:Ex):e∈e.pre:=by rw[Ex.pre_eq];exact List.mem_cons_self
def acr (e:Ex):Prop:= ∀a∈e.pre,ay a.val.1∧ ∀l∈a.forms,bq l∧l.2.length≤1000
def jO (e:Ex):Prop:=i0 e∧acr e
theorem aV {e a:Ex} (h:jO e) (ha:a∈e.args):jO a:=⟨iU h.1 ha,λb hb=>h.2 b (Qi ha hb)⟩
theorem O3 {e:Ex} (h:jO e):bq e.lin∧e.lin.2.length≤1000:=(h.2 e (jG e)).2 _ List.mem_cons_self
theorem MR {e:Ex} (h:jO e):ay e.val.1:=(h.2 e (jG e)).1
theorem AZ {a:Ex} (h:jO a):jO (fh a):=by
 have hp: ∀b∈(fh a).pre,b=fh a∨b∈a.pre:=λb hb=>by
  rw[Ex.pre_eq]at hb
  rcases List.mem_cons.1 hb with rfl|hb
  ·exact .inl rfl
  ·exact .inr (by simpa[fh,Ex.args,Ex.pres]using hb)
 refine⟨λb hb=> ?_,λb hb=> ?_⟩
 ·rcases hp b hb with rfl|hb
  ·exact⟨rfl,by show(1:Int)≤18;decide,by show(18:Int)≤18;decide,by show(0:Nat)≤6;decide,λx hx=>by cases hx⟩
  ·exact h.1 b hb
 ·rcases hp b hb with rfl|hb
  ·refine⟨by show ay 0;decide,λl hl=> ?_⟩
   simp only[fh,Ex.forms,Ex.lin,Ex.idx,List.flatMap_nil,List.mem_singleton]at hl
   subst hl
   exact⟨⟨by decide,λm hm=>by cases hm⟩,by simp⟩
  ·exact h.2 b hb
theorem z64:bq (0, []):=⟨by decide,λm hm=>by cases hm⟩
def ZH (n:Nat) (x:LB):Prop:=bq x.1∧x.1.2.length≤1000*n
theorem LI {f:Ex→LB}: ∀{l:List Ex},(∀a∈l,ZH a.sz (f a))→ ∃m n,m+n≤Ex.szs l∧ZH m ((l.map f).getD 0 jY)∧ZH n ((l.map f).getD 1 jY)
 | [],_=>⟨0,0,by simp,⟨z64,by simp⟩,⟨z64,by simp⟩⟩
 | [a],h=>⟨a.sz,0,by simp[Ex.szs],h a List.mem_cons_self,⟨z64,by simp⟩⟩
 |a::b::r,h=>⟨a.sz,b.sz,by simp[Ex.szs,←Nat.add_assoc],h a List.mem_cons_self,h b (List.mem_cons_of_mem _ List.mem_cons_self)⟩
theorem Cx (e:Ex):jO e→ZH e.sz (dj e):=by
 refine Ex.ind (p:=λe=>jO e→ZH e.sz (dj e)) (λe ih h=> ?_) e
 obtain⟨m,n,V,⟨a1,a2⟩,⟨b1,b2⟩⟩:=LI (f:=dj) λa ha=>ih a ha (aV h ha)
 have hz:=Ex.sz_eq e
 have hl:=O3 h
 rw[E4]
 unfold zi
 generalize (e.args.map dj).getD 0 jY=a at*
 generalize (e.args.map dj).getD 1 jY=b at*
 repeat' split
 all_goals first
  |exact⟨z64,by simp⟩
  |exact⟨hl.1,by show e.lin.2.length≤_;omega⟩
  |exact⟨⟨MR h,λm hm=>by cases hm⟩,by simp⟩
  |exact⟨qQ,by have:=gR a.1 (-1);show(bO a.1 (-1)).1.2.length≤_;omega⟩
  |exact⟨Le _ _,by have:=vI b.1 a.1;show(kC b.1 a.1).1.2.length≤_;omega⟩
  |exact⟨ww _ _,by have:=oB a.1 b.1;show(fK a.1 b.1).1.2.length≤_;omega⟩
theorem Bz (e:Ex):jO e→ZH e.sz (d4 e):=by
 refine Ex.ind (p:=λe=>jO e→ZH e.sz (d4 e)) (λe ih h=> ?_) e
 obtain⟨m,n,V,⟨a1,a2⟩,⟨b1,b2⟩⟩:=LI (f:=d4) λa ha=>ih a ha (aV h ha)
 have hz:=Ex.sz_eq e
 have hl:=O3 h
 rw[Mr]
 unfold mN
 generalize (e.args.map d4).getD 0 jY=a at*
 generalize (e.args.map d4).getD 1 jY=b at*
 repeat' split
 all_goals first
  |exact⟨z64,by simp⟩
  |exact⟨hl.1,by show e.lin.2.length≤_;omega⟩
  |exact⟨⟨MR h,λm hm=>by cases hm⟩,by simp⟩
  |exact⟨qQ,by have:=gR a.1 (-1);show(bO a.1 (-1)).1.2.length≤_;omega⟩
  |exact⟨ww _ _,by have:=oB a.1 (bO b.1 (-1)).1;have:=gR b.1 (-1);show(fK a.1 (bO b.1 (-1)).1).1.2.length≤_;omega⟩
  |exact⟨ww _ _,by have:=oB a.1 b.1;show(fK a.1 b.1).1.2.length≤_;omega⟩
theorem Yr {c:bt} (h:bX c): ∀x∈(fp c).1,bX x∧x.1.2.length≤c.1.2.length:=by
 intro x hx
 unfold fp at hx
 split at hx
 ·cases hx
 split at hx
 ·cases hx
 rename_i hm
 have h1:bX (tC c.1)∧(tC c.1).1.2.length≤c.1.2.length:=⟨Id h hm,by simp[tC]⟩
 split at hx
 ·rw[List.mem_singleton.1 hx];exact h1
 split at hx
 ·cases hx
 rename_i hk
 rcases List.mem_cons.1 hx with rfl|hx
 ·refine⟨⟨?_,h.2⟩,Nat.le_refl _⟩
  have:=h.1
  show ay (c.1.1-1)
  unfold ay at*
  omega
 ·rw[List.mem_singleton.1 hx];exact h1
def XI (n:Nat) (l:List bt):Prop:=l.length≤n∧ ∀c∈l,bX c∧c.1.2.length≤1000*n
theorem o5 (n:Nat):XI n []:=⟨by simp,λc h=>by cases h⟩
theorem MQ {n m:Nat} {l:List bt} (h:XI n l) (hm:n≤m):XI m l:=⟨by have:=h.1;omega,λc hc=>⟨(h.2 c hc).1,by have:=(h.2 c hc).2;omega⟩⟩
theorem XQ: ∀{l:List Ex},(∀a∈l,XI a.sz (bA a).1)→ ∃m n,m+n≤Ex.szs l∧XI m ((l.map bA).getD 0 ([],false)).1∧XI n ((l.map bA).getD 1 ([],false)).1
 | [],_=>⟨0,0,by simp,o5 _,o5 _⟩
 | [a],h=>⟨a.sz,0,by simp[Ex.szs],h a List.mem_cons_self,o5 _⟩
 |a::b::r,h=>⟨a.sz,b.sz,by simp[Ex.szs,←Nat.add_assoc],h a List.mem_cons_self,h b (List.mem_cons_of_mem _ List.mem_cons_self)⟩
theorem mw (e:Ex):jO e→XI e.sz (bA e).1:=by
 refine Ex.ind (p:=λe=>jO e→XI e.sz (bA e).1) (λe ih h=> ?_) e
 obtain⟨m,n,V,⟨a1,a2⟩,⟨b1,b2⟩⟩:=LI (f:=dj) λa ha=>Cx a (aV h ha)
 obtain⟨m',n',hW,c0,c1⟩:=XQ λa ha=>ih a ha (aV h ha)
 have hz:=Ex.sz_eq e
 rw[wD]
 unfold N8
 generalize (e.args.map dj).getD 0 jY=a at*
 generalize (e.args.map dj).getD 1 jY=b at*
 generalize (e.args.map bA).getD 0 ([],false)=c at*
 generalize (e.args.map bA).getD 1 ([],false)=d at*
 split
 ·split
  ·obtain⟨g1,g2⟩:=RH e.op a.1 b.1
   unfold Nh
   split
   ·refine⟨by simp;omega,λx hx=> ?_⟩
    rw[List.mem_singleton.1 hx]
    exact⟨g1,by show(sK e.op a.1 b.1).1.2.length≤_;omega⟩
   ·exact o5 _
  ·exact o5 _
 split
 ·refine⟨by have:=c0.1;have:=c1.1;simp only[List.length_append];omega,λx hx=> ?_⟩
  rcases List.mem_append.1 hx with hx|hx
  ·exact⟨(c0.2 x hx).1,by have:=(c0.2 x hx).2;omega⟩
  ·exact⟨(c1.2 x hx).1,by have:=(c1.2 x hx).2;omega⟩
 split
 ·unfold Bt
  split
  ·rename_i x
   obtain⟨v,z⟩:=c0.2 x List.mem_cons_self
   split
   ·rename_i hh
    refine⟨by show(fp x).1.length≤_;omega,λy hy=> ?_⟩
    obtain⟨g1,g2⟩:=Yr v y hy
    exact⟨g1,by omega⟩
   ·exact o5 _
  ·exact o5 _
 ·exact o5 _
open Go.Abs Go.RowKit
def Wx (l:bY):Prop:=bq l∧l.2.length≤1000
def abE (p:bI) (a:Ex):Prop:= ∃t ds,di p a.name=some (t,ds)∧a.idx.length=ds.length∧(∀l∈ds,Wx l)∧
 ∀x∈a.idx,x.2.1≠⟨⟨[]⟩⟩→ ∃t' ds',di p x.2.1=some (t',ds')∧x.2.2.length=ds'.length∧ ∀l∈ds',Wx l
def zz (p:bI) (e:Ex):Prop:=jO e∧ ∀a∈e.pre,a.op=3→abE p a
theorem iC {p:bI} {e a:Ex} (h:zz p e) (ha:a∈e.args):zz p a:=⟨aV h.1 ha,λb hb=>h.2 b (Qi ha hb)⟩
theorem VA {q:bI} {vars:List ByteArray} (e:Ex):(eA q vars e).2=0→ ∀a∈e.pre,a.op=3→(gx q vars a).2=0:=by
 refine Ex.ind (p:=λe=>(eA q vars e).2=0→ ∀a∈e.pre,a.op=3→(gx q vars a).2=0) (λe ih h a ha h3=> ?_) e
 obtain⟨h1,l,h2⟩:=J7 h
 rw[Ex.pre_eq]at ha
 rcases List.mem_cons.1 ha with rfl|ha
 ·unfold aZ at h2
  rw[if_neg (by omega),if_neg (by omega),if_pos h3]at h2
  exact h2
 ·have key: ∀l:List Ex,a∈Ex.pres l→ ∃b∈l,a∈b.pre:=by
   intro l
   induction l with
   |nil=>intro h;simp[Ex.pres]at h
   |cons b r E=>
    intro h
    rw[Ex.pres]at h
    rcases List.mem_append.1 h with h|h
    ·exact⟨b,List.mem_cons_self,h⟩
    ·obtain⟨c,hc,h⟩:=E h
     exact⟨c,List.mem_cons_of_mem _ hc,h⟩
  obtain⟨b,hb,hK⟩:=key _ ha
  exact ih b hb (h1 b hb) a hK h3
theorem zI {p:bI} {k:Nat} {s:ByteArray} {x:Ty×List bY} (h:di (cM p k) s=some x):di p s=some x:=by
 unfold di cM at*
 simp only at h
 split
 ·rename_i y hy
  rw[hy]at h
  exact h
 ·rename_i hy
  rw[hy]at h
  simp only at h
  split at h
  ·rename_i d hd
   have:p.defs.find? (λd=>decide (d.name=s))=some d:=by
    rw[←List.take_append_drop k p.defs,List.find?_append,hd]
    rfl
   rw[this]
   exact h
  ·cases h
theorem y1 {p:bI} (hf:j0 p) (hL:LO p) {s:ByteArray} {t:Ty} {ds:List bY} (h:di p s=some (t,ds)): ∀l∈ds,Wx l:=by
 unfold di at h
 split at h
 ·rename_i x hx
  have hm:=List.mem_of_find?_eq_some hx
  have e:x.2.2=ds:=by rw[Option.some.inj h]
  subst e
  exact λl hl=>⟨hL.2.1 x hm l hl,by have:=(hf.1 x hm).2 l hl;omega⟩
 ·split at h
  ·rename_i d hd
   have hm:=List.mem_of_find?_eq_some hd
   cases h
   intro l hl
   obtain⟨a,ha,rfl⟩:=List.mem_map.1 hl
   exact⟨(hL.2.2 d hm).1 a (List.mem_append_left _ ha),by have:=(hf.2 d hm).2.2.1 a ha;omega⟩
  ·cases h
theorem abK {p:bI} {k:Nat} {vars:List ByteArray} {a:Ex} (hf:j0 p) (hL:LO p) (h:(gx (cM p k) vars a).2=0):abE p a:=by
 unfold gx at h
 split at h
 ·cases h
 ·rename_i t ds hM
  split at h
  ·cases h
  ·rename_i z
   split at h
   ·contradiction
   ·rename_i hz
    have hb:=zI hM
    refine⟨t,ds,hb,Classical.not_not.1 z,y1 hf hL hb,λx hx hn=> ?_⟩
    have A:=jd (Classical.not_not.1 hz) _ (List.mem_map.2 ⟨x,hx,rfl⟩)
    unfold gU at A
    rw[if_neg hn]at A
    split at A
    ·cases A
    ·rename_i t' ds' W
     have Y:=zI W
     split at A
     ·cases A
     ·split at A
      ·cases A
      ·rename_i G
       exact⟨t',ds',Y,Classical.not_not.1 G,y1 hf hL Y⟩
theorem HQ {p:bI} (hl: ¬jh p) (v:pR p) (hL:LO p) (h:(bQ p).2=0) {k:Nat} (hk:k<p.defs.length):zz p p.defs[k].body∧p.defs[k].body.sz≤2000:=by
 obtain⟨⟨c1,c2,c3,c4,c5⟩,hs,hp,hd⟩:=lN h
 have hf:=pU hl
 obtain⟨f1,f2,f3,f4⟩:=hf.2 _ (List.getElem_mem hk)
 obtain⟨_,ht⟩:=wF hk (hd k hk)
 obtain⟨t1,t2⟩:=Cm ht
 have hr:=ro t1
 have hz: ∀a∈p.defs[k].body.pre,bh a=0:=by
  intro a ha
  unfold gZ at t1
  split at t1
  ·cases t1
  ·split at t1
   ·cases t1
   ·exact jd t1 _ (List.mem_map.2 ⟨a,ha,rfl⟩)
 have hO:=vr _ hr (λa ha=>(iT (hz a ha)).1) t2
 have Z:p.defs[k].body.sz≤2000:=by
  unfold gZ at t1
  split at t1
  ·cases t1
  ·split at t1
   ·cases t1
   ·omega
 refine⟨⟨⟨hr,λa ha=>⟨(v _ (List.getElem_mem hk) a ha).1,λl Q=>⟨(hL.2.2 _ (List.getElem_mem hk)).2 a ha l Q, ?_⟩⟩⟩,λa ha h3=>abK hf hL (VA _ t2 a ha h3)⟩,Z⟩
 have hP:=(cj.1 ((iT (hz a ha)).2.2.2.2.2 l Q)).1
 have:=Li hP (L:=aW p.defs[k]++p.sizes) λm hm=>by
  rcases hO a ha l Q m hm with h|h
  ·exact List.mem_append_left _ h
  ·exact List.mem_append_right _ h
 have hX:(aW p.defs[k]).length≤24:=by unfold aW;simp;omega
 simp only[List.length_append]at this
 omega
theorem SL (f x:bY):(eP f x).length=2:=rfl
theorem Mo {l:List (bY×bY)}:(l.flatMap λq=>eP q.1 q.2).length=2*l.length:=by
 induction l with
 |nil=>rfl
 |cons a r ih=>simp only[List.flatMap_cons,List.length_append,ih,SL,List.length_cons];omega
theorem E6 {p:bI} {x:Ix} {d:bY} (h:x.2.2.length≤6):(BJ p x d).length≤12:=by
 unfold BJ
 split
 ·simp[eP]
 ·rw[Mo]
  have:(x.2.2.zip (uW p x.2.1)).length≤x.2.2.length:=by simp;omega
  omega
theorem KC {p:bI}: ∀{l:List (Ix×bY)},(∀x∈l,x.1.2.2.length≤6)→(l.flatMap λq=>BJ p q.1 q.2).length≤12*l.length
 | [],_=>by simp
 |a::r,h=>by
  have h1:=E6 (p:=p) (d:=a.2) (h a List.mem_cons_self)
  have h2:=KC (p:=p) (l:=r) λx hx=>h x (List.mem_cons_of_mem _ hx)
  simp only[List.flatMap_cons,List.length_append,List.length_cons]
  omega
theorem y8 (p:bI) (e:Ex):i0 e→ ∀cs,(kF p e cs).length≤72*e.sz:=by
 refine Ex.ind (p:=λe=>i0 e→ ∀cs,(kF p e cs).length≤72*e.sz) (λe ih h cs=> ?_) e
 obtain⟨_,_,_,h4,h5⟩:=dY h
 have hz:=Ex.sz_eq e
 rw[pV,List.length_append]
 have h1:(if e.op=3 then(Gu p e.idx e.name).map (λc=>(c,cs))else []).length≤72:=by
  split
  ·rw[List.length_map]
   have:=KC (p:=p) (l:=e.idx.zip (uW p e.name)) λx hx=>h5 _ (List.of_mem_zip hx).1
   have h6:(e.idx.zip (uW p e.name)).length≤e.idx.length:=by simp;omega
   unfold Gu
   omega
  ·simp
 have C: ∀a∈e.args,∀cs,(kF p a cs).length≤72*a.sz:=λa ha=>ih a ha (iU h ha)
 have h2:(sy p e.args cs).length≤72*Ex.szs e.args:=by
  generalize e.args=l at C
  clear hz ih h1 h h4 h5
  induction l with
  |nil=>simp[sy]
  |cons a r E=>
   have:=C a List.mem_cons_self cs
   have:=E λb hb=>C b (List.mem_cons_of_mem _ hb)
   simp only[sy,List.length_append,Ex.szs]
   omega
 have h3:(XN p e.args cs).length≤72*Ex.szs e.args:=by
  match hm:e.args with
  | []=>simp[XN]
  | [a]=>simp[XN]
  | [a,b]=>simp[XN]
  |a::b::c::r=>
   have:=C a (by rw[hm];simp) cs
   have:=C b (by rw[hm];simp) (cs++(bA a).1)
   have:=C c (by rw[hm];simp) (cs++(bA (fh a)).1)
   simp only[XN,List.length_append,Ex.szs]
   omega
 by_cases hC:e.op=11
 ·rw[if_pos hC];omega
 ·rw[if_neg hC];omega
set_option maxHeartbeats 4000000
set_option maxRecDepth 1000000
abbrev aLB (x:LB):AV:= .tup [dm x.1.1 x.1.2,Go.Abs.B x.2]
abbrev aCB (x:CB):AV:= .tup [bT x.1,Go.Abs.B x.2]
theorem J0 {l:List Ex} (h:(l.length:Int)=1): ∃a,l= [a]:=by match l,h with| [a],_=>exact⟨a,rfl⟩
theorem KI {l:List Ex} (h:(l.length:Int)=2): ∃a b,l= [a,b]:=by match l,h with| [a,b],_=>exact⟨a,b,rfl⟩
theorem Zz {l:List Ex} (h:(l.length:Int)=3): ∃a b c,l= [a,b,c]:=by match l,h with| [a,b,c],_=>exact⟨a,b,c,rfl⟩
theorem cU {e a:Ex} (h:a∈e.args):a.sz<e.sz:=by
 rw[Ex.sz_eq e]
 generalize e.args=l at h
 induction l with
 |nil=>cases h
 |cons b r ih=>
  rw[Ex.szs]
  rcases List.mem_cons.1 h with rfl|h
  ·omega
  ·have:=ih h;omega
theorem gm {n:Nat} {x:LB} (h:ZH n x) (hn:n≤20000):bq x.1∧short x.1.2∧x.1.2.length≤40000000:=⟨h.1,by have:=h.2;unfold short;omega,by have:=h.2;omega⟩
theorem pJ (e:Ex):jO e→e.sz≤20000→ac Tryz.prog mr [fJ e] (aLB (dj e)):=by
 refine Ex.ind (p:=λe=>jO e→e.sz≤20000→ac Tryz.prog mr [fJ e] (aLB (dj e))) (λe ih h hs=> ?_) e
 refine ac.of BP (by simp) λhb=>aa ?_
 clear hb
 have ha:=(dY h.1).1
 rw[E4]
 conv in tu=>cbv
 by_cases k2:e.op=2
 ·rw[show zi e.op e.val e.ty e.lin (e.args.map dj)=(e.lin,true) by simp[zi,k2]]
  clear ih ha h
  repeat' first|simp(disch:=omega)only[go_sem, *,k2]|(with_reducible apply ab)<;>intro h<;>try omega|(with_reducible apply ag)|(with_reducible refine aj (λh=> ?_) ?_)
  all_goals rfl
 by_cases k1:e.op=1
 ·rw[show zi e.op e.val e.ty e.lin (e.args.map dj)=((e.val.1, []),decide (e.ty.1=3)) by simp[zi,k1]]
  have pc:=qf e.val.1
  clear ih ha h k2
  repeat' first|simp(disch:=omega)only[go_sem, *,k1]|(with_reducible apply ab)<;>intro h<;>try omega|(with_reducible apply ag)|(with_reducible refine aj (λh=> ?_) ?_)|refine cg pc rfl rfl ?_
  all_goals rfl
 by_cases k8:e.op=8
 ·rw[k8]at ha
  obtain⟨a,g⟩:=J0 (l:=e.args) ha
  have hm:a∈e.args:=by rw[g];exact List.mem_cons_self
  have hN:zi e.op e.val e.ty e.lin (e.args.map dj)=if(dj a).2=true then YV (bO (dj a).1 (-1))else jY:=by rw[g,k8];simp[zi]
  rw[hN]
  have pa:=ih a hm (aV h hm) (by have:=cU hm;omega)
  obtain⟨q1,q2,_⟩:=gm (Cx a (aV h hm)) (by have:=cU hm;omega)
  have hg:(e.args.map Ex.row)[0]? =some a.row:=by rw[g];rfl
  have hl:e.args.length=1:=by rw[g];rfl
  clear ih ha h k2 k1 hN hm g hs
  generalize dj a=r at*
  obtain⟨⟨K,l⟩,b⟩:=r
  cases b
  ·rw[if_neg (by simp)]
   repeat' first|simp(disch:=omega)only[go_sem, *,k8,hl,hg,Ex.row_eq,Int.toNat_zero]|(with_reducible apply ab)<;>intro h<;>try omega|(with_reducible apply ag)|(with_reducible refine aj (λh=> ?_) ?_)|refine cg pa rfl rfl ?_
   all_goals rfl
  ·rw[if_pos rfl]
   have ps:=kS (a:=(K,l)) (b:= -1) q1 (by decide) q2
   clear q1 q2
   unfold YV
   generalize bO (K,l) (-1)=s at*
   obtain⟨⟨K',l'⟩,er⟩:=s
   try simp only at ps
   repeat' first|simp(disch:=omega)only[go_sem, *,k8,hl,hg,Ex.row_eq,Int.toNat_zero]|(with_reducible apply ab)<;>intro h<;>try omega|(with_reducible apply ag)|(with_reducible refine aj (λh=> ?_) ?_)|refine cg pa rfl rfl ?_|refine cg ps rfl rfl ?_
   all_goals rfl
 by_cases k45:e.op=4∨e.op=5
 ·have w:(e.args.length:Int)=2:=by rw[ha];unfold jJ;rcases k45 with k|k<;>rw[k]<;>rfl
  obtain⟨a,b,g⟩:=KI w
  have hm:a∈e.args:=by rw[g];exact List.mem_cons_self
  have i:b∈e.args:=by rw[g];exact List.mem_cons_of_mem _ List.mem_cons_self
  have hN:zi e.op e.val e.ty e.lin (e.args.map dj)=if(dj a).2=true∧(dj b).2=true then YV (if e.op=5 then kC (dj b).1 (dj a).1 else fK (dj a).1 (dj b).1)else jY:=by
   rw[g]
   unfold zi
   rw[if_neg k2,if_neg k1,if_neg k8,if_pos k45]
   rfl
  rw[hN]
  have pa:=ih a hm (aV h hm) (by have:=cU hm;omega)
  have pb:=ih b i (aV h i) (by have:=cU i;omega)
  obtain⟨q1,q2,q3⟩:=gm (Cx a (aV h hm)) (by have:=cU hm;omega)
  obtain⟨r1,r2,r3⟩:=gm (Cx b (aV h i)) (by have:=cU i;omega)
  have hg:(e.args.map Ex.row)[0]? =some a.row:=by rw[g];rfl
  have u:(e.args.map Ex.row)[1]? =some b.row:=by rw[g];rfl
  have hl:e.args.length=2:=by rw[g];rfl
  clear ih ha w h k2 k1 k8 hN hm i g hs
  generalize dj a=r at*
  obtain⟨⟨K,l⟩,x⟩:=r
  generalize dj b=r at*
  obtain⟨⟨K',l'⟩,y⟩:=r
  by_cases j:x=true∧y=true
  ·obtain⟨rfl,rfl⟩:=j
   rw[if_pos ⟨rfl,rfl⟩]
   unfold YV
   rcases k45 with k|k
   ·have ps:=pH q1 r1 q2 r2
    rw[if_neg (by omega)]
    clear q1 q2 r1 r2 q3 r3
    simp only at ps ⊢
    generalize fK (K,l) (K',l')=s at*
    obtain⟨⟨K2,l2⟩,er⟩:=s
    try simp only at ps
    repeat' first|simp(disch:=omega)only[go_sem, *,k,hl,hg,u,Ex.row_eq,Int.toNat_zero,Int.toNat_one]|(with_reducible apply ab)<;>intro h<;>try omega|(with_reducible apply ag)|(with_reducible refine aj (λh=> ?_) ?_)|refine cg pa rfl rfl ?_|refine cg pb rfl rfl ?_|refine cg ps rfl rfl ?_
    all_goals rfl
   ·have ps:=kJ q1 r1 (by omega) (by omega)
    rw[if_pos k]
    clear q1 q2 r1 r2 q3 r3
    simp only at ps ⊢
    generalize kC (K',l') (K,l)=s at*
    obtain⟨⟨K2,l2⟩,er⟩:=s
    try simp only at ps
    repeat' first|simp(disch:=omega)only[go_sem, *,k,hl,hg,u,Ex.row_eq,Int.toNat_zero,Int.toNat_one]|(with_reducible apply ab)<;>intro h<;>try omega|(with_reducible apply ag)|(with_reducible refine aj (λh=> ?_) ?_)|refine cg pa rfl rfl ?_|refine cg pb rfl rfl ?_|refine cg ps rfl rfl ?_
    all_goals rfl
  ·rw[if_neg j]
   clear q1 q2 r1 r2 q3 r3
   rcases k45 with k|k
   all_goals
    cases x<;>cases y
    all_goals first
     |(exact absurd ⟨rfl,rfl⟩ j;done)
     |skip
    all_goals
     clear j
     repeat' first|simp(disch:=omega)only[go_sem, *,k,hl,hg,u,Ex.row_eq,Int.toNat_zero,Int.toNat_one]|(with_reducible apply ab)<;>intro h<;>try omega|(with_reducible apply ag)|(with_reducible refine aj (λh=> ?_) ?_)|refine cg pa rfl rfl ?_|refine cg pb rfl rfl ?_
    all_goals rfl
 ·have hN:zi e.op e.val e.ty e.lin (e.args.map dj)=jY:=by
   unfold zi
   rw[if_neg k2,if_neg k1,if_neg k8,if_neg k45]
  rw[hN]
  have k4: ¬e.op=4:=λh=>k45 (.inl h)
  have k5: ¬e.op=5:=λh=>k45 (.inr h)
  clear ih ha h hN k45
  repeat' first|simp(disch:=omega)only[go_sem, *,k2,k1,k8,k4,k5]|(with_reducible apply ab)<;>intro h<;>try omega|(with_reducible apply ag)|(with_reducible refine aj (λh=> ?_) ?_)
  all_goals rfl
theorem w7 {e a b:Ex} (h:jO e) (hs:e.sz≤20000) (g:e.args= [a,b]):ac Tryz.prog o8 [fJ e] (if(dj a).2=true∧(dj b).2=true then .tup [jM ((sK e.op (dj a).1 (dj b).1).1,decide (e.op=15)),Go.Abs.B (decide ((sK e.op (dj a).1 (dj b).1).2=0))]else .tup [jM ((0, []),false),Go.Abs.B false]):=by
 refine ac.of y3 (by simp) λhb=>aa ?_
 clear hb
 conv in pN=>cbv
 have hm:a∈e.args:=by rw[g];exact List.mem_cons_self
 have i:b∈e.args:=by rw[g];exact List.mem_cons_of_mem _ List.mem_cons_self
 have pa:=pJ a (aV h hm) (by have:=cU hm;omega)
 have pb:=pJ b (aV h i) (by have:=cU i;omega)
 obtain⟨q1,q2,q3⟩:=gm (Cx a (aV h hm)) (by have:=cU hm;omega)
 obtain⟨r1,r2,r3⟩:=gm (Cx b (aV h i)) (by have:=cU i;omega)
 have hg:(e.args.map Ex.row)[0]? =some a.row:=by rw[g];rfl
 have u:(e.args.map Ex.row)[1]? =some b.row:=by rw[g];rfl
 have hl:e.args.length=2:=by rw[g];rfl
 clear h hm i g hs
 generalize dj a=r at*
 obtain⟨⟨K,l⟩,x⟩:=r
 generalize dj b=r at*
 obtain⟨⟨K',l'⟩,y⟩:=r
 by_cases j:x=true∧y=true
 ·obtain⟨rfl,rfl⟩:=j
  rw[if_pos ⟨rfl,rfl⟩]
  have p1:=kJ r1 q1 (by omega) (by omega)
  have p2:=kM q1 r1 (by omega) (by omega)
  clear q1 q2 r1 r2 q3 r3
  simp only at p1 p2 ⊢
  by_cases k:e.op=13
  ·rw[show sK e.op (K,l) (K',l')=eD (K,l) (K',l') by rw[sK,if_pos k]]
   generalize kC (K,l) (K',l')=s at*
   obtain⟨⟨K1,l1⟩,e1⟩:=s
   generalize eD (K,l) (K',l')=s at*
   obtain⟨⟨K2,l2⟩,er⟩:=s
   try simp only at p1 p2
   repeat' first|simp(disch:=omega)only[go_sem, *,k,hl,hg,u,Ex.row_eq,Int.toNat_zero,Int.toNat_one]|(with_reducible apply ab)<;>intro h<;>try omega|(with_reducible apply ag)|(with_reducible refine aj (λh=> ?_) ?_)|refine cg pa rfl rfl ?_|refine cg pb rfl rfl ?_|refine cg p1 rfl rfl ?_|refine cg p2 rfl rfl ?_
   all_goals rfl
  ·rw[show sK e.op (K,l) (K',l')=kC (K,l) (K',l') by rw[sK,if_neg k]]
   generalize kC (K,l) (K',l')=s at*
   obtain⟨⟨K1,l1⟩,e1⟩:=s
   try simp only at p1
   clear p2
   repeat' first|simp(disch:=omega)only[go_sem, *,k,hl,hg,u,Ex.row_eq,Int.toNat_zero,Int.toNat_one]|(with_reducible apply ab)<;>intro h<;>try omega|(with_reducible apply ag)|(with_reducible refine aj (λh=> ?_) ?_)|refine cg pa rfl rfl ?_|refine cg pb rfl rfl ?_|refine cg p1 rfl rfl ?_
   all_goals rfl
 ·rw[if_neg j]
  clear q1 q2 r1 r2 q3 r3
  cases x<;>cases y
  all_goals first
   |(exact absurd ⟨rfl,rfl⟩ j;done)
   |skip
  all_goals
   clear j
   repeat' first|simp(disch:=omega)only[go_sem, *,hl,hg,u,Ex.row_eq,Int.toNat_zero,Int.toNat_one]|(with_reducible apply ab)<;>intro h<;>try omega|(with_reducible apply ag)|(with_reducible refine aj (λh=> ?_) ?_)|refine cg pa rfl rfl ?_|refine cg pb rfl rfl ?_
  all_goals rfl
theorem PL {e a b:Ex} (hk:13≤e.op∧e.op≤15) (g:e.args= [a,b]):bA e=if(dj a).2=true∧(dj b).2=true then Nh (sK e.op (dj a).1 (dj b).1) (decide (e.op=15))else([],false):=by
 rw[wD,g,N8,if_pos hk]
 rfl
theorem M5 {e a b:Ex} (hk:e.op=16) (g:e.args= [a,b]):bA e=((bA a).1++(bA b).1,(bA a).2&&(bA b).2):=by
 rw[wD,g,N8,if_neg (by omega),if_pos hk]
 rfl
theorem Bh {e a:Ex} (hk:e.op=18) (g:e.args= [a]):bA e=Bt (bA a):=by
 rw[wD,g,N8,if_neg (by omega),if_neg (by omega),if_pos hk]
 rfl
theorem Sa {e:Ex} (h1: ¬(13≤e.op∧e.op≤15)) (h2:e.op≠16) (h3:e.op≠18):bA e=([],false):=by
 rw[wD,N8,if_neg h1,if_neg h2,if_neg h3]
set_option maxRecDepth 1000000
theorem Pk {c:bt} (h0:(fp c).2=0) (h1:(fp c).1.length=1):bi c.1.2∧ ¬oo c.1.2∧c.2=false∧fp c=([tC c.1],0):=by
 by_cases a:bi c.1.2
 ·by_cases b:oo c.1.2
  ·unfold fp at h0
   rw[if_neg (not_not_intro a),if_pos b]at h0
   cases h0
  ·by_cases d:c.2=false
   ·exact⟨a,b,d,by unfold fp;rw[if_neg (not_not_intro a),if_neg b,if_pos d]⟩
   ·unfold fp at h0 h1
    rw[if_neg (not_not_intro a),if_neg b,if_neg d]at h0 h1
    by_cases e:c.1.1= -9223372036854775808
    ·rw[if_pos e]at h0;cases h0
    ·rw[if_neg e]at h1;cases h1
 ·unfold fp at h0
  rw[if_pos a]at h0
  cases h0
theorem tH {c:bt} (v:bX c) (hs:short c.1.2) (h0:(fp c).2=0) (h1:(fp c).1.length=1):au Tryz.prog ir [jM c] [] 0 (.tup [.c (.tsl ((fp c).1.map cP)),I 0]) [] 0:=by
 obtain⟨hD,hm,hq,hN⟩:=Pk h0 h1
 have pv:=b8 c
 have po:=jr (f:=c.1) v hs
 rw[Bv,if_neg hm]at po
 rw[if_pos hD]at pv
 rw[hN]
 clear hN h0 h1 hD hm v hs
 obtain⟨⟨K,l⟩,q⟩:=c
 simp only at hq
 subst hq
 refine au.ofZ (ress:= [.c (.tsl ([tC (K,l)].map cP)),I 0]) lG (by simp) λ_=>aa ?_
 conv in iv=>cbv
 try simp only at po pv
 repeat' first|simp(disch:=omega)only[go_sem, *]|(with_reducible apply ab)<;>intro h<;>try omega|(with_reducible apply ag)|(with_reducible refine aj (λh=> ?_) ?_)|refine aF pv rfl rfl ?_|refine cg po rfl rfl ?_
 refine⟨[], [], ?_⟩
 simp(disch:=omega)only[go_sem,aR]
 simp[cm,d7,tC,uQ,cP]
def WN (e:Ex):Prop:=
 (au Tryz.prog gV [fJ e] [] 0 (.tup [.c .nils,Go.Abs.B (bA e).2]) [] 0∧(bA e).1= [])∨
 (au Tryz.prog gV [fJ e] [] 0 (.tup [.c (.tsl ((bA e).1.map cP)),Go.Abs.B (bA e).2]) [] 0∧(bA e).1≠ [])∨
 au Tryz.prog gV [fJ e] [] 0 (.tup [.c (.ref 0),Go.Abs.B (bA e).2]) [(0,.arr 46 3 ((bA e).1.map cP))] 1
theorem IB (e:Ex):jO e→e.sz≤20000→WN e:=by
 refine Ex.ind (p:=λe=>jO e→e.sz≤20000→WN e) (λe ih h hs=> ?_) e
 have ha:=(dY h.1).1
 unfold WN
 by_cases k:13≤e.op∧e.op≤15
 ·have w:(e.args.length:Int)=2:=by
   rw[ha]
   have:e.op=13∨e.op=14∨e.op=15:=by omega
   rcases this with k|k|k<;>rw[k]<;>rfl
  obtain⟨a,b,g⟩:=KI w
  have pc:=w7 h hs g
  rw[PL k g]
  clear ih ha w h hs g
  have hd:e.op=13∨e.op=14∨e.op=15:=by omega
  clear k
  by_cases j:(dj a).2=true∧(dj b).2=true
  ·rw[if_pos j]at pc ⊢
   clear j
   unfold Nh
   generalize sK e.op (dj a).1 (dj b).1=s at*
   obtain⟨⟨K2,l2⟩,er⟩:=s
   by_cases h0:er=0
   ·subst h0
    rw[if_pos rfl]
    try simp only at pc
    refine .inr (.inl ⟨au.ofZ (ress:= [.c (.tsl ([((K2,l2),decide (e.op=15))].map cP)),Go.Abs.B true]) bj (by simp) λ_=>aa ?_,by simp⟩)
    simp only[bn]
    rcases hd with hd|hd|hd
    all_goals
     simp only[fJ,hd]at pc
     repeat' first|simp(disch:=omega)only[go_sem, *,hd]|(with_reducible apply ab)<;>intro h<;>try omega|(with_reducible apply ag)|(with_reducible refine aj (λh=> ?_) ?_)|refine cg pc rfl rfl ?_
     refine⟨[], [], ?_⟩
     simp(disch:=omega)only[go_sem,aR]
     simp[cm,d7,cP,hd]
   ·rw[if_neg h0]
    try simp only at pc
    refine .inl ⟨au.ofZ (ress:= [.c .nils,Go.Abs.B false]) bj (by simp) λ_=>aa ?_,rfl⟩
    simp only[bn]
    rcases hd with hd|hd|hd
    all_goals
     simp only[fJ,hd]at pc
     repeat' first|simp(disch:=omega)only[go_sem, *,h0,hd]|(with_reducible apply ab)<;>intro h<;>try omega|(with_reducible apply ag)|(with_reducible refine aj (λh=> ?_) ?_)|refine cg pc rfl rfl ?_
     refine⟨[], [], ?_⟩
     simp(disch:=omega)only[go_sem,aR]
     simp[cm,d7,cP]
  ·rw[if_neg j]at pc ⊢
   clear j
   refine .inl ⟨au.ofZ (ress:= [.c .nils,Go.Abs.B false]) bj (by simp) λ_=>aa ?_,rfl⟩
   simp only[bn]
   rcases hd with hd|hd|hd
   all_goals
    simp only[fJ,hd]at pc
    repeat' first|simp(disch:=omega)only[go_sem, *,hd]|(with_reducible apply ab)<;>intro h<;>try omega|(with_reducible apply ag)|(with_reducible refine aj (λh=> ?_) ?_)|refine cg pc rfl rfl ?_
    refine⟨[], [], ?_⟩
    simp(disch:=omega)only[go_sem,aR]
    simp[cm,d7,cP]
 by_cases k16:e.op=16
 ·have w:(e.args.length:Int)=2:=by rw[ha,k16];rfl
  obtain⟨a,b,g⟩:=KI w
  rw[M5 k16 g]
  have hm:a∈e.args:=by rw[g];exact List.mem_cons_self
  have i:b∈e.args:=by rw[g];exact List.mem_cons_of_mem _ List.mem_cons_self
  have hA:=ih a hm (aV h hm) (by have:=cU hm;omega)
  have hB:=ih b i (aV h i) (by have:=cU i;omega)
  have q1:=(mw a (aV h hm)).1
  have q2:=(mw b (aV h i)).1
  have s1:=cU hm
  have s2:=cU i
  have hg:(e.args.map Ex.row)[0]? =some a.row:=by rw[g];rfl
  have u:(e.args.map Ex.row)[1]? =some b.row:=by rw[g];rfl
  have hl:e.args.length=2:=by rw[g];rfl
  clear ih ha w h k hm i g
  have l1:(bA a).1.length≤20000:=by omega
  have l2:(bA b).1.length≤20000:=by omega
  clear q1 q2 s1 s2 hs
  unfold WN at hA hB
  generalize bA a=r at*
  obtain⟨x,y⟩:=r
  generalize bA b=r at*
  obtain⟨x',y'⟩:=r
  have ok':bl 3 (x'.map cP):=av λ_=>rfl
  have ok:bl 3 (x.map cP):=av λ_=>rfl
  simp only at l1 l2 hA hB ⊢
  rcases hA with⟨pa,ea⟩|⟨pa,ea⟩|pa<;>rcases hB with⟨pb,eb⟩|⟨pb,eb⟩|pb
  ·subst ea
   subst eb
   cases y
   all_goals
    refine .inr (.inr (au.ofZ (ress:= [.c (.ref 0),_]) bj (by simp) λ_=>aa ?_))
    simp only[bn]
    repeat' first|simp(disch:=omega)only[go_sem, *,k16,hl,hg,u,Ex.row_eq,Int.toNat_zero,Int.toNat_one]|(with_reducible apply ab)<;>intro h<;>try omega|(with_reducible apply ag)|(with_reducible refine aj (λh=> ?_) ?_)|refine ap (pa.lift0 rfl rfl) ?_|refine ap (pb.lift0 rfl rfl) ?_|refine kR ok' (by simp;try omega) (by simp;try omega) ?_
    refine⟨[], [(0,1)], ?_⟩
    simp(disch:=omega)only[go_sem,aR]
    simp[cm,d7]
  ·subst ea
   cases y
   all_goals
    refine .inr (.inr (au.ofZ (ress:= [.c (.ref 0),_]) bj (by simp) λ_=>aa ?_))
    simp only[bn]
    repeat' first|simp(disch:=omega)only[go_sem, *,k16,hl,hg,u,Ex.row_eq,Int.toNat_zero,Int.toNat_one]|(with_reducible apply ab)<;>intro h<;>try omega|(with_reducible apply ag)|(with_reducible refine aj (λh=> ?_) ?_)|refine ap (pa.lift0 rfl rfl) ?_|refine ap (pb.lift0 rfl rfl) ?_|refine kR ok' (by simp;try omega) (by simp;try omega) ?_
    refine⟨[], [(0,1)], ?_⟩
    simp(disch:=omega)only[go_sem,aR]
    simp[cm,d7]
  ·subst ea
   cases y
   all_goals
    refine .inr (.inr (au.ofZ (ress:= [.c (.ref 0),_]) bj (by simp) λ_=>aa ?_))
    simp only[bn]
    repeat' first|simp(disch:=omega)only[go_sem, *,k16,hl,hg,u,Ex.row_eq,Int.toNat_zero,Int.toNat_one]|(with_reducible apply ab)<;>intro h<;>try omega|(with_reducible apply ag)|(with_reducible refine aj (λh=> ?_) ?_)|refine ap (pa.lift0 rfl rfl) ?_|refine ap (pb.lift1 rfl rfl rfl) ?_|refine kR ok' (by simp;try omega) (by simp;try omega) ?_
    refine⟨[], [(0,2)], ?_⟩
    simp(disch:=omega)only[go_sem,aR]
    simp[cm,d7]
  ·subst eb
   rw[show x++([]:List bt)=x from List.append_nil x]
   cases y
   all_goals
    refine .inr (.inl ⟨au.ofZ (ress:= [.c (.tsl (x.map cP)),_]) bj (by simp) λ_=>aa ?_,ea⟩)
    simp only[bn]
    repeat' first|simp(disch:=omega)only[go_sem, *,k16,hl,hg,u,Ex.row_eq,Int.toNat_zero,Int.toNat_one]|(with_reducible apply ab)<;>intro h<;>try omega|(with_reducible apply ag)|(with_reducible refine aj (λh=> ?_) ?_)|refine ap (pa.lift0 rfl rfl) ?_|refine ap (pb.lift0 rfl rfl) ?_|refine dI ok ?_
    refine⟨[], [], ?_⟩
    simp(disch:=omega)only[go_sem,aR]
    simp[cm,d7]
  ·cases y
   all_goals
    refine .inr (.inr (au.ofZ (ress:= [.c (.ref 0),_]) bj (by simp) λ_=>aa ?_))
    simp only[bn]
    repeat' first|simp(disch:=omega)only[go_sem, *,k16,hl,hg,u,Ex.row_eq,Int.toNat_zero,Int.toNat_one]|(with_reducible apply ab)<;>intro h<;>try omega|(with_reducible apply ag)|(with_reducible refine aj (λh=> ?_) ?_)|refine ap (pa.lift0 rfl rfl) ?_|refine ap (pb.lift0 rfl rfl) ?_|refine dv ok ok' (by simpa using eb) (by simp;try omega) (by simp;try omega) ?_
    refine⟨[], [(0,1)], ?_⟩
    simp(disch:=omega)only[go_sem,aR]
    simp[cm,d7]
  ·by_cases eb:x'= []
   ·subst eb
    rw[show x++([]:List bt)=x from List.append_nil x]
    cases y
    all_goals
     refine .inr (.inl ⟨au.ofZ (ress:= [.c (.tsl (x.map cP)),_]) bj (by simp) λ_=>aa ?_,ea⟩)
     simp only[bn]
     repeat' first|simp(disch:=omega)only[go_sem, *,k16,hl,hg,u,Ex.row_eq,Int.toNat_zero,Int.toNat_one]|(with_reducible apply ab)<;>intro h<;>try omega|(with_reducible apply ag)|(with_reducible refine aj (λh=> ?_) ?_)|refine ap (pa.lift0 rfl rfl) ?_|refine ap (pb.lift1 rfl rfl rfl) ?_|refine dI ok ?_
     refine⟨[], [], ?_⟩
     simp(disch:=omega)only[go_sem,aR]
     simp[cm,d7]
   ·cases y
    all_goals
     refine .inr (.inr (au.ofZ (ress:= [.c (.ref 0),_]) bj (by simp) λ_=>aa ?_))
     simp only[bn]
     repeat' first|simp(disch:=omega)only[go_sem, *,k16,hl,hg,u,Ex.row_eq,Int.toNat_zero,Int.toNat_one]|(with_reducible apply ab)<;>intro h<;>try omega|(with_reducible apply ag)|(with_reducible refine aj (λh=> ?_) ?_)|refine ap (pa.lift0 rfl rfl) ?_|refine ap (pb.lift1 rfl rfl rfl) ?_|refine dv ok ok' (by simpa using eb) (by simp;try omega) (by simp;try omega) ?_
     refine⟨[], [(0,2)], ?_⟩
     simp(disch:=omega)only[go_sem,aR]
     simp[cm,d7]
  ·subst eb
   cases y
   all_goals
    refine .inr (.inr (au.ofZ (ress:= [.c (.ref 0),_]) bj (by simp) λ_=>aa ?_))
    simp only[bn]
    repeat' first|simp(disch:=omega)only[go_sem, *,k16,hl,hg,u,Ex.row_eq,Int.toNat_zero,Int.toNat_one]|(with_reducible apply ab)<;>intro h<;>try omega|(with_reducible apply ag)|(with_reducible refine aj (λh=> ?_) ?_)|refine ap (pa.lift1 rfl rfl rfl) ?_|refine ap (pb.lift0 rfl rfl) ?_|refine aJ rfl (by intro h;cases h) ok' (by simp;try omega) (by simp;try omega) ?_
    refine⟨[], [(0,2)], ?_⟩
    simp(disch:=omega)only[go_sem,aR]
    simp[cm,d7]
  ·cases y
   all_goals
    refine .inr (.inr (au.ofZ (ress:= [.c (.ref 0),_]) bj (by simp) λ_=>aa ?_))
    simp only[bn]
    repeat' first|simp(disch:=omega)only[go_sem, *,k16,hl,hg,u,Ex.row_eq,Int.toNat_zero,Int.toNat_one]|(with_reducible apply ab)<;>intro h<;>try omega|(with_reducible apply ag)|(with_reducible refine aj (λh=> ?_) ?_)|refine ap (pa.lift1 rfl rfl rfl) ?_|refine ap (pb.lift0 rfl rfl) ?_|refine aJ rfl (by intro h;cases h) ok' (by simp;try omega) (by simp;try omega) ?_
    refine⟨[], [(0,2)], ?_⟩
    simp(disch:=omega)only[go_sem,aR]
    simp[cm,d7]
  ·cases y
   all_goals
    refine .inr (.inr (au.ofZ (ress:= [.c (.ref 0),_]) bj (by simp) λ_=>aa ?_))
    simp only[bn]
    repeat' first|simp(disch:=omega)only[go_sem, *,k16,hl,hg,u,Ex.row_eq,Int.toNat_zero,Int.toNat_one]|(with_reducible apply ab)<;>intro h<;>try omega|(with_reducible apply ag)|(with_reducible refine aj (λh=> ?_) ?_)|refine ap (pa.lift1 rfl rfl rfl) ?_|refine ap (pb.lift1 rfl rfl rfl) ?_|refine aJ rfl (by intro h;cases h) ok' (by simp;try omega) (by simp;try omega) ?_
    refine⟨[], [(0,3)], ?_⟩
    simp(disch:=omega)only[go_sem,aR]
    simp[cm,d7]
 by_cases k18:e.op=18
 ·have w:(e.args.length:Int)=1:=by rw[ha,k18];rfl
  obtain⟨a,g⟩:=J0 w
  rw[Bh k18 g]
  have hm:a∈e.args:=by rw[g];exact List.mem_cons_self
  have hA:=ih a hm (aV h hm) (by have:=cU hm;omega)
  have q1:=mw a (aV h hm)
  have s1:=cU hm
  have hg:(e.args.map Ex.row)[0]? =some a.row:=by rw[g];rfl
  have hl:e.args.length=1:=by rw[g];rfl
  clear ih ha w h k k16 hm g
  unfold WN at hA
  have hq:XI 20000 (bA a).1:=MQ q1 (by omega)
  clear q1 s1 hs
  generalize bA a=r at*
  obtain⟨x,y⟩:=r
  simp only at hA hq ⊢
  by_cases j:x.length=1∧y=true
  ·obtain⟨hx,rfl⟩:=j
   obtain⟨c,rfl⟩: ∃c,x= [c]:=by match x,hx with| [c],_=>exact⟨c,rfl⟩
   obtain⟨v,z⟩:=hq.2 c List.mem_cons_self
   have O:short c.1.2:=by unfold short;omega
   have pn:=ke v O
   rw[show Bt ([c],true)=if(fp c).2=0∧(fp c).1.length=1 then((fp c).1,true)else([],false)from rfl]
   try simp only at hA ⊢
   by_cases hn:(fp c).2=0∧(fp c).1.length=1
   ·rw[if_pos hn]
    have pl:=tH v O hn.1 hn.2
    have hN:=(Pk hn.1 hn.2).2.2.2
    rw[hN]at pl ⊢
    clear pn hN hn v z hq O
    refine .inr (.inl ⟨au.ofZ (ress:= [.c (.tsl ([tC c.1].map cP)),Go.Abs.B true]) bj (by simp) λ_=>aa ?_,by simp⟩)
    simp only[bn]
    rcases hA with⟨pa,ea⟩|⟨pa,ea⟩|pa
    ·cases ea
    ·repeat' first|simp(disch:=omega)only[go_sem, *,k18,hl,hg,Ex.row_eq,Int.toNat_zero,cP]|(with_reducible apply ab)<;>intro h<;>try omega|(with_reducible apply ag)|(with_reducible refine aj (λh=> ?_) ?_)|refine ap (pa.lift0 rfl rfl) ?_|refine ap (pl.lift0 rfl rfl) ?_
     refine⟨[], [], ?_⟩
     simp(disch:=omega)only[go_sem,aR]
     simp[cm,d7,cP]
    ·repeat' first|simp(disch:=omega)only[go_sem, *,k18,hl,hg,Ex.row_eq,Int.toNat_zero,cP]|(with_reducible apply ab)<;>intro h<;>try omega|(with_reducible apply ag)|(with_reducible refine aj (λh=> ?_) ?_)|refine ap (pa.lift1 rfl rfl rfl) ?_|refine ap (pl.lift0 rfl rfl) ?_
     refine⟨[], [], ?_⟩
     simp(disch:=omega)only[go_sem,aR]
     simp[cm,d7,cP]
   ·rw[if_neg hn]
    clear v z hq O
    generalize fp c=X at*
    obtain⟨xs,er⟩:=X
    try simp only at pn hn
    have hE:er≠0∨(er=0∧ ¬((xs.length:Nat):Int)=1):=by
     by_cases h:er=0
     ·exact .inr ⟨h,λh1=>hn ⟨h,by omega⟩⟩
     ·exact .inl h
    clear hn
    refine .inl ⟨au.ofZ (ress:= [.c .nils,Go.Abs.B false]) bj (by simp) λ_=>aa ?_,rfl⟩
    simp only[bn]
    rcases hA with⟨pa,ea⟩|⟨pa,ea⟩|pa
    ·cases ea
    ·rcases hE with h1|⟨rfl,h1⟩
     all_goals
      repeat' first|simp(disch:=omega)only[go_sem, *,k18,hl,hg,Ex.row_eq,Int.toNat_zero,cP,h1]|(with_reducible apply ab)<;>intro h<;>try omega|(with_reducible apply ag)|(with_reducible refine aj (λh=> ?_) ?_)|refine ap (pa.lift0 rfl rfl) ?_|refine cg pn rfl rfl ?_
      refine⟨[], [], ?_⟩
      simp(disch:=omega)only[go_sem,aR]
      simp[cm,d7,cP]
    ·rcases hE with h1|⟨rfl,h1⟩
     all_goals
      repeat' first|simp(disch:=omega)only[go_sem, *,k18,hl,hg,Ex.row_eq,Int.toNat_zero,cP,h1]|(with_reducible apply ab)<;>intro h<;>try omega|(with_reducible apply ag)|(with_reducible refine aj (λh=> ?_) ?_)|refine ap (pa.lift1 rfl rfl rfl) ?_|refine cg pn rfl rfl ?_
      refine⟨[], [], ?_⟩
      simp(disch:=omega)only[go_sem,aR]
      simp[cm,d7,cP]
  ·have hR:Bt (x,y)=(([],false):CB):=Rq j
   rw[hR]
   have hy:y=false∨(y=true∧ ¬((x.length:Nat):Int)=1):=by
    cases y
    ·exact .inl rfl
    ·exact .inr ⟨rfl,λh1=>j ⟨by omega,rfl⟩⟩
   clear hR j hq
   refine .inl ⟨au.ofZ (ress:= [.c .nils,Go.Abs.B false]) bj (by simp) λ_=>aa ?_,rfl⟩
   simp only[bn]
   rcases hA with⟨pa,ea⟩|⟨pa,ea⟩|pa
   ·subst ea
    rcases hy with rfl|⟨rfl,h1⟩
    all_goals
     repeat' first|simp(disch:=omega)only[go_sem, *,k18,hl,hg,Ex.row_eq,Int.toNat_zero,cP]|(with_reducible apply ab)<;>intro h<;>try omega|(with_reducible apply ag)|(with_reducible refine aj (λh=> ?_) ?_)|refine ap (pa.lift0 rfl rfl) ?_
     refine⟨[], [], ?_⟩
     simp(disch:=omega)only[go_sem,aR]
     simp[cm,d7,cP]
   ·rcases hy with rfl|⟨rfl,h1⟩
    ·repeat' first|simp(disch:=omega)only[go_sem, *,k18,hl,hg,Ex.row_eq,Int.toNat_zero,cP]|(with_reducible apply ab)<;>intro h<;>try omega|(with_reducible apply ag)|(with_reducible refine aj (λh=> ?_) ?_)|refine ap (pa.lift0 rfl rfl) ?_
     refine⟨[], [], ?_⟩
     simp(disch:=omega)only[go_sem,aR]
     simp[cm,d7,cP]
    ·repeat' first|simp(disch:=omega)only[go_sem, *,k18,hl,hg,Ex.row_eq,Int.toNat_zero,cP,h1]|(with_reducible apply ab)<;>intro h<;>try omega|(with_reducible apply ag)|(with_reducible refine aj (λh=> ?_) ?_)|refine ap (pa.lift0 rfl rfl) ?_
     refine⟨[], [], ?_⟩
     simp(disch:=omega)only[go_sem,aR]
     simp[cm,d7,cP]
   ·rcases hy with rfl|⟨rfl,h1⟩
    ·repeat' first|simp(disch:=omega)only[go_sem, *,k18,hl,hg,Ex.row_eq,Int.toNat_zero,cP]|(with_reducible apply ab)<;>intro h<;>try omega|(with_reducible apply ag)|(with_reducible refine aj (λh=> ?_) ?_)|refine ap (pa.lift1 rfl rfl rfl) ?_
     refine⟨[], [], ?_⟩
     simp(disch:=omega)only[go_sem,aR]
     simp[cm,d7,cP]
    ·repeat' first|simp(disch:=omega)only[go_sem, *,k18,hl,hg,Ex.row_eq,Int.toNat_zero,cP,h1]|(with_reducible apply ab)<;>intro h<;>try omega|(with_reducible apply ag)|(with_reducible refine aj (λh=> ?_) ?_)|refine ap (pa.lift1 rfl rfl rfl) ?_
     refine⟨[], [], ?_⟩
     simp(disch:=omega)only[go_sem,aR]
     simp[cm,d7,cP]
 ·rw[Sa k k16 k18]
  have d1: ¬e.op=13:=by omega
  have d2: ¬e.op=14:=by omega
  have d3: ¬e.op=15:=by omega
  clear ih ha h k
  refine .inl ⟨au.ofZ (ress:= [.c .nils,Go.Abs.B false]) bj (by simp) λ_=>aa ?_,rfl⟩
  simp only[bn]
  repeat' first|simp(disch:=omega)only[go_sem, *,d1,d2,d3,k16,k18]|(with_reducible apply ab)<;>intro h<;>try omega|(with_reducible apply ag)|(with_reducible refine aj (λh=> ?_) ?_)
  refine⟨[], [], ?_⟩
  simp(disch:=omega)only[go_sem,aR]
  simp[cm,d7,cP]
set_option maxRecDepth 1000000
theorem wl {e:Ex} (h:jO e) (hs:e.sz≤20000):ac Tryz.prog gV [fJ e] (aCB (bA e)):=by
 rcases IB e h hs with⟨c,h0⟩|⟨c,_⟩|c
 ·exact c.toP (by show _=some (AV.tup [bT (bA e).1,Go.Abs.B (bA e).2]);rw[h0];rfl)
 ·exact c.toP rfl
 ·exact c.toP rfl
theorem vf {q N N' a r r':Nat} {b:bc} {F:List (Nat×bc)} (h:Go.Abs.dk N [q,r] F) (h0:q<a) (ha:N≤a) (hQ:a<N') (hb:tz b=true) (hr:r'=r∨N≤r') (hY:a≠r'):Go.Abs.dk N' [q,r'] ((a,b)::F):=by
 refine⟨hQ,hb,dz.2 λm hm=> ?_,h.mono (by omega) λn hn h'=>dz.2 λm hm=> ?_⟩
 ·simp only[List.mem_cons,List.not_mem_nil,or_false]at hm
  omega
 ·have h1:=dz.1 h' q (by simp)
  have h2:=dz.1 h' r (by simp)
  simp only[List.mem_cons,List.not_mem_nil,or_false]at hm
  omega
def obP (d k:Nat) (o:Ob):List PC:= [pI d,pI k,pI o.1.1.1,aw o.1.1.2,pB o.1.2,du cP o.2]
def jz (d:Nat) (l:List Ob):List (List PC):=l.zipIdx.map λx=>obP d x.2 x.1
theorem JV (d:Nat) (l:List Ob) (o:Ob):jz d (l++ [o])=jz d l++ [[pI d,pI l.length,pI o.1.1.1,aw o.1.1.2,pB o.1.2,du cP o.2]]:=by simp[jz,List.zipIdx_append,obP]
theorem KS (d:Nat) (l:List Ob):(jz d l).length=l.length:=by simp[jz]
abbrev bWl (p:bI) (d:Nat) (c:AC) (n:Int):bc:= .var [.pure (c8 p.sizes),.pure (du cP p.wher),.pure (du ip p.params),.pure (du da p.defs),.pure (c8 p.outs),.pure (pI d),c,.pure (pI n)]
abbrev Yt (q r:Nat) (p:bI) (d:Nat) (l:List Ob) (F:List (Nat×bc)):List (Nat×bc):=(r,.arr 82 6 (jz d l))::(q,bWl p d (.ref r) l.length)::F
def sk (cs:List bt) (l:List bt):List Ob:=l.map λc=>(c,cs)
theorem UM (f x:bY): ∃T:bY,eP f x= [(f,false),(T,false)]∧((eD f x).2=0→T=(eD f x).1)∧((eD f x).2≠0→T=(-1, [])):=⟨if(eD f x).2=0 then(eD f x).1 else(-1, []),rfl,λh=>if_pos h,λh=>if_neg h⟩
theorem tb {p:bI} {d:Nat} {f x:bY} {cs:List bt} {l:List Ob} {q r nx:Nat} {F:List (Nat×bc)} (hf:bq f) (hx:bq x) (lf:f.2.length≤40000000) (lx:x.2.length≤40000000) (hl:l.length≤100000000) (hr:q<r) (he:r<nx) (hF:Go.Abs.dk nx [q,r] F):
  au Tryz.prog l8 [.c (.ptr q 0),dm f.1 f.2,dm x.1 x.2,bT cs] (Yt q r p d l F) nx (eF []) (Yt q nx p d (l++sk cs (eP f x)) F) (nx+1):=by
 refine au.ofZ tN (by simp) λ_=>aa ?_
 have pb:=kM hf hx lf lx
 have pc:=qf (-1)
 have hS:=hF.del (n:=r) (.inl (by simp))
 have D: ∀k,q<nx+k:=λk=>by omega
 obtain⟨T,hT,h1,h2⟩:=UM f x
 rw[hT]
 clear hT lf lx hf hx
 obtain⟨K,L⟩:=f
 conv in lq=>cbv
 have key:T=(-1, [])∨True:= .inr trivial
 obtain⟨os,H⟩: ∃os:List bt,os= [((K,L),false),(T,false)]:=⟨_,rfl⟩
 have hU:os.length=2:=by rw[H];rfl
 have hG: ∀c∈os,c.2=false:=by rw[H];simp
 have hH:os.map (λc=>cd c.1)= [[pI K,aw L], [pI T.1,aw T.2]]:=by rw[H];rfl
 rw[←H]
 generalize eD (K,L) x=s at*
 obtain⟨⟨K3,L3⟩,er⟩:=s
 try simp only at pb h1 h2
 have hd:(er=0∧T=(K3,L3))∨(er≠0∧T=(-1, [])):=by
  by_cases h:er=0
  ·exact .inl ⟨h,h1 h⟩
  ·exact .inr ⟨h,h2 h⟩
 clear h1 h2 key
 rcases hd with⟨h0,rfl⟩|⟨h0,rfl⟩
 all_goals
  repeat' first|simp(disch:=omega)only[go_sem, *,aD,aE,h0]|(with_reducible apply ab)<;>intro h<;>try omega|refine cg pb rfl rfl ?_|refine cg pc rfl rfl ?_
  refine an (λk:Nat=>⟨[(0,.c (.ptr q 0)),(3,bT cs),(23,.c (.tsl (os.map λc=>cd c.1))),(24,I 2),(25,I k)],Yt q nx p d (l++sk cs (os.take k)) F,nx+1,nx⟩) (λk=>k≤2) (λk=>2-k) ⟨0, [(nx,r)],by omega, ?_⟩ ?_
  ·rw[hH]
   simp only[List.take_zero,sk,List.map_nil,List.append_nil]
   refine aq (by simp(disch:=omega) [aD,D]) ?_ rfl (by simp;try omega) (by simp[eg];try omega)
   repeat' first|exact hF.wkA|refine ar ?_ ?_ ?_ ?_ ?_|(simp(disch:=omega) [aD,D]<;>omega)|omega
  clear hH hS pb pc
  intro k hk
  refine aa ?_
  have hI:q<nx:=by omega
  have hV:=hF.del (n:=nx) (.inr (Nat.le_refl _))
  by_cases hi:k<2
  ·have J:k<os.length:=by omega
   have g1:=ah (f:=λc:bt=>cd c.1) J
   have hq:=hG _ (List.getElem_mem J)
   have hj:(l++sk cs (os.take k)).length≤100000002:=by simp[sk];omega
   have ho:l++sk cs (os.take (k+1))=l++sk cs (os.take k)++ [(os[k],cs)]:=by
    rw[List.take_succ_eq_append_getElem J,sk,List.map_append,List.append_assoc]
    rfl
   have R:=JV d (l++sk cs (os.take k)) (os[k],cs)
   rw[←ho]at R
   have hJ:((l++sk cs (os.take (k+1))).length:Int)=(l++sk cs (os.take k)).length+1:=by rw[ho];simp only[List.length_append,List.length_cons,List.length_nil];omega
   have hu:=KS d (l++sk cs (os.take k))
   have HR:=Lib.hid R
   have HN:=Lib.hid hJ
   clear R hJ ho H
   obtain⟨l2,G⟩: ∃l2,l2=l++sk cs (os.take (k+1)):=⟨_,rfl⟩
   rw[←G]at HR HN
   have HL:=Lib.hid G
   clear G
   generalize l++sk cs (os.take k)=l1 at*
   generalize os[k]=c at*
   obtain⟨⟨Kc,Lc⟩,q⟩:=c
   simp only at hq
   subst hq
   have g2:(os.map λc:bt=>cd c.1)[k]? =some [pI Kc,aw Lc]:=g1
   clear g1 hG hU h0
   simp only at HR
   repeat' first|simp(disch:=omega)only[go_sem, *,g2,aD,aE,wrap_i64]|(with_reducible apply ab)<;>intro h<;>try omega|refine aJ (by simp(disch:=omega)only[am,al,aD,eq_self,↓reduceIte,Option.map_some]<;>rfl) (by intro h;cases h) (aB rfl) (by simp only[List.length_append,List.length_cons,List.length_nil];omega) (by simp only[List.length_append,List.length_cons,List.length_nil];omega) ?_
   rw[←HR.out,←HN.out]
   try rw[hV]
   refine⟨k+1, [(nx,nx+2)],by omega,by omega, ?_⟩
   rw[←HL.out]
   refine aq (by simp(disch:=omega) [aD,D,hI]) ?_ rfl (by simp;try omega) (by simp[eg];try omega)
   repeat' first|exact hF.wkA|refine ar ?_ ?_ ?_ ?_ ?_|(simp(disch:=omega) [aD,D,hI]<;>omega)|omega
  ·obtain rfl:k=2:=by omega
   rw[List.take_of_length_le (by omega)]
   repeat' first|simp(disch:=omega)only[go_sem, *,aD,aE]|(with_reducible apply ab)<;>intro h<;>try omega
   refine⟨[], [], ?_⟩
   simp(disch:=omega)only[go_sem,aR,aD,aE]
   refine aq (by simp(disch:=omega) [aD,D]) ?_ rfl (by simp;try omega) (by simp[eg];try omega)
   repeat' first|exact hF.wkA|refine ar ?_ ?_ ?_ ?_ ?_|(simp(disch:=omega) [aD,D]<;>omega)|omega
end
end Go.Proofs.YthbcbaembicdbaaGreatDoor
