import Derived.Test.YthbcbaembicdbaaGreatDoorP18w
set_option maxHeartbeats 4000000
set_option linter.unusedVariables false
set_option linter.unusedSimpArgs false
namespace Go.Proofs.YthbcbaembicdbaaGreatDoor
open Go.Abs Go.RowKit
noncomputable section
abbrev LB:=bU×Bool
abbrev CB:=List aR×Bool
abbrev yz:LB:=((0, []),false)
def ZP (x:bU×Int):LB:=(x.1,decide (x.2=0))
def zG (op:Int) (val:Fr) (ty:Ty) (l:bU) (az:List LB):LB:=
 if op=2 then(l,true)else if op=1 then((val.1, []),decide (ty.1=3))
 else if op=8 then(if(az.getD 0 yz).2=true then ZP (dP (az.getD 0 yz).1 (-1))else yz)
 else if op=4∨op=5 then(if(az.getD 0 yz).2=true∧(az.getD 1 yz).2=true then ZP (if op=5 then nv (az.getD 1 yz).1 (az.getD 0 yz).1 else nY (az.getD 0 yz).1 (az.getD 1 yz).1)else yz)
 else yz
mutual
def dx:Ex→LB
 | .mk op _ val ty lin _ args=>zG op val ty lin (G8 args)
def G8:List Ex→List LB
 | []=> []
 |e::r=>dx e::G8 r
end
theorem Ek: ∀l:List Ex,G8 l=l.map dx
 | []=>by rw[G8];rfl
 |e::r=>by rw[G8,Ek r];rfl
theorem I2 (e:Ex):dx e=zG e.op e.val e.ty e.lin (e.args.map dx):=by
 obtain⟨op,name,val,ty,lin,idx,args⟩:=e
 rw[dx,Ek]
 rfl
def z6 (op:Int) (a b:bU):bU×Int:=if op=13 then fR a b else nv a b
def okF (x:bU×Int) (q:Bool):CB:=if x.2=0 then([(x.1,q)],true)else([],false)
theorem OJ (op:Int) (a b:bU):br (z6 op a b).1∧(z6 op a b).1.2.length≤a.2.length+b.2.length:=by
 unfold z6
 split
 ·exact⟨JV _ _,Dl _ _⟩
 ·exact⟨JQ _ _,vg _ _⟩
def Gp (r:CB):CB:=match r with
 |([c],true)=>if(fT c).2=0∧(fT c).1.length=1 then((fT c).1,true)else([],false)
 |_=>([],false)
theorem Wv {r:CB} (h: ¬(r.1.length=1∧r.2=true)):Gp r=([],false):=by
 unfold Gp
 split
 ·exact absurd ⟨rfl,rfl⟩ h
 ·rfl
def LS (op:Int) (ls:List LB) (fs:List CB):CB:=
 if 13≤op∧op≤15 then(if(ls.getD 0 yz).2=true∧(ls.getD 1 yz).2=true then
   okF (z6 op (ls.getD 0 yz).1 (ls.getD 1 yz).1) (decide (op=15))
  else([],false))
 else if op=16 then((fs.getD 0 ([],false)).1++(fs.getD 1 ([],false)).1,(fs.getD 0 ([],false)).2&&(fs.getD 1 ([],false)).2)
 else if op=18 then Gp (fs.getD 0 ([],false))
 else([],false)
mutual
def cj:Ex→CB
 | .mk op _ _ _ _ _ args=>LS op (G8 args) (KW args)
def KW:List Ex→List CB
 | []=> []
 |e::r=>cj e::KW r
end
theorem L4: ∀l:List Ex,KW l=l.map cj
 | []=>by rw[KW];rfl
 |e::r=>by rw[KW,L4 r];rfl
theorem vN (e:Ex):cj e=LS e.op (e.args.map dx) (e.args.map cj):=by
 obtain⟨op,name,val,ty,lin,idx,args⟩:=e
 rw[cj,Ek,L4]
 rfl
def jJ (a:Ex):Ex:= .mk 18 ⟨⟨[]⟩⟩ (0,0) pH (0, []) [] [a]
def m7 (f x:bU):List aR:= [(f,false),(if(fR f x).2=0 then(fR f x).1 else(-1, []),false)]
def zl (p:bz) (s:ByteArray):List bU:=match dJ p s with
 |some x=>x.2
 |none=> []
def Mz (p:bz) (x:Ix) (d:bU):List aR:=if x.2.1=⟨⟨[]⟩⟩then m7 x.1 d else(x.2.2.zip (zl p x.2.1)).flatMap λq=>m7 q.1 q.2
def Iy (p:bz) (idx:List Ix) (s:ByteArray):List aR:=(idx.zip (zl p s)).flatMap λq=>Mz p q.1 q.2
abbrev Ob:=aR×List aR
mutual
def qq (p:bz):Ex→List aR→List Ob
 | .mk op name _ _ _ idx args,cs=>(if op=3 then(Iy p idx name).map (λc=>(c,cs))else [])++(if op=11 then V6 p args cs else yn p args cs)
def yn (p:bz):List Ex→List aR→List Ob
 | [],_=> []
 |e::r,cs=>qq p e cs++yn p r cs
def V6 (p:bz):List Ex→List aR→List Ob
 | [],_=> []
 | [a],cs=> []
 | [a,b],cs=> []
 |a::b::c::r,cs=>qq p a cs++qq p b (cs++(cj a).1)++qq p c (cs++(cj (jJ a)).1)
end
theorem yb (p:bz) (e:Ex) (cs:List aR):qq p e cs=(if e.op=3 then(Iy p e.idx e.name).map (λc=>(c,cs))else [])++(if e.op=11 then V6 p e.args cs else yn p e.args cs):=by
 obtain⟨op,name,val,ty,lin,idx,args⟩:=e
 rw[qq]
 rfl
theorem Do (p:bz) (cs:List aR): ∀l r:List Ex,yn p (l++r) cs=yn p l cs++yn p r cs
 | [],r=>by simp[yn]
 |e::l,r=>by simp only[List.cons_append,yn,Do p cs l r,List.append_assoc]
theorem Uv (p:bz) (cs:List aR) {l:List Ex} {k:Nat} (h:k<l.length):yn p (l.take (k+1)) cs=yn p (l.take k) cs++qq p l[k] cs:=by
 rw[List.take_succ_eq_append_getElem h,Do]
 simp[yn]
theorem NK {e a b:Ex} (ha:a∈e.args) (hb:b∈a.pre):b∈e.pre:=by
 rw[Ex.pre_eq]
 refine List.mem_cons_of_mem _ ?_
 generalize e.args=l at ha
 induction l with
 |nil=>cases ha
 |cons x r ihr=>
  rw[Ex.pres]
  rcases List.mem_cons.1 ha with rfl|ha
  ·exact List.mem_append_left _ hb
  ·exact List.mem_append_right _ (ihr ha)
theorem nN (e:Ex):e∈e.pre:=by rw[Ex.pre_eq];exact List.mem_cons_self
def abH (e:Ex):Prop:= ∀a∈e.pre,ar a.val.1∧ ∀l∈a.forms,br l∧l.2.length≤1000
def nL (e:Ex):Prop:=lX e∧abH e
theorem bO {e a:Ex} (h:nL e) (ha:a∈e.args):nL a:=⟨nU h.1 ha,λb hb=>h.2 b (NK ha hb)⟩
theorem Ul {e:Ex} (h:nL e):br e.lin∧e.lin.2.length≤1000:=(h.2 e (nN e)).2 _ List.mem_cons_self
theorem U3 {e:Ex} (h:nL e):ar e.val.1:=(h.2 e (nN e)).1
theorem Ep {a:Ex} (h:nL a):nL (jJ a):=by
 have hp: ∀b∈(jJ a).pre,b=jJ a∨b∈a.pre:= λb hb=>by
  rw[Ex.pre_eq]at hb
  rcases List.mem_cons.1 hb with rfl|hb
  ·exact .inl rfl
  ·exact .inr (by simpa[jJ,Ex.args,Ex.pres]using hb)
 refine⟨λb hb=> ?_,λb hb=> ?_⟩
 ·rcases hp b hb with rfl|hb
  ·exact⟨rfl,by show(1:Int)≤18;decide,by show(18:Int)≤18;decide,by show(0:Nat)≤6;decide,λx hx=>by cases hx⟩
  ·exact h.1 b hb
 ·rcases hp b hb with rfl|hb
  ·refine⟨by show ar 0;decide,λl hl=> ?_⟩
   simp only[jJ,Ex.forms,Ex.lin,Ex.idx,List.flatMap_nil,List.mem_singleton]at hl
   subst hl
   exact⟨⟨by decide,λm hm=>by cases hm⟩,by simp⟩
  ·exact h.2 b hb
theorem z64:br (0, []):=⟨by decide,λm hm=>by cases hm⟩
def ZW (n:Nat) (x:LB):Prop:=br x.1∧x.1.2.length≤1000*n
theorem PP {f:Ex→LB}: ∀{l:List Ex},(∀a∈l,ZW a.sz (f a))→ ∃m n,m+n≤Ex.szs l∧ZW m ((l.map f).getD 0 yz)∧ZW n ((l.map f).getD 1 yz)
 | [],_=>⟨0,0,by simp,⟨z64,by simp⟩,⟨z64,by simp⟩⟩
 | [a],h=>⟨a.sz,0,by simp[Ex.szs],h a List.mem_cons_self,⟨z64,by simp⟩⟩
 |a::b::r,h=>⟨a.sz,b.sz,by simp[Ex.szs,←Nat.add_assoc],h a List.mem_cons_self,h b (List.mem_cons_of_mem _ List.mem_cons_self)⟩
theorem Ar (e:Ex):nL e→ZW e.sz (dx e):=by
 refine Ex.ind (p:= λe=>nL e→ZW e.sz (dx e)) (λe ih h=> ?_) e
 obtain⟨m,n,hmn,⟨a1,a2⟩,⟨b1,b2⟩⟩:=PP (f:=dx) λa ha=>ih a ha (bO h ha)
 have hz:=Ex.sz_eq e
 have hl:=Ul h
 rw[I2]
 unfold zG
 generalize (e.args.map dx).getD 0 yz=a at*
 generalize (e.args.map dx).getD 1 yz=b at*
 repeat' split
 all_goals first
  |exact⟨z64,by simp⟩
  |exact⟨hl.1,by show e.lin.2.length≤_;omega⟩
  |exact⟨⟨U3 h,λm hm=>by cases hm⟩,by simp⟩
  |exact⟨Hf,by have:=rE a.1 (-1);show(dP a.1 (-1)).1.2.length≤_;omega⟩
  |exact⟨JQ _ _,by have:=vg b.1 a.1;show(nv b.1 a.1).1.2.length≤_;omega⟩
  |exact⟨IK _ _,by have:=zv a.1 b.1;show(nY a.1 b.1).1.2.length≤_;omega⟩
theorem WC {c:aR} (h:bk c): ∀x∈(fT c).1,bk x∧x.1.2.length≤c.1.2.length:=by
 intro x hx
 unfold fT at hx
 split at hx
 ·cases hx
 split at hx
 ·cases hx
 rename_i hm
 have h1:bk (oS c.1)∧(oS c.1).1.2.length≤c.1.2.length:=⟨EI h hm,by simp[oS]⟩
 split at hx
 ·rw[List.mem_singleton.1 hx];exact h1
 split at hx
 ·cases hx
 rename_i hk
 rcases List.mem_cons.1 hx with rfl|hx
 ·refine⟨⟨?_,h.2⟩,Nat.le_refl _⟩
  have:=h.1
  show ar (c.1.1-1)
  unfold ar at*
  omega
 ·rw[List.mem_singleton.1 hx];exact h1
def WG (n:Nat) (l:List aR):Prop:=l.length≤n∧ ∀c∈l,bk c∧c.1.2.length≤1000*n
theorem ou (n:Nat):WG n []:=⟨by simp,λc h=>by cases h⟩
theorem SI {n m:Nat} {l:List aR} (h:WG n l) (hm:n≤m):WG m l:=⟨by have:=h.1;omega,λc hc=>⟨(h.2 c hc).1,by have:=(h.2 c hc).2;omega⟩⟩
theorem Xi: ∀{l:List Ex},(∀a∈l,WG a.sz (cj a).1)→ ∃m n,m+n≤Ex.szs l∧WG m ((l.map cj).getD 0 ([],false)).1∧WG n ((l.map cj).getD 1 ([],false)).1
 | [],_=>⟨0,0,by simp,ou _,ou _⟩
 | [a],h=>⟨a.sz,0,by simp[Ex.szs],h a List.mem_cons_self,ou _⟩
 |a::b::r,h=>⟨a.sz,b.sz,by simp[Ex.szs,←Nat.add_assoc],h a List.mem_cons_self,h b (List.mem_cons_of_mem _ List.mem_cons_self)⟩
theorem tr (e:Ex):nL e→WG e.sz (cj e).1:=by
 refine Ex.ind (p:= λe=>nL e→WG e.sz (cj e).1) (λe ih h=> ?_) e
 obtain⟨m,n,hmn,⟨a1,a2⟩,⟨b1,b2⟩⟩:=PP (f:=dx) λa ha=>Ar a (bO h ha)
 obtain⟨m',n',hmn',c0,c1⟩:=Xi λa ha=>ih a ha (bO h ha)
 have hz:=Ex.sz_eq e
 rw[vN]
 unfold LS
 generalize (e.args.map dx).getD 0 yz=a at*
 generalize (e.args.map dx).getD 1 yz=b at*
 generalize (e.args.map cj).getD 0 ([],false)=c at*
 generalize (e.args.map cj).getD 1 ([],false)=d at*
 split
 ·split
  ·obtain⟨g1,g2⟩:=OJ e.op a.1 b.1
   unfold okF
   split
   ·refine⟨by simp;omega,λx hx=> ?_⟩
    rw[List.mem_singleton.1 hx]
    exact⟨g1,by show(z6 e.op a.1 b.1).1.2.length≤_;omega⟩
   ·exact ou _
  ·exact ou _
 split
 ·refine⟨by have:=c0.1;have:=c1.1;simp only[List.length_append];omega,λx hx=> ?_⟩
  rcases List.mem_append.1 hx with hx|hx
  ·exact⟨(c0.2 x hx).1,by have:=(c0.2 x hx).2;omega⟩
  ·exact⟨(c1.2 x hx).1,by have:=(c1.2 x hx).2;omega⟩
 split
 ·unfold Gp
  split
  ·rename_i x
   obtain⟨h64,hlen⟩:=c0.2 x List.mem_cons_self
   split
   ·rename_i hh
    refine⟨by show(fT x).1.length≤_;omega,λy hy=> ?_⟩
    obtain⟨g1,g2⟩:=WC h64 y hy
    exact⟨g1,by omega⟩
   ·exact ou _
  ·exact ou _
 ·exact ou _
open Go.Abs Go.RowKit
def UI (l:bU):Prop:=br l∧l.2.length≤1000
def abl (p:bz) (a:Ex):Prop:= ∃t ds,dJ p a.name=some (t,ds)∧a.idx.length=ds.length∧(∀l∈ds,UI l)∧
 ∀x∈a.idx,x.2.1≠⟨⟨[]⟩⟩→ ∃t' ds',dJ p x.2.1=some (t',ds')∧x.2.2.length=ds'.length∧ ∀l∈ds',UI l
def GL (p:bz) (e:Ex):Prop:=nL e∧ ∀a∈e.pre,a.op=3→abl p a
theorem uW {p:bz} {e a:Ex} (h:GL p e) (ha:a∈e.args):GL p a:=⟨bO h.1 ha,λb hb=>h.2 b (NK ha hb)⟩
theorem UJ {q:bz} {vars:List ByteArray} (e:Ex):(eS q vars e).2=0→ ∀a∈e.pre,a.op=3→(jV q vars a).2=0:=by
 refine Ex.ind (p:= λe=>(eS q vars e).2=0→ ∀a∈e.pre,a.op=3→(jV q vars a).2=0) (λe ih h a ha h3=> ?_) e
 obtain⟨h1,l,h2⟩:=Hj h
 rw[Ex.pre_eq]at ha
 rcases List.mem_cons.1 ha with rfl|ha
 ·unfold b9 at h2
  rw[if_neg (by omega),if_neg (by omega),if_pos h3]at h2
  exact h2
 ·have key: ∀l:List Ex,a∈Ex.pres l→ ∃b∈l,a∈b.pre:=by
   intro l
   induction l with
   |nil=>intro h;simp[Ex.pres]at h
   |cons b r ihr=>
    intro h
    rw[Ex.pres]at h
    rcases List.mem_append.1 h with h|h
    ·exact⟨b,List.mem_cons_self,h⟩
    ·obtain⟨c,hc,h⟩:=ihr h
     exact⟨c,List.mem_cons_of_mem _ hc,h⟩
  obtain⟨b,hb,hab⟩:=key _ ha
  exact ih b hb (h1 b hb) a hab h3
theorem yD {p:bz} {k:Nat} {s:ByteArray} {x:Ty×List bU} (h:dJ (fe p k) s=some x):dJ p s=some x:=by
 unfold dJ fe at*
 simp only at h
 split
 ·rename_i y hy
  rw[hy]at h
  exact h
 ·rename_i hy
  rw[hy]at h
  simp only at h
  split at h
  ·rename_i d hd
   have:p.defs.find? (λd=>decide (d.name=s))=some d:=by
    rw[←List.take_append_drop k p.defs,List.find?_append,hd]
    rfl
   rw[this]
   exact h
  ·cases h
theorem xK {p:bz} (hf:rI p) (hL:Jt p) {s:ByteArray} {t:Ty} {ds:List bU} (h:dJ p s=some (t,ds)): ∀l∈ds,UI l:=by
 unfold dJ at h
 split at h
 ·rename_i x hx
  have hm:=List.mem_of_find?_eq_some hx
  have e:x.2.2=ds:=by rw[Option.some.inj h]
  subst e
  exact λl hl=>⟨hL.2.1 x hm l hl,by have:=(hf.1 x hm).2 l hl;omega⟩
 ·split at h
  ·rename_i d hd
   have hm:=List.mem_of_find?_eq_some hd
   cases h
   intro l hl
   obtain⟨a,ha,rfl⟩:=List.mem_map.1 hl
   exact⟨(hL.2.2 d hm).1 a (List.mem_append_left _ ha),by have:=(hf.2 d hm).2.2.1 a ha;omega⟩
  ·cases h
theorem aaS {p:bz} {k:Nat} {vars:List ByteArray} {a:Ex} (hf:rI p) (hL:Jt p) (h:(jV (fe p k) vars a).2=0):abl p a:=by
 unfold jV at h
 split at h
 ·cases h
 ·rename_i t ds hfd
  split at h
  ·cases h
  ·rename_i hlen
   split at h
   ·contradiction
   ·rename_i hz
    have hb:=yD hfd
    refine⟨t,ds,hb,Classical.not_not.1 hlen,xK hf hL hb,λx hx hn=> ?_⟩
    have hix:=gN (Classical.not_not.1 hz) _ (List.mem_map.2 ⟨x,hx,rfl⟩)
    unfold jz at hix
    rw[if_neg hn]at hix
    split at hix
    ·cases hix
    ·rename_i t' ds' hfd'
     have hb':=yD hfd'
     split at hix
     ·cases hix
     ·split at hix
      ·cases hix
      ·rename_i hl2
       exact⟨t',ds',hb',Classical.not_not.1 hl2,xK hf hL hb'⟩
theorem KR {p:bz} (hl: ¬iT p) (h64:tP p) (hL:Jt p) (h:(bB p).2=0) {k:Nat} (hk:k<p.defs.length):GL p p.defs[k].body∧p.defs[k].body.sz≤2000:=by
 obtain⟨⟨c1,c2,c3,c4,c5⟩,hs,hp,hd⟩:=gC h
 have hf:=pD hl
 obtain⟨f1,f2,f3,f4⟩:=hf.2 _ (List.getElem_mem hk)
 obtain⟨_,ht⟩:=v8 hk (hd k hk)
 obtain⟨t1,t2⟩:=An ht
 have hr:=vU t1
 have hz: ∀a∈p.defs[k].body.pre,co a=0:=by
  intro a ha
  unfold jC at t1
  split at t1
  ·cases t1
  ·split at t1
   ·cases t1
   ·exact gN t1 _ (List.mem_map.2 ⟨a,ha,rfl⟩)
 have hkn:=uQ _ hr (λa ha=>(iO (hz a ha)).1) t2
 have hszb:p.defs[k].body.sz≤2000:=by
  unfold jC at t1
  split at t1
  ·cases t1
  ·split at t1
   ·cases t1
   ·omega
 refine⟨⟨⟨hr,λa ha=>⟨(h64 _ (List.getElem_mem hk) a ha).1,λl hlm=>⟨(hL.2.2 _ (List.getElem_mem hk)).2 a ha l hlm, ?_⟩⟩⟩,λa ha h3=>aaS hf hL (UJ _ t2 a ha h3)⟩,hszb⟩
 have hsr:=(cp.1 ((iO (hz a ha)).2.2.2.2.2 l hlm)).1
 have:=JL hsr (L:=bX p.defs[k]++p.sizes) λm hm=>by
  rcases hkn a ha l hlm m hm with h|h
  ·exact List.mem_append_left _ h
  ·exact List.mem_append_right _ h
 have hln:(bX p.defs[k]).length≤24:=by unfold bX;simp;omega
 simp only[List.length_append]at this
 omega
theorem Qw (f x:bU):(m7 f x).length=2:=rfl
theorem Pj {l:List (bU×bU)}:(l.flatMap λq=>m7 q.1 q.2).length=2*l.length:=by
 induction l with
 |nil=>rfl
 |cons a r ih=>simp only[List.flatMap_cons,List.length_append,ih,Qw,List.length_cons];omega
theorem Oq {p:bz} {x:Ix} {d:bU} (h:x.2.2.length≤6):(Mz p x d).length≤12:=by
 unfold Mz
 split
 ·simp[m7]
 ·rw[Pj]
  have:(x.2.2.zip (zl p x.2.1)).length≤x.2.2.length:=by simp;omega
  omega
theorem Hg {p:bz}: ∀{l:List (Ix×bU)},(∀x∈l,x.1.2.2.length≤6)→(l.flatMap λq=>Mz p q.1 q.2).length≤12*l.length
 | [],_=>by simp
 |a::r,h=>by
  have h1:=Oq (p:=p) (d:=a.2) (h a List.mem_cons_self)
  have h2:=Hg (p:=p) (l:=r) λx hx=>h x (List.mem_cons_of_mem _ hx)
  simp only[List.flatMap_cons,List.length_append,List.length_cons]
  omega
theorem JJ (p:bz) (e:Ex):lX e→ ∀cs,(qq p e cs).length≤72*e.sz:=by
 refine Ex.ind (p:= λe=>lX e→ ∀cs,(qq p e cs).length≤72*e.sz) (λe ih h cs=> ?_) e
 obtain⟨_,_,_,h4,h5⟩:=jk h
 have hz:=Ex.sz_eq e
 rw[yb,List.length_append]
 have h1:(if e.op=3 then(Iy p e.idx e.name).map (λc=>(c,cs))else []).length≤72:=by
  split
  ·rw[List.length_map]
   have:=Hg (p:=p) (l:=e.idx.zip (zl p e.name)) λx hx=>h5 _ (List.of_mem_zip hx).1
   have h6:(e.idx.zip (zl p e.name)).length≤e.idx.length:=by simp;omega
   unfold Iy
   omega
  ·simp
 have ih': ∀a∈e.args,∀cs,(qq p a cs).length≤72*a.sz:= λa ha=>ih a ha (nU h ha)
 have h2:(yn p e.args cs).length≤72*Ex.szs e.args:=by
  generalize e.args=l at ih'
  clear hz ih h1 h h4 h5
  induction l with
  |nil=>simp[yn]
  |cons a r ihr=>
   have:=ih' a List.mem_cons_self cs
   have:=ihr λb hb=>ih' b (List.mem_cons_of_mem _ hb)
   simp only[yn,List.length_append,Ex.szs]
   omega
 have h3:(V6 p e.args cs).length≤72*Ex.szs e.args:=by
  match hm:e.args with
  | []=>simp[V6]
  | [a]=>simp[V6]
  | [a,b]=>simp[V6]
  |a::b::c::r=>
   have:=ih' a (by rw[hm];simp) cs
   have:=ih' b (by rw[hm];simp) (cs++(cj a).1)
   have:=ih' c (by rw[hm];simp) (cs++(cj (jJ a)).1)
   simp only[V6,List.length_append,Ex.szs]
   omega
 by_cases h11:e.op=11
 ·rw[if_pos h11];omega
 ·rw[if_neg h11];omega
set_option maxRecDepth 1000000
abbrev aLB (x:LB):AV:= .tup [dR x.1.1 x.1.2,Go.Abs.B x.2]
abbrev aCB (x:CB):AV:= .tup [bR x.1,Go.Abs.B x.2]
theorem Pb {l:List Ex} (h:(l.length:Int)=1): ∃a,l= [a]:=by match l,h with| [a],_=>exact⟨a,rfl⟩
theorem UW {l:List Ex} (h:(l.length:Int)=2): ∃a b,l= [a,b]:=by match l,h with| [a,b],_=>exact⟨a,b,rfl⟩
theorem Z4 {l:List Ex} (h:(l.length:Int)=3): ∃a b c,l= [a,b,c]:=by match l,h with| [a,b,c],_=>exact⟨a,b,c,rfl⟩
theorem gm {e a:Ex} (h:a∈e.args):a.sz<e.sz:=by
 rw[Ex.sz_eq e]
 generalize e.args=l at h
 induction l with
 |nil=>cases h
 |cons b r ih=>
  rw[Ex.szs]
  rcases List.mem_cons.1 h with rfl|h
  ·omega
  ·have:=ih h;omega
theorem qz {n:Nat} {x:LB} (h:ZW n x) (hn:n≤20000):br x.1∧short x.1.2∧x.1.2.length≤40000000:=⟨h.1,by have:=h.2;unfold short;omega,by have:=h.2;omega⟩
theorem oQ (e:Ex):nL e→e.sz≤20000→af Tryz.prog mi [j5 e] (aLB (dx e)):=by
 refine Ex.ind (p:= λe=>nL e→e.sz≤20000→af Tryz.prog mi [j5 e] (aLB (dx e))) (λe ih h hs=> ?_) e
 refine af.of Af (by simp) λhb=>aa ?_
 clear hb
 have ha:=(jk h.1).1
 rw[I2]
 conv in sx=>cbv
 by_cases k2:e.op=2
 ·rw[show zG e.op e.val e.ty e.lin (e.args.map dx)=(e.lin,true) by simp[zG,k2]]
  clear ih ha h
  repeat' first|simp(disch:=omega) only[go_sem, *,k2]|((with_reducible apply ab)<;>intro h<;>try omega)|(with_reducible apply ah)|(with_reducible refine aj (λh=> ?_) ?_)
  all_goals rfl
 by_cases k1:e.op=1
 ·rw[show zG e.op e.val e.ty e.lin (e.args.map dx)=((e.val.1, []),decide (e.ty.1=3)) by simp[zG,k1]]
  have pc:=ph e.val.1
  clear ih ha h k2
  repeat' first|simp(disch:=omega) only[go_sem, *,k1]|((with_reducible apply ab)<;>intro h<;>try omega)|(with_reducible apply ah)|(with_reducible refine aj (λh=> ?_) ?_)|(refine el pc rfl rfl ?_)
  all_goals rfl
 by_cases k8:e.op=8
 ·rw[k8]at ha
  obtain⟨a,hargs⟩:=Pb (l:=e.args) ha
  have hm:a∈e.args:=by rw[hargs];exact List.mem_cons_self
  have hN:zG e.op e.val e.ty e.lin (e.args.map dx)=if(dx a).2=true then ZP (dP (dx a).1 (-1))else yz:=by rw[hargs,k8];simp[zG]
  rw[hN]
  have pa:=ih a hm (bO h hm) (by have:=gm hm;omega)
  obtain⟨q1,q2,_⟩:=qz (Ar a (bO h hm)) (by have:=gm hm;omega)
  have hg:(e.args.map Ex.row)[0]? =some a.row:=by rw[hargs];rfl
  have hl:e.args.length=1:=by rw[hargs];rfl
  clear ih ha h k2 k1 hN hm hargs hs
  generalize dx a=r at*
  obtain⟨⟨K,l⟩,b⟩:=r
  cases b
  ·rw[if_neg (by simp)]
   repeat' first|simp(disch:=omega) only[go_sem, *,k8,hl,hg,Ex.row_eq,Int.toNat_zero]|((with_reducible apply ab)<;>intro h<;>try omega)|(with_reducible apply ah)|(with_reducible refine aj (λh=> ?_) ?_)|(refine el pa rfl rfl ?_)
   all_goals rfl
  ·rw[if_pos rfl]
   have ps:=kO (a:=(K,l)) (b:= -1) q1 (by decide) q2
   clear q1 q2
   unfold ZP
   generalize dP (K,l) (-1)=s at*
   obtain⟨⟨K',l'⟩,er⟩:=s
   try simp only at ps
   repeat' first|simp(disch:=omega) only[go_sem, *,k8,hl,hg,Ex.row_eq,Int.toNat_zero]|((with_reducible apply ab)<;>intro h<;>try omega)|(with_reducible apply ah)|(with_reducible refine aj (λh=> ?_) ?_)|(refine el pa rfl rfl ?_)|(refine el ps rfl rfl ?_)
   all_goals rfl
 by_cases k45:e.op=4∨e.op=5
 ·have ha2:(e.args.length:Int)=2:=by rw[ha];unfold nG;rcases k45 with k|k<;>rw[k]<;>rfl
  obtain⟨a,b,hargs⟩:=UW ha2
  have hm:a∈e.args:=by rw[hargs];exact List.mem_cons_self
  have hm':b∈e.args:=by rw[hargs];exact List.mem_cons_of_mem _ List.mem_cons_self
  have hN:zG e.op e.val e.ty e.lin (e.args.map dx)=if(dx a).2=true∧(dx b).2=true then ZP (if e.op=5 then nv (dx b).1 (dx a).1 else nY (dx a).1 (dx b).1)else yz:=by
   rw[hargs]
   unfold zG
   rw[if_neg k2,if_neg k1,if_neg k8,if_pos k45]
   rfl
  rw[hN]
  have pa:=ih a hm (bO h hm) (by have:=gm hm;omega)
  have pb:=ih b hm' (bO h hm') (by have:=gm hm';omega)
  obtain⟨q1,q2,q3⟩:=qz (Ar a (bO h hm)) (by have:=gm hm;omega)
  obtain⟨r1,r2,r3⟩:=qz (Ar b (bO h hm')) (by have:=gm hm';omega)
  have hg:(e.args.map Ex.row)[0]? =some a.row:=by rw[hargs];rfl
  have hg1:(e.args.map Ex.row)[1]? =some b.row:=by rw[hargs];rfl
  have hl:e.args.length=2:=by rw[hargs];rfl
  clear ih ha ha2 h k2 k1 k8 hN hm hm' hargs hs
  generalize dx a=r at*
  obtain⟨⟨K,l⟩,x⟩:=r
  generalize dx b=r at*
  obtain⟨⟨K',l'⟩,y⟩:=r
  by_cases hxy:x=true∧y=true
  ·obtain⟨rfl,rfl⟩:=hxy
   rw[if_pos ⟨rfl,rfl⟩]
   unfold ZP
   rcases k45 with k|k
   ·have ps:=oI q1 r1 q2 r2
    rw[if_neg (by omega)]
    clear q1 q2 r1 r2 q3 r3
    simp only at ps ⊢
    generalize nY (K,l) (K',l')=s at*
    obtain⟨⟨K2,l2⟩,er⟩:=s
    try simp only at ps
    repeat' first|simp(disch:=omega) only[go_sem, *,k,hl,hg,hg1,Ex.row_eq,Int.toNat_zero,Int.toNat_one]|((with_reducible apply ab)<;>intro h<;>try omega)|(with_reducible apply ah)|(with_reducible refine aj (λh=> ?_) ?_)|(refine el pa rfl rfl ?_)|(refine el pb rfl rfl ?_)|(refine el ps rfl rfl ?_)
    all_goals rfl
   ·have ps:=kF q1 r1 (by omega) (by omega)
    rw[if_pos k]
    clear q1 q2 r1 r2 q3 r3
    simp only at ps ⊢
    generalize nv (K',l') (K,l)=s at*
    obtain⟨⟨K2,l2⟩,er⟩:=s
    try simp only at ps
    repeat' first|simp(disch:=omega) only[go_sem, *,k,hl,hg,hg1,Ex.row_eq,Int.toNat_zero,Int.toNat_one]|((with_reducible apply ab)<;>intro h<;>try omega)|(with_reducible apply ah)|(with_reducible refine aj (λh=> ?_) ?_)|(refine el pa rfl rfl ?_)|(refine el pb rfl rfl ?_)|(refine el ps rfl rfl ?_)
    all_goals rfl
  ·rw[if_neg hxy]
   clear q1 q2 r1 r2 q3 r3
   rcases k45 with k|k
   all_goals
    cases x<;>cases y
    all_goals first
     |(exact absurd ⟨rfl,rfl⟩ hxy;done)
     |skip
    all_goals
     clear hxy
     repeat' first|simp(disch:=omega) only[go_sem, *,k,hl,hg,hg1,Ex.row_eq,Int.toNat_zero,Int.toNat_one]|((with_reducible apply ab)<;>intro h<;>try omega)|(with_reducible apply ah)|(with_reducible refine aj (λh=> ?_) ?_)|(refine el pa rfl rfl ?_)|(refine el pb rfl rfl ?_)
    all_goals rfl
 ·have hN:zG e.op e.val e.ty e.lin (e.args.map dx)=yz:=by
   unfold zG
   rw[if_neg k2,if_neg k1,if_neg k8,if_neg k45]
  rw[hN]
  have k4: ¬e.op=4:= λh=>k45 (.inl h)
  have k5: ¬e.op=5:= λh=>k45 (.inr h)
  clear ih ha h hN k45
  repeat' first|simp(disch:=omega) only[go_sem, *,k2,k1,k8,k4,k5]|((with_reducible apply ab)<;>intro h<;>try omega)|(with_reducible apply ah)|(with_reducible refine aj (λh=> ?_) ?_)
  all_goals rfl
theorem wq {e a b:Ex} (h:nL e) (hs:e.sz≤20000) (hargs:e.args= [a,b]):af Tryz.prog oT [j5 e] (if(dx a).2=true∧(dx b).2=true then .tup [iG ((z6 e.op (dx a).1 (dx b).1).1,decide (e.op=15)),Go.Abs.B (decide ((z6 e.op (dx a).1 (dx b).1).2=0))]else .tup [iG ((0, []),false),Go.Abs.B false]):=by
 refine af.of xH (by simp) λhb=>aa ?_
 clear hb
 conv in oo=>cbv
 have hm:a∈e.args:=by rw[hargs];exact List.mem_cons_self
 have hm':b∈e.args:=by rw[hargs];exact List.mem_cons_of_mem _ List.mem_cons_self
 have pa:=oQ a (bO h hm) (by have:=gm hm;omega)
 have pb:=oQ b (bO h hm') (by have:=gm hm';omega)
 obtain⟨q1,q2,q3⟩:=qz (Ar a (bO h hm)) (by have:=gm hm;omega)
 obtain⟨r1,r2,r3⟩:=qz (Ar b (bO h hm')) (by have:=gm hm';omega)
 have hg:(e.args.map Ex.row)[0]? =some a.row:=by rw[hargs];rfl
 have hg1:(e.args.map Ex.row)[1]? =some b.row:=by rw[hargs];rfl
 have hl:e.args.length=2:=by rw[hargs];rfl
 clear h hm hm' hargs hs
 generalize dx a=r at*
 obtain⟨⟨K,l⟩,x⟩:=r
 generalize dx b=r at*
 obtain⟨⟨K',l'⟩,y⟩:=r
 by_cases hxy:x=true∧y=true
 ·obtain⟨rfl,rfl⟩:=hxy
  rw[if_pos ⟨rfl,rfl⟩]
  have p1:=kF r1 q1 (by omega) (by omega)
  have p2:=kz q1 r1 (by omega) (by omega)
  clear q1 q2 r1 r2 q3 r3
  simp only at p1 p2 ⊢
  by_cases k:e.op=13
  ·rw[show z6 e.op (K,l) (K',l')=fR (K,l) (K',l') by rw[z6,if_pos k]]
   generalize nv (K,l) (K',l')=s at*
   obtain⟨⟨K1,l1⟩,e1⟩:=s
   generalize fR (K,l) (K',l')=s at*
   obtain⟨⟨K2,l2⟩,er⟩:=s
   try simp only at p1 p2
   repeat' first|simp(disch:=omega) only[go_sem, *,k,hl,hg,hg1,Ex.row_eq,Int.toNat_zero,Int.toNat_one]|((with_reducible apply ab)<;>intro h<;>try omega)|(with_reducible apply ah)|(with_reducible refine aj (λh=> ?_) ?_)|(refine el pa rfl rfl ?_)|(refine el pb rfl rfl ?_)|(refine el p1 rfl rfl ?_)|(refine el p2 rfl rfl ?_)
   all_goals rfl
  ·rw[show z6 e.op (K,l) (K',l')=nv (K,l) (K',l') by rw[z6,if_neg k]]
   generalize nv (K,l) (K',l')=s at*
   obtain⟨⟨K1,l1⟩,e1⟩:=s
   try simp only at p1
   clear p2
   repeat' first|simp(disch:=omega) only[go_sem, *,k,hl,hg,hg1,Ex.row_eq,Int.toNat_zero,Int.toNat_one]|((with_reducible apply ab)<;>intro h<;>try omega)|(with_reducible apply ah)|(with_reducible refine aj (λh=> ?_) ?_)|(refine el pa rfl rfl ?_)|(refine el pb rfl rfl ?_)|(refine el p1 rfl rfl ?_)
   all_goals rfl
 ·rw[if_neg hxy]
  clear q1 q2 r1 r2 q3 r3
  cases x<;>cases y
  all_goals first
   |(exact absurd ⟨rfl,rfl⟩ hxy;done)
   |skip
  all_goals
   clear hxy
   repeat' first|simp(disch:=omega) only[go_sem, *,hl,hg,hg1,Ex.row_eq,Int.toNat_zero,Int.toNat_one]|((with_reducible apply ab)<;>intro h<;>try omega)|(with_reducible apply ah)|(with_reducible refine aj (λh=> ?_) ?_)|(refine el pa rfl rfl ?_)|(refine el pb rfl rfl ?_)
  all_goals rfl
theorem Vo {e a b:Ex} (hk:13≤e.op∧e.op≤15) (hargs:e.args= [a,b]):cj e=if(dx a).2=true∧(dx b).2=true then okF (z6 e.op (dx a).1 (dx b).1) (decide (e.op=15))else([],false):=by
 rw[vN,hargs,LS,if_pos hk]
 rfl
theorem VX {e a b:Ex} (hk:e.op=16) (hargs:e.args= [a,b]):cj e=((cj a).1++(cj b).1,(cj a).2&&(cj b).2):=by
 rw[vN,hargs,LS,if_neg (by omega),if_pos hk]
 rfl
theorem Kl {e a:Ex} (hk:e.op=18) (hargs:e.args= [a]):cj e=Gp (cj a):=by
 rw[vN,hargs,LS,if_neg (by omega),if_neg (by omega),if_pos hk]
 rfl
theorem Wx {e:Ex} (h1: ¬(13≤e.op∧e.op≤15)) (h2:e.op≠16) (h3:e.op≠18):cj e=([],false):=by
 rw[vN,LS,if_neg h1,if_neg h2,if_neg h3]
set_option maxRecDepth 20000
theorem Le {c:aR} (h0:(fT c).2=0) (h1:(fT c).1.length=1):bn c.1.2∧ ¬sL c.1.2∧c.2=false∧fT c=([oS c.1],0):=by
 by_cases a:bn c.1.2
 ·by_cases b:sL c.1.2
  ·unfold fT at h0
   rw[if_neg (not_not_intro a),if_pos b]at h0
   cases h0
  ·by_cases d:c.2=false
   ·exact⟨a,b,d,by unfold fT;rw[if_neg (not_not_intro a),if_neg b,if_pos d]⟩
   ·unfold fT at h0 h1
    rw[if_neg (not_not_intro a),if_neg b,if_neg d]at h0 h1
    by_cases e:c.1.1= -9223372036854775808
    ·rw[if_pos e]at h0;cases h0
    ·rw[if_neg e]at h1;cases h1
 ·unfold fT at h0
  rw[if_pos a]at h0
  cases h0
theorem sV {c:aR} (h64:bk c) (hs:short c.1.2) (h0:(fT c).2=0) (h1:(fT c).1.length=1):aq Tryz.prog ii [iG c] [] 0 (.tup [.c (.tsl ((fT c).1.map cP)),I 0]) [] 0:=by
 obtain⟨hok,hm,hq,hN⟩:=Le h0 h1
 have pv:=bP c
 have po:=jc (f:=c.1) h64 hs
 rw[E4,if_neg hm]at po
 rw[if_pos hok]at pv
 rw[hN]
 clear hN h0 h1 hok hm h64 hs
 obtain⟨⟨K,l⟩,q⟩:=c
 simp only at hq
 subst hq
 refine aq.ofZ (ress:= [.c (.tsl ([oS (K,l)].map cP)),I 0]) lH (by simp) λ_=>aa ?_
 simp only[ie]
 try simp only at po pv
 repeat' first|simp(disch:=omega) only[go_sem, *]|((with_reducible apply ab)<;>intro h<;>try omega)|(with_reducible apply ah)|(with_reducible refine aj (λh=> ?_) ?_)|(refine aY pv rfl rfl ?_)|(refine el po rfl rfl ?_)
 refine⟨[], [], ?_⟩
 simp(disch:=omega) only[go_sem,aP]
 simp[bS,dM,oS,GP,cP]
def SZ (e:Ex):Prop:=
 (aq Tryz.prog gr [j5 e] [] 0 (.tup [.c .nils,Go.Abs.B (cj e).2]) [] 0∧(cj e).1= [])∨
 (aq Tryz.prog gr [j5 e] [] 0 (.tup [.c (.tsl ((cj e).1.map cP)),Go.Abs.B (cj e).2]) [] 0∧(cj e).1≠ [])∨
 aq Tryz.prog gr [j5 e] [] 0 (.tup [.c (.ref 0),Go.Abs.B (cj e).2]) [(0,.arr 46 3 ((cj e).1.map cP))] 1
theorem Fu (e:Ex):nL e→e.sz≤20000→SZ e:=by
 refine Ex.ind (p:= λe=>nL e→e.sz≤20000→SZ e) (λe ih h hs=> ?_) e
 have ha:=(jk h.1).1
 unfold SZ
 by_cases k:13≤e.op∧e.op≤15
 ·have ha2:(e.args.length:Int)=2:=by
   rw[ha]
   have:e.op=13∨e.op=14∨e.op=15:=by omega
   rcases this with k|k|k<;>rw[k]<;>rfl
  obtain⟨a,b,hargs⟩:=UW ha2
  have pc:=wq h hs hargs
  rw[Vo k hargs]
  clear ih ha ha2 h hs hargs
  have hd:e.op=13∨e.op=14∨e.op=15:=by omega
  clear k
  by_cases hxy:(dx a).2=true∧(dx b).2=true
  ·rw[if_pos hxy]at pc ⊢
   clear hxy
   unfold okF
   generalize z6 e.op (dx a).1 (dx b).1=s at*
   obtain⟨⟨K2,l2⟩,er⟩:=s
   by_cases h0:er=0
   ·subst h0
    rw[if_pos rfl]
    try simp only at pc
    refine .inr (.inl ⟨aq.ofZ (ress:= [.c (.tsl ([((K2,l2),decide (e.op=15))].map cP)),Go.Abs.B true]) bh (by simp) λ_=>aa ?_,by simp⟩)
    simp only[bi]
    rcases hd with hd|hd|hd
    all_goals
     simp only[j5,hd]at pc
     repeat' first|simp(disch:=omega) only[go_sem, *,hd]|((with_reducible apply ab)<;>intro h<;>try omega)|(with_reducible apply ah)|(with_reducible refine aj (λh=> ?_) ?_)|(refine el pc rfl rfl ?_)
     refine⟨[], [], ?_⟩
     simp(disch:=omega) only[go_sem,aP]
     simp[bS,dM,cP,hd]
   ·rw[if_neg h0]
    try simp only at pc
    refine .inl ⟨aq.ofZ (ress:= [.c .nils,Go.Abs.B false]) bh (by simp) λ_=>aa ?_,rfl⟩
    simp only[bi]
    rcases hd with hd|hd|hd
    all_goals
     simp only[j5,hd]at pc
     repeat' first|simp(disch:=omega) only[go_sem, *,h0,hd]|((with_reducible apply ab)<;>intro h<;>try omega)|(with_reducible apply ah)|(with_reducible refine aj (λh=> ?_) ?_)|(refine el pc rfl rfl ?_)
     refine⟨[], [], ?_⟩
     simp(disch:=omega) only[go_sem,aP]
     simp[bS,dM,cP]
  ·rw[if_neg hxy]at pc ⊢
   clear hxy
   refine .inl ⟨aq.ofZ (ress:= [.c .nils,Go.Abs.B false]) bh (by simp) λ_=>aa ?_,rfl⟩
   simp only[bi]
   rcases hd with hd|hd|hd
   all_goals
    simp only[j5,hd]at pc
    repeat' first|simp(disch:=omega) only[go_sem, *,hd]|((with_reducible apply ab)<;>intro h<;>try omega)|(with_reducible apply ah)|(with_reducible refine aj (λh=> ?_) ?_)|(refine el pc rfl rfl ?_)
    refine⟨[], [], ?_⟩
    simp(disch:=omega) only[go_sem,aP]
    simp[bS,dM,cP]
 by_cases k16:e.op=16
 ·have ha2:(e.args.length:Int)=2:=by rw[ha,k16];rfl
  obtain⟨a,b,hargs⟩:=UW ha2
  rw[VX k16 hargs]
  have hm:a∈e.args:=by rw[hargs];exact List.mem_cons_self
  have hm':b∈e.args:=by rw[hargs];exact List.mem_cons_of_mem _ List.mem_cons_self
  have hA:=ih a hm (bO h hm) (by have:=gm hm;omega)
  have hB:=ih b hm' (bO h hm') (by have:=gm hm';omega)
  have q1:=(tr a (bO h hm)).1
  have q2:=(tr b (bO h hm')).1
  have s1:=gm hm
  have s2:=gm hm'
  have hg:(e.args.map Ex.row)[0]? =some a.row:=by rw[hargs];rfl
  have hg1:(e.args.map Ex.row)[1]? =some b.row:=by rw[hargs];rfl
  have hl:e.args.length=2:=by rw[hargs];rfl
  clear ih ha ha2 h k hm hm' hargs
  have l1:(cj a).1.length≤20000:=by omega
  have l2:(cj b).1.length≤20000:=by omega
  clear q1 q2 s1 s2 hs
  unfold SZ at hA hB
  generalize cj a=r at*
  obtain⟨x,y⟩:=r
  generalize cj b=r at*
  obtain⟨x',y'⟩:=r
  have ok':bC 3 (x'.map cP):=aQ λ_=>rfl
  have ok:bC 3 (x.map cP):=aQ λ_=>rfl
  simp only at l1 l2 hA hB ⊢
  rcases hA with⟨pa,ea⟩|⟨pa,ea⟩|pa<;>rcases hB with⟨pb,eb⟩|⟨pb,eb⟩|pb
  ·subst ea
   subst eb
   cases y
   all_goals
    refine .inr (.inr (aq.ofZ (ress:= [.c (.ref 0),_]) bh (by simp) λ_=>aa ?_))
    simp only[bi]
    repeat' first|simp(disch:=omega) only[go_sem, *,k16,hl,hg,hg1,Ex.row_eq,Int.toNat_zero,Int.toNat_one]|((with_reducible apply ab)<;>intro h<;>try omega)|(with_reducible apply ah)|(with_reducible refine aj (λh=> ?_) ?_)|(refine an (pa.lift0 rfl rfl) ?_)|(refine an (pb.lift0 rfl rfl) ?_)|(refine z7 ok' (by simp;try omega) (by simp;try omega) ?_)
    refine⟨[], [(0,1)], ?_⟩
    simp(disch:=omega) only[go_sem,aP]
    simp[bS,dM]
  ·subst ea
   cases y
   all_goals
    refine .inr (.inr (aq.ofZ (ress:= [.c (.ref 0),_]) bh (by simp) λ_=>aa ?_))
    simp only[bi]
    repeat' first|simp(disch:=omega) only[go_sem, *,k16,hl,hg,hg1,Ex.row_eq,Int.toNat_zero,Int.toNat_one]|((with_reducible apply ab)<;>intro h<;>try omega)|(with_reducible apply ah)|(with_reducible refine aj (λh=> ?_) ?_)|(refine an (pa.lift0 rfl rfl) ?_)|(refine an (pb.lift0 rfl rfl) ?_)|(refine z7 ok' (by simp;try omega) (by simp;try omega) ?_)
    refine⟨[], [(0,1)], ?_⟩
    simp(disch:=omega) only[go_sem,aP]
    simp[bS,dM]
  ·subst ea
   cases y
   all_goals
    refine .inr (.inr (aq.ofZ (ress:= [.c (.ref 0),_]) bh (by simp) λ_=>aa ?_))
    simp only[bi]
    repeat' first|simp(disch:=omega) only[go_sem, *,k16,hl,hg,hg1,Ex.row_eq,Int.toNat_zero,Int.toNat_one]|((with_reducible apply ab)<;>intro h<;>try omega)|(with_reducible apply ah)|(with_reducible refine aj (λh=> ?_) ?_)|(refine an (pa.lift0 rfl rfl) ?_)|(refine an (pb.lift1 rfl rfl rfl) ?_)|(refine z7 ok' (by simp;try omega) (by simp;try omega) ?_)
    refine⟨[], [(0,2)], ?_⟩
    simp(disch:=omega) only[go_sem,aP]
    simp[bS,dM]
  ·subst eb
   rw[show x++([]:List aR)=x from List.append_nil x]
   cases y
   all_goals
    refine .inr (.inl ⟨aq.ofZ (ress:= [.c (.tsl (x.map cP)),_]) bh (by simp) λ_=>aa ?_,ea⟩)
    simp only[bi]
    repeat' first|simp(disch:=omega) only[go_sem, *,k16,hl,hg,hg1,Ex.row_eq,Int.toNat_zero,Int.toNat_one]|((with_reducible apply ab)<;>intro h<;>try omega)|(with_reducible apply ah)|(with_reducible refine aj (λh=> ?_) ?_)|(refine an (pa.lift0 rfl rfl) ?_)|(refine an (pb.lift0 rfl rfl) ?_)|(refine gj ok ?_)
    refine⟨[], [], ?_⟩
    simp(disch:=omega) only[go_sem,aP]
    simp[bS,dM]
  ·cases y
   all_goals
    refine .inr (.inr (aq.ofZ (ress:= [.c (.ref 0),_]) bh (by simp) λ_=>aa ?_))
    simp only[bi]
    repeat' first|simp(disch:=omega) only[go_sem, *,k16,hl,hg,hg1,Ex.row_eq,Int.toNat_zero,Int.toNat_one]|((with_reducible apply ab)<;>intro h<;>try omega)|(with_reducible apply ah)|(with_reducible refine aj (λh=> ?_) ?_)|(refine an (pa.lift0 rfl rfl) ?_)|(refine an (pb.lift0 rfl rfl) ?_)|(refine iD ok ok' (by simpa using eb) (by simp;try omega) (by simp;try omega) ?_)
    refine⟨[], [(0,1)], ?_⟩
    simp(disch:=omega) only[go_sem,aP]
    simp[bS,dM]
  ·by_cases eb:x'= []
   ·subst eb
    rw[show x++([]:List aR)=x from List.append_nil x]
    cases y
    all_goals
     refine .inr (.inl ⟨aq.ofZ (ress:= [.c (.tsl (x.map cP)),_]) bh (by simp) λ_=>aa ?_,ea⟩)
     simp only[bi]
     repeat' first|simp(disch:=omega) only[go_sem, *,k16,hl,hg,hg1,Ex.row_eq,Int.toNat_zero,Int.toNat_one]|((with_reducible apply ab)<;>intro h<;>try omega)|(with_reducible apply ah)|(with_reducible refine aj (λh=> ?_) ?_)|(refine an (pa.lift0 rfl rfl) ?_)|(refine an (pb.lift1 rfl rfl rfl) ?_)|(refine gj ok ?_)
     refine⟨[], [], ?_⟩
     simp(disch:=omega) only[go_sem,aP]
     simp[bS,dM]
   ·cases y
    all_goals
     refine .inr (.inr (aq.ofZ (ress:= [.c (.ref 0),_]) bh (by simp) λ_=>aa ?_))
     simp only[bi]
     repeat' first|simp(disch:=omega) only[go_sem, *,k16,hl,hg,hg1,Ex.row_eq,Int.toNat_zero,Int.toNat_one]|((with_reducible apply ab)<;>intro h<;>try omega)|(with_reducible apply ah)|(with_reducible refine aj (λh=> ?_) ?_)|(refine an (pa.lift0 rfl rfl) ?_)|(refine an (pb.lift1 rfl rfl rfl) ?_)|(refine iD ok ok' (by simpa using eb) (by simp;try omega) (by simp;try omega) ?_)
     refine⟨[], [(0,2)], ?_⟩
     simp(disch:=omega) only[go_sem,aP]
     simp[bS,dM]
  ·subst eb
   cases y
   all_goals
    refine .inr (.inr (aq.ofZ (ress:= [.c (.ref 0),_]) bh (by simp) λ_=>aa ?_))
    simp only[bi]
    repeat' first|simp(disch:=omega) only[go_sem, *,k16,hl,hg,hg1,Ex.row_eq,Int.toNat_zero,Int.toNat_one]|((with_reducible apply ab)<;>intro h<;>try omega)|(with_reducible apply ah)|(with_reducible refine aj (λh=> ?_) ?_)|(refine an (pa.lift1 rfl rfl rfl) ?_)|(refine an (pb.lift0 rfl rfl) ?_)|(refine bf rfl (by intro h;cases h) ok' (by simp;try omega) (by simp;try omega) ?_)
    refine⟨[], [(0,2)], ?_⟩
    simp(disch:=omega) only[go_sem,aP]
    simp[bS,dM]
  ·cases y
   all_goals
    refine .inr (.inr (aq.ofZ (ress:= [.c (.ref 0),_]) bh (by simp) λ_=>aa ?_))
    simp only[bi]
    repeat' first|simp(disch:=omega) only[go_sem, *,k16,hl,hg,hg1,Ex.row_eq,Int.toNat_zero,Int.toNat_one]|((with_reducible apply ab)<;>intro h<;>try omega)|(with_reducible apply ah)|(with_reducible refine aj (λh=> ?_) ?_)|(refine an (pa.lift1 rfl rfl rfl) ?_)|(refine an (pb.lift0 rfl rfl) ?_)|(refine bf rfl (by intro h;cases h) ok' (by simp;try omega) (by simp;try omega) ?_)
    refine⟨[], [(0,2)], ?_⟩
    simp(disch:=omega) only[go_sem,aP]
    simp[bS,dM]
  ·cases y
   all_goals
    refine .inr (.inr (aq.ofZ (ress:= [.c (.ref 0),_]) bh (by simp) λ_=>aa ?_))
    simp only[bi]
    repeat' first|simp(disch:=omega) only[go_sem, *,k16,hl,hg,hg1,Ex.row_eq,Int.toNat_zero,Int.toNat_one]|((with_reducible apply ab)<;>intro h<;>try omega)|(with_reducible apply ah)|(with_reducible refine aj (λh=> ?_) ?_)|(refine an (pa.lift1 rfl rfl rfl) ?_)|(refine an (pb.lift1 rfl rfl rfl) ?_)|(refine bf rfl (by intro h;cases h) ok' (by simp;try omega) (by simp;try omega) ?_)
    refine⟨[], [(0,3)], ?_⟩
    simp(disch:=omega) only[go_sem,aP]
    simp[bS,dM]
 by_cases k18:e.op=18
 ·have ha2:(e.args.length:Int)=1:=by rw[ha,k18];rfl
  obtain⟨a,hargs⟩:=Pb ha2
  rw[Kl k18 hargs]
  have hm:a∈e.args:=by rw[hargs];exact List.mem_cons_self
  have hA:=ih a hm (bO h hm) (by have:=gm hm;omega)
  have q1:=tr a (bO h hm)
  have s1:=gm hm
  have hg:(e.args.map Ex.row)[0]? =some a.row:=by rw[hargs];rfl
  have hl:e.args.length=1:=by rw[hargs];rfl
  clear ih ha ha2 h k k16 hm hargs
  unfold SZ at hA
  have hq:WG 20000 (cj a).1:=SI q1 (by omega)
  clear q1 s1 hs
  generalize cj a=r at*
  obtain⟨x,y⟩:=r
  simp only at hA hq ⊢
  by_cases hxy:x.length=1∧y=true
  ·obtain⟨hx,rfl⟩:=hxy
   obtain⟨c,rfl⟩: ∃c,x= [c]:=by match x,hx with| [c],_=>exact⟨c,rfl⟩
   obtain⟨h64,hlen⟩:=hq.2 c List.mem_cons_self
   have hsh:short c.1.2:=by unfold short;omega
   have pn:=jZ h64 hsh
   rw[show Gp ([c],true)=if(fT c).2=0∧(fT c).1.length=1 then((fT c).1,true)else([],false)from rfl]
   try simp only at hA ⊢
   by_cases hn:(fT c).2=0∧(fT c).1.length=1
   ·rw[if_pos hn]
    have pl:=sV h64 hsh hn.1 hn.2
    have hN:=(Le hn.1 hn.2).2.2.2
    rw[hN]at pl ⊢
    clear pn hN hn h64 hlen hq hsh
    refine .inr (.inl ⟨aq.ofZ (ress:= [.c (.tsl ([oS c.1].map cP)),Go.Abs.B true]) bh (by simp) λ_=>aa ?_,by simp⟩)
    simp only[bi]
    rcases hA with⟨pa,ea⟩|⟨pa,ea⟩|pa
    ·cases ea
    ·repeat' first|simp(disch:=omega) only[go_sem, *,k18,hl,hg,Ex.row_eq,Int.toNat_zero,cP]|((with_reducible apply ab)<;>intro h<;>try omega)|(with_reducible apply ah)|(with_reducible refine aj (λh=> ?_) ?_)|(refine an (pa.lift0 rfl rfl) ?_)|(refine an (pl.lift0 rfl rfl) ?_)
     refine⟨[], [], ?_⟩
     simp(disch:=omega) only[go_sem,aP]
     simp[bS,dM,cP]
    ·repeat' first|simp(disch:=omega) only[go_sem, *,k18,hl,hg,Ex.row_eq,Int.toNat_zero,cP]|((with_reducible apply ab)<;>intro h<;>try omega)|(with_reducible apply ah)|(with_reducible refine aj (λh=> ?_) ?_)|(refine an (pa.lift1 rfl rfl rfl) ?_)|(refine an (pl.lift0 rfl rfl) ?_)
     refine⟨[], [], ?_⟩
     simp(disch:=omega) only[go_sem,aP]
     simp[bS,dM,cP]
   ·rw[if_neg hn]
    clear h64 hlen hq hsh
    generalize fT c=X at*
    obtain⟨xs,er⟩:=X
    try simp only at pn hn
    have hn':er≠0∨(er=0∧ ¬((xs.length:Nat):Int)=1):=by
     by_cases h:er=0
     ·exact .inr ⟨h,λh1=>hn ⟨h,by omega⟩⟩
     ·exact .inl h
    clear hn
    refine .inl ⟨aq.ofZ (ress:= [.c .nils,Go.Abs.B false]) bh (by simp) λ_=>aa ?_,rfl⟩
    simp only[bi]
    rcases hA with⟨pa,ea⟩|⟨pa,ea⟩|pa
    ·cases ea
    ·rcases hn' with h1|⟨rfl,h1⟩
     all_goals
      repeat' first|simp(disch:=omega) only[go_sem, *,k18,hl,hg,Ex.row_eq,Int.toNat_zero,cP,h1]|((with_reducible apply ab)<;>intro h<;>try omega)|(with_reducible apply ah)|(with_reducible refine aj (λh=> ?_) ?_)|(refine an (pa.lift0 rfl rfl) ?_)|(refine el pn rfl rfl ?_)
      refine⟨[], [], ?_⟩
      simp(disch:=omega) only[go_sem,aP]
      simp[bS,dM,cP]
    ·rcases hn' with h1|⟨rfl,h1⟩
     all_goals
      repeat' first|simp(disch:=omega) only[go_sem, *,k18,hl,hg,Ex.row_eq,Int.toNat_zero,cP,h1]|((with_reducible apply ab)<;>intro h<;>try omega)|(with_reducible apply ah)|(with_reducible refine aj (λh=> ?_) ?_)|(refine an (pa.lift1 rfl rfl rfl) ?_)|(refine el pn rfl rfl ?_)
      refine⟨[], [], ?_⟩
      simp(disch:=omega) only[go_sem,aP]
      simp[bS,dM,cP]
  ·have hR:Gp (x,y)=(([],false):CB):=Wv hxy
   rw[hR]
   have hy:y=false∨(y=true∧ ¬((x.length:Nat):Int)=1):=by
    cases y
    ·exact .inl rfl
    ·exact .inr ⟨rfl,λh1=>hxy ⟨by omega,rfl⟩⟩
   clear hR hxy hq
   refine .inl ⟨aq.ofZ (ress:= [.c .nils,Go.Abs.B false]) bh (by simp) λ_=>aa ?_,rfl⟩
   simp only[bi]
   rcases hA with⟨pa,ea⟩|⟨pa,ea⟩|pa
   ·subst ea
    rcases hy with rfl|⟨rfl,h1⟩
    all_goals
     repeat' first|simp(disch:=omega) only[go_sem, *,k18,hl,hg,Ex.row_eq,Int.toNat_zero,cP]|((with_reducible apply ab)<;>intro h<;>try omega)|(with_reducible apply ah)|(with_reducible refine aj (λh=> ?_) ?_)|(refine an (pa.lift0 rfl rfl) ?_)
     refine⟨[], [], ?_⟩
     simp(disch:=omega) only[go_sem,aP]
     simp[bS,dM,cP]
   ·rcases hy with rfl|⟨rfl,h1⟩
    ·repeat' first|simp(disch:=omega) only[go_sem, *,k18,hl,hg,Ex.row_eq,Int.toNat_zero,cP]|((with_reducible apply ab)<;>intro h<;>try omega)|(with_reducible apply ah)|(with_reducible refine aj (λh=> ?_) ?_)|(refine an (pa.lift0 rfl rfl) ?_)
     refine⟨[], [], ?_⟩
     simp(disch:=omega) only[go_sem,aP]
     simp[bS,dM,cP]
    ·repeat' first|simp(disch:=omega) only[go_sem, *,k18,hl,hg,Ex.row_eq,Int.toNat_zero,cP,h1]|((with_reducible apply ab)<;>intro h<;>try omega)|(with_reducible apply ah)|(with_reducible refine aj (λh=> ?_) ?_)|(refine an (pa.lift0 rfl rfl) ?_)
     refine⟨[], [], ?_⟩
     simp(disch:=omega) only[go_sem,aP]
     simp[bS,dM,cP]
   ·rcases hy with rfl|⟨rfl,h1⟩
    ·repeat' first|simp(disch:=omega) only[go_sem, *,k18,hl,hg,Ex.row_eq,Int.toNat_zero,cP]|((with_reducible apply ab)<;>intro h<;>try omega)|(with_reducible apply ah)|(with_reducible refine aj (λh=> ?_) ?_)|(refine an (pa.lift1 rfl rfl rfl) ?_)
     refine⟨[], [], ?_⟩
     simp(disch:=omega) only[go_sem,aP]
     simp[bS,dM,cP]
    ·repeat' first|simp(disch:=omega) only[go_sem, *,k18,hl,hg,Ex.row_eq,Int.toNat_zero,cP,h1]|((with_reducible apply ab)<;>intro h<;>try omega)|(with_reducible apply ah)|(with_reducible refine aj (λh=> ?_) ?_)|(refine an (pa.lift1 rfl rfl rfl) ?_)
     refine⟨[], [], ?_⟩
     simp(disch:=omega) only[go_sem,aP]
     simp[bS,dM,cP]
 ·rw[Wx k k16 k18]
  have d1: ¬e.op=13:=by omega
  have d2: ¬e.op=14:=by omega
  have d3: ¬e.op=15:=by omega
  clear ih ha h k
  refine .inl ⟨aq.ofZ (ress:= [.c .nils,Go.Abs.B false]) bh (by simp) λ_=>aa ?_,rfl⟩
  simp only[bi]
  repeat' first|simp(disch:=omega) only[go_sem, *,d1,d2,d3,k16,k18]|((with_reducible apply ab)<;>intro h<;>try omega)|(with_reducible apply ah)|(with_reducible refine aj (λh=> ?_) ?_)
  refine⟨[], [], ?_⟩
  simp(disch:=omega) only[go_sem,aP]
  simp[bS,dM,cP]
set_option maxRecDepth 1000000
theorem uI {e:Ex} (h:nL e) (hs:e.sz≤20000):af Tryz.prog gr [j5 e] (aCB (cj e)):=by
 rcases Fu e h hs with⟨c,h0⟩|⟨c,_⟩|c
 ·exact c.toP (by show _=some (AV.tup [bR (cj e).1,Go.Abs.B (cj e).2]);rw[h0];rfl)
 ·exact c.toP rfl
 ·exact c.toP rfl
theorem tD {q N N' a r r':Nat} {b:aU} {F:List (Nat×aU)} (h:Go.Abs.dO N [q,r] F) (h0:q<a) (ha:N≤a) (ha':a<N') (hb:ux b=true) (hr:r'=r∨N≤r') (hne:a≠r'):Go.Abs.dO N' [q,r'] ((a,b)::F):=by
 refine⟨ha',hb,dU.2 λm hm=> ?_,h.mono (by omega) λn hn h'=>dU.2 λm hm=> ?_⟩
 ·simp only[List.mem_cons,List.not_mem_nil,or_false]at hm
  omega
 ·have h1:=dU.1 h' q (by simp)
  have h2:=dU.1 h' r (by simp)
  simp only[List.mem_cons,List.not_mem_nil,or_false]at hm
  omega
def obP (d k:Nat) (o:Ob):List PC:= [pI d,pI k,pI o.1.1.1,aw o.1.1.2,pB o.1.2,dg cP o.2]
def tF (d:Nat) (l:List Ob):List (List PC):=l.zipIdx.map λx=>obP d x.2 x.1
theorem P7 (d:Nat) (l:List Ob) (o:Ob):tF d (l++ [o])=tF d l++ [[pI d,pI l.length,pI o.1.1.1,aw o.1.1.2,pB o.1.2,dg cP o.2]]:=by simp[tF,List.zipIdx_append,obP]
theorem RA (d:Nat) (l:List Ob):(tF d l).length=l.length:=by simp[tF]
abbrev bWl (p:bz) (d:Nat) (c:AC) (n:Int):aU:= .var [.pure (gn p.sizes),.pure (dg cP p.wher),.pure (dg ku p.params),.pure (dg eh p.defs),.pure (gn p.outs),.pure (pI d),c,.pure (pI n)]
abbrev XI (q r:Nat) (p:bz) (d:Nat) (l:List Ob) (F:List (Nat×aU)):List (Nat×aU):=(r,.arr 82 6 (tF d l))::(q,bWl p d (.ref r) l.length)::F
def AQ (cs:List aR) (l:List aR):List Ob:=l.map λc=>(c,cs)
theorem Sm (f x:bU): ∃T:bU,m7 f x= [(f,false),(T,false)]∧((fR f x).2=0→T=(fR f x).1)∧((fR f x).2≠0→T=(-1, [])):=⟨if(fR f x).2=0 then(fR f x).1 else(-1, []),rfl,λh=>if_pos h,λh=>if_neg h⟩
theorem sk {p:bz} {d:Nat} {f x:bU} {cs:List aR} {l:List Ob} {q r nx:Nat} {F:List (Nat×aU)} (hf:br f) (hx:br x) (lf:f.2.length≤40000000) (lx:x.2.length≤40000000) (hl:l.length≤100000000) (hr:q<r) (hrn:r<nx) (hF:Go.Abs.dO nx [q,r] F):
  aq Tryz.prog lC [.c (.ptr q 0),dR f.1 f.2,dR x.1 x.2,bR cs] (XI q r p d l F) nx (eo []) (XI q nx p d (l++AQ cs (m7 f x)) F) (nx+1):=by
 refine aq.ofZ tg (by simp) λ_=>aa ?_
 have pb:=kz hf hx lf lx
 have pc:=ph (-1)
 have hdl:=hF.del (n:=r) (.inl (by simp))
 have hqk: ∀k,q<nx+k:= λk=>by omega
 obtain⟨T,hT,h1,h2⟩:=Sm f x
 rw[hT]
 clear hT lf lx hf hx
 obtain⟨K,L⟩:=f
 conv in kY=>cbv
 have key:T=(-1, [])∨True:= .inr trivial
 obtain⟨os,hos⟩: ∃os:List aR,os= [((K,L),false),(T,false)]:=⟨_,rfl⟩
 have hol:os.length=2:=by rw[hos];rfl
 have hoq: ∀c∈os,c.2=false:=by rw[hos];simp
 have hor:os.map (λc=>cR c.1)= [[pI K,aw L], [pI T.1,aw T.2]]:=by rw[hos];rfl
 rw[←hos]
 generalize fR (K,L) x=s at*
 obtain⟨⟨K3,L3⟩,er⟩:=s
 try simp only at pb h1 h2
 have hd:(er=0∧T=(K3,L3))∨(er≠0∧T=(-1, [])):=by
  by_cases h:er=0
  ·exact .inl ⟨h,h1 h⟩
  ·exact .inr ⟨h,h2 h⟩
 clear h1 h2 key
 rcases hd with⟨h0,rfl⟩|⟨h0,rfl⟩
 all_goals
  repeat' first|simp(disch:=omega) only[go_sem, *,aG,aH,h0]|((with_reducible apply ab)<;>intro h<;>try omega)|(refine el pb rfl rfl ?_)|(refine el pc rfl rfl ?_)
  refine ap (λk:Nat=>⟨[(0,.c (.ptr q 0)),(3,bR cs),(23,.c (.tsl (os.map λc=>cR c.1))),(24,I 2),(25,I k)],XI q nx p d (l++AQ cs (os.take k)) F,nx+1,nx⟩) (λk=>k≤2) (λk=>2-k) ⟨0, [(nx,r)],by omega, ?_⟩ ?_
  ·rw[hor]
   simp only[List.take_zero,AQ,List.map_nil,List.append_nil]
   refine av (by simp(disch:=omega) [aG,hqk]) ?_ rfl (by simp;try omega) (by simp[e7];try omega)
   repeat' first|exact hF.wkA|refine au ?_ ?_ ?_ ?_ ?_|(simp(disch:=omega) [aG,hqk]<;>omega)|omega
  clear hor hdl pb pc
  intro k hk
  refine aa ?_
  have h0n:q<nx:=by omega
  have hdn:=hF.del (n:=nx) (.inr (Nat.le_refl _))
  by_cases hlt:k<2
  ·have hlt':k<os.length:=by omega
   have g1:=ai (f:= λc:aR=>cR c.1) hlt'
   have hq:=hoq _ (List.getElem_mem hlt')
   have hlo:(l++AQ cs (os.take k)).length≤100000002:=by simp[AQ];omega
   have ho:l++AQ cs (os.take (k+1))=l++AQ cs (os.take k)++ [(os[k],cs)]:=by
    rw[List.take_succ_eq_append_getElem hlt',AQ,List.map_append,List.append_assoc]
    rfl
   have hr1:=P7 d (l++AQ cs (os.take k)) (os[k],cs)
   rw[←ho]at hr1
   have hn1:((l++AQ cs (os.take (k+1))).length:Int)=(l++AQ cs (os.take k)).length+1:=by rw[ho];simp only[List.length_append,List.length_cons,List.length_nil];omega
   have hro:=RA d (l++AQ cs (os.take k))
   have HR:=Lib.hid hr1
   have HN:=Lib.hid hn1
   clear hr1 hn1 ho hos
   obtain⟨l2,hl2⟩: ∃l2,l2=l++AQ cs (os.take (k+1)):=⟨_,rfl⟩
   rw[←hl2]at HR HN
   have HL:=Lib.hid hl2
   clear hl2
   generalize l++AQ cs (os.take k)=l1 at*
   generalize os[k]=c at*
   obtain⟨⟨Kc,Lc⟩,q⟩:=c
   simp only at hq
   subst hq
   have g2:(os.map λc:aR=>cR c.1)[k]? =some [pI Kc,aw Lc]:=g1
   clear g1 hoq hol h0
   simp only at HR
   repeat' first|simp(disch:=omega) only[go_sem, *,g2,aG,aH,wrap_i64]|((with_reducible apply ab)<;>intro h<;>try omega)|(refine bf (by simp(disch:=omega) only[al,am,aG,eq_self,↓reduceIte,Option.map_some]<;>rfl) (by intro h;cases h) (aO rfl) (by simp only[List.length_append,List.length_cons,List.length_nil];omega) (by simp only[List.length_append,List.length_cons,List.length_nil];omega) ?_)
   rw[←HR.out,←HN.out]
   try rw[hdn]
   refine⟨k+1, [(nx,nx+2)],by omega,by omega, ?_⟩
   rw[←HL.out]
   refine av (by simp(disch:=omega) [aG,hqk,h0n]) ?_ rfl (by simp;try omega) (by simp[e7];try omega)
   repeat' first|exact hF.wkA|refine au ?_ ?_ ?_ ?_ ?_|(simp(disch:=omega) [aG,hqk,h0n]<;>omega)|omega
  ·obtain rfl:k=2:=by omega
   rw[List.take_of_length_le (by omega)]
   repeat' first|simp(disch:=omega) only[go_sem, *,aG,aH]|((with_reducible apply ab)<;>intro h<;>try omega)
   refine⟨[], [], ?_⟩
   simp(disch:=omega) only[go_sem,aP,aG,aH]
   refine av (by simp(disch:=omega) [aG,hqk]) ?_ rfl (by simp;try omega) (by simp[e7];try omega)
   repeat' first|exact hF.wkA|refine au ?_ ?_ ?_ ?_ ?_|(simp(disch:=omega) [aG,hqk]<;>omega)|omega
end
end Go.Proofs.YthbcbaembicdbaaGreatDoor
