import Derived.Test.YthbcbaembicdbaaGreatDoorVEz
import Derived.Test.YthbcbaembicdbaaGreatDoorVCk
import Derived.Test.YthbcbaembicdbaaGreatDoorV18p
import Derived.Test.YthbcbaembicdbaaGreatDoorInY
set_option maxHeartbeats 4000000
set_option linter.unusedVariables false
set_option linter.unusedSimpArgs false
namespace Go.Proofs.YthbcbaembicdbaaGreatDoor
open Go.Abs Go.RowKit
theorem Mu {f:ByteArray→Int}: ∀{l:List aD},uy f l=xq f l
 | []=>rfl
 |m::l=>by rw[uy,xq,Mu]
theorem SW {k:Int} {l env:List aD} (h:(x9 k l env).2=0):(x9 k l env).1=k+xq (f6 env) l:=by
 unfold x9 at h ⊢
 split at h
 ·cases h
 ·rename_i h1
  rw[if_neg h1]
  split at h
  ·cases h
  ·rename_i h2
   rw[if_neg h2]
   split at h
   ·rename_i h3
    rw[if_pos h3,Mu]
   ·cases h
theorem Ua {k:Int} {l env:List aD}:(x9 k l env).2≠12:=by
 unfold x9
 (repeat' split)<;>simp
theorem xI {c:aR} {env:List aD} (h:(cY c env).2=0):(cY c env).1=true↔holds (lR (f6 env)) c:=by
 unfold cY at h ⊢
 split at h
 ·rename_i h0;exact absurd h h0
 ·rename_i h0
  rw[if_neg h0]
  have h1:=SW (Classical.not_not.1 h0)
  rw[eU,h1]
  generalize c.1.1+xq (f6 env) c.1.2=V
  simp only[Bool.or_eq_true,Bool.and_eq_true,decide_eq_true_eq,Bool.not_eq_true']
  cases c.2
  ·simp;omega
  ·simp;omega
theorem AJ {c:aR} {env:List aD}:(cY c env).2≠12:=by
 unfold cY
 split
 ·exact Ua
 ·simp
theorem Ms {env:List aD} {c:aR}: ∀{l:List aR},jy env c l=12→(∀f∈l,cY f env=(true,0))∧cY c env=(false,0)
 |[],h=>by
  rw[jy]at h
  split at h
  ·rename_i h1
   exact⟨λf hf=>(by cases hf),Prod.ext h1.2 h1.1⟩
  ·exact absurd h AJ
 |f::l,h=>by
  rw[jy]at h
  split at h
  ·exact absurd h AJ
  ·rename_i h1
   obtain⟨g1,g2⟩:=Ms h
   refine⟨λd hd=> ?_,g2⟩
   rcases List.mem_cons.1 hd with rfl|hd
   ·refine Prod.ext ?_ (Classical.byContradiction λh2=>h1 (.inl h2))
    cases hb:(cY d env).1 with
    |false=>exact absurd (.inr hb) h1
    |true=>rfl
   ·exact g1 d hd
def vI (x:ByteArray→Int) (a:bU):Int:=a.1+xq x a.2
theorem OM {x:ByteArray→Int} {a b:bU} (h:(nY a b).2=0):vI x (nY a b).1=vI x a+vI x b:=by
 have e:(nY a b).1=tb a b:=by
  unfold nY at h ⊢
  split at h
  ·cases h
  ·rename_i h1
   rw[if_neg h1]
   unfold ia at h ⊢
   split at h
   ·rename_i h2;rw[if_pos h2]
   ·cases h
 have:=P4 (x:=lR x) a b
 rw[qZ,qZ,qZ,←Rat.intCast_add]at this
 rw[e]
 exact Rat.intCast_inj.1 this
theorem Rp {x:ByteArray→Int} {a:bU} (h:(dP a (-1)).2=0):vI x (dP a (-1)).1= -vI x a:=by
 have e:(dP a (-1)).1=de a (-1):=by
  unfold dP at h ⊢
  split at h
  ·cases h
  ·rename_i h1
   rw[if_neg h1]
   unfold xW at h ⊢
   split at h
   ·rename_i h2;rw[if_pos h2]
   ·cases h
 have:=Hr (x:=lR x) a (-1)
 rw[qZ,qZ,←Rat.intCast_mul]at this
 have:=Rat.intCast_inj.1 this
 rw[e]
 unfold vI
 omega
theorem Xz {x:ByteArray→Int} {f s:bU} (h:(fR f s).2=0):vI x (fR f s).1=vI x s-vI x f-1:=by
 unfold fR at h ⊢
 split at h
 ·rename_i h1;exact absurd h h1
 ·rename_i h1
  rw[if_neg h1,OM h]
  have h2:=Classical.not_not.1 h1
  unfold nv at h2 ⊢
  split at h2
  ·rename_i h3;exact absurd h2 h3
  ·rename_i h3
   rw[if_neg h3,OM h2,Rp (Classical.not_not.1 h3)]
   show _+(-1+0)=_
   omega
theorem AS {x y:ByteArray→Int}: ∀{l:List aD},(∀m∈l,x m.1=y m.1)→xq x l=xq y l
 | [],_=>rfl
 |m::l,h=>by rw[xq,xq,h m List.mem_cons_self,AS λn hn=>h n (List.mem_cons_of_mem _ hn)]
theorem D5 {sizes:List ByteArray}: ∀{l:List dW} {taken:List ByteArray},cK sizes taken l=0→(∀a∈l,a.1∉taken)∧(l.map (·.1)).Nodup
 | [],_,_=>⟨λa ha=>(by cases ha),by simp⟩
 |x::r,taken,h=>by
  unfold cK at h
  split at h
  ·rename_i hn;exact absurd h hn
  ·rename_i hn
   split at h
   ·rename_i hf;exact absurd h hf
   ·obtain⟨g1,g2⟩:=D5 h
    have hx:x.1∉taken:= λhm=>hn (by
     unfold be
     simp only[hm,if_true]
     split<;>decide)
    refine⟨λa ha=> ?_, ?_⟩
    ·rcases List.mem_cons.1 ha with rfl|ha
     ·exact hx
     ·exact λhm=>g1 a ha (List.mem_append_left _ hm)
    ·rw[List.map_cons,List.nodup_cons]
     refine⟨λhm=> ?_,g2⟩
     obtain⟨a,ha,e⟩:=List.mem_map.1 hm
     exact g1 a ha (List.mem_append_right _ (List.mem_singleton.2 e))
theorem Zr {p:bz} {k:Nat} (hk:k<p.defs.length) (h:Aj p k=0):cK p.sizes p.sizes (p.defs[k].dims++p.defs[k].red)=0:=by
 rw[Dh hk]at h
 unfold dE at h
 split at h
 ·contradiction
 ·split at h
  ·cases h
  ·split at h
   ·cases h
   ·split at h
    ·contradiction
    ·rename_i h1
     exact Classical.not_not.1 h1
theorem U6 {p:bz} (h:(bB p).2=0): ∀c∈p.wher,∀m∈c.1.2,m.1∈p.sizes:=by
 have h0:oC p:=(gC h).1
 have h1:oB p=0:=Classical.byContradiction λhn=>by rw[Ad h0 rfl hn]at h;exact hn h
 have h2:uo p=0:=Classical.byContradiction λhn=>by rw[Ay h0 h1 rfl hn]at h;exact hn h
 intro c hc m hm
 have h3:=gN h2 _ (List.mem_map.2 ⟨c,hc,rfl⟩)
 unfold cq at h3
 split at h3
 ·cases h3
 ·split at h3
  ·cases h3
  ·rename_i h4
   rcases Classical.not_not.1 h4 m hm with h|h
   ·cases h
   ·exact h
theorem P1 {env:List aD} {s:ByteArray}: ∀{l:List dW} {q:List Int},s∉l.map (·.1)→CF (dF l q++env) s=CF env s
 | [],q,_=>by simp[dF]
 |a::l, [],_=>by simp[dF]
 |a::l,v::q,h=>by
  rw[List.map_cons,List.mem_cons,not_or]at h
  show CF ((a.1,v)::(dF l q++env)) s=_
  rw[CF,if_neg λe=>h.1 e.symm]
  exact P1 h.2
theorem Tj {env:List aD}: ∀{l:List dW} {q:List Int} {i:Nat} (hi:i<l.length) (hq:i<q.length),(l.map (·.1)).Nodup→CF (dF l q++env) l[i].1=some q[i]
 |a::l,v::q,0,_,_,_=>by
  show CF ((a.1,v)::(dF l q++env)) a.1=_
  rw[CF,if_pos rfl]
  rfl
 |a::l,v::q,i+1,hi,hq,h=>by
  rw[List.map_cons,List.nodup_cons]at h
  have hi':i<l.length:=by simpa using hi
  show CF ((a.1,v)::(dF l q++env)) l[i].1=_
  rw[CF,if_neg λe=>h.1 (List.mem_map.2 ⟨l[i],List.getElem_mem hi',e.symm⟩)]
  exact Tj hi' (by simpa using hq) h.2
theorem Ut: ∀{xs:List Int} {z:Int} {i:Nat} (h:i<xs.length) (h':i<(kB xs z).1.length),pK xs→0≤(kB xs z).1[i]∧(kB xs z).1[i]<xs[i]
 |n::r,z,0,_,_,he=>by
  have h3:=he.tl.1
  exact⟨Int.emod_nonneg _ (by omega),Int.emod_lt_of_pos _ (by omega)⟩
 |n::r,z,i+1,h,h',he=>by
  exact Ut (xs:=r) (z:=z) (i:=i) (by simpa using h) (by rw[Dg];simpa using h) he.tl.2
theorem Lz {env:List aD}: ∀{l:List dW} {acc r:List Int},mU env acc l=(r,0)→r=acc++l.map (λa=>(x9 a.2.1 a.2.2 env).1)∧ ∀a∈l,(x9 a.2.1 a.2.2 env).2=0
 |[],acc,r,h=>by
  rw[mU]at h
  cases h
  exact⟨by simp,λa ha=>(by cases ha)⟩
 |a::l,acc,r,h=>by
  rw[mU]at h
  split at h
  ·rename_i h0
   exact absurd (Prod.ext_iff.1 h).2 h0
  ·rename_i h0
   split at h
   ·cases (Prod.ext_iff.1 h).2
   ·obtain⟨g1,g2⟩:=Lz h
    refine⟨by rw[g1];simp,λb hb=> ?_⟩
    rcases List.mem_cons.1 hb with rfl|hb
    ·exact Classical.not_not.1 h0
    ·exact g2 b hb
theorem VF {env:List aD} {l:List dW} {r:List Int} (h:tR env l=(r,0)):r=l.map (λa=>(x9 a.2.1 a.2.2 env).1)∧ ∀a∈l,(x9 a.2.1 a.2.2 env).2=0:=by
 unfold tR at h
 split at h
 ·rename_i h0
  exact absurd (Prod.ext_iff.1 h).2 h0
 ·rename_i h0
  split at h
  ·cases (Prod.ext_iff.1 h).2
  ·obtain rfl:(mU env [] l).1=r:=(Prod.ext_iff.1 h).1
   have:=Lz (env:=env) (l:=l) (acc:= []) (Prod.ext rfl (Classical.not_not.1 h0))
   exact⟨by simpa using this.1,this.2⟩
theorem OP {env:List aD}: ∀{l:List dW} {acc:List Int},(mU env acc l).2≠12
 | [],acc=>by rw[mU];simp
 |a::l,acc=>by
  rw[mU]
  split
  ·exact Ua
  ·split
   ·simp
   ·exact OP
theorem WZ {env:List aD} {l:List dW}:(tR env l).2≠12:=by
 unfold tR
 split
 ·exact OP
 ·split<;>simp
theorem KI {env:List aD}: ∀{l:List aR},MA env l=0→ ∀c∈l,cY c env=(true,0)
 | [],_,c,hc=>by cases hc
 |d::l,h,c,hc=>by
  rw[MA]at h
  split at h
  ·rename_i h1;exact absurd h h1
  ·rename_i h1
   split at h
   ·cases h
   ·rename_i h2
    rcases List.mem_cons.1 hc with rfl|hc
    ·exact Prod.ext (by simpa using h2) (Classical.not_not.1 h1)
    ·exact KI h c hc
theorem Tq {env:List aD}: ∀{l:List aR},MA env l≠12
 | []=>by rw[MA];simp
 |d::l=>by
  rw[MA]
  split
  ·exact AJ
  ·split
   ·simp
   ·exact Tq
theorem G0 {env:List aD} {wh:List aR}: ∀{l:List ByteArray},sZ env wh l=0→(∀s∈l,¬Jl env s)∧MA env wh=0
 | [],h=>⟨λs hs=>(by cases hs),by rw[sZ]at h;exact h⟩
 |s::l,h=>by
  rw[sZ]at h
  split at h
  ·cases h
  ·rename_i h1
   obtain⟨g1,g2⟩:=G0 h
   refine⟨λt ht=> ?_,g2⟩
   rcases List.mem_cons.1 ht with rfl|ht
   ·exact h1
   ·exact g1 t ht
theorem PK {env:List aD} {wh:List aR}: ∀{l:List ByteArray},sZ env wh l≠12
 | []=>by rw[sZ];exact Tq
 |s::l=>by
  rw[sZ]
  split
  ·simp
  ·exact PK
theorem Sn {p:bz} {env:List aD}:xd p env≠12:=by
 unfold xd
 split
 ·simp
 ·exact PK
theorem Uy {p:bz} {env:List aD} {x:yA} (h0:(bB p).2=0) (hd:x.1<p.defs.length) (hb:xd p env=0) {ext:List Int} (hx:tR env (p.defs[x.1].dims++p.defs[x.1].red)=(ext,0)) (k:Int)
  (hf: ∀f∈x.2.2.2,cY f (dF (p.defs[x.1].dims++p.defs[x.1].red) (kB ext k).1++env)=(true,0)): ∀c∈iq p x,holds (lR (f6 (dF (p.defs[x.1].dims++p.defs[x.1].red) (kB ext k).1++env))) c:=by
 have hax:=Zr hd ((gC h0).2.2.2 _ hd)
 obtain⟨n1,n2⟩:=D5 hax
 have hkn:=A9 hax
 obtain⟨e1,e2⟩:=VF hx
 obtain⟨hX,hxl⟩:=Pc hx
 have hwn:=U6 h0
 unfold xd at hb
 split at hb
 ·cases hb
 obtain⟨b1,b2⟩:=G0 hb
 have b3:=KI b2
 unfold iq
 rw[tO hd]
 unfold Gi
 generalize p.defs[x.1].dims++p.defs[x.1].red=l at*
 have hsz: ∀s∈p.sizes,f6 (dF l (kB ext k).1++env) s=f6 env s:= λs hs=>by
  unfold f6
  rw[P1 λhm=>by
   obtain⟨a,ha,e⟩:=List.mem_map.1 hm
   exact n1 a ha (by rw[e];exact hs)]
 intro c hc
 rcases List.mem_append.1 hc with hc|hc
 ·rcases List.mem_append.1 hc with hc|hc
  ·rcases List.mem_append.1 hc with hc|hc
   ·have h1:=b3 c hc
    have h2:=(xI (by rw[h1])).1 (by rw[h1])
    rw[eU]at h2 ⊢
    rw[AS λm hm=>hsz _ (hwn c hc m hm)]
    exact h2
   ·obtain⟨s,hs,rfl⟩:=List.mem_map.1 hc
    rw[eU]
    have hg:=b1 s hs
    unfold Jl at hg
    refine⟨?_,λh=>by cases h⟩
    show 0≤ -1+(1*f6 (dF l (kB ext k).1++env) s+0)
    rw[hsz s hs]
    unfold f6
    cases hbs:CF env s with
    |none=>rw[hbs]at hg;exact absurd trivial hg
    |some v=>
     rw[hbs]at hg
     simp only[Option.getD_some]
     simp only at hg
     omega
  ·obtain⟨a,ha,hc⟩:=List.mem_flatMap.1 hc
   obtain⟨i,hi,rfl⟩:=List.mem_iff_getElem.1 ha
   have hpl:i<(kB ext k).1.length:=by rw[Dg,hxl];exact hi
   have hbi:=Tj (env:=env) hi hpl n2
   have hlt:=Ut (xs:=ext) (z:=k) (i:=i) (by omega) hpl hX.1
   have hv:f6 (dF l (kB ext k).1++env) l[i].1=(kB ext k).1[i]:=by
    unfold f6
    rw[hbi]
    rfl
   have hfv:vI (f6 (dF l (kB ext k).1++env)) (fV l[i].1)=(kB ext k).1[i]:=by
    show 0+(1*f6 _ l[i].1+0)=_
    rw[hv]
    omega
   have hev:ext[i]'(by omega)=vI (f6 (dF l (kB ext k).1++env)) l[i].2:=by
    have h1:=SW (e2 _ (List.getElem_mem hi))
    have h2:ext[i]'(by omega)=(x9 l[i].2.1 l[i].2.2 env).1:=by
     subst e1
     simp
    rw[h2,h1]
    unfold vI
    rw[AS λm hm=>hsz m.1 (((hkn _ (List.getElem_mem hi)).2.2 m hm).elim (λh=>(by cases h)) id)]
   unfold PG at hc
   have h1:holds (lR (f6 (dF l (kB ext k).1++env))) (fV l[i].1,false):=by
    rw[eU]
    refine⟨?_,λh=>by cases h⟩
    show 0≤vI (f6 (dF l (kB ext k).1++env)) (fV l[i].1)
    rw[hfv]
    exact hlt.1
   split at hc
   ·rename_i hbel
    rcases List.mem_cons.1 hc with rfl|hc
    ·exact h1
    ·rw[List.mem_singleton.1 hc,eU]
     refine⟨?_,λh=>by cases h⟩
     show 0≤vI (f6 (dF l (kB ext k).1++env)) (fR (fV l[i].1) l[i].2).1
     rw[Xz hbel,hfv,←hev]
     omega
   ·rw[List.mem_singleton.1 hc]
    exact h1
 ·have h1:=hf c hc
  exact(xI (by rw[h1])).1 (by rw[h1])
theorem Pu {l:List dW} {ext:List Int} {env:List aD} {o:Ob}: ∀{m k:Nat},AH l ext env o m k=12→ ∃j:Nat,jy (dF l (kB ext j).1++env) o.1 o.2=12
 |0,k,h=>by rw[AH]at h;cases h
 |m+1,k,h=>by
  rw[AH]at h
  split at h
  ·exact⟨k,h⟩
  ·exact Pu h
theorem Za {p:bz} {env:List aD} {x:yA} {fuel:Int} {b:List Int} (h0:(bB p).2=0) (hp:GO p x) (hb:xd p env=0) (hi:iZ (iq p x) x.2.2.1 fuel=(b,true,0)):Ml (Ca p x.1) env x.2.2≠12:=by
 obtain⟨hd,_,o64,p64,_,_⟩:=hp
 rw[Lb hd]
 obtain⟨⟨ext,e⟩,hx⟩: ∃y,tR env (p.defs[x.1].dims++p.defs[x.1].red)=y:=⟨_,rfl⟩
 rw[OB hx]
 split
 ·rename_i he
  have:=WZ (env:=env) (l:=p.defs[x.1].dims++p.defs[x.1].red)
  rw[hx]at this
  exact this
 ·rename_i he
  obtain rfl:=Classical.not_not.1 he
  intro h12
  obtain⟨j,hj⟩:=Pu h12
  obtain⟨g1,g2⟩:=Ms hj
  have h1:=L8 p64 o64.1 hi (Uy h0 hd hb hx j g1)
  have h2:=(xI (by rw[g2])).2 h1
  rw[g2]at h2
  cases h2
theorem Pr {p:bz} {env:List aD}: ∀{L:List yA} {i:Nat},(∀x∈L,Ml (Ca p x.1) env x.2.2≠12)→(Ag p env L i).2≠12
 | [],i,_=>by rw[Ag];simp
 |x::L,i,h=>by
  rw[Ag]
  split
  ·exact h x List.mem_cons_self
  ·exact Pr λy hy=>h y (List.mem_cons_of_mem _ hy)
theorem zn {p:bz} {fuel:Int}: ∀{X:List yA} {i:Nat} {acc l:List MB} {z:Int},Az p fuel X i acc=(l,z,0)→(∀x∈X,∃b,iZ (iq p x) x.2.2.1 fuel=(b,true,0))∧ ∃r,l=acc++r∧r.map (·.1)=X∧ ∀y∈r,(iZ (iq p y.1) y.1.2.2.1 fuel).1=y.2
 |[],i,acc,l,z,h=>by
  rw[Az]at h
  cases h
  exact⟨λx hx=>(by cases hx), [],by simp⟩
 |x::X,i,acc,l,z,h=>by
  rw[Az]at h
  split at h
  ·rename_i h1
   exact absurd (Prod.ext_iff.1 (Prod.ext_iff.1 h).2).2 h1
  ·rename_i h1
   split at h
   ·cases (Prod.ext_iff.1 (Prod.ext_iff.1 h).2).2
   ·rename_i h2
    obtain⟨g1,r,g2,g3,g4⟩:=zn h
    refine⟨λy hy=> ?_,(x,(iZ (iq p x) x.2.2.1 fuel).1)::r,by rw[g2];simp,by rw[List.map_cons,g3],λy hy=> ?_⟩
    ·rcases List.mem_cons.1 hy with rfl|hy
     ·exact⟨_,Prod.ext rfl (Prod.ext (by simpa using h2) (Classical.not_not.1 h1))⟩
     ·exact g1 y hy
    ·rcases List.mem_cons.1 hy with rfl|hy
     ·rfl
     ·exact g4 y hy
theorem Xc {p:bz} {env:List aD} {fuel:Int} {l:List MB} {z:Int} (hpr:(bB p).2=0→ ∀x∈lG p,GO p x) (h:Fs p fuel=(l,z,0)):(Qb p env).2≠12:=by
 unfold Fs at h
 split at h
 ·rename_i h0
  exact absurd (Prod.ext_iff.1 (Prod.ext_iff.1 h).2).2 h0
 ·rename_i h0
  have h0':=Classical.not_not.1 h0
  unfold Qb
  rw[if_neg h0]
  split
  ·exact Sn
  ·rename_i h1
   refine Pr λx hx=> ?_
   obtain⟨b,hb⟩:=(zn h).1 x hx
   exact Za h0' (hpr h0' x hx) (Classical.not_not.1 h1) hb
theorem PQ {p:bz} {fuel:Int} {L:List yA} (hpr: ∀x∈L,GO p x): ∀{r:List MB} {i:Nat},r.map (·.1)=L.drop i→(∀y∈r,iZ (iq p y.1) y.1.2.2.1 fuel=(y.2,true,0))→Nm p L i (r.map Up)=(0,0)
 |[],i,h,_=>by
  rw[List.map_nil,Nm,if_neg]
  have:=congrArg List.length h
  simp at this
  omega
 |y::r,i,h,hr=>by
  have hi:i<L.length:=by
   have:=congrArg List.length h
   simp at this
   omega
  rw[List.drop_eq_getElem_cons hi,List.map_cons]at h
  obtain⟨h1,h2⟩:=List.cons.inj h
  obtain⟨_,_,q1,q2,_,_⟩:=hpr _ (List.getElem_mem hi)
  have hc:=LJ (fuel:=fuel) (c:=L[i].2.2.1) (l:=iq p L[i]) (b:=y.2) q2 q1.1 (by rw[←h1];exact hr y List.mem_cons_self)
  rw[List.map_cons,Nm,List.getElem?_eq_getElem hi]
  simp only
  rw[if_neg (not_not_intro (by rw[←h1];rfl)),if_neg (not_not_intro (by exact hc))]
  exact PQ hpr h2 λz hz=>hr z (List.mem_cons_of_mem _ hz)
theorem Tw {p:bz} {fuel:Int} {l:List MB} {z:Int} (hpr:(bB p).2=0→ ∀x∈lG p,GO p x) (h:Fs p fuel=(l,z,0)):Sq p (l.map Up)=(0,0):=by
 unfold Fs at h
 split at h
 ·rename_i h0
  exact absurd (Prod.ext_iff.1 (Prod.ext_iff.1 h).2).2 h0
 ·rename_i h0
  unfold Sq
  rw[if_neg h0]
  obtain⟨g1,r,g2,g3,g4⟩:=zn h
  obtain rfl:l=r:=by simpa using g2
  refine PQ (fuel:=fuel) (hpr (Classical.not_not.1 h0)) g3 λy hy=> ?_
  obtain⟨b,hb⟩:=g1 y.1 (by rw[←g3];exact List.mem_map.2 ⟨y,hy,rfl⟩)
  have:=g4 y hy
  rw[hb]at this
  simp only at this
  rw[hb,this]
set_option maxRecDepth 1000000
theorem QQ {l:List aR} {c:aR} {fuel:Int} (h64: ∀c∈l,bk c) (hc:bk c): ∀x∈(iZ l c fuel).1,ar x:=by
 have key: ∀{P:List aR} {acc:List Int},(∀p∈P,bk p)→(∀x∈acc,ar x)→ ∀x∈(nk l fuel P acc).1,ar x:=by
  intro P
  induction P with
  |nil=>intro acc _ ha x hx;rw[nk]at hx;exact ha x hx
  |cons p P ih=>
   intro acc hP ha x hx
   rw[nk]at hx
   split at hx
   ·cases hx
   ·split at hx
    ·cases hx
    ·refine ih (λq hq=>hP q (List.mem_cons_of_mem _ hq)) (λy hy=> ?_) x hx
     rcases List.mem_append.1 hy with hy|hy
     ·exact ha y hy
     ·exact WS (A5 h64 (hP p List.mem_cons_self)) y hy
 intro x hx
 unfold iZ at hx
 split at hx
 ·cases hx
 ·exact key (pQ hc) (λy hy=>by cases hy) x hx
theorem W6 {p:bz} {fuel:Int} {l:List MB} {z:Int} (hpr:(bB p).2=0→ ∀x∈lG p,GO p x) (h:Fs p fuel=(l,z,0)): ∀y∈l.map Up,∀x∈y.2,ar x:=by
 unfold Fs at h
 split at h
 ·rename_i h0
  exact absurd (Prod.ext_iff.1 (Prod.ext_iff.1 h).2).2 h0
 ·rename_i h0
  obtain⟨g1,r,g2,g3,g4⟩:=zn h
  obtain rfl:l=r:=by simpa using g2
  intro y hy x hx
  obtain⟨w,hw,rfl⟩:=List.mem_map.1 hy
  obtain⟨_,_,q1,q2,_,_⟩:=hpr (Classical.not_not.1 h0) w.1 (by rw[←g3];exact List.mem_map.2 ⟨w,hw,rfl⟩)
  have:x∈w.2:=hx
  rw[←g4 w hw]at this
  exact QQ q2 q1.1 x this
theorem TR (l:List MB):Xa (l.map Up)=X7 l:=by
 show AV.c (.pure (.slice _))=AV.c (.pure (.slice _))
 rw[←RB]
theorem GN.sz {p:bz} {env:List aD} (h:GN p env) (h64:tP p) (hL:Jt p) (h0:(bB p).2=0):XS p:=by
 refine⟨⟨by have:=h.1.1;omega,λd hd=> ?_⟩,λd hd=>⟨by have:=h.2.2.2.2 d hd;omega,by have:=h.2.2.2.2 d hd;omega,(hL.2.2 d hd).1⟩,(gC h0).2.1,hL.1⟩
 obtain⟨k,hk,rfl⟩:=List.mem_iff_getElem.1 hd
 obtain⟨g1,g2⟩:=KR h.1.2 h64 hL h0 hk
 exact⟨g1,by omega⟩
theorem Ct (ha:af Tryz.prog GA [] (Go.Abs.B true)) {p:bz} {env:List aD} (h64:tP p) (hL:Jt p) (he: ∀m∈env,ar m.2):af Tryz.prog mq [jE p,gG mP env] (Go.Abs.B true):=by
 refine af.of vo (by simp) λ_=>aa ?_
 conv in mE=>cbv
 have pf:=Gx p env
 by_cases hs:GN p env
 ·rw[decide_eq_true hs]at pf
  have hl:=hs.1.2
  have hf:=pD hl
  have hsz:=hs.sz h64 hL
  have hpr:(bB p).2=0→ ∀x∈lG p,GO p x:= λh x hx=>Sc hl h64 hL h hx
  have pp:=Ab (fuel:=2000) hf h64 (KH hl) (λh=>(hsz h).1) hpr (by simp[ar])
  obtain⟨⟨l,z,e⟩,hR⟩: ∃R,R=Fs p 2000:=⟨_,rfl⟩
  rw[←hR]at pp
  simp only at pp
  by_cases h0:e=0
  ·subst h0
   have p1:=rR hf h64 (λh=>(hsz h).1) hpr (W6 hpr hR.symm)
   rw[Tw hpr hR.symm,TR]at p1
   have p2:=ti hf h64 hsz he (by have:=hs.2.2.1;omega)
   have h12:=Xc (env:=env) hpr hR.symm
   clear hs hl hf hsz hpr hR h64 hL he
   generalize Qb p env=Z at*
   repeat' first|simp(disch:=omega) only[go_sem, *,h12]|((with_reducible apply ab)<;>intro h<;>try omega)|(with_reducible apply ah)|(with_reducible refine aj (λh=> ?_) ?_)|(refine aY pf rfl rfl ?_)|(refine el pp rfl rfl ?_)|(refine aY p1 rfl rfl ?_)|(refine aY p2 rfl rfl ?_)|(refine aY ha rfl rfl ?_)
   all_goals rfl
  ·clear hs hl hf hsz hpr hR h64 hL he
   repeat' first|simp(disch:=omega) only[go_sem, *,h0]|((with_reducible apply ab)<;>intro h<;>try omega)|(with_reducible apply ah)|(with_reducible refine aj (λh=> ?_) ?_)|(refine aY pf rfl rfl ?_)|(refine el pp rfl rfl ?_)|(refine aY ha rfl rfl ?_)
   all_goals rfl
 ·rw[decide_eq_false hs]at pf
  clear hs h64 hL he
  repeat' first|simp(disch:=omega) only[go_sem, *]|((with_reducible apply ab)<;>intro h<;>try omega)|(with_reducible apply ah)|(with_reducible refine aj (λh=> ?_) ?_)|(refine aY pf rfl rfl ?_)|(refine aY ha rfl rfl ?_)
  all_goals rfl
theorem CP {ps qs:List PC} (h:qE YO ps) (hq:qp [.slice [.str,.int .i64]] qs):af Tryz.prog 5 [.agg (ps.map .pure),YC false qs] (Go.Abs.B true):=by
 obtain⟨p,rfl,h64,hL⟩:=aar h
 obtain⟨_,rfl,k1⟩:=xg hq
 obtain⟨env,rfl,he,_⟩:=vC mP (λm=>ar m.2) (λr hr=>by
  obtain⟨p,r,rfl,hp,hr⟩:=dB hr
  obtain⟨q,rfl,hq⟩:=xg hr
  obtain⟨s,rfl,_⟩:=zQ hp
  obtain⟨n,rfl,hn⟩:=dK hq
  exact⟨(s,n),rfl,hn⟩) k1
 exact Ct Cl h64 hL he
end Go.Proofs.YthbcbaembicdbaaGreatDoor
