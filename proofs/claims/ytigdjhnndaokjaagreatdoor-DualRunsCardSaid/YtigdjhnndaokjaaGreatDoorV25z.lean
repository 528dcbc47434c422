import Derived.Test.YtigdjhnndaokjaaGreatDoorV25y
import Derived.Test.YtigdjhnndaokjaaGreatDoorVPtI
set_option linter.unusedVariables false
set_option linter.unusedSimpArgs false
set_option maxHeartbeats 4000000
set_option maxRecDepth 1000000
open Go.Proofs.Tryz renaming prog→Pa0
namespace Go.Proofs.YtigdjhnndaokjaaGreatDoor
open Go.Abs Go.RowKit
variable {env:List aG}{d:lH}{red:List Int}
theorem ZP {q:bu} {vars:List ByteArray} {M A:List Nm} (hM:wR q M A) (hw:W6 q vars d.body) (hc: ¬aM d.body.op) (HK:tyE q vars d.body=d.ty) (hp:1≤bl red) (h:(Uz M A env d red).2=0):nbT d.ty (Uz M A env d red).1:=by
 refine UJ (λk h=> ?_) _ 0 HU (λh=>absurd h zR5) zR5 h
 have:=JI hM _ hw hc h
 rw[HK]at this
 exact this
noncomputable def Ww (g:Nat→Nb×Int) (d:lH) (dims:List Int) (env:List aG):Nat→Nat→List Du→List aG→List aG
 |0,k,acc,E=>E
 |m+1,k,acc,E=>if(g k).2≠0 then dl d.dims (au dims (k:Int))++env else if TD d dims k then(if(fa 1 (d.ty,acc[k-1]?.getD Vn) (g k).1).2≠0 then dl d.dims (au dims (k:Int))++env else Ww g d dims env m (k+1) (acc++ [(fa 1 (d.ty,acc[k-1]?.getD Vn) (g k).1).1.2]) (dl d.dims (au dims (k:Int))++env))else Ww g d dims env m (k+1) (acc++ [(g k).1.2]) (dl d.dims (au dims (k:Int))++env)
variable {g:Nat→Nb×Int}{dims:List Int}{E:List aG}{k:Nat}
theorem acI {N:Nat} {acc:List Du} {v:Nb} {e:Int} (h:k<N) (hv:g k=(v,e)):Ww g d dims env (N-k) k acc E=if e≠0 then dl d.dims (au dims (k:Int))++env else if TD d dims k then(if(fa 1 (d.ty,acc[k-1]?.getD Vn) v).2≠0 then dl d.dims (au dims (k:Int))++env else Ww g d dims env (N-(k+1)) (k+1) (acc++ [(fa 1 (d.ty,acc[k-1]?.getD Vn) v).1.2]) (dl d.dims (au dims (k:Int))++env))else Ww g d dims env (N-(k+1)) (k+1) (acc++ [v.2]) (dl d.dims (au dims (k:Int))++env):=by
 rw[show N-k=(N-(k+1))+1 by omega,Ww,hv]
theorem abo {N:Nat} {acc:List Du} (h:N≤k):Ww g d dims env (N-k) k acc E=E:=by
 rw[show N-k=0 by omega,Ww]
abbrev mB (p:bu) (M A:List Nm) (E:List aG) (d:lH):List (Nat×bP):= [(5,Fu d),(4,.var [.ptr 3 0]),(3,bSt E),(2,bMp A),(1,bMp M),(0,dK p)]
theorem lf {s:ByteArray} {c:List AC}: ∀{M:List Nm},bm M s=none→DS (rX M) (.str s.data.toList) c=rX M++ [(MK.str s.data.toList,c)]
 | [],_=>rfl
 |x::r,h=>by
  rw[J2]at h
  split at h
  ·cases h
  ·rename_i F
   have ih:=lf (c:=c) h
   simp only[rX,zB8,zD2,DS]at ih ⊢
   rw[if_neg (λe=>F (sm.1 e)),ih]
theorem Vs (nm:Nat) (rows:List (List PC)): ∀M:List Nm,List.map (λx:MK×List AC=>(x.1,List.map (BZ nm rows) x.2)) (rX M)=rX M
 | []=>rfl
 |x::r=>by
  have ih:=Vs nm rows r
  simp only[rX,zB8]at ih ⊢
  rw[ih]
  rfl
theorem gG (M:List Nm) (x:Nm):rX (M++ [x])=rX M++ [(MK.str x.1.data.toList,(tnP x.2).map .pure)]:=by simp[rX]
variable {acc:List Int}{l:List iF}
theorem VG {j:Nat} {n e:Int} (h:j<l.length) (hr:io l[j].2.1 l[j].2.2 env=(n,e)):kq env acc ((l.map (·.2)).drop j)=if e≠0 then([],e)else if n<1∨4096<n then([],15)else kq env (acc++ [n]) ((l.map (·.2)).drop (j+1)):=Qc zS9 (by simpa using hr)
theorem R8 {j:Nat} (h:l.length≤j):kq env acc ((l.map (·.2)).drop j)=(acc,0):=LC zS9
theorem Yl {ds:List Int} (h1:Ql ds) (h2:Ql red) (hv:Ad (ds++red)=0) (hl:red.length=d.red.length) (hf:(d.fold=0∨d.fold=5)↔d.red.length=0) (HV:0≤d.fold∧d.fold≤5):rdX d red:=by
 have hX:okX (ds++red):=⟨λx hx=>(zE7.1 hx).elim (h1 x) (h2 x),hv⟩
 obtain⟨b1,b2,b3⟩:=hX.bd
 rw[SD,G0]at b2 b3
 have p1:=el ds λx hx=>(h1 x hx).1
 have p2:=el red λx hx=>(h2 x hx).1
 rw[zE8]at b1
 have h7:bl red≤65536:=by
  have:=zP6 p1 (show 0≤bl red by omega)
  omega
 have hb:bval red=0:=UU zR5 ⟨λx hx=>(h2 x hx).1,h7⟩
 refine⟨h2,by omega,mh hb,h7,hl,λh=> ?_⟩
 have F: ¬d.red.length=0:= λh0=>by
  have:red= []:=zG4 zR5
  rw[this]at h
  simp[bl]at h
 have:=mt hf.1 F
 omega
set_option maxHeartbeats 16000000 in
theorem IV {p:bu} {M A:List Nm} (hv:(bA p).2=0) (hf:iD p) (hW:m9 p) (hL:Et p) (he: ∀m∈env,aH m.2) (hY:env.length≤500) (hk:k<p.defs.length) (hI:mI p k M A):
  ∃E',bJ Pa0 fI [.agg [.ptr 3 0],fL p,bF mP env,NC p.defs[k]] (mB p M A E p.defs[k]) 6 (I (Rk p env M A p.defs[k]).2)
   (if(Rk p env M A p.defs[k]).2=0 then mB p (M++ [Xu p.defs[k] (Rk p env M A p.defs[k]).1]) (if p.defs[k].ty.1=1 then A++ [nmT p.defs[k] (Rk p env M A p.defs[k]).1]else A) E' p.defs[k]else mB p M A E' p.defs[k]) 6:=by
 obtain⟨⟨hw,P,Q⟩,_,hF,R,T,V,f⟩:=Cg hv hk
 have h8:=SK hv hk
 have H:bm M p.defs[k].name=none:=jP.2 λhm=>(FD hv hk).2 (ZU (by rw[←hI.1];exact hm))
 have W:bm A p.defs[k].name=none:=jP.2 λhm=>by
  obtain⟨y,hy,h2⟩:=zE0.1 hm
  exact jP.1 H (h2▸hI.2.1 y hy)
 have hM:=hI.2.2
 have hG:TB p.defs[k].body:= λa ha=>⟨hW _ (zA6 hk) a ha,(hL.2.2 _ (zA6 hk)).2 a ha⟩
 have hJ:=(hL.2.2 _ (zA6 hk)).1
 have cD:=Bd (s:=p.defs[k].name) hf hW hL he
 have hg:= λds h=>Vq (env:=env) (ds:=ds) h8 h
 unfold Rk
 generalize p.defs[k]=d at*
 clear hI hv hf hW hL h8
 obtain⟨⟨ds,e⟩,hK⟩: ∃y,y=jV p env d.name:=⟨_,rfl⟩
 rw[←hK]at cD ⊢
 simp only at cD ⊢
 by_cases h0:e=0
 ·subst h0
  obtain⟨g1,g2⟩:=hg ds hK.symm
  obtain⟨g3,g4,g5⟩:=RH g1 g2 zR8
  simp only[zE3]at g5
  simp only[ne_eq,not_true,if_false]
  clear hg hK g1
  obtain⟨⟨rd,er⟩,hP⟩: ∃y,y=PR env d:=⟨_,rfl⟩
  rw[←hP]
  simp only
  have hT:er=0→Ql rd∧rd.length=d.red.length:= λh=>by
   obtain⟨r1,r2,_⟩:=Dn (env:=env) (l:=d.red.map (·.2)) (r:=rd) (by rw[←h];exact hP.symm)
   exact⟨r2,by simpa using r1⟩
  obtain⟨X,hX⟩: ∃X,X=if er≠0 then(([], []),er)else if Ad (ds++rd)≠0 then(([], []),2)else if(Al M A env d ds rd).2≠0 then(([], []),(Al M A env d ds rd).2)else((ds,(Al M A env d ds rd).1),0):=⟨_,rfl⟩
  have h9:(if ¬er=0 then(([], []),er)else if ¬Ad (ds++rd)=0 then(([], []),2)else if ¬(Al M A env d ds rd).2=0 then(([], []),(Al M A env d ds rd).2)else((ds,(Al M A env d ds rd).1),0))=X:=hX.symm
  rw[h9]
  clear h9
  have X1:Hid (er≠0→X=(([], []),er)):= λh=>by rw[hX,if_pos h]
  have X2:Hid (er=0→Ad (ds++rd)≠0→X=(([], []),2)):= λh h'=>by rw[hX,if_neg (zA5 h),if_pos h']
  have X3:Hid (er=0→Ad (ds++rd)=0→X=if(Al M A env d ds rd).2≠0 then(([], []),(Al M A env d ds rd).2)else((ds,(Al M A env d ds rd).1),0)):= λh h'=>by rw[hX,if_neg (zA5 h),if_neg (zA5 h')]
  obtain⟨E',hE⟩: ∃E',E'=if er≠0 then E else if Ad (ds++rd)≠0 then E else Ww (yU M A env d ds rd) d ds env (bl ds).toNat 0 [] E:=⟨_,rfl⟩
  have E1:Hid (er≠0→E'=E):= λh=>by rw[hE,if_pos h]
  have E2:Hid (er=0→Ad (ds++rd)≠0→E'=E):= λh h'=>by rw[hE,if_neg (zA5 h),if_pos h']
  have E3:Hid (er=0→Ad (ds++rd)=0→E'=Ww (yU M A env d ds rd) d ds env (bl ds).toNat 0 [] E):= λh h'=>by rw[hE,if_neg (zA5 h),if_neg (zA5 h')]
  clear hE hX
  refine⟨E',bJ.ofZ (ress:= [_]) jh zR6 λhb=>aa ?_⟩
  have HR:Hid (kq env [] ((d.red.map (·.2)).drop 0)=(rd,er)):=Lib.hid hP.symm
  have pe: ∀a∈d.red,ac Pa0 lQ [iK a.2.1 a.2.2,bF mP env] (.tup [I (io a.2.1 a.2.2 env).1,I (io a.2.1 a.2.2 env).2]):= λa ha=>iM (hJ a (zE5 _ ha)).1 (hJ a (zE5 _ ha)).2 he
  clear hP hb hJ
  conv in fP=>reduce;simp only[Int.reduceOfNat,Int.reduceNegSucc]
  repeat' first|simp(disch:=omega)only[go_sem,↓ai, *,aI]|apply ab<;>intro h<;>try omega|refine dH cD ?_
  clear cD
  refine dc 11 3 1 rfl zR9 ?_
  refine al (λx:Nat×List Int=>⟨[(2,bF mP env),(4,.c (.ptr 6 0)),(7,.c (.ptr 8 0)),(9,aF ds),(11,.c (.ref 9)),(36,bF gw d.red),(37,I d.red.length),(38,I x.1)],(9,.arr 3 1 (x.2.map λn=> [pI n]))::(8,Fu d)::(6,.var [.ptr 3 0])::mB p M A E d,10,6⟩) (λx=>x.1≤d.red.length∧x.2.length=x.1∧Hid (kq env x.2 ((d.red.map (·.2)).drop x.1)=(rd,er))) (λx=>d.red.length-x.1) ⟨(0, []), [],⟨by omega,rfl,HR⟩,by simp[dj,eA]⟩ ?_
  clear HR
  rintro⟨j,acc⟩ ⟨hj,Y,hr⟩
  simp only at hj Y
  have hd:=hr.out
  simp only at hd
  clear hr
  by_cases o:j<d.red.length
  ·refine aa ?_
   have p1:=pe _ (zA6 o)
   obtain⟨⟨n,e1⟩,F⟩: ∃y,y=io d.red[j].2.1 d.red[j].2.2 env:=⟨_,rfl⟩
   rw[VG o F.symm]at hd
   rw[←F]at p1
   simp only at p1
   clear F pe
   by_cases h1:e1=0
   ·subst h1
    rw[if_neg zR6]at hd
    by_cases hn:n<1∨4096<n
    ·rw[if_pos hn]at hd
     obtain⟨rfl,rfl⟩:=Prod.mk.inj hd
     obtain rfl:=X1.out zR9
     obtain rfl:=E1.out zR9
     clear X1 X2 X3 E1 E2 E3 hd
     by_cases hQ:n<1
     ·repeat' first|simp(disch:=omega)only[go_sem,↓ai, *,ae o,gw,hQ]|apply ab<;>intro h<;>try omega|refine ak p1 ?_
      all_goals
       refine⟨[], [], ?_⟩
       simp(disch:=omega)only[go_sem,↓ai,bM]
       simp[dj,eA]
     ·have hh:4096<n:=by omega
      clear hn
      repeat' first|simp(disch:=omega)only[go_sem,↓ai, *,ae o,gw,hQ,hh]|apply ab<;>intro h<;>try omega|refine ak p1 ?_
      all_goals
       refine⟨[], [], ?_⟩
       simp(disch:=omega)only[go_sem,↓ai,bM]
       simp[dj,eA]
    ·rw[if_neg hn]at hd
     have HD:=Lib.hid hd
     have hQ: ¬n<1:=by omega
     have hh: ¬4096<n:=by omega
     have HT:=Lib.hid (show(acc.map λn=> [pI n])++ [[pI n]]=(acc++ [n]).map λn=> [pI n] by simp)
     clear hd hn
     repeat' first|simp(disch:=omega)only[go_sem,↓ai, *,ae o,gw,hQ,hh,wrap_i64]|apply ab<;>intro h<;>try omega|refine ak p1 ?_|refine aP rfl zS0 (aE rfl) zR8 zR8 ?_
     rw[HT.out]
     exact⟨(j+1,acc++ [n]), [(9,11)],⟨by show j+1≤_;omega,by simp[Y],HD⟩,by show _-_<_-_;omega,by simp[dj,eA]⟩
   ·rw[if_pos h1]at hd
    obtain⟨rfl,rfl⟩:=Prod.mk.inj hd
    obtain rfl:=X1.out h1
    obtain rfl:=E1.out h1
    clear X1 X2 X3 E1 E2 E3 hd
    repeat' first|simp(disch:=omega)only[go_sem,↓ai, *,ae o,gw,h1]|apply ab<;>intro h<;>try omega|refine ak p1 ?_
    all_goals
     refine⟨[], [], ?_⟩
     simp(disch:=omega)only[go_sem,↓ai,bM]
     simp[dj,eA]
  ·rw[R8 zR5]at hd
   obtain⟨rfl,rfl⟩:=Prod.mk.inj hd
   obtain⟨Z,HA⟩:=hT rfl
   have pv:=t7 (xs:=ds++acc) (λx hx=>(zE7.1 hx).elim (g4 x) (Z x))
   have pc:=Mc ds acc zR5 zR5
   have hA: ¬(j:Int)<d.red.length:=by omega
   clear hT pe hd o
   refine QK [9] (YA [] (σ':=⟨[(2,bF mP env),(4,.c (.ptr 6 0)),(7,.c (.ptr 8 0)),(9,aF ds),(11,aF acc),(37,I d.red.length),(38,I j)],(8,Fu d)::(6,.var [.ptr 3 0])::mB p M A E d,9,6⟩) (by simp[bM,St.frz,L5,HJ,Mh,BZ,Om,ar,Vs,dj,eA]) (aa ?_))
   by_cases z:Ad (ds++acc)=0
   ·have hq:=Yl g4 Z z HA V T
    have hX:=X3.out rfl z
    have hE:=E3.out rfl z
    clear X1 X2 X3 E1 E2 E3 pv
    have pv:ac Pa0 k8 [aF (ds++acc)] (I 0):=by
     have:=t7 (xs:=ds++acc) (λx hx=>(zE7.1 hx).elim (g4 x) (Z x))
     rwa [z]at this
    have pS:=pE ds
    have hR:size ds=bl ds:=by rw[size,if_pos g3]
    rw[hR]at pS
    have HB:=el ds λx hx=>(g4 x hx).1
    have hB:=el acc λx hx=>(Z x hx).1
    obtain⟨N,hN⟩: ∃N:Nat,bl ds=N:=⟨(bl ds).toNat,by omega⟩
    obtain⟨⟨vsR,eo⟩,ho⟩: ∃y,y=Al M A env d ds acc:=⟨_,rfl⟩
    rw[←ho]at hX
    simp only at hX
    unfold Al at ho
    rw[hN,zD1]at ho hE
    rw[hN]at pS HB g2 hR
    have HRo:Hid (Au (yU M A env d ds acc) d ds (N-0) 0 []=(vsR,eo)):=Lib.hid ho.symm
    have HEo:Hid (Ww (yU M A env d ds acc) d ds env (N-0) 0 [] E=E'):=Lib.hid hE.symm
    have HX:=Lib.hid hX
    have HS:=Lib.hid hR
    have pP: ∀i:Nat,i<N→ac Pa0 49 [aF ds,I (i:Int)] (.tup [aF (au ds (i:Int)),Go.Abs.B true]):= λi hi=>Is zR5 (by rw[HS.out];omega)
    clear ho hE hX hN hR g3 z Z HA T V
    repeat' first|simp(disch:=omega)only[go_sem,↓ai, *]|apply zA1<;>intro h<;>try omega|refine dH pc ?_|refine ak pv ?_|refine ak pS ?_
    refine fU 9 6 41 2 _ rfl rfl zR9 ?_
    refine fU 10 6 41 2 _ rfl rfl zR9 ?_
    refine al (λs:Nat×List Du×List aG=>⟨[(2,bF mP env),(4,.c (.ptr 6 0)),(7,.c (.ptr 7 0)),(9,aF ds),(11,aF acc),(16,.c (.ptr 8 0)),(17,.c (.ptr 10 0)),(78,I N),(79,I s.1)],mEl p M A s.2.2 d ds s.2.1,12,6⟩) (λs=>s.1≤N∧s.2.1.length=s.1∧Hid (∀a∈s.2.1,jZ d.ty a)∧Hid (Au (yU M A env d ds acc) d ds (N-s.1) s.1 s.2.1=(vsR,eo))∧Hid (Ww (yU M A env d ds acc) d ds env (N-s.1) s.1 s.2.1 s.2.2=E')) (λs=>N-s.1) ⟨(0, [],E), [(7,8),(8,9),(9,11),(11,12)],⟨by omega,rfl,λa ha=>(by cases ha),HRo,HEo⟩,by simp[dj,eA]⟩ ?_
    clear HRo HEo pc pv pS
    rintro⟨i,vs,E0⟩ ⟨hi,C,u,hu,h3⟩
    simp only at hi C u hu h3
    have hd:=hu.out
    have hf:=h3.out
    clear hu h3
    by_cases o:i<N
    ·have b:(au ds (i:Int)).length=ds.length:=aX _ _
     have hU: ∀x∈au ds (i:Int),aH x:= λx hx=>by
      obtain⟨j,hj,rfl⟩:=zC2.1 hx
      rw[aX]at hj
      have h1:=(uF (λx hx=>(g4 x hx).1) (i:Int)).2 j hj
      rw[zA7 (by rw[aX];exact hj),zA8,zA7 hj,zA8]at h1
      have h2:=g4 _ (zA6 hj)
      unfold aH
      omega
     have pPi:=pP i o
     have pb:=Bu (l:=d.dims) (pt:=au ds (i:Int)) (rest:=env) (by rw[b,g5]) zR5 zR5
     have HC: ∀m∈dl d.dims (au ds (i:Int))++env,aH m.2:= λm hm=>by
      rcases zE7.1 hm with hm|hm
      ·obtain⟨y,hy,rfl⟩:=zE0.1 hm
       exact hU _ (zP1 hy).2
      ·exact he m hm
     have hV:(dl d.dims (au ds (i:Int))++env).length≤1000:=by
      rw[zE8,z6 (by rw[b,g5])]
      omega
     have HE:yU M A env d ds acc i=Uz M A (dl d.dims (au ds (i:Int))++env) d acc:=rfl
     obtain⟨⟨w,e⟩,hS⟩: ∃y,y=yU M A env d ds acc i:=⟨_,rfl⟩
     rw[U0 o hS.symm]at hd
     rw[acI o hS.symm]at hf
     have t:TD d ds i↔d.fold=5∧0<(au ds (i:Int))[ds.length-1]?.getD 0:=Iff.rfl
     have D:= λh:TD d ds i=>Vz h
     generalize dl d.dims (au ds (i:Int))++env=env2 at*
     have pel:=FU (p:=p) (vs:=vs) (ds:=ds) hM hw P hG hq HC hV R.2 Q
     have G:=ZP (A:=A) (env:=env2) (red:=acc) hM hw P Q hB
     rw[←HE,←hS]at pel G
     simp only at pel G
     clear pP HE hS HC hV hU hM hw P hG hq he Q
     generalize au ds (i:Int)=pt at*
     obtain⟨x,hx,HG,HH⟩: ∃x:Nb×Int,((e≠0∧x=(w,e))∨(e=0∧ ¬TD d ds i∧x=(w,0))∨(e=0∧TD d ds i∧ ∃j,∃h:j<vs.length,i=j+1∧ac Pa0 qY [I 1,Ve d.ty vs[j],Ve w.1 w.2] (.tup [Ve x.1.1 x.1.2,I x.2])))∧
       (x.2≠0→vsR= []∧eo=x.2∧E'=env2)∧(x.2=0→x.1.1=d.ty∧jZ d.ty x.1.2∧Au (yU M A env d ds acc) d ds (N-(i+1)) (i+1) (vs++ [x.1.2])=(vsR,eo)∧Ww (yU M A env d ds acc) d ds env (N-(i+1)) (i+1) (vs++ [x.1.2]) env2=E'):=by
      by_cases h0:e=0
      ·subst h0
       rw[if_neg zR6]at hd hf
       obtain⟨tw,v⟩:=w
       obtain⟨rfl,o2⟩:=G rfl
       simp only at o2
       by_cases hs:TD d ds i
       ·rw[if_pos hs]at hd hf
        have HW:=D hs
        obtain⟨j,rfl⟩: ∃j,i=j+1:=⟨i-1,by omega⟩
        have h4:j<vs.length:=by omega
        simp only[zK5,zA7 h4,zA8]at hd hf
        have oa:=u.out _ (zA6 h4)
        obtain⟨tj,vj,pj,h6⟩:=By (fold:=1) zR5 oa o2
        have hC:=EA (fold:=1) oa o2
        obtain⟨⟨wj,ej⟩,HL⟩: ∃y,y=fa 1 (d.ty,vs[j]) (d.ty,v):=⟨_,rfl⟩
        rw[←HL]at pj h6 hC hd hf
        simp only at pj h6 hC hd hf
        refine⟨((tj,vj),ej),.inr (.inr ⟨rfl,hs,j,h4,rfl,pj⟩),λh=> ?_,λh=> ?_⟩
        ·rw[if_pos h]at hd hf
         exact⟨(Prod.mk.inj hd).1.symm,(Prod.mk.inj hd).2.symm,hf.symm⟩
        ·obtain rfl:ej=0:=h
         obtain rfl:=h6 rfl
         obtain⟨o1,o3⟩:=hC rfl
         rw[if_neg zR6]at hd hf
         exact⟨o1,o3,hd,hf⟩
       ·rw[if_neg hs]at hd hf
        exact⟨((d.ty,v),0),.inr (.inl ⟨rfl,hs,rfl⟩),λh=>absurd rfl h,λ_=>⟨rfl,o2,hd,hf⟩⟩
      ·rw[if_pos h0]at hd hf
       exact⟨(w,e),.inl ⟨h0,rfl⟩,λ_=>⟨(Prod.mk.inj hd).1.symm,(Prod.mk.inj hd).2.symm,hf.symm⟩,λh=>absurd h h0⟩
     have J:=Lib.hid HG
     have K:=Lib.hid HH
     clear HG HH hd hf G
     refine PS ⟨[(2,bF mP env),(4,.c (.ptr 6 0)),(7,.c (.ptr 7 0)),(9,aF ds),(11,aF acc),(16,.c (.ptr 8 0)),(17,.c (.ptr 10 0)),(78,I N),(79,I i)],mEl p M A E0 d ds vs,12,6⟩ ?_ (Cw (Ml ?_))
     ·clear hx J K t D b u HX HS pPi pb pel f g4 g5 hF R H W Y hA hB hY C
      repeat' first|simp(disch:=omega)only[go_sem,↓ai, *]|apply ab<;>intro h<;>try omega
      all_goals exact⟨[],by simp[dj,eA]⟩
     refine VL ⟨[(2,bF mP env),(4,.c (.ptr 6 0)),(7,.c (.ptr 7 0)),(9,aF ds),(11,aF acc),(16,.c (.ptr 8 0)),(17,.c (.ptr 10 0)),(78,I N),(79,I i),(18,I i),(19,aF pt),(21,.c (.ptr 12 0)),(22,I e)],(12,bNb w.1 w.2)::mEl p M A env2 d ds vs,13,6⟩ ?_ ?_
     ·clear hx J K t D b u HX HS f g4 g5 hF R H W Y hA hB hY C
      repeat' first|simp(disch:=omega)only[go_sem,↓ai, *]|apply zA1<;>intro h<;>try omega|refine dH pPi ?_|refine dH pb ?_|refine bN pel ?_
      all_goals exact⟨[],by simp[dj,eA]⟩
     ·clear pPi pb pel
      refine Q9 ⟨[(2,bF mP env),(4,.c (.ptr 6 0)),(7,.c (.ptr 7 0)),(9,aF ds),(11,aF acc),(16,.c (.ptr 8 0)),(17,.c (.ptr 10 0)),(78,I N),(79,I i),(18,I i),(19,aF pt),(21,.c (.ptr 12 0)),(22,I x.2)],(12,bNb x.1.1 x.1.2)::mEl p M A env2 d ds vs,13,6⟩ ?_ ?_
      ·have O:ds.length=pt.length:=b.symm
       have HY:pt.length≤6:=by omega
       clear J K HX HS hF R H W Y hA hB hY g4 u
       obtain⟨tw,⟨w1,w2⟩,w3,w4⟩:=w
       rcases hx with⟨h0,rfl⟩|⟨rfl,hs,rfl⟩|⟨rfl,hs,j,hj,rfl,pj⟩
       ·clear t D b C O f g5
        repeat' first|simp(disch:=omega)only[go_sem,↓ai, *,h0]|apply ab<;>intro h<;>try omega
        all_goals exact⟨[],by simp[dj,eA]⟩
       ·by_cases h5:d.fold=5
        ·obtain⟨L,hL⟩: ∃L,pt.length=L+1:=⟨pt.length-1,by omega⟩
         have hD:L<pt.length:=by omega
         rw[O,hL,zK5,zA7 hD,zA8]at t
         have hz: ¬0<pt[L]:= λh=>hs (t.2 ⟨h5,h⟩)
         have v1:IntKind.wrap .i64 ((pt.length:Int)-1)=(L:Int):=by rw[wrap_i64 zR5];omega
         obtain⟨HZ,Hk⟩:5≤d.fold∧d.fold≤5:=by omega
         clear t D hs b C O f g5 h5 hL
         repeat' first|simp(disch:=omega)only[go_sem,↓ai, *,v1,ae hD,hz]|apply ab<;>intro h<;>try omega
         all_goals exact⟨[],by simp[dj,eA]⟩
        ·clear t D hs b C O f g5
         repeat' first|simp(disch:=omega)only[go_sem,↓ai, *,h5]|apply ab<;>intro h<;>try omega
         all_goals exact⟨[],by simp[dj,eA]⟩
       ·obtain⟨h5,hz⟩:=t.1 hs
        obtain⟨L,hL⟩: ∃L,pt.length=L+1:=⟨pt.length-1,by omega⟩
        have hD:L<pt.length:=by omega
        rw[O,hL,zK5,zA7 hD,zA8]at hz
        have v1:IntKind.wrap .i64 ((pt.length:Int)-1)=(L:Int):=by rw[wrap_i64 zR5];omega
        have v2:IntKind.wrap .i64 (((j+1:Nat):Int)-1)=(j:Int):=by rw[wrap_i64 zR5];omega
        have HM:decide (d.fold=5)=true:=zB1 h5
        have HN:decide (0<pt[L])=true:=zB1 hz
        obtain⟨⟨⟨x1,x2,x3,x4,x5⟩,⟨x6,x7⟩,x8,x9⟩,xe⟩:=x
        clear t D hs b C O f g5 h5 hL hz
        repeat' first|simp(disch:=omega)only[go_sem,↓ai, *,v1,v2,ae hD,HM,HN,ae hj]|apply zA1<;>intro h<;>try omega|refine ak pj ?_
        all_goals exact⟨[],by simp[dj,eA]⟩
      ·clear hx t D b
       refine lT (aa ?_)
       obtain⟨⟨tx,v⟩,ex⟩:=x
       by_cases h0:ex=0
       ·subst h0
        obtain⟨rfl,o3,hd,hf⟩:=K.out rfl
        have HD:=Lib.hid hd
        have HF:=Lib.hid hf
        have HO:Hid (∀a∈vs++ [v],jZ d.ty a):= λa ha=>(zE7.1 ha).elim (u.out a) λh=>by rw[zG1.1 h];exact o3
        have HT1:=Lib.hid (show(vs.map λv=>ln v.1)++ [[pI v.1.1,pI v.1.2]]=(vs++ [v]).map λv=>ln v.1 by rw[zC8];rfl)
        have HT2:=Lib.hid (show(vs.map λv=>ln v.2)++ [[pI v.2.1,pI v.2.2]]=(vs++ [v]).map λv=>ln v.2 by rw[zC8];rfl)
        have w2:IntKind.wrap .i64 ((i:Int)+1)=(i:Int)+1:=wrap_i64 zR5
        clear J K u o3 hd hf HX HS
        obtain⟨⟨v1,v2⟩,v3,v4⟩:=v
        repeat' first|simp(disch:=omega)only[go_sem,↓ai, *,w2]|apply zA1<;>intro h<;>try omega|refine aP rfl zS0 (aE rfl) zR8 zR8 ?_
        all_goals
         refine(show AW _ _ _ _ _ from aa ?_)
         simp(disch:=omega)only[go_sem,↓ai,w2]
         simp only at HT1 HT2
         rw[HT1.out,HT2.out]
         exact⟨(i+1,vs++ [((v1,v2),v3,v4)],env2), [(9,13),(11,14)],⟨by show i+1≤N;omega,by simp[C],HO,HD,HF⟩,by show _-_<_-_;omega,by simp[dj,eA]⟩
       ·obtain⟨rfl,rfl,rfl⟩:=J.out h0
        have hX:=HX.out
        rw[if_pos h0]at hX
        subst hX
        clear HX J K u HS
        repeat' first|simp(disch:=omega)only[go_sem,↓ai, *,h0]|apply ab<;>intro h<;>try omega
        all_goals
         refine⟨[], [], ?_⟩
         simp(disch:=omega)only[go_sem,↓ai,bM]
         simp[h0,dj,eA]
    ·obtain rfl:i=N:=by omega
     rw[Te (zB2 _)]at hd
     rw[abo (zB2 _)]at hf
     refine aa ?_
     obtain⟨rfl,rfl⟩:=Prod.mk.inj hd
     subst hf
     have hX:=HX.out
     rw[if_neg zR6]at hX
     subst hX
     have HI:= λc=>lf (c:=c) H
     have HP:= λc=>lf (c:=c) W
     clear HX u HS pP hw P hG hq he Q hM g4 hB
     by_cases ht:d.ty.1=1
     ·repeat' first|simp(disch:=omega)only[go_sem,↓ai, *,ht,HI,HP]|apply zA1<;>intro h<;>try omega
      refine⟨[9,11], [], ?_⟩
      simp[bM,St.frz,L5,HJ,Mh,BZ,Om,ar,Vs,dj,eA,gG,ht]
      have c1:=eA 6 (M++ [Xu d (ds,vs)])
      have c2:=eA 6 (A++ [nmT d (ds,vs)])
      rw[gG]at c1 c2
      refine⟨?_,by simpa using c2, ?_,by simpa using c1⟩<;>simp[Xu,nmT,ht,zH3]
     ·repeat' first|simp(disch:=omega)only[go_sem,↓ai, *,ht,HI]|apply zA1<;>intro h<;>try omega
      refine⟨[9,11], [], ?_⟩
      simp[bM,St.frz,L5,HJ,Mh,BZ,Om,ar,Vs,dj,eA,gG,ht]
      have c1:=eA 6 (M++ [Xu d (ds,vs)])
      rw[gG]at c1
      refine⟨?_,by simpa using c1⟩
      simp[Xu,zH3]
   ·obtain rfl:=X2.out rfl z
    obtain rfl:=E2.out rfl z
    clear X1 X2 X3 E1 E2 E3
    repeat' first|simp(disch:=omega)only[go_sem,↓ai, *,z]|apply zA1<;>intro h<;>try omega|refine dH pc ?_|refine ak pv ?_
    all_goals
     refine⟨[], [], ?_⟩
     simp(disch:=omega)only[go_sem,↓ai,bM]
     simp[dj,eA]
 ·rw[if_pos h0]
  refine⟨E, ?_⟩
  rw[if_neg h0]
  refine bJ.ofZ (ress:= [_]) jh zR6 λhb=>aa ?_
  clear hg hK hb hw P Q hF R T V f H W hM hG hJ
  conv in fP=>reduce;simp only[Int.reduceOfNat,Int.reduceNegSucc]
  repeat' first|simp(disch:=omega)only[go_sem,↓ai, *,aI,h0]|apply ab<;>intro h<;>try omega|refine dH cD ?_
  all_goals
   refine⟨[], [], ?_⟩
   simp(disch:=omega)only[go_sem,↓ai,bM]
   simp[dj,eA]
end Go.Proofs.YtigdjhnndaokjaaGreatDoor
