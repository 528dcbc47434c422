import Derived.Test.YtigdjhnndaokjaaGreatDoorW25d
set_option linter.unusedVariables false
set_option linter.unusedSimpArgs false
set_option maxHeartbeats 4000000
set_option maxRecDepth 1000000
namespace Go.Proofs.YtigdjhnndaokjaaGreatDoor
open Go.Abs Go.RowKit
abbrev tyF:Ty:=(1,0,0,0,0)
abbrev Pw:AV:= .agg [i_ 0,i_ 0,i_ 0,i_ 0,i_ 0,.nils,.nils]
abbrev bT0:bP:= .var [i_ 0,i_ 0,i_ 0,i_ 0,i_ 0,.nils,.nils]
abbrev bDu (v:Du):bP:= .var [.pure (pI v.1.1),.pure (pI v.1.2),.pure (pI v.2.1),.pure (pI v.2.2)]
abbrev mS (p:bu) (M A:List Nm):List (Nat×bP):= [(3,.arr 76 8 (A.map d7)),(2,.arr 76 8 (M.map d7)),(1,.var [.ref 2,.ref 3]),(0,dK p)]
abbrev mD (p:bu) (M A:List Nm) (d:lH) (ds:List Int) (vs:List Du):List (Nat×bP):=(12,.arr 41 2 (vs.map λv=>ln v.2))::(11,.arr 41 2 (vs.map λv=>ln v.1))::(10,.var [.pure (pI 1),.pure (pI 0),.pure (pI 0),.pure (pI 0),.pure (pI 0),.pure (c6 ds),.ref 12])::(9,.var [.pure (pI d.ty.1),.pure (pI d.ty.2.1),.pure (pI d.ty.2.2.1),.pure (pI d.ty.2.2.2.1),.pure (pI d.ty.2.2.2.2),.pure (c6 ds),.ref 11])::(8,bT0)::(7,Fu d)::(6,bT0)::(5,bT0)::(4,.var [.ref 2,.ref 3])::mS p M A
noncomputable def abM (d:lH) (x:(List Int×List Du)×Int):List AV:=if x.2≠0 then [Pw,Pw,I x.2]else [Nh (d.ty,x.1.1,x.1.2.map (·.1)),Nh (tyF,x.1.1,x.1.2.map (·.2)),I 0]
theorem UD {ds:List Int} (h:yk ds=0):dI ds=bl ds:=by
 have hg:=b8 h
 exact mh (UU (by have:=hg.len;omega) ⟨hg.pos,by have:=hg.le;omega⟩)
set_option maxHeartbeats 16000000 in
theorem F9 {p:bu} {M A:List Nm} {env:List aG} {k:Nat} (hv:(bA p).2=0) (hf:iD p) (hF:m9 p) (hL:Et p) (he: ∀m∈env,aH m.2) (hG:env.length≤500) (hk:k<p.defs.length) (hI:mI p k M A):
  bJ Tryz.prog iA [fL p,bF mP env,.agg [.ref 2,.ref 3],I k] (mS p M A) 4 (kz (abM p.defs[k] (Rk p env M A p.defs[k]))) (mS p M A) 4:=by
 obtain⟨⟨hw,X,Y⟩,_,hJ,Z,hC,hD,q⟩:=Cg hv hk
 have hc:=SK hv hk
 have hM:=hI.2.2
 have hK:TB p.defs[k].body:= λa ha=>⟨hF _ (zA6 hk) a ha,(hL.2.2 _ (zA6 hk)).2 a ha⟩
 have hh:=(hL.2.2 _ (zA6 hk)).1
 have cD:=xK (s:=p.defs[k].name) hf hF hL he
 have hl:= λds h=>Vq (env:=env) (ds:=ds) hc h
 have cX:=EO (l:=p.defs[k].red) (env:=env) (λa ha=>hh a (zE5 _ ha)) zR5 he
 have t: ∀f:lH→List PC,(p.defs.map f)[k]? =some (f p.defs[k]):= λf=>ae hk
 have u:(k:Int)<p.defs.length:=by omega
 obtain⟨ress,b⟩: ∃r,abM p.defs[k] (Rk p env M A p.defs[k])=r:=⟨_,rfl⟩
 rw[b]
 unfold Rk at b
 generalize p.defs[k]=d at*
 clear hI hv hf hF hL hc hh
 obtain⟨⟨ds,e⟩,hP⟩: ∃y,y=jV p env d.name:=⟨_,rfl⟩
 rw[←hP]at cD b
 simp only at cD b
 by_cases h0:e=0
 ·subst h0
  obtain⟨g1,g2⟩:=hl ds hP.symm
  obtain⟨g3,g4,g5⟩:=RH g1 g2 zR8
  simp only[zE3]at g5
  simp only[ne_eq,not_true,if_false]at b
  clear hl hP g1
  obtain⟨⟨rd,er⟩,hQ⟩: ∃y,y=PR env d:=⟨_,rfl⟩
  rw[show kq env [] (d.red.map (·.2))=PR env d from rfl,←hQ]at cX
  rw[←hQ]at b
  simp only at b cX
  have hn:er=0→Ql rd∧rd.length=d.red.length:= λh=>by
   obtain⟨r1,r2,_⟩:=Dn (env:=env) (l:=d.red.map (·.2)) (r:=rd) (by rw[←h];exact hQ.symm)
   exact⟨r2,by simpa using r1⟩
  by_cases h1:er=0
  ·subst h1
   obtain⟨hR,h3⟩:=hn rfl
   have pv:=CG (xs:=ds++rd) (λx hx=>(zE7.1 hx).elim (g4 x) (hR x))
   simp only[not_true,if_false]at b
   have hS:dO 1 (ds.map λn=> [pI n]):=aD λ_=>rfl
   have hT:dO 1 (rd.map λn=> [pI n]):=aD λ_=>rfl
   have HT:=Lib.hid (show(ds.map λn=> [pI n])++(rd.map λn=> [pI n])=(ds++rd).map λn=> [pI n] by simp)
   by_cases G:Ad (ds++rd)=0
   ·rw[if_neg (zA5 G)]at b
    have R:=Yl g4 hR G h3 hD hC
    rw[G]at pv
    have h6:=el ds λx hx=>(g4 x hx).1
    obtain⟨N,hN⟩: ∃N:Nat,bl ds=N:=⟨(bl ds).toNat,by omega⟩
    have h9:N≤4096:=by omega
    have hp:=UD g3
    have HA:(kw ds).length=N:=by rw[Ke,hp,hN,zD1]
    have hA:((kw ds).length:Int)=N:=by omega
    have p1:=A4 ds
    have p2:=A4 rd
    have hU: ∀i (h:i<N),∀f:List Int→List PC,(List.map f (kw ds))[i]? =some (f (au ds (i:Int))):= λi h f=>by
     rw[ae (by omega:i<(kw ds).length),KX]
    obtain⟨⟨vsR,eo⟩,ho⟩: ∃y,y=Al M A env d ds rd:=⟨_,rfl⟩
    rw[←ho]at b
    unfold Al at ho
    rw[hN,zD1]at ho
    have HRo:Hid (Au (yU M A env d ds rd) d ds (N-0) 0 []=(vsR,eo)):=Lib.hid ho.symm
    have Z1:Hid (eo≠0→ress= [Pw,Pw,I eo]):= λh=>by rw[←b,if_pos h];exact if_pos h
    have Z2:Hid (eo=0→ress= [Nh (d.ty,ds,vsR.map (·.1)),Nh (tyF,ds,vsR.map (·.2)),I 0]):= λh=>by rw[←b,if_neg (zA5 h)];rfl
    have hV:= λenv2 hB J=>In (env:=env2) (A:=A) hM hw X hK R hB J Z.2 Y
    have HB:=R.2.2.1
    clear ho b hN hp hC hD hR G
    have h7:ds.length≤6:=by omega
    have h8:rd.length≤6:=by omega
    generalize kw ds=L at*
    refine bJ.ofZ (ress:=ress) jD zR6 λhb=>aa ?_
    clear hb
    conv in ir=>reduce;simp only[Int.reduceOfNat,Int.reduceNegSucc]
    repeat' first|simp(disch:=omega)only[go_sem,↓ai,aI,t,bU,u]|((with_reducible refine ab ?_ ?_)<;>intro h<;>try first|omega|simp(disch:=omega)only[go_sem,↓ai, *,aI,t,bU,u])|apply af|(with_reducible refine ag (λh=> ?_) ?_)|refine dH cD ?_|refine dH cX ?_|refine I9 hS zR8 zR8 ?_|refine aP rfl zS0 hT zR8 zR8 ?_|(rw[HT.out])|refine ak pv ?_|refine dH p1 ?_|refine dH p2 ?_|refine ak eN ?_
    all_goals first
     |refine fU 12 6 41 2 [.pure (pI d.ty.1),.pure (pI d.ty.2.1),.pure (pI d.ty.2.2.1),.pure (pI d.ty.2.2.2.1),.pure (pI d.ty.2.2.2.2),.pure (c6 ds),.nils] rfl rfl zR9 (fU 13 6 41 2 _ rfl rfl zR9 ?_)
     |refine fU 13 6 41 2 [.pure (pI d.ty.1),.pure (pI d.ty.2.1),.pure (pI d.ty.2.2.1),.pure (pI d.ty.2.2.2.1),.pure (pI d.ty.2.2.2.2),.pure (c6 ds),.nils] rfl rfl zR9 (fU 12 6 41 2 _ rfl rfl zR9 ?_)
    refine al (λs:Nat×List Du=>⟨[(1,bF mP env),(6,.c (.ptr 4 0)),(8,.c (.ptr 5 0)),(9,.c (.ptr 6 0)),(11,.c (.ptr 7 0)),(12,.c (.ptr 8 0)),(13,aF ds),(17,FS L),(18,FS (kw rd)),(19,.c (.ptr 9 0)),(20,.c (.ptr 10 0)),(21,I s.1)],mD p M A d ds s.2,13,4⟩) (λs=>s.1≤N∧s.2.length=s.1∧Hid (∀a∈s.2,jZ d.ty a)∧Hid (Au (yU M A env d ds rd) d ds (N-s.1) s.1 s.2=(vsR,eo))) (λs=>N-s.1) ⟨(0, []), [(4,5),(5,6),(6,7),(7,8),(8,9),(9,12),(10,13),(11,14),(12,15)],⟨by omega,rfl,λa ha=>(by cases ha),HRo⟩,by simp⟩ ?body
    rotate_left
    refine al (λs:Nat×List Du=>⟨[(1,bF mP env),(6,.c (.ptr 4 0)),(8,.c (.ptr 5 0)),(9,.c (.ptr 6 0)),(11,.c (.ptr 7 0)),(12,.c (.ptr 8 0)),(13,aF ds),(17,FS L),(18,FS (kw rd)),(19,.c (.ptr 9 0)),(20,.c (.ptr 10 0)),(21,I s.1)],mD p M A d ds s.2,13,4⟩) (λs=>s.1≤N∧s.2.length=s.1∧Hid (∀a∈s.2,jZ d.ty a)∧Hid (Au (yU M A env d ds rd) d ds (N-s.1) s.1 s.2=(vsR,eo))) (λs=>N-s.1) ⟨(0, []), [(4,5),(5,6),(6,7),(7,8),(8,9),(9,13),(10,12),(11,14),(12,15)],⟨by omega,rfl,λa ha=>(by cases ha),HRo⟩,by simp⟩ ?body
    case body=>
     clear HRo cD cX pv p1 p2 t u hS hT HT
     rintro⟨i,vs⟩ ⟨hi,C,z,hW⟩
     simp only at hi C z hW
     have hd:=hW.out
     clear hW
     by_cases hq:i<N
     ·have g:(au ds (i:Int)).length=ds.length:=aX _ _
      have hE: ∀x∈au ds (i:Int),aH x:= λx hx=>by
       obtain⟨j,hj,rfl⟩:=zC2.1 hx
       rw[aX]at hj
       have h1:=(uF (λx hx=>(g4 x hx).1) (i:Int)).2 j hj
       rw[zA7 (by rw[aX];exact hj),zA8,zA7 hj,zA8]at h1
       have h2:=g4 _ (zA6 hj)
       unfold aH
       omega
      have hg:=hU i hq
      have pb:=yp (l:=d.dims) (pt:=au ds (i:Int)) (rest:=env) (by rw[g,g5]) zR5 zR5
      have hB: ∀m∈dl d.dims (au ds (i:Int))++env,aH m.2:= λm hm=>by
       rcases zE7.1 hm with hm|hm
       ·obtain⟨y,hy,rfl⟩:=zE0.1 hm
        exact hE _ (zP1 hy).2
       ·exact he m hm
      have J:(dl d.dims (au ds (i:Int))++env).length≤1000:=by
       rw[zE8,z6 (by rw[g,g5])]
       omega
      have hr:yU M A env d ds rd i=Uz M A (dl d.dims (au ds (i:Int))++env) d rd:=rfl
      obtain⟨⟨w,e⟩,hX⟩: ∃y,y=yU M A env d ds rd i:=⟨_,rfl⟩
      rw[U0 hq hX.symm]at hd
      have o:TD d ds i↔d.fold=5∧0<(au ds (i:Int))[ds.length-1]?.getD 0:=Iff.rfl
      have D:= λh:TD d ds i=>Vz h
      generalize dl d.dims (au ds (i:Int))++env=env2 at*
      have pel:=hV env2 hB J
      have K:=ZP (A:=A) (env:=env2) (red:=rd) hM hw X Y (el rd λx hx=>(R.1 x hx).1)
      rw[←hr,←hX]at pel K
      simp only at pel K
      clear hU hV hr hX hB J hE hM hw X hK R he Y
      generalize au ds (i:Int)=pt at*
      generalize kw rd=LR at*
      obtain⟨x,hx,ht,hu⟩: ∃x:Du×Int,((e≠0∧x=(Vn,e))∨(e=0∧ ¬TD d ds i∧x=(w.2,0))∨(e=0∧TD d ds i∧ ∃j,∃h:j<vs.length,i=j+1∧ac Tryz.prog oU [I 1,mj d.ty,R2 vs[j],R2 w.2] (TR x)))∧
        (x.2≠0→eo=x.2)∧(x.2=0→jZ d.ty x.1∧Au (yU M A env d ds rd) d ds (N-(i+1)) (i+1) (vs++ [x.1])=(vsR,eo)):=by
       by_cases h0:e=0
       ·subst h0
        rw[if_neg zR6]at hd
        obtain⟨tw,v⟩:=w
        obtain⟨rfl,o2⟩:=K rfl
        simp only at o2
        by_cases hs:TD d ds i
        ·rw[if_pos hs]at hd
         have HC:=D hs
         obtain⟨j,rfl⟩: ∃j,i=j+1:=⟨i-1,by omega⟩
         have hY:j<vs.length:=by omega
         simp only[zK5,zA7 hY,zA8]at hd
         have oa:=z.out _ (zA6 hY)
         have pj:=ym (fold:=1) zR5 oa o2
         have T:=EA (fold:=1) oa o2
         obtain⟨⟨⟨tj,wj⟩,ej⟩,h4⟩: ∃y,y=fa 1 (d.ty,vs[j]) (d.ty,v):=⟨_,rfl⟩
         rw[←h4]at pj T hd
         simp only at pj T hd
         refine⟨(wj,ej),.inr (.inr ⟨rfl,hs,j,hY,rfl,pj⟩),λh=> ?_,λh=> ?_⟩
         ·rw[if_pos h]at hd
          exact(Prod.mk.inj hd).2.symm
         ·obtain rfl:ej=0:=h
          obtain⟨o1,o3⟩:=T rfl
          rw[if_neg zR6]at hd
          exact⟨o3,hd⟩
        ·rw[if_neg hs]at hd
         exact⟨(v,0),.inr (.inl ⟨rfl,hs,rfl⟩),λh=>absurd rfl h,λ_=>⟨o2,hd⟩⟩
       ·rw[if_pos h0]at hd
        exact⟨(Vn,e),.inl ⟨h0,rfl⟩,λ_=>(Prod.mk.inj hd).2.symm,λh=>absurd h h0⟩
      have O:=Lib.hid ht
      have P:=Lib.hid hu
      clear ht hu hd K
      refine Q9 ⟨[(1,bF mP env),(6,.c (.ptr 4 0)),(8,.c (.ptr 5 0)),(9,.c (.ptr 6 0)),(11,.c (.ptr 7 0)),(12,.c (.ptr 8 0)),(13,aF ds),(17,FS L),(18,FS LR),(19,.c (.ptr 9 0)),(20,.c (.ptr 10 0)),(21,I i)],mD p M A d ds vs,13,4⟩ ?_ (Cw (Ml ?_))
      ·clear hx O P o D g z pb pel q g4 g5 hJ Z hG C
       repeat' first|simp(disch:=omega)only[go_sem,↓ai,hA]|((with_reducible refine ab ?_ ?_)<;>intro h<;>try first|omega|simp(disch:=omega)only[go_sem,↓ai, *,hA])
       all_goals exact⟨[],by simp⟩
      obtain⟨w0,E⟩: ∃w0,w0=(if e=0 then w.2 else Vn):=⟨_,rfl⟩
      rw[←E]at pel
      refine Q9 ⟨(22,.c (.ptr 13 0))::(23,I e):: [(1,bF mP env),(6,.c (.ptr 4 0)),(8,.c (.ptr 5 0)),(9,.c (.ptr 6 0)),(11,.c (.ptr 7 0)),(12,.c (.ptr 8 0)),(13,aF ds),(17,FS L),(18,FS LR),(19,.c (.ptr 9 0)),(20,.c (.ptr 10 0)),(21,I i)],(13,bDu w0)::mD p M A d ds vs,14,4⟩ ?_ ?_
      ·clear hx O P o D g z q g4 g5 hJ Z hG C E
       repeat' first|simp(disch:=omega)only[go_sem,↓ai,hg]|((with_reducible refine ab ?_ ?_)<;>intro h<;>try first|omega|simp(disch:=omega)only[go_sem,↓ai, *,hg])|apply af|(with_reducible refine ag (λh=> ?_) ?_)|refine dH pb ?_|refine ak pel ?_
       all_goals exact⟨[],by simp⟩
      ·clear pb pel
       refine PS ⟨(22,.c (.ptr 13 0))::(23,I x.2):: [(1,bF mP env),(6,.c (.ptr 4 0)),(8,.c (.ptr 5 0)),(9,.c (.ptr 6 0)),(11,.c (.ptr 7 0)),(12,.c (.ptr 8 0)),(13,aF ds),(17,FS L),(18,FS LR),(19,.c (.ptr 9 0)),(20,.c (.ptr 10 0)),(21,I i)],(13,bDu x.1)::mD p M A d ds vs,14,4⟩ ?_ ?_
       ·have Q:ds.length=pt.length:=g.symm
        have HE:pt.length≤6:=by omega
        have v0:(ds.length:Int)=pt.length:=by omega
        clear O P hJ Z hG g4 z
        obtain⟨tw,⟨w1,w2⟩,w3,w4⟩:=w
        have v1:IntKind.wrap .i64 ((ds.length:Int)-1)=(ds.length:Int)-1:=wrap_i64 zR5
        rcases hx with⟨h0,rfl⟩|⟨rfl,hs,rfl⟩|⟨rfl,hs,j,hj,rfl,pj⟩
        ·clear o D g C Q q g5
         rw[if_neg h0]at E
         subst E
         repeat' first|simp(disch:=omega)only[go_sem,↓ai,h0,v1]|((with_reducible refine ab ?_ ?_)<;>intro h<;>try first|omega|simp(disch:=omega)only[go_sem,↓ai, *,h0,v1])
         all_goals exact⟨[],by simp⟩
        ·rw[if_pos rfl]at E
         subst E
         by_cases h5:d.fold=5
         ·obtain⟨L',hL⟩: ∃L',pt.length=L'+1:=⟨pt.length-1,by omega⟩
          have H:L'<pt.length:=by omega
          have v2:(ds.length:Int)-1=(L':Int):=by omega
          rw[Q,hL,zK5,zA7 H,zA8]at o
          have hz: ¬0<pt[L']:= λh=>hs (o.2 ⟨h5,h⟩)
          have F:decide (d.fold=5)=true:=zB1 h5
          have V:decide (0<pt[L'])=false:=zA9 hz
          clear o D hs g C Q q g5 h5 hL hz
          replace v1:=v1.trans v2
          repeat' first|simp(disch:=omega)only[go_sem,↓ai,v1,hg,ae H,F,V]|((with_reducible refine ab ?_ ?_)<;>intro h<;>try first|omega|simp(disch:=omega)only[go_sem,↓ai, *,v1,hg,ae H,F,V])
          all_goals exact⟨[],by simp⟩
         ·have F:decide (d.fold=5)=false:=zA9 h5
          clear o D hs g C Q q g5 h5
          repeat' first|simp(disch:=omega)only[go_sem,↓ai,v1,F]|((with_reducible refine ab ?_ ?_)<;>intro h<;>try first|omega|simp(disch:=omega)only[go_sem,↓ai, *,v1,F])
          all_goals exact⟨[],by simp⟩
        ·rw[if_pos rfl]at E
         subst E
         obtain⟨h5,hz⟩:=o.1 hs
         obtain⟨L',hL⟩: ∃L',pt.length=L'+1:=⟨pt.length-1,by omega⟩
         have H:L'<pt.length:=by omega
         have v2:(ds.length:Int)-1=(L':Int):=by omega
         rw[Q,hL,zK5,zA7 H,zA8]at hz
         have v3:IntKind.wrap .i64 (((j+1:Nat):Int)-1)=(j:Int):=by rw[wrap_i64 zR5];omega
         have F:decide (d.fold=5)=true:=zB1 h5
         have V:decide (0<pt[L'])=true:=zB1 hz
         obtain⟨⟨⟨x6,x7⟩,x8,x9⟩,xe⟩:=x
         clear o D hs g C Q q g5 h5 hL hz
         replace v1:=v1.trans v2
         repeat' first|simp(disch:=omega)only[go_sem,↓ai,v1,v3,hg,ae H,F,V,ae hj]|((with_reducible refine ab ?_ ?_)<;>intro h<;>try first|omega|simp(disch:=omega)only[go_sem,↓ai, *,v1,v3,hg,ae H,F,V,ae hj])|apply af|(with_reducible refine ag (λh=> ?_) ?_)|refine ak pj ?_
         all_goals exact⟨[],by simp⟩
       ·clear hx o D g
        obtain⟨v,ex⟩:=x
        by_cases h0:ex=0
        ·subst h0
         obtain⟨o3,hd⟩:=P.out rfl
         have HD:=Lib.hid hd
         have HO:Hid (∀a∈vs++ [v],jZ d.ty a):= λa ha=>(zE7.1 ha).elim (z.out a) λh=>by rw[zG1.1 h];exact o3
         have HT1:=Lib.hid (show(vs.map λv=>ln v.1)++ [[pI v.1.1,pI v.1.2]]=(vs++ [v]).map λv=>ln v.1 by rw[zC8];rfl)
         have HT2:=Lib.hid (show(vs.map λv=>ln v.2)++ [[pI v.2.1,pI v.2.2]]=(vs++ [v]).map λv=>ln v.2 by rw[zC8];rfl)
         have w2:IntKind.wrap .i64 ((i:Int)+1)=(i:Int)+1:=wrap_i64 zR5
         clear O P z o3 hd Z1 Z2
         obtain⟨⟨v1,v2⟩,v3,v4⟩:=v
         refine lT (aa ?_)
         repeat' first|simp(disch:=omega)only[go_sem,↓ai,w2]|((with_reducible refine ab ?_ ?_)<;>intro h<;>try first|omega|simp(disch:=omega)only[go_sem,↓ai, *,w2])|apply af|(with_reducible refine ag (λh=> ?_) ?_)|refine aP rfl zS0 (aE rfl) zR8 zR8 ?_
         all_goals
          refine(show AW _ _ _ _ _ from aa ?_)
          simp(disch:=omega)only[go_sem,↓ai,w2]
          simp only at HT1 HT2
          rw[HT1.out,HT2.out]
          exact⟨(i+1,vs++ [((v1,v2),v3,v4)]), [(11,14),(12,15)],⟨by show i+1≤N;omega,by simp[C],HO,HD⟩,by show _-_<_-_;omega,by simp⟩
        ·obtain rfl:=O.out h0
         obtain rfl:=Z1.out h0
         clear O P z Z1 Z2
         refine aa ?_
         repeat' first|simp(disch:=omega)only[go_sem,↓ai,h0]|((with_reducible refine ab ?_ ?_)<;>intro h<;>try first|omega|simp(disch:=omega)only[go_sem,↓ai, *,h0])|apply af|(with_reducible refine ag (λh=> ?_) ?_)
         all_goals
          refine⟨[], [], ?_⟩
          simp(disch:=omega)only[go_sem,↓ai,bM]
          simp[h0]
     ·rw[Te zR5]at hd
      obtain⟨rfl,rfl⟩:=Prod.mk.inj hd
      obtain rfl:=Z2.out rfl
      clear Z1 Z2 hd hU hV hM hw X hK R he Y z
      refine aa ?_
      repeat' first|simp(disch:=omega)only[go_sem,↓ai,hA]|((with_reducible refine ab ?_ ?_)<;>intro h<;>try first|omega|simp(disch:=omega)only[go_sem,↓ai, *,hA])|apply af|(with_reducible refine ag (λh=> ?_) ?_)
      all_goals
       refine⟨[11,12], [], ?_⟩
       simp(disch:=omega)only[go_sem,↓ai,bM,St.frz,L5,HJ,Mh,BZ,Om,ar,zB8,zC9]
       simp[bM,St.frz,L5,HJ,Mh,BZ,Om,ar,zH3]
   ·rw[if_pos G]at b
    have W:ress= [Pw,Pw,I 2]:=by rw[←b];exact if_pos zR9
    subst W
    refine bJ.ofZ (ress:= [Pw,Pw,I 2]) jD zR6 λhb=>aa ?_
    clear hb b
    conv in ir=>reduce;simp only[Int.reduceOfNat,Int.reduceNegSucc]
    repeat' first|simp(disch:=omega)only[go_sem,↓ai,aI,t,bU,u,G]|((with_reducible refine ab ?_ ?_)<;>intro h<;>try first|omega|simp(disch:=omega)only[go_sem,↓ai, *,aI,t,bU,u,G])|apply af|(with_reducible refine ag (λh=> ?_) ?_)|refine dH cD ?_|refine dH cX ?_|refine I9 hS zR8 zR8 ?_|refine aP rfl zS0 hT zR8 zR8 ?_|(rw[HT.out])|refine ak pv ?_
    all_goals
     refine⟨[], [], ?_⟩
     simp(disch:=omega)only[go_sem,↓ai,bM]
     simp
  ·have W:ress= [Pw,Pw,I er]:=by rw[←b,if_pos h1];exact if_pos h1
   subst W
   refine bJ.ofZ (ress:= [Pw,Pw,I er]) jD zR6 λhb=>aa ?_
   clear hb b
   conv in ir=>reduce;simp only[Int.reduceOfNat,Int.reduceNegSucc]
   repeat' first|simp(disch:=omega)only[go_sem,↓ai,aI,t,bU,u,h1]|((with_reducible refine ab ?_ ?_)<;>intro h<;>try first|omega|simp(disch:=omega)only[go_sem,↓ai, *,aI,t,bU,u,h1])|apply af|(with_reducible refine ag (λh=> ?_) ?_)|refine dH cD ?_|refine dH cX ?_
   all_goals
    refine⟨[], [], ?_⟩
    simp(disch:=omega)only[go_sem,↓ai,bM]
    simp
 ·have W:ress= [Pw,Pw,I e]:=by rw[←b,if_pos h0];exact if_pos h0
  subst W
  refine bJ.ofZ (ress:= [Pw,Pw,I e]) jD zR6 λhb=>aa ?_
  clear hb b
  conv in ir=>reduce;simp only[Int.reduceOfNat,Int.reduceNegSucc]
  repeat' first|simp(disch:=omega)only[go_sem,↓ai,aI,t,bU,u,h0]|((with_reducible refine ab ?_ ?_)<;>intro h<;>try first|omega|simp(disch:=omega)only[go_sem,↓ai, *,aI,t,bU,u,h0])|apply af|(with_reducible refine ag (λh=> ?_) ?_)|refine dH cD ?_
  all_goals
   refine⟨[], [], ?_⟩
   simp(disch:=omega)only[go_sem,↓ai,bM]
   simp
