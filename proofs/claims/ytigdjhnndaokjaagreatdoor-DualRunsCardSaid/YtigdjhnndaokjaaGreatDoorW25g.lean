import Derived.Test.YtigdjhnndaokjaaGreatDoorW25e
import Derived.Test.YtigdjhnndaokjaaGreatDoorV17x
set_option linter.unusedVariables false
set_option linter.unusedSimpArgs false
set_option maxHeartbeats 4000000
set_option maxRecDepth 1000000
open Go.Proofs.Tryz renaming prog→Pa0
namespace Go.Proofs.YtigdjhnndaokjaaGreatDoor
open Go.Abs Go.RowKit
theorem LQ {t:Ty} {ds:List Int} {v:Fr} (ht:cj t) (hd:yk ds=0) (hv:aK t v):ac Pa0 vY [mj t,aF ds,eX v] (.tup [Nh (t,ds,List.replicate (bl ds).toNat v),I 0]):=by
 refine ac.of M5 zR6 λhb=>aa ?_
 have p1:=aY t
 rw[zB1 ht]at p1
 have p2:=wL ds
 rw[hd]at p2
 have p3:=eZ ht (dt ht hv)
 rw[zB1 hv]at p3
 have p4:=xo hd
 have hg:=b8 hd
 have hp:=el ds hg.pos
 have hU:=hg.le
 obtain⟨N,hN⟩: ∃N:Nat,bl ds=N:=⟨(bl ds).toNat,by omega⟩
 rw[hN]at p4 hU ⊢
 rw[zD1]
 clear hg hp hN ht hv hd hb
 obtain⟨k,bb,f,r,o⟩:=t
 obtain⟨n,d⟩:=v
 conv in D7=>cbv
 repeat' first|simp(disch:=omega)only[go_sem,↓ai, *]|apply zA1<;>intro h<;>try omega|refine ak p1 ?_|refine ak p2 ?_|refine ak p3 ?_
 refine fU 3 6 41 2 _ rfl rfl zR9 ?_
 refine al (λj:Nat=>⟨[(1,aF ds),(5,.c (.ptr 1 0)),(6,.c (.ptr 2 0)),(9,.c (.ptr 3 0)),(10,I j)], [(4,.arr 41 2 ((List.replicate j (n,d)).map ln)),(3,.var [.pure (pI k),.pure (pI bb),.pure (pI f),.pure (pI r),.pure (pI o),.pure (c6 ds),.ref 4]),(2,.var [i_ 0,i_ 0,i_ 0,i_ 0,i_ 0,.nils,.nils]),(1,.var [.pure (pI n),.pure (pI d)])],5,0⟩) (λj=>j≤N) (λj=>N-j) ⟨0, [],by omega,by simp⟩ ?_
 intro j hj
 refine aa ?_
 by_cases b:j<N
 ·have HT:=Lib.hid (show(List.replicate j (n,d)).map ln++ [[pI n,pI d]]=(List.replicate (j+1) (n,d)).map ln by rw[List.replicate_succ',zC8];rfl)
  have w1:IntKind.wrap .i64 ((j:Int)+1)=(j:Int)+1:=wrap_i64 zR5
  repeat' first|simp(disch:=omega)only[go_sem,↓ai, *,w1]|apply zA1<;>intro h<;>try omega|refine ak p4 ?_|refine aP rfl zS0 (aE rfl) zR8 zR8 ?_
  all_goals
   rw[HT.out]
   exact⟨j+1, [(4,5)],by omega,by show _-_<_-_;omega,by simp⟩
 ·have:j=N:=by omega
  subst this
  repeat' first|simp(disch:=omega)only[go_sem,↓ai, *]|apply zA1<;>intro h<;>try omega|refine ak p4 ?_
variable {env:List aG}
def sG9 (P:Program) (n:Nat) (o:Array Oper) (d:Bool):aj:=((gL P d n o o.toList).map λg=>nf P d o.toList g).getD .skip
def sX9 (c:Operand):AX:=(aC c).getD (.t 0)
noncomputable def sT9 (P:Program) (n:Nat):Code→aj
 |.region _ o d=>sG9 P n o d
 |.seq a b=>.seq (sT9 P n a) (sT9 P n b)
 |.cond c a b=>.cond (sX9 c) (sT9 P n a) (sT9 P n b)
 |.block i a=>.block i (sT9 P n a)
 |.loop a=>.loop (sT9 P n a)
 |.exit i=>.exit i
 |.ret=>.ret
 |_=>.skip
theorem qGW9:GW=sT9 Tryz.prog 269 (Tryz.f7.body.getD .skip):=by kernel_rfl
set_option maxHeartbeats 8000000 in
theorem Oq {p:bu} {ins along:List Nm} (hf:iD p) (D:m9 p) (hL:Et p) (he: ∀m∈env,aH m.2) (F:env.length≤500) (hi: ∀x∈ins,∀a∈x.2.2.2,bD a) (ha: ∀x∈along,∀a∈x.2.2.2,bD a):ac Pa0 xw [fL p,bF mP env,bF d7 ins,bF d7 along] (aeq (rnS p env ins along)):=by
 refine ac.of QM zR6 λhb=> ?_
 have cF:=rH hf D
 rw[qGW9]
 simp only[Tryz.f7,sT9,Option.getD_some]
 conv in (occs:=*) sG9 _ _ _ _=>all_goals cbv
 conv in (occs:=*) sX9 _=>all_goals cbv
 clear hb
 unfold rnS
 by_cases h0:(FP p).2=0
 ·rw[if_neg (zA5 h0)]
  have hv:(bA p).2=0:=zD5 λh=>h (by rw[←EZ h];exact h0)
  have cS:=nn (p:=p) (env:=env) hL.1 he
  rw[h0]at cF
  by_cases h1:DY p env=0
  ·rw[if_neg (zA5 h1)]
   rw[h1]at cS
   have hV:=(gZ hv).1
   unfold gE at hV
   have cD:= λs=>xK (p:=p) (s:=s) hf D hL he
   have cI:= λ(s:ByteArray) (t:Ty) (ds:List Int)=>JF (L:=ins) (s:=s) (t:=t) (ds:=ds) hi
   have pC:= λ(M A:List Nm) (k:Nat) (hk:k<p.defs.length) (hI:mI p k M A)=>F9 hv hf D hL he F hk hI
   clear hf D hL he F hi
   obtain⟨⟨MP,e1⟩,hP⟩: ∃y,nk p env ins p.params []=y:=⟨_,rfl⟩
   simp only[hP]
   have HP:Hid (nk p env ins (p.params.drop 0) []=(MP,e1)):=hP
   clear hP
   refine aa ?_
   repeat' first|simp(disch:=omega)only[go_sem,↓ai, *]|apply zA1<;>intro h<;>try omega|refine ak cF ?_|refine ak cS ?_
   clear cF cS
   refine fU 1 0 76 8 _ rfl rfl zR9 ?_
   refine fU 1 1 76 8 _ rfl rfl zR9 ?_
   refine al (λs:Nat×List Nm=>⟨[(1,bF mP env),(2,bF d7 ins),(3,bF d7 along),(4,.c (.ptr 0 0)),(14,.c (.ptr 1 0)),(15,I s.1)],mS p s.2 [],4,0⟩) (λs=>s.1≤p.params.length∧NK p s.1 s.2∧Hid (nk p env ins (p.params.drop s.1) s.2=(MP,e1))) (λs=>p.params.length-s.1) ⟨(0, []), [],⟨by omega,NK.nil p,HP⟩,by simp⟩ ?_
   clear HP
   rintro⟨j,M⟩ ⟨hj,hI,hr⟩
   simp only at hj hI hr
   have hd:=hr.out
   clear hr
   by_cases b:j<p.params.length
   ·have c1:=cD p.params[j].1
    have c2:= λds=>cI p.params[j].1 p.params[j].2.1 ds
    have c3:=dW ins p.params[j].1
    have g:= λh1 h2=>hI.step (env:=env) (ins:=ins) hv b h1 h2
    have hg: ∀f:gV→List PC,(p.params.map f)[j]? =some (f p.params[j]):= λf=>ae b
    have w1:IntKind.wrap .i64 ((j:Int)+1)=(j:Int)+1:=wrap_i64 zR5
    have hG:=hI.len hj
    rw[P5 b]at hd
    clear cD cI hI pC
    generalize p.params[j]=x at*
    obtain⟨⟨ds,e⟩,hJ⟩: ∃y,y=jV p env x.1:=⟨_,rfl⟩
    rw[←hJ]at c1 g hd
    clear hJ
    simp only at c1 g hd
    replace c2:=c2 ds
    obtain⟨e',W⟩: ∃e',e'=gP ins x.1 x.2.1 ds:=⟨_,rfl⟩
    rw[←W]at c2 g hd
    have X:e'=0→(bm ins x.1).isSome=true:= λh=>by
     obtain⟨T,t1,_⟩:=Qo (L:=ins) (s:=x.1) (t:=x.2.1) (ds:=ds) (by rw[←W];exact h)
     rw[t1]
     rfl
    clear W
    obtain⟨T,hT⟩: ∃T,T=(bm ins x.1).getD MD:=⟨_,rfl⟩
    rw[←hT]at c3 g hd
    clear hT
    generalize (bm ins x.1).isSome=fb at*
    obtain⟨n,⟨t1,t2,t3,t4,t5⟩,fs⟩:=x
    simp only at c1 c2 c3 g hd
    by_cases h0:e=0
    ·subst h0
     by_cases h1:e'=0
     ·subst h1
      rw[if_neg zR6,if_neg zR6]at hd
      have HD:=Lib.hid hd
      have hI:=g rfl rfl
      clear hd g X
      obtain⟨⟨u1,u2,u3,u4,u5⟩,es,vs⟩:=T
      have HT:=Lib.hid (show M.map d7++ [[pS n,pI u1,pI u2,pI u3,pI u4,pI u5,c6 es,dp ln vs]]=(M++ [(n,(u1,u2,u3,u4,u5),es,vs)]).map d7 by simp)
      refine lT (aa ?_)
      repeat' first|simp(disch:=omega)only[go_sem,↓ai, *,hg,ef,w1]|apply zA1<;>intro h<;>try omega|refine dH c1 ?_|refine dH c2 ?_|refine dH c3 ?_|refine aP rfl zS0 (aE rfl) zR8 zR8 ?_
      all_goals
       rw[HT.out]
       exact⟨(j+1,M++ [(n,(u1,u2,u3,u4,u5),es,vs)]), [(2,6)],⟨by show j+1≤_;omega,hI,HD⟩,by show _-_<_-_;omega,by simp⟩
     ·rw[if_neg zR6,if_pos h1]at hd
      obtain⟨rfl,rfl⟩:=Prod.mk.inj hd
      rw[if_pos h1]
      clear hd g X
      refine aa ?_
      repeat' first|simp(disch:=omega)only[go_sem,↓ai, *,hg,ef,h1]|apply zA1<;>intro h<;>try omega|refine dH c1 ?_|refine dH c2 ?_
      all_goals rfl
    ·rw[if_pos h0]at hd
     obtain⟨rfl,rfl⟩:=Prod.mk.inj hd
     rw[if_pos h0]
     clear hd g X
     refine aa ?_
     repeat' first|simp(disch:=omega)only[go_sem,↓ai, *,hg,ef,h0]|apply zA1<;>intro h<;>try omega|refine dH c1 ?_
     all_goals rfl
   ·rw[MC zR5]at hd
    obtain⟨rfl,rfl⟩:=Prod.mk.inj hd
    rw[if_neg zR6]
    obtain rfl:j=p.params.length:=by omega
    obtain⟨⟨AP,e2⟩,hA⟩: ∃y,GT along M []=y:=⟨_,rfl⟩
    simp only[hA]
    have HA:Hid (GT along (M.drop 0) []=(AP,e2)):=hA
    clear hd hA cD cI
    refine aa ?_
    repeat' first|simp(disch:=omega)only[go_sem,↓ai, *]|apply zA1<;>intro h<;>try omega
    have Y:=hI.nd hv
    have Z:=hI.all
    have hG:=hI.len (zB2 _)
    refine al (λs:Nat×List Nm=>⟨[(1,bF mP env),(3,bF d7 along),(4,.c (.ptr 0 0)),(14,.c (.ptr 1 0)),(22,I s.1)],mS p M s.2,4,0⟩) (λs=>s.1≤p.params.length∧s.2.length≤s.1∧alI M s.1 s.2∧Hid (GT along (M.drop s.1) s.2=(AP,e2))) (λs=>p.params.length-s.1) ⟨(0, []), [],⟨by omega,by simp,alI.nil M,HA⟩,by simp⟩ ?_
    clear HA b hj
    rintro⟨j,A⟩ ⟨hj,hB,C,hr⟩
    simp only at hj hB C hr
    have hd:=hr.out
    clear hr
    by_cases b:j<p.params.length
    ·have E:j<M.length:=by omega
     have H:= λh=>C.skip E h
     have g:= λ(U:Tn) h=>C.step (U:=U) Y E h
     have G:=Z _ (zA6 E)
     have hz:=LY G
     have hK:M[j].1=p.params[j].1:=by
      have:(M.map (·.1))[j]'(by simpa using E)=((p.params.take p.params.length).map (·.1))[j]'(by simpa using b):=by simp only[hI.1]
      simpa using this
     have hM:=(hI.2 j E b).1
     have hg: ∀f:gV→List PC,(p.params.map f)[j]? =some (f p.params[j]):= λf=>ae b
     have J: ∀f:Nm→List PC,(M.map f)[j]? =some (f M[j]):= λf=>ae E
     have K:(M.length:Int)=p.params.length:=by omega
     rw[UP E]at hd
     clear hI Z C pC Y
     generalize M[j]=y at*
     generalize p.params[j]=x at*
     obtain⟨n,⟨t1,t2,t3,t4,t5⟩,fs⟩:=x
     obtain⟨n',T,es,vs⟩:=y
     simp only at hK hM
     subst hK hM
     have w1:IntKind.wrap .i64 ((j:Int)+1)=(j:Int)+1:=wrap_i64 zR5
     simp only at hd H g G hz
     obtain⟨k1,k2,k3,k4⟩:=fY G
     by_cases ht:t1=1
     ·rw[if_neg (zA5 ht)]at hd
      have c1:=dW along n'
      obtain⟨rfl,rfl,rfl,rfl,rfl⟩:t1=1∧t2=0∧t3=0∧t4=0∧t5=0:=by
       unfold cj at k1
       simp only at k1
       omega
      cases w:bm along n' with
      |none=>
       rw[KW w]at hd
       rw[w]at c1
       simp only[zD3,zM1]at c1
       have cF:=LQ (t:=(1,0,0,0,0)) (ds:=es) (v:=z1) k1 k2 ((zB rfl).2 Jh)
       have O:=g (ot ((1,0,0,0,0),es,vs)) rfl ⟨rfl,rfl,hz rfl⟩
       have HD:=Lib.hid hd
       have HT:=Lib.hid (show A.map d7++ [[pS n',pI 1,pI 0,pI 0,pI 0,pI 0,c6 es,dp ln (List.replicate (bl es).toNat z1)]]=(A++ [(n',ot ((1,0,0,0,0),es,vs))]).map d7 by simp[ot])
       clear hd g H hz G k1 k2 k3 k4 w
       refine lT (aa ?_)
       repeat' first|simp(disch:=omega)only[go_sem,↓ai, *,hg,ef,J,d7,K,w1]|apply zA1<;>intro h<;>try omega|refine dH c1 ?_|refine dH cF ?_|refine ak cp ?_|refine ak eN ?_|refine aP rfl zS0 (aE rfl) zR8 zR8 ?_
       all_goals
        rw[HT.out]
        exact⟨(j+1,A++ [(n',ot ((1,0,0,0,0),es,vs))]), [(3,6)],⟨by show j+1≤_;omega,by simp;omega,O,HD⟩,by show _-_<_-_;omega,by simp⟩
      |some U=>
       rw[K0 w]at hd
       rw[w]at c1
       simp only[zA8,zF3]at c1
       have c2:=jQ (x:=U) (ha _ (FE w))
       have c3:=te U.2.1 es
       have hQ:gP along n' (1,0,0,0,0) es=if d9 U≠0 then 1 else if U.1≠(1,0,0,0,0)then 10 else if U.2.1≠es then 15 else 0:=by unfold gP;rw[w]
       simp only at hd
       rw[hQ]at hd
       clear hz G k1 k2 k3 k4 w hQ H
       obtain⟨⟨u1,u2,u3,u4,u5⟩,us,ws⟩:=U
       simp only at c3 hd
       by_cases g1:d9 ((u1,u2,u3,u4,u5),us,ws)=0
       ·rw[g1]at c2
        simp only[g1,ne_eq,not_true,if_false]at hd
        by_cases g2:(u1,u2,u3,u4,u5)=(1,0,0,0,0)
        ·rw[if_neg (zA5 g2)]at hd
         simp only[Prod.mk.injEq]at g2
         obtain⟨rfl,rfl,rfl,rfl,rfl⟩:=g2
         by_cases g3:us=es
         ·subst g3
          rw[zB1 rfl]at c3
          simp only[not_true,if_false]at hd
          have O:=g ((1,0,0,0,0),us,ws) rfl ⟨rfl,rfl,g1⟩
          have HD:=Lib.hid hd
          have HT:=Lib.hid (show A.map d7++ [[pS n',pI 1,pI 0,pI 0,pI 0,pI 0,c6 us,dp ln ws]]=(A++ [(n',(1,0,0,0,0),us,ws)]).map d7 by simp)
          clear hd g g1
          refine lT (aa ?_)
          repeat' first|simp(disch:=omega)only[go_sem,↓ai, *,hg,ef,J,d7,K,w1]|apply zA1<;>intro h<;>try omega|refine dH c1 ?_|refine ak c2 ?_|refine ak c3 ?_|refine ak eN ?_|refine aP rfl zS0 (aE rfl) zR8 zR8 ?_
          all_goals
           rw[HT.out]
           exact⟨(j+1,A++ [(n',(1,0,0,0,0),us,ws)]), [(3,6)],⟨by show j+1≤_;omega,by simp;omega,O,HD⟩,by show _-_<_-_;omega,by simp⟩
         ·rw[zA9 g3]at c3
          simp only[g3,not_false_eq_true,if_true]at hd
          rw[if_pos zR9]at hd
          obtain⟨rfl,rfl⟩:=Prod.mk.inj hd
          rw[if_pos zR9]
          clear hd g g1 g3
          refine aa ?_
          repeat' first|simp(disch:=omega)only[go_sem,↓ai, *,hg,ef,J,d7,K]|apply zA1<;>intro h<;>try omega|refine dH c1 ?_|refine ak c2 ?_|refine ak c3 ?_|refine ak eN ?_
          all_goals rfl
        ·rw[if_pos g2,if_pos zR9]at hd
         obtain⟨rfl,rfl⟩:=Prod.mk.inj hd
         rw[if_pos zR9]
         simp only[Prod.mk.injEq]at g2
         clear hd g g1 c3
         refine aa ?_
         repeat' first|simp(disch:=omega)only[go_sem,↓ai, *,hg,ef,J,d7,K]|apply zA1<;>intro h<;>try omega|refine dH c1 ?_|refine ak c2 ?_|refine ak eN ?_
         all_goals rfl
       ·rw[if_pos g1,if_pos zR9]at hd
        obtain⟨rfl,rfl⟩:=Prod.mk.inj hd
        rw[if_pos zR9]
        clear hd g c3
        refine aa ?_
        repeat' first|simp(disch:=omega)only[go_sem,↓ai, *,hg,ef,J,d7,K,g1]|apply zA1<;>intro h<;>try omega|refine dH c1 ?_|refine ak c2 ?_
        all_goals rfl
     ·rw[if_pos ht]at hd
      have O:=H ht
      have HD:=Lib.hid hd
      clear hd g H hz G k1 k2 k3 k4
      refine lT (aa ?_)
      repeat' first|simp(disch:=omega)only[go_sem,↓ai, *,hg,ef,ht,w1]|apply zA1<;>intro h<;>try omega
      exact⟨(j+1,A), [],⟨by show j+1≤_;omega,by show A.length≤j+1;omega,O,HD⟩,by show _-_<_-_;omega,by simp⟩
    ·rw[PX zR5]at hd
     obtain⟨rfl,rfl⟩:=Prod.mk.inj hd
     rw[if_neg zR6]
     obtain rfl:j=p.params.length:=by omega
     rw[hG.symm]at C
     have hS:=mI.first hv hI C
     obtain⟨R,hR⟩: ∃R,Tz p env p.defs M A=R:=⟨_,rfl⟩
     simp only[hR]
     have HR:Hid (Tz p env (p.defs.drop 0) M A=R):=hR
     clear hR hd C hI Z Y ha
     refine aa ?_
     repeat' first|simp(disch:=omega)only[go_sem,↓ai, *]|apply zA1<;>intro h<;>try omega
     refine al (λs:Nat×List Nm×List Nm=>⟨[(1,bF mP env),(4,.c (.ptr 0 0)),(14,.c (.ptr 1 0)),(26,I s.1)],mS p s.2.1 s.2.2,4,0⟩) (λs=>s.1≤p.defs.length∧s.2.1.length≤64+s.1∧s.2.2.length≤64+s.1∧mI p s.1 s.2.1 s.2.2∧Hid (Tz p env (p.defs.drop s.1) s.2.1 s.2.2=R)) (λs=>p.defs.length-s.1) ⟨(0,M,A), [],⟨by omega,by simp;omega,by simp;omega,hS,HR⟩,by simp⟩ ?_
     clear HR hS
     rintro⟨j,M,A⟩ ⟨hj,hW,hB,hI,hr⟩
     simp only at hj hW hB hI hr
     have hd:=hr.out
     clear hr
     by_cases b:j<p.defs.length
     ·rw[XA b]at hd
      have pD:=pC M A j b hI
      have g:= λx=>hI.step (x:=x) (env:=env) hv b
      have Q:=(Cg hv b).2.2.1
      have hg: ∀f:lH→List PC,(p.defs.map f)[j]? =some (f p.defs[j]):= λf=>ae b
      have w1:IntKind.wrap .i64 ((j:Int)+1)=(j:Int)+1:=wrap_i64 zR5
      clear pC
      generalize p.defs[j]=d at*
      obtain⟨⟨⟨ds,vs⟩,e⟩,hx⟩: ∃y,Rk p env M A d=y:=⟨_,rfl⟩
      rw[hx]at pD hd
      simp only[hx]at g
      simp only at hd
      clear hx hI
      by_cases z:e=0
      ·subst z
       rw[show abM d ((ds,vs),0)= [Nh (d.ty,ds,vs.map (·.1)),Nh (tyF,ds,vs.map (·.2)),I 0]from rfl]at pD
       replace pD:bJ Pa0 iA [fL p,bF mP env,.agg [.ref 2,.ref 3],I j] (mS p M A) 4 (.tup [Nh (d.ty,ds,vs.map (·.1)),Nh (tyF,ds,vs.map (·.2)),I 0]) (mS p M A) 4:=pD
       rw[if_neg zR6]at hd
       have C:=g (ds,vs) rfl
       clear g
       have HT1:=Lib.hid (show M.map d7++ [[pS d.name,pI d.ty.1,pI d.ty.2.1,pI d.ty.2.2.1,pI d.ty.2.2.2.1,pI d.ty.2.2.2.2,c6 ds,dp ln (vs.map (·.1))]]=(M++ [Xu d (ds,vs)]).map d7 by simp[Xu])
       by_cases ht:d.ty.1=1
       ·obtain⟨y1,y2,y3,y4⟩:d.ty.2.1=0∧d.ty.2.2.1=0∧d.ty.2.2.2.1=0∧d.ty.2.2.2.2=0:=by
         unfold cj at Q
         omega
        rw[if_pos ht]at hd C
        have HD:=Lib.hid hd
        have HT2:=Lib.hid (show A.map d7++ [[pS d.name,pI 1,pI 0,pI 0,pI 0,pI 0,c6 ds,dp ln (vs.map (·.2))]]=(A++ [nmT d (ds,vs)]).map d7 by simp[nmT,ht,y1,y2,y3,y4])
        clear hd Q y1 y2 y3 y4
        have hC:decide (d.ty.1=1)=true:=zB1 ht
        clear ht
        refine lT (aa ?_)
        repeat' first|simp(disch:=omega)only[go_sem,↓ai, *,hg,bU,w1,hC]|apply zA1<;>intro h<;>try omega|refine bN pD ?_|refine aP rfl zS0 (aE rfl) zR8 zR8 ?_
        all_goals
         rw[HT1.out,HT2.out]
         exact⟨(j+1,M++ [Xu d (ds,vs)],A++ [nmT d (ds,vs)]), [(2,6),(3,7)],⟨by show j+1≤_;omega,by simp;omega,by simp;omega,C,HD⟩,by show _-_<_-_;omega,by simp⟩
       ·rw[if_neg ht]at hd C
        have HD:=Lib.hid hd
        have hC:decide (d.ty.1=1)=false:=zA9 ht
        clear hd Q ht
        refine lT (aa ?_)
        repeat' first|simp(disch:=omega)only[go_sem,↓ai, *,hg,bU,w1,hC]|apply zA1<;>intro h<;>try omega|refine bN pD ?_|refine aP rfl zS0 (aE rfl) zR8 zR8 ?_
        all_goals
         rw[HT1.out]
         exact⟨(j+1,M++ [Xu d (ds,vs)],A), [(2,6)],⟨by show j+1≤_;omega,by simp;omega,by show A.length≤_;omega,C,HD⟩,by show _-_<_-_;omega,by simp⟩
      ·rw[show abM d ((ds,vs),e)= [Pw,Pw,I e]from if_pos z]at pD
       replace pD:bJ Pa0 iA [fL p,bF mP env,.agg [.ref 2,.ref 3],I j] (mS p M A) 4 (.tup [Pw,Pw,I e]) (mS p M A) 4:=pD
       rw[if_pos z]at hd
       subst hd
       rw[if_pos z]
       clear g Q
       refine aa ?_
       repeat' first|simp(disch:=omega)only[go_sem,↓ai, *,hg,bU,z]|apply zA1<;>intro h<;>try omega|refine bN pD ?_
       all_goals rfl
     ·rw[VN zR5]at hd
      subst hd
      rw[if_neg zR6]
      obtain rfl:j=p.defs.length:=by omega
      have hF:= λs hs=>Vt hv hI (s:=s) hs
      clear pC hI
      refine QK [2,3] (YA [] (σ':=⟨[(4,.c (.ptr 0 0)),(14,.c (.ptr 1 0)),(26,I p.defs.length)], [(1,.var [.pure (dp d7 M),.pure (dp d7 A)]),(0,dK p)],2,0⟩) (by simp[bM,St.frz,L5,HJ,Mh,BZ,Om,ar]) (aa ?_))
      repeat' first|simp(disch:=omega)only[go_sem,↓ai, *]|apply zA1<;>intro h<;>try omega
      refine dc 30 76 8 rfl zR9 ?_
      refine dc 31 76 8 rfl zR9 ?_
      refine al (λi:Nat=>⟨[(4,.c (.ptr 0 0)),(14,.c (.ptr 1 0)),(30,.c (.ref 2)),(31,.c (.ref 3)),(32,I i)],(3,.arr 76 8 ((lI A (p.outs.take i)).map d7))::(2,.arr 76 8 ((rO M (p.outs.take i)).map d7)):: [(1,.var [.pure (dp d7 M),.pure (dp d7 A)]),(0,dK p)],4,0⟩) (λi=>i≤p.outs.length) (λi=>p.outs.length-i) ⟨0, [],by omega,by simp[lI,rO]⟩ ?_
      intro i hi
      by_cases P:i<p.outs.length
      ·obtain⟨T,f1,f2,f3⟩:=hF _ (zA6 P)
       have cT:=dW M p.outs[i]
       rw[f1]at cT
       simp only[zA8,zF3]at cT
       have cU:=dW A p.outs[i]
       have hg: ∀f:ByteArray→List PC,(p.outs.map f)[i]? =some (f p.outs[i]):= λf=>ae P
       have w1:IntKind.wrap .i64 ((i:Int)+1)=(i:Int)+1:=wrap_i64 zR5
       have HT1:Hid ((rO M (p.outs.take i)).map d7++ [d7 (p.outs[i],T)]=(rO M (p.outs.take (i+1))).map d7):=by
        show _=_
        rw[zB5 P,rO,rO,zC8,zC8]
        simp[f1]
       have hc:(rO M (p.outs.take i)).length≤64:=by simp[rO];omega
       have ho:(lI A (p.outs.take i)).length≤64:=by
        have:=List.length_filterMap_le (λs=>(bm A s).map λT=>(s,T)) (p.outs.take i)
        rw[zI2]at this
        unfold lI
        omega
       obtain⟨⟨t1,t2,t3,t4,t5⟩,es,vs⟩:=T
       refine lT (aa ?_)
       cases w:bm A p.outs[i]with
       |none=>
        rw[w]at cU
        simp only[zD3,zM1]at cU
        have HT2:Hid (lI A (p.outs.take (i+1))=lI A (p.outs.take i)):=by
         show _=_
         rw[zB5 P,lI,lI,zM7]
         simp[w]
        clear hF f1 f2 f3 w
        repeat' first|simp(disch:=omega)only[go_sem,↓ai, *,hg,w1]|apply zA1<;>intro h<;>try omega|refine dH cT ?_|refine dH cU ?_|refine aP rfl zS0 (aE rfl) zR8 zR8 ?_
        rw[show(rO M (p.outs.take i)).map d7++ [[pS p.outs[i],pI t1,pI t2,pI t3,pI t4,pI t5,c6 es,dp ln vs]]=_ from HT1.out]
        exact⟨i+1, [(2,5)],by omega,by show _-_<_-_;omega,by simp[HT2.out]⟩
       |some U=>
        rw[w]at cU
        simp only[zA8,zF3]at cU
        have HT2:Hid ((lI A (p.outs.take i)).map d7++ [d7 (p.outs[i],U)]=(lI A (p.outs.take (i+1))).map d7):=by
         show _=_
         rw[zB5 P,lI,lI,zM7,zC8]
         simp[w]
        obtain⟨⟨u1,u2,u3,u4,u5⟩,us,ws⟩:=U
        clear hF f1 f2 f3 w
        repeat' first|simp(disch:=omega)only[go_sem,↓ai, *,hg,w1]|apply zA1<;>intro h<;>try omega|refine dH cT ?_|refine dH cU ?_|refine aP rfl zS0 (aE rfl) zR8 zR8 ?_
        rw[show(rO M (p.outs.take i)).map d7++ [[pS p.outs[i],pI t1,pI t2,pI t3,pI t4,pI t5,c6 es,dp ln vs]]=_ from HT1.out,show(lI A (p.outs.take i)).map d7++ [[pS p.outs[i],pI u1,pI u2,pI u3,pI u4,pI u5,c6 us,dp ln ws]]=_ from HT2.out]
        exact⟨i+1, [(2,5),(3,7)],by omega,by show _-_<_-_;omega,by simp⟩
      ·refine aa ?_
       rw[zB6 zR5]
       exact yE7
  ·rw[if_pos h1]
   refine aa ?_
   repeat' first|simp(disch:=omega)only[go_sem,↓ai, *,h1]|apply zA1<;>intro h<;>try omega|refine ak cF ?_|refine ak cS ?_
   all_goals rfl
 ·rw[if_pos h0]
  refine aa ?_
  repeat' first|simp(disch:=omega)only[go_sem,↓ai, *,h0]|apply zA1<;>intro h<;>try omega|refine ak cF ?_
  all_goals rfl
set_option maxRecDepth 20000
set_option maxRecDepth 1000000
def MI (p:bu) (env:List aG):Prop:=(p.defs.length≤8∧ ¬ur p)∧p.wher.length≤4∧env.length≤20∧(∀m∈env,m.2≤6)∧ ∀d∈p.defs,d.dims.length+d.red.length≤5
noncomputable instance (p:bu) (env:List aG):Decidable (MI p env):=Classical.propDecidable _
theorem Nx (p:bu) (env:List aG):ac Pa0 yl [fL p,bF mP env] (Go.Abs.B (decide (MI p env))):=by
 refine ac.of P9 zR6 λhb=>aa ?_
 conv in G6=>cbv
 have ps:=HQ p
 by_cases hs:p.defs.length≤8∧ ¬ur p
 ·rw[zB1 hs]at ps
  by_cases hw:p.wher.length≤4
  ·by_cases hl:env.length≤20
   ·obtain⟨R,hR⟩: ∃R,R=decide (MI p env):=⟨_,rfl⟩
    rw[←hR]
    have hT:(∀m∈env,m.2≤6)→(∀d∈p.defs,d.dims.length+d.red.length≤5)→R=true:= λh1 h2=>by rw[hR,zB1 (show MI p env from⟨hs,hw,hl,h1,h2⟩)]
    have hE: ∀k (h:k<env.length),¬env[k].2≤6→R=false:= λk h h1=>by rw[hR,zA9];exact λhf=>h1 (hf.2.2.2.1 _ (zA6 h))
    have hD: ∀k (h:k<p.defs.length),¬p.defs[k].dims.length+p.defs[k].red.length≤5→R=false:= λk h h1=>by rw[hR,zA9];exact λhf=>h1 (hf.2.2.2.2 _ (zA6 h))
    have hu:=hs.1
    have HT:=Lib.hid hT
    have HE:=Lib.hid hE
    have HD:=Lib.hid hD
    have hX: ∀d∈p.defs,d.dims.length≤300000∧d.red.length≤300000:= λd hd=>⟨by have:=((UQ hs.2).2 d hd).1;omega,by have:=((UQ hs.2).2 d hd).2.1;omega⟩
    clear hT hE hD hR hs hb
    repeat' first|simp(disch:=omega)only[go_sem, *]|apply zA1<;>intro h<;>try omega|refine ak ps ?_
    refine al (λk:Nat=>⟨[(1,bF mP env),(2,.c (.ptr 0 0)),(5,I k)], [(0,dK p)],1,0⟩) (λk=>k≤env.length∧ct (λj=> ∀h:j<env.length,env[j].2≤6) k) (λk=>env.length-k) ⟨0, [],⟨by omega,.zero⟩,by simp⟩ ?_
    clear ps
    rintro k ⟨hk,u⟩
    refine aa ?_
    by_cases b:k<env.length
    ·by_cases h6:env[k].2≤6
     ·have HA:=Lib.hid (u.succ λ_=>h6)
      clear u
      repeat' first|simp(disch:=omega)only[go_sem, *,ae b,mP,wrap_i64]|apply ab<;>intro h<;>try omega
      exact⟨k+1, [],⟨by omega,HA.out⟩,by omega,by simp⟩
     ·have e:=HE.out k b h6
      subst e
      clear u
      repeat' first|simp(disch:=omega)only[go_sem, *,ae b,mP]|apply ab<;>intro h<;>try omega
    ·have HA:=Lib.hid<|show ∀m∈env,m.2≤6 from λm (hm:m∈env)=>by
      obtain⟨j,hj,rfl⟩:=zC2.1 hm
      exact u j zR5 hj
     clear u
     repeat' first|simp(disch:=omega)only[go_sem, *]|apply ab<;>intro h<;>try omega
     refine al (λk:Nat=>⟨[(2,.c (.ptr 0 0)),(6,I k)], [(0,dK p)],1,0⟩) (λk=>k≤p.defs.length∧ct (λj=> ∀h:j<p.defs.length,p.defs[j].dims.length+p.defs[j].red.length≤5) k) (λk=>p.defs.length-k) ⟨0, [],⟨by omega,.zero⟩,by simp⟩ ?_
     rintro i ⟨hi,u⟩
     refine aa ?_
     by_cases b:i<p.defs.length
     ·have hy:=hX _ (zA6 b)
      by_cases h6:p.defs[i].dims.length+p.defs[i].red.length≤5
      ·have HB:=Lib.hid (u.succ λ_=>h6)
       clear u
       repeat' first|simp(disch:=omega)only[go_sem, *,ae b,bU,wrap_i64]|apply ab<;>intro h<;>try omega
       exact⟨i+1, [],⟨by omega,HB.out⟩,by omega,by simp⟩
      ·have e:=HD.out i b h6
       subst e
       clear u
       repeat' first|simp(disch:=omega)only[go_sem, *,ae b,bU,wrap_i64]|apply ab<;>intro h<;>try omega
     ·have e:=HT.out HA.out λm (hm:m∈p.defs)=>by
       obtain⟨j,hj,rfl⟩:=zC2.1 hm
       exact u j zR5 hj
      subst e
      clear u
      exact zW0
   ·rw[zA9 (show ¬MI p env from λh=>hl h.2.2.1)]
    clear hs hb
    exact zZ5
  ·rw[zA9 (show ¬MI p env from λh=>hw h.2.1)]
   clear hs hb
   exact zZ5
 ·rw[zA9 (show ¬MI p env from λh=>hs h.1)]
  rw[zA9 hs]at ps
  clear hs hb
  exact zZ5
set_option maxRecDepth 20000
set_option maxRecDepth 1000000
theorem Rg (l:List Fr):ac Pa0 yI [bF ln l,bF ln l] (Go.Abs.B true):=by
 refine ac.of QJ zR6 λhb=>aa ?_
 have hx:l.length≤9223372036854775807:=by simpa[f6,fB,f5]using hb.1
 conv in GQ=>cbv
 repeat' first|simp(disch:=omega)only[go_sem,↓ai, *]|apply ab<;>intro h<;>try omega
 refine al (λk:Nat=>⟨[(0,bF ln l),(1,bF ln l),(5,I k)], [],0,0⟩) (λk=>k≤l.length) (λk=>l.length-k) ⟨0, [],zE6 _,by simp⟩ ?_
 rintro k hk
 refine aa ?_
 by_cases b:k<l.length
 ·have hg:=ae (f:=ln) b
  repeat' first|simp(disch:=omega)only[go_sem,↓ai, *,hg,wrap_i64]|apply ab<;>intro h<;>try omega
  exact⟨k+1, [],b,by omega,by simp⟩
 ·have hY: ¬(k:Int)<l.length:=by omega
  exact yA5
theorem LN (x:Tn):ac Pa0 sN [Nh x,Nh x] (Go.Abs.B true):=by
 refine ac.of Lr zR6 λhb=>aa ?_
 have p1:=te x.2.1 x.2.1
 rw[zB1 rfl]at p1
 conv in Bj=>cbv
 repeat' first|simp(disch:=omega)only[go_sem,↓ai, *]|apply ab<;>intro h<;>try omega|refine ak p1 ?_|refine ak (Rg x.2.2) ?_
theorem tr (l:List Nm):ac Pa0 rD [bF d7 l,bF d7 l] (Go.Abs.B true):=by
 refine ac.of Jt zR6 λhb=>aa ?_
 have hx:l.length≤9223372036854775807:=by simpa[f6,fB,f5]using hb.1
 conv in Bq=>cbv
 repeat' first|simp(disch:=omega)only[go_sem,↓ai, *]|apply ab<;>intro h<;>try omega
 refine al (λk:Nat=>⟨[(0,bF d7 l),(1,bF d7 l),(5,I k)], [],0,0⟩) (λk=>k≤l.length) (λk=>l.length-k) ⟨0, [],zE6 _,by simp⟩ ?_
 rintro k hk
 refine aa ?_
 by_cases b:k<l.length
 ·have hg: ∀f:Nm→List PC,(l.map f)[k]? =some (f l[k]):= λf=>ae b
  have p1:=LN l[k].2
  generalize l[k]=x at*
  obtain⟨n,⟨t1,t2,t3,t4,t5⟩,es,vs⟩:=x
  have w1:IntKind.wrap .i64 ((k:Int)+1)=(k:Int)+1:=wrap_i64 zR5
  repeat' first|simp(disch:=omega)only[go_sem,↓ai, *,hg,d7,eK,decide_true,w1]|apply zA1<;>intro h<;>try omega|refine ak p1 ?_
  all_goals exact⟨k+1, [],b,by omega,by simp⟩
 ·have hY: ¬(k:Int)<l.length:=by omega
  exact yA5
abbrev ace (p:bu) (env:List aG) (ins:List Nm):AV:= .agg [.pure (bj p.sizes),.pure (dp cP p.wher),.pure (dp ef p.params),.pure (dp bU p.defs),.pure (bj p.outs),.pure (dp mP env),.pure (dp d7 ins)]
theorem Ot (p:bu) (env:List aG) (ins:List Nm):ac Pa0 yh [ace p env ins] (Go.Abs.B (decide (MI p env∧(ins.length:Int)≤10))):=by
 refine ac.of Qt zR6 λhb=>aa ?_
 have pf:=Nx p env
 conv in Gu=>cbv
 by_cases h:MI p env
 ·rw[zB1 h]at pf
  by_cases h2:(ins.length:Int)≤10
  ·rw[zB1 (show MI p env∧_ from⟨h,h2⟩)]
   clear h
   repeat' first|simp(disch:=omega)only[go_sem,↓ai, *,h2,decide_true]|apply zA1<;>intro h<;>try omega|refine ak pf ?_
  ·rw[zA9 (λhh=>h2 hh.2)]
   clear h
   repeat' first|simp(disch:=omega)only[go_sem,↓ai, *,h2,decide_false]|apply zA1<;>intro h<;>try omega|refine ak pf ?_
 ·rw[zA9 h]at pf
  rw[zA9 (λhh=>h hh.1)]
  clear h
  repeat' first|simp(disch:=omega)only[go_sem,↓ai, *]|apply zA1<;>intro h<;>try omega|refine ak pf ?_
theorem K4 {p:bu} {ins along:List Nm} (D:m9 p) (hL:Et p) (he: ∀m∈env,aH m.2) (hi: ∀x∈ins,∀a∈x.2.2.2,bD a) (ha: ∀x∈along,∀a∈x.2.2.2,bD a):ac Pa0 mg [ace p env ins,bF d7 along] (Go.Abs.B true):=by
 refine ac.of Db zR6 λhb=>aa ?_
 have pf:=Ot p env ins
 have cl:=I6
 conv in uc=>cbv
 clear hb
 by_cases h:MI p env∧(ins.length:Int)≤10
 ·rw[zB1 h]at pf
  by_cases h2:(10:Int)<along.length
  ·clear h
   repeat' first|simp(disch:=omega)only[go_sem,↓ai, *,h2,decide_true]|apply zA1<;>intro h<;>try omega|refine ak pf ?_|refine ak cl ?_
  ·have hf:=UQ h.1.1.2
   have F:env.length≤500:=by have:=h.1.2.2.1;omega
   have p1:=QA hf D hL he F hi ha
   have p2:=Oq hf D hL he F hi ha
   clear h hf D hL he hi ha F
   generalize rnS p env ins along=R at*
   obtain⟨⟨V,T⟩,e⟩:=R
   have p3:=tr V
   have p4:=tr T
   repeat' first|simp(disch:=omega)only[go_sem,↓ai, *,h2,decide_false]|apply zA1<;>intro h<;>try omega|refine ak pf ?_|refine ak cl ?_|refine dH p1 ?_|refine dH p2 ?_|refine ak p3 ?_|refine ak p4 ?_
 ·rw[zA9 h]at pf
  clear h
  repeat' first|simp(disch:=omega)only[go_sem,↓ai, *]|apply zA1<;>intro h<;>try omega|refine ak pf ?_|refine ak cl ?_
abbrev aee:TS:= .slice [sI,sI]
abbrev lNm:List TS:= [.str,sI,sI,sI,sI,sI,.slice [sI],aee]
abbrev ab8:List TE:=ac1++ [.t sMo,.t (.slice lNm)]
theorem adT {p:PC} (h:Ik aee p): ∃l:List Fr,p=dp ln l∧ ∀a∈l,bD a:=by
 obtain⟨l,h1,h2,_⟩:=rK ln bD (λr hr=>by
  obtain⟨p,r,rfl,hp,hr⟩:=cN hr
  obtain⟨q,rfl,hq⟩:=wg hr
  obtain⟨n,rfl,hn⟩:=dk hp
  obtain⟨d,rfl,hd⟩:=dk hq
  exact⟨(n,d),rfl,hn,hd⟩) h
 exact⟨l,h1,h2⟩
theorem ab7 {p:PC} (h:Ik (.slice lNm) p): ∃l:List Nm,p=dp d7 l∧ ∀x∈l,∀a∈x.2.2.2,bD a:=by
 obtain⟨l,h1,h2,_⟩:=rK (λx:Nm=>d7 x) (λx=> ∀a∈x.2.2.2,bD a) (λr hr=>by
  obtain⟨p1,r1,rfl,h1,q1⟩:=cN hr
  obtain⟨p2,r2,rfl,h2,q2⟩:=cN q1
  obtain⟨p3,r3,rfl,h3,q3⟩:=cN q2
  obtain⟨p4,r4,rfl,h4,q4⟩:=cN q3
  obtain⟨p5,r5,rfl,h5,q5⟩:=cN q4
  obtain⟨p6,r6,rfl,h6,q6⟩:=cN q5
  obtain⟨p7,r7,rfl,h7,q7⟩:=cN q6
  obtain⟨p8,rfl,h8⟩:=wg q7
  obtain⟨s,rfl,_⟩:=EN h1
  obtain⟨n2,rfl,_⟩:=dk h2
  obtain⟨n3,rfl,_⟩:=dk h3
  obtain⟨n4,rfl,_⟩:=dk h4
  obtain⟨n5,rfl,_⟩:=dk h5
  obtain⟨n6,rfl,_⟩:=dk h6
  obtain⟨ds,rfl,_⟩:=adf h7
  obtain⟨vs,rfl,i8⟩:=adT h8
  exact⟨(s,(n2,n3,n4,n5,n6),ds,vs),rfl,i8⟩) h
 exact⟨l,h1,h2⟩
theorem PQ {ps qs:List PC} (h:FI ab8 ps) (hq:FL [.slice lNm] qs):ac Pa0 3 [.agg (ps.map .pure),ac2 false qs] (Go.Abs.B true):=by
 obtain⟨p1,r1,rfl,h1,q1⟩:=cJ h
 obtain⟨p2,r2,rfl,h2,q2⟩:=cJ q1
 obtain⟨p3,r3,rfl,h3,q3⟩:=cJ q2
 obtain⟨p4,r4,rfl,h4,q4⟩:=cJ q3
 obtain⟨p5,r5,rfl,h5,q5⟩:=cJ q4
 obtain⟨p6,r6,rfl,h6,q6⟩:=cJ q5
 obtain⟨p7,r7,rfl,h7,q7⟩:=cJ q6
 obtain rfl:=YU q7
 have hP:FI ac1 [p1,p2,p3,p4,p5]:=⟨rfl,λi s p hi hp=>by
  match i,hi,hp with
  |0,hi,hp=>cases hi;cases hp;exact h1
  |1,hi,hp=>cases hi;cases hp;exact h2
  |2,hi,hp=>cases hi;cases hp;exact h3
  |3,hi,hp=>cases hi;cases hp;exact h4
  |4,hi,hp=>cases hi;cases hp;exact h5⟩
 obtain⟨p,hp,D,hL⟩:=aex hP
 obtain⟨env,rfl,he⟩:=vP (FM h6)
 obtain⟨ins,rfl,hi⟩:=ab7 (FM h7)
 obtain⟨_,rfl,k1⟩:=wg hq
 obtain⟨along,rfl,ha⟩:=ab7 k1
 simp only[List.cons.injEq,and_true]at hp
 obtain⟨rfl,rfl,rfl,rfl,rfl⟩:=hp
 exact K4 D hL he hi ha
