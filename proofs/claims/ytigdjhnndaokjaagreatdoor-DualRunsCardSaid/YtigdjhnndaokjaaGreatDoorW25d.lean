import Derived.Test.YtigdjhnndaokjaaGreatDoorW25c
set_option linter.unusedVariables false
set_option linter.unusedSimpArgs false
set_option maxHeartbeats 4000000
set_option maxRecDepth 1000000
open Go.Proofs.Tryz renaming prog→Pa0
namespace Go.Proofs.YtigdjhnndaokjaaGreatDoor
open Go.Abs Go.RowKit
variable {l:List iF}{env:List aG}
theorem EO (H: ∀a∈l,d8 a.2) (h6:l.length≤1000) (he: ∀m∈env,aH m.2):ac Pa0 nM [bF gw l,bF mP env] (.tup [aF (kq env [] (l.map (·.2))).1,I (kq env [] (l.map (·.2))).2]):=by
 refine ac.of Gb zR6 λ_=>aa ?_
 have pe: ∀a∈l,ac Pa0 iH [iK a.2.1 a.2.2,bF mP env] (.tup [I (io a.2.1 a.2.2 env).1,I (io a.2.1 a.2.2 env).2]):= λa ha=>fV (H a ha).1 (H a ha).2 he
 clear H he
 obtain⟨R,hR⟩: ∃R,kq env [] (l.map (·.2))=R:=⟨_,rfl⟩
 rw[hR]
 have HR:Hid (kq env [] ((l.map (·.2)).drop 0)=R):=hR
 clear hR
 conv in wN=>cbv
 repeat' first|simp(disch:=omega)only[go_sem,↓ai, *]|apply ab<;>intro h<;>try omega
 refine dc 6 3 1 rfl zR9 ?_
 refine al (λs:Nat×List Int=>⟨[(0,bF gw l),(1,bF mP env),(6,.c (.ref 0)),(7,I s.1)], [(0,.arr 3 1 (s.2.map λn=> [pI n]))],1,0⟩) (λs=>s.1≤l.length∧s.2.length=s.1∧Hid (kq env s.2 ((l.map (·.2)).drop s.1)=R)) (λs=>l.length-s.1) ⟨(0, []), [],⟨by omega,rfl,HR⟩,by simp⟩ ?_
 clear HR
 rintro⟨j,acc⟩ ⟨hj,Q,hr⟩
 simp only at hj Q
 have hd:=hr.out
 simp only at hd
 clear hr
 refine aa ?_
 by_cases o:j<l.length
 ·have p1:=pe _ (zA6 o)
  obtain⟨⟨n,e1⟩,J⟩: ∃y,y=io l[j].2.1 l[j].2.2 env:=⟨_,rfl⟩
  rw[VG o J.symm]at hd
  rw[←J]at p1
  simp only at p1
  clear J pe
  by_cases h1:e1=0
  ·subst h1
   rw[if_neg zR6]at hd
   by_cases hn:n<1∨4096<n
   ·rw[if_pos hn]at hd
    subst hd
    by_cases G:n<1
    ·repeat' first|simp(disch:=omega)only[go_sem,↓ai, *,ae o,gw,G]|apply zA1<;>intro h<;>try omega|refine ak p1 ?_
     all_goals rfl
    ·have K:4096<n:=by omega
     clear hn
     repeat' first|simp(disch:=omega)only[go_sem,↓ai, *,ae o,gw,G,K]|apply zA1<;>intro h<;>try omega|refine ak p1 ?_
     all_goals rfl
   ·rw[if_neg hn]at hd
    have HD:=Lib.hid hd
    have G: ¬n<1:=by omega
    have K: ¬4096<n:=by omega
    have HT:=Lib.hid (show(acc.map λn=> [pI n])++ [[pI n]]=(acc++ [n]).map λn=> [pI n] by simp)
    have w1:IntKind.wrap .i64 ((j:Int)+1)=(j:Int)+1:=wrap_i64 zR5
    clear hd hn
    repeat' first|simp(disch:=omega)only[go_sem,↓ai, *,ae o,gw,G,K,w1]|apply zA1<;>intro h<;>try omega|refine ak p1 ?_|refine aP rfl zS0 (aE rfl) zR8 zR8 ?_
    all_goals
     rw[HT.out]
     exact⟨(j+1,acc++ [n]), [(0,1)],⟨by show j+1≤_;omega,by simp[Q],HD⟩,by show _-_<_-_;omega,by simp⟩
  ·rw[if_pos h1]at hd
   subst hd
   repeat' first|simp(disch:=omega)only[go_sem,↓ai, *,ae o,gw,h1]|apply zA1<;>intro h<;>try omega|refine ak p1 ?_
   all_goals rfl
 ·rw[R8 zR5]at hd
  subst hd
  clear pe
  exact yE7
theorem yp {pt:List Int} {rest:List aG} (hl:pt.length=l.length) (h6:l.length≤1000) (hr:rest.length≤1000):ac Pa0 vp [bF gw l,aF pt,bF mP rest] (bF mP (dl l pt++rest)):=by
 refine ac.of Nf zR6 λ_=>aa ?_
 have hF:=z6 hl
 have z: ∀j (h:j<l.length) (hp:j<pt.length),((dl l pt).take j).map mP++ [[pS l[j].1,pI pt[j]]]=((dl l pt).take (j+1)).map mP:= λj h hp=>OQ h hp
 have HM:=Lib.hid (zC8 (f:=mP) (l₁:=dl l pt) (l₂:=rest)).symm
 have hC:dO 2 (rest.map mP):=aD λx=>rfl
 generalize dl l pt=bp at*
 conv in CR=>cbv
 repeat' first|simp(disch:=omega)only[go_sem,↓ai, *]|apply ab<;>intro h<;>try omega
 refine dc 7 98 2 rfl zR9 ?_
 refine al (λj:Nat=>⟨[(0,bF gw l),(1,aF pt),(2,bF mP rest),(7,.c (.ref 0)),(8,I j)], [(0,.arr 98 2 ((bp.take j).map mP))],1,0⟩) (λj=>j≤l.length) (λj=>l.length-j) ⟨0, [],by omega,by simp⟩ ?_
 intro j hj
 refine aa ?_
 by_cases o:j<l.length
 ·have T:j<pt.length:=by omega
  have HT:=Lib.hid (z j o T)
  have w1:IntKind.wrap .i64 ((j:Int)+1)=(j:Int)+1:=wrap_i64 zR5
  clear z
  repeat' first|simp(disch:=omega)only[go_sem,↓ai, *,ae o,gw,ae T,w1]|apply zA1<;>intro h<;>try omega|refine aP rfl zS0 (aE rfl) zR8 zR8 ?_
  all_goals
   rw[HT.out]
   exact⟨j+1, [(0,1)],by omega,by show _-_<_-_;omega,by simp⟩
 ·have ht:bp.take j=bp:=zB6 zR5
  rw[ht]
  clear z
  repeat' first|simp(disch:=omega)only[go_sem,↓ai, *]|apply zA1<;>intro h<;>try omega|refine aP rfl zS0 hC zR8 zR8 ?_
  all_goals rw[HM.out]
theorem ym {fold:Int} {t:Ty} {a b:Du} (hf:1≤fold∧fold≤5) (ha:jZ t a) (hb:jZ t b):ac Pa0 oU [I fold,mj t,R2 a,R2 b] (TR ((fa fold (t,a) (t,b)).1.2,(fa fold (t,a) (t,b)).2)):=by
 have ia:=ha.in
 have ib:=hb.in
 have p1:=Ge (fold:=fold) (l:= [a,b]) (λx hx=>by
  rcases zD7.1 hx with rfl|hx
  ·exact ia
  ·rw[zG1.1 hx]
   exact ib)
 have p2:=Fq hf ha.1 ha.2.1 hb.2.1
 unfold fa
 clear ha hb ia ib
 refine ac.of M6 zR6 λ_=>aa ?_
 by_cases h1:t.1=1
 ·rw[if_pos h1]
  clear p2
  simp only
  generalize hZ fold [a,b]=v at*
  obtain⟨⟨⟨v1,v2⟩,v3,v4⟩,e⟩:=v
  obtain⟨t1,t2,t3,t4,t5⟩:=t
  obtain rfl:t1=1:=h1
  obtain⟨⟨a1,a2⟩,a3,a4⟩:=a
  obtain⟨⟨b1,b2⟩,b3,b4⟩:=b
  conv in vW=>cbv
  repeat' first|simp(disch:=omega)only[go_sem,↓ai, *]|apply zA1<;>intro h<;>try omega|refine ak p1 ?_
 ·rw[if_neg h1]
  clear p1
  simp only
  generalize gp (OA fold) t a.1 b.1=v at*
  obtain⟨⟨v1,v2⟩,e⟩:=v
  obtain⟨t1,t2,t3,t4,t5⟩:=t
  have h1: ¬t1=1:=h1
  obtain⟨⟨a1,a2⟩,a3,a4⟩:=a
  obtain⟨⟨b1,b2⟩,b3,b4⟩:=b
  conv in vW=>cbv
  repeat' first|simp(disch:=omega)only[go_sem,↓ai, *,h1]|apply zA1<;>intro h<;>try omega|refine ak p2 ?_|refine ak cp ?_
set_option maxHeartbeats 8000000 in
theorem In {q:bu} {vars:List ByteArray} {M A:List Nm} {d:lH} {red:List Int} (hM:wR q M A) (hw:W6 q vars d.body) (hc: ¬aM d.body.op) (hi:TB d.body) (hX:rdX d red) (he: ∀m∈env,aH m.2) (V:env.length≤1000) (hD:d.red.length≤6) (W:tyE q vars d.body=d.ty):
  ac Pa0 sK [stA M A,NC d,FS (kw red),bF mP env] (TR (if(Uz M A env d red).2=0 then(Uz M A env d red).1.2 else Vn,(Uz M A env d red).2)):=by
 refine ac.of Jx zR6 λhb=>aa ?_
 obtain⟨x1,x2,x3,x4,x5,x6⟩:=hX
 obtain⟨R,hR⟩: ∃R,R=Uz M A env d red:=⟨_,rfl⟩
 rw[←hR]
 unfold Uz at hR
 obtain⟨N,hN⟩: ∃N:Nat,bl red=N:=⟨(bl red).toNat,by have:=el red λx hx=>(x1 x hx).1;omega⟩
 have hG:1≤N:=by have:=el red λx hx=>(x1 x hx).1;omega
 rw[hN,zD1]at hR
 rw[hN]at x3 x4 x6
 have X:(kw red).length=N:=by rw[Ke,x3,zD1]
 have HR:Hid (TF (elF M A env d red) d.fold (N-0) 0 HU=R):=Lib.hid hR.symm
 have O: ∀k:Nat,(au red (k:Int)).length=d.red.length:= λk=>by rw[aX,x5]
 have C: ∀(k:Nat) j,j∈au red (k:Int)→aH j:= λk j hj=>by
  obtain⟨i,hi,rfl⟩:=zC2.1 hj
  rw[aX]at hi
  have h1:=(uF (λx hx=>(x1 x hx).1) (k:Int)).2 i hi
  rw[zA7 (by rw[aX];exact hi),zA8,zA7 hi,zA8]at h1
  have h2:=x1 _ (zA6 hi)
  unfold aH
  omega
 have D: ∀k (hk:k<N),∀f:List Int→List PC,(List.map f (kw red))[k]? =some (f (au red (k:Int))):= λk hk f=>by
  rw[ae (by omega:k<(kw red).length),KX]
 have E:((kw red).length:Int)=N:=by omega
 clear hR hN x3 x5 hb X
 generalize kw red=L at*
 conv in A8=>reduce;simp only[Int.reduceOfNat,Int.reduceNegSucc]
 repeat' first|simp(disch:=omega)only[go_sem,↓ai, *]|apply ab<;>intro h<;>try omega
 refine al (λs:Nat×Nb=>⟨[(2,FS L),(3,bF mP env),(4,.c (.ptr 0 0)),(5,.c (.ptr 1 0)),(8,.c (.ptr 2 0)),(10,.c (.ptr 3 0)),(11,I s.1)], [(3,.var [.pure (pI s.2.2.1.1),.pure (pI s.2.2.1.2),.pure (pI s.2.2.2.1),.pure (pI s.2.2.2.2)]),(2,.var [i_ 0,i_ 0,i_ 0,i_ 0]),(1,Fu d),(0,.var [.pure (dp d7 M),.pure (dp d7 A)])],4,0⟩) (λs=>s.1≤N∧Hid (TF (elF M A env d red) d.fold (N-s.1) s.1 s.2=R)∧(0<s.1→nbT d.ty s.2)) (λs=>N-s.1) ⟨(0,HU), [],⟨by omega,HR,λh=>absurd h zR6⟩,by simp⟩ ?_
 clear HR
 rintro⟨k,acc⟩ ⟨hk,hg,p⟩
 simp only at hk hg p
 have g:=hg.out
 clear hg
 refine aa ?_
 by_cases o:k<N
 ·have hg:=D k o
  have pb:=yp (l:=d.red) (pt:=au red (k:Int)) (rest:=env) (O k) zR5 V
  have Y: ∀m∈dl d.red (au red (k:Int))++env,aH m.2:= λm hm=>by
   rcases zE7.1 hm with hm|hm
   ·obtain⟨y,hy,rfl⟩:=zE0.1 hm
    exact C k _ (zP1 hy).2
   ·exact he m hm
  have Z:elF M A env d red k=jr M A (dl d.red (au red (k:Int))++env) d.body:=rfl
  have w1:IntKind.wrap .i64 ((k:Int)+1)=(k:Int)+1:=wrap_i64 zR5
  clear C O he D
  generalize dl d.red (au red (k:Int))++env=env2 at*
  generalize au red (k:Int)=pt at*
  obtain⟨t,v,pe,hv⟩:=(PW hM Y d.body hw hi).1 hc
  have u:=JI (A:=A) (env:=env2) hM d.body hw hc
  rw[←Z]at pe hv u
  obtain⟨⟨w,e⟩,P⟩: ∃y,y=elF M A env d red k:=⟨_,rfl⟩
  rw[Yo o P.symm]at g
  rw[←P]at pe hv u
  simp only at pe hv u
  clear P Z Y hM hw hi hc
  by_cases h0:e=0
  ·subst h0
   obtain rfl:=hv rfl
   obtain⟨o1,o2⟩:=u rfl
   rw[W]at o1 o2
   simp only at o1 o2
   subst o1
   clear hv u
   rw[if_neg zR6]at g
   by_cases hA:k=0
   ·subst hA
    rw[if_pos rfl]at g
    have HG:=Lib.hid g
    have HN:nbT d.ty (d.ty,v):=⟨rfl,o2⟩
    clear g p o2
    obtain⟨⟨v1,v2⟩,v3,v4⟩:=v
    have w2:IntKind.wrap .i64 1=1:=by decide
    repeat' first|simp(disch:=omega)only[go_sem,↓ai, *,hg,E,w1]|apply zA1<;>intro h<;>try omega|refine dH pb ?_|refine ak pe ?_
    all_goals exact⟨(1,(d.ty,((v1,v2),v3,v4))), [],⟨by show 1≤N;omega,HG,λ_=>HN⟩,by show _-_<_-_;omega,by simp[w2]⟩
   ·rw[if_neg hA]at g
    obtain⟨ta,va⟩:=acc
    obtain⟨rfl,oa⟩:=p zR5
    simp only at oa
    have pj:=ym (x6 zR5) oa o2
    have r:=EA (fold:=d.fold) oa o2
    obtain⟨⟨⟨tj,vj⟩,ej⟩,hB⟩: ∃y,y=fa d.fold (d.ty,va) (d.ty,v):=⟨_,rfl⟩
    rw[←hB]at pj r g
    simp only at pj r g
    clear hB p x6 oa o2
    obtain⟨⟨v1,v2⟩,v3,v4⟩:=v
    obtain⟨⟨a1,a2⟩,a3,a4⟩:=va
    obtain⟨⟨j1,j2⟩,j3,j4⟩:=vj
    by_cases h1:ej=0
    ·subst h1
     obtain⟨o1,o2⟩:=r rfl
     subst o1
     clear r
     rw[if_neg zR6]at g
     have HG:=Lib.hid g
     have HN:nbT d.ty (d.ty,((j1,j2),j3,j4)):=⟨rfl,o2⟩
     clear g o2
     have F: ¬(k:Int)=0:=by omega
     repeat' first|simp(disch:=omega)only[go_sem,↓ai, *,hg,E,w1,F]|apply zA1<;>intro h<;>try omega|refine dH pb ?_|refine ak pe ?_|refine ak pj ?_
     all_goals exact⟨(k+1,(d.ty,((j1,j2),j3,j4))), [],⟨by show k+1≤N;omega,HG,λ_=>HN⟩,by show _-_<_-_;omega,by simp⟩
    ·rw[if_pos h1]at g
     subst g
     rw[if_neg h1]
     clear r
     have F: ¬(k:Int)=0:=by omega
     repeat' first|simp(disch:=omega)only[go_sem,↓ai, *,hg,E,w1,F,h1]|apply zA1<;>intro h<;>try omega|refine dH pb ?_|refine ak pe ?_|refine ak pj ?_
  ·rw[if_pos h0]at g
   subst g
   rw[if_neg h0]
   clear hv u p
   obtain⟨t1,t2,t3,t4,t5⟩:=t
   obtain⟨⟨v1,v2⟩,v3,v4⟩:=v
   repeat' first|simp(disch:=omega)only[go_sem,↓ai, *,hg,E,h0]|apply zA1<;>intro h<;>try omega|refine dH pb ?_|refine ak pe ?_
 ·rw[VA zR5]at g
  subst g
  rw[if_pos rfl]
  clear hM hw hc hi he V hD W O C x6 D
  obtain⟨t,⟨v1,v2⟩,v3,v4⟩:=acc
  have hE: ¬(k:Int)<N:=by omega
  repeat' first|simp(disch:=omega)only[go_sem,↓ai, *,E]|apply zA1<;>intro h<;>try omega
