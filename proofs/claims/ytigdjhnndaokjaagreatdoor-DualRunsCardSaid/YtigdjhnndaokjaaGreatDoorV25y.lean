import Derived.Test.YtigdjhnndaokjaaGreatDoorV25x
import Derived.Test.YtigdjhnndaokjaaGreatDoorCodesD
set_option linter.unusedVariables false
set_option linter.unusedSimpArgs false
set_option maxRecDepth 20000
namespace Go.Proofs.YtigdjhnndaokjaaGreatDoor
open Go.Abs Go.RowKit
abbrev bNb (t:Ty) (v:Du):bP:= .var [.pure (pI t.1),.pure (pI t.2.1),.pure (pI t.2.2.1),.pure (pI t.2.2.2.1),.pure (pI t.2.2.2.2),.pure (pI v.1.1),.pure (pI v.1.2),.pure (pI v.2.1),.pure (pI v.2.2)]
abbrev bSt (env:List aG):bP:= .var [.mref 1,.mref 2,.pure (dp mP env)]
abbrev bMp (M:List Nm):bP:= .map .str (some 7) (rX M)
abbrev mEl (p:bu) (M A:List Nm) (env:List aG) (d:lH) (ds:List Int) (vs:List Du):List (Nat×bP):=
 [(11,.arr 41 2 (vs.map λv=>ln v.2)),(10,.var [.pure (pI d.ty.1),.pure (pI d.ty.2.1),.pure (pI d.ty.2.2.1),.pure (pI d.ty.2.2.2.1),.pure (pI d.ty.2.2.2.2),.pure (c6 ds),.ref 11]),(9,.arr 41 2 (vs.map λv=>ln v.1)),(8,.var [.pure (pI d.ty.1),.pure (pI d.ty.2.1),.pure (pI d.ty.2.2.1),.pure (pI d.ty.2.2.2.1),.pure (pI d.ty.2.2.2.2),.pure (c6 ds),.ref 9]),(7,Fu d),(6,.var [.ptr 3 0]),(5,Fu d),(4,.var [.ptr 3 0]),(3,bSt env),(2,bMp A),(1,bMp M),(0,dK p)]
variable {mem:List (Nat×bP)}{env:List aG}
theorem QH {M A:List Nm} {rest rest':List AV} (h3:ar mem 3=some (bSt env)) (h1:ar mem 1=some (bMp M)) (h2:ar mem 2=some (bMp A)) (hr:bk mem rest=some rest'):bk mem (.agg [.ptr 3 0]::rest)=some (.agg [Xi M A env]::rest'):=by
 simp[bk,cK,DG,c8,cQ,h3,bz,dh,co,h1,h2,VK,hr]
theorem XO {nx:Nat} {o a b c:AC} (O:ar mem 16=some (.var [o])) (P:ar mem 12=some (.var [.ptr 3 0])) (h3:ar mem 3=some (.var [a,b,c])):Cc Tryz.prog eH [.c (.ptr 16 0),.c (.ptr 12 0)] mem nx (gF mem 3 (.var [a,b,o])) nx:=by
 refine Cc.of (t8 (nt:=7) (rs:= []) (c:=(r_ [o_ 2 (a_ 0 1),o_ 3 (l_ 2),o_ 4 (l_ 0),o_ 5 (.nilc (.t 3)),o_ 6 (a_ 2 5),u_ (S_ 1 6 4)])) (by kernel_rfl)) zR6 ?_
 simp(disch:=omega)only[go_sem,aI,O,P,h3]
def rdX (d:lH) (red:List Int):Prop:=Ql red∧red.length≤16∧dI red=bl red∧bl red≤65536∧red.length=d.red.length∧(1<bl red→1≤d.fold∧d.fold≤5)
set_option maxHeartbeats 8000000 in
theorem FU {p q:bu} {vars:List ByteArray} {M A:List Nm} {d:lH} {ds red:List Int} {vs:List Du} (hM:wR q M A) (hw:W6 q vars d.body) (hc: ¬aM d.body.op) (hi:TB d.body) (hX:rdX d red) (he: ∀m∈env,aH m.2) (G:env.length≤1000) (Q:d.red.length≤6) (H:tyE q vars d.body=d.ty):
  bJ Tryz.prog jp [.agg [.ptr 3 0],NC d,aF red] (mEl p M A env d ds vs) 12 (.tup [Ve (Uz M A env d red).1.1 (Uz M A env d red).1.2,I (Uz M A env d red).2]) (mEl p M A env d ds vs) 12:=by
 refine bJ.ofD (ress:= [_,_]) qT zR6 λhb=>aa ?_
 obtain⟨x1,x2,x3,x4,x5,x6⟩:=hX
 obtain⟨R,hR⟩: ∃R,R=Uz M A env d red:=⟨_,rfl⟩
 rw[←hR]
 unfold Uz at hR
 obtain⟨N,hN⟩: ∃N:Nat,bl red=N:=⟨(bl red).toNat,by have:=el red λx hx=>(x1 x hx).1;omega⟩
 have V:1≤N:=by have:=el red λx hx=>(x1 x hx).1;omega
 rw[hN,zD1]at hR
 rw[hN]at x3 x4 x6
 have z:=rI red
 rw[x3]at z
 have hY:=RB (xs:=red) (n:=N) (pt:= λk=>au red (k:Int)) zR5 z (I0 red) (λk hk=>by
  have:=Nk red (at':=(k:Int)) zS5
  rw[zR ⟨by omega,by omega⟩]at this
  exact this)
 have pall:=Tl (xs:=red) x2
 have HR:Hid (TF (elF M A env d red) d.fold (N-0) 0 HU=R):=Lib.hid hR.symm
 have E: ∀k:Nat,(au red (k:Int)).length=d.red.length:= λk=>by rw[aX,x5]
 have C: ∀(k:Nat) j,j∈au red (k:Int)→aH j:= λk j hj=>by
  obtain⟨i,hi,rfl⟩:=zC2.1 hj
  rw[aX]at hi
  have h1:=(uF (λx hx=>(x1 x hx).1) (k:Int)).2 i hi
  rw[zA7 (by rw[aX];exact hi),zA8,zA7 hi,zA8]at h1
  have h2:=x1 _ (zA6 hi)
  unfold aH
  omega
 clear hR hN z x3 x5 hb
 simp only[iR]
 repeat' first|simp(disch:=omega)only[go_sem, *,aI]|apply ab<;>intro h<;>try omega
 refine aa ?_
 simp only[iQ]
 repeat' first|simp(disch:=omega)only[go_sem, *]|apply ab<;>intro h<;>try omega
 simp only[onN,iO]
 simp(disch:=omega)only[go_sem]
 refine⟨_,_,rfl,aa ?_⟩
 simp only[iT]
 repeat' first|simp(disch:=omega)only[go_sem, *]|apply ab<;>intro h<;>try omega|refine dH pall ?_
 refine tq 19 [(3,.c (.ptr 12 0)),(4,.c (.ptr 13 0)),(6,.c (.ptr 14 0)),(7,.c (.ptr 15 0)),(8,.c (.ptr 16 0)),(9,.c (.ptr 17 0)),(10,.c (.ptr 18 0))]
  (λk (s:List aG×Nb)=>((18,.var [.pure (pB (decide (k=0)))])::(17,bNb s.2.1 s.2.2)::(16,.var [.pure (dp mP env)])::(15,.var [.pure (pI 0)])::(14,.var [i_ 0,i_ 0,i_ 0,i_ 0,i_ 0,i_ 0,i_ 0,i_ 0,i_ 0])::(13,Fu d)::(12,.var [.ptr 3 0])::mEl p M A s.1 d ds vs,19)) (λk s=>Hid (TF (elF M A env d red) d.fold (N-k) k s.2=R)∧(0<k→nbT d.ty s.2)) rfl rfl rfl hY ?_ ⟨by simp,by simp⟩ zR7 ⟨(env,HU), [],⟨HR,by omega⟩,by simp[dj,eA]⟩ ?_ ?_
 ·intro x hx
  obtain⟨a,_,rfl⟩:=zE0.1 hx
  rfl
 ·rintro k x ⟨env1,acc⟩ hx ⟨hg,g⟩
  obtain⟨hk,rfl⟩:k<N∧ [aF (au red (k:Int))]=x:=by
   obtain⟨h1,h2⟩:=zB7.1 hx
   have h1:k<N:=by simpa using h1
   exact⟨h1,by rw[←h2];simp⟩
  have pb:=Bu (l:=d.red) (pt:=au red (k:Int)) (rest:=env) (E k) zR5 G
  have J: ∀m∈dl d.red (au red (k:Int))++env,aH m.2:= λm hm=>by
   rcases zE7.1 hm with hm|hm
   ·obtain⟨y,hy,rfl⟩:=zE0.1 hm
    exact C k _ (zP1 hy).2
   ·exact he m hm
  have f:=hg.out
  simp only at f g
  have K:elF M A env d red k=jr M A (dl d.red (au red (k:Int))++env) d.body:=rfl
  clear C E he hg HR hY pall hx
  generalize dl d.red (au red (k:Int))++env=env2 at*
  obtain⟨t,v,pe,hv⟩:=(SW hM J d.body hw hi).1 hc
  have u:=JI (A:=A) (env:=env2) hM d.body hw hc
  rw[←K]at pe hv u
  obtain⟨⟨w,e⟩,F⟩: ∃y,y=elF M A env d red k:=⟨_,rfl⟩
  rw[Yo hk F.symm]at f
  rw[←F]at pe hv u
  simp only at pe hv u
  clear F K J hM hw hi hc
  by_cases h0:e=0
  ·subst h0
   obtain rfl:=hv rfl
   obtain⟨o1,o2⟩:=u rfl
   rw[H]at o1 o2
   simp only at o1 o2
   subst o1
   clear hv u
   rw[if_neg zR6]at f
   by_cases D:k=0
   ·subst D
    rw[if_pos rfl]at f
    have HG:=Lib.hid f
    have HN:nbT d.ty (d.ty,v):=⟨rfl,o2⟩
    clear f g o2
    obtain⟨⟨v1,v2⟩,v3,v4⟩:=v
    repeat' first|simp(disch:=omega)only[go_sem, *,BT]|apply zA1<;>intro h<;>try omega|refine dH pb ?_|refine ah pe (QH rfl rfl rfl rfl) (.inl rfl) ?_
    all_goals exact⟨(env2,(d.ty,((v1,v2),v3,v4))), [],⟨HG,λ_=>HN⟩,by simp[dj,eA]⟩
   ·rw[if_neg D]at f
    obtain⟨ta,va⟩:=acc
    obtain⟨rfl,oa⟩:=g zR5
    simp only at oa
    obtain⟨tj,vj,pj,hj⟩:=By (x6 zR5) oa o2
    have r:=EA (fold:=d.fold) oa o2
    obtain⟨⟨wj,ej⟩,L⟩: ∃y,y=fa d.fold (d.ty,va) (d.ty,v):=⟨_,rfl⟩
    rw[←L]at pj hj r f
    simp only at pj hj r f
    clear L g x6 oa o2
    obtain⟨⟨v1,v2⟩,v3,v4⟩:=v
    obtain⟨⟨a1,a2⟩,a3,a4⟩:=va
    by_cases h1:ej=0
    ·subst h1
     obtain rfl:=hj rfl
     obtain⟨o1,o2⟩:=r rfl
     simp only at o1 o2
     subst o1
     clear hj r
     rw[if_neg zR6]at f
     have HG:=Lib.hid f
     have HN:nbT d.ty (d.ty,vj):=⟨rfl,o2⟩
     clear f o2
     obtain⟨⟨j1,j2⟩,j3,j4⟩:=vj
     repeat' first|simp(disch:=omega)only[go_sem, *,BT,D,decide_false]|apply zA1<;>intro h<;>try omega|refine dH pb ?_|refine ah pe (QH rfl rfl rfl rfl) (.inl rfl) ?_|refine ak pj ?_
     all_goals exact⟨(env2,(d.ty,((j1,j2),j3,j4))), [],⟨HG,λ_=>HN⟩,by simp[dj,eA]⟩
    ·rw[if_pos h1]at f
     subst f
     clear hj r
     obtain⟨s1,s2,s3,s4,s5⟩:=tj
     obtain⟨⟨j1,j2⟩,j3,j4⟩:=vj
     repeat' first|simp(disch:=omega)only[go_sem, *,BT,D,decide_false,h1]|apply zA1<;>intro h<;>try omega|refine dH pb ?_|refine ah pe (QH rfl rfl rfl rfl) (.inl rfl) ?_|refine ak pj ?_
     all_goals
      refine⟨rfl,_,_,XO rfl rfl rfl, [], [], ?_⟩
      simp(disch:=omega)only[go_sem,bM]
      simp[dj,eA]
  ·rw[if_pos h0]at f
   subst f
   clear hv u g
   obtain⟨t1,t2,t3,t4,t5⟩:=t
   obtain⟨⟨v1,v2⟩,v3,v4⟩:=v
   repeat' first|simp(disch:=omega)only[go_sem, *,BT,h0]|apply zA1<;>intro h<;>try omega|refine dH pb ?_|refine ah pe (QH rfl rfl rfl rfl) (.inl rfl) ?_
   all_goals
    refine⟨rfl,_,_,XO rfl rfl rfl, [], [], ?_⟩
    simp(disch:=omega)only[go_sem,bM]
    simp[dj,eA]
 ·rintro⟨env1,acc⟩ ⟨hg,_⟩
  have f:=hg.out
  rw[zE3,List.length_range,VA (zB2 _)]at f
  subst f
  clear hM hw hc hi he G Q H hY pall HR E C hg x6
  simp only
  obtain⟨t,⟨v1,v2⟩,v3,v4⟩:=acc
  have T: ¬N=0:=by omega
  simp only[zE3,List.length_range]
  repeat' first|simp(disch:=omega)only[go_sem, *,T,decide_false]|apply ab<;>intro h<;>try omega
  all_goals
   refine⟨rfl,_,_,XO rfl rfl rfl, [], [], ?_⟩
   simp(disch:=omega)only[go_sem,bM]
   simp[dj,eA]
end Go.Proofs.YtigdjhnndaokjaaGreatDoor
