/- Walks by the abstract machine: rows added with multipliers. Walks by the abstract machine: a row added to the system. -/
import Derived.Test.YtiapgekjmcjjgaaGreatDoorV07p
import Derived.Lib.SlicesCompact
set_option maxHeartbeats 4000000
set_option linter.unusedVariables false
set_option linter.unusedSimpArgs false
set_option maxRecDepth 1000000
namespace Go.Proofs.YtiapgekjmcjjgaaGreatDoor
open Go.Abs Go.RowKit
noncomputable section
abbrev jl (r:Nat) (rows:List cH) (fuel:Int) (F:List (Nat×bk)):List (Nat×bk):=(r,.arr 156 4 (rows.map dF))::(0,.var [.ref r,.pure (pI fuel)])::F
abbrev T4:AV:= .agg [.pure (pI 0),.nils,.pure (pB false),.nils]
abbrev O0 (x:cH×Int):List AV:= [if x.2=0 then Mk x.1 else T4,I x.2]
theorem Kp {x y:Int} {l:List (Int×Int)} {k:Nat} (h:k<l.length) (hb:tb x y l[k]=false):gl x y (l.drop k)=none:=by
 rw[List.drop_eq_getElem_cons h,gl,hb]
 rfl
theorem Kd {x y:Int} {l:List (Int×Int)} {k:Nat} (h:k<l.length) (hb:tb x y l[k]=true):gl x y (l.drop k)=(gl x y (l.drop (k+1))).map ((l[k].1*x+l[k].2*y):: ·):=by
 rw[List.drop_eq_getElem_cons h,gl,hb]
 rfl
theorem Wo {U V:Int} (hU:am U) (hV:am V) (h: ¬am (U+V)):(U<0∧V<0∧ ¬IntKind.wrap .i64 (U+V)<0)∨(¬U<0∧ ¬V<0∧IntKind.wrap .i64 (U+V)<0):=by
 rw[IntKind.wrap_i64]
 unfold am at*
 omega
theorem wE {x y:Int} {p:Int×Int}:tb x y p=true↔am (p.1*x)∧am (p.2*y)∧am (p.1*x+p.2*y):=by simp[tb]
theorem lT {a b:cH} {x y fuel:Int} {r nx:Nat} {rows:List cH} {F:List (Nat×bk)} (ha:G8 a) (hb:G8 b) (hx:am x) (hy:am y) (HD:a.2.length=b.2.length) (HN:a.2.length≤1000000000)
  (HP:a.1.1.2.length≤400000000) (HQ:b.1.1.2.length≤400000000) (HS:0≤fuel) (HW:fuel≤2000000) (hr:0<r) (HE:r<nx) (hF:Go.Abs.dq nx [0,r] F):
  aw Tryz.prog 130 [.c (.ptr 0 0),Mk a,Mk b,I x,I y] (jl r rows fuel F) nx (fm (O0 (ei fuel a b x y))) (jl r rows (fuel-1) F) nx:=by
 refine aw.ofZ ro (by simp) λ_=>aa ?_
 have pc:=iY (l:= [a.1,b.1]) (b:= [x,y]) (by simp;exact⟨ha.1,hb.1⟩) (by simp;exact⟨hx,hy⟩) (by simp[gE];omega)
 conv in bh _ _=>cbv
 have ef:IntKind.wrap .i64 (fuel-1)=fuel-1:=wrap_i64 (by omega)
 by_cases h0:fuel≤0
 ·rw[ei,if_pos h0]
  repeat' first|simp(disch:=omega)only[go_sem,aF,aN,ef]|((with_reducible refine ab ?_ ?_)<;>intro h<;>try first|omega|simp(disch:=omega)only[go_sem, *,aF,aN,ef])
  refine⟨[], [], ?_⟩
  simp(disch:=omega)only[go_sem,aQ,aF,aN,ef]
  refine au (by simp(disch:=omega) [aF]) ?_ rfl (by simp;try omega) (by simp[eg];try omega)
  repeat' first|exact hF.wkA|refine av ?_ ?_ ?_ ?_ ?_|(simp(disch:=omega) [aF]<;>omega)|omega
 ·rw[ei,if_neg h0]
  obtain⟨C,hC⟩: ∃C,C=aD [a.1,b.1] [x,y]:=⟨_,rfl⟩
  have hL:=td [a.1,b.1] [x,y]
  have hB:=ya a.1 b.1 x y
  rw[←hC]at pc hL hB ⊢
  clear hC
  obtain⟨⟨⟨K,l⟩,q⟩,e⟩:=C
  by_cases he:e=0
  ·subst he
   rw[if_neg (by simp)]
   obtain⟨R,hR⟩: ∃R,R=(gl x y ((a.2.zip b.2).drop 0)).map (([]:List Int)++ ·):=⟨_,rfl⟩
   have Y:gl x y (a.2.zip b.2)=R:=by rw[hR];simp
   rw[Y]
   have HR:=Lib.hid hR
   clear hR Y
   repeat' first|simp(disch:=omega)only[go_sem,aF,aN,ef]|((with_reducible refine ab ?_ ?_)<;>intro h<;>try first|omega|simp(disch:=omega)only[go_sem, *,aF,aN,ef])|refine aW pc rfl rfl ?_
   refine ci (nx+4) 3 2 1 [.pure (pI K),.pure (ay l),.pure (pB q),.nils] (by simp[al]) rfl (by decide) ?_
   refine ai (λs:Nat×List Int=>⟨[(3,I x),(4,I y),(6,.c (.ptr nx 0)),(7,.c (.ptr (nx+1) 0)),(10,.c (.ptr (nx+2) 0)),(14,.c (.ptr (nx+4) 0)),(54,I a.2.length),(55,I s.1)],
    (nx,.var [.pure (pI a.1.1.1),.pure (ay a.1.1.2),.pure (pB a.1.2),.pure (qN a.2)])::(nx+1,.var [.pure (pI b.1.1.1),.pure (ay b.1.1.2),.pure (pB b.1.2),.pure (qN b.2)])::
    (nx+2,.var [.pure (pI 0),.nils,.pure (pB false),.nils])::(nx+4,.var [.pure (pI K),.pure (ay l),.pure (pB q),.ref (nx+5)])::(nx+5,.arr 2 1 (s.2.map λn=> [pI n]))::jl r rows (fuel-1) F,nx+6,nx⟩)
    (λs=>s.1≤a.2.length∧s.2.length≤s.1∧(∀n∈s.2,am n)∧Hid (R=(gl x y ((a.2.zip b.2).drop s.1)).map (s.2++ ·))) (λs=>a.2.length-s.1) ⟨(0, []), [],⟨Nat.zero_le _,Nat.le_refl _,(by simp),HR⟩, ?_⟩ ?_
   ·refine au (by simp(disch:=omega) [aF]) ?_ rfl (by simp;try omega) (by simp[eg];try omega)
    repeat' first|exact hF.wkA|refine av ?_ ?_ ?_ ?_ ?_|(simp(disch:=omega) [aF]<;>omega)|omega
   rintro⟨j,acc⟩ ⟨hj,W,E,HR⟩
   simp only at hj W E HR
   refine aa ?_
   by_cases o:j<a.2.length
   ·have hM:j<b.2.length:=by omega
    have hz:j<(a.2.zip b.2).length:=by simp;omega
    have ez:(a.2.zip b.2)[j]=(a.2[j],b.2[j]):=List.getElem_zip
    have g1:=ah (f:= λn=> [pI n]) o
    have g2:=ah (f:= λn=> [pI n]) hM
    have p1:=m7 (ha.2 _ (List.getElem_mem o)) hx
    have p2:=m7 (hb.2 _ (List.getElem_mem hM)) hy
    have h2:=HR.out
    clear HR pc HD
    by_cases hs:tb x y (a.2[j],b.2[j])=true
    ·rw[Kd hz (by rw[ez];exact hs),ez]at h2
     obtain⟨s1,s2,s3⟩:=wE.1 hs
     rw[decide_eq_true s1,wrap_i64 s1]at p1
     rw[decide_eq_true s2,wrap_i64 s2]at p2
     have ew:=wrap_i64 s3
     simp only at h2 ew s1 s2 s3
     clear hs ez hz
     generalize a.2[j]*x=P at*
     generalize b.2[j]*y=Q at*
     generalize a.2[j]=a0 at*
     generalize b.2[j]=b0 at*
     have HR:Hid (R=(gl x y ((a.2.zip b.2).drop (j+1))).map ((acc++ [P+Q])++ ·)):=Lib.hid (by
      rw[h2]
      cases gl x y ((a.2.zip b.2).drop (j+1))<;>simp)
     clear h2
     have HF:(acc.map λn=> [pI n]).length≤1000000000:=by simp;omega
     have L: ∀n∈acc++ [P+Q],am n:=by
      intro n hn
      rcases List.mem_append.1 hn with hn|hn
      ·exact E n hn
      ·rw[List.mem_singleton.1 hn];exact s3
     have M:(acc++ [P+Q]).length≤j+1:=by simp;omega
     have A:(acc++ [P+Q]).map (λn=> [pI n])=acc.map (λn=> [pI n])++ [[pI (P+Q)]]:=by simp
     clear E
     generalize hD:acc.map (λn=> [pI n])=D at*
     have HG:(P<0∧Q<0∧P+Q<0)∨(¬P<0∧ ¬Q<0∧ ¬P+Q<0)∨(P<0∧ ¬Q<0)∨(¬P<0∧Q<0):=by omega
     have H:=hF.del (n:=nx+5) (.inr (by omega))
     rcases HG with⟨hu,hv,hw⟩|⟨hu,hv,hw⟩|⟨hu,hv⟩|⟨hu,hv⟩
     ·repeat' first|simp(disch:=omega)only[go_sem,g1,g2,aF,aN,H,ew,hu,hv,hw,wrap_i64]|((with_reducible refine ab ?_ ?_)<;>intro h<;>try first|omega|simp(disch:=omega)only[go_sem, *,g1,g2,aF,aN,H,ew,hu,hv,hw,wrap_i64])|refine aq p1 rfl rfl ?_|refine aq p2 rfl rfl ?_|refine aA (by simp(disch:=omega)only[al,aj,aF,eq_self,↓reduceIte,Option.map_some]<;>rfl) (by intro h;cases h) (an rfl) (by simp;omega) (by simp;omega) ?_
      refine⟨(j+1,acc++ [P+Q]), [(nx+5,nx+6)],⟨o,M,L,HR⟩,by show _-_<_-_;omega, ?_⟩
      refine au (by simp(disch:=omega) [aF,A]) ?_ rfl (by simp;try omega) (by simp[eg];try omega)
      repeat' first|exact hF.wkA|refine av ?_ ?_ ?_ ?_ ?_|(simp(disch:=omega) [aF,A]<;>omega)|omega
     ·repeat' first|simp(disch:=omega)only[go_sem,g1,g2,aF,aN,H,ew,hu,hv,hw,wrap_i64]|((with_reducible refine ab ?_ ?_)<;>intro h<;>try first|omega|simp(disch:=omega)only[go_sem, *,g1,g2,aF,aN,H,ew,hu,hv,hw,wrap_i64])|refine aq p1 rfl rfl ?_|refine aq p2 rfl rfl ?_|refine aA (by simp(disch:=omega)only[al,aj,aF,eq_self,↓reduceIte,Option.map_some]<;>rfl) (by intro h;cases h) (an rfl) (by simp;omega) (by simp;omega) ?_
      refine⟨(j+1,acc++ [P+Q]), [(nx+5,nx+6)],⟨o,M,L,HR⟩,by show _-_<_-_;omega, ?_⟩
      refine au (by simp(disch:=omega) [aF,A]) ?_ rfl (by simp;try omega) (by simp[eg];try omega)
      repeat' first|exact hF.wkA|refine av ?_ ?_ ?_ ?_ ?_|(simp(disch:=omega) [aF,A]<;>omega)|omega
     ·repeat' first|simp(disch:=omega)only[go_sem,g1,g2,aF,aN,H,ew,hu,hv,wrap_i64]|((with_reducible refine ab ?_ ?_)<;>intro h<;>try first|omega|simp(disch:=omega)only[go_sem, *,g1,g2,aF,aN,H,ew,hu,hv,wrap_i64])|refine aq p1 rfl rfl ?_|refine aq p2 rfl rfl ?_|refine aA (by simp(disch:=omega)only[al,aj,aF,eq_self,↓reduceIte,Option.map_some]<;>rfl) (by intro h;cases h) (an rfl) (by simp;omega) (by simp;omega) ?_
      refine⟨(j+1,acc++ [P+Q]), [(nx+5,nx+6)],⟨o,M,L,HR⟩,by show _-_<_-_;omega, ?_⟩
      refine au (by simp(disch:=omega) [aF,A]) ?_ rfl (by simp;try omega) (by simp[eg];try omega)
      repeat' first|exact hF.wkA|refine av ?_ ?_ ?_ ?_ ?_|(simp(disch:=omega) [aF,A]<;>omega)|omega
     ·repeat' first|simp(disch:=omega)only[go_sem,g1,g2,aF,aN,H,ew,hu,hv,wrap_i64]|((with_reducible refine ab ?_ ?_)<;>intro h<;>try first|omega|simp(disch:=omega)only[go_sem, *,g1,g2,aF,aN,H,ew,hu,hv,wrap_i64])|refine aq p1 rfl rfl ?_|refine aq p2 rfl rfl ?_|refine aA (by simp(disch:=omega)only[al,aj,aF,eq_self,↓reduceIte,Option.map_some]<;>rfl) (by intro h;cases h) (an rfl) (by simp;omega) (by simp;omega) ?_
      refine⟨(j+1,acc++ [P+Q]), [(nx+5,nx+6)],⟨o,M,L,HR⟩,by show _-_<_-_;omega, ?_⟩
      refine au (by simp(disch:=omega) [aF,A]) ?_ rfl (by simp;try omega) (by simp[eg];try omega)
      repeat' first|exact hF.wkA|refine av ?_ ?_ ?_ ?_ ?_|(simp(disch:=omega) [aF,A]<;>omega)|omega
    ·have h5:tb x y (a.2[j],b.2[j])=false:=by simpa using hs
     rw[Kp hz (by rw[ez];exact h5)]at h2
     simp only[Option.map_none]at h2
     subst h2
     have J: ¬(am (a.2[j]*x)∧am (b.2[j]*y)∧am (a.2[j]*x+b.2[j]*y)):= λh=>hs (wE.2 h)
     clear hs h5 ez hz E
     by_cases s1:am (a.2[j]*x)
     ·rw[decide_eq_true s1,wrap_i64 s1]at p1
      by_cases s2:am (b.2[j]*y)
      ·rw[decide_eq_true s2,wrap_i64 s2]at p2
       have ov:=Wo s1 s2 (λh=>J ⟨s1,s2,h⟩)
       clear J
       generalize a.2[j]*x=P at*
       generalize b.2[j]*y=Q at*
       generalize a.2[j]=a0 at*
       generalize b.2[j]=b0 at*
       rcases ov with⟨hu,hv,hw⟩|⟨hu,hv,hw⟩
       ·repeat' first|simp(disch:=omega)only[go_sem,g1,g2,aF,aN,hu,hv,hw,wrap_i64]|((with_reducible refine ab ?_ ?_)<;>intro h<;>try first|omega|simp(disch:=omega)only[go_sem, *,g1,g2,aF,aN,hu,hv,hw,wrap_i64])|refine aq p1 rfl rfl ?_|refine aq p2 rfl rfl ?_
        refine⟨[], [], ?_⟩
        simp(disch:=omega)only[go_sem,aQ,aF,aN]
        refine au (by simp(disch:=omega) [aF]) ?_ rfl (by simp;try omega) (by simp[eg];try omega)
        repeat' first|exact hF.wkA|refine av ?_ ?_ ?_ ?_ ?_|(simp(disch:=omega) [aF]<;>omega)|omega
       ·repeat' first|simp(disch:=omega)only[go_sem,g1,g2,aF,aN,hu,hv,hw,wrap_i64]|((with_reducible refine ab ?_ ?_)<;>intro h<;>try first|omega|simp(disch:=omega)only[go_sem, *,g1,g2,aF,aN,hu,hv,hw,wrap_i64])|refine aq p1 rfl rfl ?_|refine aq p2 rfl rfl ?_
        refine⟨[], [], ?_⟩
        simp(disch:=omega)only[go_sem,aQ,aF,aN]
        refine au (by simp(disch:=omega) [aF]) ?_ rfl (by simp;try omega) (by simp[eg];try omega)
        repeat' first|exact hF.wkA|refine av ?_ ?_ ?_ ?_ ?_|(simp(disch:=omega) [aF]<;>omega)|omega
      ·rw[decide_eq_false s2]at p2
       clear J
       generalize a.2[j]*x=P at*
       generalize IntKind.wrap .i64 (b.2[j]*y)=Q at*
       generalize a.2[j]=a0 at*
       generalize b.2[j]=b0 at*
       repeat' first|simp(disch:=omega)only[go_sem,g1,g2,aF,aN,wrap_i64]|((with_reducible refine ab ?_ ?_)<;>intro h<;>try first|omega|simp(disch:=omega)only[go_sem, *,g1,g2,aF,aN,wrap_i64])|refine aq p1 rfl rfl ?_|refine aq p2 rfl rfl ?_
       all_goals
        refine⟨[], [], ?_⟩
        simp(disch:=omega)only[go_sem,aQ,aF,aN]
        refine au (by simp(disch:=omega) [aF]) ?_ rfl (by simp;try omega) (by simp[eg];try omega)
        repeat' first|exact hF.wkA|refine av ?_ ?_ ?_ ?_ ?_|(simp(disch:=omega) [aF]<;>omega)|omega
     ·rw[decide_eq_false s1]at p1
      clear J
      generalize decide (am (b.2[j]*y))=d2 at*
      generalize IntKind.wrap .i64 (a.2[j]*x)=P at*
      generalize IntKind.wrap .i64 (b.2[j]*y)=Q at*
      generalize a.2[j]=a0 at*
      generalize b.2[j]=b0 at*
      cases d2
      all_goals
       repeat' first|simp(disch:=omega)only[go_sem,g1,g2,aF,aN,wrap_i64]|((with_reducible refine ab ?_ ?_)<;>intro h<;>try first|omega|simp(disch:=omega)only[go_sem, *,g1,g2,aF,aN,wrap_i64])|refine aq p1 rfl rfl ?_|refine aq p2 rfl rfl ?_
       all_goals
        refine⟨[], [], ?_⟩
        simp(disch:=omega)only[go_sem,aQ,aF,aN]
        refine au (by simp(disch:=omega) [aF]) ?_ rfl (by simp;try omega) (by simp[eg];try omega)
        repeat' first|exact hF.wkA|refine av ?_ ?_ ?_ ?_ ?_|(simp(disch:=omega) [aF]<;>omega)|omega
   ·have h2:=HR.out
    have hz:(a.2.zip b.2).length≤j:=by simp;omega
    rw[List.drop_eq_nil_of_le hz,gl]at h2
    simp only[Option.map_some,List.append_nil]at h2
    subst h2
    clear HR hz
    have h6:G8 (((K,l),q),acc):=⟨hL,E⟩
    have pr:=ws (d:=(((K,l),q),acc)) h6 (by simp only at hB ⊢;omega) (by simp only;omega)
    have HI:=hF.frz (n:=nx+5) (rows:=acc.map λn=> [pI n]) (.inr (by omega))
    clear pc
    repeat' first|simp(disch:=omega)only[go_sem,aF,aN]|((with_reducible refine ab ?_ ?_)<;>intro h<;>try first|omega|simp(disch:=omega)only[go_sem, *,aF,aN])|refine Gn (nx+5) 2 1 (acc.map λn=> [pI n]) pr (by simp(disch:=omega)only[al,aj,aF,eq_self,↓reduceIte,Option.map_some]<;>rfl) (by simp[nG,gS,bN,dQ,ti,ee,dX]) (.inr (by simp[nG,gS,gA,tX,ja])) ?_
    refine⟨[], [], ?_⟩
    simp(disch:=omega)only[go_sem,aQ,aF,aN,HI]
    refine au (by simp(disch:=omega) [aF]) ?_ rfl (by simp;try omega) (by simp[eg];try omega)
    repeat' first|exact hF.wkA|refine av ?_ ?_ ?_ ?_ ?_|(simp(disch:=omega) [aF]<;>omega)|omega
  ·rw[if_pos he]
   repeat' first|simp(disch:=omega)only[go_sem,aF,aN,ef,he]|((with_reducible refine ab ?_ ?_)<;>intro h<;>try first|omega|simp(disch:=omega)only[go_sem, *,aF,aN,ef,he])|refine aW pc rfl rfl ?_
   refine⟨[], [], ?_⟩
   simp(disch:=omega)only[go_sem,aQ,aF,aN,ef]
   refine au (by simp(disch:=omega) [aF,he]) ?_ rfl (by simp;try omega) (by simp[eg];try omega)
   repeat' first|exact hF.wkA|refine av ?_ ?_ ?_ ?_ ?_|(simp(disch:=omega) [aF,he]<;>omega)|omega
theorem lR (a b:List aR):ac Tryz.prog 84 [.c (.pure (ay a)),.c (.pure (ay b))] (Go.Abs.B (decide (a=b))):=by
 refine ac.of iQ (by simp) λhb=>aa ?_
 have HY:a.length≤9223372036854775807:=by have:=hb.1;simpa[gw,gT]using this
 conv in bh _ _=>cbv
 by_cases hl:a.length=b.length
 ·have hE:(a.length:Int)=(b.length:Int):=by omega
  obtain⟨R,hR⟩: ∃R,R=decide (a=b):=⟨_,rfl⟩
  rw[←hR]
  have HR:=Lib.hid hR
  clear hR
  have HL:=Lib.hid hl
  clear hl
  repeat' first|simp(disch:=omega)only[go_sem, *,hE]|apply ab<;>intro h<;>try omega
  refine ai (λk:Nat=>⟨[(0,.c (.pure (ay a))),(1,.c (.pure (ay b))),(12,I b.length),(13,I k)], [],0,0⟩) (λk=>k≤b.length∧Hid (a.take k=b.take k)) (λk=>b.length-k) ⟨0, [],⟨Nat.zero_le _,Lib.hid rfl⟩,by simp⟩ ?_
  clear hE
  rintro k ⟨hk,HT⟩
  refine aa ?_
  have hl:=HL.out
  by_cases o:k<b.length
  ·have hN:k<a.length:=by omega
   have g1:=ah (f:=mP) hN
   have g2:=ah (f:=mP) o
   by_cases he:a[k]=b[k]
   ·have HT':Hid (a.take (k+1)=b.take (k+1)):=Lib.hid (by rw[List.take_succ_eq_append_getElem hN,List.take_succ_eq_append_getElem o,HT.out,he])
    rw[he]at g1
    clear HT he hl
    generalize b[k]=m at*
    obtain⟨n,x⟩:=m
    simp only[mP]at g1 g2
    repeat' first|simp(disch:=omega)only[go_sem, *,g1,g2,wY,I4,and_self,Sy,wrap_i64]|apply ab<;>intro h<;>try omega
    exact⟨k+1, [],⟨o,HT'⟩,by omega,by simp⟩
   ·have hR:R=false:=by
     rw[HR.out]
     exact decide_eq_false λh=>he (by subst h;rfl)
    subst hR
    have h7: ¬(a[k].1=b[k].1∧a[k].2=b[k].2):= λh=>he (Prod.ext h.1 h.2)
    clear HT he hl HR HL
    generalize a[k]=m at*
    generalize b[k]=m' at*
    obtain⟨n,x⟩:=m
    obtain⟨n',x'⟩:=m'
    simp only[mP]at g1 g2 h7
    repeat' first|simp(disch:=omega)only[go_sem, *,g1,g2,wY,I4,and_true,h7,SQ,wrap_i64]|apply ab<;>intro h<;>try omega
    all_goals rfl
  ·have hR:R=true:=by
    rw[HR.out]
    have h:=HT.out
    rw[List.take_of_length_le (by omega),List.take_of_length_le (by omega)]at h
    exact decide_eq_true h
   subst hR
   clear HT HL HR hl
   repeat' first|simp(disch:=omega)only[go_sem, *]|apply ab<;>intro h<;>try omega
   all_goals rfl
 ·have e:decide (a=b)=false:=decide_eq_false λh=>hl (by rw[h])
  rw[e]
  have hE: ¬(a.length:Int)=(b.length:Int):=by omega
  repeat' first|simp(disch:=omega)only[go_sem, *,hE]|apply ab<;>intro h<;>try omega
  all_goals rfl
theorem QR {rows:List cH} {d:cH} {k:Nat} (h:k<rows.length):(rows.map dF).set k (dF d)=(rows.take k++d::rows.drop (k+1)).map dF:=by
 rw[←List.map_set,List.set_eq_take_append_cons_drop,if_pos h]
theorem NW {rows:List cH} {k:Nat} (h:k<rows.length):rows.take k++rows[k]::rows.drop (k+1)=rows:=by
 rw[←List.drop_eq_getElem_cons h,List.take_append_drop]
theorem MM {rows:List cH} {d:cH} {k:Nat} (h:k<rows.length):(pH d (rows.drop k)).map (rows.take k++ ·)=
  if y3 rows[k] d then some (rows.take k++(if d.1.1.1<rows[k].1.1.1 then d else rows[k])::rows.drop (k+1))else(pH d (rows.drop (k+1))).map (rows.take (k+1)++ ·):=by
 rw[List.drop_eq_getElem_cons h,pH]
 split
 ·rfl
 ·rw[List.take_succ_eq_append_getElem h]
  cases pH d (rows.drop (k+1))with
  |none=>rfl
  |some x=>
   show some (_++_::x)=some ((_++ [_])++x)
   rw[List.append_assoc]
   rfl
theorem jm {d:cH} {fuel:Int} {r nx:Nat} {rows:List cH} {F:List (Nat×bk)} (HZ:rows.length≤256) (hr:0<r) (HE:r<nx) (hF:Go.Abs.dq nx [0,r] F):
  aw Tryz.prog 75 [.c (.ptr 0 0),Mk d] (jl r rows fuel F) nx (fm [I (cE rows d).2]) (jl nx (cE rows d).1 fuel F) (nx+1):=by
 refine aw.ofZ ua (by simp) λ_=>aa ?_
 have pc:=fH d.1
 have H:=hF.del (n:=r) (.inl (by simp))
 obtain⟨⟨⟨K,l⟩,q⟩,by'⟩:=d
 conv in bh _ _=>cbv
 unfold cE
 simp only at pc ⊢
 by_cases h0:l= []∧ ¬dM ((K,l),q)
 ·rw[if_pos h0]
  obtain⟨rfl,hb⟩:=h0
  rw[decide_eq_false hb]at pc
  clear hb
  repeat' first|simp(disch:=omega)only[go_sem, *,aF,aN]|apply ab<;>intro h<;>try omega|refine aq pc rfl rfl ?_
  refine⟨[], [(nx,r)], ?_⟩
  simp(disch:=omega)only[go_sem,aQ,aF,aN]
  refine au (by simp(disch:=omega) [aF]) ?_ rfl (by simp;try omega) (by simp[eg];try omega)
  repeat' first|exact hF.wkA|refine av ?_ ?_ ?_ ?_ ?_|(simp(disch:=omega) [aF]<;>omega)|omega
 ·rw[if_neg h0]
  obtain⟨R,hR⟩: ∃R,R=(pH (((K,l),q),by') (rows.drop 0)).map (rows.take 0++ ·):=⟨_,rfl⟩
  have Y:pH (((K,l),q),by') rows=R:=by rw[hR];simp
  rw[Y]
  have HR:=Lib.hid hR
  clear hR Y
  obtain⟨bb,hP⟩: ∃bb,bb=decide (dM ((K,l),q)):=⟨_,rfl⟩
  rw[←hP]at pc
  have hQ:(((l.length:Nat):Int)=0∧bb=true)∨ ¬((l.length:Nat):Int)=0:=by
   by_cases hl:l.length=0
   ·exact .inl ⟨by omega,by rw[hP];exact decide_eq_true (Classical.byContradiction λh=>h0 ⟨List.eq_nil_of_length_eq_zero hl,h⟩)⟩
   ·exact .inr (by omega)
  clear h0 hP
  rcases hQ with⟨hS,rfl⟩|hS
  all_goals
   repeat' first|simp(disch:=omega)only[go_sem, *,aF,aN,hS]|apply ab<;>intro h<;>try omega|refine aq pc rfl rfl ?_
   clear hS pc
   refine ai (λk:Nat=>⟨[(0,.c (.ptr 0 0)),(3,.c (.ptr nx 0)),(5,.c (.ptr (nx+1) 0)),(23,.c (.ref r)),(24,I rows.length),(25,I k)],
    (nx,.var [.pure (pI K),.pure (ay l),.pure (pB q),.pure (qN by')])::(nx+1,.var [.pure (pI K),.pure (ay l),.pure (pB q)])::jl r rows fuel F,nx+2,nx⟩)
    (λk=>k≤rows.length∧Hid (R=(pH (((K,l),q),by') (rows.drop k)).map (rows.take k++ ·))) (λk=>rows.length-k) ⟨0, [],⟨Nat.zero_le _,HR⟩, ?_⟩ ?_
   ·have O:r<nx+2:=by omega
    refine au (by simp(disch:=omega) [aF,O]) ?_ rfl (by simp;try omega) (by simp[eg];try omega)
    repeat' first|exact hF.wkA|refine av ?_ ?_ ?_ ?_ ?_|(simp(disch:=omega) [aF,O]<;>omega)|omega
   clear HR
   rintro k ⟨hk,HR⟩
   refine aa ?_
   by_cases o:k<rows.length
   ·have g1:=ah (f:=dF) o
    have h2:=HR.out
    rw[MM o]at h2
    have X:=QR (d:=(((K,l),q),by')) o
    have hW:=NW o
    clear HR
    generalize hz:rows[k]=z at*
    have h8:rows.take k++z::rows.drop (k+1)=rows:=hW
    obtain⟨⟨⟨K',l'⟩,q'⟩,b'⟩:=z
    simp only[dF]at g1 X
    have pe:=lR l' l
    by_cases hs:y3 (((K',l'),q'),b') (((K,l),q),by')
    ·rw[if_pos hs]at h2
     obtain⟨h9,HA,hH⟩:=hs
     simp only at h9 HA hH h2
     subst h9
     subst HA
     rw[decide_eq_true rfl]at pe
     clear hz hW
     by_cases hK:K<K'
     ·rw[if_pos hK]at h2
      subst h2
      have hq:q'=false:=hH.resolve_right (by omega)
      subst hq
      clear hH
      repeat' first|simp(disch:=omega)only[go_sem, *,g1,aF,aN,hK]|apply ab<;>intro h<;>try omega|refine aq pe rfl rfl ?_
      refine⟨[], [(nx,r)], ?_⟩
      simp(disch:=omega)only[go_sem,aQ,aF,aN]
      refine au (by simp(disch:=omega) [aF,X]) ?_ rfl (by simp;try omega) (by simp[eg];try omega)
      repeat' first|exact hF.wkA|refine av ?_ ?_ ?_ ?_ ?_|(simp(disch:=omega) [aF,X]<;>omega)|omega
     ·rw[if_neg hK,h8]at h2
      subst h2
      clear X
      have HK:q'=false∨(q'=true∧K'=K):=by cases q'<;>simp_all
      clear hH
      rcases HK with rfl|⟨rfl,rfl⟩
      ·repeat' first|simp(disch:=omega)only[go_sem, *,g1,aF,aN,hK]|apply ab<;>intro h<;>try omega|refine aq pe rfl rfl ?_
       refine⟨[], [(nx,r)], ?_⟩
       simp(disch:=omega)only[go_sem,aQ,aF,aN]
       refine au (by simp(disch:=omega) [aF]) ?_ rfl (by simp;try omega) (by simp[eg];try omega)
       repeat' first|exact hF.wkA|refine av ?_ ?_ ?_ ?_ ?_|(simp(disch:=omega) [aF]<;>omega)|omega
      ·repeat' first|simp(disch:=omega)only[go_sem, *,g1,aF,aN,hK]|apply ab<;>intro h<;>try omega|refine aq pe rfl rfl ?_
       refine⟨[], [(nx,r)], ?_⟩
       simp(disch:=omega)only[go_sem,aQ,aF,aN]
       refine au (by simp(disch:=omega) [aF]) ?_ rfl (by simp;try omega) (by simp[eg];try omega)
       repeat' first|exact hF.wkA|refine av ?_ ?_ ?_ ?_ ?_|(simp(disch:=omega) [aF]<;>omega)|omega
    ·rw[if_neg hs]at h2
     have HR:=Lib.hid h2
     have J: ¬(q'=q∧l'=l∧(q=false∨K'=K)):=hs
     clear h2 hs X hW hz
     have O:r<nx+2:=by omega
     by_cases hq:q'=q
     ·subst hq
      by_cases hl:l'=l
      ·subst hl
       rw[decide_eq_true rfl]at pe
       have hK: ¬K'=K:= λh=>J ⟨rfl,rfl,.inr h⟩
       have hq:q'=true:=by
        cases q'
        ·exact absurd ⟨rfl,rfl,.inl rfl⟩ J
        ·rfl
       subst hq
       clear J
       repeat' first|simp(disch:=omega)only[go_sem, *,g1,aF,aN,hK,wrap_i64]|apply ab<;>intro h<;>try omega|refine aq pe rfl rfl ?_
       refine⟨k+1, [],⟨o,HR⟩,by omega, ?_⟩
       refine au (by simp(disch:=omega) [aF,O]) ?_ rfl (by simp;try omega) (by simp[eg];try omega)
       repeat' first|exact hF.wkA|refine av ?_ ?_ ?_ ?_ ?_|(simp(disch:=omega) [aF,O]<;>omega)|omega
      ·rw[decide_eq_false hl]at pe
       clear J hl
       cases q'
       all_goals
        repeat' first|simp(disch:=omega)only[go_sem, *,g1,aF,aN,wrap_i64]|apply ab<;>intro h<;>try omega|refine aq pe rfl rfl ?_
        refine⟨k+1, [],⟨o,HR⟩,by omega, ?_⟩
        refine au (by simp(disch:=omega) [aF,O]) ?_ rfl (by simp;try omega) (by simp[eg];try omega)
        repeat' first|exact hF.wkA|refine av ?_ ?_ ?_ ?_ ?_|(simp(disch:=omega) [aF,O]<;>omega)|omega
     ·clear J pe
      cases q
      all_goals
       cases q'
       all_goals
        first
        |exact absurd rfl hq
        |clear hq
       all_goals
        repeat' first|simp(disch:=omega)only[go_sem, *,g1,aF,aN,wrap_i64]|apply ab<;>intro h<;>try omega
        refine⟨k+1, [],⟨o,HR⟩,by omega, ?_⟩
        refine au (by simp(disch:=omega) [aF,O]) ?_ rfl (by simp;try omega) (by simp[eg];try omega)
        repeat' first|exact hF.wkA|refine av ?_ ?_ ?_ ?_ ?_|(simp(disch:=omega) [aF,O]<;>omega)|omega
   ·have h2:=HR.out
    rw[List.drop_eq_nil_of_le (by omega),pH]at h2
    simp only[Option.map_none]at h2
    subst h2
    clear HR
    by_cases Z:256≤rows.length
    ·rw[if_pos Z]
     repeat' first|simp(disch:=omega)only[go_sem, *,aF,aN]|apply ab<;>intro h<;>try omega
     refine⟨[], [(nx,r)], ?_⟩
     simp(disch:=omega)only[go_sem,aQ,aF,aN]
     refine au (by simp(disch:=omega) [aF]) ?_ rfl (by simp;try omega) (by simp[eg];try omega)
     repeat' first|exact hF.wkA|refine av ?_ ?_ ?_ ?_ ?_|(simp(disch:=omega) [aF]<;>omega)|omega
    ·rw[if_neg Z]
     repeat' first|simp(disch:=omega)only[go_sem, *,aF,aN,H]|apply ab<;>intro h<;>try omega|refine aA (by simp(disch:=omega)only[al,aj,aF,eq_self,↓reduceIte,Option.map_some]<;>rfl) (by intro h;cases h) (an rfl) (by simp;omega) (by simp;omega) ?_
     refine⟨[], [(nx,nx+2)], ?_⟩
     simp(disch:=omega)only[go_sem,aQ,aF,aN,H]
     refine au (by simp(disch:=omega) [aF]) ?_ rfl (by simp;try omega) (by simp[eg];try omega)
     repeat' first|exact hF.wkA|refine av ?_ ?_ ?_ ?_ ?_|(simp(disch:=omega) [aF]<;>omega)|omega
def jG:List (aU×Int)→Int
 | []=>0
 |p::r=>p.1.1.1*p.2+jG r
def iV (n:ByteArray):List (aU×Int)→Int
 | []=>0
 |p::r=>cf p.1.1.2 n*p.2+iV n r
theorem BL: ∀{l:List (aU×Int)} {out:bW} {eq:Bool} {c:aU},ep out eq l=(c,0)→aI out.2→(∀p∈l,aI p.1.1.2)→
  aI c.1.2∧c.1.1=out.1+jG l∧(∀n,cf c.1.2 n=cf out.2 n+iV n l)∧c.2=(eq&&C3 l)
 |[],out,eq,c,h,ho,_=>by
  rw[ep]at h
  cases h
  exact⟨ho,by simp[jG],λn=>by simp[iV],by simp[C3]⟩
 |p::r,out,eq,c,h,ho,hl=>by
  rw[ep]at h
  split at h
  ·cases h
  ·have hp:=hl p List.mem_cons_self
   obtain⟨h1,h2,h3,h4⟩:=BL h (EW ho (ng hp)) λq hq=>hl q (List.mem_cons_of_mem _ hq)
   refine⟨h1, ?_,λn=> ?_, ?_⟩
   ·rw[h2,jG]
    show out.1+(bq p.1.1 p.2).1+jG r=_
    rw[ot]
    omega
   ·rw[h3,iV,ED (bD.1 ho).1 (bD.1 (ng hp)).1,sg]
    omega
   ·rw[h4]
    simp[C3,Bool.and_assoc]
theorem DV: ∀{l:List (aU×Int)} {out:bW} {eq:Bool},(ep out eq l).2=0∨ep out eq l=(mM,3)
 | [],out,eq=> .inl rfl
 |p::r,out,eq=>by
  rw[ep]
  split
  ·exact .inr rfl
  ·exact DV
theorem kr {l:List aU} {b:List Int} {c:aU} (h:aD l b=(c,0)):
  l.length=b.length∧(∀p∈l.zip b,QC p)∧aI c.1.2∧c.1.1=jG (l.zip b)∧(∀n,cf c.1.2 n=iV n (l.zip b))∧c.2=C3 (l.zip b):=by
 rw[aD]at h
 split at h
 ·cases h
 ·rename_i h1
  split at h
  ·cases h
  ·rename_i h2
   have G: ∀p∈l.zip b,QC p:= λp hp=>FC.1 λhb=>h2 ⟨p,hp,hb⟩
   obtain⟨g1,g2,g3,g4⟩:=BL h (λi hi=>by simp at hi) λp hp=>(G p hp).1
   exact⟨Classical.not_not.1 h1,G,g1,by rw[g2];simp,λn=>by rw[g3];simp[cf],by rw[g4];simp⟩
theorem qI {l:List aU} {b:List Int} (hl:l.length=b.length) (hb: ∀p∈l.zip b,QC p):(aD l b).2=0∨aD l b=(mM,3):=by
 rw[aD,if_neg (not_not_intro hl),if_neg (by rintro⟨p,hp,h⟩;exact FC.2 (hb p hp) h)]
 exact DV
def ev (x:ByteArray→Rat):List aR→Rat
 | []=>0
 |m::r=>(m.2:Rat)*x m.1+ev x r
def val (x:ByteArray→Rat) (a:bW):Rat:=(a.1:Rat)+ev x a.2
def holds (x:ByteArray→Rat) (c:aU):Prop:=0≤val x c.1∧(c.2=true→val x c.1=0)
theorem xL: ∀{l acc:List aU} {t:List aU},fD acc l=(t,0)→ ∃r,t=acc++r∧r.length=l.length∧(∀k (h:k<l.length) (h':k<r.length),(cG l[k]).2.2=0∧r[k]=(cG l[k]).1)
 |[],acc,t,h=>by
  rw[fD]at h
  cases h
  exact⟨[],by simp,rfl,λk h=>by simp at h⟩
 |c::l,acc,t,h=>by
  rw[fD]at h
  split at h
  ·rename_i h0
   exact absurd (congrArg Prod.snd h) h0
  ·rename_i h0
   obtain⟨r,h1,h2,h3⟩:=xL h
   refine⟨(cG c).1::r,by rw[h1];simp,by simp[h2],λk hk hI=> ?_⟩
   cases k with
   |zero=>exact⟨Classical.not_not.1 h0,rfl⟩
   |succ k=>exact h3 k (by simpa using hk) (by simpa using hI)
theorem j7 {l t:List aU} (h:be l=(t,0)):t.length=l.length∧(∀c∈l,(cG c).2.2=0)∧ ∀d∈t,∃c∈l,d=(cG c).1:=by
 rw[be]at h
 split at h
 ·cases h
 ·obtain⟨r,h1,h2,h3⟩:=xL h
  simp only[List.nil_append]at h1
  subst h1
  refine⟨h2,λc hc=> ?_,λd hd=> ?_⟩
  ·obtain⟨k,hk,rfl⟩:=List.mem_iff_getElem.1 hc
   exact(h3 k hk (by omega)).1
  ·obtain⟨k,hk,rfl⟩:=List.mem_iff_getElem.1 hd
   exact⟨l[k],List.getElem_mem _,(h3 k (by omega) hk).2⟩
structure c6 (T:List aU) (r:cH):Prop where
 lin:aI r.1.1.2
 r64:G8 r
 len:r.2.length=T.length
 ok: ∀p∈T.zip r.2,QC p
 k:r.1.1.1=jG (T.zip r.2)
 c: ∀n,cf r.1.1.2 n=iV n (T.zip r.2)
 q:r.1.2=true→C3 (T.zip r.2)=true
theorem IF {x y:Int}: ∀{l:List (Int×Int)} {s:List Int},gl x y l=some s→s=l.map (λp=>p.1*x+p.2*y)∧ ∀n∈s,am n
 |[],s,h=>by
  rw[gl]at h
  cases h
  exact⟨rfl,by simp⟩
 |p::l,s,h=>by
  rw[gl]at h
  split at h
  ·rename_i hs
   cases hr:gl x y l with
   |none=>rw[hr]at h;cases h
   |some t=>
    rw[hr]at h
    cases h
    obtain⟨h1,h2⟩:=IF hr
    refine⟨by rw[List.map_cons,h1],λn hn=> ?_⟩
    rcases List.mem_cons.1 hn with rfl|hn
    ·exact(wE.1 hs).2.2
    ·exact h2 n hn
  ·cases h
abbrev Cp (x y:Int) (a b:List Int):List Int:=(a.zip b).map λp=>p.1*x+p.2*y
theorem IB {x y:Int}: ∀{T:List aU} {a b:List Int},a.length=T.length→b.length=T.length→jG (T.zip (Cp x y a b))=jG (T.zip a)*x+jG (T.zip b)*y
 | [],a,b,_,_=>by simp[jG]
 |t::T, [],b,h,_=>by simp at h
 |t::T,u::a, [],_,h=>by simp at h
 |t::T,u::a,v::b,h1,h2=>by
  have ih:=IB (x:=x) (y:=y) (T:=T) (a:=a) (b:=b) (by simpa using h1) (by simpa using h2)
  simp only[Cp,List.zip_cons_cons,List.map_cons,jG]at ih ⊢
  rw[ih]
  simp only[Int.mul_add,Int.add_mul,Int.mul_assoc]
  omega
theorem IS {n:ByteArray} {x y:Int}: ∀{T:List aU} {a b:List Int},a.length=T.length→b.length=T.length→iV n (T.zip (Cp x y a b))=iV n (T.zip a)*x+iV n (T.zip b)*y
 | [],a,b,_,_=>by simp[iV]
 |t::T, [],b,h,_=>by simp at h
 |t::T,u::a, [],_,h=>by simp at h
 |t::T,u::a,v::b,h1,h2=>by
  have ih:=IS (n:=n) (x:=x) (y:=y) (T:=T) (a:=a) (b:=b) (by simpa using h1) (by simpa using h2)
  simp only[Cp,List.zip_cons_cons,List.map_cons,iV]at ih ⊢
  rw[ih]
  simp only[Int.mul_add,Int.add_mul,Int.mul_assoc]
  omega
theorem xg {T:List aU} {b:List Int} {p:aU×Int} (h:p∈T.zip b): ∃i,∃h1:i<T.length,∃h2:i<b.length,p=(T[i],b[i]):=by
 obtain⟨i,hi,rfl⟩:=List.mem_iff_getElem.1 h
 have:=hi
 rw[List.length_zip]at this
 exact⟨i,by omega,by omega,List.getElem_zip⟩
theorem rx {T:List aU} {b:List Int} {i:Nat} (h1:i<T.length) (h2:i<b.length):(T[i],b[i])∈T.zip b:=
 List.mem_iff_getElem.2 ⟨i,by rw[List.length_zip];omega,List.getElem_zip⟩
theorem kO {l:List (aU×Int)}:C3 l=true↔ ∀p∈l,p.1.2=true∨p.2=0:=by simp[C3,List.all_eq_true,Bool.or_eq_true]
theorem c6.mix {T:List aU} {a b:cH} {x y:Int} {c:aU} {s:List Int} (ha:c6 T a) (hb:c6 T b) (hc:aD [a.1,b.1] [x,y]=(c,0)) (hs:gl x y (a.2.zip b.2)=some s):c6 T (c,s):=by
 obtain⟨g1,g2,g3,g4,g5,g6⟩:=kr hc
 obtain⟨rfl,HB⟩:=IF hs
 have oa:=g2 (a.1,x) (by simp)
 have ob:=g2 (b.1,y) (by simp)
 have hA:(Cp x y a.2 b.2).length=T.length:=by simp[ha.len,hb.len]
 refine⟨g3,⟨?_,HB⟩,hA,λp hp=> ?_, ?_,λn=> ?_,λhq=> ?_⟩
 ·have:=td [a.1,b.1] [x,y]
  rw[hc]at this
  exact this
 ·obtain⟨i,h1,h2,rfl⟩:=xg hp
  have e1:=ha.ok _ (rx h1 (by rw[ha.len];exact h1))
  have e2:=hb.ok _ (rx h1 (by rw[hb.len];exact h1))
  refine⟨e1.1,λh=> ?_⟩
  obtain⟨HC,hJ⟩:=h
  simp only[Cp,List.getElem_map,List.getElem_zip]at HC
  have n1:= λh=>e1.2 ⟨h,hJ⟩
  have n2:= λh=>e2.2 ⟨h,hJ⟩
  simp only at n1 n2
  have z1:a.1.2=true→a.2[i]'(by rw[ha.len];exact h1)=0:= λh=>by
   rcases kO.1 (ha.q h) _ (rx h1 (by rw[ha.len];exact h1))with h|h
   ·rw[hJ]at h;cases h
   ·exact h
  have z2:b.1.2=true→b.2[i]'(by rw[hb.len];exact h1)=0:= λh=>by
   rcases kO.1 (hb.q h) _ (rx h1 (by rw[hb.len];exact h1))with h|h
   ·rw[hJ]at h;cases h
   ·exact h
  have p1:0≤a.2[i]'(by rw[ha.len];exact h1)*x:=by
   by_cases h:a.1.2=true
   ·rw[z1 h];omega
   ·exact Int.mul_nonneg (Int.not_lt.1 n1) (Int.not_lt.1 λh'=>oa.2 ⟨h',by simpa using h⟩)
  have p2:0≤b.2[i]'(by rw[hb.len];exact h1)*y:=by
   by_cases h:b.1.2=true
   ·rw[z2 h];omega
   ·exact Int.mul_nonneg (Int.not_lt.1 n2) (Int.not_lt.1 λh'=>ob.2 ⟨h',by simpa using h⟩)
  omega
 ·show c.1.1=jG (T.zip (Cp x y a.2 b.2))
  rw[IB ha.len hb.len,←ha.k,←hb.k,g4]
  simp[jG]
 ·show cf c.1.2 n=iV n (T.zip (Cp x y a.2 b.2))
  rw[IS ha.len hb.len,←ha.c,←hb.c,g5]
  simp[iV]
 ·show C3 (T.zip (Cp x y a.2 b.2))=true
  simp only at hq
  rw[g6]at hq
  have hq:=kO.1 hq
  have qa:=hq (a.1,x) (by simp)
  have qb:=hq (b.1,y) (by simp)
  simp only at qa qb
  refine kO.2 λp hp=> ?_
  obtain⟨i,h1,h2,rfl⟩:=xg hp
  by_cases hT:T[i].2=true
  ·exact .inl hT
  ·refine .inr ?_
   simp only[Cp,List.getElem_map,List.getElem_zip]
   have p1:a.2[i]'(by rw[ha.len];exact h1)*x=0:=by
    rcases qa with h|h
    ·rcases kO.1 (ha.q h) _ (rx h1 (by rw[ha.len];exact h1))with h|h
     ·exact absurd h hT
     ·simp only at h;rw[h,Int.zero_mul]
    ·rw[h,Int.mul_zero]
   have p2:b.2[i]'(by rw[hb.len];exact h1)*y=0:=by
    rcases qb with h|h
    ·rcases kO.1 (hb.q h) _ (rx h1 (by rw[hb.len];exact h1))with h|h
     ·exact absurd h hT
     ·simp only at h;rw[h,Int.zero_mul]
    ·rw[h,Int.mul_zero]
   omega
theorem Gy: ∀{l:List Int} {g:Nat},qC g l∣g∧ ∀n∈l,qC g l∣n.natAbs
 | [],g=>⟨Nat.dvd_refl _,by simp⟩
 |n::l,g=>by
  obtain⟨h1,h2⟩:=Gy (l:=l) (g:=Nat.gcd g n.natAbs)
  refine⟨Nat.dvd_trans h1 (Nat.gcd_dvd_left _ _),λm hm=> ?_⟩
  rcases List.mem_cons.1 hm with rfl|hm
  ·exact Nat.dvd_trans h1 (Nat.gcd_dvd_right _ _)
  ·exact h2 m hm
theorem F6 {g:Int}: ∀{T:List aU} {b:List Int},(∀n∈b,g∣n)→jG (T.zip (b.map λn=>n.tdiv g))*g=jG (T.zip b)
 | [],b,_=>by simp[jG]
 |t::T, [],_=>by simp[jG]
 |t::T,n::b,h=>by
  have ih:=F6 (g:=g) (T:=T) (b:=b) (λm hm=>h m (List.mem_cons_of_mem _ hm))
  have h1:=Int.tdiv_mul_cancel (h n List.mem_cons_self)
  simp only[List.map_cons,List.zip_cons_cons,jG,Int.add_mul,ih]
  rw[Int.mul_assoc,h1]
theorem Aw {n:ByteArray} {g:Int}: ∀{T:List aU} {b:List Int},(∀n∈b,g∣n)→iV n (T.zip (b.map λn=>n.tdiv g))*g=iV n (T.zip b)
 | [],b,_=>by simp[iV]
 |t::T, [],_=>by simp[iV]
 |t::T,m::b,h=>by
  have ih:=Aw (n:=n) (g:=g) (T:=T) (b:=b) (λk hk=>h k (List.mem_cons_of_mem _ hk))
  have h1:=Int.tdiv_mul_cancel (h m List.mem_cons_self)
  simp only[List.map_cons,List.zip_cons_cons,iV,Int.add_mul,ih]
  rw[Int.mul_assoc,h1]
theorem Ok {g:Nat} {n:ByteArray}: ∀{l:List aR},cf (Rj g l) n=(cf l n).tdiv g
 | []=>by simp[cf,Rj]
 |m::l=>by
  rw[Rj,List.map_cons,cf,cf]
  simp only
  split
  ·rfl
  ·exact Ok
theorem RA {x:Int} {g:Int} (h:g∣x) (hx:x≠0):x.tdiv g≠0:= λe=>by
 have:=Int.tdiv_mul_cancel h
 rw[e,Int.zero_mul]at this
 exact hx this.symm
theorem MY {x:Int} {g:Nat} (h: ¬x<0): ¬x.tdiv g<0:=by
 have:0≤x.tdiv (g:Int):=Int.tdiv_nonneg (by omega) (by omega)
 omega
theorem c6.reduced {T:List aU} {d:cH} (h:c6 T d):c6 T (ny d):=by
 unfold ny
 split
 ·exact h
 ·rename_i hg
  have hX:2≤qC 0 d.2:=by omega
  have hY: ∀n∈d.2,((qC 0 d.2:Nat):Int)∣n:= λn hn=>Int.ofNat_dvd_left.2 (Gy.2 n hn)
  generalize qC 0 d.2=g at*
  have hG:(g:Int)≠0:=by omega
  have eK:d.1.1.1.tdiv g=jG (T.zip (QX g d.2)):=by
   rw[h.k,←F6 (T:=T) hY,Int.mul_tdiv_cancel _ hG]
   rfl
  have eC: ∀n,(cf d.1.1.2 n).tdiv g=iV n (T.zip (QX g d.2)):= λn=>by
   rw[h.c,←Aw (T:=T) hY,Int.mul_tdiv_cancel _ hG]
   rfl
  have dC: ∀n,(g:Int)∣cf d.1.1.2 n:= λn=>by
   rw[h.c,←Aw (T:=T) hY]
   exact⟨_,Int.mul_comm _ _⟩
  obtain⟨s1,s2⟩:=bD.1 h.lin
  refine⟨bD.2 ⟨?_,λm hm=> ?_⟩,⟨⟨rN h.r64.1.1 hX,λm hm=> ?_⟩,λn hn=> ?_⟩,by simp[QX,h.len],λp hp=> ?_,eK,λn=>by rw[Ok];exact eC n,λhq=> ?_⟩
  ·show(Rj g d.1.1.2).Pairwise _
   rw[Rj,List.pairwise_map]
   exact s1
  ·obtain⟨z,hz,rfl⟩:=List.mem_map.1 hm
   refine⟨(s2 z hz).1,RA ?_ (s2 z hz).2⟩
   have:=dC z.1
   rw[uj s1 hz]at this
   exact this
  ·obtain⟨z,hz,rfl⟩:=List.mem_map.1 hm
   exact rN (h.r64.1.2 z hz) hX
  ·obtain⟨z,hz,rfl⟩:=List.mem_map.1 hn
   exact rN (h.r64.2 z hz) hX
  ·obtain⟨i,h1,h2,rfl⟩:=xg hp
   have:=h.ok _ (rx h1 (by rw[h.len];exact h1))
   refine⟨this.1,λhh=>this.2 ⟨?_,hh.2⟩⟩
   simp only[QX,List.getElem_map]at hh
   exact Classical.byContradiction λhc=>MY hc hh.1
  ·refine kO.2 λp hp=> ?_
   obtain⟨i,h1,h2,rfl⟩:=xg hp
   rcases kO.1 (h.q hq) _ (rx h1 (by rw[h.len];exact h1))with h'|h'
   ·exact .inl h'
   ·refine .inr ?_
    simp only at h'
    simp only[QX,List.getElem_map,h',Int.zero_tdiv]
theorem c6.merge {T:List aU} {a b:cH} {x y fuel:Int} (ha:c6 T a) (hb:c6 T b) (h:(ei fuel a b x y).2=0):c6 T (ei fuel a b x y).1:=by
 unfold ei at h ⊢
 split at h
 ·cases h
 ·rename_i h0
  rw[if_neg h0]
  split at h
  ·rename_i h1
   exact absurd h h1
  ·rename_i h1
   rw[if_neg h1]
   have hc:aD [a.1,b.1] [x,y]=((aD [a.1,b.1] [x,y]).1,0):=Prod.ext rfl (Classical.not_not.1 h1)
   cases hs:gl x y (a.2.zip b.2)with
   |none=>rw[hs]at h;cases h
   |some s=>exact(ha.mix hb hc hs).reduced
theorem JN {T:List aU} {a b:cH} {x y fuel:Int} (ha:c6 T a) (hb:c6 T b) (hx:0≤x∨a.1.2=true) (hy:0≤y∨b.1.2=true):(ei fuel a b x y).2=0∨(ei fuel a b x y).2=14∨(ei fuel a b x y).2=3:=by
 unfold ei
 split
 ·exact .inr (.inl rfl)
 ·have:=qI (l:= [a.1,b.1]) (b:= [x,y]) rfl (λp hp=>by
   have:p=(a.1,x)∨p=(b.1,y):=by simpa using hp
   rcases this with rfl|rfl
   ·exact⟨ha.lin,λh=>hx.elim (λh'=>absurd h.1 (Int.not_lt.2 h')) λh'=>by have:=h.2;simp only at this;rw[h']at this;cases this⟩
   ·exact⟨hb.lin,λh=>hy.elim (λh'=>absurd h.1 (Int.not_lt.2 h')) λh'=>by have:=h.2;simp only at this;rw[h']at this;cases this⟩)
  split
  ·rename_i h1
   rcases this with h|h
   ·exact absurd h h1
   ·rw[h];exact .inr (.inr rfl)
  ·split
   ·exact .inr (.inr rfl)
   ·exact .inl rfl
theorem Ih {d:cH}: ∀{rows out:List cH},pH d rows=some out→out.length=rows.length∧ ∀r∈out,r=d∨r∈rows
 | [],out,h=>by rw[pH]at h;cases h
 |r::rows,out,h=>by
  rw[pH]at h
  split at h
  ·cases h
   refine⟨by simp,λz hz=> ?_⟩
   rcases List.mem_cons.1 hz with rfl|hz
   ·split
    ·exact .inl rfl
    ·exact .inr List.mem_cons_self
   ·exact .inr (List.mem_cons_of_mem _ hz)
  ·cases hr:pH d rows with
   |none=>rw[hr]at h;cases h
   |some t=>
    rw[hr]at h
    cases h
    obtain⟨h1,h2⟩:=Ih hr
    refine⟨by simp[h1],λz hz=> ?_⟩
    rcases List.mem_cons.1 hz with rfl|hz
    ·exact .inr List.mem_cons_self
    ·exact(h2 z hz).imp_right (List.mem_cons_of_mem _)
theorem oq {rows:List cH} {d:cH} (hl:rows.length≤256):(cE rows d).1.length≤256∧(cE rows d).1.length≤rows.length+1∧(∀r∈(cE rows d).1,r=d∨r∈rows)∧((cE rows d).2=0∨(cE rows d).2=2):=by
 unfold cE
 split
 ·exact⟨hl,Nat.le_succ _,λr hr=> .inr hr,.inl rfl⟩
 ·cases hr:pH d rows with
  |some l=>
   obtain⟨h1,h2⟩:=Ih hr
   exact⟨by simp only;omega,by simp only;omega,h2,.inl rfl⟩
  |none=>
   simp only
   split
   ·exact⟨hl,Nat.le_succ _,λr hr=> .inr hr,.inr rfl⟩
   ·exact⟨by simp;omega,by simp,λr hr=>by simp at hr;exact hr.symm,.inl rfl⟩
def f5 (rows:List cH):List ByteArray:=(Lib.compact (((eL rows).map λs=>s.data.toList).mergeSort λx y=>decide (x≤y))).map λb=>⟨b.toArray⟩
def cj (rows:List cH):ByteArray×Int×Bool:=cK rows (f5 rows) (-1) .empty
def gW (rows:List cH) (fuel:Int):MG:=
 if 0≤(cj rows).2.1 then tr (cj rows).1 (cj rows).2.1.toNat rows fuel else ko (cj rows).1 rows fuel
def dz:List cH→Option (List Int)
 | []=>none
 |r::l=>if dM r.1 then some r.2 else dz l
def d4 (l:List aU) (b:List Int):Int:=
 if(be l).2≠0 then(be l).2 else if(aD (be l).1 b).2≠0 then(aD (be l).1 b).2 else if dM (aD (be l).1 b).1 then 0 else 17
def dh (l:List aU):Nat→List cH→Int→List Int×Bool×Int
 |0,_,_=>([],false,0)
 |N+1,rows,fuel=>match dz rows with
  |some b=>if d4 l b≠0 then([],false,d4 l b)else(b,true,0)
  |none=>if(cj rows).2.2=false then([],false,0)else
   if(gW rows fuel).2.2≠0 then([],false,(gW rows fuel).2.2)else dh l N (gW rows fuel).1 (gW rows fuel).2.1
def eZ (n k:Nat):List Int:=(List.replicate n 0).set k 1
def fG (n:Nat):Nat→List aU→List cH→List cH×Int
 |_, [],rows=>(rows,0)
 |k,c::r,rows=>if(cE rows (c,eZ n k)).2≠0 then([],(cE rows (c,eZ n k)).2)else fG n (k+1) r (cE rows (c,eZ n k)).1
def Tz (rows:List cH) (fuel:Int):Nat:=fuel.toNat*300+rows.length
def fQ (l:List aU) (fuel:Int):List Int×Bool×Int:=
 if(be l).2≠0 then([],false,(be l).2)else if fuel<0∨1048576<fuel then([],false,1)else
 if(fG l.length 0 (be l).1 []).2≠0 then([],false,(fG l.length 0 (be l).1 []).2)else
 dh l (fuel.toNat*300+300) (fG l.length 0 (be l).1 []).1 fuel
theorem oX {α:Type} [Inhabited α] [DecidableEq α] {d:Array α} {x:α}: ∀{m:Nat},x∈Lib.compactUpTo d m↔ ∃j,j<m∧d[j]! =x
 |0=>by simp[Lib.compactUpTo]
 |m+1=>by
  rw[Lib.compactUpTo_succ,List.mem_append,oX]
  constructor
  ·rintro(⟨j,h1,h2⟩|h)
   ·exact⟨j,by omega,h2⟩
   ·split at h
    ·exact⟨m,by omega,(List.mem_singleton.1 h).symm⟩
    ·cases h
  ·rintro⟨j,h1,h2⟩
   by_cases hj:j<m
   ·exact .inl ⟨j,hj,h2⟩
   ·have:j=m:=by omega
    subst this
    by_cases hk:Lib.keeps d j=true
    ·rw[if_pos hk]
     exact .inr (List.mem_singleton.2 h2.symm)
    ·have hI: ¬(j=0∨d[j]! ≠d[j-1]!):=by simpa[Lib.keeps]using hk
     refine .inl ⟨j-1, ?_, ?_⟩
     ·have:j≠0:= λh=>hI (.inl h)
      omega
     ·rw[←h2]
      exact(Classical.not_not.1 λh=>hI (.inr h)).symm
theorem xK {α:Type} [Inhabited α] [DecidableEq α] {l:List α} {x:α}:x∈Lib.compact l↔x∈l:=by
 rw[Lib.compact,oX]
 constructor
 ·rintro⟨j,h1,h2⟩
  rw[←h2]
  have:l.toArray[j]! =l[j]:=by simp[h1]
  rw[this]
  exact List.getElem_mem _
 ·intro h
  obtain⟨j,hj,rfl⟩:=List.mem_iff_getElem.1 h
  exact⟨j,hj,by simp[hj]⟩
theorem Ae {rows:List cH} {n:ByteArray}:n∈f5 rows↔n∈eL rows:=by
 rw[f5,List.mem_map]
 constructor
 ·rintro⟨b,hb,rfl⟩
  rw[xK,List.mem_mergeSort,List.mem_map]at hb
  obtain⟨s,hs,rfl⟩:=hb
  exact hs
 ·intro h
  exact⟨n.data.toList,by rw[xK,List.mem_mergeSort];exact List.mem_map_of_mem h,rfl⟩
theorem Fl {rows:List cH} {n:ByteArray}:n∈eL rows↔ ∃r∈rows,∃m∈r.1.1.2,m.1=n:=by
 simp[eL,List.mem_flatMap,List.mem_map]
theorem xh {n:ByteArray}: ∀{l:List cH} {k i:Nat},mW n k l=some i→ ∃h:i-k<l.length,k≤i∧cf l[i-k].1.1.2 n≠0∧l[i-k].1.2=true
 | [],k,i,h=>by rw[mW]at h;cases h
 |r::l,k,i,h=>by
  rw[mW]at h
  split at h
  ·rename_i h0
   cases h
   refine⟨by simp,Nat.le_refl _, ?_⟩
   simp only[Nat.sub_self,List.getElem_cons_zero]
   exact h0
  ·obtain⟨h1,h2,h3⟩:=xh h
   have e:i-k=i-(k+1)+1:=by omega
   refine⟨by simp;omega,by omega, ?_⟩
   simp only[e,List.getElem_cons_succ]
   exact h3
theorem kT {rows:List cH} {N:List ByteArray}: ∀{vs:List ByteArray} {best:Int} {name:ByteArray},(0≤best→name∈N∧mW name 0 rows=none)→(∀v∈vs,v∈N)→
  ((cK rows vs best name).2.1= -1∨0≤(cK rows vs best name).2.1)∧
  (0≤(cK rows vs best name).2.1→(cK rows vs best name).1∈N∧mW (cK rows vs best name).1 0 rows=some (cK rows vs best name).2.1.toNat∧(cK rows vs best name).2.2=true)∧
  ((cK rows vs best name).2.1= -1→(cK rows vs best name).2.2=true→(cK rows vs best name).1∈N∧mW (cK rows vs best name).1 0 rows=none)∧
  ((cK rows vs best name).2.2=false→vs= []∧best<0)
 |[],best,name,hb,hv=>by
  rw[cK]
  refine⟨.inl rfl,λh=>(by simp at h),λ_ h=>hb (of_decide_eq_true h),λh=>⟨rfl,by have:=of_decide_eq_false h;omega⟩⟩
 |v::vs,best,name,hb,hv=>by
  rw[cK]
  cases he:mW v 0 rows with
  |some k=>
   simp only
   exact⟨.inr (by omega),λ_=>⟨hv v List.mem_cons_self,by rw[he];simp,trivial⟩,λh=>(by omega),λh=>(by cases h)⟩
  |none=>
   simp only
   split
   ·obtain⟨h1,h2,h3,h4⟩:=kT (rows:=rows) (N:=N) (vs:=vs) (best:=((qu v rows*Hd v rows:Nat):Int)) (name:=v) (λ_=>⟨hv v List.mem_cons_self,he⟩) λz hz=>hv z (List.mem_cons_of_mem _ hz)
    exact⟨h1,h2,h3,λh=>by have:=(h4 h).2;omega⟩
   ·rename_i hn
    obtain⟨h1,h2,h3,h4⟩:=kT (rows:=rows) (N:=N) (vs:=vs) (best:=best) (name:=name) hb λz hz=>hv z (List.mem_cons_of_mem _ hz)
    exact⟨h1,h2,h3,λh=>absurd (.inl (h4 h).2) hn⟩
def Er (e:Int):Prop:=e=0∨e=2∨e=3∨e=14
structure kp (P:cH→Prop) (w:Nat) (acc:List cH) (fuel:Int) (s:MG):Prop where
 len:s.1.length≤256
 all: ∀r∈s.1,P r
 le:s.2.1≤fuel
 more:s.2.1=fuel→s.2.2=0→s.1.length≤acc.length+w
 er:Er s.2.2
 pos:s.2.2=0→0≤fuel→0≤s.2.1
theorem uA {α:Type} {step:α→List cH→Int→MG} {P:cH→Prop} {w:α→Nat}: ∀{l:List α},(∀x∈l,∀acc fuel,(∀r∈acc,P r)→acc.length≤256→kp P (w x) acc fuel (step x acc fuel))→
  ∀acc fuel,(∀r∈acc,P r)→acc.length≤256→kp P (l.map w).sum acc fuel (cd step l acc fuel)
 | [],_,acc,fuel,ha,hl=>⟨hl,ha,Int.le_refl _,λ_ _=>by simp[cd],.inl rfl,λ_ h=>h⟩
 |x::l,hs,acc,fuel,ha,hl=>by
  have h1:=hs x List.mem_cons_self acc fuel ha hl
  rw[cd]
  split
  ·rename_i he
   exact⟨h1.len,h1.all,h1.le,λ_ h=>absurd h he,h1.er,λh=>absurd h he⟩
  ·rename_i he
   have he:=Classical.not_not.1 he
   have h2:=uA (λy hy=>hs y (List.mem_cons_of_mem _ hy)) (step x acc fuel).1 (step x acc fuel).2.1 h1.all h1.len
   refine⟨h2.len,h2.all,Int.le_trans h2.le h1.le,λe e0=> ?_,h2.er,λe e0=>h2.pos e (h1.pos he e0)⟩
   have a1:=h1.le
   have a2:=h2.le
   have a3:=h1.more (by omega) he
   have a4:=h2.more (by omega) e0
   simp only[List.map_cons,List.sum_cons]
   omega
theorem xD {T:List aU} {a b:cH} {x y:Int} (ha:c6 T a) (hb:c6 T b) (hx:0≤x∨a.1.2=true) (hy:0≤y∨b.1.2=true) {acc:List cH} {fuel:Int} (h: ∀r∈acc,c6 T r) (hl:acc.length≤256):
  kp (c6 T) 0 acc fuel (ji a b x y acc fuel):=by
 unfold ji
 split
 ·rename_i h0
  have:=JN (fuel:=fuel) ha hb hx hy
  refine⟨hl,h,by simp only;omega,λe=>(by simp only at e;omega), ?_,λe=>absurd e h0⟩
  rcases this with h|h|h
  ·exact absurd h h0
  ·exact .inr (.inr (.inr h))
  ·exact .inr (.inr (.inl h))
 ·rename_i h0
  have h0:=Classical.not_not.1 h0
  obtain⟨g1,g2,g3,g4⟩:=oq (d:=(ei fuel a b x y).1) hl
  refine⟨g1,λr hr=> ?_,by simp only;omega,λe=>(by simp only at e;omega), ?_,λ_ hf=> ?_⟩
  ·rcases g3 r hr with rfl|h'
   ·exact ha.merge hb h0
   ·exact h r h'
  ·rcases g4 with h|h
   ·exact .inl h
   ·exact .inr (.inl h)
  ·have: ¬fuel≤0:= λhc=>by
    rw[ei,if_pos hc]at h0
    cases h0
   simp only
   omega
theorem NZ {T:List aU} {d:cH} (hd:c6 T d) {acc:List cH} {fuel:Int} (h: ∀r∈acc,c6 T r) (hl:acc.length≤256):kp (c6 T) 1 acc fuel ((cE acc d).1,fuel,(cE acc d).2):=by
 obtain⟨g1,g2,g3,g4⟩:=oq (d:=d) hl
 exact⟨g1,λr hr=>(g3 r hr).elim (λe=>e▸hd) (h r),Int.le_refl _,λ_ _=>g2,g4.elim .inl λh=> .inr (.inl h),λ_ h=>h⟩
theorem Fn {T:List aU} {acc:List cH} {fuel:Int} {w:Nat} (h: ∀r∈acc,c6 T r) (hl:acc.length≤256):kp (c6 T) w acc fuel (acc,fuel,0):=⟨hl,h,Int.le_refl _,λ_ _=>by simp only;omega,.inl rfl,λ_ h=>h⟩
theorem PS {T:List aU} {acc:List cH} {fuel:Int} {w:Nat} {e:Int} (he:Er e) (h0:e≠0) (h: ∀r∈acc,c6 T r) (hl:acc.length≤256):kp (c6 T) w acc fuel (acc,fuel,e):=⟨hl,h,Int.le_refl _,λ_ e=>absurd e h0,he,λe=>absurd e h0⟩
theorem zm (n:Nat):0≤(jB n false).1:=by
 unfold jB
 split
 ·exact Int.le_refl _
 ·simp
theorem GT {T:List aU} {n:ByteArray} {q:cH} {e:Nat} (hq:c6 T q) (HM:q.1.2=true) {r:Nat×cH} (hr:c6 T r.2) (acc:List cH) (fuel:Int) (h: ∀r∈acc,c6 T r) (hl:acc.length≤256):
  kp (c6 T) (if r.1=e then 0 else 1) acc fuel (o9 n q e r acc fuel):=by
 unfold o9
 split
 ·exact Fn h hl
 ·split
  ·exact NZ hr h hl
  ·split
   ·exact PS (.inr (.inr (.inl rfl))) (by decide) h hl
   ·have:=xD (fuel:=fuel) hr hq (.inl (zm _)) (.inr HM) (x:=(fO (cf q.1.1.2 n) (cf r.2.1.1.2 n)).1) (y:=(fO (cf q.1.1.2 n) (cf r.2.1.1.2 n)).2.1) h hl
    exact⟨this.len,this.all,this.le,λa b=>Nat.le_trans (this.more a b) (by omega),this.er,this.pos⟩
theorem Hu {T:List aU} {n:ByteArray} {r:cH} (hr:c6 T r) (acc:List cH) (fuel:Int) (h: ∀r∈acc,c6 T r) (hl:acc.length≤256):kp (c6 T) (if cf r.1.1.2 n=0 then 1 else 0) acc fuel (gi n r acc fuel):=by
 unfold gi
 split
 ·exact NZ hr h hl
 ·exact Fn h hl
theorem Gw {T:List aU} {n:ByteArray} {a b:cH} (ha:c6 T a) (hb:c6 T b) (acc:List cH) (fuel:Int) (h: ∀r∈acc,c6 T r) (hl:acc.length≤256):kp (c6 T) 0 acc fuel (dx n a b acc fuel):=by
 unfold dx
 split
 ·exact Fn h hl
 ·split
  ·exact PS (.inr (.inr (.inl rfl))) (by decide) h hl
  ·exact xD ha hb (.inl (zm _)) (.inl (zm _)) h hl
theorem Hn {α:Type}: ∀{l:List α} {k:Nat} {x:Nat×α},x∈ut k l→x.2∈l
 | [],k,x,h=>by cases h
 |y::l,k,x,h=>by
  rcases List.mem_cons.1 h with rfl|h
  ·exact List.mem_cons_self
  ·exact List.mem_cons_of_mem _ (Hn h)
theorem Hs {α:Type} {e:Nat}: ∀{l:List α} {k:Nat},((ut k l).map λx=>if x.1=e then 0 else 1).sum≤l.length∧(k≤e→e<k+l.length→((ut k l).map λx=>if x.1=e then 0 else 1).sum<l.length)
 | [],k=>by simp[ut]
 |y::l,k=>by
  obtain⟨h1,h2⟩:=Hs (e:=e) (l:=l) (k:=k+1)
  simp only[ut,List.map_cons,List.sum_cons,List.length_cons]
  by_cases hk:k=e
  ·rw[if_pos hk]
   exact⟨by omega,λ_ _=>by omega⟩
  ·rw[if_neg hk]
   exact⟨by omega,λa b=>by have:=h2 (by omega) (by omega);omega⟩
theorem GQ {n:ByteArray}: ∀{l:List cH},(l.map λr=>if cf r.1.1.2 n=0 then 1 else 0).sum≤l.length∧((∃r∈l,cf r.1.1.2 n≠0)→(l.map λr=>if cf r.1.1.2 n=0 then 1 else 0).sum<l.length)
 | []=>by simp
 |r::l=>by
  obtain⟨h1,h2⟩:=GQ (n:=n) (l:=l)
  simp only[List.map_cons,List.sum_cons,List.length_cons]
  by_cases hk:cf r.1.1.2 n=0
  ·rw[if_pos hk]
   refine⟨by omega,λ⟨z,hz,h0⟩=> ?_⟩
   rcases List.mem_cons.1 hz with rfl|hz
   ·exact absurd hk h0
   ·have:=h2 ⟨z,hz,h0⟩
    omega
  ·rw[if_neg hk]
   exact⟨by omega,λ_=>by omega⟩
theorem AD {α:Type}: ∀{l:List α},(l.map λ_=>0).sum=0
 | []=>rfl
 |_::l=>by rw[List.map_cons,List.sum_cons,AD]
theorem Ni {T:List aU} {n:ByteArray} {e:Nat} {rows:List cH} {fuel:Int} (h: ∀r∈rows,c6 T r) (he:e<rows.length) (hq:rows[e].1.2=true):
  kp (c6 T) (rows.length-1) [] fuel (tr n e rows fuel):=by
 have hg:rows.getD e Kv=rows[e]:=by simp[List.getD_eq_getElem?_getD,he]
 have h1:=uA (step:=o9 n (rows.getD e Kv) e) (P:=c6 T) (w:= λx=>if x.1=e then 0 else 1) (l:=ut 0 rows) (λx hx acc f ha hl=>by
  rw[hg]
  exact GT (h _ (List.getElem_mem he)) hq (h _ (Hn hx)) acc f ha hl) [] fuel (by simp) (by simp)
 have h2:=(Hs (e:=e) (l:=rows) (k:=0)).2 (by omega) (by omega)
 exact⟨h1.len,h1.all,h1.le,λa b=>by have:=h1.more a b;simp only[List.length_nil]at this ⊢;exact Nat.le_trans this (by omega),h1.er,h1.pos⟩
theorem MC {T:List aU} {n:ByteArray} {rows:List cH} {fuel:Int} (h: ∀r∈rows,c6 T r) (he: ∃r∈rows,cf r.1.1.2 n≠0):kp (c6 T) (rows.length-1) [] fuel (ko n rows fuel):=by
 have h1:=uA (step:=gi n) (P:=c6 T) (w:= λr=>if cf r.1.1.2 n=0 then 1 else 0) (l:=rows) (λx hx acc f ha hl=>Hu (h x hx) acc f ha hl) [] fuel (by simp) (by simp)
 have h2:=(GQ (n:=n) (l:=rows)).2 he
 unfold ko
 split
 ·rename_i h0
  exact⟨h1.len,h1.all,h1.le,λa b=>absurd b h0,h1.er,λb=>absurd b h0⟩
 ·rename_i h0
  have h0:=Classical.not_not.1 h0
  have h3:=uA (step:= λa=>cd (dx n a) rows) (P:=c6 T) (w:= λ_=>0) (l:=rows) (λa ha acc f W hl=>by
   have:=uA (step:=dx n a) (P:=c6 T) (w:= λ_=>0) (l:=rows) (λb hb acc f W hl=>Gw (h a ha) (h b hb) acc f W hl) acc f W hl
   refine⟨this.len,this.all,this.le,λa b=> ?_,this.er,this.pos⟩
   have:=this.more a b
   rw[AD]at this
   exact this) (cd (gi n) rows [] fuel).1 (cd (gi n) rows [] fuel).2.1 h1.all h1.len
  refine⟨h3.len,h3.all,Int.le_trans h3.le h1.le,λa b=> ?_,h3.er,λa b=>h3.pos a (h1.pos h0 b)⟩
  have a1:=h1.le
  have a2:=h3.le
  have a3:=h1.more (by omega) h0
  have a4:=h3.more (by omega) b
  rw[AD]at a4
  simp only[List.length_nil,Nat.zero_add,Nat.add_zero]at a3 a4 ⊢
  omega
theorem uM {T:List aU} {rows:List cH} {fuel:Int} (h: ∀r∈rows,c6 T r) (hc:(cj rows).2.2=true):kp (c6 T) (rows.length-1) [] fuel (gW rows fuel)∧rows≠ []:=by
 obtain⟨g1,g2,g3,g4⟩:=kT (rows:=rows) (N:=f5 rows) (vs:=f5 rows) (best:= -1) (name:= .empty) (λh=>(by omega)) (λv hv=>hv)
 unfold gW
 split
 ·rename_i h0
  obtain⟨k1,k2,k3⟩:=g2 h0
  obtain⟨m1,m2,m3,m4⟩:=xh k2
  simp only[Nat.sub_zero]at m1 m4
  exact⟨Ni h m1 m4,λe=>by subst e;simp at m1⟩
 ·rename_i h0
  have h1:(cj rows).2.1= -1:=g1.resolve_right h0
  obtain⟨k1,k2⟩:=g3 h1 hc
  obtain⟨r,hr,m,hm,hn⟩:=Fl.1 (Ae.1 k1)
  obtain⟨s1,s2⟩:=bD.1 (h r hr).lin
  refine⟨MC h ⟨r,hr, ?_⟩,λe=>by subst e;cases hr⟩
  show cf r.1.1.2 (cK rows (f5 rows) (-1) .empty).1≠0
  rw[←hn,uj s1 hm]
  exact(s2 m hm).2
theorem Ms {T:List aU} {rows:List cH} {fuel:Int} (h: ∀r∈rows,c6 T r) (hl:rows.length≤256) (hf:0≤fuel) (hc:(cj rows).2.2=true) (he:(gW rows fuel).2.2=0):Tz (gW rows fuel).1 (gW rows fuel).2.1<Tz rows fuel:=by
 obtain⟨h1,h2⟩:=uM (fuel:=fuel) h hc
 have a1:=h1.le
 have a2:=h1.len
 have a3:=h1.pos he hf
 have a4:0<rows.length:=List.length_pos_iff.2 h2
 unfold Tz
 by_cases e:(gW rows fuel).2.1=fuel
 ·have:=h1.more e he
  simp at this
  rw[e]
  omega
 ·omega
theorem MS {l:List aU} {r:cH} (h0:(be l).2=0) (h:c6 (be l).1 r) (hb:dM r.1):d4 l r.2=0∨d4 l r.2=3:=by
 unfold d4
 rw[if_neg (by rw[h0];simp)]
 rcases qI h.len.symm h.ok with he|he
 ·rw[if_neg (by rw[he];simp)]
  have hc:aD (be l).1 r.2=((aD (be l).1 r.2).1,0):=Prod.ext rfl he
  generalize (aD (be l).1 r.2).1=c at*
  obtain⟨g1,g2,g3,g4,g5,g6⟩:=kr hc
  rw[if_pos]
  ·exact .inl rfl
  ·obtain⟨b1,b2⟩:=hb
   refine⟨?_, ?_⟩
   ·cases hB:c.1.2 with
    |nil=>rfl
    |cons m z=>
     obtain⟨s1,s2⟩:=bD.1 g3
     have hm:m∈c.1.2:=by rw[hB];exact List.mem_cons_self
     have:=uj s1 hm
     rw[g5,←h.c,b1]at this
     exact absurd this.symm (s2 m hm).2
   ·rw[g4,←h.k,g6]
    rcases b2 with b2|⟨b2,b3⟩
    ·exact .inl b2
    ·exact .inr ⟨h.q b2,b3⟩
 ·rw[he,if_pos (by simp)]
  exact .inr rfl
theorem mG: ∀{rows:List cH} {b:List Int},dz rows=some b→ ∃r∈rows,dM r.1∧r.2=b
 | [],b,h=>by rw[dz]at h;cases h
 |r::rows,b,h=>by
  rw[dz]at h
  split at h
  ·rename_i h0
   cases h
   exact⟨r,List.mem_cons_self,h0,rfl⟩
  ·obtain⟨z,hz,h1⟩:=mG h
   exact⟨z,List.mem_cons_of_mem _ hz,h1⟩
def V6 (e:Int):Prop:=e=2∨e=3∨e=14
theorem xG {l:List aU} (h0:(be l).2=0): ∀{N:Nat} {rows:List cH} {fuel:Int},(∀r∈rows,c6 (be l).1 r)→rows.length≤256→0≤fuel→
  ((dh l N rows fuel).2.2≠0→V6 (dh l N rows fuel).2.2∧(dh l N rows fuel).1= []∧(dh l N rows fuel).2.1=false)∧
  ((dh l N rows fuel).2.1=true→d4 l (dh l N rows fuel).1=0)∧((dh l N rows fuel).2.1=false→(dh l N rows fuel).1= [])
 |0,rows,fuel,_,_,_=>by rw[dh];exact⟨λh=>absurd rfl h,λh=>(by cases h),λ_=>rfl⟩
 |N+1,rows,fuel,h,hl,hf=>by
  rw[dh]
  cases hb:dz rows with
  |some b=>
   obtain⟨r,hr,h1,rfl⟩:=mG hb
   simp only
   rcases MS h0 (h r hr) h1 with he|he
   ·rw[if_neg (by rw[he];simp)]
    exact⟨λh=>absurd rfl h,λ_=>he,λh=>(by cases h)⟩
   ·rw[if_pos (by rw[he];decide)]
    exact⟨λ_=>⟨by rw[he];exact .inr (.inl rfl),rfl,rfl⟩,λh=>(by cases h),λ_=>rfl⟩
  |none=>
   simp only
   split
   ·exact⟨λh=>absurd rfl h,λh=>(by cases h),λ_=>rfl⟩
   ·rename_i hc
    have hc:(cj rows).2.2=true:=by simpa using hc
    obtain⟨h1,h2⟩:=uM (fuel:=fuel) h hc
    split
    ·rename_i he
     refine⟨λ_=>⟨?_,rfl,rfl⟩,λh=>(by cases h),λ_=>rfl⟩
     exact h1.er.resolve_left he
    ·rename_i he
     exact xG h0 h1.all h1.len (h1.pos (Classical.not_not.1 he) hf)
theorem C6:aI []:= λi hi=>by simp at hi
theorem sj:aI mM.1.2∧br mM:=⟨C6,Fu⟩
theorem yU:aI Kx.1.2∧br Kx:=⟨C6,⟨by show am (-1);unfold am;omega,λm hm=>by cases hm⟩⟩
theorem Mr {c:aU} (E:br c):aI (cG c).1.1.2∧br (cG c).1∧((cG c).2.2=0→aI c.1.2):=by
 unfold cG
 split
 ·exact⟨sj.1,sj.2,λh=>by cases h⟩
 ·rename_i G
  have G:=Classical.not_not.1 G
  split
  ·split
   ·exact⟨sj.1,sj.2,λ_=>G⟩
   ·exact⟨yU.1,yU.2,λ_=>G⟩
  ·rename_i hl
   have hg:=Ac hl (λm hm=>((bD.1 G).2 m hm).2)
   have hd:=Ly G
   have L: ∀m∈eU (fi c.1.2) c.1.2,am m.2:= λm hm=>by
    obtain⟨z,hz,rfl⟩:=List.mem_map.1 hm
    exact w8 (E.2 z hz) hg
   split
   ·exact⟨yU.1,yU.2,λ_=>G⟩
   ·split
    ·split
     ·rename_i hn
      obtain⟨s1,s2⟩:=bD.1 hd
      refine⟨bD.2 ⟨?_,λm hm=> ?_⟩,⟨hn.1,λm hm=> ?_⟩,λ_=>G⟩
      ·show((eU (fi c.1.2) c.1.2).map _).Pairwise _
       rw[List.pairwise_map]
       exact s1
      ·obtain⟨z,hz,rfl⟩:=List.mem_map.1 hm
       exact⟨(s2 z hz).1,by have:=(s2 z hz).2;simp only;omega⟩
      ·obtain⟨z,hz,rfl⟩:=List.mem_map.1 hm
       exact hn.2 z hz
     ·exact⟨sj.1,sj.2,λh=>by cases h⟩
    ·exact⟨hd,⟨w8 E.1 hg,L⟩,λ_=>G⟩
theorem lg {l t:List aU} (h:be l=(t,0)) (E: ∀c∈l,br c): ∀d∈t,aI d.1.2∧br d:= λd hd=>by
 obtain⟨_,_,h3⟩:=j7 h
 obtain⟨c,hc,rfl⟩:=h3 d hd
 obtain⟨g1,g2,_⟩:=Mr (E c hc)
 exact⟨g1,g2⟩
theorem Jz (c:aU):(cG c).1.1.2.length≤c.1.2.length:=by
 unfold cG
 (repeat' split)<;>simp[mM,Kx,eU]
theorem Dr: ∀{T:List aU} {n:Nat},jG (T.zip (List.replicate n 0))=0
 | [],n=>by simp[jG]
 |t::T,0=>by simp[jG]
 |t::T,n+1=>by
  rw[List.replicate_succ,List.zip_cons_cons,jG,Dr]
  simp
theorem Dq {m:ByteArray}: ∀{T:List aU} {n:Nat},iV m (T.zip (List.replicate n 0))=0
 | [],n=>by simp[iV]
 |t::T,0=>by simp[iV]
 |t::T,n+1=>by
  rw[List.replicate_succ,List.zip_cons_cons,iV,Dq]
  simp
theorem Jn (n:Nat):eZ (n+1) 0=1::List.replicate n 0:=rfl
theorem JH (n k:Nat):eZ (n+1) (k+1)=0::eZ n k:=rfl
theorem M7 (n k:Nat):(eZ n k).length=n:=by simp[eZ]
theorem Bi {m:ByteArray}: ∀{T:List aU} {k:Nat} (h:k<T.length),jG (T.zip (eZ T.length k))=T[k].1.1∧iV m (T.zip (eZ T.length k))=cf T[k].1.2 m
 | [],k,h=>by simp at h
 |t::T,0,h=>by
  rw[List.length_cons,Jn,List.zip_cons_cons,jG,iV,Dr,Dq]
  simp
 |t::T,k+1,h=>by
  obtain⟨h1,h2⟩:=Bi (m:=m) (T:=T) (k:=k) (by simpa using h)
  rw[List.length_cons,JH,List.zip_cons_cons,jG,iV,h1,h2]
  simp
theorem wv {n k i:Nat} (h:i<(eZ n k).length):(eZ n k)[i]=if k=i then 1 else 0:=by
 simp only[eZ,List.getElem_set,List.getElem_replicate]
theorem c6.unit {T:List aU} {k:Nat} (h:k<T.length) (hT: ∀c∈T,aI c.1.2∧br c):c6 T (T[k],eZ T.length k):=by
 refine⟨(hT _ (List.getElem_mem h)).1,⟨(hT _ (List.getElem_mem h)).2,λn hn=> ?_⟩,M7 _ _,λp hp=> ?_,(Bi (m:= .empty) h).1.symm,λn=>(Bi h).2.symm,λhq=> ?_⟩
 ·obtain⟨i,hi,rfl⟩:=List.mem_iff_getElem.1 hn
  simp only[wv]
  split<;>(unfold am;omega)
 ·obtain⟨i,h1,h2,rfl⟩:=xg hp
  refine⟨(hT _ (List.getElem_mem h1)).1,λhh=> ?_⟩
  have:=hh.1
  simp only[wv]at this
  split at this<;>omega
 ·refine kO.2 λp hp=> ?_
  obtain⟨i,h1,h2,rfl⟩:=xg hp
  simp only[wv]
  by_cases e:k=i
  ·subst e
   exact .inl hq
  ·exact .inr (if_neg e)
theorem HX {T:List aU} (hT: ∀c∈T,aI c.1.2∧br c): ∀{k:Nat} {rows:List cH},(∀r∈rows,c6 T r)→rows.length≤256→k≤T.length→
  ((fG T.length k (T.drop k) rows).2=0∨(fG T.length k (T.drop k) rows).2=2)∧((fG T.length k (T.drop k) rows).2=0→(∀r∈(fG T.length k (T.drop k) rows).1,c6 T r)∧(fG T.length k (T.drop k) rows).1.length≤256):=by
 intro k
 generalize hd:T.length-k=d
 induction d generalizing k with
 |zero=>
  intro rows h hl hk
  rw[List.drop_eq_nil_of_le (by omega),fG]
  exact⟨.inl rfl,λ_=>⟨h,hl⟩⟩
 |succ d ih=>
  intro rows h hl hk
  have o:k<T.length:=by omega
  obtain⟨g1,g2,g3,g4⟩:=oq (d:=(T[k],eZ T.length k)) hl
  rw[List.drop_eq_getElem_cons o,fG]
  split
  ·rename_i h0
   exact⟨.inr (g4.resolve_left h0),λh=>absurd h h0⟩
  ·exact ih (by omega) (λr hr=>(g3 r hr).elim (λe=>e▸c6.unit o hT) (h r)) g1 (by omega)
def wh (l:List aU) (fuel:Int):Int:=if(be l).2≠0 then(be l).2 else if fuel<0∨1048576<fuel then 1 else 0
theorem Gf {l:List aU} {fuel:Int} (E: ∀c∈l,br c):
  (wh l fuel≠0→fQ l fuel=([],false,wh l fuel))∧
  (wh l fuel=0→((fQ l fuel).2.2≠0→V6 (fQ l fuel).2.2∧(fQ l fuel).1= []∧(fQ l fuel).2.1=false)∧((fQ l fuel).2.1=true→d4 l (fQ l fuel).1=0)∧((fQ l fuel).2.1=false→(fQ l fuel).1= [])):=by
 unfold fQ wh
 by_cases h0:(be l).2=0
 ·rw[if_neg (not_not_intro h0),if_neg (not_not_intro h0)]
  by_cases hf:fuel<0∨1048576<fuel
  ·rw[if_pos hf,if_pos hf]
   exact⟨λ_=>rfl,λh=>absurd h (by decide)⟩
  ·rw[if_neg hf,if_neg hf]
   refine⟨λh=>absurd rfl h,λ_=> ?_⟩
   have ht:be l=((be l).1,0):=Prod.ext rfl h0
   have hT:=lg ht E
   have hA:=(j7 ht).1
   obtain⟨i1,i2⟩:=HX hT (k:=0) (rows:= []) (by simp) (by simp) (Nat.zero_le _)
   rw[hA,List.drop_zero]at i1 i2
   split
   ·rename_i h1
    exact⟨λ_=>⟨.inl (i1.resolve_left h1),rfl,rfl⟩,λh=>(by cases h),λ_=>rfl⟩
   ·rename_i h1
    obtain⟨j1,j2⟩:=i2 (Classical.not_not.1 h1)
    exact xG h0 j1 j2 (by omega)
 ·rw[if_pos h0,if_pos h0]
  exact⟨λ_=>rfl,λh=>absurd h h0⟩
end
