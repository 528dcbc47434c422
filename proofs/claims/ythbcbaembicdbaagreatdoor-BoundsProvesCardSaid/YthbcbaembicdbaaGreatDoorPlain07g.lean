/- Walks by the abstract machine: rows added with multipliers. Walks by the abstract machine: a row added to the system. -/
import Derived.Test.YthbcbaembicdbaaGreatDoorV07p
import Derived.Lib.SlicesCompact
set_option linter.unusedVariables false
set_option linter.unusedSimpArgs false
set_option maxRecDepth 20000
set_option maxHeartbeats 4000000
set_option maxRecDepth 1000000
namespace Go.Proofs.YthbcbaembicdbaaGreatDoor
open Go.Abs Go.RowKit
noncomputable section
abbrev jV (r:Nat) (rows:List dq) (fuel:Int) (F:List (Nat×bc)):List (Nat×bc):=(r,.arr 156 4 (rows.map dF))::(0,.var [.ref r,.pure (pI fuel)])::F
abbrev abS:AV:= .agg [.pure (pI 0),.nils,.pure (pB false),.nils]
abbrev Xv (x:dq×Int):List AV:= [if x.2=0 then SX x.1 else abS,I x.2]
theorem QL {x y:Int} {l:List (Int×Int)} {k:Nat} (h:k<l.length) (hb:GX x y l[k]=false):jL x y (l.drop k)=none:=by
 rw[List.drop_eq_getElem_cons h,jL,hb]
 rfl
theorem PU {x y:Int} {l:List (Int×Int)} {k:Nat} (h:k<l.length) (hb:GX x y l[k]=true):jL x y (l.drop k)=(jL x y (l.drop (k+1))).map ((l[k].1*x+l[k].2*y):: ·):=by
 rw[List.drop_eq_getElem_cons h,jL,hb]
 rfl
theorem ovf {U V:Int} (hU:ay U) (hV:ay V) (h: ¬ay (U+V)):(U<0∧V<0∧ ¬IntKind.wrap .i64 (U+V)<0)∨(¬U<0∧ ¬V<0∧IntKind.wrap .i64 (U+V)<0):=by
 rw[IntKind.wrap_i64]
 unfold ay at*
 omega
theorem CQ {x y:Int} {p:Int×Int}:GX x y p=true↔ay (p.1*x)∧ay (p.2*y)∧ay (p.1*x+p.2*y):=by simp[GX]
set_option maxHeartbeats 2000000 in
theorem nT {a b:dq} {x y fuel:Int} {r nx:Nat} {rows:List dq} {F:List (Nat×bc)} (ha:PK a) (hb:PK b) (hx:ay x) (hy:ay y) (hab:a.2.length=b.2.length) (hal:a.2.length≤1000000000)
  (hla:a.1.1.2.length≤400000000) (hlb:b.1.1.2.length≤400000000) (hf0:0≤fuel) (hf1:fuel≤2000000) (hr:0<r) (hrn:r<nx) (hF:Go.Abs.dk nx [0,r] F):
  au Tryz.prog mS [.c (.ptr 0 0),SX a,SX b,I x,I y] (jV r rows fuel F) nx (eF (Xv (gq fuel a b x y))) (jV r rows (fuel-1) F) nx:=by
 refine au.ofZ vo (by simp) fun _=>aa ?_
 have pc:=jE (l:= [a.1,b.1]) (b:= [x,y]) (by simp;exact⟨ha.1,hb.1⟩) (by simp;exact⟨hx,hy⟩) (by simp[jo];omega)
 conv in mI=>cbv
 have ef:IntKind.wrap .i64 (fuel-1)=fuel-1:=wrap_i64 (by omega)
 by_cases h0:fuel≤0
 ·rw[gq,if_pos h0]
  repeat' first|simp(disch:=omega) only[go_sem,aD,aE,ef]|((with_reducible refine ab ?_ ?_)<;>intro h<;>try first|omega|simp(disch:=omega) only[go_sem, *,aD,aE,ef])
  refine⟨[], [], ?_⟩
  simp(disch:=omega) only[go_sem,aR,aD,aE,ef]
  refine aq (by simp(disch:=omega) [aD]) ?_ rfl (by simp;try omega) (by simp[eg];try omega)
  repeat' first|exact hF.wkA|refine ar ?_ ?_ ?_ ?_ ?_|(simp(disch:=omega) [aD]<;>omega)|omega
 ·rw[gq,if_neg h0]
  obtain⟨C,hC⟩: ∃C,C=aX [a.1,b.1] [x,y]:=⟨_,rfl⟩
  have hc64:=xd [a.1,b.1] [x,y]
  have hcl:=Ew a.1 b.1 x y
  rw[←hC]at pc hc64 hcl ⊢
  clear hC
  obtain⟨⟨⟨K,l⟩,q⟩,e⟩:=C
  by_cases he:e=0
  ·subst he
   rw[if_neg (by simp)]
   obtain⟨R,hR⟩: ∃R,R=(jL x y ((a.2.zip b.2).drop 0)).map (([]:List Int)++ ·):=⟨_,rfl⟩
   have hR0:jL x y (a.2.zip b.2)=R:=by rw[hR];simp
   rw[hR0]
   have HR:=Lib.hid hR
   clear hR hR0
   repeat' first|simp(disch:=omega) only[go_sem,aD,aE,ef]|((with_reducible refine ab ?_ ?_)<;>intro h<;>try first|omega|simp(disch:=omega) only[go_sem, *,aD,aE,ef])|(refine cg pc rfl rfl ?_)
   refine cQ (nx+4) 3 2 1 [.pure (pI K),.pure (aw l),.pure (pB q),.nils] (by simp[am]) rfl (by decide) ?_
   refine an (fun s:Nat×List Int=>⟨[(3,I x),(4,I y),(6,.c (.ptr nx 0)),(7,.c (.ptr (nx+1) 0)),(10,.c (.ptr (nx+2) 0)),(14,.c (.ptr (nx+4) 0)),(54,I a.2.length),(55,I s.1)],
    (nx,.var [.pure (pI a.1.1.1),.pure (aw a.1.1.2),.pure (pB a.1.2),.pure (yy a.2)])::(nx+1,.var [.pure (pI b.1.1.1),.pure (aw b.1.1.2),.pure (pB b.1.2),.pure (yy b.2)])::
    (nx+2,.var [.pure (pI 0),.nils,.pure (pB false),.nils])::(nx+4,.var [.pure (pI K),.pure (aw l),.pure (pB q),.ref (nx+5)])::(nx+5,.arr 2 1 (s.2.map fun n=> [pI n]))::jV r rows (fuel-1) F,nx+6,nx⟩)
    (fun s=>s.1≤a.2.length∧s.2.length≤s.1∧(∀n∈s.2,ay n)∧Hid (R=(jL x y ((a.2.zip b.2).drop s.1)).map (s.2++ ·))) (fun s=>a.2.length-s.1) ⟨(0, []), [],⟨Nat.zero_le _,Nat.le_refl _,(by simp),HR⟩, ?_⟩ ?_
   ·refine aq (by simp(disch:=omega) [aD]) ?_ rfl (by simp;try omega) (by simp[eg];try omega)
    repeat' first|exact hF.wkA|refine ar ?_ ?_ ?_ ?_ ?_|(simp(disch:=omega) [aD]<;>omega)|omega
   rintro⟨j,acc⟩ ⟨hj,hacc,h64,HR⟩
   simp only at hj hacc h64 HR
   refine aa ?_
   by_cases hlt:j<a.2.length
   ·have hltb:j<b.2.length:=by omega
    have hz:j<(a.2.zip b.2).length:=by simp;omega
    have ez:(a.2.zip b.2)[j]=(a.2[j],b.2[j]):=List.getElem_zip
    have g1:=ah (f:=fun n=> [pI n]) hlt
    have g2:=ah (f:=fun n=> [pI n]) hltb
    have p1:=rM (ha.2 _ (List.getElem_mem hlt)) hx
    have p2:=rM (hb.2 _ (List.getElem_mem hltb)) hy
    have h2:=HR.out
    clear HR pc hab
    by_cases hs:GX x y (a.2[j],b.2[j])=true
    ·rw[PU hz (by rw[ez];exact hs),ez]at h2
     obtain⟨s1,s2,s3⟩:=CQ.1 hs
     rw[decide_eq_true s1,wrap_i64 s1]at p1
     rw[decide_eq_true s2,wrap_i64 s2]at p2
     have ew:=wrap_i64 s3
     simp only at h2 ew s1 s2 s3
     clear hs ez hz
     generalize a.2[j]*x=P at*
     generalize b.2[j]*y=Q at*
     generalize a.2[j]=a0 at*
     generalize b.2[j]=b0 at*
     have HR:Hid (R=(jL x y ((a.2.zip b.2).drop (j+1))).map ((acc++ [P+Q])++ ·)):=Lib.hid (by
      rw[h2]
      cases jL x y ((a.2.zip b.2).drop (j+1))<;>simp)
     clear h2
     have hacc2:(acc.map fun n=> [pI n]).length≤1000000000:=by simp;omega
     have h64': ∀n∈acc++ [P+Q],ay n:=by
      intro n hn
      rcases List.mem_append.1 hn with hn|hn
      ·exact h64 n hn
      ·rw[List.mem_singleton.1 hn];exact s3
     have hlen':(acc++ [P+Q]).length≤j+1:=by simp;omega
     have hmap:(acc++ [P+Q]).map (fun n=> [pI n])=acc.map (fun n=> [pI n])++ [[pI (P+Q)]]:=by simp
     clear h64
     generalize hD:acc.map (fun n=> [pI n])=D at*
     have hsg:(P<0∧Q<0∧P+Q<0)∨(¬P<0∧ ¬Q<0∧ ¬P+Q<0)∨(P<0∧ ¬Q<0)∨(¬P<0∧Q<0):=by omega
     have hdl:=hF.del (n:=nx+5) (.inr (by omega))
     rcases hsg with⟨hu,hv,hw⟩|⟨hu,hv,hw⟩|⟨hu,hv⟩|⟨hu,hv⟩
     ·repeat' first|simp(disch:=omega) only[go_sem,g1,g2,aD,aE,hdl,ew,hu,hv,hw,wrap_i64]|((with_reducible refine ab ?_ ?_)<;>intro h<;>try first|omega|simp(disch:=omega) only[go_sem, *,g1,g2,aD,aE,hdl,ew,hu,hv,hw,wrap_i64])|(refine aF p1 rfl rfl ?_)|(refine aF p2 rfl rfl ?_)|(refine aJ (by simp(disch:=omega) only[am,al,aD,eq_self,↓reduceIte,Option.map_some]<;>rfl) (by intro h;cases h) (aB rfl) (by simp;omega) (by simp;omega) ?_)
      refine⟨(j+1,acc++ [P+Q]), [(nx+5,nx+6)],⟨hlt,hlen',h64',HR⟩,by show _-_<_-_;omega, ?_⟩
      refine aq (by simp(disch:=omega) [aD,hmap]) ?_ rfl (by simp;try omega) (by simp[eg];try omega)
      repeat' first|exact hF.wkA|refine ar ?_ ?_ ?_ ?_ ?_|(simp(disch:=omega) [aD,hmap]<;>omega)|omega
     ·repeat' first|simp(disch:=omega) only[go_sem,g1,g2,aD,aE,hdl,ew,hu,hv,hw,wrap_i64]|((with_reducible refine ab ?_ ?_)<;>intro h<;>try first|omega|simp(disch:=omega) only[go_sem, *,g1,g2,aD,aE,hdl,ew,hu,hv,hw,wrap_i64])|(refine aF p1 rfl rfl ?_)|(refine aF p2 rfl rfl ?_)|(refine aJ (by simp(disch:=omega) only[am,al,aD,eq_self,↓reduceIte,Option.map_some]<;>rfl) (by intro h;cases h) (aB rfl) (by simp;omega) (by simp;omega) ?_)
      refine⟨(j+1,acc++ [P+Q]), [(nx+5,nx+6)],⟨hlt,hlen',h64',HR⟩,by show _-_<_-_;omega, ?_⟩
      refine aq (by simp(disch:=omega) [aD,hmap]) ?_ rfl (by simp;try omega) (by simp[eg];try omega)
      repeat' first|exact hF.wkA|refine ar ?_ ?_ ?_ ?_ ?_|(simp(disch:=omega) [aD,hmap]<;>omega)|omega
     ·repeat' first|simp(disch:=omega) only[go_sem,g1,g2,aD,aE,hdl,ew,hu,hv,wrap_i64]|((with_reducible refine ab ?_ ?_)<;>intro h<;>try first|omega|simp(disch:=omega) only[go_sem, *,g1,g2,aD,aE,hdl,ew,hu,hv,wrap_i64])|(refine aF p1 rfl rfl ?_)|(refine aF p2 rfl rfl ?_)|(refine aJ (by simp(disch:=omega) only[am,al,aD,eq_self,↓reduceIte,Option.map_some]<;>rfl) (by intro h;cases h) (aB rfl) (by simp;omega) (by simp;omega) ?_)
      refine⟨(j+1,acc++ [P+Q]), [(nx+5,nx+6)],⟨hlt,hlen',h64',HR⟩,by show _-_<_-_;omega, ?_⟩
      refine aq (by simp(disch:=omega) [aD,hmap]) ?_ rfl (by simp;try omega) (by simp[eg];try omega)
      repeat' first|exact hF.wkA|refine ar ?_ ?_ ?_ ?_ ?_|(simp(disch:=omega) [aD,hmap]<;>omega)|omega
     ·repeat' first|simp(disch:=omega) only[go_sem,g1,g2,aD,aE,hdl,ew,hu,hv,wrap_i64]|((with_reducible refine ab ?_ ?_)<;>intro h<;>try first|omega|simp(disch:=omega) only[go_sem, *,g1,g2,aD,aE,hdl,ew,hu,hv,wrap_i64])|(refine aF p1 rfl rfl ?_)|(refine aF p2 rfl rfl ?_)|(refine aJ (by simp(disch:=omega) only[am,al,aD,eq_self,↓reduceIte,Option.map_some]<;>rfl) (by intro h;cases h) (aB rfl) (by simp;omega) (by simp;omega) ?_)
      refine⟨(j+1,acc++ [P+Q]), [(nx+5,nx+6)],⟨hlt,hlen',h64',HR⟩,by show _-_<_-_;omega, ?_⟩
      refine aq (by simp(disch:=omega) [aD,hmap]) ?_ rfl (by simp;try omega) (by simp[eg];try omega)
      repeat' first|exact hF.wkA|refine ar ?_ ?_ ?_ ?_ ?_|(simp(disch:=omega) [aD,hmap]<;>omega)|omega
    ·have hs0:GX x y (a.2[j],b.2[j])=false:=by simpa using hs
     rw[QL hz (by rw[ez];exact hs0)]at h2
     simp only[Option.map_none]at h2
     subst h2
     have hs': ¬(ay (a.2[j]*x)∧ay (b.2[j]*y)∧ay (a.2[j]*x+b.2[j]*y)):=fun h=>hs (CQ.2 h)
     clear hs hs0 ez hz h64
     by_cases s1:ay (a.2[j]*x)
     ·rw[decide_eq_true s1,wrap_i64 s1]at p1
      by_cases s2:ay (b.2[j]*y)
      ·rw[decide_eq_true s2,wrap_i64 s2]at p2
       have ov:=ovf s1 s2 (fun h=>hs' ⟨s1,s2,h⟩)
       clear hs'
       generalize a.2[j]*x=P at*
       generalize b.2[j]*y=Q at*
       generalize a.2[j]=a0 at*
       generalize b.2[j]=b0 at*
       rcases ov with⟨hu,hv,hw⟩|⟨hu,hv,hw⟩
       ·repeat' first|simp(disch:=omega) only[go_sem,g1,g2,aD,aE,hu,hv,hw,wrap_i64]|((with_reducible refine ab ?_ ?_)<;>intro h<;>try first|omega|simp(disch:=omega) only[go_sem, *,g1,g2,aD,aE,hu,hv,hw,wrap_i64])|(refine aF p1 rfl rfl ?_)|(refine aF p2 rfl rfl ?_)
        refine⟨[], [], ?_⟩
        simp(disch:=omega) only[go_sem,aR,aD,aE]
        refine aq (by simp(disch:=omega) [aD]) ?_ rfl (by simp;try omega) (by simp[eg];try omega)
        repeat' first|exact hF.wkA|refine ar ?_ ?_ ?_ ?_ ?_|(simp(disch:=omega) [aD]<;>omega)|omega
       ·repeat' first|simp(disch:=omega) only[go_sem,g1,g2,aD,aE,hu,hv,hw,wrap_i64]|((with_reducible refine ab ?_ ?_)<;>intro h<;>try first|omega|simp(disch:=omega) only[go_sem, *,g1,g2,aD,aE,hu,hv,hw,wrap_i64])|(refine aF p1 rfl rfl ?_)|(refine aF p2 rfl rfl ?_)
        refine⟨[], [], ?_⟩
        simp(disch:=omega) only[go_sem,aR,aD,aE]
        refine aq (by simp(disch:=omega) [aD]) ?_ rfl (by simp;try omega) (by simp[eg];try omega)
        repeat' first|exact hF.wkA|refine ar ?_ ?_ ?_ ?_ ?_|(simp(disch:=omega) [aD]<;>omega)|omega
      ·rw[decide_eq_false s2]at p2
       clear hs'
       generalize a.2[j]*x=P at*
       generalize IntKind.wrap .i64 (b.2[j]*y)=Q at*
       generalize a.2[j]=a0 at*
       generalize b.2[j]=b0 at*
       repeat' first|simp(disch:=omega) only[go_sem,g1,g2,aD,aE,wrap_i64]|((with_reducible refine ab ?_ ?_)<;>intro h<;>try first|omega|simp(disch:=omega) only[go_sem, *,g1,g2,aD,aE,wrap_i64])|(refine aF p1 rfl rfl ?_)|(refine aF p2 rfl rfl ?_)
       all_goals
        refine⟨[], [], ?_⟩
        simp(disch:=omega) only[go_sem,aR,aD,aE]
        refine aq (by simp(disch:=omega) [aD]) ?_ rfl (by simp;try omega) (by simp[eg];try omega)
        repeat' first|exact hF.wkA|refine ar ?_ ?_ ?_ ?_ ?_|(simp(disch:=omega) [aD]<;>omega)|omega
     ·rw[decide_eq_false s1]at p1
      clear hs'
      generalize decide (ay (b.2[j]*y))=d2 at*
      generalize IntKind.wrap .i64 (a.2[j]*x)=P at*
      generalize IntKind.wrap .i64 (b.2[j]*y)=Q at*
      generalize a.2[j]=a0 at*
      generalize b.2[j]=b0 at*
      cases d2
      all_goals
       repeat' first|simp(disch:=omega) only[go_sem,g1,g2,aD,aE,wrap_i64]|((with_reducible refine ab ?_ ?_)<;>intro h<;>try first|omega|simp(disch:=omega) only[go_sem, *,g1,g2,aD,aE,wrap_i64])|(refine aF p1 rfl rfl ?_)|(refine aF p2 rfl rfl ?_)
       all_goals
        refine⟨[], [], ?_⟩
        simp(disch:=omega) only[go_sem,aR,aD,aE]
        refine aq (by simp(disch:=omega) [aD]) ?_ rfl (by simp;try omega) (by simp[eg];try omega)
        repeat' first|exact hF.wkA|refine ar ?_ ?_ ?_ ?_ ?_|(simp(disch:=omega) [aD]<;>omega)|omega
   ·have h2:=HR.out
    have hz:(a.2.zip b.2).length≤j:=by simp;omega
    rw[List.drop_eq_nil_of_le hz,jL]at h2
    simp only[Option.map_some,List.append_nil]at h2
    subst h2
    clear HR hz
    have hrow:PK (((K,l),q),acc):=⟨hc64,h64⟩
    have pr:=CF (d:=(((K,l),q),acc)) hrow (by simp only at hcl ⊢;omega) (by simp only;omega)
    have hfz:=hF.frz (n:=nx+5) (rows:=acc.map fun n=> [pI n]) (.inr (by omega))
    clear pc
    repeat' first|simp(disch:=omega) only[go_sem,aD,aE]|((with_reducible refine ab ?_ ?_)<;>intro h<;>try first|omega|simp(disch:=omega) only[go_sem, *,aD,aE])|(refine Nv (nx+5) 2 1 (acc.map fun n=> [pI n]) pr (by simp(disch:=omega) only[am,al,aD,eq_self,↓reduceIte,Option.map_some]<;>rfl) (by simp[sH,iw,bG,dQ,xo,ej,d6]) (.inr (by simp[sH,iw,fS,zw,jA])) ?_)
    refine⟨[], [], ?_⟩
    simp(disch:=omega) only[go_sem,aR,aD,aE,hfz]
    refine aq (by simp(disch:=omega) [aD]) ?_ rfl (by simp;try omega) (by simp[eg];try omega)
    repeat' first|exact hF.wkA|refine ar ?_ ?_ ?_ ?_ ?_|(simp(disch:=omega) [aD]<;>omega)|omega
  ·rw[if_pos he]
   repeat' first|simp(disch:=omega) only[go_sem,aD,aE,ef,he]|((with_reducible refine ab ?_ ?_)<;>intro h<;>try first|omega|simp(disch:=omega) only[go_sem, *,aD,aE,ef,he])|(refine cg pc rfl rfl ?_)
   refine⟨[], [], ?_⟩
   simp(disch:=omega) only[go_sem,aR,aD,aE,ef]
   refine aq (by simp(disch:=omega) [aD,he]) ?_ rfl (by simp;try omega) (by simp[eg];try omega)
   repeat' first|exact hF.wkA|refine ar ?_ ?_ ?_ ?_ ?_|(simp(disch:=omega) [aD,he]<;>omega)|omega
theorem y7 (a b:List bJ):ac Tryz.prog fk [.c (.pure (aw a)),.c (.pure (aw b))] (Go.Abs.B (decide (a=b))):=by
 refine ac.of jv (by simp) fun hb=>aa ?_
 have hba:a.length≤9223372036854775807:=by have:=hb.1;simpa[i5,jS]using this
 conv in fj=>cbv
 by_cases hl:a.length=b.length
 ·have hli:(a.length:Int)=(b.length:Int):=by omega
  obtain⟨R,hR⟩: ∃R,R=decide (a=b):=⟨_,rfl⟩
  rw[←hR]
  have HR:=Lib.hid hR
  clear hR
  have HL:=Lib.hid hl
  clear hl
  repeat' first|simp(disch:=omega) only[go_sem, *,hli]|((with_reducible apply ab)<;>intro h<;>try omega)
  refine an (fun k:Nat=>⟨[(0,.c (.pure (aw a))),(1,.c (.pure (aw b))),(12,I b.length),(13,I k)], [],0,0⟩) (fun k=>k≤b.length∧Hid (a.take k=b.take k)) (fun k=>b.length-k) ⟨0, [],⟨Nat.zero_le _,Lib.hid rfl⟩,by simp⟩ ?_
  clear hli
  rintro k ⟨hk,HT⟩
  refine aa ?_
  have hl:=HL.out
  by_cases hlt:k<b.length
  ·have hlta:k<a.length:=by omega
   have g1:=ah (f:=mP) hlta
   have g2:=ah (f:=mP) hlt
   by_cases he:a[k]=b[k]
   ·have HT':Hid (a.take (k+1)=b.take (k+1)):=Lib.hid (by rw[List.take_succ_eq_append_getElem hlta,List.take_succ_eq_append_getElem hlt,HT.out,he])
    rw[he]at g1
    clear HT he hl
    generalize b[k]=m at*
    obtain⟨n,x⟩:=m
    simp only[mP]at g1 g2
    repeat' first|simp(disch:=omega) only[go_sem, *,g1,g2,sr,Dw,and_self,W8,wrap_i64]|((with_reducible apply ab)<;>intro h<;>try omega)
    exact⟨k+1, [],⟨hlt,HT'⟩,by omega,by simp⟩
   ·have hR:R=false:=by
     rw[HR.out]
     exact decide_eq_false fun h=>he (by subst h;rfl)
    subst hR
    have hne: ¬(a[k].1=b[k].1∧a[k].2=b[k].2):=fun h=>he (Prod.ext h.1 h.2)
    clear HT he hl HR HL
    generalize a[k]=m at*
    generalize b[k]=m' at*
    obtain⟨n,x⟩:=m
    obtain⟨n',x'⟩:=m'
    simp only[mP]at g1 g2 hne
    repeat' first|simp(disch:=omega) only[go_sem, *,g1,g2,sr,Dw,and_true,hne,VU,wrap_i64]|((with_reducible apply ab)<;>intro h<;>try omega)
    all_goals rfl
  ·have hR:R=true:=by
    rw[HR.out]
    have h:=HT.out
    rw[List.take_of_length_le (by omega),List.take_of_length_le (by omega)]at h
    exact decide_eq_true h
   subst hR
   clear HT HL HR hl
   repeat' first|simp(disch:=omega) only[go_sem, *]|((with_reducible apply ab)<;>intro h<;>try omega)
   all_goals rfl
 ·have e:decide (a=b)=false:=decide_eq_false fun h=>hl (by rw[h])
  rw[e]
  have hli: ¬(a.length:Int)=(b.length:Int):=by omega
  repeat' first|simp(disch:=omega) only[go_sem, *,hli]|((with_reducible apply ab)<;>intro h<;>try omega)
  all_goals rfl
theorem Yx {rows:List dq} {d:dq} {k:Nat} (h:k<rows.length):(rows.map dF).set k (dF d)=(rows.take k++d::rows.drop (k+1)).map dF:=by
 rw[←List.map_set,List.set_eq_take_append_cons_drop,if_pos h]
theorem UG {rows:List dq} {k:Nat} (h:k<rows.length):rows.take k++rows[k]::rows.drop (k+1)=rows:=by
 rw[←List.drop_eq_getElem_cons h,List.take_append_drop]
theorem TJ {rows:List dq} {d:dq} {k:Nat} (h:k<rows.length):(yS d (rows.drop k)).map (rows.take k++ ·)=
  if K8 rows[k] d then some (rows.take k++(if d.1.1.1<rows[k].1.1.1 then d else rows[k])::rows.drop (k+1))else(yS d (rows.drop (k+1))).map (rows.take (k+1)++ ·):=by
 rw[List.drop_eq_getElem_cons h,yS]
 split
 ·rfl
 ·rw[List.take_succ_eq_append_getElem h]
  cases yS d (rows.drop (k+1))with
  |none=>rfl
  |some x=>
   show some (_++_::x)=some ((_++ [_])++x)
   rw[List.append_assoc]
   rfl
set_option maxHeartbeats 2000000 in
theorem jI {d:dq} {fuel:Int} {r nx:Nat} {rows:List dq} {F:List (Nat×bc)} (hrl:rows.length≤256) (hr:0<r) (hrn:r<nx) (hF:Go.Abs.dk nx [0,r] F):
  au Tryz.prog jW [.c (.ptr 0 0),SX d] (jV r rows fuel F) nx (eF [I (d8 rows d).2]) (jV nx (d8 rows d).1 fuel F) (nx+1):=by
 refine au.ofZ ze (by simp) fun _=>aa ?_
 have pc:=fU d.1
 have hdl:=hF.del (n:=r) (.inl (by simp))
 obtain⟨⟨⟨K,l⟩,q⟩,by'⟩:=d
 conv in oR=>cbv
 unfold d8
 simp only at pc ⊢
 by_cases h0:l= []∧ ¬iZ ((K,l),q)
 ·rw[if_pos h0]
  obtain⟨rfl,hb⟩:=h0
  rw[decide_eq_false hb]at pc
  clear hb
  repeat' first|simp(disch:=omega) only[go_sem, *,aD,aE]|((with_reducible apply ab)<;>intro h<;>try omega)|(refine aF pc rfl rfl ?_)
  refine⟨[], [(nx,r)], ?_⟩
  simp(disch:=omega) only[go_sem,aR,aD,aE]
  refine aq (by simp(disch:=omega) [aD]) ?_ rfl (by simp;try omega) (by simp[eg];try omega)
  repeat' first|exact hF.wkA|refine ar ?_ ?_ ?_ ?_ ?_|(simp(disch:=omega) [aD]<;>omega)|omega
 ·rw[if_neg h0]
  obtain⟨R,hR⟩: ∃R,R=(yS (((K,l),q),by') (rows.drop 0)).map (rows.take 0++ ·):=⟨_,rfl⟩
  have hR0:yS (((K,l),q),by') rows=R:=by rw[hR];simp
  rw[hR0]
  have HR:=Lib.hid hR
  clear hR hR0
  obtain⟨bb,hbb⟩: ∃bb,bb=decide (iZ ((K,l),q)):=⟨_,rfl⟩
  rw[←hbb]at pc
  have hcond:(((l.length:Nat):Int)=0∧bb=true)∨ ¬((l.length:Nat):Int)=0:=by
   by_cases hl:l.length=0
   ·exact .inl ⟨by omega,by rw[hbb];exact decide_eq_true (Classical.byContradiction fun h=>h0 ⟨List.eq_nil_of_length_eq_zero hl,h⟩)⟩
   ·exact .inr (by omega)
  clear h0 hbb
  rcases hcond with⟨hll,rfl⟩|hll
  all_goals
   repeat' first|simp(disch:=omega) only[go_sem, *,aD,aE,hll]|((with_reducible apply ab)<;>intro h<;>try omega)|(refine aF pc rfl rfl ?_)
   clear hll pc
   refine an (fun k:Nat=>⟨[(0,.c (.ptr 0 0)),(3,.c (.ptr nx 0)),(5,.c (.ptr (nx+1) 0)),(23,.c (.ref r)),(24,I rows.length),(25,I k)],
    (nx,.var [.pure (pI K),.pure (aw l),.pure (pB q),.pure (yy by')])::(nx+1,.var [.pure (pI K),.pure (aw l),.pure (pB q)])::jV r rows fuel F,nx+2,nx⟩)
    (fun k=>k≤rows.length∧Hid (R=(yS (((K,l),q),by') (rows.drop k)).map (rows.take k++ ·))) (fun k=>rows.length-k) ⟨0, [],⟨Nat.zero_le _,HR⟩, ?_⟩ ?_
   ·have hr2:r<nx+2:=by omega
    refine aq (by simp(disch:=omega) [aD,hr2]) ?_ rfl (by simp;try omega) (by simp[eg];try omega)
    repeat' first|exact hF.wkA|refine ar ?_ ?_ ?_ ?_ ?_|(simp(disch:=omega) [aD,hr2]<;>omega)|omega
   clear HR
   rintro k ⟨hk,HR⟩
   refine aa ?_
   by_cases hlt:k<rows.length
   ·have g1:=ah (f:=dF) hlt
    have h2:=HR.out
    rw[TJ hlt]at h2
    have hset:=Yx (d:=(((K,l),q),by')) hlt
    have htk:=UG hlt
    clear HR
    generalize hz:rows[k]=z at*
    have htk':rows.take k++z::rows.drop (k+1)=rows:=htk
    obtain⟨⟨⟨K',l'⟩,q'⟩,b'⟩:=z
    simp only[dF]at g1 hset
    have pe:=y7 l' l
    by_cases hs:K8 (((K',l'),q'),b') (((K,l),q),by')
    ·rw[if_pos hs]at h2
     obtain⟨hs1,hs2,hs3⟩:=hs
     simp only at hs1 hs2 hs3 h2
     subst hs1
     subst hs2
     rw[decide_eq_true rfl]at pe
     clear hz htk
     by_cases hK:K<K'
     ·rw[if_pos hK]at h2
      subst h2
      have hq:q'=false:=hs3.resolve_right (by omega)
      subst hq
      clear hs3
      repeat' first|simp(disch:=omega) only[go_sem, *,g1,aD,aE,hK]|((with_reducible apply ab)<;>intro h<;>try omega)|(refine aF pe rfl rfl ?_)
      refine⟨[], [(nx,r)], ?_⟩
      simp(disch:=omega) only[go_sem,aR,aD,aE]
      refine aq (by simp(disch:=omega) [aD,hset]) ?_ rfl (by simp;try omega) (by simp[eg];try omega)
      repeat' first|exact hF.wkA|refine ar ?_ ?_ ?_ ?_ ?_|(simp(disch:=omega) [aD,hset]<;>omega)|omega
     ·rw[if_neg hK,htk']at h2
      subst h2
      clear hset
      have hcq:q'=false∨(q'=true∧K'=K):=by cases q'<;>simp_all
      clear hs3
      rcases hcq with rfl|⟨rfl,rfl⟩
      ·repeat' first|simp(disch:=omega) only[go_sem, *,g1,aD,aE,hK]|((with_reducible apply ab)<;>intro h<;>try omega)|(refine aF pe rfl rfl ?_)
       refine⟨[], [(nx,r)], ?_⟩
       simp(disch:=omega) only[go_sem,aR,aD,aE]
       refine aq (by simp(disch:=omega) [aD]) ?_ rfl (by simp;try omega) (by simp[eg];try omega)
       repeat' first|exact hF.wkA|refine ar ?_ ?_ ?_ ?_ ?_|(simp(disch:=omega) [aD]<;>omega)|omega
      ·repeat' first|simp(disch:=omega) only[go_sem, *,g1,aD,aE,hK]|((with_reducible apply ab)<;>intro h<;>try omega)|(refine aF pe rfl rfl ?_)
       refine⟨[], [(nx,r)], ?_⟩
       simp(disch:=omega) only[go_sem,aR,aD,aE]
       refine aq (by simp(disch:=omega) [aD]) ?_ rfl (by simp;try omega) (by simp[eg];try omega)
       repeat' first|exact hF.wkA|refine ar ?_ ?_ ?_ ?_ ?_|(simp(disch:=omega) [aD]<;>omega)|omega
    ·rw[if_neg hs]at h2
     have HR:=Lib.hid h2
     have hs': ¬(q'=q∧l'=l∧(q=false∨K'=K)):=hs
     clear h2 hs hset htk hz
     have hr2:r<nx+2:=by omega
     by_cases hq:q'=q
     ·subst hq
      by_cases hl:l'=l
      ·subst hl
       rw[decide_eq_true rfl]at pe
       have hK: ¬K'=K:=fun h=>hs' ⟨rfl,rfl,.inr h⟩
       have hq:q'=true:=by
        cases q'
        ·exact absurd ⟨rfl,rfl,.inl rfl⟩ hs'
        ·rfl
       subst hq
       clear hs'
       repeat' first|simp(disch:=omega) only[go_sem, *,g1,aD,aE,hK,wrap_i64]|((with_reducible apply ab)<;>intro h<;>try omega)|(refine aF pe rfl rfl ?_)
       refine⟨k+1, [],⟨hlt,HR⟩,by omega, ?_⟩
       refine aq (by simp(disch:=omega) [aD,hr2]) ?_ rfl (by simp;try omega) (by simp[eg];try omega)
       repeat' first|exact hF.wkA|refine ar ?_ ?_ ?_ ?_ ?_|(simp(disch:=omega) [aD,hr2]<;>omega)|omega
      ·rw[decide_eq_false hl]at pe
       clear hs' hl
       cases q'
       all_goals
        repeat' first|simp(disch:=omega) only[go_sem, *,g1,aD,aE,wrap_i64]|((with_reducible apply ab)<;>intro h<;>try omega)|(refine aF pe rfl rfl ?_)
        refine⟨k+1, [],⟨hlt,HR⟩,by omega, ?_⟩
        refine aq (by simp(disch:=omega) [aD,hr2]) ?_ rfl (by simp;try omega) (by simp[eg];try omega)
        repeat' first|exact hF.wkA|refine ar ?_ ?_ ?_ ?_ ?_|(simp(disch:=omega) [aD,hr2]<;>omega)|omega
     ·clear hs' pe
      cases q
      all_goals
       cases q'
       all_goals
        first
        |exact absurd rfl hq
        |clear hq
       all_goals
        repeat' first|simp(disch:=omega) only[go_sem, *,g1,aD,aE,wrap_i64]|((with_reducible apply ab)<;>intro h<;>try omega)
        refine⟨k+1, [],⟨hlt,HR⟩,by omega, ?_⟩
        refine aq (by simp(disch:=omega) [aD,hr2]) ?_ rfl (by simp;try omega) (by simp[eg];try omega)
        repeat' first|exact hF.wkA|refine ar ?_ ?_ ?_ ?_ ?_|(simp(disch:=omega) [aD,hr2]<;>omega)|omega
   ·have h2:=HR.out
    rw[List.drop_eq_nil_of_le (by omega),yS]at h2
    simp only[Option.map_none]at h2
    subst h2
    clear HR
    by_cases hfull:256≤rows.length
    ·rw[if_pos hfull]
     repeat' first|simp(disch:=omega) only[go_sem, *,aD,aE]|((with_reducible apply ab)<;>intro h<;>try omega)
     refine⟨[], [(nx,r)], ?_⟩
     simp(disch:=omega) only[go_sem,aR,aD,aE]
     refine aq (by simp(disch:=omega) [aD]) ?_ rfl (by simp;try omega) (by simp[eg];try omega)
     repeat' first|exact hF.wkA|refine ar ?_ ?_ ?_ ?_ ?_|(simp(disch:=omega) [aD]<;>omega)|omega
    ·rw[if_neg hfull]
     repeat' first|simp(disch:=omega) only[go_sem, *,aD,aE,hdl]|((with_reducible apply ab)<;>intro h<;>try omega)|(refine aJ (by simp(disch:=omega) only[am,al,aD,eq_self,↓reduceIte,Option.map_some]<;>rfl) (by intro h;cases h) (aB rfl) (by simp;omega) (by simp;omega) ?_)
     refine⟨[], [(nx,nx+2)], ?_⟩
     simp(disch:=omega) only[go_sem,aR,aD,aE,hdl]
     refine aq (by simp(disch:=omega) [aD]) ?_ rfl (by simp;try omega) (by simp[eg];try omega)
     repeat' first|exact hF.wkA|refine ar ?_ ?_ ?_ ?_ ?_|(simp(disch:=omega) [aD]<;>omega)|omega
def kQ:List (bt×Int)→Int
 | []=>0
 |p::r=>p.1.1.1*p.2+kQ r
def jC (n:ByteArray):List (bt×Int)→Int
 | []=>0
 |p::r=>cf p.1.1.2 n*p.2+jC n r
theorem H8: ∀{l:List (bt×Int)} {out:bY} {eq:Bool} {c:bt},jT out eq l=(c,0)→bi out.2→(∀p∈l,bi p.1.1.2)→
  bi c.1.2∧c.1.1=out.1+kQ l∧(∀n,cf c.1.2 n=cf out.2 n+jC n l)∧c.2=(eq&&ZF l)
 |[],out,eq,c,h,ho,_=>by
  rw[jT]at h
  cases h
  exact⟨ho,by simp[kQ],fun n=>by simp[jC],by simp[ZF]⟩
 |p::r,out,eq,c,h,ho,hl=>by
  rw[jT]at h
  split at h
  ·cases h
  ·have hp:=hl p List.mem_cons_self
   obtain⟨h1,h2,h3,h4⟩:=H8 h (Sc ho (B4 hp)) fun q hq=>hl q (List.mem_cons_of_mem _ hq)
   refine⟨h1, ?_,fun n=> ?_, ?_⟩
   ·rw[h2,kQ]
    show out.1+(dw p.1.1 p.2).1+kQ r=_
    rw[P1]
    omega
   ·rw[h3,jC,X1 (cj.1 ho).1 (cj.1 (B4 hp)).1,TU]
    omega
   ·rw[h4]
    simp[ZF,Bool.and_assoc]
theorem Kl: ∀{l:List (bt×Int)} {out:bY} {eq:Bool},(jT out eq l).2=0∨jT out eq l=(zo,3)
 | [],out,eq=> .inl rfl
 |p::r,out,eq=>by
  rw[jT]
  split
  ·exact .inr rfl
  ·exact Kl
theorem mh {l:List bt} {b:List Int} {c:bt} (h:aX l b=(c,0)):
  l.length=b.length∧(∀p∈l.zip b,X9 p)∧bi c.1.2∧c.1.1=kQ (l.zip b)∧(∀n,cf c.1.2 n=jC n (l.zip b))∧c.2=ZF (l.zip b):=by
 rw[aX]at h
 split at h
 ·cases h
 ·rename_i h1
  split at h
  ·cases h
  ·rename_i h2
   have hok: ∀p∈l.zip b,X9 p:=fun p hp=>LW.1 fun hb=>h2 ⟨p,hp,hb⟩
   obtain⟨g1,g2,g3,g4⟩:=H8 h (fun i hi=>by simp at hi) fun p hp=>(hok p hp).1
   exact⟨Classical.not_not.1 h1,hok,g1,by rw[g2];simp,fun n=>by rw[g3];simp[cf],by rw[g4];simp⟩
theorem vB {l:List bt} {b:List Int} (hl:l.length=b.length) (hb: ∀p∈l.zip b,X9 p):(aX l b).2=0∨aX l b=(zo,3):=by
 rw[aX,if_neg (not_not_intro hl),if_neg (by rintro⟨p,hp,h⟩;exact LW.2 (hb p hp) h)]
 exact Kl
def ev (x:ByteArray→Rat):List bJ→Rat
 | []=>0
 |m::r=>(m.2:Rat)*x m.1+ev x r
def val (x:ByteArray→Rat) (a:bY):Rat:=(a.1:Rat)+ev x a.2
def holds (x:ByteArray→Rat) (c:bt):Prop:=0≤val x c.1∧(c.2=true→val x c.1=0)
theorem C8: ∀{l acc:List bt} {t:List bt},kN acc l=(t,0)→ ∃r,t=acc++r∧r.length=l.length∧(∀k (h:k<l.length) (h':k<r.length),(gL l[k]).2.2=0∧r[k]=(gL l[k]).1)
 |[],acc,t,h=>by
  rw[kN]at h
  cases h
  exact⟨[],by simp,rfl,fun k h=>by simp at h⟩
 |c::l,acc,t,h=>by
  rw[kN]at h
  split at h
  ·rename_i h0
   exact absurd (congrArg Prod.snd h) h0
  ·rename_i h0
   obtain⟨r,h1,h2,h3⟩:=C8 h
   refine⟨(gL c).1::r,by rw[h1];simp,by simp[h2],fun k hk hk'=> ?_⟩
   cases k with
   |zero=>exact⟨Classical.not_not.1 h0,rfl⟩
   |succ k=>exact h3 k (by simpa using hk) (by simpa using hk')
theorem o9 {l t:List bt} (h:bL l=(t,0)):t.length=l.length∧(∀c∈l,(gL c).2.2=0)∧ ∀d∈t,∃c∈l,d=(gL c).1:=by
 rw[bL]at h
 split at h
 ·cases h
 ·obtain⟨r,h1,h2,h3⟩:=C8 h
  simp only[List.nil_append]at h1
  subst h1
  refine⟨h2,fun c hc=> ?_,fun d hd=> ?_⟩
  ·obtain⟨k,hk,rfl⟩:=List.mem_iff_getElem.1 hc
   exact(h3 k hk (by omega)).1
  ·obtain⟨k,hk,rfl⟩:=List.mem_iff_getElem.1 hd
   exact⟨l[k],List.getElem_mem _,(h3 k (by omega) hk).2⟩
structure c9 (T:List bt) (r:dq):Prop where
 lin:bi r.1.1.2
 r64:PK r
 len:r.2.length=T.length
 ok: ∀p∈T.zip r.2,X9 p
 k:r.1.1.1=kQ (T.zip r.2)
 c: ∀n,cf r.1.1.2 n=jC n (T.zip r.2)
 q:r.1.2=true→ZF (T.zip r.2)=true
theorem Ot {x y:Int}: ∀{l:List (Int×Int)} {s:List Int},jL x y l=some s→s=l.map (fun p=>p.1*x+p.2*y)∧ ∀n∈s,ay n
 |[],s,h=>by
  rw[jL]at h
  cases h
  exact⟨rfl,by simp⟩
 |p::l,s,h=>by
  rw[jL]at h
  split at h
  ·rename_i hs
   cases hr:jL x y l with
   |none=>rw[hr]at h;cases h
   |some t=>
    rw[hr]at h
    cases h
    obtain⟨h1,h2⟩:=Ot hr
    refine⟨by rw[List.map_cons,h1],fun n hn=> ?_⟩
    rcases List.mem_cons.1 hn with rfl|hn
    ·exact(CQ.1 hs).2.2
    ·exact h2 n hn
  ·cases h
abbrev I8 (x y:Int) (a b:List Int):List Int:=(a.zip b).map fun p=>p.1*x+p.2*y
theorem Oj {x y:Int}: ∀{T:List bt} {a b:List Int},a.length=T.length→b.length=T.length→kQ (T.zip (I8 x y a b))=kQ (T.zip a)*x+kQ (T.zip b)*y
 | [],a,b,_,_=>by simp[kQ]
 |t::T, [],b,h,_=>by simp at h
 |t::T,u::a, [],_,h=>by simp at h
 |t::T,u::a,v::b,h1,h2=>by
  have ih:=Oj (x:=x) (y:=y) (T:=T) (a:=a) (b:=b) (by simpa using h1) (by simpa using h2)
  simp only[I8,List.zip_cons_cons,List.map_cons,kQ]at ih ⊢
  rw[ih]
  simp only[Int.mul_add,Int.add_mul,Int.mul_assoc]
  omega
theorem MO {n:ByteArray} {x y:Int}: ∀{T:List bt} {a b:List Int},a.length=T.length→b.length=T.length→jC n (T.zip (I8 x y a b))=jC n (T.zip a)*x+jC n (T.zip b)*y
 | [],a,b,_,_=>by simp[jC]
 |t::T, [],b,h,_=>by simp at h
 |t::T,u::a, [],_,h=>by simp at h
 |t::T,u::a,v::b,h1,h2=>by
  have ih:=MO (n:=n) (x:=x) (y:=y) (T:=T) (a:=a) (b:=b) (by simpa using h1) (by simpa using h2)
  simp only[I8,List.zip_cons_cons,List.map_cons,jC]at ih ⊢
  rw[ih]
  simp only[Int.mul_add,Int.add_mul,Int.mul_assoc]
  omega
theorem Cz {T:List bt} {b:List Int} {p:bt×Int} (h:p∈T.zip b): ∃i,∃h1:i<T.length,∃h2:i<b.length,p=(T[i],b[i]):=by
 obtain⟨i,hi,rfl⟩:=List.mem_iff_getElem.1 h
 have:=hi
 rw[List.length_zip]at this
 exact⟨i,by omega,by omega,List.getElem_zip⟩
theorem ve {T:List bt} {b:List Int} {i:Nat} (h1:i<T.length) (h2:i<b.length):(T[i],b[i])∈T.zip b:=
 List.mem_iff_getElem.2 ⟨i,by rw[List.length_zip];omega,List.getElem_zip⟩
theorem m0 {l:List (bt×Int)}:ZF l=true↔ ∀p∈l,p.1.2=true∨p.2=0:=by simp[ZF,List.all_eq_true,Bool.or_eq_true]
theorem c9.mix {T:List bt} {a b:dq} {x y:Int} {c:bt} {s:List Int} (ha:c9 T a) (hb:c9 T b) (hc:aX [a.1,b.1] [x,y]=(c,0)) (hs:jL x y (a.2.zip b.2)=some s):c9 T (c,s):=by
 obtain⟨g1,g2,g3,g4,g5,g6⟩:=mh hc
 obtain⟨rfl,hs64⟩:=Ot hs
 have oa:=g2 (a.1,x) (by simp)
 have ob:=g2 (b.1,y) (by simp)
 have hlen:(I8 x y a.2 b.2).length=T.length:=by simp[ha.len,hb.len]
 refine⟨g3,⟨?_,hs64⟩,hlen,fun p hp=> ?_, ?_,fun n=> ?_,fun hq=> ?_⟩
 ·have:=xd [a.1,b.1] [x,y]
  rw[hc]at this
  exact this
 ·obtain⟨i,h1,h2,rfl⟩:=Cz hp
  have e1:=ha.ok _ (ve h1 (by rw[ha.len];exact h1))
  have e2:=hb.ok _ (ve h1 (by rw[hb.len];exact h1))
  refine⟨e1.1,fun h=> ?_⟩
  obtain⟨hneg,hin⟩:=h
  simp only[I8,List.getElem_map,List.getElem_zip]at hneg
  have n1:=fun h=>e1.2 ⟨h,hin⟩
  have n2:=fun h=>e2.2 ⟨h,hin⟩
  simp only at n1 n2
  have z1:a.1.2=true→a.2[i]'(by rw[ha.len];exact h1)=0:=fun h=>by
   rcases m0.1 (ha.q h) _ (ve h1 (by rw[ha.len];exact h1))with h|h
   ·rw[hin]at h;cases h
   ·exact h
  have z2:b.1.2=true→b.2[i]'(by rw[hb.len];exact h1)=0:=fun h=>by
   rcases m0.1 (hb.q h) _ (ve h1 (by rw[hb.len];exact h1))with h|h
   ·rw[hin]at h;cases h
   ·exact h
  have p1:0≤a.2[i]'(by rw[ha.len];exact h1)*x:=by
   by_cases h:a.1.2=true
   ·rw[z1 h];omega
   ·exact Int.mul_nonneg (Int.not_lt.1 n1) (Int.not_lt.1 fun h'=>oa.2 ⟨h',by simpa using h⟩)
  have p2:0≤b.2[i]'(by rw[hb.len];exact h1)*y:=by
   by_cases h:b.1.2=true
   ·rw[z2 h];omega
   ·exact Int.mul_nonneg (Int.not_lt.1 n2) (Int.not_lt.1 fun h'=>ob.2 ⟨h',by simpa using h⟩)
  omega
 ·show c.1.1=kQ (T.zip (I8 x y a.2 b.2))
  rw[Oj ha.len hb.len,←ha.k,←hb.k,g4]
  simp[kQ]
 ·show cf c.1.2 n=jC n (T.zip (I8 x y a.2 b.2))
  rw[MO ha.len hb.len,←ha.c,←hb.c,g5]
  simp[jC]
 ·show ZF (T.zip (I8 x y a.2 b.2))=true
  simp only at hq
  rw[g6]at hq
  have hq:=m0.1 hq
  have qa:=hq (a.1,x) (by simp)
  have qb:=hq (b.1,y) (by simp)
  simp only at qa qb
  refine m0.2 fun p hp=> ?_
  obtain⟨i,h1,h2,rfl⟩:=Cz hp
  by_cases hT:T[i].2=true
  ·exact .inl hT
  ·refine .inr ?_
   simp only[I8,List.getElem_map,List.getElem_zip]
   have p1:a.2[i]'(by rw[ha.len];exact h1)*x=0:=by
    rcases qa with h|h
    ·rcases m0.1 (ha.q h) _ (ve h1 (by rw[ha.len];exact h1))with h|h
     ·exact absurd h hT
     ·simp only at h;rw[h,Int.zero_mul]
    ·rw[h,Int.mul_zero]
   have p2:b.2[i]'(by rw[hb.len];exact h1)*y=0:=by
    rcases qb with h|h
    ·rcases m0.1 (hb.q h) _ (ve h1 (by rw[hb.len];exact h1))with h|h
     ·exact absurd h hT
     ·simp only at h;rw[h,Int.zero_mul]
    ·rw[h,Int.mul_zero]
   omega
theorem Pm: ∀{l:List Int} {g:Nat},xa g l∣g∧ ∀n∈l,xa g l∣n.natAbs
 | [],g=>⟨Nat.dvd_refl _,by simp⟩
 |n::l,g=>by
  obtain⟨h1,h2⟩:=Pm (l:=l) (g:=Nat.gcd g n.natAbs)
  refine⟨Nat.dvd_trans h1 (Nat.gcd_dvd_left _ _),fun m hm=> ?_⟩
  rcases List.mem_cons.1 hm with rfl|hm
  ·exact Nat.dvd_trans h1 (Nat.gcd_dvd_right _ _)
  ·exact h2 m hm
theorem MV {g:Int}: ∀{T:List bt} {b:List Int},(∀n∈b,g∣n)→kQ (T.zip (b.map fun n=>n.tdiv g))*g=kQ (T.zip b)
 | [],b,_=>by simp[kQ]
 |t::T, [],_=>by simp[kQ]
 |t::T,n::b,h=>by
  have ih:=MV (g:=g) (T:=T) (b:=b) (fun m hm=>h m (List.mem_cons_of_mem _ hm))
  have h1:=Int.tdiv_mul_cancel (h n List.mem_cons_self)
  simp only[List.map_cons,List.zip_cons_cons,kQ,Int.add_mul,ih]
  rw[Int.mul_assoc,h1]
theorem Hz {n:ByteArray} {g:Int}: ∀{T:List bt} {b:List Int},(∀n∈b,g∣n)→jC n (T.zip (b.map fun n=>n.tdiv g))*g=jC n (T.zip b)
 | [],b,_=>by simp[jC]
 |t::T, [],_=>by simp[jC]
 |t::T,m::b,h=>by
  have ih:=Hz (n:=n) (g:=g) (T:=T) (b:=b) (fun k hk=>h k (List.mem_cons_of_mem _ hk))
  have h1:=Int.tdiv_mul_cancel (h m List.mem_cons_self)
  simp only[List.map_cons,List.zip_cons_cons,jC,Int.add_mul,ih]
  rw[Int.mul_assoc,h1]
theorem UQ {g:Nat} {n:ByteArray}: ∀{l:List bJ},cf (Zf g l) n=(cf l n).tdiv g
 | []=>by simp[cf,Zf]
 |m::l=>by
  rw[Zf,List.map_cons,cf,cf]
  simp only
  split
  ·rfl
  ·exact UQ
theorem Y4 {x:Int} {g:Int} (h:g∣x) (hx:x≠0):x.tdiv g≠0:=fun e=>by
 have:=Int.tdiv_mul_cancel h
 rw[e,Int.zero_mul]at this
 exact hx this.symm
theorem TP {x:Int} {g:Nat} (h: ¬x<0): ¬x.tdiv g<0:=by
 have:0≤x.tdiv (g:Int):=Int.tdiv_nonneg (by omega) (by omega)
 omega
theorem c9.reduced {T:List bt} {d:dq} (h:c9 T d):c9 T (uV d):=by
 unfold uV
 split
 ·exact h
 ·rename_i hg
  have hg2:2≤xa 0 d.2:=by omega
  have hdv: ∀n∈d.2,((xa 0 d.2:Nat):Int)∣n:=fun n hn=>Int.ofNat_dvd_left.2 (Pm.2 n hn)
  generalize xa 0 d.2=g at*
  have hG:(g:Int)≠0:=by omega
  have eK:d.1.1.1.tdiv g=kQ (T.zip (Y3 g d.2)):=by
   rw[h.k,←MV (T:=T) hdv,Int.mul_tdiv_cancel _ hG]
   rfl
  have eC: ∀n,(cf d.1.1.2 n).tdiv g=jC n (T.zip (Y3 g d.2)):=fun n=>by
   rw[h.c,←Hz (T:=T) hdv,Int.mul_tdiv_cancel _ hG]
   rfl
  have dC: ∀n,(g:Int)∣cf d.1.1.2 n:=fun n=>by
   rw[h.c,←Hz (T:=T) hdv]
   exact⟨_,Int.mul_comm _ _⟩
  obtain⟨s1,s2⟩:=cj.1 h.lin
  refine⟨cj.2 ⟨?_,fun m hm=> ?_⟩,⟨⟨wy h.r64.1.1 hg2,fun m hm=> ?_⟩,fun n hn=> ?_⟩,by simp[Y3,h.len],fun p hp=> ?_,eK,fun n=>by rw[UQ];exact eC n,fun hq=> ?_⟩
  ·show(Zf g d.1.1.2).Pairwise _
   rw[Zf,List.pairwise_map]
   exact s1
  ·obtain⟨z,hz,rfl⟩:=List.mem_map.1 hm
   refine⟨(s2 z hz).1,Y4 ?_ (s2 z hz).2⟩
   have:=dC z.1
   rw[y9 s1 hz]at this
   exact this
  ·obtain⟨z,hz,rfl⟩:=List.mem_map.1 hm
   exact wy (h.r64.1.2 z hz) hg2
  ·obtain⟨z,hz,rfl⟩:=List.mem_map.1 hn
   exact wy (h.r64.2 z hz) hg2
  ·obtain⟨i,h1,h2,rfl⟩:=Cz hp
   have:=h.ok _ (ve h1 (by rw[h.len];exact h1))
   refine⟨this.1,fun hh=>this.2 ⟨?_,hh.2⟩⟩
   simp only[Y3,List.getElem_map]at hh
   exact Classical.byContradiction fun hc=>TP hc hh.1
  ·refine m0.2 fun p hp=> ?_
   obtain⟨i,h1,h2,rfl⟩:=Cz hp
   rcases m0.1 (h.q hq) _ (ve h1 (by rw[h.len];exact h1))with h'|h'
   ·exact .inl h'
   ·refine .inr ?_
    simp only at h'
    simp only[Y3,List.getElem_map,h',Int.zero_tdiv]
theorem c9.merge {T:List bt} {a b:dq} {x y fuel:Int} (ha:c9 T a) (hb:c9 T b) (h:(gq fuel a b x y).2=0):c9 T (gq fuel a b x y).1:=by
 unfold gq at h ⊢
 split at h
 ·cases h
 ·rename_i h0
  rw[if_neg h0]
  split at h
  ·rename_i h1
   exact absurd h h1
  ·rename_i h1
   rw[if_neg h1]
   have hc:aX [a.1,b.1] [x,y]=((aX [a.1,b.1] [x,y]).1,0):=Prod.ext rfl (Classical.not_not.1 h1)
   cases hs:jL x y (a.2.zip b.2)with
   |none=>rw[hs]at h;cases h
   |some s=>exact(ha.mix hb hc hs).reduced
theorem Q2 {T:List bt} {a b:dq} {x y fuel:Int} (ha:c9 T a) (hb:c9 T b) (hx:0≤x∨a.1.2=true) (hy:0≤y∨b.1.2=true):(gq fuel a b x y).2=0∨(gq fuel a b x y).2=14∨(gq fuel a b x y).2=3:=by
 unfold gq
 split
 ·exact .inr (.inl rfl)
 ·have:=vB (l:= [a.1,b.1]) (b:= [x,y]) rfl (fun p hp=>by
   have:p=(a.1,x)∨p=(b.1,y):=by simpa using hp
   rcases this with rfl|rfl
   ·exact⟨ha.lin,fun h=>hx.elim (fun h'=>absurd h.1 (Int.not_lt.2 h')) fun h'=>by have:=h.2;simp only at this;rw[h']at this;cases this⟩
   ·exact⟨hb.lin,fun h=>hy.elim (fun h'=>absurd h.1 (Int.not_lt.2 h')) fun h'=>by have:=h.2;simp only at this;rw[h']at this;cases this⟩)
  split
  ·rename_i h1
   rcases this with h|h
   ·exact absurd h h1
   ·rw[h];exact .inr (.inr rfl)
  ·split
   ·exact .inr (.inr rfl)
   ·exact .inl rfl
theorem M7 {d:dq}: ∀{rows out:List dq},yS d rows=some out→out.length=rows.length∧ ∀r∈out,r=d∨r∈rows
 | [],out,h=>by rw[yS]at h;cases h
 |r::rows,out,h=>by
  rw[yS]at h
  split at h
  ·cases h
   refine⟨by simp,fun z hz=> ?_⟩
   rcases List.mem_cons.1 hz with rfl|hz
   ·split
    ·exact .inl rfl
    ·exact .inr List.mem_cons_self
   ·exact .inr (List.mem_cons_of_mem _ hz)
  ·cases hr:yS d rows with
   |none=>rw[hr]at h;cases h
   |some t=>
    rw[hr]at h
    cases h
    obtain⟨h1,h2⟩:=M7 hr
    refine⟨by simp[h1],fun z hz=> ?_⟩
    rcases List.mem_cons.1 hz with rfl|hz
    ·exact .inr List.mem_cons_self
    ·exact(h2 z hz).imp_right (List.mem_cons_of_mem _)
theorem rV {rows:List dq} {d:dq} (hl:rows.length≤256):(d8 rows d).1.length≤256∧(d8 rows d).1.length≤rows.length+1∧(∀r∈(d8 rows d).1,r=d∨r∈rows)∧((d8 rows d).2=0∨(d8 rows d).2=2):=by
 unfold d8
 split
 ·exact⟨hl,Nat.le_succ _,fun r hr=> .inr hr,.inl rfl⟩
 ·cases hr:yS d rows with
  |some l=>
   obtain⟨h1,h2⟩:=M7 hr
   exact⟨by simp only;omega,by simp only;omega,h2,.inl rfl⟩
  |none=>
   simp only
   split
   ·exact⟨hl,Nat.le_succ _,fun r hr=> .inr hr,.inr rfl⟩
   ·exact⟨by simp;omega,by simp,fun r hr=>by simp at hr;exact hr.symm,.inl rfl⟩
def ow (rows:List dq):List ByteArray:=(Lib.compact (((fG rows).map fun s=>s.data.toList).mergeSort fun x y=>decide (x≤y))).map fun b=>⟨b.toArray⟩
def dH (rows:List dq):ByteArray×Int×Bool:=dy rows (ow rows) (-1) .empty
def qL (rows:List dq) (fuel:Int):Uk:=
 if 0≤(dH rows).2.1 then yJ (dH rows).1 (dH rows).2.1.toNat rows fuel else uR (dH rows).1 rows fuel
def iQ:List dq→Option (List Int)
 | []=>none
 |r::l=>if iZ r.1 then some r.2 else iQ l
def kH (l:List bt) (b:List Int):Int:=
 if(bL l).2≠0 then(bL l).2 else if(aX (bL l).1 b).2≠0 then(aX (bL l).1 b).2 else if iZ (aX (bL l).1 b).1 then 0 else 17
def fQ (l:List bt):Nat→List dq→Int→List Int×Bool×Int
 |0,_,_=>([],false,0)
 |N+1,rows,fuel=>match iQ rows with
  |some b=>if kH l b≠0 then([],false,kH l b)else(b,true,0)
  |none=>if(dH rows).2.2=false then([],false,0)else
   if(qL rows fuel).2.2≠0 then([],false,(qL rows fuel).2.2)else fQ l N (qL rows fuel).1 (qL rows fuel).2.1
def gj (n k:Nat):List Int:=(List.replicate n 0).set k 1
def ku (n:Nat):Nat→List bt→List dq→List dq×Int
 |_, [],rows=>(rows,0)
 |k,c::r,rows=>if(d8 rows (c,gj n k)).2≠0 then([],(d8 rows (c,gj n k)).2)else ku n (k+1) r (d8 rows (c,gj n k)).1
def msr (rows:List dq) (fuel:Int):Nat:=fuel.toNat*300+rows.length
def kK (l:List bt) (fuel:Int):List Int×Bool×Int:=
 if(bL l).2≠0 then([],false,(bL l).2)else if fuel<0∨1048576<fuel then([],false,1)else
 if(ku l.length 0 (bL l).1 []).2≠0 then([],false,(ku l.length 0 (bL l).1 []).2)else
 fQ l (fuel.toNat*300+300) (ku l.length 0 (bL l).1 []).1 fuel
theorem ta {α:Type} [Inhabited α] [DecidableEq α] {d:Array α} {x:α}: ∀{m:Nat},x∈Lib.compactUpTo d m↔ ∃j,j<m∧d[j]! =x
 |0=>by simp[Lib.compactUpTo]
 |m+1=>by
  rw[Lib.compactUpTo_succ,List.mem_append,ta]
  constructor
  ·rintro(⟨j,h1,h2⟩|h)
   ·exact⟨j,by omega,h2⟩
   ·split at h
    ·exact⟨m,by omega,(List.mem_singleton.1 h).symm⟩
    ·cases h
  ·rintro⟨j,h1,h2⟩
   by_cases hj:j<m
   ·exact .inl ⟨j,hj,h2⟩
   ·have:j=m:=by omega
    subst this
    by_cases hk:Lib.keeps d j=true
    ·rw[if_pos hk]
     exact .inr (List.mem_singleton.2 h2.symm)
    ·have hk': ¬(j=0∨d[j]! ≠d[j-1]!):=by simpa[Lib.keeps]using hk
     refine .inl ⟨j-1, ?_, ?_⟩
     ·have:j≠0:=fun h=>hk' (.inl h)
      omega
     ·rw[←h2]
      exact(Classical.not_not.1 fun h=>hk' (.inr h)).symm
theorem DT {α:Type} [Inhabited α] [DecidableEq α] {l:List α} {x:α}:x∈Lib.compact l↔x∈l:=by
 rw[Lib.compact,ta]
 constructor
 ·rintro⟨j,h1,h2⟩
  rw[←h2]
  have:l.toArray[j]! =l[j]:=by simp[h1]
  rw[this]
  exact List.getElem_mem _
 ·intro h
  obtain⟨j,hj,rfl⟩:=List.mem_iff_getElem.1 h
  exact⟨j,hj,by simp[hj]⟩
theorem Qr {rows:List dq} {n:ByteArray}:n∈ow rows↔n∈fG rows:=by
 rw[ow,List.mem_map]
 constructor
 ·rintro⟨b,hb,rfl⟩
  rw[DT,List.mem_mergeSort,List.mem_map]at hb
  obtain⟨s,hs,rfl⟩:=hb
  exact hs
 ·intro h
  exact⟨n.data.toList,by rw[DT,List.mem_mergeSort];exact List.mem_map_of_mem h,rfl⟩
theorem Mh {rows:List dq} {n:ByteArray}:n∈fG rows↔ ∃r∈rows,∃m∈r.1.1.2,m.1=n:=by
 simp[fG,List.mem_flatMap,List.mem_map]
theorem Cb {n:ByteArray}: ∀{l:List dq} {k i:Nat},v7 n k l=some i→ ∃h:i-k<l.length,k≤i∧cf l[i-k].1.1.2 n≠0∧l[i-k].1.2=true
 | [],k,i,h=>by rw[v7]at h;cases h
 |r::l,k,i,h=>by
  rw[v7]at h
  split at h
  ·rename_i h0
   cases h
   refine⟨by simp,Nat.le_refl _, ?_⟩
   simp only[Nat.sub_self,List.getElem_cons_zero]
   exact h0
  ·obtain⟨h1,h2,h3⟩:=Cb h
   have e:i-k=i-(k+1)+1:=by omega
   refine⟨by simp;omega,by omega, ?_⟩
   simp only[e,List.getElem_cons_succ]
   exact h3
theorem mX {rows:List dq} {N:List ByteArray}: ∀{vs:List ByteArray} {best:Int} {name:ByteArray},(0≤best→name∈N∧v7 name 0 rows=none)→(∀v∈vs,v∈N)→
  ((dy rows vs best name).2.1= -1∨0≤(dy rows vs best name).2.1)∧
  (0≤(dy rows vs best name).2.1→(dy rows vs best name).1∈N∧v7 (dy rows vs best name).1 0 rows=some (dy rows vs best name).2.1.toNat∧(dy rows vs best name).2.2=true)∧
  ((dy rows vs best name).2.1= -1→(dy rows vs best name).2.2=true→(dy rows vs best name).1∈N∧v7 (dy rows vs best name).1 0 rows=none)∧
  ((dy rows vs best name).2.2=false→vs= []∧best<0)
 |[],best,name,hb,hv=>by
  rw[dy]
  refine⟨.inl rfl,fun h=>(by simp at h),fun _ h=>hb (of_decide_eq_true h),fun h=>⟨rfl,by have:=of_decide_eq_false h;omega⟩⟩
 |v::vs,best,name,hb,hv=>by
  rw[dy]
  cases he:v7 v 0 rows with
  |some k=>
   simp only
   exact⟨.inr (by omega),fun _=>⟨hv v List.mem_cons_self,by rw[he];simp,trivial⟩,fun h=>(by omega),fun h=>(by cases h)⟩
  |none=>
   simp only
   split
   ·obtain⟨h1,h2,h3,h4⟩:=mX (rows:=rows) (N:=N) (vs:=vs) (best:=((BV v rows*Ua v rows:Nat):Int)) (name:=v) (fun _=>⟨hv v List.mem_cons_self,he⟩) fun z hz=>hv z (List.mem_cons_of_mem _ hz)
    exact⟨h1,h2,h3,fun h=>by have:=(h4 h).2;omega⟩
   ·rename_i hn
    obtain⟨h1,h2,h3,h4⟩:=mX (rows:=rows) (N:=N) (vs:=vs) (best:=best) (name:=name) hb fun z hz=>hv z (List.mem_cons_of_mem _ hz)
    exact⟨h1,h2,h3,fun h=>absurd (.inl (h4 h).2) hn⟩
def Er (e:Int):Prop:=e=0∨e=2∨e=3∨e=14
structure ms (P:dq→Prop) (w:Nat) (acc:List dq) (fuel:Int) (s:Uk):Prop where
 len:s.1.length≤256
 all: ∀r∈s.1,P r
 le:s.2.1≤fuel
 more:s.2.1=fuel→s.2.2=0→s.1.length≤acc.length+w
 er:Er s.2.2
 pos:s.2.2=0→0≤fuel→0≤s.2.1
theorem AN {α:Type} {step:α→List dq→Int→Uk} {P:dq→Prop} {w:α→Nat}: ∀{l:List α},(∀x∈l,∀acc fuel,(∀r∈acc,P r)→acc.length≤256→ms P (w x) acc fuel (step x acc fuel))→
  ∀acc fuel,(∀r∈acc,P r)→acc.length≤256→ms P (l.map w).sum acc fuel (gE step l acc fuel)
 | [],_,acc,fuel,ha,hl=>⟨hl,ha,Int.le_refl _,fun _ _=>by simp[gE],.inl rfl,fun _ h=>h⟩
 |x::l,hs,acc,fuel,ha,hl=>by
  have h1:=hs x List.mem_cons_self acc fuel ha hl
  rw[gE]
  split
  ·rename_i he
   exact⟨h1.len,h1.all,h1.le,fun _ h=>absurd h he,h1.er,fun h=>absurd h he⟩
  ·rename_i he
   have he:=Classical.not_not.1 he
   have h2:=AN (fun y hy=>hs y (List.mem_cons_of_mem _ hy)) (step x acc fuel).1 (step x acc fuel).2.1 h1.all h1.len
   refine⟨h2.len,h2.all,Int.le_trans h2.le h1.le,fun e e0=> ?_,h2.er,fun e e0=>h2.pos e (h1.pos he e0)⟩
   have a1:=h1.le
   have a2:=h2.le
   have a3:=h1.more (by omega) he
   have a4:=h2.more (by omega) e0
   simp only[List.map_cons,List.sum_cons]
   omega
theorem DL {T:List bt} {a b:dq} {x y:Int} (ha:c9 T a) (hb:c9 T b) (hx:0≤x∨a.1.2=true) (hy:0≤y∨b.1.2=true) {acc:List dq} {fuel:Int} (h: ∀r∈acc,c9 T r) (hl:acc.length≤256):
  ms (c9 T) 0 acc fuel (lD a b x y acc fuel):=by
 unfold lD
 split
 ·rename_i h0
  have:=Q2 (fuel:=fuel) ha hb hx hy
  refine⟨hl,h,by simp only;omega,fun e=>(by simp only at e;omega), ?_,fun e=>absurd e h0⟩
  rcases this with h|h|h
  ·exact absurd h h0
  ·exact .inr (.inr (.inr h))
  ·exact .inr (.inr (.inl h))
 ·rename_i h0
  have h0:=Classical.not_not.1 h0
  obtain⟨g1,g2,g3,g4⟩:=rV (d:=(gq fuel a b x y).1) hl
  refine⟨g1,fun r hr=> ?_,by simp only;omega,fun e=>(by simp only at e;omega), ?_,fun _ hf=> ?_⟩
  ·rcases g3 r hr with rfl|h'
   ·exact ha.merge hb h0
   ·exact h r h'
  ·rcases g4 with h|h
   ·exact .inl h
   ·exact .inr (.inl h)
  ·have: ¬fuel≤0:=fun hc=>by
    rw[gq,if_pos hc]at h0
    cases h0
   simp only
   omega
theorem W9 {T:List bt} {d:dq} (hd:c9 T d) {acc:List dq} {fuel:Int} (h: ∀r∈acc,c9 T r) (hl:acc.length≤256):ms (c9 T) 1 acc fuel ((d8 acc d).1,fuel,(d8 acc d).2):=by
 obtain⟨g1,g2,g3,g4⟩:=rV (d:=d) hl
 exact⟨g1,fun r hr=>(g3 r hr).elim (fun e=>e▸hd) (h r),Int.le_refl _,fun _ _=>g2,g4.elim .inl fun h=> .inr (.inl h),fun _ h=>h⟩
theorem Mu {T:List bt} {acc:List dq} {fuel:Int} {w:Nat} (h: ∀r∈acc,c9 T r) (hl:acc.length≤256):ms (c9 T) w acc fuel (acc,fuel,0):=⟨hl,h,Int.le_refl _,fun _ _=>by simp only;omega,.inl rfl,fun _ h=>h⟩
theorem WL {T:List bt} {acc:List dq} {fuel:Int} {w:Nat} {e:Int} (he:Er e) (h0:e≠0) (h: ∀r∈acc,c9 T r) (hl:acc.length≤256):ms (c9 T) w acc fuel (acc,fuel,e):=⟨hl,h,Int.le_refl _,fun _ e=>absurd e h0,he,fun e=>absurd e h0⟩
theorem Ii (n:Nat):0≤(oN n false).1:=by
 unfold oN
 split
 ·exact Int.le_refl _
 ·simp
theorem Oz {T:List bt} {n:ByteArray} {q:dq} {e:Nat} (hq:c9 T q) (hqe:q.1.2=true) {r:Nat×dq} (hr:c9 T r.2) (acc:List dq) (fuel:Int) (h: ∀r∈acc,c9 T r) (hl:acc.length≤256):
  ms (c9 T) (if r.1=e then 0 else 1) acc fuel (s8 n q e r acc fuel):=by
 unfold s8
 split
 ·exact Mu h hl
 ·split
  ·exact W9 hr h hl
  ·split
   ·exact WL (.inr (.inr (.inl rfl))) (by decide) h hl
   ·have:=DL (fuel:=fuel) hr hq (.inl (Ii _)) (.inr hqe) (x:=(fR (cf q.1.1.2 n) (cf r.2.1.1.2 n)).1) (y:=(fR (cf q.1.1.2 n) (cf r.2.1.1.2 n)).2.1) h hl
    exact⟨this.len,this.all,this.le,fun a b=>Nat.le_trans (this.more a b) (by omega),this.er,this.pos⟩
theorem Ph {T:List bt} {n:ByteArray} {r:dq} (hr:c9 T r) (acc:List dq) (fuel:Int) (h: ∀r∈acc,c9 T r) (hl:acc.length≤256):ms (c9 T) (if cf r.1.1.2 n=0 then 1 else 0) acc fuel (mC n r acc fuel):=by
 unfold mC
 split
 ·exact W9 hr h hl
 ·exact Mu h hl
theorem NI {T:List bt} {n:ByteArray} {a b:dq} (ha:c9 T a) (hb:c9 T b) (acc:List dq) (fuel:Int) (h: ∀r∈acc,c9 T r) (hl:acc.length≤256):ms (c9 T) 0 acc fuel (ti n a b acc fuel):=by
 unfold ti
 split
 ·exact Mu h hl
 ·split
  ·exact WL (.inr (.inr (.inl rfl))) (by decide) h hl
  ·exact DL ha hb (.inl (Ii _)) (.inl (Ii _)) h hl
theorem ML {α:Type}: ∀{l:List α} {k:Nat} {x:Nat×α},x∈yN k l→x.2∈l
 | [],k,x,h=>by cases h
 |y::l,k,x,h=>by
  rcases List.mem_cons.1 h with rfl|h
  ·exact List.mem_cons_self
  ·exact List.mem_cons_of_mem _ (ML h)
theorem NU {α:Type} {e:Nat}: ∀{l:List α} {k:Nat},((yN k l).map fun x=>if x.1=e then 0 else 1).sum≤l.length∧(k≤e→e<k+l.length→((yN k l).map fun x=>if x.1=e then 0 else 1).sum<l.length)
 | [],k=>by simp[yN]
 |y::l,k=>by
  obtain⟨h1,h2⟩:=NU (e:=e) (l:=l) (k:=k+1)
  simp only[yN,List.map_cons,List.sum_cons,List.length_cons]
  by_cases hk:k=e
  ·rw[if_pos hk]
   exact⟨by omega,fun _ _=>by omega⟩
  ·rw[if_neg hk]
   exact⟨by omega,fun a b=>by have:=h2 (by omega) (by omega);omega⟩
theorem Ng {n:ByteArray}: ∀{l:List dq},(l.map fun r=>if cf r.1.1.2 n=0 then 1 else 0).sum≤l.length∧((∃r∈l,cf r.1.1.2 n≠0)→(l.map fun r=>if cf r.1.1.2 n=0 then 1 else 0).sum<l.length)
 | []=>by simp
 |r::l=>by
  obtain⟨h1,h2⟩:=Ng (n:=n) (l:=l)
  simp only[List.map_cons,List.sum_cons,List.length_cons]
  by_cases hk:cf r.1.1.2 n=0
  ·rw[if_pos hk]
   refine⟨by omega,fun⟨z,hz,h0⟩=> ?_⟩
   rcases List.mem_cons.1 hz with rfl|hz
   ·exact absurd hk h0
   ·have:=h2 ⟨z,hz,h0⟩
    omega
  ·rw[if_neg hk]
   exact⟨by omega,fun _=>by omega⟩
theorem Fu {α:Type}: ∀{l:List α},(l.map fun _=>0).sum=0
 | []=>rfl
 |_::l=>by rw[List.map_cons,List.sum_cons,Fu]
theorem SU {T:List bt} {n:ByteArray} {e:Nat} {rows:List dq} {fuel:Int} (h: ∀r∈rows,c9 T r) (he:e<rows.length) (hq:rows[e].1.2=true):
  ms (c9 T) (rows.length-1) [] fuel (yJ n e rows fuel):=by
 have hg:rows.getD e QT=rows[e]:=by simp[List.getD_eq_getElem?_getD,he]
 have h1:=AN (step:=s8 n (rows.getD e QT) e) (P:=c9 T) (w:=fun x=>if x.1=e then 0 else 1) (l:=yN 0 rows) (fun x hx acc f ha hl=>by
  rw[hg]
  exact Oz (h _ (List.getElem_mem he)) hq (h _ (ML hx)) acc f ha hl) [] fuel (by simp) (by simp)
 have h2:=(NU (e:=e) (l:=rows) (k:=0)).2 (by omega) (by omega)
 exact⟨h1.len,h1.all,h1.le,fun a b=>by have:=h1.more a b;simp only[List.length_nil]at this ⊢;exact Nat.le_trans this (by omega),h1.er,h1.pos⟩
theorem S5 {T:List bt} {n:ByteArray} {rows:List dq} {fuel:Int} (h: ∀r∈rows,c9 T r) (he: ∃r∈rows,cf r.1.1.2 n≠0):ms (c9 T) (rows.length-1) [] fuel (uR n rows fuel):=by
 have h1:=AN (step:=mC n) (P:=c9 T) (w:=fun r=>if cf r.1.1.2 n=0 then 1 else 0) (l:=rows) (fun x hx acc f ha hl=>Ph (h x hx) acc f ha hl) [] fuel (by simp) (by simp)
 have h2:=(Ng (n:=n) (l:=rows)).2 he
 unfold uR
 split
 ·rename_i h0
  exact⟨h1.len,h1.all,h1.le,fun a b=>absurd b h0,h1.er,fun b=>absurd b h0⟩
 ·rename_i h0
  have h0:=Classical.not_not.1 h0
  have h3:=AN (step:=fun a=>gE (ti n a) rows) (P:=c9 T) (w:=fun _=>0) (l:=rows) (fun a ha acc f hacc hl=>by
   have:=AN (step:=ti n a) (P:=c9 T) (w:=fun _=>0) (l:=rows) (fun b hb acc f hacc hl=>NI (h a ha) (h b hb) acc f hacc hl) acc f hacc hl
   refine⟨this.len,this.all,this.le,fun a b=> ?_,this.er,this.pos⟩
   have:=this.more a b
   rw[Fu]at this
   exact this) (gE (mC n) rows [] fuel).1 (gE (mC n) rows [] fuel).2.1 h1.all h1.len
  refine⟨h3.len,h3.all,Int.le_trans h3.le h1.le,fun a b=> ?_,h3.er,fun a b=>h3.pos a (h1.pos h0 b)⟩
  have a1:=h1.le
  have a2:=h3.le
  have a3:=h1.more (by omega) h0
  have a4:=h3.more (by omega) b
  rw[Fu]at a4
  simp only[List.length_nil,Nat.zero_add,Nat.add_zero]at a3 a4 ⊢
  omega
theorem FO {T:List bt} {rows:List dq} {fuel:Int} (h: ∀r∈rows,c9 T r) (hc:(dH rows).2.2=true):ms (c9 T) (rows.length-1) [] fuel (qL rows fuel)∧rows≠ []:=by
 obtain⟨g1,g2,g3,g4⟩:=mX (rows:=rows) (N:=ow rows) (vs:=ow rows) (best:= -1) (name:= .empty) (fun h=>(by omega)) (fun v hv=>hv)
 unfold qL
 split
 ·rename_i h0
  obtain⟨k1,k2,k3⟩:=g2 h0
  obtain⟨m1,m2,m3,m4⟩:=Cb k2
  simp only[Nat.sub_zero]at m1 m4
  exact⟨SU h m1 m4,fun e=>by subst e;simp at m1⟩
 ·rename_i h0
  have h1:(dH rows).2.1= -1:=g1.resolve_right h0
  obtain⟨k1,k2⟩:=g3 h1 hc
  obtain⟨r,hr,m,hm,hn⟩:=Mh.1 (Qr.1 k1)
  obtain⟨s1,s2⟩:=cj.1 (h r hr).lin
  refine⟨S5 h ⟨r,hr, ?_⟩,fun e=>by subst e;cases hr⟩
  show cf r.1.1.2 (dy rows (ow rows) (-1) .empty).1≠0
  rw[←hn,y9 s1 hm]
  exact(s2 m hm).2
theorem SB {T:List bt} {rows:List dq} {fuel:Int} (h: ∀r∈rows,c9 T r) (hl:rows.length≤256) (hf:0≤fuel) (hc:(dH rows).2.2=true) (he:(qL rows fuel).2.2=0):msr (qL rows fuel).1 (qL rows fuel).2.1<msr rows fuel:=by
 obtain⟨h1,h2⟩:=FO (fuel:=fuel) h hc
 have a1:=h1.le
 have a2:=h1.len
 have a3:=h1.pos he hf
 have a4:0<rows.length:=List.length_pos_iff.2 h2
 unfold msr
 by_cases e:(qL rows fuel).2.1=fuel
 ·have:=h1.more e he
  simp at this
  rw[e]
  omega
 ·omega
theorem Tr {l:List bt} {r:dq} (h0:(bL l).2=0) (h:c9 (bL l).1 r) (hb:iZ r.1):kH l r.2=0∨kH l r.2=3:=by
 unfold kH
 rw[if_neg (by rw[h0];simp)]
 rcases vB h.len.symm h.ok with he|he
 ·rw[if_neg (by rw[he];simp)]
  have hc:aX (bL l).1 r.2=((aX (bL l).1 r.2).1,0):=Prod.ext rfl he
  generalize (aX (bL l).1 r.2).1=c at*
  obtain⟨g1,g2,g3,g4,g5,g6⟩:=mh hc
  rw[if_pos]
  ·exact .inl rfl
  ·obtain⟨b1,b2⟩:=hb
   refine⟨?_, ?_⟩
   ·cases hcl:c.1.2 with
    |nil=>rfl
    |cons m z=>
     obtain⟨s1,s2⟩:=cj.1 g3
     have hm:m∈c.1.2:=by rw[hcl];exact List.mem_cons_self
     have:=y9 s1 hm
     rw[g5,←h.c,b1]at this
     exact absurd this.symm (s2 m hm).2
   ·rw[g4,←h.k,g6]
    rcases b2 with b2|⟨b2,b3⟩
    ·exact .inl b2
    ·exact .inr ⟨h.q b2,b3⟩
 ·rw[he,if_pos (by simp)]
  exact .inr rfl
theorem tZ: ∀{rows:List dq} {b:List Int},iQ rows=some b→ ∃r∈rows,iZ r.1∧r.2=b
 | [],b,h=>by rw[iQ]at h;cases h
 |r::rows,b,h=>by
  rw[iQ]at h
  split at h
  ·rename_i h0
   cases h
   exact⟨r,List.mem_cons_self,h0,rfl⟩
  ·obtain⟨z,hz,h1⟩:=tZ h
   exact⟨z,List.mem_cons_of_mem _ hz,h1⟩
def ErF (e:Int):Prop:=e=2∨e=3∨e=14
theorem Dt {l:List bt} (h0:(bL l).2=0): ∀{N:Nat} {rows:List dq} {fuel:Int},(∀r∈rows,c9 (bL l).1 r)→rows.length≤256→0≤fuel→
  ((fQ l N rows fuel).2.2≠0→ErF (fQ l N rows fuel).2.2∧(fQ l N rows fuel).1= []∧(fQ l N rows fuel).2.1=false)∧
  ((fQ l N rows fuel).2.1=true→kH l (fQ l N rows fuel).1=0)∧((fQ l N rows fuel).2.1=false→(fQ l N rows fuel).1= [])
 |0,rows,fuel,_,_,_=>by rw[fQ];exact⟨fun h=>absurd rfl h,fun h=>(by cases h),fun _=>rfl⟩
 |N+1,rows,fuel,h,hl,hf=>by
  rw[fQ]
  cases hb:iQ rows with
  |some b=>
   obtain⟨r,hr,h1,rfl⟩:=tZ hb
   simp only
   rcases Tr h0 (h r hr) h1 with he|he
   ·rw[if_neg (by rw[he];simp)]
    exact⟨fun h=>absurd rfl h,fun _=>he,fun h=>(by cases h)⟩
   ·rw[if_pos (by rw[he];decide)]
    exact⟨fun _=>⟨by rw[he];exact .inr (.inl rfl),rfl,rfl⟩,fun h=>(by cases h),fun _=>rfl⟩
  |none=>
   simp only
   split
   ·exact⟨fun h=>absurd rfl h,fun h=>(by cases h),fun _=>rfl⟩
   ·rename_i hc
    have hc:(dH rows).2.2=true:=by simpa using hc
    obtain⟨h1,h2⟩:=FO (fuel:=fuel) h hc
    split
    ·rename_i he
     refine⟨fun _=>⟨?_,rfl,rfl⟩,fun h=>(by cases h),fun _=>rfl⟩
     exact h1.er.resolve_left he
    ·rename_i he
     exact Dt h0 h1.all h1.len (h1.pos (Classical.not_not.1 he) hf)
theorem JJ:bi []:=fun i hi=>by simp at hi
theorem wv:bi zo.1.2∧bX zo:=⟨JJ,LV⟩
theorem E0:bi Ta.1.2∧bX Ta:=⟨JJ,⟨by show ay (-1);unfold ay;omega,fun m hm=>by cases hm⟩⟩
theorem T3 {c:bt} (h64:bX c):bi (gL c).1.1.2∧bX (gL c).1∧((gL c).2.2=0→bi c.1.2):=by
 unfold gL
 split
 ·exact⟨wv.1,wv.2,fun h=>by cases h⟩
 ·rename_i hok
  have hok:=Classical.not_not.1 hok
  split
  ·split
   ·exact⟨wv.1,wv.2,fun _=>hok⟩
   ·exact⟨E0.1,E0.2,fun _=>hok⟩
  ·rename_i hl
   have hg:=OQ hl (fun m hm=>((cj.1 hok).2 m hm).2)
   have hd:=Rk hok
   have h64': ∀m∈gT (ii c.1.2) c.1.2,ay m.2:=fun m hm=>by
    obtain⟨z,hz,rfl⟩:=List.mem_map.1 hm
    exact Im (h64.2 z hz) hg
   split
   ·exact⟨E0.1,E0.2,fun _=>hok⟩
   ·split
    ·split
     ·rename_i hn
      obtain⟨s1,s2⟩:=cj.1 hd
      refine⟨cj.2 ⟨?_,fun m hm=> ?_⟩,⟨hn.1,fun m hm=> ?_⟩,fun _=>hok⟩
      ·show((gT (ii c.1.2) c.1.2).map _).Pairwise _
       rw[List.pairwise_map]
       exact s1
      ·obtain⟨z,hz,rfl⟩:=List.mem_map.1 hm
       exact⟨(s2 z hz).1,by have:=(s2 z hz).2;simp only;omega⟩
      ·obtain⟨z,hz,rfl⟩:=List.mem_map.1 hm
       exact hn.2 z hz
     ·exact⟨wv.1,wv.2,fun h=>by cases h⟩
    ·exact⟨hd,⟨Im h64.1 hg,h64'⟩,fun _=>hok⟩
theorem B3 {l t:List bt} (h:bL l=(t,0)) (h64: ∀c∈l,bX c): ∀d∈t,bi d.1.2∧bX d:=fun d hd=>by
 obtain⟨_,_,h3⟩:=o9 h
 obtain⟨c,hc,rfl⟩:=h3 d hd
 obtain⟨g1,g2,_⟩:=T3 (h64 c hc)
 exact⟨g1,g2⟩
theorem QI (c:bt):(gL c).1.1.2.length≤c.1.2.length:=by
 unfold gL
 (repeat' split)<;>simp[zo,Ta,gT]
theorem JS: ∀{T:List bt} {n:Nat},kQ (T.zip (List.replicate n 0))=0
 | [],n=>by simp[kQ]
 |t::T,0=>by simp[kQ]
 |t::T,n+1=>by
  rw[List.replicate_succ,List.zip_cons_cons,kQ,JS]
  simp
theorem Ki {m:ByteArray}: ∀{T:List bt} {n:Nat},jC m (T.zip (List.replicate n 0))=0
 | [],n=>by simp[jC]
 |t::T,0=>by simp[jC]
 |t::T,n+1=>by
  rw[List.replicate_succ,List.zip_cons_cons,jC,Ki]
  simp
theorem QB (n:Nat):gj (n+1) 0=1::List.replicate n 0:=rfl
theorem Rc (n k:Nat):gj (n+1) (k+1)=0::gj n k:=rfl
theorem ST (n k:Nat):(gj n k).length=n:=by simp[gj]
theorem Fq {m:ByteArray}: ∀{T:List bt} {k:Nat} (h:k<T.length),kQ (T.zip (gj T.length k))=T[k].1.1∧jC m (T.zip (gj T.length k))=cf T[k].1.2 m
 | [],k,h=>by simp at h
 |t::T,0,h=>by
  rw[List.length_cons,QB,List.zip_cons_cons,kQ,jC,JS,Ki]
  simp
 |t::T,k+1,h=>by
  obtain⟨h1,h2⟩:=Fq (m:=m) (T:=T) (k:=k) (by simpa using h)
  rw[List.length_cons,Rc,List.zip_cons_cons,kQ,jC,h1,h2]
  simp
theorem BS {n k i:Nat} (h:i<(gj n k).length):(gj n k)[i]=if k=i then 1 else 0:=by
 simp only[gj,List.getElem_set,List.getElem_replicate]
theorem c9.unit {T:List bt} {k:Nat} (h:k<T.length) (hT: ∀c∈T,bi c.1.2∧bX c):c9 T (T[k],gj T.length k):=by
 refine⟨(hT _ (List.getElem_mem h)).1,⟨(hT _ (List.getElem_mem h)).2,fun n hn=> ?_⟩,ST _ _,fun p hp=> ?_,(Fq (m:= .empty) h).1.symm,fun n=>(Fq h).2.symm,fun hq=> ?_⟩
 ·obtain⟨i,hi,rfl⟩:=List.mem_iff_getElem.1 hn
  simp only[BS]
  split<;>(unfold ay;omega)
 ·obtain⟨i,h1,h2,rfl⟩:=Cz hp
  refine⟨(hT _ (List.getElem_mem h1)).1,fun hh=> ?_⟩
  have:=hh.1
  simp only[BS]at this
  split at this<;>omega
 ·refine m0.2 fun p hp=> ?_
  obtain⟨i,h1,h2,rfl⟩:=Cz hp
  simp only[BS]
  by_cases e:k=i
  ·subst e
   exact .inl hq
  ·exact .inr (if_neg e)
theorem Xy {T:List bt} (hT: ∀c∈T,bi c.1.2∧bX c): ∀{k:Nat} {rows:List dq},(∀r∈rows,c9 T r)→rows.length≤256→k≤T.length→
  ((ku T.length k (T.drop k) rows).2=0∨(ku T.length k (T.drop k) rows).2=2)∧((ku T.length k (T.drop k) rows).2=0→(∀r∈(ku T.length k (T.drop k) rows).1,c9 T r)∧(ku T.length k (T.drop k) rows).1.length≤256):=by
 intro k
 generalize hd:T.length-k=d
 induction d generalizing k with
 |zero=>
  intro rows h hl hk
  rw[List.drop_eq_nil_of_le (by omega),ku]
  exact⟨.inl rfl,fun _=>⟨h,hl⟩⟩
 |succ d ih=>
  intro rows h hl hk
  have hlt:k<T.length:=by omega
  obtain⟨g1,g2,g3,g4⟩:=rV (d:=(T[k],gj T.length k)) hl
  rw[List.drop_eq_getElem_cons hlt,ku]
  split
  ·rename_i h0
   exact⟨.inr (g4.resolve_left h0),fun h=>absurd h h0⟩
  ·exact ih (by omega) (fun r hr=>(g3 r hr).elim (fun e=>e▸c9.unit hlt hT) (h r)) g1 (by omega)
def CN (l:List bt) (fuel:Int):Int:=if(bL l).2≠0 then(bL l).2 else if fuel<0∨1048576<fuel then 1 else 0
theorem Pf {l:List bt} {fuel:Int} (h64: ∀c∈l,bX c):
  (CN l fuel≠0→kK l fuel=([],false,CN l fuel))∧
  (CN l fuel=0→((kK l fuel).2.2≠0→ErF (kK l fuel).2.2∧(kK l fuel).1= []∧(kK l fuel).2.1=false)∧((kK l fuel).2.1=true→kH l (kK l fuel).1=0)∧((kK l fuel).2.1=false→(kK l fuel).1= [])):=by
 unfold kK CN
 by_cases h0:(bL l).2=0
 ·rw[if_neg (not_not_intro h0),if_neg (not_not_intro h0)]
  by_cases hf:fuel<0∨1048576<fuel
  ·rw[if_pos hf,if_pos hf]
   exact⟨fun _=>rfl,fun h=>absurd h (by decide)⟩
  ·rw[if_neg hf,if_neg hf]
   refine⟨fun h=>absurd rfl h,fun _=> ?_⟩
   have ht:bL l=((bL l).1,0):=Prod.ext rfl h0
   have hT:=B3 ht h64
   have hlen:=(o9 ht).1
   obtain⟨i1,i2⟩:=Xy hT (k:=0) (rows:= []) (by simp) (by simp) (Nat.zero_le _)
   rw[hlen,List.drop_zero]at i1 i2
   split
   ·rename_i h1
    exact⟨fun _=>⟨.inl (i1.resolve_left h1),rfl,rfl⟩,fun h=>(by cases h),fun _=>rfl⟩
   ·rename_i h1
    obtain⟨j1,j2⟩:=i2 (Classical.not_not.1 h1)
    exact Dt h0 j1 j2 (by omega)
 ·rw[if_pos h0,if_pos h0]
  exact⟨fun _=>rfl,fun h=>absurd h h0⟩
end
end Go.Proofs.YthbcbaembicdbaaGreatDoor
