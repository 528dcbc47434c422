/- Walks by the abstract machine: rows added with multipliers. Walks by the abstract machine: a row added to the system. -/
import Derived.Test.YthbcbaembicdbaaGreatDoorV07p
import Derived.Lib.SlicesCompact
set_option maxHeartbeats 4000000
set_option linter.unusedVariables false
set_option linter.unusedSimpArgs false
set_option maxRecDepth 1000000
namespace Go.Proofs.YthbcbaembicdbaaGreatDoor
open Go.Abs Go.RowKit
noncomputable section
abbrev jA (r:Nat) (rows:List dh) (fuel:Int) (F:List (Nat×aU)):List (Nat×aU):=(r,.arr 156 4 (rows.map dv))::(0,.var [.ref r,.pure (pI fuel)])::F
abbrev abd:AV:= .agg [.pure (pI 0),.nils,.pure (pB false),.nils]
abbrev SX (x:dh×Int):List AV:= [if x.2=0 then RT x.1 else abd,I x.2]
theorem MF {x y:Int} {l:List (Int×Int)} {k:Nat} (h:k<l.length) (hb:FH x y l[k]=false):jI x y (l.drop k)=none:=by
 rw[List.drop_eq_getElem_cons h,jI,hb]
 rfl
theorem NI {x y:Int} {l:List (Int×Int)} {k:Nat} (h:k<l.length) (hb:FH x y l[k]=true):jI x y (l.drop k)=(jI x y (l.drop (k+1))).map ((l[k].1*x+l[k].2*y):: ·):=by
 rw[List.drop_eq_getElem_cons h,jI,hb]
 rfl
theorem ovf {U V:Int} (hU:ar U) (hV:ar V) (h: ¬ar (U+V)):(U<0∧V<0∧ ¬IntKind.wrap .i64 (U+V)<0)∨(¬U<0∧ ¬V<0∧IntKind.wrap .i64 (U+V)<0):=by
 rw[IntKind.wrap_i64]
 unfold ar at*
 omega
theorem Al {x y:Int} {p:Int×Int}:FH x y p=true↔ar (p.1*x)∧ar (p.2*y)∧ar (p.1*x+p.2*y):=by simp[FH]
theorem nP {a b:dh} {x y fuel:Int} {r nx:Nat} {rows:List dh} {F:List (Nat×aU)} (ha:Lg a) (hb:Lg b) (hx:ar x) (hy:ar y) (hab:a.2.length=b.2.length) (hal:a.2.length≤1000000000)
  (hla:a.1.1.2.length≤400000000) (hlb:b.1.1.2.length≤400000000) (hf0:0≤fuel) (hf1:fuel≤2000000) (hr:0<r) (hrn:r<nx) (hF:Go.Abs.dO nx [0,r] F):
  aq Tryz.prog ms [.c (.ptr 0 0),RT a,RT b,I x,I y] (jA r rows fuel F) nx (eo (SX (fX fuel a b x y))) (jA r rows (fuel-1) F) nx:=by
 refine aq.ofZ uA (by simp) λ_=>aa ?_
 have pc:=jS (l:= [a.1,b.1]) (b:= [x,y]) (by simp;exact⟨ha.1,hb.1⟩) (by simp;exact⟨hx,hy⟩) (by simp[iH];omega)
 conv in mF=>cbv
 have ef:IntKind.wrap .i64 (fuel-1)=fuel-1:=wrap_i64 (by omega)
 by_cases h0:fuel≤0
 ·rw[fX,if_pos h0]
  repeat' first|simp(disch:=omega) only[go_sem,aG,aH,ef]|((with_reducible refine ab ?_ ?_)<;>intro h<;>try first|omega|simp(disch:=omega) only[go_sem, *,aG,aH,ef])
  refine⟨[], [], ?_⟩
  simp(disch:=omega) only[go_sem,aP,aG,aH,ef]
  refine av (by simp(disch:=omega) [aG]) ?_ rfl (by simp;try omega) (by simp[e7];try omega)
  repeat' first|exact hF.wkA|refine au ?_ ?_ ?_ ?_ ?_|(simp(disch:=omega) [aG]<;>omega)|omega
 ·rw[fX,if_neg h0]
  obtain⟨C,hC⟩: ∃C,C=aL [a.1,b.1] [x,y]:=⟨_,rfl⟩
  have hc64:=xv [a.1,b.1] [x,y]
  have hcl:=Cu a.1 b.1 x y
  rw[←hC]at pc hc64 hcl ⊢
  clear hC
  obtain⟨⟨⟨K,l⟩,q⟩,e⟩:=C
  by_cases he:e=0
  ·subst he
   rw[if_neg (by simp)]
   obtain⟨R,hR⟩: ∃R,R=(jI x y ((a.2.zip b.2).drop 0)).map (([]:List Int)++ ·):=⟨_,rfl⟩
   have hR0:jI x y (a.2.zip b.2)=R:=by rw[hR];simp
   rw[hR0]
   have HR:=Lib.hid hR
   clear hR hR0
   repeat' first|simp(disch:=omega) only[go_sem,aG,aH,ef]|((with_reducible refine ab ?_ ?_)<;>intro h<;>try first|omega|simp(disch:=omega) only[go_sem, *,aG,aH,ef])|(refine el pc rfl rfl ?_)
   refine dD (nx+4) 3 2 1 [.pure (pI K),.pure (aw l),.pure (pB q),.nils] (by simp[al]) rfl (by decide) ?_
   refine ap (λs:Nat×List Int=>⟨[(3,I x),(4,I y),(6,.c (.ptr nx 0)),(7,.c (.ptr (nx+1) 0)),(10,.c (.ptr (nx+2) 0)),(14,.c (.ptr (nx+4) 0)),(54,I a.2.length),(55,I s.1)],
    (nx,.var [.pure (pI a.1.1.1),.pure (aw a.1.1.2),.pure (pB a.1.2),.pure (mz a.2)])::(nx+1,.var [.pure (pI b.1.1.1),.pure (aw b.1.1.2),.pure (pB b.1.2),.pure (mz b.2)])::
    (nx+2,.var [.pure (pI 0),.nils,.pure (pB false),.nils])::(nx+4,.var [.pure (pI K),.pure (aw l),.pure (pB q),.ref (nx+5)])::(nx+5,.arr 2 1 (s.2.map λn=> [pI n]))::jA r rows (fuel-1) F,nx+6,nx⟩)
    (λs=>s.1≤a.2.length∧s.2.length≤s.1∧(∀n∈s.2,ar n)∧Hid (R=(jI x y ((a.2.zip b.2).drop s.1)).map (s.2++ ·))) (λs=>a.2.length-s.1) ⟨(0, []), [],⟨Nat.zero_le _,Nat.le_refl _,(by simp),HR⟩, ?_⟩ ?_
   ·refine av (by simp(disch:=omega) [aG]) ?_ rfl (by simp;try omega) (by simp[e7];try omega)
    repeat' first|exact hF.wkA|refine au ?_ ?_ ?_ ?_ ?_|(simp(disch:=omega) [aG]<;>omega)|omega
   rintro⟨j,acc⟩ ⟨hj,hacc,h64,HR⟩
   simp only at hj hacc h64 HR
   refine aa ?_
   by_cases hlt:j<a.2.length
   ·have hltb:j<b.2.length:=by omega
    have hz:j<(a.2.zip b.2).length:=by simp;omega
    have ez:(a.2.zip b.2)[j]=(a.2[j],b.2[j]):=List.getElem_zip
    have g1:=ai (f:= λn=> [pI n]) hlt
    have g2:=ai (f:= λn=> [pI n]) hltb
    have p1:=qY (ha.2 _ (List.getElem_mem hlt)) hx
    have p2:=qY (hb.2 _ (List.getElem_mem hltb)) hy
    have h2:=HR.out
    clear HR pc hab
    by_cases hs:FH x y (a.2[j],b.2[j])=true
    ·rw[NI hz (by rw[ez];exact hs),ez]at h2
     obtain⟨s1,s2,s3⟩:=Al.1 hs
     rw[decide_eq_true s1,wrap_i64 s1]at p1
     rw[decide_eq_true s2,wrap_i64 s2]at p2
     have ew:=wrap_i64 s3
     simp only at h2 ew s1 s2 s3
     clear hs ez hz
     generalize a.2[j]*x=P at*
     generalize b.2[j]*y=Q at*
     generalize a.2[j]=a0 at*
     generalize b.2[j]=b0 at*
     have HR:Hid (R=(jI x y ((a.2.zip b.2).drop (j+1))).map ((acc++ [P+Q])++ ·)):=Lib.hid (by
      rw[h2]
      cases jI x y ((a.2.zip b.2).drop (j+1))<;>simp)
     clear h2
     have hacc2:(acc.map λn=> [pI n]).length≤1000000000:=by simp;omega
     have h64': ∀n∈acc++ [P+Q],ar n:=by
      intro n hn
      rcases List.mem_append.1 hn with hn|hn
      ·exact h64 n hn
      ·rw[List.mem_singleton.1 hn];exact s3
     have hlen':(acc++ [P+Q]).length≤j+1:=by simp;omega
     have hmap:(acc++ [P+Q]).map (λn=> [pI n])=acc.map (λn=> [pI n])++ [[pI (P+Q)]]:=by simp
     clear h64
     generalize hD:acc.map (λn=> [pI n])=D at*
     have hsg:(P<0∧Q<0∧P+Q<0)∨(¬P<0∧ ¬Q<0∧ ¬P+Q<0)∨(P<0∧ ¬Q<0)∨(¬P<0∧Q<0):=by omega
     have hdl:=hF.del (n:=nx+5) (.inr (by omega))
     rcases hsg with⟨hu,hv,hw⟩|⟨hu,hv,hw⟩|⟨hu,hv⟩|⟨hu,hv⟩
     ·repeat' first|simp(disch:=omega) only[go_sem,g1,g2,aG,aH,hdl,ew,hu,hv,hw,wrap_i64]|((with_reducible refine ab ?_ ?_)<;>intro h<;>try first|omega|simp(disch:=omega) only[go_sem, *,g1,g2,aG,aH,hdl,ew,hu,hv,hw,wrap_i64])|(refine aY p1 rfl rfl ?_)|(refine aY p2 rfl rfl ?_)|(refine bf (by simp(disch:=omega) only[al,am,aG,eq_self,↓reduceIte,Option.map_some]<;>rfl) (by intro h;cases h) (aO rfl) (by simp;omega) (by simp;omega) ?_)
      refine⟨(j+1,acc++ [P+Q]), [(nx+5,nx+6)],⟨hlt,hlen',h64',HR⟩,by show _-_<_-_;omega, ?_⟩
      refine av (by simp(disch:=omega) [aG,hmap]) ?_ rfl (by simp;try omega) (by simp[e7];try omega)
      repeat' first|exact hF.wkA|refine au ?_ ?_ ?_ ?_ ?_|(simp(disch:=omega) [aG,hmap]<;>omega)|omega
     ·repeat' first|simp(disch:=omega) only[go_sem,g1,g2,aG,aH,hdl,ew,hu,hv,hw,wrap_i64]|((with_reducible refine ab ?_ ?_)<;>intro h<;>try first|omega|simp(disch:=omega) only[go_sem, *,g1,g2,aG,aH,hdl,ew,hu,hv,hw,wrap_i64])|(refine aY p1 rfl rfl ?_)|(refine aY p2 rfl rfl ?_)|(refine bf (by simp(disch:=omega) only[al,am,aG,eq_self,↓reduceIte,Option.map_some]<;>rfl) (by intro h;cases h) (aO rfl) (by simp;omega) (by simp;omega) ?_)
      refine⟨(j+1,acc++ [P+Q]), [(nx+5,nx+6)],⟨hlt,hlen',h64',HR⟩,by show _-_<_-_;omega, ?_⟩
      refine av (by simp(disch:=omega) [aG,hmap]) ?_ rfl (by simp;try omega) (by simp[e7];try omega)
      repeat' first|exact hF.wkA|refine au ?_ ?_ ?_ ?_ ?_|(simp(disch:=omega) [aG,hmap]<;>omega)|omega
     ·repeat' first|simp(disch:=omega) only[go_sem,g1,g2,aG,aH,hdl,ew,hu,hv,wrap_i64]|((with_reducible refine ab ?_ ?_)<;>intro h<;>try first|omega|simp(disch:=omega) only[go_sem, *,g1,g2,aG,aH,hdl,ew,hu,hv,wrap_i64])|(refine aY p1 rfl rfl ?_)|(refine aY p2 rfl rfl ?_)|(refine bf (by simp(disch:=omega) only[al,am,aG,eq_self,↓reduceIte,Option.map_some]<;>rfl) (by intro h;cases h) (aO rfl) (by simp;omega) (by simp;omega) ?_)
      refine⟨(j+1,acc++ [P+Q]), [(nx+5,nx+6)],⟨hlt,hlen',h64',HR⟩,by show _-_<_-_;omega, ?_⟩
      refine av (by simp(disch:=omega) [aG,hmap]) ?_ rfl (by simp;try omega) (by simp[e7];try omega)
      repeat' first|exact hF.wkA|refine au ?_ ?_ ?_ ?_ ?_|(simp(disch:=omega) [aG,hmap]<;>omega)|omega
     ·repeat' first|simp(disch:=omega) only[go_sem,g1,g2,aG,aH,hdl,ew,hu,hv,wrap_i64]|((with_reducible refine ab ?_ ?_)<;>intro h<;>try first|omega|simp(disch:=omega) only[go_sem, *,g1,g2,aG,aH,hdl,ew,hu,hv,wrap_i64])|(refine aY p1 rfl rfl ?_)|(refine aY p2 rfl rfl ?_)|(refine bf (by simp(disch:=omega) only[al,am,aG,eq_self,↓reduceIte,Option.map_some]<;>rfl) (by intro h;cases h) (aO rfl) (by simp;omega) (by simp;omega) ?_)
      refine⟨(j+1,acc++ [P+Q]), [(nx+5,nx+6)],⟨hlt,hlen',h64',HR⟩,by show _-_<_-_;omega, ?_⟩
      refine av (by simp(disch:=omega) [aG,hmap]) ?_ rfl (by simp;try omega) (by simp[e7];try omega)
      repeat' first|exact hF.wkA|refine au ?_ ?_ ?_ ?_ ?_|(simp(disch:=omega) [aG,hmap]<;>omega)|omega
    ·have hs0:FH x y (a.2[j],b.2[j])=false:=by simpa using hs
     rw[MF hz (by rw[ez];exact hs0)]at h2
     simp only[Option.map_none]at h2
     subst h2
     have hs': ¬(ar (a.2[j]*x)∧ar (b.2[j]*y)∧ar (a.2[j]*x+b.2[j]*y)):= λh=>hs (Al.2 h)
     clear hs hs0 ez hz h64
     by_cases s1:ar (a.2[j]*x)
     ·rw[decide_eq_true s1,wrap_i64 s1]at p1
      by_cases s2:ar (b.2[j]*y)
      ·rw[decide_eq_true s2,wrap_i64 s2]at p2
       have ov:=ovf s1 s2 (λh=>hs' ⟨s1,s2,h⟩)
       clear hs'
       generalize a.2[j]*x=P at*
       generalize b.2[j]*y=Q at*
       generalize a.2[j]=a0 at*
       generalize b.2[j]=b0 at*
       rcases ov with⟨hu,hv,hw⟩|⟨hu,hv,hw⟩
       ·repeat' first|simp(disch:=omega) only[go_sem,g1,g2,aG,aH,hu,hv,hw,wrap_i64]|((with_reducible refine ab ?_ ?_)<;>intro h<;>try first|omega|simp(disch:=omega) only[go_sem, *,g1,g2,aG,aH,hu,hv,hw,wrap_i64])|(refine aY p1 rfl rfl ?_)|(refine aY p2 rfl rfl ?_)
        refine⟨[], [], ?_⟩
        simp(disch:=omega) only[go_sem,aP,aG,aH]
        refine av (by simp(disch:=omega) [aG]) ?_ rfl (by simp;try omega) (by simp[e7];try omega)
        repeat' first|exact hF.wkA|refine au ?_ ?_ ?_ ?_ ?_|(simp(disch:=omega) [aG]<;>omega)|omega
       ·repeat' first|simp(disch:=omega) only[go_sem,g1,g2,aG,aH,hu,hv,hw,wrap_i64]|((with_reducible refine ab ?_ ?_)<;>intro h<;>try first|omega|simp(disch:=omega) only[go_sem, *,g1,g2,aG,aH,hu,hv,hw,wrap_i64])|(refine aY p1 rfl rfl ?_)|(refine aY p2 rfl rfl ?_)
        refine⟨[], [], ?_⟩
        simp(disch:=omega) only[go_sem,aP,aG,aH]
        refine av (by simp(disch:=omega) [aG]) ?_ rfl (by simp;try omega) (by simp[e7];try omega)
        repeat' first|exact hF.wkA|refine au ?_ ?_ ?_ ?_ ?_|(simp(disch:=omega) [aG]<;>omega)|omega
      ·rw[decide_eq_false s2]at p2
       clear hs'
       generalize a.2[j]*x=P at*
       generalize IntKind.wrap .i64 (b.2[j]*y)=Q at*
       generalize a.2[j]=a0 at*
       generalize b.2[j]=b0 at*
       repeat' first|simp(disch:=omega) only[go_sem,g1,g2,aG,aH,wrap_i64]|((with_reducible refine ab ?_ ?_)<;>intro h<;>try first|omega|simp(disch:=omega) only[go_sem, *,g1,g2,aG,aH,wrap_i64])|(refine aY p1 rfl rfl ?_)|(refine aY p2 rfl rfl ?_)
       all_goals
        refine⟨[], [], ?_⟩
        simp(disch:=omega) only[go_sem,aP,aG,aH]
        refine av (by simp(disch:=omega) [aG]) ?_ rfl (by simp;try omega) (by simp[e7];try omega)
        repeat' first|exact hF.wkA|refine au ?_ ?_ ?_ ?_ ?_|(simp(disch:=omega) [aG]<;>omega)|omega
     ·rw[decide_eq_false s1]at p1
      clear hs'
      generalize decide (ar (b.2[j]*y))=d2 at*
      generalize IntKind.wrap .i64 (a.2[j]*x)=P at*
      generalize IntKind.wrap .i64 (b.2[j]*y)=Q at*
      generalize a.2[j]=a0 at*
      generalize b.2[j]=b0 at*
      cases d2
      all_goals
       repeat' first|simp(disch:=omega) only[go_sem,g1,g2,aG,aH,wrap_i64]|((with_reducible refine ab ?_ ?_)<;>intro h<;>try first|omega|simp(disch:=omega) only[go_sem, *,g1,g2,aG,aH,wrap_i64])|(refine aY p1 rfl rfl ?_)|(refine aY p2 rfl rfl ?_)
       all_goals
        refine⟨[], [], ?_⟩
        simp(disch:=omega) only[go_sem,aP,aG,aH]
        refine av (by simp(disch:=omega) [aG]) ?_ rfl (by simp;try omega) (by simp[e7];try omega)
        repeat' first|exact hF.wkA|refine au ?_ ?_ ?_ ?_ ?_|(simp(disch:=omega) [aG]<;>omega)|omega
   ·have h2:=HR.out
    have hz:(a.2.zip b.2).length≤j:=by simp;omega
    rw[List.drop_eq_nil_of_le hz,jI]at h2
    simp only[Option.map_some,List.append_nil]at h2
    subst h2
    clear HR hz
    have hrow:Lg (((K,l),q),acc):=⟨hc64,h64⟩
    have pr:=Au (d:=(((K,l),q),acc)) hrow (by simp only at hcl ⊢;omega) (by simp only;omega)
    have hfz:=hF.frz (n:=nx+5) (rows:=acc.map λn=> [pI n]) (.inr (by omega))
    clear pc
    repeat' first|simp(disch:=omega) only[go_sem,aG,aH]|((with_reducible refine ab ?_ ?_)<;>intro h<;>try first|omega|simp(disch:=omega) only[go_sem, *,aG,aH])|(refine K7 (nx+5) 2 1 (acc.map λn=> [pI n]) pr (by simp(disch:=omega) only[al,am,aG,eq_self,↓reduceIte,Option.map_some]<;>rfl) (by simp[vJ,jp,aV,ct,wS,cU,cG]) (.inr (by simp[vJ,jp,fh,yx,jQ])) ?_)
    refine⟨[], [], ?_⟩
    simp(disch:=omega) only[go_sem,aP,aG,aH,hfz]
    refine av (by simp(disch:=omega) [aG]) ?_ rfl (by simp;try omega) (by simp[e7];try omega)
    repeat' first|exact hF.wkA|refine au ?_ ?_ ?_ ?_ ?_|(simp(disch:=omega) [aG]<;>omega)|omega
  ·rw[if_pos he]
   repeat' first|simp(disch:=omega) only[go_sem,aG,aH,ef,he]|((with_reducible refine ab ?_ ?_)<;>intro h<;>try first|omega|simp(disch:=omega) only[go_sem, *,aG,aH,ef,he])|(refine el pc rfl rfl ?_)
   refine⟨[], [], ?_⟩
   simp(disch:=omega) only[go_sem,aP,aG,aH,ef]
   refine av (by simp(disch:=omega) [aG,he]) ?_ rfl (by simp;try omega) (by simp[e7];try omega)
   repeat' first|exact hF.wkA|refine au ?_ ?_ ?_ ?_ ?_|(simp(disch:=omega) [aG,he]<;>omega)|omega
theorem nE (a b:List aD):af Tryz.prog eN [.c (.pure (aw a)),.c (.pure (aw b))] (Go.Abs.B (decide (a=b))):=by
 refine af.of jn (by simp) λhb=>aa ?_
 have hba:a.length≤9223372036854775807:=by have:=hb.1;simpa[iI,jt]using this
 simp only[eP]
 by_cases hl:a.length=b.length
 ·have hli:(a.length:Int)=(b.length:Int):=by omega
  obtain⟨R,hR⟩: ∃R,R=decide (a=b):=⟨_,rfl⟩
  rw[←hR]
  have HR:=Lib.hid hR
  clear hR
  have HL:=Lib.hid hl
  clear hl
  repeat' first|simp(disch:=omega) only[go_sem, *,hli]|((with_reducible apply ab)<;>intro h<;>try omega)
  refine ap (λk:Nat=>⟨[(0,.c (.pure (aw a))),(1,.c (.pure (aw b))),(12,I b.length),(13,I k)], [],0,0⟩) (λk=>k≤b.length∧Hid (a.take k=b.take k)) (λk=>b.length-k) ⟨0, [],⟨Nat.zero_le _,Lib.hid rfl⟩,by simp⟩ ?_
  clear hli
  rintro k ⟨hk,HT⟩
  refine aa ?_
  have hl:=HL.out
  by_cases hlt:k<b.length
  ·have hlta:k<a.length:=by omega
   have g1:=ai (f:=mP) hlta
   have g2:=ai (f:=mP) hlt
   by_cases he:a[k]=b[k]
   ·have HT':Hid (a.take (k+1)=b.take (k+1)):=Lib.hid (by rw[List.take_succ_eq_append_getElem hlta,List.take_succ_eq_append_getElem hlt,HT.out,he])
    rw[he]at g1
    clear HT he hl
    generalize b[k]=m at*
    obtain⟨n,x⟩:=m
    simp only[mP]at g1 g2
    repeat' first|simp(disch:=omega) only[go_sem, *,g1,g2,yt,Ga,and_self,YX,wrap_i64]|((with_reducible apply ab)<;>intro h<;>try omega)
    exact⟨k+1, [],⟨hlt,HT'⟩,by omega,by simp⟩
   ·have hR:R=false:=by
     rw[HR.out]
     exact decide_eq_false λh=>he (by subst h;rfl)
    subst hR
    have hne: ¬(a[k].1=b[k].1∧a[k].2=b[k].2):= λh=>he (Prod.ext h.1 h.2)
    clear HT he hl HR HL
    generalize a[k]=m at*
    generalize b[k]=m' at*
    obtain⟨n,x⟩:=m
    obtain⟨n',x'⟩:=m'
    simp only[mP]at g1 g2 hne
    repeat' first|simp(disch:=omega) only[go_sem, *,g1,g2,yt,Ga,and_true,hne,Y6,wrap_i64]|((with_reducible apply ab)<;>intro h<;>try omega)
    all_goals rfl
  ·have hR:R=true:=by
    rw[HR.out]
    have h:=HT.out
    rw[List.take_of_length_le (by omega),List.take_of_length_le (by omega)]at h
    exact decide_eq_true h
   subst hR
   clear HT HL HR hl
   repeat' first|simp(disch:=omega) only[go_sem, *]|((with_reducible apply ab)<;>intro h<;>try omega)
   all_goals rfl
 ·have e:decide (a=b)=false:=decide_eq_false λh=>hl (by rw[h])
  rw[e]
  have hli: ¬(a.length:Int)=(b.length:Int):=by omega
  repeat' first|simp(disch:=omega) only[go_sem, *,hli]|((with_reducible apply ab)<;>intro h<;>try omega)
  all_goals rfl
theorem WY {rows:List dh} {d:dh} {k:Nat} (h:k<rows.length):(rows.map dv).set k (dv d)=(rows.take k++d::rows.drop (k+1)).map dv:=by
 rw[←List.map_set,List.set_eq_take_append_cons_drop,if_pos h]
theorem Tk {rows:List dh} {k:Nat} (h:k<rows.length):rows.take k++rows[k]::rows.drop (k+1)=rows:=by
 rw[←List.drop_eq_getElem_cons h,List.take_append_drop]
theorem RN {rows:List dh} {d:dh} {k:Nat} (h:k<rows.length):(xL d (rows.drop k)).map (rows.take k++ ·)=
  if Jc rows[k] d then some (rows.take k++(if d.1.1.1<rows[k].1.1.1 then d else rows[k])::rows.drop (k+1))else(xL d (rows.drop (k+1))).map (rows.take (k+1)++ ·):=by
 rw[List.drop_eq_getElem_cons h,xL]
 split
 ·rfl
 ·rw[List.take_succ_eq_append_getElem h]
  cases xL d (rows.drop (k+1))with
  |none=>rfl
  |some x=>
   show some (_++_::x)=some ((_++ [_])++x)
   rw[List.append_assoc]
   rfl
theorem jM {d:dh} {fuel:Int} {r nx:Nat} {rows:List dh} {F:List (Nat×aU)} (hrl:rows.length≤256) (hr:0<r) (hrn:r<nx) (hF:Go.Abs.dO nx [0,r] F):
  aq Tryz.prog jq [.c (.ptr 0 0),RT d] (jA r rows fuel F) nx (eo [I (dN rows d).2]) (jA nx (dN rows d).1 fuel F) (nx+1):=by
 refine aq.ofZ x8 (by simp) λ_=>aa ?_
 have pc:=fw d.1
 have hdl:=hF.del (n:=r) (.inl (by simp))
 obtain⟨⟨⟨K,l⟩,q⟩,by'⟩:=d
 conv in oD=>cbv
 unfold dN
 simp only at pc ⊢
 by_cases h0:l= []∧ ¬ig ((K,l),q)
 ·rw[if_pos h0]
  obtain⟨rfl,hb⟩:=h0
  rw[decide_eq_false hb]at pc
  clear hb
  repeat' first|simp(disch:=omega) only[go_sem, *,aG,aH]|((with_reducible apply ab)<;>intro h<;>try omega)|(refine aY pc rfl rfl ?_)
  refine⟨[], [(nx,r)], ?_⟩
  simp(disch:=omega) only[go_sem,aP,aG,aH]
  refine av (by simp(disch:=omega) [aG]) ?_ rfl (by simp;try omega) (by simp[e7];try omega)
  repeat' first|exact hF.wkA|refine au ?_ ?_ ?_ ?_ ?_|(simp(disch:=omega) [aG]<;>omega)|omega
 ·rw[if_neg h0]
  obtain⟨R,hR⟩: ∃R,R=(xL (((K,l),q),by') (rows.drop 0)).map (rows.take 0++ ·):=⟨_,rfl⟩
  have hR0:xL (((K,l),q),by') rows=R:=by rw[hR];simp
  rw[hR0]
  have HR:=Lib.hid hR
  clear hR hR0
  obtain⟨bb,hbb⟩: ∃bb,bb=decide (ig ((K,l),q)):=⟨_,rfl⟩
  rw[←hbb]at pc
  have hcond:(((l.length:Nat):Int)=0∧bb=true)∨ ¬((l.length:Nat):Int)=0:=by
   by_cases hl:l.length=0
   ·exact .inl ⟨by omega,by rw[hbb];exact decide_eq_true (Classical.byContradiction λh=>h0 ⟨List.eq_nil_of_length_eq_zero hl,h⟩)⟩
   ·exact .inr (by omega)
  clear h0 hbb
  rcases hcond with⟨hll,rfl⟩|hll
  all_goals
   repeat' first|simp(disch:=omega) only[go_sem, *,aG,aH,hll]|((with_reducible apply ab)<;>intro h<;>try omega)|(refine aY pc rfl rfl ?_)
   clear hll pc
   refine ap (λk:Nat=>⟨[(0,.c (.ptr 0 0)),(3,.c (.ptr nx 0)),(5,.c (.ptr (nx+1) 0)),(23,.c (.ref r)),(24,I rows.length),(25,I k)],
    (nx,.var [.pure (pI K),.pure (aw l),.pure (pB q),.pure (mz by')])::(nx+1,.var [.pure (pI K),.pure (aw l),.pure (pB q)])::jA r rows fuel F,nx+2,nx⟩)
    (λk=>k≤rows.length∧Hid (R=(xL (((K,l),q),by') (rows.drop k)).map (rows.take k++ ·))) (λk=>rows.length-k) ⟨0, [],⟨Nat.zero_le _,HR⟩, ?_⟩ ?_
   ·have hr2:r<nx+2:=by omega
    refine av (by simp(disch:=omega) [aG,hr2]) ?_ rfl (by simp;try omega) (by simp[e7];try omega)
    repeat' first|exact hF.wkA|refine au ?_ ?_ ?_ ?_ ?_|(simp(disch:=omega) [aG,hr2]<;>omega)|omega
   clear HR
   rintro k ⟨hk,HR⟩
   refine aa ?_
   by_cases hlt:k<rows.length
   ·have g1:=ai (f:=dv) hlt
    have h2:=HR.out
    rw[RN hlt]at h2
    have hset:=WY (d:=(((K,l),q),by')) hlt
    have htk:=Tk hlt
    clear HR
    generalize hz:rows[k]=z at*
    have htk':rows.take k++z::rows.drop (k+1)=rows:=htk
    obtain⟨⟨⟨K',l'⟩,q'⟩,b'⟩:=z
    simp only[dv]at g1 hset
    have pe:=nE l' l
    by_cases hs:Jc (((K',l'),q'),b') (((K,l),q),by')
    ·rw[if_pos hs]at h2
     obtain⟨hs1,hs2,hs3⟩:=hs
     simp only at hs1 hs2 hs3 h2
     subst hs1
     subst hs2
     rw[decide_eq_true rfl]at pe
     clear hz htk
     by_cases hK:K<K'
     ·rw[if_pos hK]at h2
      subst h2
      have hq:q'=false:=hs3.resolve_right (by omega)
      subst hq
      clear hs3
      repeat' first|simp(disch:=omega) only[go_sem, *,g1,aG,aH,hK]|((with_reducible apply ab)<;>intro h<;>try omega)|(refine aY pe rfl rfl ?_)
      refine⟨[], [(nx,r)], ?_⟩
      simp(disch:=omega) only[go_sem,aP,aG,aH]
      refine av (by simp(disch:=omega) [aG,hset]) ?_ rfl (by simp;try omega) (by simp[e7];try omega)
      repeat' first|exact hF.wkA|refine au ?_ ?_ ?_ ?_ ?_|(simp(disch:=omega) [aG,hset]<;>omega)|omega
     ·rw[if_neg hK,htk']at h2
      subst h2
      clear hset
      have hcq:q'=false∨(q'=true∧K'=K):=by cases q'<;>simp_all
      clear hs3
      rcases hcq with rfl|⟨rfl,rfl⟩
      ·repeat' first|simp(disch:=omega) only[go_sem, *,g1,aG,aH,hK]|((with_reducible apply ab)<;>intro h<;>try omega)|(refine aY pe rfl rfl ?_)
       refine⟨[], [(nx,r)], ?_⟩
       simp(disch:=omega) only[go_sem,aP,aG,aH]
       refine av (by simp(disch:=omega) [aG]) ?_ rfl (by simp;try omega) (by simp[e7];try omega)
       repeat' first|exact hF.wkA|refine au ?_ ?_ ?_ ?_ ?_|(simp(disch:=omega) [aG]<;>omega)|omega
      ·repeat' first|simp(disch:=omega) only[go_sem, *,g1,aG,aH,hK]|((with_reducible apply ab)<;>intro h<;>try omega)|(refine aY pe rfl rfl ?_)
       refine⟨[], [(nx,r)], ?_⟩
       simp(disch:=omega) only[go_sem,aP,aG,aH]
       refine av (by simp(disch:=omega) [aG]) ?_ rfl (by simp;try omega) (by simp[e7];try omega)
       repeat' first|exact hF.wkA|refine au ?_ ?_ ?_ ?_ ?_|(simp(disch:=omega) [aG]<;>omega)|omega
    ·rw[if_neg hs]at h2
     have HR:=Lib.hid h2
     have hs': ¬(q'=q∧l'=l∧(q=false∨K'=K)):=hs
     clear h2 hs hset htk hz
     have hr2:r<nx+2:=by omega
     by_cases hq:q'=q
     ·subst hq
      by_cases hl:l'=l
      ·subst hl
       rw[decide_eq_true rfl]at pe
       have hK: ¬K'=K:= λh=>hs' ⟨rfl,rfl,.inr h⟩
       have hq:q'=true:=by
        cases q'
        ·exact absurd ⟨rfl,rfl,.inl rfl⟩ hs'
        ·rfl
       subst hq
       clear hs'
       repeat' first|simp(disch:=omega) only[go_sem, *,g1,aG,aH,hK,wrap_i64]|((with_reducible apply ab)<;>intro h<;>try omega)|(refine aY pe rfl rfl ?_)
       refine⟨k+1, [],⟨hlt,HR⟩,by omega, ?_⟩
       refine av (by simp(disch:=omega) [aG,hr2]) ?_ rfl (by simp;try omega) (by simp[e7];try omega)
       repeat' first|exact hF.wkA|refine au ?_ ?_ ?_ ?_ ?_|(simp(disch:=omega) [aG,hr2]<;>omega)|omega
      ·rw[decide_eq_false hl]at pe
       clear hs' hl
       cases q'
       all_goals
        repeat' first|simp(disch:=omega) only[go_sem, *,g1,aG,aH,wrap_i64]|((with_reducible apply ab)<;>intro h<;>try omega)|(refine aY pe rfl rfl ?_)
        refine⟨k+1, [],⟨hlt,HR⟩,by omega, ?_⟩
        refine av (by simp(disch:=omega) [aG,hr2]) ?_ rfl (by simp;try omega) (by simp[e7];try omega)
        repeat' first|exact hF.wkA|refine au ?_ ?_ ?_ ?_ ?_|(simp(disch:=omega) [aG,hr2]<;>omega)|omega
     ·clear hs' pe
      cases q
      all_goals
       cases q'
       all_goals
        first
        |exact absurd rfl hq
        |clear hq
       all_goals
        repeat' first|simp(disch:=omega) only[go_sem, *,g1,aG,aH,wrap_i64]|((with_reducible apply ab)<;>intro h<;>try omega)
        refine⟨k+1, [],⟨hlt,HR⟩,by omega, ?_⟩
        refine av (by simp(disch:=omega) [aG,hr2]) ?_ rfl (by simp;try omega) (by simp[e7];try omega)
        repeat' first|exact hF.wkA|refine au ?_ ?_ ?_ ?_ ?_|(simp(disch:=omega) [aG,hr2]<;>omega)|omega
   ·have h2:=HR.out
    rw[List.drop_eq_nil_of_le (by omega),xL]at h2
    simp only[Option.map_none]at h2
    subst h2
    clear HR
    by_cases hfull:256≤rows.length
    ·rw[if_pos hfull]
     repeat' first|simp(disch:=omega) only[go_sem, *,aG,aH]|((with_reducible apply ab)<;>intro h<;>try omega)
     refine⟨[], [(nx,r)], ?_⟩
     simp(disch:=omega) only[go_sem,aP,aG,aH]
     refine av (by simp(disch:=omega) [aG]) ?_ rfl (by simp;try omega) (by simp[e7];try omega)
     repeat' first|exact hF.wkA|refine au ?_ ?_ ?_ ?_ ?_|(simp(disch:=omega) [aG]<;>omega)|omega
    ·rw[if_neg hfull]
     repeat' first|simp(disch:=omega) only[go_sem, *,aG,aH,hdl]|((with_reducible apply ab)<;>intro h<;>try omega)|(refine bf (by simp(disch:=omega) only[al,am,aG,eq_self,↓reduceIte,Option.map_some]<;>rfl) (by intro h;cases h) (aO rfl) (by simp;omega) (by simp;omega) ?_)
     refine⟨[], [(nx,nx+2)], ?_⟩
     simp(disch:=omega) only[go_sem,aP,aG,aH,hdl]
     refine av (by simp(disch:=omega) [aG]) ?_ rfl (by simp;try omega) (by simp[e7];try omega)
     repeat' first|exact hF.wkA|refine au ?_ ?_ ?_ ?_ ?_|(simp(disch:=omega) [aG]<;>omega)|omega
def kH:List (aR×Int)→Int
 | []=>0
 |p::r=>p.1.1.1*p.2+kH r
def jv (n:ByteArray):List (aR×Int)→Int
 | []=>0
 |p::r=>cf p.1.1.2 n*p.2+jv n r
theorem D6: ∀{l:List (aR×Int)} {out:bU} {eq:Bool} {c:aR},gV out eq l=(c,0)→bn out.2→(∀p∈l,bn p.1.1.2)→
  bn c.1.2∧c.1.1=out.1+kH l∧(∀n,cf c.1.2 n=cf out.2 n+jv n l)∧c.2=(eq&&Ud l)
 |[],out,eq,c,h,ho,_=>by
  rw[gV]at h
  cases h
  exact⟨ho,by simp[kH],λn=>by simp[jv],by simp[Ud]⟩
 |p::r,out,eq,c,h,ho,hl=>by
  rw[gV]at h
  split at h
  ·cases h
  ·have hp:=hl p List.mem_cons_self
   obtain⟨h1,h2,h3,h4⟩:=D6 h (Oy ho (As hp)) λq hq=>hl q (List.mem_cons_of_mem _ hq)
   refine⟨h1, ?_,λn=> ?_, ?_⟩
   ·rw[h2,kH]
    show out.1+(de p.1.1 p.2).1+kH r=_
    rw[Np]
    omega
   ·rw[h3,jv,Wr (cp.1 ho).1 (cp.1 (As hp)).1,RL]
    omega
   ·rw[h4]
    simp[Ud,Bool.and_assoc]
theorem H8: ∀{l:List (aR×Int)} {out:bU} {eq:Bool},(gV out eq l).2=0∨gV out eq l=(wD,3)
 | [],out,eq=> .inl rfl
 |p::r,out,eq=>by
  rw[gV]
  split
  ·exact .inr rfl
  ·exact H8
theorem iA {l:List aR} {b:List Int} {c:aR} (h:aL l b=(c,0)):
  l.length=b.length∧(∀p∈l.zip b,VZ p)∧bn c.1.2∧c.1.1=kH (l.zip b)∧(∀n,cf c.1.2 n=jv n (l.zip b))∧c.2=Ud (l.zip b):=by
 rw[aL]at h
 split at h
 ·cases h
 ·rename_i h1
  split at h
  ·cases h
  ·rename_i h2
   have hok: ∀p∈l.zip b,VZ p:= λp hp=>JE.1 λhb=>h2 ⟨p,hp,hb⟩
   obtain⟨g1,g2,g3,g4⟩:=D6 h (λi hi=>by simp at hi) λp hp=>(hok p hp).1
   exact⟨Classical.not_not.1 h1,hok,g1,by rw[g2];simp,λn=>by rw[g3];simp[cf],by rw[g4];simp⟩
theorem u7 {l:List aR} {b:List Int} (hl:l.length=b.length) (hb: ∀p∈l.zip b,VZ p):(aL l b).2=0∨aL l b=(wD,3):=by
 rw[aL,if_neg (not_not_intro hl),if_neg (by rintro⟨p,hp,h⟩;exact JE.2 (hb p hp) h)]
 exact H8
def ev (x:ByteArray→Rat):List aD→Rat
 | []=>0
 |m::r=>(m.2:Rat)*x m.1+ev x r
def val (x:ByteArray→Rat) (a:bU):Rat:=(a.1:Rat)+ev x a.2
def holds (x:ByteArray→Rat) (c:aR):Prop:=0≤val x c.1∧(c.2=true→val x c.1=0)
theorem VL {x:ByteArray→Rat} {f:Int→Int} {k:Rat} (h: ∀n:Int,((f n:Int):Rat)=(n:Rat)*k): ∀{l:List aD},ev x (l.map λm=>(m.1,f m.2))=ev x l*k
 | []=>by simp[ev,Rat.zero_mul]
 |m::r=>by
  rw[List.map_cons,ev,ev,VL h,h]
  grind
theorem O5 {x:ByteArray→Rat}: ∀{T:List TO},ev x (vc T)=ev x (T.map λt=>(t.1,t.2.1))+ev x (T.map λt=>(t.1,t.2.2))
 | []=>by simp[ev,vc,Rat.add_zero]
 |t::T=>by
  have ih:=O5 (x:=x) (T:=T)
  rw[List.map_cons,List.map_cons,ev,ev]
  simp only[vc,List.filterMap_cons]at ih ⊢
  by_cases h:t.2.1+t.2.2=0
  ·have:(t.2.1:Rat)+(t.2.2:Rat)=0:=by rw[←Rat.intCast_add,h];rfl
   simp only[h,if_true]
   rw[ih]
   grind
  ·simp only[h,if_false]
   rw[ev,ih]
   simp only[Rat.intCast_add]
   grind
theorem JO {x:ByteArray→Rat} {α:Type} {f:α→ByteArray}: ∀{l:List α},ev x (l.map λm=>(f m,(0:Int)))=0
 | []=>rfl
 |m::r=>by rw[List.map_cons,ev,JO];simp[Rat.zero_mul,Rat.add_zero]
theorem zD {x:ByteArray→Rat}: ∀(a b:List aD),ev x ((bJ a b).map λt=>(t.1,t.2.1))=ev x a∧ev x ((bJ a b).map λt=>(t.1,t.2.2))=ev x b
 |[],b=>by
  rw[kA,List.map_map,List.map_map]
  exact⟨JO,by simp[Function.comp_def]⟩
 |y::a, []=>by
  rw[kV,List.map_map,List.map_map]
  exact⟨by simp[Function.comp_def],JO⟩
 |y::a,z::b=>by
  rw[oV]
  split
  ·obtain⟨h1,h2⟩:=zD (x:=x) a (z::b)
   simp only[List.map_cons,ev]at*
   rw[h1,h2]
   simp[Rat.zero_mul,Rat.zero_add]
  ·split
   ·obtain⟨h1,h2⟩:=zD (x:=x) (y::a) b
    simp only[List.map_cons,ev]at*
    rw[h1,h2]
    simp[Rat.zero_mul,Rat.zero_add]
   ·rename_i g1 g2
    obtain⟨h1,h2⟩:=zD (x:=x) a b
    have e:y.1=z.1:=by
     rcases HO y.1 z.1 with h|h|h
     ·exact absurd h g1
     ·exact h
     ·exact absurd h g2
    simp only[List.map_cons,ev]at*
    rw[h1,h2,e]
    exact⟨rfl,rfl⟩
termination_by a b=>a.length+b.length
theorem P4 {x:ByteArray→Rat} (a b:bU):val x (tb a b)=val x a+val x b:=by
 obtain⟨h1,h2⟩:=zD (x:=x) a.2 b.2
 simp only[val,tb,O5,h1,h2,Rat.intCast_add]
 grind
theorem Hr {x:ByteArray→Rat} (a:bU) (b:Int):val x (de a b)=val x a*(b:Rat):=by
 rw[de]
 split
 ·rename_i h
  subst h
  simp[val,ev,Rat.add_zero]
 ·have:=VL (x:=x) (f:= λn=>n*b) (k:=(b:Rat)) (λn=>Rat.intCast_mul n b) (l:=a.2)
  simp only[val,this,Rat.intCast_mul]
  grind
def GR (x:ByteArray→Rat):List (aR×Int)→Rat
 | []=>0
 |p::r=>val x p.1.1*(p.2:Rat)+GR x r
theorem Hw {x:ByteArray→Rat}: ∀{l:List (aR×Int)} {out:bU} {eq:Bool} {c:aR},gV out eq l=(c,0)→val x c.1=val x out+GR x l
 |[],out,eq,c,h=>by
  rw[gV]at h
  cases h
  simp[GR,Rat.add_zero]
 |p::r,out,eq,c,h=>by
  rw[gV]at h
  split at h
  ·cases h
  ·rw[Hw h,P4,Hr,GR]
   grind
theorem Ew {x:ByteArray→Rat} {l:List aR} {b:List Int} {c:aR} (h:aL l b=(c,0)):val x c.1=GR x (l.zip b):=by
 rw[aL]at h
 split at h
 ·cases h
 ·split at h
  ·cases h
  ·rw[Hw h]
   simp[val,ev,Rat.add_zero,Rat.zero_add]
theorem Bo {x:ByteArray→Rat}: ∀{l:List (aR×Int)},(∀p∈l,VZ p)→(∀p∈l,holds x p.1)→0≤GR x l∧(Ud l=true→GR x l=0)
 | [],_,_=>by simp[GR]
 |p::r,h1,h2=>by
  obtain⟨i1,i2⟩:=Bo (x:=x) (λq hq=>h1 q (List.mem_cons_of_mem _ hq)) (λq hq=>h2 q (List.mem_cons_of_mem _ hq))
  have hp:=h1 p List.mem_cons_self
  obtain⟨k1,k2⟩:=h2 p List.mem_cons_self
  have hpn:0≤val x p.1.1*(p.2:Rat):=by
   by_cases hq:p.1.2=true
   ·rw[k2 hq];simp[Rat.zero_mul]
   ·refine Rat.mul_nonneg k1 ?_
    have: ¬p.2<0:= λh=>hp.2 ⟨h,by simpa using hq⟩
    exact Rat.intCast_nonneg.2 (by omega)
  refine⟨by rw[GR];grind,λhe=> ?_⟩
  have he:(p.1.2||decide (p.2=0))=true∧Ud r=true:=by simpa[Ud]using he
  rw[GR,i2 he.2]
  rcases Bool.or_eq_true_iff.1 he.1 with h|h
  ·rw[k2 h];simp[Rat.zero_mul,Rat.add_zero]
  ·rw[of_decide_eq_true h];simp[Rat.mul_zero,Rat.add_zero]
theorem Bm {x:ByteArray→Rat} {l:List aR} {b:List Int} {c:aR} (h:aL l b=(c,0)) (hl: ∀d∈l,holds x d):holds x c:=by
 obtain⟨h1,h2,h3,h4,h5,h6⟩:=iA h
 obtain⟨g1,g2⟩:=Bo h2 (λp hp=>hl p.1 (List.of_mem_zip hp).1)
 rw[←Ew h]at g1 g2
 exact⟨g1,λe=>g2 (by rw[←h6];exact e)⟩
theorem NZ {x:ByteArray→Rat} {c:aR} (h:ig c): ¬holds x c:=by
 obtain⟨⟨k,l⟩,q⟩:=c
 obtain⟨h1,h2⟩:=h
 simp only at h1 h2
 subst h1
 rintro⟨g1,g2⟩
 simp only[val,ev,Rat.add_zero]at g1 g2
 rcases h2 with h2|⟨h2,h3⟩
 ·have:=Rat.intCast_nonneg.1 g1
  omega
 ·exact h3 (by have:=g2 h2;exact_mod_cast this)
def xq (x:ByteArray→Int):List aD→Int
 | []=>0
 |m::r=>m.2*x m.1+xq x r
abbrev lR (x:ByteArray→Int):ByteArray→Rat:= λn=>(x n:Rat)
theorem Py {x:ByteArray→Int}: ∀{l:List aD},ev (lR x) l=(xq x l:Rat)
 | []=>rfl
 |m::r=>by
  rw[ev,xq,Py,Rat.intCast_add,Rat.intCast_mul]
theorem qZ {x:ByteArray→Int} {a:bU}:val (lR x) a=((a.1+xq x a.2:Int):Rat):=by rw[val,Py,Rat.intCast_add]
theorem eU {x:ByteArray→Int} {c:aR}:holds (lR x) c↔0≤c.1.1+xq x c.1.2∧(c.2=true→c.1.1+xq x c.1.2=0):=by
 rw[holds,qZ,Rat.intCast_nonneg]
 constructor
 ·rintro⟨h1,h2⟩
  exact⟨h1,λe=>by have:=h2 e;exact_mod_cast this⟩
 ·rintro⟨h1,h2⟩
  exact⟨h1,λe=>by rw[h2 e];rfl⟩
theorem Pi {x:ByteArray→Int} {g:Nat}: ∀{l:List aD},(∀m∈l,(g:Int)∣m.2)→xq x l=g*xq x (fA g l)
 | [],_=>by simp[xq,fA]
 |m::r,h=>by
  have h1:=Int.mul_ediv_cancel' (h m List.mem_cons_self)
  have h2:=Pi (x:=x) (λq hq=>h q (List.mem_cons_of_mem _ hq))
  rw[xq,h2]
  show _=(g:Int)*(m.2/(g:Int)*x m.1+xq x (fA g r))
  rw[Int.mul_add,←Int.mul_assoc,h1]
theorem JF {x:ByteArray→Int}: ∀{l:List aD},xq x (l.map λm=>(m.1,-m.2))= -xq x l
 | []=>rfl
 |m::r=>by
  rw[List.map_cons,xq,xq,JF]
  show-m.2*x m.1+_=_
  rw[Int.neg_mul]
  omega
theorem Lq {x:ByteArray→Int} {c:aR} (h:holds (lR x) c) (he:(fi c).2.2=0):holds (lR x) (fi c).1:=by
 rw[eU]at h ⊢
 obtain⟨⟨K,l⟩,q⟩:=c
 simp only at h
 obtain⟨h1,h2⟩:=h
 unfold fi at he ⊢
 simp only at he ⊢
 split at he
 ·cases he
 ·rename_i hok
  rw[if_neg hok]
  have hok:=cp.1 (Classical.not_not.1 hok)
  by_cases hl:l= []
  ·subst hl
   simp only[xq,Int.add_zero]at h1 h2
   rw[if_pos rfl,if_pos (by
    by_cases hq:q=true
    ·exact .inl (h2 hq)
    ·by_cases h0:K=0
     ·exact .inl h0
     ·exact .inr ⟨by omega,by simpa using hq⟩)]
   simp[wD,xq]
  ·rw[if_neg hl]at he ⊢
   have hg:=Fi hl (λm hm=>(hok.2 m hm).2)
   have hdv: ∀m∈l,((gh l:Nat):Int)∣m.2:= λm hm=>Am hm
   have e1:=Pi (x:=x) hdv
   generalize gh l=g at*
   generalize hE:xq x (fA g l)=E at*
   rw[e1]at h1 h2
   have hG:(0:Int)<(g:Int):=by omega
   have hfl:(K+g*E)/(g:Int)=K/g+E:=Int.add_mul_ediv_left _ _ (by omega)
   have hdq:q=true→(g:Int)∣K:= λhq=>⟨-E,by have:=h2 hq;rw[Int.mul_neg];omega⟩
   have hm0:q=true→K.natAbs%g=0:= λhq=>by
    have:=hdq hq
    exact Nat.mod_eq_zero_of_dvd (Int.ofNat_dvd_left.1 this)
   rw[if_neg (by rintro⟨a,b⟩;exact b (hm0 a))]at he ⊢
   have hv:0≤K/(g:Int)+E:=by rw[←hfl];exact Int.ediv_nonneg h1 (by omega)
   have hz:q=true→K/(g:Int)+E=0:= λhq=>by rw[←hfl,h2 hq];simp
   split at he
   ·rename_i hh
    rw[if_pos hh]
    split at he
    ·rename_i hb
     rw[if_pos hb]
     simp only[JF,hE]
     have:=hz hh.1
     exact⟨by omega,λ_=>by omega⟩
    ·cases he
   ·rename_i hh
    rw[if_neg hh]
    simp only[hE]
    exact⟨hv,hz⟩
theorem BJ: ∀{l acc:List aR} {t:List aR},kD acc l=(t,0)→ ∃r,t=acc++r∧r.length=l.length∧(∀k (h:k<l.length) (h':k<r.length),(fi l[k]).2.2=0∧r[k]=(fi l[k]).1)
 |[],acc,t,h=>by
  rw[kD]at h
  cases h
  exact⟨[],by simp,rfl,λk h=>by simp at h⟩
 |c::l,acc,t,h=>by
  rw[kD]at h
  split at h
  ·rename_i h0
   exact absurd (congrArg Prod.snd h) h0
  ·rename_i h0
   obtain⟨r,h1,h2,h3⟩:=BJ h
   refine⟨(fi c).1::r,by rw[h1];simp,by simp[h2],λk hk hk'=> ?_⟩
   cases k with
   |zero=>exact⟨Classical.not_not.1 h0,rfl⟩
   |succ k=>exact h3 k (by simpa using hk) (by simpa using hk')
theorem jb {l t:List aR} (h:bj l=(t,0)):t.length=l.length∧(∀c∈l,(fi c).2.2=0)∧ ∀d∈t,∃c∈l,d=(fi c).1:=by
 rw[bj]at h
 split at h
 ·cases h
 ·obtain⟨r,h1,h2,h3⟩:=BJ h
  simp only[List.nil_append]at h1
  subst h1
  refine⟨h2,λc hc=> ?_,λd hd=> ?_⟩
  ·obtain⟨k,hk,rfl⟩:=List.mem_iff_getElem.1 hc
   exact(h3 k hk (by omega)).1
  ·obtain⟨k,hk,rfl⟩:=List.mem_iff_getElem.1 hd
   exact⟨l[k],List.getElem_mem _,(h3 k (by omega) hk).2⟩
theorem Jd {x:ByteArray→Int} {l t:List aR} (h:bj l=(t,0)) (hl: ∀c∈l,holds (lR x) c): ∀d∈t,holds (lR x) d:=by
 obtain⟨h1,h2,h3⟩:=jb h
 intro d hd
 obtain⟨c,hc,rfl⟩:=h3 d hd
 exact Lq (hl c hc) (h2 c hc)
structure cM (T:List aR) (r:dh):Prop where
 lin:bn r.1.1.2
 r64:Lg r
 len:r.2.length=T.length
 ok: ∀p∈T.zip r.2,VZ p
 k:r.1.1.1=kH (T.zip r.2)
 c: ∀n,cf r.1.1.2 n=jv n (T.zip r.2)
 q:r.1.2=true→Ud (T.zip r.2)=true
theorem Kb {x y:Int}: ∀{l:List (Int×Int)} {s:List Int},jI x y l=some s→s=l.map (λp=>p.1*x+p.2*y)∧ ∀n∈s,ar n
 |[],s,h=>by
  rw[jI]at h
  cases h
  exact⟨rfl,by simp⟩
 |p::l,s,h=>by
  rw[jI]at h
  split at h
  ·rename_i hs
   cases hr:jI x y l with
   |none=>rw[hr]at h;cases h
   |some t=>
    rw[hr]at h
    cases h
    obtain⟨h1,h2⟩:=Kb hr
    refine⟨by rw[List.map_cons,h1],λn hn=> ?_⟩
    rcases List.mem_cons.1 hn with rfl|hn
    ·exact(Al.1 hs).2.2
    ·exact h2 n hn
  ·cases h
abbrev GU (x y:Int) (a b:List Int):List Int:=(a.zip b).map λp=>p.1*x+p.2*y
theorem LD {x y:Int}: ∀{T:List aR} {a b:List Int},a.length=T.length→b.length=T.length→kH (T.zip (GU x y a b))=kH (T.zip a)*x+kH (T.zip b)*y
 | [],a,b,_,_=>by simp[kH]
 |t::T, [],b,h,_=>by simp at h
 |t::T,u::a, [],_,h=>by simp at h
 |t::T,u::a,v::b,h1,h2=>by
  have ih:=LD (x:=x) (y:=y) (T:=T) (a:=a) (b:=b) (by simpa using h1) (by simpa using h2)
  simp only[GU,List.zip_cons_cons,List.map_cons,kH]at ih ⊢
  rw[ih]
  simp only[Int.mul_add,Int.add_mul,Int.mul_assoc]
  omega
theorem Lh {n:ByteArray} {x y:Int}: ∀{T:List aR} {a b:List Int},a.length=T.length→b.length=T.length→jv n (T.zip (GU x y a b))=jv n (T.zip a)*x+jv n (T.zip b)*y
 | [],a,b,_,_=>by simp[jv]
 |t::T, [],b,h,_=>by simp at h
 |t::T,u::a, [],_,h=>by simp at h
 |t::T,u::a,v::b,h1,h2=>by
  have ih:=Lh (n:=n) (x:=x) (y:=y) (T:=T) (a:=a) (b:=b) (by simpa using h1) (by simpa using h2)
  simp only[GU,List.zip_cons_cons,List.map_cons,jv]at ih ⊢
  rw[ih]
  simp only[Int.mul_add,Int.add_mul,Int.mul_assoc]
  omega
theorem AO {T:List aR} {b:List Int} {p:aR×Int} (h:p∈T.zip b): ∃i,∃h1:i<T.length,∃h2:i<b.length,p=(T[i],b[i]):=by
 obtain⟨i,hi,rfl⟩:=List.mem_iff_getElem.1 h
 have:=hi
 rw[List.length_zip]at this
 exact⟨i,by omega,by omega,List.getElem_zip⟩
theorem tB {T:List aR} {b:List Int} {i:Nat} (h1:i<T.length) (h2:i<b.length):(T[i],b[i])∈T.zip b:=
 List.mem_iff_getElem.2 ⟨i,by rw[List.length_zip];omega,List.getElem_zip⟩
theorem mS {l:List (aR×Int)}:Ud l=true↔ ∀p∈l,p.1.2=true∨p.2=0:=by simp[Ud,List.all_eq_true,Bool.or_eq_true]
theorem cM.mix {T:List aR} {a b:dh} {x y:Int} {c:aR} {s:List Int} (ha:cM T a) (hb:cM T b) (hc:aL [a.1,b.1] [x,y]=(c,0)) (hs:jI x y (a.2.zip b.2)=some s):cM T (c,s):=by
 obtain⟨g1,g2,g3,g4,g5,g6⟩:=iA hc
 obtain⟨rfl,hs64⟩:=Kb hs
 have oa:=g2 (a.1,x) (by simp)
 have ob:=g2 (b.1,y) (by simp)
 have hlen:(GU x y a.2 b.2).length=T.length:=by simp[ha.len,hb.len]
 refine⟨g3,⟨?_,hs64⟩,hlen,λp hp=> ?_, ?_,λn=> ?_,λhq=> ?_⟩
 ·have:=xv [a.1,b.1] [x,y]
  rw[hc]at this
  exact this
 ·obtain⟨i,h1,h2,rfl⟩:=AO hp
  have e1:=ha.ok _ (tB h1 (by rw[ha.len];exact h1))
  have e2:=hb.ok _ (tB h1 (by rw[hb.len];exact h1))
  refine⟨e1.1,λh=> ?_⟩
  obtain⟨hneg,hin⟩:=h
  simp only[GU,List.getElem_map,List.getElem_zip]at hneg
  have n1:= λh=>e1.2 ⟨h,hin⟩
  have n2:= λh=>e2.2 ⟨h,hin⟩
  simp only at n1 n2
  have z1:a.1.2=true→a.2[i]'(by rw[ha.len];exact h1)=0:= λh=>by
   rcases mS.1 (ha.q h) _ (tB h1 (by rw[ha.len];exact h1))with h|h
   ·rw[hin]at h;cases h
   ·exact h
  have z2:b.1.2=true→b.2[i]'(by rw[hb.len];exact h1)=0:= λh=>by
   rcases mS.1 (hb.q h) _ (tB h1 (by rw[hb.len];exact h1))with h|h
   ·rw[hin]at h;cases h
   ·exact h
  have p1:0≤a.2[i]'(by rw[ha.len];exact h1)*x:=by
   by_cases h:a.1.2=true
   ·rw[z1 h];omega
   ·exact Int.mul_nonneg (Int.not_lt.1 n1) (Int.not_lt.1 λh'=>oa.2 ⟨h',by simpa using h⟩)
  have p2:0≤b.2[i]'(by rw[hb.len];exact h1)*y:=by
   by_cases h:b.1.2=true
   ·rw[z2 h];omega
   ·exact Int.mul_nonneg (Int.not_lt.1 n2) (Int.not_lt.1 λh'=>ob.2 ⟨h',by simpa using h⟩)
  omega
 ·show c.1.1=kH (T.zip (GU x y a.2 b.2))
  rw[LD ha.len hb.len,←ha.k,←hb.k,g4]
  simp[kH]
 ·show cf c.1.2 n=jv n (T.zip (GU x y a.2 b.2))
  rw[Lh ha.len hb.len,←ha.c,←hb.c,g5]
  simp[jv]
 ·show Ud (T.zip (GU x y a.2 b.2))=true
  simp only at hq
  rw[g6]at hq
  have hq:=mS.1 hq
  have qa:=hq (a.1,x) (by simp)
  have qb:=hq (b.1,y) (by simp)
  simp only at qa qb
  refine mS.2 λp hp=> ?_
  obtain⟨i,h1,h2,rfl⟩:=AO hp
  by_cases hT:T[i].2=true
  ·exact .inl hT
  ·refine .inr ?_
   simp only[GU,List.getElem_map,List.getElem_zip]
   have p1:a.2[i]'(by rw[ha.len];exact h1)*x=0:=by
    rcases qa with h|h
    ·rcases mS.1 (ha.q h) _ (tB h1 (by rw[ha.len];exact h1))with h|h
     ·exact absurd h hT
     ·simp only at h;rw[h,Int.zero_mul]
    ·rw[h,Int.mul_zero]
   have p2:b.2[i]'(by rw[hb.len];exact h1)*y=0:=by
    rcases qb with h|h
    ·rcases mS.1 (hb.q h) _ (tB h1 (by rw[hb.len];exact h1))with h|h
     ·exact absurd h hT
     ·simp only at h;rw[h,Int.zero_mul]
    ·rw[h,Int.mul_zero]
   omega
theorem Ko: ∀{l:List Int} {g:Nat},wA g l∣g∧ ∀n∈l,wA g l∣n.natAbs
 | [],g=>⟨Nat.dvd_refl _,by simp⟩
 |n::l,g=>by
  obtain⟨h1,h2⟩:=Ko (l:=l) (g:=Nat.gcd g n.natAbs)
  refine⟨Nat.dvd_trans h1 (Nat.gcd_dvd_left _ _),λm hm=> ?_⟩
  rcases List.mem_cons.1 hm with rfl|hm
  ·exact Nat.dvd_trans h1 (Nat.gcd_dvd_right _ _)
  ·exact h2 m hm
theorem KM {g:Int}: ∀{T:List aR} {b:List Int},(∀n∈b,g∣n)→kH (T.zip (b.map λn=>n.tdiv g))*g=kH (T.zip b)
 | [],b,_=>by simp[kH]
 |t::T, [],_=>by simp[kH]
 |t::T,n::b,h=>by
  have ih:=KM (g:=g) (T:=T) (b:=b) (λm hm=>h m (List.mem_cons_of_mem _ hm))
  have h1:=Int.tdiv_mul_cancel (h n List.mem_cons_self)
  simp only[List.map_cons,List.zip_cons_cons,kH,Int.add_mul,ih]
  rw[Int.mul_assoc,h1]
theorem Fo {n:ByteArray} {g:Int}: ∀{T:List aR} {b:List Int},(∀n∈b,g∣n)→jv n (T.zip (b.map λn=>n.tdiv g))*g=jv n (T.zip b)
 | [],b,_=>by simp[jv]
 |t::T, [],_=>by simp[jv]
 |t::T,m::b,h=>by
  have ih:=Fo (n:=n) (g:=g) (T:=T) (b:=b) (λk hk=>h k (List.mem_cons_of_mem _ hk))
  have h1:=Int.tdiv_mul_cancel (h m List.mem_cons_self)
  simp only[List.map_cons,List.zip_cons_cons,jv,Int.add_mul,ih]
  rw[Int.mul_assoc,h1]
theorem Um {g:Nat} {n:ByteArray}: ∀{l:List aD},cf (Xm g l) n=(cf l n).tdiv g
 | []=>by simp[cf,Xm]
 |m::l=>by
  rw[Xm,List.map_cons,cf,cf]
  simp only
  split
  ·rfl
  ·exact Um
theorem Wa {x:Int} {g:Int} (h:g∣x) (hx:x≠0):x.tdiv g≠0:= λe=>by
 have:=Int.tdiv_mul_cancel h
 rw[e,Int.zero_mul]at this
 exact hx this.symm
theorem RQ {x:Int} {g:Nat} (h: ¬x<0): ¬x.tdiv g<0:=by
 have:0≤x.tdiv (g:Int):=Int.tdiv_nonneg (by omega) (by omega)
 omega
theorem cM.reduced {T:List aR} {d:dh} (h:cM T d):cM T (uf d):=by
 unfold uf
 split
 ·exact h
 ·rename_i hg
  have hg2:2≤wA 0 d.2:=by omega
  have hdv: ∀n∈d.2,((wA 0 d.2:Nat):Int)∣n:= λn hn=>Int.ofNat_dvd_left.2 (Ko.2 n hn)
  generalize wA 0 d.2=g at*
  have hG:(g:Int)≠0:=by omega
  have eK:d.1.1.1.tdiv g=kH (T.zip (WN g d.2)):=by
   rw[h.k,←KM (T:=T) hdv,Int.mul_tdiv_cancel _ hG]
   rfl
  have eC: ∀n,(cf d.1.1.2 n).tdiv g=jv n (T.zip (WN g d.2)):= λn=>by
   rw[h.c,←Fo (T:=T) hdv,Int.mul_tdiv_cancel _ hG]
   rfl
  have dC: ∀n,(g:Int)∣cf d.1.1.2 n:= λn=>by
   rw[h.c,←Fo (T:=T) hdv]
   exact⟨_,Int.mul_comm _ _⟩
  obtain⟨s1,s2⟩:=cp.1 h.lin
  refine⟨cp.2 ⟨?_,λm hm=> ?_⟩,⟨⟨v6 h.r64.1.1 hg2,λm hm=> ?_⟩,λn hn=> ?_⟩,by simp[WN,h.len],λp hp=> ?_,eK,λn=>by rw[Um];exact eC n,λhq=> ?_⟩
  ·show(Xm g d.1.1.2).Pairwise _
   rw[Xm,List.pairwise_map]
   exact s1
  ·obtain⟨z,hz,rfl⟩:=List.mem_map.1 hm
   refine⟨(s2 z hz).1,Wa ?_ (s2 z hz).2⟩
   have:=dC z.1
   rw[yc s1 hz]at this
   exact this
  ·obtain⟨z,hz,rfl⟩:=List.mem_map.1 hm
   exact v6 (h.r64.1.2 z hz) hg2
  ·obtain⟨z,hz,rfl⟩:=List.mem_map.1 hn
   exact v6 (h.r64.2 z hz) hg2
  ·obtain⟨i,h1,h2,rfl⟩:=AO hp
   have:=h.ok _ (tB h1 (by rw[h.len];exact h1))
   refine⟨this.1,λhh=>this.2 ⟨?_,hh.2⟩⟩
   simp only[WN,List.getElem_map]at hh
   exact Classical.byContradiction λhc=>RQ hc hh.1
  ·refine mS.2 λp hp=> ?_
   obtain⟨i,h1,h2,rfl⟩:=AO hp
   rcases mS.1 (h.q hq) _ (tB h1 (by rw[h.len];exact h1))with h'|h'
   ·exact .inl h'
   ·refine .inr ?_
    simp only at h'
    simp only[WN,List.getElem_map,h',Int.zero_tdiv]
theorem cM.merge {T:List aR} {a b:dh} {x y fuel:Int} (ha:cM T a) (hb:cM T b) (h:(fX fuel a b x y).2=0):cM T (fX fuel a b x y).1:=by
 unfold fX at h ⊢
 split at h
 ·cases h
 ·rename_i h0
  rw[if_neg h0]
  split at h
  ·rename_i h1
   exact absurd h h1
  ·rename_i h1
   rw[if_neg h1]
   have hc:aL [a.1,b.1] [x,y]=((aL [a.1,b.1] [x,y]).1,0):=Prod.ext rfl (Classical.not_not.1 h1)
   cases hs:jI x y (a.2.zip b.2)with
   |none=>rw[hs]at h;cases h
   |some s=>exact(ha.mix hb hc hs).reduced
theorem MG {T:List aR} {a b:dh} {x y fuel:Int} (ha:cM T a) (hb:cM T b) (hx:0≤x∨a.1.2=true) (hy:0≤y∨b.1.2=true):(fX fuel a b x y).2=0∨(fX fuel a b x y).2=14∨(fX fuel a b x y).2=3:=by
 unfold fX
 split
 ·exact .inr (.inl rfl)
 ·have:=u7 (l:= [a.1,b.1]) (b:= [x,y]) rfl (λp hp=>by
   have:p=(a.1,x)∨p=(b.1,y):=by simpa using hp
   rcases this with rfl|rfl
   ·exact⟨ha.lin,λh=>hx.elim (λh'=>absurd h.1 (Int.not_lt.2 h')) λh'=>by have:=h.2;simp only at this;rw[h']at this;cases this⟩
   ·exact⟨hb.lin,λh=>hy.elim (λh'=>absurd h.1 (Int.not_lt.2 h')) λh'=>by have:=h.2;simp only at this;rw[h']at this;cases this⟩)
  split
  ·rename_i h1
   rcases this with h|h
   ·exact absurd h h1
   ·rw[h];exact .inr (.inr rfl)
  ·split
   ·exact .inr (.inr rfl)
   ·exact .inl rfl
theorem Lx {d:dh}: ∀{rows out:List dh},xL d rows=some out→out.length=rows.length∧ ∀r∈out,r=d∨r∈rows
 | [],out,h=>by rw[xL]at h;cases h
 |r::rows,out,h=>by
  rw[xL]at h
  split at h
  ·cases h
   refine⟨by simp,λz hz=> ?_⟩
   rcases List.mem_cons.1 hz with rfl|hz
   ·split
    ·exact .inl rfl
    ·exact .inr List.mem_cons_self
   ·exact .inr (List.mem_cons_of_mem _ hz)
  ·cases hr:xL d rows with
   |none=>rw[hr]at h;cases h
   |some t=>
    rw[hr]at h
    cases h
    obtain⟨h1,h2⟩:=Lx hr
    refine⟨by simp[h1],λz hz=> ?_⟩
    rcases List.mem_cons.1 hz with rfl|hz
    ·exact .inr List.mem_cons_self
    ·exact(h2 z hz).imp_right (List.mem_cons_of_mem _)
theorem rp {rows:List dh} {d:dh} (hl:rows.length≤256):(dN rows d).1.length≤256∧(dN rows d).1.length≤rows.length+1∧(∀r∈(dN rows d).1,r=d∨r∈rows)∧((dN rows d).2=0∨(dN rows d).2=2):=by
 unfold dN
 split
 ·exact⟨hl,Nat.le_succ _,λr hr=> .inr hr,.inl rfl⟩
 ·cases hr:xL d rows with
  |some l=>
   obtain⟨h1,h2⟩:=Lx hr
   exact⟨by simp only;omega,by simp only;omega,h2,.inl rfl⟩
  |none=>
   simp only
   split
   ·exact⟨hl,Nat.le_succ _,λr hr=> .inr hr,.inr rfl⟩
   ·exact⟨by simp;omega,by simp,λr hr=>by simp at hr;exact hr.symm,.inl rfl⟩
def np (rows:List dh):List ByteArray:=(Lib.compact (((fg rows).map λs=>s.data.toList).mergeSort λx y=>decide (x≤y))).map λb=>⟨b.toArray⟩
def dw (rows:List dh):ByteArray×Int×Bool:=dj rows (np rows) (-1) .empty
def qQ (rows:List dh) (fuel:Int):R6:=
 if 0≤(dw rows).2.1 then xZ (dw rows).1 (dw rows).2.1.toNat rows fuel else vA (dw rows).1 rows fuel
def hZ:List dh→Option (List Int)
 | []=>none
 |r::l=>if ig r.1 then some r.2 else hZ l
def fk (l:List aR) (b:List Int):Int:=
 if(bj l).2≠0 then(bj l).2 else if(aL (bj l).1 b).2≠0 then(aL (bj l).1 b).2 else if ig (aL (bj l).1 b).1 then 0 else 17
def d9 (l:List aR):Nat→List dh→Int→List Int×Bool×Int
 |0,_,_=>([],false,0)
 |N+1,rows,fuel=>match hZ rows with
  |some b=>if fk l b≠0 then([],false,fk l b)else(b,true,0)
  |none=>if(dw rows).2.2=false then([],false,0)else
   if(qQ rows fuel).2.2≠0 then([],false,(qQ rows fuel).2.2)else d9 l N (qQ rows fuel).1 (qQ rows fuel).2.1
def fJ (n k:Nat):List Int:=(List.replicate n 0).set k 1
def j6 (n:Nat):Nat→List aR→List dh→List dh×Int
 |_, [],rows=>(rows,0)
 |k,c::r,rows=>if(dN rows (c,fJ n k)).2≠0 then([],(dN rows (c,fJ n k)).2)else j6 n (k+1) r (dN rows (c,fJ n k)).1
def Z1 (rows:List dh) (fuel:Int):Nat:=fuel.toNat*300+rows.length
def gO (l:List aR) (fuel:Int):List Int×Bool×Int:=
 if(bj l).2≠0 then([],false,(bj l).2)else if fuel<0∨1048576<fuel then([],false,1)else
 if(j6 l.length 0 (bj l).1 []).2≠0 then([],false,(j6 l.length 0 (bj l).1 []).2)else
 d9 l (fuel.toNat*300+300) (j6 l.length 0 (bj l).1 []).1 fuel
theorem sA {α:Type} [Inhabited α] [DecidableEq α] {d:Array α} {x:α}: ∀{m:Nat},x∈Lib.compactUpTo d m↔ ∃j,j<m∧d[j]! =x
 |0=>by simp[Lib.compactUpTo]
 |m+1=>by
  rw[Lib.compactUpTo_succ,List.mem_append,sA]
  constructor
  ·rintro(⟨j,h1,h2⟩|h)
   ·exact⟨j,by omega,h2⟩
   ·split at h
    ·exact⟨m,by omega,(List.mem_singleton.1 h).symm⟩
    ·cases h
  ·rintro⟨j,h1,h2⟩
   by_cases hj:j<m
   ·exact .inl ⟨j,hj,h2⟩
   ·have:j=m:=by omega
    subst this
    by_cases hk:Lib.keeps d j=true
    ·rw[if_pos hk]
     exact .inr (List.mem_singleton.2 h2.symm)
    ·have hk': ¬(j=0∨d[j]! ≠d[j-1]!):=by simpa[Lib.keeps]using hk
     refine .inl ⟨j-1, ?_, ?_⟩
     ·have:j≠0:= λh=>hk' (.inl h)
      omega
     ·rw[←h2]
      exact(Classical.not_not.1 λh=>hk' (.inr h)).symm
theorem Bp {α:Type} [Inhabited α] [DecidableEq α] {l:List α} {x:α}:x∈Lib.compact l↔x∈l:=by
 rw[Lib.compact,sA]
 constructor
 ·rintro⟨j,h1,h2⟩
  rw[←h2]
  have:l.toArray[j]! =l[j]:=by simp[h1]
  rw[this]
  exact List.getElem_mem _
 ·intro h
  obtain⟨j,hj,rfl⟩:=List.mem_iff_getElem.1 h
  exact⟨j,hj,by simp[hj]⟩
theorem MP {rows:List dh} {n:ByteArray}:n∈np rows↔n∈fg rows:=by
 rw[np,List.mem_map]
 constructor
 ·rintro⟨b,hb,rfl⟩
  rw[Bp,List.mem_mergeSort,List.mem_map]at hb
  obtain⟨s,hs,rfl⟩:=hb
  exact hs
 ·intro h
  exact⟨n.data.toList,by rw[Bp,List.mem_mergeSort];exact List.mem_map_of_mem h,rfl⟩
theorem I4 {rows:List dh} {n:ByteArray}:n∈fg rows↔ ∃r∈rows,∃m∈r.1.1.2,m.1=n:=by
 simp[fg,List.mem_flatMap,List.mem_map]
theorem A0 {n:ByteArray}: ∀{l:List dh} {k i:Nat},tZ n k l=some i→ ∃h:i-k<l.length,k≤i∧cf l[i-k].1.1.2 n≠0∧l[i-k].1.2=true
 | [],k,i,h=>by rw[tZ]at h;cases h
 |r::l,k,i,h=>by
  rw[tZ]at h
  split at h
  ·rename_i h0
   cases h
   refine⟨by simp,Nat.le_refl _, ?_⟩
   simp only[Nat.sub_self,List.getElem_cons_zero]
   exact h0
  ·obtain⟨h1,h2,h3⟩:=A0 h
   have e:i-k=i-(k+1)+1:=by omega
   refine⟨by simp;omega,by omega, ?_⟩
   simp only[e,List.getElem_cons_succ]
   exact h3
theorem mI {rows:List dh} {N:List ByteArray}: ∀{vs:List ByteArray} {best:Int} {name:ByteArray},(0≤best→name∈N∧tZ name 0 rows=none)→(∀v∈vs,v∈N)→
  ((dj rows vs best name).2.1= -1∨0≤(dj rows vs best name).2.1)∧
  (0≤(dj rows vs best name).2.1→(dj rows vs best name).1∈N∧tZ (dj rows vs best name).1 0 rows=some (dj rows vs best name).2.1.toNat∧(dj rows vs best name).2.2=true)∧
  ((dj rows vs best name).2.1= -1→(dj rows vs best name).2.2=true→(dj rows vs best name).1∈N∧tZ (dj rows vs best name).1 0 rows=none)∧
  ((dj rows vs best name).2.2=false→vs= []∧best<0)
 |[],best,name,hb,hv=>by
  rw[dj]
  refine⟨.inl rfl,λh=>(by simp at h),λ_ h=>hb (of_decide_eq_true h),λh=>⟨rfl,by have:=of_decide_eq_false h;omega⟩⟩
 |v::vs,best,name,hb,hv=>by
  rw[dj]
  cases he:tZ v 0 rows with
  |some k=>
   simp only
   exact⟨.inr (by omega),λ_=>⟨hv v List.mem_cons_self,by rw[he];simp,trivial⟩,λh=>(by omega),λh=>(by cases h)⟩
  |none=>
   simp only
   split
   ·obtain⟨h1,h2,h3,h4⟩:=mI (rows:=rows) (N:=N) (vs:=vs) (best:=((Bf v rows*Rd v rows:Nat):Int)) (name:=v) (λ_=>⟨hv v List.mem_cons_self,he⟩) λz hz=>hv z (List.mem_cons_of_mem _ hz)
    exact⟨h1,h2,h3,λh=>by have:=(h4 h).2;omega⟩
   ·rename_i hn
    obtain⟨h1,h2,h3,h4⟩:=mI (rows:=rows) (N:=N) (vs:=vs) (best:=best) (name:=name) hb λz hz=>hv z (List.mem_cons_of_mem _ hz)
    exact⟨h1,h2,h3,λh=>absurd (.inl (h4 h).2) hn⟩
def Er (e:Int):Prop:=e=0∨e=2∨e=3∨e=14
structure mh (P:dh→Prop) (w:Nat) (acc:List dh) (fuel:Int) (s:R6):Prop where
 len:s.1.length≤256
 all: ∀r∈s.1,P r
 le:s.2.1≤fuel
 more:s.2.1=fuel→s.2.2=0→s.1.length≤acc.length+w
 er:Er s.2.2
 pos:s.2.2=0→0≤fuel→0≤s.2.1
theorem zC {α:Type} {step:α→List dh→Int→R6} {P:dh→Prop} {w:α→Nat}: ∀{l:List α},(∀x∈l,∀acc fuel,(∀r∈acc,P r)→acc.length≤256→mh P (w x) acc fuel (step x acc fuel))→
  ∀acc fuel,(∀r∈acc,P r)→acc.length≤256→mh P (l.map w).sum acc fuel (gL step l acc fuel)
 | [],_,acc,fuel,ha,hl=>⟨hl,ha,Int.le_refl _,λ_ _=>by simp[gL],.inl rfl,λ_ h=>h⟩
 |x::l,hs,acc,fuel,ha,hl=>by
  have h1:=hs x List.mem_cons_self acc fuel ha hl
  rw[gL]
  split
  ·rename_i he
   exact⟨h1.len,h1.all,h1.le,λ_ h=>absurd h he,h1.er,λh=>absurd h he⟩
  ·rename_i he
   have he:=Classical.not_not.1 he
   have h2:=zC (λy hy=>hs y (List.mem_cons_of_mem _ hy)) (step x acc fuel).1 (step x acc fuel).2.1 h1.all h1.len
   refine⟨h2.len,h2.all,Int.le_trans h2.le h1.le,λe e0=> ?_,h2.er,λe e0=>h2.pos e (h1.pos he e0)⟩
   have a1:=h1.le
   have a2:=h2.le
   have a3:=h1.more (by omega) he
   have a4:=h2.more (by omega) e0
   simp only[List.map_cons,List.sum_cons]
   omega
theorem BF {T:List aR} {a b:dh} {x y:Int} (ha:cM T a) (hb:cM T b) (hx:0≤x∨a.1.2=true) (hy:0≤y∨b.1.2=true) {acc:List dh} {fuel:Int} (h: ∀r∈acc,cM T r) (hl:acc.length≤256):
  mh (cM T) 0 acc fuel (kS a b x y acc fuel):=by
 unfold kS
 split
 ·rename_i h0
  have:=MG (fuel:=fuel) ha hb hx hy
  refine⟨hl,h,by simp only;omega,λe=>(by simp only at e;omega), ?_,λe=>absurd e h0⟩
  rcases this with h|h|h
  ·exact absurd h h0
  ·exact .inr (.inr (.inr h))
  ·exact .inr (.inr (.inl h))
 ·rename_i h0
  have h0:=Classical.not_not.1 h0
  obtain⟨g1,g2,g3,g4⟩:=rp (d:=(fX fuel a b x y).1) hl
  refine⟨g1,λr hr=> ?_,by simp only;omega,λe=>(by simp only at e;omega), ?_,λ_ hf=> ?_⟩
  ·rcases g3 r hr with rfl|h'
   ·exact ha.merge hb h0
   ·exact h r h'
  ·rcases g4 with h|h
   ·exact .inl h
   ·exact .inr (.inl h)
  ·have: ¬fuel≤0:= λhc=>by
    rw[fX,if_pos hc]at h0
    cases h0
   simp only
   omega
theorem Sf {T:List aR} {d:dh} (hd:cM T d) {acc:List dh} {fuel:Int} (h: ∀r∈acc,cM T r) (hl:acc.length≤256):mh (cM T) 1 acc fuel ((dN acc d).1,fuel,(dN acc d).2):=by
 obtain⟨g1,g2,g3,g4⟩:=rp (d:=d) hl
 exact⟨g1,λr hr=>(g3 r hr).elim (λe=>e▸hd) (h r),Int.le_refl _,λ_ _=>g2,g4.elim .inl λh=> .inr (.inl h),λ_ h=>h⟩
theorem JA {T:List aR} {acc:List dh} {fuel:Int} {w:Nat} (h: ∀r∈acc,cM T r) (hl:acc.length≤256):mh (cM T) w acc fuel (acc,fuel,0):=⟨hl,h,Int.le_refl _,λ_ _=>by simp only;omega,.inl rfl,λ_ h=>h⟩
theorem TV {T:List aR} {acc:List dh} {fuel:Int} {w:Nat} {e:Int} (he:Er e) (h0:e≠0) (h: ∀r∈acc,cM T r) (hl:acc.length≤256):mh (cM T) w acc fuel (acc,fuel,e):=⟨hl,h,Int.le_refl _,λ_ e=>absurd e h0,he,λe=>absurd e h0⟩
theorem Eb (n:Nat):0≤(nX n false).1:=by
 unfold nX
 split
 ·exact Int.le_refl _
 ·simp
theorem Ku {T:List aR} {n:ByteArray} {q:dh} {e:Nat} (hq:cM T q) (hqe:q.1.2=true) {r:Nat×dh} (hr:cM T r.2) (acc:List dh) (fuel:Int) (h: ∀r∈acc,cM T r) (hl:acc.length≤256):
  mh (cM T) (if r.1=e then 0 else 1) acc fuel (sj n q e r acc fuel):=by
 unfold sj
 split
 ·exact JA h hl
 ·split
  ·exact Sf hr h hl
  ·split
   ·exact TV (.inr (.inr (.inl rfl))) (by decide) h hl
   ·have:=BF (fuel:=fuel) hr hq (.inl (Eb _)) (.inr hqe) (x:=(fy (cf q.1.1.2 n) (cf r.2.1.1.2 n)).1) (y:=(fy (cf q.1.1.2 n) (cf r.2.1.1.2 n)).2.1) h hl
    exact⟨this.len,this.all,this.le,λa b=>Nat.le_trans (this.more a b) (by omega),this.er,this.pos⟩
theorem Ln {T:List aR} {n:ByteArray} {r:dh} (hr:cM T r) (acc:List dh) (fuel:Int) (h: ∀r∈acc,cM T r) (hl:acc.length≤256):mh (cM T) (if cf r.1.1.2 n=0 then 1 else 0) acc fuel (mp n r acc fuel):=by
 unfold mp
 split
 ·exact Sf hr h hl
 ·exact JA h hl
theorem LE {T:List aR} {n:ByteArray} {a b:dh} (ha:cM T a) (hb:cM T b) (acc:List dh) (fuel:Int) (h: ∀r∈acc,cM T r) (hl:acc.length≤256):mh (cM T) 0 acc fuel (sv n a b acc fuel):=by
 unfold sv
 split
 ·exact JA h hl
 ·split
  ·exact TV (.inr (.inr (.inl rfl))) (by decide) h hl
  ·exact BF ha hb (.inl (Eb _)) (.inl (Eb _)) h hl
theorem Lp {α:Type}: ∀{l:List α} {k:Nat} {x:Nat×α},x∈xQ k l→x.2∈l
 | [],k,x,h=>by cases h
 |y::l,k,x,h=>by
  rcases List.mem_cons.1 h with rfl|h
  ·exact List.mem_cons_self
  ·exact List.mem_cons_of_mem _ (Lp h)
theorem Li {α:Type} {e:Nat}: ∀{l:List α} {k:Nat},((xQ k l).map λx=>if x.1=e then 0 else 1).sum≤l.length∧(k≤e→e<k+l.length→((xQ k l).map λx=>if x.1=e then 0 else 1).sum<l.length)
 | [],k=>by simp[xQ]
 |y::l,k=>by
  obtain⟨h1,h2⟩:=Li (e:=e) (l:=l) (k:=k+1)
  simp only[xQ,List.map_cons,List.sum_cons,List.length_cons]
  by_cases hk:k=e
  ·rw[if_pos hk]
   exact⟨by omega,λ_ _=>by omega⟩
  ·rw[if_neg hk]
   exact⟨by omega,λa b=>by have:=h2 (by omega) (by omega);omega⟩
theorem Ks {n:ByteArray}: ∀{l:List dh},(l.map λr=>if cf r.1.1.2 n=0 then 1 else 0).sum≤l.length∧((∃r∈l,cf r.1.1.2 n≠0)→(l.map λr=>if cf r.1.1.2 n=0 then 1 else 0).sum<l.length)
 | []=>by simp
 |r::l=>by
  obtain⟨h1,h2⟩:=Ks (n:=n) (l:=l)
  simp only[List.map_cons,List.sum_cons,List.length_cons]
  by_cases hk:cf r.1.1.2 n=0
  ·rw[if_pos hk]
   refine⟨by omega,λ⟨z,hz,h0⟩=> ?_⟩
   rcases List.mem_cons.1 hz with rfl|hz
   ·exact absurd hk h0
   ·have:=h2 ⟨z,hz,h0⟩
    omega
  ·rw[if_neg hk]
   exact⟨by omega,λ_=>by omega⟩
theorem FJ {α:Type}: ∀{l:List α},(l.map λ_=>0).sum=0
 | []=>rfl
 |_::l=>by rw[List.map_cons,List.sum_cons,FJ]
theorem RI {T:List aR} {n:ByteArray} {e:Nat} {rows:List dh} {fuel:Int} (h: ∀r∈rows,cM T r) (he:e<rows.length) (hq:rows[e].1.2=true):
  mh (cM T) (rows.length-1) [] fuel (xZ n e rows fuel):=by
 have hg:rows.getD e Ok=rows[e]:=by simp[List.getD_eq_getElem?_getD,he]
 have h1:=zC (step:=sj n (rows.getD e Ok) e) (P:=cM T) (w:= λx=>if x.1=e then 0 else 1) (l:=xQ 0 rows) (λx hx acc f ha hl=>by
  rw[hg]
  exact Ku (h _ (List.getElem_mem he)) hq (h _ (Lp hx)) acc f ha hl) [] fuel (by simp) (by simp)
 have h2:=(Li (e:=e) (l:=rows) (k:=0)).2 (by omega) (by omega)
 exact⟨h1.len,h1.all,h1.le,λa b=>by have:=h1.more a b;simp only[List.length_nil]at this ⊢;exact Nat.le_trans this (by omega),h1.er,h1.pos⟩
theorem Q7 {T:List aR} {n:ByteArray} {rows:List dh} {fuel:Int} (h: ∀r∈rows,cM T r) (he: ∃r∈rows,cf r.1.1.2 n≠0):mh (cM T) (rows.length-1) [] fuel (vA n rows fuel):=by
 have h1:=zC (step:=mp n) (P:=cM T) (w:= λr=>if cf r.1.1.2 n=0 then 1 else 0) (l:=rows) (λx hx acc f ha hl=>Ln (h x hx) acc f ha hl) [] fuel (by simp) (by simp)
 have h2:=(Ks (n:=n) (l:=rows)).2 he
 unfold vA
 split
 ·rename_i h0
  exact⟨h1.len,h1.all,h1.le,λa b=>absurd b h0,h1.er,λb=>absurd b h0⟩
 ·rename_i h0
  have h0:=Classical.not_not.1 h0
  have h3:=zC (step:= λa=>gL (sv n a) rows) (P:=cM T) (w:= λ_=>0) (l:=rows) (λa ha acc f hacc hl=>by
   have:=zC (step:=sv n a) (P:=cM T) (w:= λ_=>0) (l:=rows) (λb hb acc f hacc hl=>LE (h a ha) (h b hb) acc f hacc hl) acc f hacc hl
   refine⟨this.len,this.all,this.le,λa b=> ?_,this.er,this.pos⟩
   have:=this.more a b
   rw[FJ]at this
   exact this) (gL (mp n) rows [] fuel).1 (gL (mp n) rows [] fuel).2.1 h1.all h1.len
  refine⟨h3.len,h3.all,Int.le_trans h3.le h1.le,λa b=> ?_,h3.er,λa b=>h3.pos a (h1.pos h0 b)⟩
  have a1:=h1.le
  have a2:=h3.le
  have a3:=h1.more (by omega) h0
  have a4:=h3.more (by omega) b
  rw[FJ]at a4
  simp only[List.length_nil,Nat.zero_add,Nat.add_zero]at a3 a4 ⊢
  omega
theorem zd {T:List aR} {rows:List dh} {fuel:Int} (h: ∀r∈rows,cM T r) (hc:(dw rows).2.2=true):mh (cM T) (rows.length-1) [] fuel (qQ rows fuel)∧rows≠ []:=by
 obtain⟨g1,g2,g3,g4⟩:=mI (rows:=rows) (N:=np rows) (vs:=np rows) (best:= -1) (name:= .empty) (λh=>(by omega)) (λv hv=>hv)
 unfold qQ
 split
 ·rename_i h0
  obtain⟨k1,k2,k3⟩:=g2 h0
  obtain⟨m1,m2,m3,m4⟩:=A0 k2
  simp only[Nat.sub_zero]at m1 m4
  exact⟨RI h m1 m4,λe=>by subst e;simp at m1⟩
 ·rename_i h0
  have h1:(dw rows).2.1= -1:=g1.resolve_right h0
  obtain⟨k1,k2⟩:=g3 h1 hc
  obtain⟨r,hr,m,hm,hn⟩:=I4.1 (MP.1 k1)
  obtain⟨s1,s2⟩:=cp.1 (h r hr).lin
  refine⟨Q7 h ⟨r,hr, ?_⟩,λe=>by subst e;cases hr⟩
  show cf r.1.1.2 (dj rows (np rows) (-1) .empty).1≠0
  rw[←hn,yc s1 hm]
  exact(s2 m hm).2
theorem RJ {T:List aR} {rows:List dh} {fuel:Int} (h: ∀r∈rows,cM T r) (hl:rows.length≤256) (hf:0≤fuel) (hc:(dw rows).2.2=true) (he:(qQ rows fuel).2.2=0):Z1 (qQ rows fuel).1 (qQ rows fuel).2.1<Z1 rows fuel:=by
 obtain⟨h1,h2⟩:=zd (fuel:=fuel) h hc
 have a1:=h1.le
 have a2:=h1.len
 have a3:=h1.pos he hf
 have a4:0<rows.length:=List.length_pos_iff.2 h2
 unfold Z1
 by_cases e:(qQ rows fuel).2.1=fuel
 ·have:=h1.more e he
  simp at this
  rw[e]
  omega
 ·omega
theorem Qx {l:List aR} {r:dh} (h0:(bj l).2=0) (h:cM (bj l).1 r) (hb:ig r.1):fk l r.2=0∨fk l r.2=3:=by
 unfold fk
 rw[if_neg (by rw[h0];simp)]
 rcases u7 h.len.symm h.ok with he|he
 ·rw[if_neg (by rw[he];simp)]
  have hc:aL (bj l).1 r.2=((aL (bj l).1 r.2).1,0):=Prod.ext rfl he
  generalize (aL (bj l).1 r.2).1=c at*
  obtain⟨g1,g2,g3,g4,g5,g6⟩:=iA hc
  rw[if_pos]
  ·exact .inl rfl
  ·obtain⟨b1,b2⟩:=hb
   refine⟨?_, ?_⟩
   ·cases hcl:c.1.2 with
    |nil=>rfl
    |cons m z=>
     obtain⟨s1,s2⟩:=cp.1 g3
     have hm:m∈c.1.2:=by rw[hcl];exact List.mem_cons_self
     have:=yc s1 hm
     rw[g5,←h.c,b1]at this
     exact absurd this.symm (s2 m hm).2
   ·rw[g4,←h.k,g6]
    rcases b2 with b2|⟨b2,b3⟩
    ·exact .inl b2
    ·exact .inr ⟨h.q b2,b3⟩
 ·rw[he,if_pos (by simp)]
  exact .inr rfl
theorem ot: ∀{rows:List dh} {b:List Int},hZ rows=some b→ ∃r∈rows,ig r.1∧r.2=b
 | [],b,h=>by rw[hZ]at h;cases h
 |r::rows,b,h=>by
  rw[hZ]at h
  split at h
  ·rename_i h0
   cases h
   exact⟨r,List.mem_cons_self,h0,rfl⟩
  ·obtain⟨z,hz,h1⟩:=ot h
   exact⟨z,List.mem_cons_of_mem _ hz,h1⟩
def ErF (e:Int):Prop:=e=2∨e=3∨e=14
theorem BY {l:List aR} (h0:(bj l).2=0): ∀{N:Nat} {rows:List dh} {fuel:Int},(∀r∈rows,cM (bj l).1 r)→rows.length≤256→0≤fuel→
  ((d9 l N rows fuel).2.2≠0→ErF (d9 l N rows fuel).2.2∧(d9 l N rows fuel).1= []∧(d9 l N rows fuel).2.1=false)∧
  ((d9 l N rows fuel).2.1=true→fk l (d9 l N rows fuel).1=0)∧((d9 l N rows fuel).2.1=false→(d9 l N rows fuel).1= [])
 |0,rows,fuel,_,_,_=>by rw[d9];exact⟨λh=>absurd rfl h,λh=>(by cases h),λ_=>rfl⟩
 |N+1,rows,fuel,h,hl,hf=>by
  rw[d9]
  cases hb:hZ rows with
  |some b=>
   obtain⟨r,hr,h1,rfl⟩:=ot hb
   simp only
   rcases Qx h0 (h r hr) h1 with he|he
   ·rw[if_neg (by rw[he];simp)]
    exact⟨λh=>absurd rfl h,λ_=>he,λh=>(by cases h)⟩
   ·rw[if_pos (by rw[he];decide)]
    exact⟨λ_=>⟨by rw[he];exact .inr (.inl rfl),rfl,rfl⟩,λh=>(by cases h),λ_=>rfl⟩
  |none=>
   simp only
   split
   ·exact⟨λh=>absurd rfl h,λh=>(by cases h),λ_=>rfl⟩
   ·rename_i hc
    have hc:(dw rows).2.2=true:=by simpa using hc
    obtain⟨h1,h2⟩:=zd (fuel:=fuel) h hc
    split
    ·rename_i he
     refine⟨λ_=>⟨?_,rfl,rfl⟩,λh=>(by cases h),λ_=>rfl⟩
     exact h1.er.resolve_left he
    ·rename_i he
     exact BY h0 h1.all h1.len (h1.pos (Classical.not_not.1 he) hf)
theorem It:bn []:= λi hi=>by simp at hi
theorem wa:bn wD.1.2∧bk wD:=⟨It,Jm⟩
theorem Dd:bn QJ.1.2∧bk QJ:=⟨It,⟨by show ar (-1);unfold ar;omega,λm hm=>by cases hm⟩⟩
theorem Q4 {c:aR} (h64:bk c):bn (fi c).1.1.2∧bk (fi c).1∧((fi c).2.2=0→bn c.1.2):=by
 unfold fi
 split
 ·exact⟨wa.1,wa.2,λh=>by cases h⟩
 ·rename_i hok
  have hok:=Classical.not_not.1 hok
  split
  ·split
   ·exact⟨wa.1,wa.2,λ_=>hok⟩
   ·exact⟨Dd.1,Dd.2,λ_=>hok⟩
  ·rename_i hl
   have hg:=Fi hl (λm hm=>((cp.1 hok).2 m hm).2)
   have hd:=PI hok
   have h64': ∀m∈fA (gh c.1.2) c.1.2,ar m.2:= λm hm=>by
    obtain⟨z,hz,rfl⟩:=List.mem_map.1 hm
    exact ES (h64.2 z hz) hg
   split
   ·exact⟨Dd.1,Dd.2,λ_=>hok⟩
   ·split
    ·split
     ·rename_i hn
      obtain⟨s1,s2⟩:=cp.1 hd
      refine⟨cp.2 ⟨?_,λm hm=> ?_⟩,⟨hn.1,λm hm=> ?_⟩,λ_=>hok⟩
      ·show((fA (gh c.1.2) c.1.2).map _).Pairwise _
       rw[List.pairwise_map]
       exact s1
      ·obtain⟨z,hz,rfl⟩:=List.mem_map.1 hm
       exact⟨(s2 z hz).1,by have:=(s2 z hz).2;simp only;omega⟩
      ·obtain⟨z,hz,rfl⟩:=List.mem_map.1 hm
       exact hn.2 z hz
     ·exact⟨wa.1,wa.2,λh=>by cases h⟩
    ·exact⟨hd,⟨ES h64.1 hg,h64'⟩,λ_=>hok⟩
theorem vW {l t:List aR} (h:bj l=(t,0)) (h64: ∀c∈l,bk c): ∀d∈t,bn d.1.2∧bk d:= λd hd=>by
 obtain⟨_,_,h3⟩:=jb h
 obtain⟨c,hc,rfl⟩:=h3 d hd
 obtain⟨g1,g2,_⟩:=Q4 (h64 c hc)
 exact⟨g1,g2⟩
theorem MQ (c:aR):(fi c).1.1.2.length≤c.1.2.length:=by
 unfold fi
 (repeat' split)<;>simp[wD,QJ,fA]
theorem HJ: ∀{T:List aR} {n:Nat},kH (T.zip (List.replicate n 0))=0
 | [],n=>by simp[kH]
 |t::T,0=>by simp[kH]
 |t::T,n+1=>by
  rw[List.replicate_succ,List.zip_cons_cons,kH,HJ]
  simp
theorem He {m:ByteArray}: ∀{T:List aR} {n:Nat},jv m (T.zip (List.replicate n 0))=0
 | [],n=>by simp[jv]
 |t::T,0=>by simp[jv]
 |t::T,n+1=>by
  rw[List.replicate_succ,List.zip_cons_cons,jv,He]
  simp
theorem Nu (n:Nat):fJ (n+1) 0=1::List.replicate n 0:=rfl
theorem Oc (n k:Nat):fJ (n+1) (k+1)=0::fJ n k:=rfl
theorem RH (n k:Nat):(fJ n k).length=n:=by simp[fJ]
theorem FF {m:ByteArray}: ∀{T:List aR} {k:Nat} (h:k<T.length),kH (T.zip (fJ T.length k))=T[k].1.1∧jv m (T.zip (fJ T.length k))=cf T[k].1.2 m
 | [],k,h=>by simp at h
 |t::T,0,h=>by
  rw[List.length_cons,Nu,List.zip_cons_cons,kH,jv,HJ,He]
  simp
 |t::T,k+1,h=>by
  obtain⟨h1,h2⟩:=FF (m:=m) (T:=T) (k:=k) (by simpa using h)
  rw[List.length_cons,Oc,List.zip_cons_cons,kH,jv,h1,h2]
  simp
theorem AU {n k i:Nat} (h:i<(fJ n k).length):(fJ n k)[i]=if k=i then 1 else 0:=by
 simp only[fJ,List.getElem_set,List.getElem_replicate]
theorem cM.unit {T:List aR} {k:Nat} (h:k<T.length) (hT: ∀c∈T,bn c.1.2∧bk c):cM T (T[k],fJ T.length k):=by
 refine⟨(hT _ (List.getElem_mem h)).1,⟨(hT _ (List.getElem_mem h)).2,λn hn=> ?_⟩,RH _ _,λp hp=> ?_,(FF (m:= .empty) h).1.symm,λn=>(FF h).2.symm,λhq=> ?_⟩
 ·obtain⟨i,hi,rfl⟩:=List.mem_iff_getElem.1 hn
  simp only[AU]
  split<;>(unfold ar;omega)
 ·obtain⟨i,h1,h2,rfl⟩:=AO hp
  refine⟨(hT _ (List.getElem_mem h1)).1,λhh=> ?_⟩
  have:=hh.1
  simp only[AU]at this
  split at this<;>omega
 ·refine mS.2 λp hp=> ?_
  obtain⟨i,h1,h2,rfl⟩:=AO hp
  simp only[AU]
  by_cases e:k=i
  ·subst e
   exact .inl hq
  ·exact .inr (if_neg e)
theorem Ld {T:List aR} (hT: ∀c∈T,bn c.1.2∧bk c): ∀{k:Nat} {rows:List dh},(∀r∈rows,cM T r)→rows.length≤256→k≤T.length→
  ((j6 T.length k (T.drop k) rows).2=0∨(j6 T.length k (T.drop k) rows).2=2)∧((j6 T.length k (T.drop k) rows).2=0→(∀r∈(j6 T.length k (T.drop k) rows).1,cM T r)∧(j6 T.length k (T.drop k) rows).1.length≤256):=by
 intro k
 generalize hd:T.length-k=d
 induction d generalizing k with
 |zero=>
  intro rows h hl hk
  rw[List.drop_eq_nil_of_le (by omega),j6]
  exact⟨.inl rfl,λ_=>⟨h,hl⟩⟩
 |succ d ih=>
  intro rows h hl hk
  have hlt:k<T.length:=by omega
  obtain⟨g1,g2,g3,g4⟩:=rp (d:=(T[k],fJ T.length k)) hl
  rw[List.drop_eq_getElem_cons hlt,j6]
  split
  ·rename_i h0
   exact⟨.inr (g4.resolve_left h0),λh=>absurd h h0⟩
  ·exact ih (by omega) (λr hr=>(g3 r hr).elim (λe=>e▸cM.unit hlt hT) (h r)) g1 (by omega)
def yh (l:List aR) (fuel:Int):Int:=if(bj l).2≠0 then(bj l).2 else if fuel<0∨1048576<fuel then 1 else 0
theorem ED {l:List aR} {fuel:Int} (h64: ∀c∈l,bk c):
  (yh l fuel≠0→gO l fuel=([],false,yh l fuel))∧
  (yh l fuel=0→((gO l fuel).2.2≠0→ErF (gO l fuel).2.2∧(gO l fuel).1= []∧(gO l fuel).2.1=false)∧((gO l fuel).2.1=true→fk l (gO l fuel).1=0)∧((gO l fuel).2.1=false→(gO l fuel).1= [])):=by
 unfold gO yh
 by_cases h0:(bj l).2=0
 ·rw[if_neg (not_not_intro h0),if_neg (not_not_intro h0)]
  by_cases hf:fuel<0∨1048576<fuel
  ·rw[if_pos hf,if_pos hf]
   exact⟨λ_=>rfl,λh=>absurd h (by decide)⟩
  ·rw[if_neg hf,if_neg hf]
   refine⟨λh=>absurd rfl h,λ_=> ?_⟩
   have ht:bj l=((bj l).1,0):=Prod.ext rfl h0
   have hT:=vW ht h64
   have hlen:=(jb ht).1
   obtain⟨i1,i2⟩:=Ld hT (k:=0) (rows:= []) (by simp) (by simp) (Nat.zero_le _)
   rw[hlen,List.drop_zero]at i1 i2
   split
   ·rename_i h1
    exact⟨λ_=>⟨.inl (i1.resolve_left h1),rfl,rfl⟩,λh=>(by cases h),λ_=>rfl⟩
   ·rename_i h1
    obtain⟨j1,j2⟩:=i2 (Classical.not_not.1 h1)
    exact BY h0 j1 j2 (by omega)
 ·rw[if_pos h0,if_pos h0]
  exact⟨λ_=>rfl,λh=>absurd h h0⟩
theorem I6 {x:ByteArray→Int} {l:List aR} {b:List Int} (hl: ∀c∈l,holds (lR x) c):fk l b≠0:=by
 unfold fk
 split
 ·assumption
 ·rename_i h0
  split
  ·assumption
  ·rename_i h1
   have ht:bj l=((bj l).1,0):=Prod.ext rfl (Classical.not_not.1 h0)
   have hc:aL (bj l).1 b=((aL (bj l).1 b).1,0):=Prod.ext rfl (Classical.not_not.1 h1)
   rw[if_neg λhb=>NZ hb (Bm hc (Jd ht hl))]
   decide
theorem Nc {x:ByteArray→Int} {l:List aR} {fuel:Int} (h64: ∀c∈l,bk c) (hl: ∀c∈l,holds (lR x) c):(gO l fuel).2.1=false:=by
 obtain⟨h1,h2⟩:=ED (fuel:=fuel) h64
 by_cases h0:yh l fuel=0
 ·obtain⟨_,h4,_⟩:=h2 h0
  cases h:(gO l fuel).2.1 with
  |false=>rfl
  |true=>exact absurd (h4 h) (I6 hl)
 ·rw[h1 h0]
end
end Go.Proofs.YthbcbaembicdbaaGreatDoor
