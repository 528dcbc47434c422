import Derived.Test.YtigdjhnndaokjaaGreatDoorV01b
set_option linter.unusedVariables false
set_option linter.unusedSimpArgs false
set_option maxHeartbeats 4000000
set_option maxRecDepth 1000000
open Go.Proofs.Tryz renaming prog→Pa0
namespace Go.Proofs.YtigdjhnndaokjaaGreatDoor
open Go.Abs Go.RowKit
noncomputable section
def az (op:Int) (a b:Fr):Fr×Int:=
 if op<4∨op>10 then((0,0),1)else if ¬aS a∨op≠8∧ ¬aS b then((0,0),1)else
 if op=4 then jb a b else if op=5 then kf a b else if op=6 then iU a b else if op=7 then kZ a b else if op=8 then(fM a,0)else
 if(op=9∧dY a b>0)∨(op=10∧dY a b<0)then(b,0)else(a,0)
theorem Ib:ac Pa0 mN [rz] (Go.Abs.B true):=by
 refine ac.of xj zR6 λ_=>aa ?_
 conv in sr=>cbv
 exact zW1
theorem cG:ac Pa0 fg [rz] (I 0):=by
 refine ac.of lF zR6 λ_=>aa ?_
 conv in iw=>cbv
 repeat' first|simp(disch:=omega)only[go_sem]|((with_reducible refine ab ?_ ?_)<;>intro h<;>try first|omega|simp(disch:=omega)only[go_sem, *])|refine ak Ib ?_
variable {a:Fr}
theorem jv (ha:bD a):ac Pa0 mH [rz,eX a] (Go.Abs.B (decide (aS a))):=by
 refine ac.of xX zR6 λ_=>aa ?_
 conv in sE=>cbv
 repeat' first|simp(disch:=omega)only[go_sem]|((with_reducible refine ab ?_ ?_)<;>intro h<;>try first|omega|simp(disch:=omega)only[go_sem, *])|refine ak cG ?_|refine ak (bn ha) ?_
theorem Fm (ha:aS a):ac Pa0 lk [rz,eX a] (gh (fM a,0)):=by
 refine ac.of wz zR6 λ_=>aa ?_
 rw[fM,if_pos ha]
 obtain⟨o1,o2,o3,o4,_⟩:=id ha
 conv in kN=>cbv
 repeat' first|simp(disch:=omega)only[go_sem,wrap_i64,zG5]|((with_reducible refine ab ?_ ?_)<;>intro h<;>try first|omega|simp(disch:=omega)only[go_sem, *,wrap_i64,zG5])
variable {b:Fr}
theorem Eb (ha:aS a) (hb:aS b):ac Pa0 jB [rz,eX a,eX b] (I (dY a b)):=by
 refine ac.of tD zR6 λ_=>aa ?_
 have p1:=jv (ff ha)
 have p2:=jv (ff hb)
 simp only[ha,decide_true]at p1
 simp only[hb,decide_true]at p2
 conv in jw=>cbv
 repeat' first|simp(disch:=omega)only[go_sem]|((with_reducible refine ab ?_ ?_)<;>intro h<;>try first|omega|simp(disch:=omega)only[go_sem, *])|refine ak p1 ?_|refine ak p2 ?_|refine ak (md ha hb) ?_
variable {op:Int}
theorem zh (ha:bD a) (hb:bD b):ac Pa0 gi [I op,rz,eX a,eX b] (gh (if op=4 then jb a b else if op=5 then kf a b else if op=6 then iU a b else kZ a b)):=by
 refine ac.of ou zR6 λ_=>aa ?_
 conv in jI=>cbv
 repeat' first|simp(disch:=omega)only[go_sem]|((with_reducible refine ab ?_ ?_)<;>intro h<;>try first|omega|simp(disch:=omega)only[go_sem, *])|refine ak (oN ha hb) ?_|refine ak (oR ha hb) ?_|refine ak (li ha hb) ?_|refine ak (vz ha hb) ?_
 all_goals simp[*]
theorem wy (ha:bD a) (hb:bD b):ac Pa0 mZ [I op,rz,eX a,eX b] (gh (az op a b)):=by
 refine ac.of xF zR6 λ_=>aa ?_
 have p1:=jv ha
 have p2:=jv hb
 have p3:=zh (op:=op) ha hb
 conv in se=>cbv
 by_cases oa:aS a
 ·have q1:=Fm oa
  by_cases ob:aS b
  ·have q2:=Eb oa ob
   have q3:=Mt oa ob
   simp only[oa,decide_true]at p1
   simp only[ob,decide_true]at p2
   have hu:az op a b=if op<4∨op>10 then((0,0),1)else if op=8 then(fM a,0)else if op=9 then(if dY a b>0 then(b,0)else(a,0))else if op=10 then(if dY a b>0 then(a,0)else(b,0))else(if op=4 then jb a b else if op=5 then kf a b else if op=6 then iU a b else kZ a b):=by
    by_cases o1:op<4∨op>10
    ·simp[az,o1]
    ·have:op=4∨op=5∨op=6∨op=7∨op=8∨op=9∨op=10:=by omega
     rcases this with rfl|rfl|rfl|rfl|rfl|rfl|rfl
     ·simp[az,oa,ob]
     ·simp[az,oa,ob]
     ·simp[az,oa,ob]
     ·simp[az,oa,ob]
     ·simp[az,oa,ob]
     ·simp[az,oa,ob]
     ·rcases Int.lt_trichotomy (dY a b) 0 with hc|hc|hc
      ·have h1: ¬0<dY a b:=by omega
       simp[az,oa,ob,hc,h1]
      ·have h1:=q3 hc
       subst h1
       simp[az,oa,ob]
      ·have h1: ¬dY a b<0:=by omega
       simp[az,oa,ob,hc,h1]
   rw[hu]
   clear hu
   generalize dY a b=c at*
   have heq:c=0→a=b:=q3
   clear q3
   by_cases c0:c=0
   ·have:=heq c0
    subst this
    subst c0
    clear heq
    repeat' first|simp(disch:=omega)only[go_sem]|((with_reducible refine ab ?_ ?_)<;>intro h<;>try first|omega|simp(disch:=omega)only[go_sem, *])|refine ak cG ?_|refine ak p1 ?_|refine ak p2 ?_|refine ak p3 ?_|refine ak q1 ?_|refine ak q2 ?_
    all_goals first|(simp[*];done)|(exfalso;simp_all<;>omega)
   ·clear heq
    by_cases c1:c>0
    ·repeat' first|simp(disch:=omega)only[go_sem]|((with_reducible refine ab ?_ ?_)<;>intro h<;>try first|omega|simp(disch:=omega)only[go_sem, *])|refine ak cG ?_|refine ak p1 ?_|refine ak p2 ?_|refine ak p3 ?_|refine ak q1 ?_|refine ak q2 ?_
     all_goals first|(simp[*];done)|(exfalso;simp_all<;>omega)
    ·repeat' first|simp(disch:=omega)only[go_sem]|((with_reducible refine ab ?_ ?_)<;>intro h<;>try first|omega|simp(disch:=omega)only[go_sem, *])|refine ak cG ?_|refine ak p1 ?_|refine ak p2 ?_|refine ak p3 ?_|refine ak q1 ?_|refine ak q2 ?_
     all_goals first|(simp[*];done)|(exfalso;simp_all<;>omega)
  ·simp only[oa,decide_true]at p1
   simp only[ob,decide_false]at p2
   repeat' first|simp(disch:=omega)only[go_sem]|((with_reducible refine ab ?_ ?_)<;>intro h<;>try first|omega|simp(disch:=omega)only[go_sem, *])|refine ak cG ?_|refine ak p1 ?_|refine ak p2 ?_|refine ak p3 ?_|refine ak q1 ?_
   all_goals(simp[az, *]<;>omega)
 ·simp only[oa,decide_false]at p1
  repeat' first|simp(disch:=omega)only[go_sem]|((with_reducible refine ab ?_ ?_)<;>intro h<;>try first|omega|simp(disch:=omega)only[go_sem, *])|refine ak cG ?_|refine ak p1 ?_|refine ak p2 ?_|refine ak p3 ?_
  all_goals(simp[az, *]<;>omega)
theorem wm (ha:bD a):ac Pa0 mQ [rz,eX a] (Go.Abs.B (decide (aS a))):=by
 refine ac.of xM zR6 λ_=>aa ?_
 conv in sS=>cbv
 repeat' first|simp(disch:=omega)only[go_sem]|((with_reducible refine ab ?_ ?_)<;>intro h<;>try first|omega|simp(disch:=omega)only[go_sem, *])|refine ak ji ?_|refine ak (oD ha) ?_
theorem C7 (ha:aS a) (hb:aS b):ac Pa0 js [rz,eX a,eX b] (I (dY a b)):=by
 refine ac.of ul zR6 λ_=>aa ?_
 have p1:=wm (ff ha)
 have p2:=wm (ff hb)
 simp only[ha,decide_true]at p1
 simp only[hb,decide_true]at p2
 conv in nL=>cbv
 repeat' first|simp(disch:=omega)only[go_sem]|((with_reducible refine ab ?_ ?_)<;>intro h<;>try first|omega|simp(disch:=omega)only[go_sem, *])|refine ak p1 ?_|refine ak p2 ?_|refine ak (ld ha hb) ?_
theorem TG (oa:aS a) (ob:aS b):az op a b=if op<4∨op>10 then((0,0),1)else if op=8 then(fM a,0)else if op=9 then(if dY a b>0 then(b,0)else(a,0))else if op=10 then(if dY a b>0 then(a,0)else(b,0))else(if op=4 then jb a b else if op=5 then kf a b else if op=6 then iU a b else kZ a b):=by
 have q3:=Mt oa ob
 by_cases o1:op<4∨op>10
 ·simp[az,o1]
 ·have:op=4∨op=5∨op=6∨op=7∨op=8∨op=9∨op=10:=by omega
  rcases this with rfl|rfl|rfl|rfl|rfl|rfl|rfl
  ·simp[az,oa,ob]
  ·simp[az,oa,ob]
  ·simp[az,oa,ob]
  ·simp[az,oa,ob]
  ·simp[az,oa,ob]
  ·simp[az,oa,ob]
  ·rcases Int.lt_trichotomy (dY a b) 0 with hc|hc|hc
   ·have h1: ¬0<dY a b:=by omega
    simp[az,oa,ob,hc,h1]
   ·have h1:=q3 hc
    subst h1
    simp[az,oa,ob]
   ·have h1: ¬dY a b<0:=by omega
    simp[az,oa,ob,hc,h1]
theorem ww (ha:bD a) (hb:bD b):ac Pa0 mT [I op,rz,eX a,eX b] (gh (az op a b)):=by
 refine ac.of yd zR6 λ_=>aa ?_
 have p1:=oD ha
 have p2:=oD hb
 have q1:=sG ha
 conv in sv=>cbv
 by_cases oa:aS a
 ·by_cases ob:aS b
  ·have q2:=C7 oa ob
   rw[TG oa ob]
   generalize dY a b=c at*
   simp only[oa,decide_true]at p1
   simp only[ob,decide_true]at p2
   by_cases c1:c>0
   ·repeat' first|simp(disch:=omega)only[go_sem]|((with_reducible refine ab ?_ ?_)<;>intro h<;>try first|omega|simp(disch:=omega)only[go_sem, *])|refine ak ji ?_|refine ak p1 ?_|refine ak p2 ?_|refine ak q1 ?_|refine ak q2 ?_|refine ak (jo ha hb) ?_|refine ak (jk ha hb) ?_|refine ak (gH ha hb) ?_|refine ak (mJ ha hb) ?_
    all_goals first|(simp[*];done)|(by_cases h8:op=8<;>first|(exfalso;omega)|(simp[h8];done))|(exfalso;simp_all<;>omega)
   ·repeat' first|simp(disch:=omega)only[go_sem]|((with_reducible refine ab ?_ ?_)<;>intro h<;>try first|omega|simp(disch:=omega)only[go_sem, *])|refine ak ji ?_|refine ak p1 ?_|refine ak p2 ?_|refine ak q1 ?_|refine ak q2 ?_|refine ak (jo ha hb) ?_|refine ak (jk ha hb) ?_|refine ak (gH ha hb) ?_|refine ak (mJ ha hb) ?_
    all_goals first|(simp[*];done)|(by_cases h8:op=8<;>first|(exfalso;omega)|(simp[h8];done))|(exfalso;simp_all<;>omega)
  ·simp only[oa,decide_true]at p1
   simp only[ob,decide_false]at p2
   repeat' first|simp(disch:=omega)only[go_sem]|((with_reducible refine ab ?_ ?_)<;>intro h<;>try first|omega|simp(disch:=omega)only[go_sem, *])|refine ak ji ?_|refine ak p1 ?_|refine ak p2 ?_|refine ak q1 ?_
   all_goals(simp[az, *]<;>omega)
 ·simp only[oa,decide_false]at p1
  repeat' first|simp(disch:=omega)only[go_sem]|((with_reducible refine ab ?_ ?_)<;>intro h<;>try first|omega|simp(disch:=omega)only[go_sem, *])|refine ak ji ?_|refine ak p1 ?_|refine ak p2 ?_
  all_goals(simp[az, *]<;>omega)
abbrev Du:=Fr×Fr
abbrev dP (a:Du):List PC:= [pI a.1.1,pI a.1.2,pI a.2.1,pI a.2.2]
abbrev R2 (a:Du):AV:= .agg [.pure (pI a.1.1),.pure (pI a.1.2),.pure (pI a.2.1),.pure (pI a.2.2)]
abbrev TR (x:Du×Int):AV:= .tup [R2 x.1,I x.2]
def lR (a:Du):Prop:=aS a.1∧aS a.2
def qJ (a:Du):Prop:=bD a.1∧bD a.2
instance (a:Du):Decidable (lR a):=Classical.propDecidable _
theorem oC:bD (0,0):=⟨by unfold aH;simp,by unfold aH;simp⟩
theorem Th (r:Rat):bD (kY r).1:=by
 rw[kY]
 split
 ·exact ff (UY ‹_›)
 ·exact oC
theorem CX (f:Rat→Rat→Rat) (a b:Fr):bD (tg f a b).1:=by
 rw[tg]
 split
 ·exact oC
 ·exact Th _
theorem SE (a b:Fr):bD (kZ a b).1:=by
 rw[kZ]
 split
 ·exact oC
 ·split
  ·exact oC
  ·exact Th _
theorem DZ (a:Fr):bD (fM a):=by
 rw[fM]
 split
 ·rename_i h
  obtain⟨h1,h2,h3,h4,_⟩:=h
  exact⟨by unfold aH;simp only;omega,by unfold aH;simp only;omega⟩
 ·exact oC
theorem CI (op:Int) (ha:bD a) (hb:bD b):bD (az op a b).1:=by
 rw[az]
 repeat' split
 all_goals first
  |exact oC
  |exact CX _ _ _
  |exact SE _ _
  |exact DZ _
  |exact ha
  |exact hb
def rv (x:Fr×Int) (f:Fr→Fr×Int):Fr×Int:=if x.2≠0 then((0,0),x.2)else f x.1
def cg (op:Int) (a b:Du) (v:Fr):Fr×Int:=
 if op=4 then jb a.2 b.2 else if op=5 then kf a.2 b.2 else
 if op=6 then rv (iU a.2 b.1) λx=>rv (iU a.1 b.2) λy=>jb x y else
 if op=7 then rv (iU v b.2) λx=>rv (kf a.2 x) λy=>kZ y b.1 else
 if op=8 then(fM a.2,0)else
 if(op=9∧dY a.1 b.1>0)∨(op=10∧dY a.1 b.1<0)then(b.2,0)else(a.2,0)
def bi (op:Int) (a b:Du):Du×Int:=
 if op<4∨op>10∨ ¬lR a∨(op≠8∧ ¬lR b)then(((0,0),(0,0)),1)else
 if(az op a.1 b.1).2≠0 then(((0,0),(0,0)),(az op a.1 b.1).2)else
 if(cg op a b (az op a.1 b.1).1).2≠0 then(((0,0),(0,0)),(cg op a b (az op a.1 b.1).1).2)else
 (((az op a.1 b.1).1,(cg op a b (az op a.1 b.1).1).1),0)
theorem qF {a:Du} (ha:qJ a):ac Pa0 kW [R2 a] (Go.Abs.B (decide (lR a))):=by
 refine ac.of BX zR6 λ_=>aa ?_
 have p1:=bn ha.1
 have p2:=bn ha.2
 conv in rp=>cbv
 by_cases h1:aS a.1<;>by_cases h2:aS a.2<;>simp only[h1,h2,decide_true,decide_false]at p1 p2
 all_goals
  repeat' first|simp(disch:=omega)only[go_sem]|((with_reducible refine ab ?_ ?_)<;>intro h<;>try first|omega|simp(disch:=omega)only[go_sem, *])|refine ak p1 ?_|refine ak p2 ?_
  all_goals simp[lR, *]
theorem nA {a:Du} (ha:qJ a):ac Pa0 sY [R2 a] (Go.Abs.B (decide (lR a))):=by
 refine ac.of Mx zR6 λ_=>aa ?_
 have p1:=bH ha.1
 have p2:=bH ha.2
 conv in A6=>cbv
 by_cases h1:aS a.1<;>by_cases h2:aS a.2<;>simp only[h1,h2,decide_true,decide_false]at p1 p2
 all_goals
  repeat' first|simp(disch:=omega)only[go_sem]|((with_reducible refine ab ?_ ?_)<;>intro h<;>try first|omega|simp(disch:=omega)only[go_sem, *])|refine ak p1 ?_|refine ak p2 ?_
  all_goals simp[lR, *]
theorem qe:ac Pa0 lK [] rz:=by
 refine ac.of D1 zR6 λ_=>aa ?_
 conv in tN=>cbv
 exact zW1
theorem eN:ac Pa0 vc [] rz:=by
 refine ac.of NP zR6 λ_=>aa ?_
 conv in Ef=>cbv
 exact zW1
theorem bG:ac Pa0 ye [] (eX (0,1)):=by
 refine ac.of QN zR6 λ_=>aa ?_
 conv in GS=>cbv
 exact zW1
theorem lL (n:Int):ac Pa0 qm [I n] (R2 ((n,1),(0,1))):=by
 refine ac.of Hp zR6 λ_=>aa ?_
 conv in zC=>cbv
 exact zW1
theorem ud (a b:Fr):bD (iU a b).1:=CX _ a b
theorem Le (a b:Fr):bD (kf a b).1:=CX _ a b
theorem Tv (a b:Fr):bD (jb a b).1:=CX _ a b
theorem ux {a b:Du} {v:Fr} (h4:4≤op) (K:op≤10) (ha:lR a) (z:qJ a) (hb:op≠8→lR b) (A:qJ b) (hv:bD v):ac Pa0 ql [I op,R2 a,R2 b,eX v] (gh (cg op a b v)):=by
 refine ac.of IP zR6 λ_=>aa ?_
 have p1:=oN z.2 A.2
 have p2:=oR z.2 A.2
 have p3:=li z.2 A.1
 have p4:=li z.1 A.2
 have p5:=oN (ud a.2 b.1) (ud a.1 b.2)
 have p6:=li hv A.2
 have p7:=oR z.2 (ud v b.2)
 have p8:=vz (Le a.2 (iU v b.2).1) A.1
 have p9:=Qr z.2
 conv in zj=>cbv
 have M:op=4∨op=5∨op=6∨op=7∨op=8∨op=9∨op=10:=by omega
 rcases M with rfl|rfl|rfl|rfl|rfl|h9
 ·repeat' first|simp(disch:=omega)only[go_sem]|((with_reducible refine ab ?_ ?_)<;>intro h<;>try first|omega|simp(disch:=omega)only[go_sem, *])|refine ak p1 ?_
  all_goals simp[cg]
 ·repeat' first|simp(disch:=omega)only[go_sem]|((with_reducible refine ab ?_ ?_)<;>intro h<;>try first|omega|simp(disch:=omega)only[go_sem, *])|refine ak p2 ?_
  all_goals simp[cg]
 ·repeat' first|simp(disch:=omega)only[go_sem]|((with_reducible refine ab ?_ ?_)<;>intro h<;>try first|omega|simp(disch:=omega)only[go_sem, *])|refine ak p3 ?_|refine ak p4 ?_|refine ak p5 ?_
  all_goals simp[cg,rv, *]
 ·repeat' first|simp(disch:=omega)only[go_sem]|((with_reducible refine ab ?_ ?_)<;>intro h<;>try first|omega|simp(disch:=omega)only[go_sem, *])|refine ak p6 ?_|refine ak p7 ?_|refine ak p8 ?_
  all_goals simp[cg,rv, *]
 ·repeat' first|simp(disch:=omega)only[go_sem]|((with_reducible refine ab ?_ ?_)<;>intro h<;>try first|omega|simp(disch:=omega)only[go_sem, *])|refine ak p9 ?_
  all_goals simp[cg]
 ·have p10:=md ha.1 (hb zR5).1
  have hE:cg op a b v=if(op=9∧dY a.1 b.1>0)∨(op=10∧dY a.1 b.1<0)then(b.2,0)else(a.2,0):=by
   rcases h9 with rfl|rfl<;>simp[cg]
  rw[hE]
  clear p1 p2 p3 p4 p5 p6 p7 p8 p9 hE
  generalize dY a.1 b.1=c at*
  rcases h9 with rfl|rfl
  ·by_cases c1:c>0
   ·have c2: ¬c<0:=by omega
    have c3: ¬c=0:=by omega
    repeat' first|simp(disch:=omega)only[go_sem,c1,c2,c3]|((with_reducible refine ab ?_ ?_)<;>intro h<;>try first|omega|simp(disch:=omega)only[go_sem, *,c1,c2,c3])|refine ak p10 ?_
    all_goals simp[*]
   ·by_cases c3:c=0
    ·subst c3
     repeat' first|simp(disch:=omega)only[go_sem]|((with_reducible refine ab ?_ ?_)<;>intro h<;>try first|omega|simp(disch:=omega)only[go_sem, *])|refine ak p10 ?_
     all_goals simp[*]
    ·have c2:c<0:=by omega
     repeat' first|simp(disch:=omega)only[go_sem,c1,c2,c3]|((with_reducible refine ab ?_ ?_)<;>intro h<;>try first|omega|simp(disch:=omega)only[go_sem, *,c1,c2,c3])|refine ak p10 ?_
     all_goals simp[*]
  ·by_cases c1:c<0
   ·have c2: ¬c>0:=by omega
    have c3: ¬c=0:=by omega
    repeat' first|simp(disch:=omega)only[go_sem,c1,c2,c3]|((with_reducible refine ab ?_ ?_)<;>intro h<;>try first|omega|simp(disch:=omega)only[go_sem, *,c1,c2,c3])|refine ak p10 ?_
    all_goals simp[*]
   ·by_cases c3:c=0
    ·subst c3
     repeat' first|simp(disch:=omega)only[go_sem]|((with_reducible refine ab ?_ ?_)<;>intro h<;>try first|omega|simp(disch:=omega)only[go_sem, *])|refine ak p10 ?_
     all_goals simp[*]
    ·have c2:c>0:=by omega
     repeat' first|simp(disch:=omega)only[go_sem,c1,c2,c3]|((with_reducible refine ab ?_ ?_)<;>intro h<;>try first|omega|simp(disch:=omega)only[go_sem, *,c1,c2,c3])|refine ak p10 ?_
     all_goals simp[*]
theorem qX {a b:Du} {v:Fr} (h4:4≤op) (K:op≤10) (ha:lR a) (z:qJ a) (hb:op≠8→lR b) (A:qJ b) (hv:bD v):ac Pa0 nV [I op,R2 a,R2 b,eX v] (gh (cg op a b v)):=by
 refine ac.of F6 zR6 λ_=>aa ?_
 have p1:=jo z.2 A.2
 have p2:=jk z.2 A.2
 have p3:=gH z.2 A.1
 have p4:=gH z.1 A.2
 have p5:=jo (ud a.2 b.1) (ud a.1 b.2)
 have p6:=gH hv A.2
 have p7:=jk z.2 (ud v b.2)
 have p8:=mJ (Le a.2 (iU v b.2).1) A.1
 have p9:=sG z.2
 conv in wK=>cbv
 have M:op=4∨op=5∨op=6∨op=7∨op=8∨op=9∨op=10:=by omega
 rcases M with rfl|rfl|rfl|rfl|rfl|h9
 ·repeat' first|simp(disch:=omega)only[go_sem]|((with_reducible refine ab ?_ ?_)<;>intro h<;>try first|omega|simp(disch:=omega)only[go_sem, *])|refine ak p1 ?_
  all_goals simp[cg]
 ·repeat' first|simp(disch:=omega)only[go_sem]|((with_reducible refine ab ?_ ?_)<;>intro h<;>try first|omega|simp(disch:=omega)only[go_sem, *])|refine ak p2 ?_
  all_goals simp[cg]
 ·repeat' first|simp(disch:=omega)only[go_sem]|((with_reducible refine ab ?_ ?_)<;>intro h<;>try first|omega|simp(disch:=omega)only[go_sem, *])|refine ak p3 ?_|refine ak p4 ?_|refine ak p5 ?_
  all_goals simp[cg,rv, *]
 ·repeat' first|simp(disch:=omega)only[go_sem]|((with_reducible refine ab ?_ ?_)<;>intro h<;>try first|omega|simp(disch:=omega)only[go_sem, *])|refine ak p6 ?_|refine ak p7 ?_|refine ak p8 ?_
  all_goals simp[cg,rv, *]
 ·repeat' first|simp(disch:=omega)only[go_sem]|((with_reducible refine ab ?_ ?_)<;>intro h<;>try first|omega|simp(disch:=omega)only[go_sem, *])|refine ak p9 ?_
  all_goals simp[cg]
 ·have p10:=ld ha.1 (hb zR5).1
  have hE:cg op a b v=if(op=9∧dY a.1 b.1>0)∨(op=10∧dY a.1 b.1<0)then(b.2,0)else(a.2,0):=by
   rcases h9 with rfl|rfl<;>simp[cg]
  rw[hE]
  clear p1 p2 p3 p4 p5 p6 p7 p8 p9 hE
  generalize dY a.1 b.1=c at*
  rcases h9 with rfl|rfl
  ·by_cases c1:c>0
   ·have c2: ¬c<0:=by omega
    have c3: ¬c=0:=by omega
    repeat' first|simp(disch:=omega)only[go_sem,c1,c2,c3]|((with_reducible refine ab ?_ ?_)<;>intro h<;>try first|omega|simp(disch:=omega)only[go_sem, *,c1,c2,c3])|refine ak p10 ?_
    all_goals simp[*]
   ·by_cases c3:c=0
    ·subst c3
     repeat' first|simp(disch:=omega)only[go_sem]|((with_reducible refine ab ?_ ?_)<;>intro h<;>try first|omega|simp(disch:=omega)only[go_sem, *])|refine ak p10 ?_
     all_goals simp[*]
    ·have c2:c<0:=by omega
     repeat' first|simp(disch:=omega)only[go_sem,c1,c2,c3]|((with_reducible refine ab ?_ ?_)<;>intro h<;>try first|omega|simp(disch:=omega)only[go_sem, *,c1,c2,c3])|refine ak p10 ?_
     all_goals simp[*]
  ·by_cases c1:c<0
   ·have c2: ¬c>0:=by omega
    have c3: ¬c=0:=by omega
    repeat' first|simp(disch:=omega)only[go_sem,c1,c2,c3]|((with_reducible refine ab ?_ ?_)<;>intro h<;>try first|omega|simp(disch:=omega)only[go_sem, *,c1,c2,c3])|refine ak p10 ?_
    all_goals simp[*]
   ·by_cases c3:c=0
    ·subst c3
     repeat' first|simp(disch:=omega)only[go_sem]|((with_reducible refine ab ?_ ?_)<;>intro h<;>try first|omega|simp(disch:=omega)only[go_sem, *])|refine ak p10 ?_
     all_goals simp[*]
    ·have c2:c>0:=by omega
     repeat' first|simp(disch:=omega)only[go_sem,c1,c2,c3]|((with_reducible refine ab ?_ ?_)<;>intro h<;>try first|omega|simp(disch:=omega)only[go_sem, *,c1,c2,c3])|refine ak p10 ?_
     all_goals simp[*]
theorem kB {a b:Du} (ha:qJ a) (hb:qJ b):ac Pa0 v8 [I op,R2 a,R2 b] (TR (bi op a b)):=by
 refine ac.of Ox zR6 λ_=>aa ?_
 have p1:=qF ha
 have p2:=qF hb
 conv in EW=>cbv
 by_cases D:op<4∨op>10
 ·rw[bi,if_pos zR5]
  rcases D with h|h
  ·exact zW1
  ·exact zW1
 have h4: ¬op<4:=by omega
 have K: ¬op>10:=by omega
 by_cases oa:lR a
 ·simp only[oa,decide_true]at p1
  by_cases h8:op=8
  ·have hd:bi op a b=if(cg op a b (az op a.1 b.1).1).2≠0 then(((0,0),(0,0)),(cg op a b (az op a.1 b.1).1).2)else(((az op a.1 b.1).1,(cg op a b (az op a.1 b.1).1).1),0):=by
    rw[bi,if_neg (by simp[h4,K,oa,h8]),if_neg (by simp[az,h8,oa.1])]
   rw[hd]
   have e1:az op a.1 b.1=(fM a.1,0):=by subst h8;simp[az,oa.1]
   have e2: ∀v,cg op a b v=(fM a.2,0):=by intro v;subst h8;simp[cg]
   rw[e2,e1]
   have q1:=wy (op:=op) ha.1 ha.1
   have q2:=ux (op:=op) (a:=a) (b:=a) (v:=(fM a.1)) zR5 zR5 oa ha zR5 ha (DZ _)
   have e1':az op a.1 (a).1=(fM a.1,0):=by subst h8;simp[az,oa.1]
   have e2': ∀v,cg op a a v=(fM a.2,0):=by intro v;subst h8;simp[cg]
   rw[e1']at q1
   rw[e2']at q2
   clear e1 e2 e1' e2' hd D p2
   subst h8
   repeat' first|simp(disch:=omega)only[go_sem]|((with_reducible refine ab ?_ ?_)<;>intro h<;>try first|omega|simp(disch:=omega)only[go_sem, *])|refine ak p1 ?_|refine ak qe ?_|refine ak q1 ?_|refine ak q2 ?_
   rw[if_neg zR6]
  ·by_cases ob:lR b
   ·simp only[ob,decide_true]at p2
    have hd:bi op a b=if(az op a.1 b.1).2≠0 then(((0,0),(0,0)),(az op a.1 b.1).2)else if(cg op a b (az op a.1 b.1).1).2≠0 then(((0,0),(0,0)),(cg op a b (az op a.1 b.1).1).2)else(((az op a.1 b.1).1,(cg op a b (az op a.1 b.1).1).1),0):=by
     rw[bi,if_neg (by simp[h4,K,oa,ob])]
    rw[hd]
    have q1:=wy (op:=op) ha.1 hb.1
    have q2:=ux (op:=op) (a:=a) (b:=b) (v:=(az op a.1 b.1).1) zR5 zR5 oa ha (λ_=>ob) hb (CI op ha.1 hb.1)
    generalize az op a.1 b.1=F at*
    generalize cg op a b F.1=T at*
    clear D hd
    repeat' first|simp(disch:=omega)only[go_sem,h8]|((with_reducible refine ab ?_ ?_)<;>intro h<;>try first|omega|simp(disch:=omega)only[go_sem, *,h8])|refine ak p1 ?_|refine ak p2 ?_|refine ak qe ?_|refine ak q1 ?_|refine ak q2 ?_
    all_goals simp[*]
   ·simp only[ob,decide_false]at p2
    rw[bi,if_pos (.inr (.inr (.inr ⟨h8,ob⟩)))]
    exact zX9
 ·simp only[oa,decide_false]at p1
  rw[bi,if_pos (.inr (.inr (.inl oa)))]
  exact zY3
theorem jC {a b:Du} (ha:qJ a) (hb:qJ b):ac Pa0 sZ [I op,R2 a,R2 b] (TR (bi op a b)):=by
 refine ac.of Kx zR6 λ_=>aa ?_
 have p1:=nA ha
 have p2:=nA hb
 conv in Ba=>cbv
 by_cases D:op<4∨op>10
 ·rw[bi,if_pos zR5]
  rcases D with h|h
  ·exact zW1
  ·exact zW1
 have h4: ¬op<4:=by omega
 have K: ¬op>10:=by omega
 by_cases oa:lR a
 ·simp only[oa,decide_true]at p1
  by_cases h8:op=8
  ·have hd:bi op a b=if(cg op a b (az op a.1 b.1).1).2≠0 then(((0,0),(0,0)),(cg op a b (az op a.1 b.1).1).2)else(((az op a.1 b.1).1,(cg op a b (az op a.1 b.1).1).1),0):=by
    rw[bi,if_neg (by simp[h4,K,oa,h8]),if_neg (by simp[az,h8,oa.1])]
   rw[hd]
   have e1:az op a.1 b.1=(fM a.1,0):=by subst h8;simp[az,oa.1]
   have e2: ∀v,cg op a b v=(fM a.2,0):=by intro v;subst h8;simp[cg]
   rw[e2,e1]
   have q1:=ww (op:=op) ha.1 hb.1
   have q2:=qX (op:=op) (a:=a) (b:=b) (v:=(fM a.1)) zR5 zR5 oa ha zR5 hb (DZ _)
   have e1':az op a.1 (b).1=(fM a.1,0):=by subst h8;simp[az,oa.1]
   have e2': ∀v,cg op a b v=(fM a.2,0):=by intro v;subst h8;simp[cg]
   rw[e1']at q1
   rw[e2']at q2
   clear e1 e2 e1' e2' hd D p2
   subst h8
   repeat' first|simp(disch:=omega)only[go_sem]|((with_reducible refine ab ?_ ?_)<;>intro h<;>try first|omega|simp(disch:=omega)only[go_sem, *])|refine ak p1 ?_|refine ak eN ?_|refine ak q1 ?_|refine ak q2 ?_
   rw[if_neg zR6]
  ·by_cases ob:lR b
   ·simp only[ob,decide_true]at p2
    have hd:bi op a b=if(az op a.1 b.1).2≠0 then(((0,0),(0,0)),(az op a.1 b.1).2)else if(cg op a b (az op a.1 b.1).1).2≠0 then(((0,0),(0,0)),(cg op a b (az op a.1 b.1).1).2)else(((az op a.1 b.1).1,(cg op a b (az op a.1 b.1).1).1),0):=by
     rw[bi,if_neg (by simp[h4,K,oa,ob])]
    rw[hd]
    have q1:=ww (op:=op) ha.1 hb.1
    have q2:=qX (op:=op) (a:=a) (b:=b) (v:=(az op a.1 b.1).1) zR5 zR5 oa ha (λ_=>ob) hb (CI op ha.1 hb.1)
    generalize az op a.1 b.1=F at*
    generalize cg op a b F.1=T at*
    clear D hd
    repeat' first|simp(disch:=omega)only[go_sem,h8]|((with_reducible refine ab ?_ ?_)<;>intro h<;>try first|omega|simp(disch:=omega)only[go_sem, *,h8])|refine ak p1 ?_|refine ak p2 ?_|refine ak eN ?_|refine ak q1 ?_|refine ak q2 ?_
    all_goals simp[*]
   ·simp only[ob,decide_false]at p2
    rw[bi,if_pos (.inr (.inr (.inr ⟨h8,ob⟩)))]
    exact zX9
 ·simp only[oa,decide_false]at p1
  rw[bi,if_pos (.inr (.inr (.inl oa)))]
  exact zY3
theorem DM (n:Int):ac Pa0 nE [I n] (I (if n=1 then 4 else if n=2 then 6 else if n=3 then 9 else if n=4 then 10 else 0)):=by
 refine ac.of F5 zR6 λ_=>aa ?_
 conv in wv=>cbv
 repeat' first|simp(disch:=omega)only[go_sem]|((with_reducible refine ab ?_ ?_)<;>intro h<;>try first|omega|simp(disch:=omega)only[go_sem, *])
 all_goals simp[*]
theorem B0 (n:Int):ac Pa0 lV [I n] (I (if n=1 then 4 else if n=2 then 6 else if n=3 then 9 else if n=4 then 10 else 0)):=by
 refine ac.of Fe zR6 λ_=>aa ?_
 conv in tB=>cbv
 repeat' first|simp(disch:=omega)only[go_sem]|((with_reducible refine ab ?_ ?_)<;>intro h<;>try first|omega|simp(disch:=omega)only[go_sem, *])
 all_goals simp[*]
def Ah (n:Int):Int:=if n=1 then 4 else if n=2 then 6 else if n=3 then 9 else if n=4 then 10 else 0
def dV (op:Int):Du→List Du→Du×Int
 |out, []=>(out,0)
 |out,x::r=>if(bi op out x).2≠0 then(((0,0),(0,0)),(bi op out x).2)else dV op (bi op out x).1 r
def hZ (fold:Int):List Du→Du×Int
 | []=>if fold=1 then(((0,1),(0,1)),0)else if fold=2 then(((1,1),(0,1)),0)else(((0,0),(0,0)),1)
 |x::r=>if Ah fold=0∨(r= []∧ ¬lR x)then(((0,0),(0,0)),1)else dV (Ah fold) x r
theorem C3 {x:Fr×Int} {f:Fr→Fr×Int} (h: ∀v,bD (f v).1):bD (rv x f).1:=by
 rw[rv]
 split
 ·exact oC
 ·exact h _
theorem Ye (op:Int) {a b:Du} (ha:qJ a) (hb:qJ b) (v:Fr):bD (cg op a b v).1:=by
 rw[cg]
 repeat' split
 all_goals first
  |exact Tv _ _
  |exact Le _ _
  |exact C3 λx=>C3 λy=>Tv _ _
  |exact C3 λx=>C3 λy=>SE _ _
  |exact DZ _
  |exact ha.2
  |exact hb.2
theorem uN (op:Int) {a b:Du} (ha:qJ a) (hb:qJ b):qJ (bi op a b).1:=by
 rw[bi]
 repeat' split
 all_goals first
  |exact⟨oC,oC⟩
  |exact⟨CI _ ha.1 hb.1,Ye _ ha hb _⟩
theorem U9 {xs:List Du} (h:fB (bF dP xs)):xs.length≤9223372036854775807:=by simpa[fB,f5]using h
abbrev aa9 (a:Du):List AC:= [.pure (pI a.1.1),.pure (pI a.1.2),.pure (pI a.2.1),.pure (pI a.2.2)]
abbrev acZ:List AC:= [.pure (pI 0),.pure (pI 0),.pure (pI 0),.pure (pI 0)]
variable {fold:Int}{l:List Du}
theorem IF (hl: ∀x∈l,qJ x):ac Pa0 td [I fold,bF dP l] (TR (hZ fold l)):=by
 refine ac.of KV zR6 λhb=>aa ?_
 have J:=U9 hb.2.1
 have po:=DM fold
 change ac _ _ _ (I (Ah fold))at po
 conv in Bz=>cbv
 cases l with
 |nil=>
  have h0:Ah fold=0→ ¬fold=1∧ ¬fold=2:=by
   intro h;unfold Ah at h;constructor<;>rintro rfl<;>simp at h
  rw[hZ]
  by_cases f1:fold=1
  ·subst f1
   have e:Ah 1=4:=rfl
   rw[e]at po
   exact zY4
  ·by_cases f2:fold=2
   ·subst f2
    have e:Ah 2=6:=rfl
    rw[e]at po
    exact zY4
   ·rw[if_neg f1,if_neg f2]
    generalize Ah fold=op at*
    clear h0
    repeat' first|simp(disch:=omega)only[go_sem,f1,f2]|((with_reducible refine ab ?_ ?_)<;>intro h<;>try first|omega|simp(disch:=omega)only[go_sem, *,f1,f2])|refine ak po ?_|refine ak bG ?_
 |cons x r=>
  have hx:=hl x zC5
  have hr: ∀y∈r,qJ y:= λy hy=>hl y (zC3 _ hy)
  have px:=qF hx
  simp only[zG2]at J
  rw[hZ]
  generalize D:Ah fold=op at*
  by_cases o0:op=0
  ·rw[if_pos (.inl o0)]
   subst o0
   exact zY9
  ·by_cases w:r= []∧ ¬lR x
   ·rw[if_pos (.inr w)]
    obtain⟨rfl,X⟩:=w
    simp only[X,decide_false]at px
    exact zX6
   ·rw[if_neg (by rintro(h|h);exact o0 h;exact w h)]
    obtain⟨R,hR⟩: ∃R,R=dV op x r:=⟨_,rfl⟩
    rw[←hR]
    have HR:=Lib.hid hR
    clear hR hl hb
    have G:dO 4 (dP x::List.map dP r):=aD (f:=dP) (l:=x::r) λ_=>rfl
    have O:List.take r.length (List.map dP r)=List.map dP r:=by rw[zB6 zR6]
    by_cases V:lR x
    ·simp only[V,decide_true]at px
     clear w
     repeat' first|simp(disch:=omega)only[go_sem,o0,zB3,zK6,zA8,zD3,G]|((with_reducible refine ab ?_ ?_)<;>intro h<;>try first|omega|simp(disch:=omega)only[go_sem, *,o0,zB3,zK6,zA8,zD3,G])|refine ak po ?_|refine ak px ?_
     all_goals
      clear h
      refine al (λs:Nat×Du=>⟨[(4,.c (.ptr 0 0)),(6,I op),(7,.c (.ptr 1 0)),(63,bF dP r),(64,I r.length),(65,I s.1)], [(0,.var acZ),(1,.var (aa9 s.2))],2,0⟩) (λs=>s.1≤r.length∧qJ s.2∧Hid (R=dV op s.2 (r.drop s.1))) (λs=>r.length-s.1) ⟨(0,x), [],⟨zE6 _,hx,HR⟩,by simp[O]⟩ ?_
      rintro⟨k,out⟩ ⟨hk,o,HR⟩
      refine aa ?_
      simp only at hk o HR
      by_cases g:k<r.length
      ·have hy:=hr _ (zA6 g)
       have pa:=kB (op:=op) o hy
       have N:=uN op o hy
       have HR':Hid (R=if(bi op out r[k]).2≠0 then(((0,0),(0,0)),(bi op out r[k]).2)else dV op (bi op out r[k]).1 (r.drop (k+1))):=by
        have:=HR.out
        rwa [zC0 g,dV]at this
       clear HR
       generalize bi op out r[k]=Y at*
       by_cases e:Y.2=0
       ·have h2:Hid (R=dV op Y.1 (r.drop (k+1))):=by
         have:=HR'.out
         rwa [if_neg (by simp[e])]at this
        clear HR'
        repeat' first|simp(disch:=omega)only[go_sem,ae g,wrap_i64]|((with_reducible refine ab ?_ ?_)<;>intro h<;>try first|omega|simp(disch:=omega)only[go_sem, *,ae g,wrap_i64])|refine ak pa ?_
        exact⟨(k+1,Y.1), [],⟨g,N,h2⟩,by show _-_<_-_;omega,by simp⟩
       ·have h2:=HR'.out
        rw[if_pos e]at h2
        subst h2
        exact zX8
      ·have h2:=HR.out
       rw[zD6 zR5,dV]at h2
       subst h2
       exact zW1
    ·have hF:0<r.length:=zH7.2 λh=>w ⟨h,V⟩
     clear w
     repeat' first|simp(disch:=omega)only[go_sem,o0,zB3,zK6,zA8,zD3,G]|((with_reducible refine ab ?_ ?_)<;>intro h<;>try first|omega|simp(disch:=omega)only[go_sem, *,o0,zB3,zK6,zA8,zD3,G])|refine ak po ?_|refine ak px ?_
     clear h
     refine al (λs:Nat×Du=>⟨[(4,.c (.ptr 0 0)),(6,I op),(7,.c (.ptr 1 0)),(63,bF dP r),(64,I r.length),(65,I s.1)], [(0,.var acZ),(1,.var (aa9 s.2))],2,0⟩) (λs=>s.1≤r.length∧qJ s.2∧Hid (R=dV op s.2 (r.drop s.1))) (λs=>r.length-s.1) ⟨(0,x), [],⟨zE6 _,hx,HR⟩,by simp[O]⟩ ?_
     rintro⟨k,out⟩ ⟨hk,o,HR⟩
     refine aa ?_
     simp only at hk o HR
     by_cases g:k<r.length
     ·have hy:=hr _ (zA6 g)
      have pa:=kB (op:=op) o hy
      have N:=uN op o hy
      have HR':Hid (R=if(bi op out r[k]).2≠0 then(((0,0),(0,0)),(bi op out r[k]).2)else dV op (bi op out r[k]).1 (r.drop (k+1))):=by
       have:=HR.out
       rwa [zC0 g,dV]at this
      clear HR
      generalize bi op out r[k]=Y at*
      by_cases e:Y.2=0
      ·have h2:Hid (R=dV op Y.1 (r.drop (k+1))):=by
        have:=HR'.out
        rwa [if_neg (by simp[e])]at this
       clear HR'
       repeat' first|simp(disch:=omega)only[go_sem,ae g,wrap_i64]|((with_reducible refine ab ?_ ?_)<;>intro h<;>try first|omega|simp(disch:=omega)only[go_sem, *,ae g,wrap_i64])|refine ak pa ?_
       exact⟨(k+1,Y.1), [],⟨g,N,h2⟩,by show _-_<_-_;omega,by simp⟩
      ·have h2:=HR'.out
       rw[if_pos e]at h2
       subst h2
       exact zX8
     ·have h2:=HR.out
      rw[zD6 zR5,dV]at h2
      subst h2
      exact zW1
theorem Ge (hl: ∀x∈l,qJ x):ac Pa0 o9 [I fold,bF dP l] (TR (hZ fold l)):=by
 refine ac.of IR zR6 λhb=>aa ?_
 have J:=U9 hb.2.1
 have po:=B0 fold
 change ac _ _ _ (I (Ah fold))at po
 conv in yy=>cbv
 cases l with
 |nil=>
  have h0:Ah fold=0→ ¬fold=1∧ ¬fold=2:=by
   intro h;unfold Ah at h;constructor<;>rintro rfl<;>simp at h
  rw[hZ]
  by_cases f1:fold=1
  ·subst f1
   have e:Ah 1=4:=rfl
   rw[e]at po
   exact zY0
  ·by_cases f2:fold=2
   ·subst f2
    have e:Ah 2=6:=rfl
    rw[e]at po
    exact zY0
   ·rw[if_neg f1,if_neg f2]
    generalize Ah fold=op at*
    clear h0
    repeat' first|simp(disch:=omega)only[go_sem,f1,f2]|((with_reducible refine ab ?_ ?_)<;>intro h<;>try first|omega|simp(disch:=omega)only[go_sem, *,f1,f2])|refine ak po ?_|refine ak (lL _) ?_
 |cons x r=>
  have hx:=hl x zC5
  have hr: ∀y∈r,qJ y:= λy hy=>hl y (zC3 _ hy)
  have px:=nA hx
  simp only[zG2]at J
  rw[hZ]
  generalize D:Ah fold=op at*
  by_cases o0:op=0
  ·rw[if_pos (.inl o0)]
   subst o0
   exact zY9
  ·by_cases w:r= []∧ ¬lR x
   ·rw[if_pos (.inr w)]
    obtain⟨rfl,X⟩:=w
    simp only[X,decide_false]at px
    exact zX6
   ·rw[if_neg (by rintro(h|h);exact o0 h;exact w h)]
    obtain⟨R,hR⟩: ∃R,R=dV op x r:=⟨_,rfl⟩
    rw[←hR]
    have HR:=Lib.hid hR
    clear hR hl hb
    have G:dO 4 (dP x::List.map dP r):=aD (f:=dP) (l:=x::r) λ_=>rfl
    have O:List.take r.length (List.map dP r)=List.map dP r:=by rw[zB6 zR6]
    by_cases V:lR x
    ·simp only[V,decide_true]at px
     clear w
     repeat' first|simp(disch:=omega)only[go_sem,o0,zB3,zK6,zA8,zD3,G]|((with_reducible refine ab ?_ ?_)<;>intro h<;>try first|omega|simp(disch:=omega)only[go_sem, *,o0,zB3,zK6,zA8,zD3,G])|refine ak po ?_|refine ak px ?_
     all_goals
      clear h
      refine al (λs:Nat×Du=>⟨[(4,.c (.ptr 0 0)),(6,I op),(7,.c (.ptr 1 0)),(1,bF dP (x::r)),(8,I (s.1+1))], [(0,.var acZ),(1,.var (aa9 s.2))],2,0⟩) (λs=>s.1≤r.length∧qJ s.2∧Hid (R=dV op s.2 (r.drop s.1))) (λs=>r.length-s.1) ⟨(0,x), [],⟨zE6 _,hx,HR⟩,by simp[O]⟩ ?_
      rintro⟨k,out⟩ ⟨hk,o,HR⟩
      refine aa ?_
      simp only at hk o HR
      have e1:((k:Int)+1).toNat=k+1:=by omega
      by_cases g:k<r.length
      ·have hy:=hr _ (zA6 g)
       have pa:=jC (op:=op) o hy
       have N:=uN op o hy
       have HR':Hid (R=if(bi op out r[k]).2≠0 then(((0,0),(0,0)),(bi op out r[k]).2)else dV op (bi op out r[k]).1 (r.drop (k+1))):=by
        have:=HR.out
        rwa [zC0 g,dV]at this
       clear HR
       generalize bi op out r[k]=Y at*
       by_cases e:Y.2=0
       ·have h2:Hid (R=dV op Y.1 (r.drop (k+1))):=by
         have:=HR'.out
         rwa [if_neg (by simp[e])]at this
        clear HR'
        repeat' first|simp(disch:=omega)only[go_sem,e1,ae g,wrap_i64]|((with_reducible refine ab ?_ ?_)<;>intro h<;>try first|omega|simp(disch:=omega)only[go_sem, *,e1,ae g,wrap_i64])|refine ak pa ?_
        exact⟨(k+1,Y.1), [],⟨g,N,h2⟩,by show _-_<_-_;omega,by simp⟩
       ·have h2:=HR'.out
        rw[if_pos e]at h2
        subst h2
        exact zX7
      ·have h2:=HR.out
       rw[zD6 zR5,dV]at h2
       subst h2
       exact zW1
    ·have hF:0<r.length:=zH7.2 λh=>w ⟨h,V⟩
     clear w
     repeat' first|simp(disch:=omega)only[go_sem,o0,zB3,zK6,zA8,zD3,G]|((with_reducible refine ab ?_ ?_)<;>intro h<;>try first|omega|simp(disch:=omega)only[go_sem, *,o0,zB3,zK6,zA8,zD3,G])|refine ak po ?_|refine ak px ?_
     clear h
     refine al (λs:Nat×Du=>⟨[(4,.c (.ptr 0 0)),(6,I op),(7,.c (.ptr 1 0)),(1,bF dP (x::r)),(8,I (s.1+1))], [(0,.var acZ),(1,.var (aa9 s.2))],2,0⟩) (λs=>s.1≤r.length∧qJ s.2∧Hid (R=dV op s.2 (r.drop s.1))) (λs=>r.length-s.1) ⟨(0,x), [],⟨zE6 _,hx,HR⟩,by simp[O]⟩ ?_
     rintro⟨k,out⟩ ⟨hk,o,HR⟩
     refine aa ?_
     simp only at hk o HR
     have e1:((k:Int)+1).toNat=k+1:=by omega
     by_cases g:k<r.length
     ·have hy:=hr _ (zA6 g)
      have pa:=jC (op:=op) o hy
      have N:=uN op o hy
      have HR':Hid (R=if(bi op out r[k]).2≠0 then(((0,0),(0,0)),(bi op out r[k]).2)else dV op (bi op out r[k]).1 (r.drop (k+1))):=by
       have:=HR.out
       rwa [zC0 g,dV]at this
      clear HR
      generalize bi op out r[k]=Y at*
      by_cases e:Y.2=0
      ·have h2:Hid (R=dV op Y.1 (r.drop (k+1))):=by
        have:=HR'.out
        rwa [if_neg (by simp[e])]at this
       clear HR'
       repeat' first|simp(disch:=omega)only[go_sem,e1,ae g,wrap_i64]|((with_reducible refine ab ?_ ?_)<;>intro h<;>try first|omega|simp(disch:=omega)only[go_sem, *,e1,ae g,wrap_i64])|refine ak pa ?_
       exact⟨(k+1,Y.1), [],⟨g,N,h2⟩,by show _-_<_-_;omega,by simp⟩
      ·have h2:=HR'.out
       rw[if_pos e]at h2
       subst h2
       exact zX7
     ·have h2:=HR.out
      rw[zD6 zR5,dV]at h2
      subst h2
      exact zW1
variable {n:Int}
theorem OH (h: -2147483647≤n∧n≤2147483647):eE n 1=((n,1),0):=by
 rw[CV zR9]
 have e:Nat.gcd n.natAbs (1:Int).natAbs=1:=Nat.gcd_one_right _
 rw[e,Nat.div_one,Nat.div_one,if_neg zR8]
 by_cases hn:n<0
 ·simp[hn];omega
 ·simp[hn];omega
theorem e9 (h: -2147483647≤n∧n≤2147483647):aS (n,1):=⟨by simp,by simp,h.1,h.2,Nat.gcd_one_right _⟩
theorem OX {m:Int} (hm: -2147483647≤m∧m≤2147483647) (hn: -2147483647≤n∧n≤2147483647) (h: -2147483647≤m*n∧m*n≤2147483647):iU (m,1) (n,1)=((m*n,1),0):=by
 rw[K5 (e9 hm) (e9 hn)]
 exact OH h
theorem W5 {m:Int} (hm: -2147483647≤m∧m≤2147483647) (hn: -2147483647≤n∧n≤2147483647) (h: -2147483647≤m+n∧m+n≤2147483647):jb (m,1) (n,1)=((m+n,1),0):=by
 rw[LS (e9 hm) (e9 hn)]
 simp only[zQ3]
 exact OH h
theorem aaA:bi 6 ((2,1),(1,1)) ((3,1),(0,1))=(((6,1),(3,1)),0):=by
 have o1:lR ((2,1),(1,1)):=⟨e9 zR5,e9 zR5⟩
 have o2:lR ((3,1),(0,1)):=⟨e9 zR5,e9 zR5⟩
 have e1:az 6 (2,1) (3,1)=((6,1),0):=by simp[az,o1.1,o2.1,OX]
 have e2:cg 6 ((2,1),(1,1)) ((3,1),(0,1)) (6,1)=((3,1),0):=by simp[cg,rv,OX,W5]
 simp[bi,o1,o2,e1,e2]
theorem Ei (n d:Int):ac Pa0 nH [I n,I d] (R2 ((n,1),(d,1))):=by
 refine ac.of Fp zR6 λ_=>aa ?_
 conv in wQ=>cbv
 exact zW1
theorem I6:ac Pa0 sj [] (Go.Abs.B true):=by
 refine ac.of J8 zR6 λ_=>aa ?_
 have p:=kB (op:=6) (a:=((2,1),(1,1))) (b:=((3,1),(0,1))) ⟨ff (e9 zR5),ff (e9 zR5)⟩ ⟨ff (e9 zR5),ff (e9 zR5)⟩
 rw[aaA]at p
 conv in A0=>cbv
 repeat' first|simp(disch:=omega)only[go_sem]|((with_reducible refine ab ?_ ?_)<;>intro h<;>try first|omega|simp(disch:=omega)only[go_sem, *])|apply af|(with_reducible refine ag (λh=> ?_) ?_)|refine ak (Ei _ _) ?_|refine ak p ?_
 all_goals first
  |rfl
  |decide
  |simp[*]
end
end Go.Proofs.YtigdjhnndaokjaaGreatDoor
namespace Go.Abs
open Go.RowKit Go.WideShapes
noncomputable section
inductive OkX (l:List TS):PC→Prop
 |mk {rows:List (List PC)} (hm:rows.length≤maxLen) (h0: ∀r∈rows,r.length=l.length+1) (h1: ∀r∈rows,∀(i:Nat) s p,l[i]? =some s→r[i]? =some p→Ik s p) (h2: ∀r∈rows,∀p,r[l.length]? =some p→OkX l p):OkX l (.slice rows)
inductive TE where
 |t (s:TS)
 |ex (l:List TS)
 |sl (l:List TE)
inductive OkE:TE→PC→Prop
 |t {s:TS} {p:PC} (h:Ik s p):OkE (.t s) p
 |ex {l:List TS} {p:PC} (h:OkX l p):OkE (.ex l) p
 |sl {l:List TE} {rows:List (List PC)} (hm:rows.length≤maxLen) (hl: ∀r∈rows,r.length=l.length) (h: ∀(r:List PC),r∈rows→ ∀(i:Nat) s p,l[i]? =some s→r[i]? =some p→OkE s p):OkE (.sl l) (.slice rows)
def FI (l:List TE) (ps:List PC):Prop:=ps.length=l.length∧ ∀(i:Nat) s p,l[i]? =some s→ps[i]? =some p→OkE s p
theorem FI.append {l l':List TE} {ps ps':List PC} (h:FI l ps) (h':FI l' ps'):FI (l++l') (ps++ps'):=by
 refine⟨by simp[h.1,h'.1],λi s p hs hp=> ?_⟩
 by_cases hi:i<l.length
 ·rw[zD8 hi]at hs
  rw[zD8 (by rw[h.1];exact hi)]at hp
  exact h.2 i s p hs hp
 ·rw[zD9 zR5]at hs
  rw[zD9 (by rw[h.1];omega),h.1]at hp
  exact h'.2 _ s p hs hp
theorem FI.one {s:TE} {p:PC} (h:OkE s p):FI [s] [p]:=by
 refine⟨rfl,λi s' p' hs hp=> ?_⟩
 cases i with
 |zero=>simp at hs hp;subst hs;subst hp;exact h
 |succ i=>simp at hs
theorem FI.of {l:List TS} {ps:List PC} (h:FL l ps):FI (l.map .t) ps:=by
 refine⟨by simpa using h.1,λi s p hs hp=> ?_⟩
 rw[zC7]at hs
 obtain⟨s0,h0,rfl⟩:=zC1.1 hs
 exact .t (h.2 i s0 p h0 hp)
def ZB (P:Program) (f:TypeId→Option (List TE)):List Field→Nat→Nat→Option (List TE)
 | [],k,m=>if k=m then some []else none
 |fd::r,k,m=>if fd.offset=k then match f fd.type with
  |some l=>if l.length=P.cellsOf fd.type then match ZB P f r (k+l.length) m with
   |some l'=>some (l++l')
   |none=>none else none
  |none=>none else none
def shE (P:Program) (E:TypeId) (lE:List TS):Nat→TypeId→Option (List TE)
 |0,_=>none
 |n+1,t=>match Uv P 9 t with
  |some l=>some (l.map .t)
  |none=>match P.underlying t with
   |some (.slice e)=>if e=E then some [.ex lE]else match shE P E lE n e with
    |some l=>if l.length=P.cellsOf e then some [.sl l]else none
    |none=>none
   |some (.struct fs)=>ZB P (shE P E lE n) fs.toList 0 (P.cellsOf t)
   |_=>none
section
variable {H : Type} {enc : TypeId × Value → H} {P : Program} {W : World} {base : Nat} {sp : Nat → Bool} {C : Bool}
theorem Gn {f:TypeId→Option (List TE)} {n:Nat} {cs:List Value} (ih: ∀t l cs x,f t=some l→DataW.trod enc P W base sp C n t cs=some x→ ∃ps,bf (d6 W OC) ps cs∧FI l ps):
  ∀{fs:List Field} {k m:Nat} {l:List TE},ZB P f fs k m=some l→cs.length=m→(∀fd∈fs,∃x,DataW.trod enc P W base sp C n fd.type ((cs.drop fd.offset).take (P.cellsOf fd.type))=some x)→
   ∃ps,bf (d6 W OC) ps (cs.drop k)∧FI l ps
 |[],k,m,l,h,hm,_=>by
  unfold ZB at h
  split at h
  ·cases h
   refine⟨[], ?_,rfl,λi s p hs=>by simp at hs⟩
   rw[zD6 zR5]
   exact .nil
  ·cases h
 |fd::fs,k,m,l,h,hm,hx=>by
  unfold ZB at h
  split at h
  ·rename_i e
   split at h
   ·rename_i l1 h1
    split at h
    ·rename_i hc
     split at h
     ·rename_i l2 h2
      cases h
      obtain⟨x,hG⟩:=hx fd zC5
      obtain⟨p1,g1,g2⟩:=ih _ _ _ _ h1 hG
      obtain⟨p2,g3,g4⟩:=Gn ih h2 hm λfd h=>hx fd (zC3 _ h)
      refine⟨p1++p2, ?_,g2.append g4⟩
      have:cs.drop k=(cs.drop k).take (P.cellsOf fd.type)++cs.drop (k+l1.length):=by
       rw[hc,←zK0,zF1]
      rw[this]
      subst e
      exact g1.append g3
     ·cases h
    ·cases h
   ·cases h
  ·cases h
theorem O6 {Q:List PC→Prop} {e t:TypeId} {fuel:Nat} {cs:List Value} {x:DataW H×List MemPlace} (ht:P.underlying t=some (.slice e)) (hr:DataW.trod enc P W base sp C fuel t cs=some x)
  (ih: ∀n cs x,n<fuel→DataW.trod enc P W base sp C n e cs=some x→ ∃ps,bf (d6 W OC) ps cs∧ps.length=P.cellsOf e∧Q ps):
  ∃rows,bf (d6 W OC) [.slice rows] cs∧rows.length≤maxLen∧ ∀r∈rows,r.length=P.cellsOf e∧Q r:=by
 rcases DataW.trod_slice ht hr with⟨rfl,_⟩|⟨a,len,cap,elems,rest,n,rfl,rfl,_,_,hI,hJ,J,hK,_,_⟩
 ·exact⟨[],.cons (.slice (sz:=0) (λ_ _=>undef) rfl (zB2 _) zR6 (λi row h=>by simp at h) (λi row j p h=>by simp at h) (λi row j p h=>by simp at h)) .nil,by simp,λr h=>by cases h⟩
 ·have hA: ∀i,i<len→ ∃x:List PC×List Value,W.cells? base (a.add (i*P.cellsOf e)) (P.cellsOf e)=some x.2∧bf (d6 W OC) x.1 x.2∧x.1.length=P.cellsOf e∧Q x.1:=by
   intro i hi
   have h1:=hK i hi
   rw[zA7 zR5]at h1
   obtain⟨cs',h2,h3⟩:=zI5.1 h1
   obtain⟨ps,h4,h5⟩:=ih n _ _ zR5 h3
   exact⟨(ps,cs'),h2,h4,h5⟩
  obtain⟨L,hL,hQ⟩:=PK hA
  have row: ∀(i:Nat) r,(L.map Prod.fst)[i]? =some r→ ∃c,L[i]? =some (r,c)∧W.cells? base (a.add (i*P.cellsOf e)) (P.cellsOf e)=some c∧bf (d6 W OC) r c∧r.length=P.cellsOf e∧Q r:=by
   intro i r hr
   rw[zC7]at hr
   obtain⟨y,hy,rfl⟩:=zC1.1 hr
   exact⟨y.2,hy,hQ i y hy⟩
  unfold maxLen at hJ
  refine⟨L.map Prod.fst,.cons (.slice (sz:=P.cellsOf e) (λi j=>(((L[i]?).map Prod.snd).getD []).getD j undef) (by simp[hL]) hI zR5 ?_ ?_ ?_) .nil,by unfold maxLen;simp[hL];omega, ?_⟩
  ·intro i r hr
   obtain⟨c,_,_,_,h5⟩:=row i r hr
   exact h5.1
  ·intro i r j p hr hp
   obtain⟨c,h1,h2,h3,h5⟩:=row i r hr
   obtain⟨v,hv,_⟩:=h3.get hp
   obtain⟨_,h6,h7⟩:=World.cells?_some h2
   have hj:j<P.cellsOf e:=by
    have:=(zB7.1 hv).1
    omega
   have h8:=h7 j hj
   rw[hv]at h8
   obtain⟨b,off,spot⟩:=a
   have Z:spot=none:=by
    have hM:0<L.length:=by
     have:=(zB7.1 h1).1
     omega
    obtain⟨g1,_,_⟩:=hQ 0 L[0] (zA7 hM)
    obtain⟨_,g2,g3⟩:=World.cells?_some g1
    have g4:=g3 0 zR5
    rw[zA7 zR5]at g4
    simpa[Addr.add]using World.cell?_spot g4
   subst Z
   rw[add_plain,add_plain]at h8
   refine⟨b,off,rfl,trivial, ?_⟩
   rw[←zN1,h8]
   simp[h1,hv]
  ·intro i r j p hr hp
   obtain⟨c,h1,h2,h3,h5⟩:=row i r hr
   obtain⟨v,hv,hB⟩:=h3.get hp
   simpa[h1,hv]using hB
  ·intro r hr
   obtain⟨i,hi⟩:=zI0.1 hr
   obtain⟨c,_,_,_,h5⟩:=row i r hi
   exact h5
variable {E:TypeId}{lE:List TS}{SF:Nat}
theorem WY (hE:shE P E lE SF E=some (lE.map .t++ [.ex lE])) (hc:P.cellsOf E=lE.length+1): ∀(fuel:Nat) {sf:Nat} {t:TypeId} {l:List TE} {cs:List Value} {x:DataW H×List MemPlace},shE P E lE sf t=some l→DataW.trod enc P W base sp C fuel t cs=some x→ ∃ps,bf (d6 W OC) ps cs∧FI l ps:=by
 intro fuel
 induction fuel using Nat.strongRecOn with
 |ind fuel ih=>
  intro sf t l cs x h hr
  cases sf with
  |zero=>cases h
  |succ sf=>
   unfold shE at h
   split at h
   ·rename_i l0 h0
    cases h
    obtain⟨ps,h1,h2⟩:=Dw h0 hr
    exact⟨ps,h1,.of h2⟩
   ·split at h
    ·rename_i e ht
     split at h
     ·rename_i he
      subst he
      cases h
      obtain⟨rows,g1,g2,g3⟩:=O6 (Q:= λps=>FI (lE.map .t++ [.ex lE]) ps) ht hr λn cs x hn hx=>by
       obtain⟨ps,k1,k2⟩:=ih n hn hE hx
       exact⟨ps,k1,by rw[k2.1,hc];simp,k2⟩
      refine⟨[.slice rows],g1,.one (.ex (.mk g2 (λr hr=>by rw[(g3 r hr).1,hc]) (λr hr i s p hs hp=> ?_) (λr hr p hp=> ?_)))⟩
      ·have:=(g3 r hr).2.2 i (.t s) p (by rw[zD8 (by simpa using(zB7.1 hs).1),zC7,hs];rfl) hp
       cases this with
       |t h=>exact h
      ·have:=(g3 r hr).2.2 lE.length (.ex lE) p (by rw[zD9 zR6];simp) hp
       cases this with
       |ex h=>exact h
     ·split at h
      ·rename_i l' hN
       split at h
       ·rename_i hC
        cases h
        obtain⟨rows,g1,g2,g3⟩:=O6 (Q:= λps=>FI l' ps) ht hr λn cs x hn hx=>by
         obtain⟨ps,k1,k2⟩:=ih n hn hN hx
         exact⟨ps,k1,by rw[k2.1,hC],k2⟩
        exact⟨[.slice rows],g1,.one (.sl g2 (λr hr=>by rw[(g3 r hr).1,hC]) λr hr=>(g3 r hr).2.2)⟩
       ·cases h
      ·cases h
    ·rename_i fs ht
     obtain⟨xs,n,hn,_,hl,J,hf⟩:=DataW.trod_struct ht hr
     have:=Gn (n:=n) (λt l cs x h hx=>ih n zR5 h hx) h hl λfd hP=>by
      obtain⟨i,hi⟩:=zI0.1 hP
      have h1:=hf i fd zS7
      have hS:i<xs.length:=by
       have:=(zB7.1 hi).1
       simp at this
       omega
      exact⟨xs[i],by rw[h1,zA7 hS]⟩
     simpa using this
    ·cases h
theorem Y7 (hE:shE P E lE SF E=some (lE.map .t++ [.ex lE])) (hc:P.cellsOf E=lE.length+1) {r:Reach} {b0:Nat} {t:TypeId} {fs:Array Field} {v:Value} {d:DataW H} {p:List MemPlace} {sf:Nat} {l:List TE} (ht:P.underlying t=some (.struct fs)) (hs:shE P E lE sf t=some l) (hD:Value.okWide P W r b0 t v) (h:DataW.Trod enc P W base sp C t v d p):
  ∃ps,FI l ps∧aT W OC (λ_=>undef) 0 (.agg (ps.map .pure)) v:=by
 obtain⟨fuel,hf⟩:=h
 obtain⟨ps,h1,h2⟩:=WY hE hc fuel hs hf
 refine⟨ps,h2, ?_⟩
 obtain⟨cs,rfl,_⟩:=okWide_struct ht hD
 have h1:bf (d6 W OC) ps cs.toList:=h1
 refine .agg (bf.of_get (by simpa using h1.length) λi x v hi hv=> ?_)
 simp only[zC7,zC1]at hi
 obtain⟨q,hq,rfl⟩:=hi
 obtain⟨u,hu,hr⟩:=h1.get hq
 have:u=v:=by
  rw[hv]at hu
  cases hu
  rfl
 subst this
 exact .pure hr
end
end
end Go.Abs
