import Derived.Test.YtigdjhnndaokjaaGreatDoorVRnl
set_option linter.unusedVariables false
set_option linter.unusedSimpArgs false
set_option maxHeartbeats 4000000
set_option maxRecDepth 1000000
open Go.Proofs.Tryz renaming prog→Pa0
namespace Go.Proofs.YtigdjhnndaokjaaGreatDoor
open Go.Abs Go.RowKit
variable {t:Ty}{a:Fr}
theorem G4 (h:aK t a) (h2:t.1≠2): -2147483647≤a.1∧a.1≤2147483647:=by
 unfold aK at h
 rw[if_neg h2]at h
 split at h
 ·exact h.2
 ·exact⟨h.2.2.1,h.2.2.2.1⟩
variable {op:Int}
theorem Ac {b:Fr} (ho:4≤op∧op≤7) (ht:cj t) (ha:aK t a) (hb:aK t b) (ia:bD a) (ib:bD b):ac Pa0 gi [I op,mj t,eX a,eX b] (gh (gp op t a b)):=by
 refine ac.of ou zR6 λ_=>aa ?_
 have h5:op=4∨op=5∨op=6∨op=7:=by omega
 conv in jI=>cbv
 by_cases h3:t.1=3
 ·have p:=Gm ho (G4 ha zR5) (G4 hb zR5)
  have e:gp op t a b=ny op a.1 b.1:=by
   unfold gp
   rw[if_neg zR5,if_neg zR5,if_neg zR5,if_pos h3]
  rw[e]
  generalize ny op a.1 b.1=v at*
  obtain⟨⟨v1,v2⟩,v3⟩:=v
  obtain⟨k,c,f,m,o⟩:=t
  obtain rfl:k=3:=h3
  clear ht ha hb ia ib e h5 ho
  exact zW6
 ·by_cases h2:t.1=2
  ·have hf:fc t.2.1 t.2.2.1 t.2.2.2.1 t.2.2.2.2:=ht.elim (λh'=>by omega) λh'=>h'.2
   have g:qN t a:=by unfold aK at ha;rwa [if_pos h2]at ha
   have i:qN t b:=by unfold aK at hb;rwa [if_pos h2]at hb
   have e:gp op t a b=c9 t op a.1 b.1:=by
    unfold gp
    rw[if_neg zR5,if_neg zR5,if_neg zR5,if_neg h3,if_pos h2]
   rw[e]
   rcases h5 with rfl|rfl|rfl|rfl
   ·have p:=Qa h2 hf g i
    generalize c9 t 4 a.1 b.1=v at*
    obtain⟨⟨v1,v2⟩,v3⟩:=v
    obtain⟨k,c,f,m,o⟩:=t
    obtain rfl:k=2:=h2
    clear ht ha hb ia ib e ho g i hf h3
    exact zW6
   ·have p:=QB h2 hf g i
    generalize c9 t 5 a.1 b.1=v at*
    obtain⟨⟨v1,v2⟩,v3⟩:=v
    obtain⟨k,c,f,m,o⟩:=t
    obtain rfl:k=2:=h2
    clear ht ha hb ia ib e ho g i hf h3
    exact zW6
   ·have p:=Qb h2 hf g i
    generalize c9 t 6 a.1 b.1=v at*
    obtain⟨⟨v1,v2⟩,v3⟩:=v
    obtain⟨k,c,f,m,o⟩:=t
    obtain rfl:k=2:=h2
    clear ht ha hb ia ib e ho g i hf h3
    exact zW6
   ·have p:=Qw h2 hf g i
    generalize c9 t 7 a.1 b.1=v at*
    obtain⟨⟨v1,v2⟩,v3⟩:=v
    obtain⟨k,c,f,m,o⟩:=t
    obtain rfl:k=2:=h2
    clear ht ha hb ia ib e ho g i hf h3
    exact zW6
  ·have e:gp op t a b=oA op a b:=by
    unfold gp
    rw[if_neg zR5,if_neg zR5,if_neg zR5,if_neg h3,if_neg h2]
   rw[e]
   unfold oA
   have p1:=oN ia ib
   have p2:=oR ia ib
   have p3:=li ia ib
   have p4:=vz ia ib
   obtain⟨k,c,f,m,o⟩:=t
   have h2: ¬k=2:=h2
   have h3: ¬k=3:=h3
   clear ht ha hb ia ib e ho
   rcases h5 with rfl|rfl|rfl|rfl
   ·rw[if_pos rfl]
    generalize jb a b=v at*
    obtain⟨⟨v1,v2⟩,v3⟩:=v
    repeat' first|simp(disch:=omega)only[go_sem, *,h2,h3]|apply ab<;>intro h<;>try omega|refine ak p1 ?_
   ·rw[if_neg zR9,if_pos rfl]
    generalize kf a b=v at*
    obtain⟨⟨v1,v2⟩,v3⟩:=v
    repeat' first|simp(disch:=omega)only[go_sem, *,h2,h3]|apply ab<;>intro h<;>try omega|refine ak p2 ?_
   ·rw[if_neg zR9,if_neg zR9,if_pos rfl]
    generalize iU a b=v at*
    obtain⟨⟨v1,v2⟩,v3⟩:=v
    repeat' first|simp(disch:=omega)only[go_sem, *,h2,h3]|apply ab<;>intro h<;>try omega|refine ak p3 ?_
   ·rw[if_neg zR9,if_neg zR9,if_neg zR9]
    generalize kZ a b=v at*
    obtain⟨⟨v1,v2⟩,v3⟩:=v
    repeat' first|simp(disch:=omega)only[go_sem, *,h2,h3]|apply ab<;>intro h<;>try omega|refine ak p4 ?_
set_option maxRecDepth 20000
set_option maxRecDepth 1000000
theorem yJ {b:Fr} (ho:4≤op∧op≤10) (ht:cj t) (ha:aK t a) (hb:aK t b):ac Pa0 mZ [I op,mj t,eX a,eX b] (gh (gp op t a b)):=by
 refine ac.of xF zR6 λ_=>aa ?_
 have ia:=dt ht ha
 have ib:=dt ht hb
 have pt:=bt t
 rw[if_pos ht]at pt
 have p1:=de ht ia
 have p2:=de ht ib
 rw[zB1 ha]at p1
 rw[zB1 hb]at p2
 conv in se=>cbv
 by_cases h8:op=8
 ·subst h8
  have e:gp 8 t a b=gp 8 t a (0,1):=by simp[gp]
  have p:=Ic ht ha
  rw[e]
  generalize gp 8 t a (0,1)=v at*
  obtain⟨⟨v1,v2⟩,v3⟩:=v
  obtain⟨k,c,f,m,o⟩:=t
  clear ht ha hb ia ib e ho
  exact zZ6
 ·by_cases h9:op=9∨op=10
  ·have p:=uo ht ha hb ia ib
   unfold gp
   rw[if_neg h8]
   generalize rL t a b=n at*
   obtain⟨k,c,f,m,o⟩:=t
   obtain⟨a1,a2⟩:=a
   obtain⟨b1,b2⟩:=b
   clear ht ha hb ia ib ho
   rcases h9 with rfl|rfl
   ·rw[if_pos rfl]
    by_cases hn:0<n
    ·rw[if_pos hn]
     have q: ¬n=0:=by omega
     repeat' first|simp(disch:=omega)only[go_sem, *,hn,q]|apply ab<;>intro h<;>try omega|refine ak pt ?_|refine ak p1 ?_|refine ak p2 ?_|refine ak p ?_
    ·rw[if_neg hn]
     repeat' first|simp(disch:=omega)only[go_sem, *,hn]|apply ab<;>intro h<;>try omega|refine ak pt ?_|refine ak p1 ?_|refine ak p2 ?_|refine ak p ?_
   ·rw[if_neg zR9,if_pos rfl]
    by_cases hn:n<0
    ·rw[if_pos hn]
     have q: ¬n=0:=by omega
     have u: ¬0<n:=by omega
     exact zZ1
    ·rw[if_neg hn]
     by_cases q:n=0
     ·subst q
      clear hn
      exact zZ6
     ·have u:0<n:=by omega
      exact zZ1
  ·have p:=Ac (op:=op) zR5 ht ha hb ia ib
   have g1: ¬op=9:= λh=>h9 (.inl h)
   have g2: ¬op=10:= λh=>h9 (.inr h)
   obtain⟨o1,o2⟩:=ho
   have o3: ¬op<4:=by omega
   have o4: ¬10<op:=by omega
   generalize gp op t a b=v at*
   obtain⟨⟨v1,v2⟩,v3⟩:=v
   obtain⟨k,c,f,m,o⟩:=t
   clear ht ha hb ia ib h9 o1 o2
   repeat' first|simp(disch:=omega)only[go_sem, *,h8,g1,g2,o3,o4]|apply ab<;>intro h<;>try omega|refine ak pt ?_|refine ak p1 ?_|refine ak p2 ?_|refine ak p ?_
theorem abt {n d:Int} (hd:0<d):n.tmod d<0↔n<n.tdiv d*d:=by
 have:=Int.mul_tdiv_add_tmod n d
 rw[zG6]at this
 omega
variable {x:Fr}
theorem KI (h:aS x):ac Pa0 vA [eX x] (I (x.1/x.2)):=by
 refine ac.of Ob zR6 λ_=>aa ?_
 have p1:=bn (ff h)
 rw[zB1 h]at p1
 obtain⟨a,b⟩:=x
 obtain⟨h1,h2,h3,h4,_⟩:=h
 simp only at h1 h2 h3 h4 ⊢
 obtain⟨e,_⟩:=qc (n:=a) (d:=b) zR5
 have hl:=abt (n:=a) (d:=b) zR5
 have hq:(a.tdiv b).natAbs≤a.natAbs:=by rw[Int.natAbs_tdiv];exact zH8 _ _
 have hr:(a.tmod b).natAbs≤a.natAbs:=by rw[Int.natAbs_tmod];exact Nat.mod_le _ _
 have v1:IntKind.wrap .i64 (a.tdiv b)=a.tdiv b:=wrap_i64 zR5
 have v2:IntKind.wrap .i64 (a.tmod b)=a.tmod b:=wrap_i64 zR5
 have v3:IntKind.wrap .i64 (a.tdiv b-1)=a.tdiv b-1:=wrap_i64 zR5
 have A: ¬b=0:=by omega
 conv in DV=>cbv
 rw[e]
 by_cases hz:a.tmod b<0
 ·rw[if_pos (hl.1 hz)]
  clear e hl hq hr h1 h2 h3 h4
  exact yB9
 ·rw[if_neg (mt hl.2 hz)]
  clear e hl hq hr h1 h2 h3 h4
  exact yB9
theorem BV {f how:Int} (h:aS x) (hf:0≤f∧f≤30) (hh:1≤how∧how≤4):ac Pa0 mi [eX x,I f,I how] (.tup [I (Ax (x.1*gy f) x.2 how),I 0]):=by
 refine ac.of CZ zR6 λ_=>aa ?_
 have p1:=bn (ff h)
 rw[zB1 h]at p1
 have p2:=xU hh
 obtain⟨a,b⟩:=x
 obtain⟨h1,h2,h3,h4,_⟩:=h
 simp only at h1 h2 h3 h4 ⊢
 have hs:=uQ hf.1 hf.2
 have m:=acn (a:=a) (b:=gy f) ⟨h3,h4⟩ hs
 have p:=lU (n:=a*gy f) (d:=b) (how:=how) ⟨by omega,by omega⟩ ⟨by omega,by omega⟩ hh
 rw[if_neg zR5,if_neg zR5,X4,if_neg zR5]at p
 have w:IntKind.wrap .i64 (a*gy f)=a*gy f:=wrap_i64 zR5
 have w2:IntKind.wrap .u64 f=f:=wrap_u64 zR5
 have e1:(2:Int)^(min f.toNat 64)=gy f:=by rw[gy,zI8 zR5]
 obtain⟨f1,f2⟩:=hf
 have g1: ¬f<0:=by omega
 have g2: ¬30<f:=by omega
 clear h1 h2 h3 h4 hs m hh f2
 conv in ue=>cbv
 repeat' first|simp(disch:=omega)only[go_sem, *,w,w2,e1,g1,g2,f1]|apply ab<;>intro h<;>try omega|refine ak p1 ?_|refine ak p2 ?_|refine ak p ?_
theorem DR (h0:t.1=2) (ht:fc t.2.1 t.2.2.1 t.2.2.2.1 t.2.2.2.2) (hx:aS x):ac Pa0 l9 [mj t,eX x] (gh ((MY t.2.1 t.2.2.2.2 (Ax (x.1*gy t.2.2.1) x.2 t.2.2.2.1),1),0)):=by
 refine ac.of Dz zR6 λ_=>aa ?_
 have p1:=eQ t
 rw[if_pos ⟨h0,ht⟩]at p1
 have p2:=BV hx ⟨ht.2.2.1,ht.2.2.2.1⟩ ⟨ht.2.2.2.2.1,ht.2.2.2.2.2.1⟩
 have p3:=bn (ff hx)
 rw[zB1 hx]at p3
 have p4:=wW (n:=Ax (x.1*gy t.2.2.1) x.2 t.2.2.2.1) ht
 generalize Ax (x.1*gy t.2.2.1) x.2 t.2.2.2.1=n at*
 generalize MY t.2.1 t.2.2.2.2 n=r at*
 obtain⟨k,c,f,m,o⟩:=t
 obtain⟨a,b⟩:=x
 clear h0 ht hx
 conv in tS=>cbv
 repeat' first|simp(disch:=omega)only[go_sem, *]|apply ab<;>intro h<;>try omega|refine ak p1 ?_|refine ak p2 ?_|refine ak p3 ?_|refine ak p4 ?_
theorem IC (h0:t.1=2) (ht:fc t.2.1 t.2.2.1 t.2.2.2.1 t.2.2.2.2) (ha:qN t a):ac Pa0 qo [mj t,eX a] (gh (eE a.1 (gy t.2.2.1))):=by
 refine ac.of Ir zR6 λ_=>aa ?_
 have p1:=yt (xs:= [a]) h0 ht (λx hx=>by rw[zG1.1 hx];exact ha) zR6
 have hs:=uQ ht.2.2.1 ht.2.2.2.1
 have hh:=fi ht.1 ht.2.1
 have p2:=lb (n:=a.1) (d:=gy t.2.2.1) (by have:=ha.2;unfold aH;omega) zS5
 have w2:IntKind.wrap .i64 (gy t.2.2.1)=gy t.2.2.1:=wrap_i64 zR5
 have C:=ht.2.2.2.1
 have e1:(2:Int)^(min (t.2.2.1).toNat 64)=gy t.2.2.1:=by rw[gy,zI8 zR5]
 have hf:=ht.2.2.1
 generalize eE a.1 (gy t.2.2.1)=v at*
 obtain⟨⟨v1,v2⟩,v3⟩:=v
 obtain⟨k,c,f,m,o⟩:=t
 obtain⟨a1,a2⟩:=a
 clear h0 ht ha hs hh C
 simp only at p2 w2 e1 hf
 conv in zM=>cbv
 repeat' first|simp(disch:=omega)only[go_sem, *,w2,e1,zJ0,hf]|apply ab<;>intro h<;>try omega|refine dH p1 ?_|refine ak p2 ?_
variable {v:Fr}
theorem E7 (ht:cj t) (hv:aK t v):ac Pa0 mc [mj t,eX v] (eX (fh t v)):=by
 refine ac.of CY zR6 λ_=>aa ?_
 conv in tp=>cbv
 unfold fh
 by_cases h2:t.1=2
 ·have p:=IC (a:=v) h2 (jf ht h2) (by unfold aK at hv;rwa [if_pos h2]at hv)
  rw[if_pos h2]
  generalize eE v.1 (gy t.2.2.1)=x at*
  obtain⟨⟨x1,x2⟩,x3⟩:=x
  obtain⟨k,c,f,m,o⟩:=t
  obtain rfl:k=2:=h2
  obtain⟨a1,a2⟩:=v
  clear ht hv
  exact zW6
 ·rw[if_neg h2]
  obtain⟨k,c,f,m,o⟩:=t
  have h2: ¬k=2:=h2
  obtain⟨a1,a2⟩:=v
  clear ht hv
  repeat' first|simp(disch:=omega)only[go_sem, *,h2]|apply ab<;>intro h<;>try omega
theorem NF {s:Ty} (hs:cj s) (ht:cj t) (hv:aK s v):ac Pa0 vd [mj s,mj t,eX v] (gh (wD s t v,0)):=by
 refine ac.of Oz zR6 λ_=>aa ?_
 have q1:=bt s
 have q2:=bt t
 rw[if_pos hs]at q1
 rw[if_pos ht]at q2
 have q3:=de hs (dt hs hv)
 rw[zB1 hv]at q3
 have q4:=E7 hs hv
 have hx:=Ko hs hv
 unfold wD
 conv in D2=>cbv
 generalize fh s v=x at*
 have q5:=KI hx
 have q6:t.1=2→_:= λh2=>DR h2 (jf ht h2) hx
 obtain⟨s1,s2,s3,s4,s5⟩:=s
 obtain⟨v1,v2⟩:=v
 by_cases h3:t.1=3
 ·rw[if_pos h3]
  generalize x.1/x.2=y at*
  obtain⟨k,c,f,m,o⟩:=t
  obtain⟨x1,x2⟩:=x
  obtain rfl:k=3:=h3
  clear hs ht hv hx q6
  repeat' first|simp(disch:=omega)only[go_sem, *]|apply ab<;>intro h<;>try omega|refine ak q1 ?_|refine ak q2 ?_|refine ak q3 ?_|refine ak q4 ?_|refine ak q5 ?_
 ·rw[if_neg h3]
  by_cases h2:t.1=2
  ·rw[if_pos h2]
   have q6:=q6 h2
   generalize MY t.2.1 t.2.2.2.2 (Ax (x.1*gy t.2.2.1) x.2 t.2.2.2.1)=y at*
   obtain⟨k,c,f,m,o⟩:=t
   obtain⟨x1,x2⟩:=x
   obtain rfl:k=2:=h2
   clear hs ht hv hx q5
   repeat' first|simp(disch:=omega)only[go_sem, *]|apply ab<;>intro h<;>try omega|refine ak q1 ?_|refine ak q2 ?_|refine ak q3 ?_|refine ak q4 ?_|refine ak q6 ?_
  ·rw[if_neg h2]
   obtain⟨k,c,f,m,o⟩:=t
   obtain⟨x1,x2⟩:=x
   have h2: ¬k=2:=h2
   have h3: ¬k=3:=h3
   clear hs ht hv hx q5 q6
   repeat' first|simp(disch:=omega)only[go_sem, *,h2,h3]|apply ab<;>intro h<;>try omega|refine ak q1 ?_|refine ak q2 ?_|refine ak q3 ?_|refine ak q4 ?_
set_option maxRecDepth 20000
set_option maxRecDepth 1000000
theorem Cl {n:Int} (h:1≤n∧n≤5):ac Pa0 mo [I n] (.tup [I (OA n),Go.Abs.B true]):=by
 refine ac.of EB zR6 λ_=>aa ?_
 have h5:n=1∨n=2∨n=3∨n=4∨n=5:=by omega
 clear h
 conv in uA=>cbv
 rcases h5 with rfl|rfl|rfl|rfl|rfl
 ·rw[show OA 1=4 from rfl]
  exact zW0
 ·rw[show OA 2=6 from rfl]
  exact zW0
 ·rw[show OA 3=9 from rfl]
  exact zW0
 ·rw[show OA 4=10 from rfl]
  exact zW0
 ·rw[show OA 5=4 from rfl]
  exact zW0
theorem F8 {fold:Int} {b:Fr} (hf:1≤fold∧fold≤5) (ht:cj t) (ha:aK t a) (hb:aK t b):ac Pa0 qK [I fold,mj t,bF ln [a,b]] (gh (if(gp (OA fold) t a b).2≠0 then((0,0),(gp (OA fold) t a b).2)else gp (OA fold) t a b)):=by
 refine ac.of I2 zR6 λ_=>aa ?_
 have p0:=Cl hf
 have p1:=bt t
 rw[if_pos ht]at p1
 have p2:=de ht (dt ht ha)
 rw[zB1 ha]at p2
 have p3:=de ht (dt ht hb)
 rw[zB1 hb]at p3
 have p5:=yJ (XP hf) ht ha hb
 clear ht ha hb hf
 obtain⟨k,bb,f,r,o⟩:=t
 obtain⟨n,d⟩:=a
 obtain⟨n',d'⟩:=b
 generalize gp (OA fold) (k,bb,f,r,o) (n,d) (n',d')=Z at*
 generalize OA fold=op at*
 obtain⟨⟨z1,z2⟩,e⟩:=Z
 have D:dO 2 [ln (n,d),ln (n',d')]:=aD (f:=ln) (l:= [(n,d),(n',d')]) λ_=>rfl
 conv in y6=>cbv
 repeat' first|simp(disch:=omega)only[go_sem, *]|apply ab<;>intro h<;>try omega|refine ak p0 ?_|refine ak p1 ?_
 refine al (λj:Nat=>⟨[(0,I fold),(2,bF ln [(n,d),(n',d')]),(4,.c (.ptr 0 0)),(6,.c (.ptr 1 0)),(8,I op),(33,bF ln [(n,d),(n',d')]),(34,I 2),(35,I j)], [(1,.var [.pure (pI 0),.pure (pI 0)]),(0,.var [.pure (pI k),.pure (pI bb),.pure (pI f),.pure (pI r),.pure (pI o)])],2,0⟩) (λj=>j≤2) (λj=>2-j) ⟨0, [],by omega,by simp⟩ ?_
 intro j hj
 refine aa ?_
 have z:j=0∨j=1∨j=2:=by omega
 clear hj
 rcases z with rfl|rfl|rfl
 ·repeat' first|simp(disch:=omega)only[go_sem, *,wrap_i64,zB3,nY,zB0,zB4]|apply ab<;>intro h<;>try omega|refine ak p2 ?_
  exact⟨1, [],by omega,by omega,by simp⟩
 ·repeat' first|simp(disch:=omega)only[go_sem, *,wrap_i64,zB3,nY,zB0,zB4]|apply ab<;>intro h<;>try omega|refine ak p3 ?_
  exact⟨2, [],by omega,by omega,by simp⟩
 ·repeat' first|simp(disch:=omega)only[go_sem, *,wrap_i64,zB3,nY,zB0,zB4,zA8,zD3,D]|apply ab<;>intro h<;>try omega
  refine al (λj:Nat=>⟨[(2,bF ln [(n,d),(n',d')]),(4,.c (.ptr 0 0)),(6,.c (.ptr 1 0)),(8,I op),(14,.c (.ptr 2 0)),(62,bF ln [(n',d')]),(63,I 1),(64,I j)], [(2,.var [.pure (pI (if j=0 then n else z1)),.pure (pI (if j=0 then d else z2))]),(1,.var [.pure (pI 0),.pure (pI 0)]),(0,.var [.pure (pI k),.pure (pI bb),.pure (pI f),.pure (pI r),.pure (pI o)])],3,0⟩) (λj=>j≤1∧(j=1→e=0)) (λj=>1-j) ⟨0, [],⟨by omega,by omega⟩,by simp⟩ ?_
  rintro j ⟨hj,he⟩
  refine aa ?_
  have z:j=0∨j=1:=by omega
  clear hj
  rcases z with rfl|rfl
  ·clear he
   by_cases he:e=0
   ·subst he
    repeat' first|simp(disch:=omega)only[go_sem, *,wrap_i64,zB3,nY,zB0,zB4]|apply ab<;>intro h<;>try omega|refine ak p5 ?_
    exact⟨1, [],⟨by omega,by simp⟩,by omega,by simp⟩
   ·have E:=eq_false he
    repeat' first|simp(disch:=omega)only[go_sem, *,E,wrap_i64,zB3,nY,zB0,zB4]|apply ab<;>intro h<;>try omega|refine ak p5 ?_
    all_goals simp[he]
  ·obtain rfl:=he rfl
   repeat' first|simp(disch:=omega)only[go_sem, *]|apply ab<;>intro h<;>try omega
   all_goals simp
theorem Iz {ds:List Int} (ht:cj t) (hd:yk ds=0) (hv:aK t v):ac Pa0 rP [mj t,aF ds,eX v] (.tup [Nh (t,ds,List.replicate (bl ds).toNat v),I 0]):=by
 refine ac.of Mr zR6 λhb=>aa ?_
 have p1:=bt t
 rw[if_pos ht]at p1
 have p2:=gx ds
 rw[hd]at p2
 have p3:=de ht (dt ht hv)
 rw[zB1 hv]at p3
 have p4:=pE ds
 rw[size,if_pos hd]at p4
 have hg:=b8 hd
 have hp:=el ds hg.pos
 have F:=hg.le
 have G:=hg.len
 obtain⟨N,hN⟩: ∃N:Nat,bl ds=N:=⟨(bl ds).toNat,by omega⟩
 rw[hN]at p4 F ⊢
 rw[zD1]
 clear hg hp hN ht hv hd hb
 obtain⟨k,bb,f,r,o⟩:=t
 obtain⟨n,d⟩:=v
 conv in Bn=>cbv
 repeat' first|simp(disch:=omega)only[go_sem, *]|apply zA1<;>intro h<;>try omega|refine ak p1 ?_|refine ak p2 ?_|refine ak p3 ?_|refine ak p4 ?_|refine I9 (aD λx=>rfl) zR8 zR8 ?_
 all_goals clear h
 refine QK [3] ?_
 refine fU 4 6 41 2 _ rfl rfl zR9 ?_
 refine al (λj:Nat=>⟨[(5,.c (.ptr 1 0)),(6,.c (.ptr 2 0)),(10,.c (.ptr 4 0)),(33,I N),(34,I j)], [(5,.arr 41 2 ((List.replicate j (n,d)).map ln)),(4,.var [.pure (pI k),.pure (pI bb),.pure (pI f),.pure (pI r),.pure (pI o),.pure (c6 ds),.ref 5]),(2,.var [i_ 0,i_ 0,i_ 0,i_ 0,i_ 0,.nils,.nils]),(1,.var [.pure (pI n),.pure (pI d)])],6,0⟩) (λj=>j≤N) (λj=>N-j) ⟨0, [],by omega,by simp[bM,St.frz,L5,HJ,Mh,BZ,Om,ar]⟩ ?body
 case h2=>
  refine QK [4] ?_
  refine fU 3 6 41 2 _ rfl rfl zR9 ?_
  exact al (λj:Nat=>⟨[(5,.c (.ptr 1 0)),(6,.c (.ptr 2 0)),(10,.c (.ptr 4 0)),(33,I N),(34,I j)], [(5,.arr 41 2 ((List.replicate j (n,d)).map ln)),(4,.var [.pure (pI k),.pure (pI bb),.pure (pI f),.pure (pI r),.pure (pI o),.pure (c6 ds),.ref 5]),(2,.var [i_ 0,i_ 0,i_ 0,i_ 0,i_ 0,.nils,.nils]),(1,.var [.pure (pI n),.pure (pI d)])],6,0⟩) (λj=>j≤N) (λj=>N-j) ⟨0, [(4,3)],by omega,by simp[bM,St.frz,L5,HJ,Mh,BZ,Om,ar]⟩ ?body
 intro j hj
 refine aa ?_
 by_cases H:j<N
 ·have HT:=Lib.hid (show(List.replicate j (n,d)).map ln++ [[pI n,pI d]]=(List.replicate (j+1) (n,d)).map ln by rw[List.replicate_succ',zC8];rfl)
  repeat' first|simp(disch:=omega)only[go_sem, *,wrap_i64]|apply ab<;>intro h<;>try omega|refine aP rfl zS0 (aE rfl) zR8 zR8 ?_
  rw[HT.out]
  exact⟨j+1, [(5,6)],by omega,by omega,by simp⟩
 ·have:j=N:=by omega
  subst this
  exact zW0
end Go.Proofs.YtigdjhnndaokjaaGreatDoor
