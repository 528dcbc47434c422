import Derived.Test.YtigdjhnndaokjaaGreatDoorVRng
import Derived.Test.YtigdjhnndaokjaaGreatDoorV04v
set_option linter.unusedVariables false
set_option linter.unusedSimpArgs false
set_option maxHeartbeats 4000000
set_option maxRecDepth 1000000
open Go.Proofs.Tryz renaming prog→Pa0
namespace Go.Proofs.YtigdjhnndaokjaaGreatDoor
open Go.Abs Go.RowKit
variable {t:Ty}{a:Fr}
theorem hH {b:Fr} {g:FuncId} {r e:Int} (h0:t.1=2) (ht:fc t.2.1 t.2.2.1 t.2.2.2.1 t.2.2.2.2) (ha:qN t a) (hb:qN t b) (hg:ac Pa0 g [mj t,I a.1,I b.1] (.tup [I r,I e])):
  ac Pa0 sA [.agg [.clo g []],mj t,eX a,eX b] (gh (if e≠0 then((0,0),e)else((MY t.2.1 t.2.2.2.2 r,1),0))):=by
 refine ac.of Mf zR6 λ_=>aa ?_
 have p1:=yt (xs:= [a,b]) h0 ht zV3 zR6
 have p2:=wW (n:=r) ht
 obtain⟨k,c,f,m,o⟩:=t
 clear ht h0 ha hb
 simp only at p2 ⊢
 conv in BS=>cbv
 by_cases he:e=0
 ·subst he
  rw[if_neg zR9]
  repeat' first|simp(disch:=omega)only[go_sem, *]|apply ab<;>intro h<;>try omega|refine ak p1 ?_|refine ak hg ?_|refine ak p2 ?_
 ·rw[if_pos he]
  repeat' first|simp(disch:=omega)only[go_sem, *,he]|apply ab<;>intro h<;>try omega|refine ak p1 ?_|refine ak hg ?_|refine ak p2 ?_
set_option maxRecDepth 20000
set_option maxRecDepth 1000000
variable {b:Int}
theorem Ly {a:Int} (ht:fc t.2.1 t.2.2.1 t.2.2.2.1 t.2.2.2.2) (ha: -aB t.2.1≤a∧a<aB t.2.1) (hb: -aB t.2.1≤b∧b<aB t.2.1):ac Pa0 s8 [mj t,I a,I b] (.tup [I (a+b),I 0]):=by
 refine ac.of KC zR6 λ_=>aa ?_
 have hh:=fi ht.1 ht.2.1
 have w:IntKind.wrap .i64 (a+b)=a+b:=wrap_i64 zR5
 have w1:=w
 obtain⟨k,c,f,m,o⟩:=t
 clear ht ha hb hh
 conv in AK=>cbv
 exact yA2
theorem Ju {a:Int} (ht:fc t.2.1 t.2.2.1 t.2.2.2.1 t.2.2.2.2) (ha: -aB t.2.1≤a∧a<aB t.2.1) (hb: -aB t.2.1≤b∧b<aB t.2.1):ac Pa0 s7 [mj t,I a,I b] (.tup [I (a-b),I 0]):=by
 refine ac.of KM zR6 λ_=>aa ?_
 have hh:=fi ht.1 ht.2.1
 have w:IntKind.wrap .i64 (a-b)=a-b:=wrap_i64 zR5
 have w1:=w
 obtain⟨k,c,f,m,o⟩:=t
 clear ht ha hb hh
 conv in Br=>cbv
 exact yA2
theorem Lq {a:Int} (ht:fc t.2.1 t.2.2.1 t.2.2.2.1 t.2.2.2.2) (ha: -aB t.2.1≤a∧a<aB t.2.1) (hb: -aB t.2.1≤b∧b<aB t.2.1):ac Pa0 sQ [mj t,I a,I b] (.tup [I (-a),I 0]):=by
 refine ac.of Ki zR6 λ_=>aa ?_
 have hh:=fi ht.1 ht.2.1
 have w:IntKind.wrap .i64 (0-a)= -a:=by rw[zG5];exact wrap_i64 zR5
 have w1:IntKind.wrap .i64 (-a)= -a:=wrap_i64 zR5
 obtain⟨k,c,f,m,o⟩:=t
 clear ht ha hb hh
 conv in AA=>cbv
 exact yA2
theorem JQ {a:Int} (ht:fc t.2.1 t.2.2.1 t.2.2.2.1 t.2.2.2.2) (ha: -aB t.2.1≤a∧a<aB t.2.1) (hb: -aB t.2.1≤b∧b<aB t.2.1):ac Pa0 sJ [mj t,I a,I b] (.tup [I (Ax (a*b) (gy t.2.2.1) t.2.2.2.1),I 0]):=by
 refine ac.of Ka zR6 λ_=>aa ?_
 have hh:=fi ht.1 ht.2.1
 have hs:=uQ ht.2.2.1 ht.2.2.2.1
 have hf:=ht.2.2.1
 have j:=ht.2.2.2.1
 have m1:=Pi (a:=a) (b:=b) zR5 zR5
 have m2:=Pi (a:=a) (b:=gy t.2.2.1) zR5 zR5
 have p:=lU (n:=a*b) (d:=gy t.2.2.1) (how:=t.2.2.2.1) ⟨by omega,by omega⟩ ⟨by omega,by omega⟩ ⟨ht.2.2.2.2.1,ht.2.2.2.2.2.1⟩
 rw[if_neg zR5,if_neg zR5,X4,if_neg zR5]at p
 have w:IntKind.wrap .i64 (a*b)=a*b:=wrap_i64 zR5
 have w2:IntKind.wrap .i64 (gy t.2.2.1)=gy t.2.2.1:=wrap_i64 zR5
 have e1:(2:Int)^(min (t.2.2.1).toNat 64)=gy t.2.2.1:=by rw[gy,zI8 zR5]
 obtain⟨k,c,f,m,o⟩:=t
 clear ht ha hb hh hs m1 m2
 simp only at p w w2 e1 hf ⊢
 conv in AZ=>cbv
 exact yC0
theorem Lo {a:Int} (ht:fc t.2.1 t.2.2.1 t.2.2.2.1 t.2.2.2.2) (ha: -aB t.2.1≤a∧a<aB t.2.1) (hb: -aB t.2.1≤b∧b<aB t.2.1):ac Pa0 rR [mj t,I a,I b] (.tup [I (if b=0 then 0 else X4 (a*gy t.2.2.1) b t.2.2.2.1),I (if b=0 then 4 else 0)]):=by
 refine ac.of Kd zR6 λ_=>aa ?_
 have hh:=fi ht.1 ht.2.1
 have hs:=uQ ht.2.2.1 ht.2.2.2.1
 have hf:=ht.2.2.1
 have j:=ht.2.2.2.1
 have m1:=Pi (a:=a) (b:=b) zR5 zR5
 have m2:=Pi (a:=a) (b:=gy t.2.2.1) zR5 zR5
 have p:=lU (n:=a*gy t.2.2.1) (d:=b) (how:=t.2.2.2.1) ⟨by omega,by omega⟩ ⟨by omega,by omega⟩ ⟨ht.2.2.2.2.1,ht.2.2.2.2.2.1⟩
 have w:IntKind.wrap .i64 (a*gy t.2.2.1)=a*gy t.2.2.1:=wrap_i64 zR5
 have w2:IntKind.wrap .i64 (gy t.2.2.1)=gy t.2.2.1:=wrap_i64 zR5
 have e1:(2:Int)^(min (t.2.2.1).toNat 64)=gy t.2.2.1:=by rw[gy,zI8 zR5]
 obtain⟨k,c,f,m,o⟩:=t
 clear ht ha hb hh hs m1 m2
 simp only at p w w2 e1 hf ⊢
 conv in BN=>cbv
 exact yC0
theorem Qa {b:Fr} (h0:t.1=2) (ht:fc t.2.1 t.2.2.1 t.2.2.2.1 t.2.2.2.2) (ha:qN t a) (hb:qN t b):ac Pa0 zL [mj t,eX a,eX b] (gh (c9 t 4 a.1 b.1)):=by
 refine ac.of P2 zR6 λ_=>aa ?_
 have p:=hH h0 ht ha hb (Ly ht ha.2 hb.2)
 have he:c9 t 4 a.1 b.1=((MY t.2.1 t.2.2.2.2 (a.1+b.1),1),0):=by simp[c9,BB]
 rw[if_neg zR9,←he]at p
 generalize c9 t 4 a.1 b.1=v at*
 obtain⟨⟨v1,v2⟩,v3⟩:=v
 obtain⟨k,c,f,m,o⟩:=t
 clear h0 ht ha hb he
 conv in Hg=>cbv
 exact zW6
theorem QB {b:Fr} (h0:t.1=2) (ht:fc t.2.1 t.2.2.1 t.2.2.2.1 t.2.2.2.2) (ha:qN t a) (hb:qN t b):ac Pa0 zw [mj t,eX a,eX b] (gh (c9 t 5 a.1 b.1)):=by
 refine ac.of PJ zR6 λ_=>aa ?_
 have p:=hH h0 ht ha hb (Ju ht ha.2 hb.2)
 have he:c9 t 5 a.1 b.1=((MY t.2.1 t.2.2.2.2 (a.1-b.1),1),0):=by simp[c9,BB]
 rw[if_neg zR9,←he]at p
 generalize c9 t 5 a.1 b.1=v at*
 obtain⟨⟨v1,v2⟩,v3⟩:=v
 obtain⟨k,c,f,m,o⟩:=t
 clear h0 ht ha hb he
 conv in GJ=>cbv
 exact zW6
theorem Qb {b:Fr} (h0:t.1=2) (ht:fc t.2.1 t.2.2.1 t.2.2.2.1 t.2.2.2.2) (ha:qN t a) (hb:qN t b):ac Pa0 xS [mj t,eX a,eX b] (gh (c9 t 6 a.1 b.1)):=by
 refine ac.of Qg zR6 λ_=>aa ?_
 have p:=hH h0 ht ha hb (JQ ht ha.2 hb.2)
 have he:c9 t 6 a.1 b.1=((MY t.2.1 t.2.2.2.2 (Ax (a.1*b.1) (gy t.2.2.1) t.2.2.2.1),1),0):=by simp[c9,BB]
 rw[if_neg zR9,←he]at p
 generalize c9 t 6 a.1 b.1=v at*
 obtain⟨⟨v1,v2⟩,v3⟩:=v
 obtain⟨k,c,f,m,o⟩:=t
 clear h0 ht ha hb he
 conv in GZ=>cbv
 exact zW6
theorem Qw {b:Fr} (h0:t.1=2) (ht:fc t.2.1 t.2.2.1 t.2.2.2.1 t.2.2.2.2) (ha:qN t a) (hb:qN t b):ac Pa0 zm [mj t,eX a,eX b] (gh (c9 t 7 a.1 b.1)):=by
 refine ac.of Q2 zR6 λ_=>aa ?_
 have p:=hH h0 ht ha hb (Lo ht ha.2 hb.2)
 have he:(if(if b.1=0 then(4:Int)else 0)≠0 then(((0,0):Fr),(if b.1=0 then(4:Int)else 0))else((MY t.2.1 t.2.2.2.2 (if b.1=0 then 0 else X4 (a.1*gy t.2.2.1) b.1 t.2.2.2.1),1),0))=c9 t 7 a.1 b.1:=by
  unfold c9 BB X4
  by_cases h:b.1=0
  ·simp[h]
  ·by_cases h':b.1<0<;>simp[h,h']
 rw[he]at p
 generalize c9 t 7 a.1 b.1=v at*
 obtain⟨⟨v1,v2⟩,v3⟩:=v
 obtain⟨k,c,f,m,o⟩:=t
 clear h0 ht ha hb
 conv in Hb=>cbv
 exact zW6
theorem QZ (h0:t.1=2) (ht:fc t.2.1 t.2.2.1 t.2.2.2.1 t.2.2.2.2) (ha:qN t a):ac Pa0 xL [mj t,eX a] (gh (c9 t 8 a.1 a.1)):=by
 refine ac.of QQ zR6 λ_=>aa ?_
 have p:=hH h0 ht ha ha (Lq ht ha.2 ha.2)
 have he:c9 t 8 a.1 a.1=((MY t.2.1 t.2.2.2.2 (-a.1),1),0):=by simp[c9,BB]
 rw[if_neg zR9,←he]at p
 generalize c9 t 8 a.1 a.1=v at*
 obtain⟨⟨v1,v2⟩,v3⟩:=v
 obtain⟨k,c,f,m,o⟩:=t
 clear h0 ht ha he
 conv in GN=>cbv
 exact zW6
set_option maxRecDepth 20000
set_option maxRecDepth 1000000
theorem Ic (ht:cj t) (ha:aK t a):ac Pa0 lk [mj t,eX a] (gh (gp 8 t a (0,1))):=by
 refine ac.of wz zR6 λ_=>aa ?_
 by_cases h:t.1=2
 ·have p:=QZ (a:=a) h (ht.elim (λh'=>by omega) λh'=>h'.2) (by unfold aK at ha;rwa [if_pos h]at ha)
  have e:gp 8 t a (0,1)=c9 t 8 a.1 a.1:=by simp[gp,h]
  rw[e]
  generalize c9 t 8 a.1 a.1=v at*
  obtain⟨⟨v1,v2⟩,v3⟩:=v
  obtain⟨k,c,f,m,o⟩:=t
  obtain rfl:k=2:=h
  clear ht ha e
  conv in kN=>cbv
  exact zW6
 ·have e:gp 8 t a (0,1)=((-a.1,a.2),0):=by simp[gp,h]
  rw[e]
  have hb: -2147483647≤a.1∧a.1≤2147483647:=by
   unfold aK at ha
   rw[if_neg h]at ha
   split at ha
   ·exact ha.2
   ·exact⟨ha.2.2.1,ha.2.2.2.1⟩
  have w:IntKind.wrap .i64 (0-a.1)= -a.1:=by rw[zG5];exact wrap_i64 zR5
  have w1:IntKind.wrap .i64 (-a.1)= -a.1:=wrap_i64 zR5
  obtain⟨k,c,f,m,o⟩:=t
  obtain⟨a1,a2⟩:=a
  have h: ¬k=2:=h
  clear ht ha e hb
  simp only at w w1
  conv in kN=>cbv
  repeat' first|simp(disch:=omega)only[go_sem, *,w,w1,h]|apply ab<;>intro h<;>try omega
theorem uo {b:Fr} (ht:cj t) (ha:aK t a) (hb:aK t b) (ia:bD a) (ib:bD b):ac Pa0 jB [mj t,eX a,eX b] (I (rL t a b)):=by
 refine ac.of tD zR6 λ_=>aa ?_
 have p1:=de ht ia
 have p2:=de ht ib
 rw[zB1 ha]at p1
 rw[zB1 hb]at p2
 by_cases h:t.1=1
 ·have p:=md (a:=a) (b:=b) (by unfold aK at ha;rwa [if_neg zR5,if_neg zR5]at ha) (by unfold aK at hb;rwa [if_neg zR5,if_neg zR5]at hb)
  have e:rL t a b=dY a b:=by simp[rL,h]
  rw[e]
  generalize dY a b=v at*
  obtain⟨k,c,f,m,o⟩:=t
  obtain rfl:k=1:=h
  clear ht ha hb e ia ib
  conv in jw=>cbv
  repeat' first|simp(disch:=omega)only[go_sem, *]|apply ab<;>intro h<;>try omega|refine ak p1 ?_|refine ak p2 ?_|refine ak p ?_
 ·have e:rL t a b=Hq a.1 b.1:=by simp[rL,h]
  rw[e,Hq]
  obtain⟨k,c,f,m,o⟩:=t
  obtain⟨a1,a2⟩:=a
  obtain⟨b1,b2⟩:=b
  have h: ¬k=1:=h
  clear ht ha hb e ia ib
  conv in jw=>cbv
  by_cases h1:a1<b1
  ·rw[if_pos h1]
   repeat' first|simp(disch:=omega)only[go_sem, *,h,h1]|apply ab<;>intro h<;>try omega|refine ak p1 ?_|refine ak p2 ?_
  ·rw[if_neg h1]
   by_cases h2:b1<a1
   ·rw[if_pos h2]
    exact yB2
   ·rw[if_neg h2]
    exact yB2
set_option maxRecDepth 20000
theorem ZZ {a:Int} (hb:b≠0):flD a b=if ¬a.tmod b=0∧ ¬decide (a<0)=decide (b<0)then a.tdiv b-1 else a.tdiv b:=by
 have hd:0<b.natAbs:=by omega
 obtain⟨h1,h2⟩:=VB (a:=a.natAbs) hd
 have e0:((a.natAbs:Int)).tdiv b.natAbs=((a.natAbs/b.natAbs:Nat):Int):=(Int.ofNat_tdiv _ _).symm
 have e1:((a.natAbs:Int)).tmod b.natAbs=((a.natAbs%b.natAbs:Nat):Int):=(zQ2 _ _).symm
 have e2:(a.natAbs:Int)/b.natAbs=((a.natAbs/b.natAbs:Nat):Int):=rfl
 have hz:a.natAbs=0→a.natAbs%b.natAbs=0:= λh=>by rw[h,Nat.zero_mod]
 unfold flD
 have ca:a=a.natAbs∨a= -(a.natAbs:Int)∧a.natAbs≠0:=by omega
 have cb:b=b.natAbs∨b= -(b.natAbs:Int):=by omega
 generalize a.natAbs=n at*
 generalize b.natAbs=d at*
 by_cases hm:n%d=0
 ·have h1:=h1 hm
  rcases ca with rfl|⟨rfl,hn⟩<;>rcases cb with rfl|rfl<;>simp only[Int.neg_tdiv,Int.tdiv_neg,Int.neg_tmod,Int.tmod_neg,Int.neg_neg,e0,e1,e2,h1.1,hm,zF2]<;>(repeat' split)<;>omega
 ·have h1:=h2 hm
  rcases ca with rfl|⟨rfl,hn⟩<;>rcases cb with rfl|rfl<;>simp only[Int.neg_tdiv,Int.tdiv_neg,Int.neg_tmod,Int.tmod_neg,Int.neg_neg,e0,e1,e2,h1.1,zF2]<;>(repeat' split)<;>omega
set_option maxRecDepth 1000000
theorem Gm {op a:Int} (ho:4≤op∧op≤7) (ha: -2147483647≤a∧a≤2147483647) (hb: -2147483647≤b∧b≤2147483647):ac Pa0 nI [I op,I a,I b] (gh (ny op a b)):=by
 refine ac.of FQ zR6 λ_=>aa ?_
 have m1:=eR ha hb
 have w1:IntKind.wrap .i64 (a+b)=a+b:=wrap_i64 zR5
 have w2:IntKind.wrap .i64 (a-b)=a-b:=wrap_i64 zR5
 have w3:IntKind.wrap .i64 (a*b)=a*b:=wrap_i64 zR5
 have pw:=zy (yG op a b)
 have h5:op=4∨op=5∨op=6∨op=7:=by omega
 clear ho m1
 conv in wO=>cbv
 unfold ny
 rcases h5 with rfl|rfl|rfl|rfl
 ·rw[if_neg zR6]
  rw[show yG 4 a b=a+b from rfl]at*
  by_cases h: -2147483647≤a+b∧a+b≤2147483647
  ·rw[zB1 h]at pw
   rw[if_pos h]
   exact yD1
  ·rw[zA9 h]at pw
   rw[if_neg h]
   exact yD1
 ·rw[if_neg zR6]
  rw[show yG 5 a b=a-b from rfl]at*
  by_cases h: -2147483647≤a-b∧a-b≤2147483647
  ·rw[zB1 h]at pw
   rw[if_pos h]
   exact yD2
  ·rw[zA9 h]at pw
   rw[if_neg h]
   exact yD2
 ·rw[if_neg zR6]
  rw[show yG 6 a b=a*b from rfl]at*
  by_cases h: -2147483647≤a*b∧a*b≤2147483647
  ·rw[zB1 h]at pw
   rw[if_pos h]
   exact yD3
  ·rw[zA9 h]at pw
   rw[if_neg h]
   exact yD3
 ·by_cases i:b=0
  ·subst i
   rw[if_pos ⟨rfl,rfl⟩]
   clear pw
   exact zW0
  ·rw[if_neg (λh=>i h.2)]
   rw[show yG 7 a b=flD a b from rfl]at*
   have hq:(a.tdiv b).natAbs≤a.natAbs:=by rw[Int.natAbs_tdiv];exact zH8 _ _
   have hr:(a.tmod b).natAbs≤a.natAbs:=by rw[Int.natAbs_tmod];exact Nat.mod_le _ _
   have v1:IntKind.wrap .i64 (a.tdiv b)=a.tdiv b:=wrap_i64 zR5
   have v2:IntKind.wrap .i64 (a.tmod b)=a.tmod b:=wrap_i64 zR5
   have v3:IntKind.wrap .i64 (a.tdiv b-1)=a.tdiv b-1:=wrap_i64 zR5
   have hf:=ZZ (a:=a) i
   clear hq hr w1 w2 w3 ha hb
   generalize flD a b=x at*
   have fin: ∀y:Int,x=y→ac Pa0 mX [I y] (Go.Abs.B (decide (-2147483647≤x∧x≤2147483647))):=by rintro _ rfl;exact pw
   clear pw
   by_cases h: -2147483647≤x∧x≤2147483647
   ·rw[zB1 h]at fin
    rw[if_pos h]
    by_cases hz:a.tmod b=0<;>by_cases g1:a<0<;>by_cases g2:b<0<;>simp[hz,g1,g2]at hf<;>(have pw:=fin _ hf)<;>rw[hf]<;>clear fin h<;>
     (repeat' first|simp(disch:=omega)only[go_sem, *,v1,v2,v3,i,hz,g1,g2]|apply ab<;>intro h<;>try omega|refine ak pw ?_)
   ·rw[zA9 h]at fin
    rw[if_neg h]
    by_cases hz:a.tmod b=0<;>by_cases g1:a<0<;>by_cases g2:b<0<;>simp[hz,g1,g2]at hf<;>(have pw:=fin _ hf)<;>clear fin h hf<;>
     (repeat' first|simp(disch:=omega)only[go_sem, *,v1,v2,v3,i,hz,g1,g2]|apply ab<;>intro h<;>try omega|refine ak pw ?_)
end Go.Proofs.YtigdjhnndaokjaaGreatDoor
