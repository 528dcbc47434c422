import Derived.Test.YtigdjhnndaokjaaGreatDoorV01b
set_option linter.unusedVariables false
set_option linter.unusedSimpArgs false
set_option maxHeartbeats 4000000
set_option maxRecDepth 1000000
open Go.Proofs.Tryz renaming prog→Pa0
namespace Go.Proofs.YtigdjhnndaokjaaGreatDoor
open Go.Abs Go.RowKit
def Bp:Nat→Int
 |0=>1
 |1=>4294967296
 |2=>18446744073709551616
 |3=>79228162514264337593543950336
 |4=>340282366920938463463374607431768211456
 |5=>1461501637330902918203684832716283019655932542976
 |_=>6277101735386680763835789423207666416102355444464034512896
abbrev u64 (n:Int):AC:= .pure (.val (.int .u64 n))
abbrev U5 (n:Int):AV:= .c (u64 n)
abbrev u6 (a:Nat→Int):List AC:= [u64 (a 0),u64 (a 1),u64 (a 2),u64 (a 3),u64 (a 4),u64 (a 5)]
def dF (a:Nat→Int):Int:=a 0*Bp 0+a 1*Bp 1+a 2*Bp 2+a 3*Bp 3+a 4*Bp 4+a 5*Bp 5
def KY (a:Nat→Int):Prop:= ∀j,j<6→0≤a j∧a j<4294967296
def dg (x:Int) (j:Nat):Int:=x/Bp j%4294967296
abbrev aW (x:Int):AV:= .agg (u6 (dg x))
theorem uD (x:Int):KY (dg x):= λj _=>by unfold dg;omega
variable {x:Int}
theorem uJ (h0:0≤x) (h1:x<Bp 6):dF (dg x)=x:=by
 simp only[dF,dg,Bp]at*
 omega
variable {a:Nat→Int}
theorem O0 (h:KY a): ∀j,j<6→dg (dF a) j=a j:=by
 intro j hj
 have h0:=h 0 zR5
 have h1:=h 1 zR5
 have h2:=h 2 zR5
 have h3:=h 3 zR5
 have h4:=h 4 zR5
 have h5:=h 5 zR5
 simp only[dF,dg,Bp]
 match j,hj with
 |0,_=>simp only[Bp];omega
 |1,_=>simp only[Bp];omega
 |2,_=>simp only[Bp];omega
 |3,_=>simp only[Bp];omega
 |4,_=>simp only[Bp];omega
 |5,_=>simp only[Bp];omega
theorem acr (h:KY a) (hx:dF a=x):u6 a=u6 (dg x):=by
 subst hx
 simp only[u6,O0 h 0 zR5,O0 h 1 zR5,O0 h 2 zR5,O0 h 3 zR5,O0 h 4 zR5,O0 h 5 zR5]
theorem jA {n:Int} {at':Nat} (hJ:at'≤2) (F:0≤x) (w:0≤n) (K:n<18446744073709551616) (J:x+n*Bp at'<Bp 6):ac Pa0 aaC [aW x,I at',U5 n] (aW (x+n*Bp at')):=by
 refine ac.of JD zR6 λ_=>aa ?_
 have hB:0≤n*Bp at':=zM5 w (by match at',hJ with|0,_=>decide|1,_=>decide|2,_=>decide)
 have o:=uJ F zR5
 have T:=uD x
 obtain⟨R,hR⟩: ∃R,R=x+n*Bp at':=⟨_,rfl⟩
 rw[←hR]at J ⊢
 conv in BO=>cbv
 repeat' first|simp(disch:=omega)only[go_sem, *]|apply ab<;>intro h<;>try omega
 refine al (λs:Nat×(Nat→Int)×Int×Int=>⟨[(2,U5 s.2.2.2),(3,.c (.ptr 0 0)),(6,.c (.ptr 1 0)),(7,U5 s.2.2.1),(8,I s.1)], [(0,.var (u6 s.2.1)),(1,.var (u6 λ_=>0))],2,0⟩)
  (λs=>s.1≤6∧KY s.2.1∧0≤s.2.2.1∧s.2.2.1≤1∧0≤s.2.2.2∧s.2.2.2<18446744073709551616∧dF s.2.1+(s.2.2.2+s.2.2.1)*Bp s.1=R) (λs=>6-s.1) ⟨(at',dg x,0,n), [],⟨by show at'≤6;omega,T,by show(0:Int)≤0;decide,by show(0:Int)≤1;decide,w,K, ?_⟩,by simp⟩ ?_
 ·show dF (dg x)+(n+0)*Bp at'=R
  rw[o,Int.add_zero,hR]
 clear o T hR w K hB
 rintro⟨i,a,c,n⟩ ⟨hi,ha,V,W,w,K,o⟩
 refine aa ?_
 simp only at hi ha V W w K o
 have h0:=ha 0 zR5
 have h1:=ha 1 zR5
 have h2:=ha 2 zR5
 have h3:=ha 3 zR5
 have h4:=ha 4 zR5
 have h5:=ha 5 zR5
 by_cases h6:i=6
 ·subst h6
  have hz:dF a=R:=by
   simp only[dF,Bp]at o J ⊢
   omega
  repeat' first|simp(disch:=omega)only[go_sem, *,zD1]|apply ab<;>intro h<;>try omega
  show AV.agg (u6 a)=_
  rw[acr ha hz]
 ·have upd: ∀k d,k<6→0≤d→d<4294967296→KY (λj=>if j=k then d else a j):=by
   intro k d hk X Y j hj
   by_cases e:j=k
   ·simp only[e,if_true];exact⟨X,Y⟩
   ·simp only[e,if_false];exact ha j hj
  match i,(show i<6 by omega)with
  |0,_=>
   repeat' first|simp(disch:=omega)only[go_sem, *,zD1,zF4,wrap_u64,zE2,zG0,wrap_i64]|apply ab<;>intro h<;>try omega
   refine⟨(0+1,λj=>if j=0 then(a 0+n%4294967296+c)%4294967296 else a j,(a 0+n%4294967296+c)/4294967296,n/4294967296), [],⟨by show 0+1≤6;omega,upd 0 _ zR5 zR5 zR5, ?_, ?_, ?_, ?_, ?_⟩,by show 6-(0+1)<6-0;omega,by simp⟩
   ·show 0≤(a 0+n%4294967296+c)/4294967296;omega
   ·show(a 0+n%4294967296+c)/4294967296≤1;omega
   ·show 0≤n/4294967296;omega
   ·show n/4294967296<18446744073709551616;omega
   ·simp only[dF,Bp,Nat.reduceEqDiff,if_true,if_false,reduceIte,zF7]at o ⊢
    omega
  |1,_=>
   repeat' first|simp(disch:=omega)only[go_sem, *,zD1,zF4,wrap_u64,zE2,zG0,wrap_i64]|apply ab<;>intro h<;>try omega
   refine⟨(1+1,λj=>if j=1 then(a 1+n%4294967296+c)%4294967296 else a j,(a 1+n%4294967296+c)/4294967296,n/4294967296), [],⟨by show 1+1≤6;omega,upd 1 _ zR5 zR5 zR5, ?_, ?_, ?_, ?_, ?_⟩,by show 6-(1+1)<6-1;omega,by simp⟩
   ·show 0≤(a 1+n%4294967296+c)/4294967296;omega
   ·show(a 1+n%4294967296+c)/4294967296≤1;omega
   ·show 0≤n/4294967296;omega
   ·show n/4294967296<18446744073709551616;omega
   ·simp only[dF,Bp,Nat.reduceEqDiff,if_true,if_false,reduceIte,zF7]at o ⊢
    omega
  |2,_=>
   repeat' first|simp(disch:=omega)only[go_sem, *,zD1,zF4,wrap_u64,zE2,zG0,wrap_i64]|apply ab<;>intro h<;>try omega
   refine⟨(2+1,λj=>if j=2 then(a 2+n%4294967296+c)%4294967296 else a j,(a 2+n%4294967296+c)/4294967296,n/4294967296), [],⟨by show 2+1≤6;omega,upd 2 _ zR5 zR5 zR5, ?_, ?_, ?_, ?_, ?_⟩,by show 6-(2+1)<6-2;omega,by simp⟩
   ·show 0≤(a 2+n%4294967296+c)/4294967296;omega
   ·show(a 2+n%4294967296+c)/4294967296≤1;omega
   ·show 0≤n/4294967296;omega
   ·show n/4294967296<18446744073709551616;omega
   ·simp only[dF,Bp,Nat.reduceEqDiff,if_true,if_false,reduceIte,zF7]at o ⊢
    omega
  |3,_=>
   repeat' first|simp(disch:=omega)only[go_sem, *,zD1,zF4,wrap_u64,zE2,zG0,wrap_i64]|apply ab<;>intro h<;>try omega
   refine⟨(3+1,λj=>if j=3 then(a 3+n%4294967296+c)%4294967296 else a j,(a 3+n%4294967296+c)/4294967296,n/4294967296), [],⟨by show 3+1≤6;omega,upd 3 _ zR5 zR5 zR5, ?_, ?_, ?_, ?_, ?_⟩,by show 6-(3+1)<6-3;omega,by simp⟩
   ·show 0≤(a 3+n%4294967296+c)/4294967296;omega
   ·show(a 3+n%4294967296+c)/4294967296≤1;omega
   ·show 0≤n/4294967296;omega
   ·show n/4294967296<18446744073709551616;omega
   ·simp only[dF,Bp,Nat.reduceEqDiff,if_true,if_false,reduceIte,zF7]at o ⊢
    omega
  |4,_=>
   repeat' first|simp(disch:=omega)only[go_sem, *,zD1,zF4,wrap_u64,zE2,zG0,wrap_i64]|apply ab<;>intro h<;>try omega
   refine⟨(4+1,λj=>if j=4 then(a 4+n%4294967296+c)%4294967296 else a j,(a 4+n%4294967296+c)/4294967296,n/4294967296), [],⟨by show 4+1≤6;omega,upd 4 _ zR5 zR5 zR5, ?_, ?_, ?_, ?_, ?_⟩,by show 6-(4+1)<6-4;omega,by simp⟩
   ·show 0≤(a 4+n%4294967296+c)/4294967296;omega
   ·show(a 4+n%4294967296+c)/4294967296≤1;omega
   ·show 0≤n/4294967296;omega
   ·show n/4294967296<18446744073709551616;omega
   ·simp only[dF,Bp,Nat.reduceEqDiff,if_true,if_false,reduceIte,zF7]at o ⊢
    omega
  |5,_=>
   repeat' first|simp(disch:=omega)only[go_sem, *,zD1,zF4,wrap_u64,zE2,zG0,wrap_i64]|apply ab<;>intro h<;>try omega
   refine⟨(5+1,λj=>if j=5 then(a 5+n%4294967296+c)%4294967296 else a j,(a 5+n%4294967296+c)/4294967296,n/4294967296), [],⟨by show 5+1≤6;omega,upd 5 _ zR5 zR5 zR5, ?_, ?_, ?_, ?_, ?_⟩,by show 6-(5+1)<6-5;omega,by simp⟩
   ·show 0≤(a 5+n%4294967296+c)/4294967296;omega
   ·show(a 5+n%4294967296+c)/4294967296≤1;omega
   ·show 0≤n/4294967296;omega
   ·show n/4294967296<18446744073709551616;omega
   ·simp only[dF,Bp,Nat.reduceEqDiff,if_true,if_false,reduceIte,zF7]at o ⊢
    omega
variable {b:Int}
theorem fR {a:Int} (F:0≤x) (hG:0≤a) (hP:a<18446744073709551616) (hI:0≤b) (hQ:b<18446744073709551616) (J:x+a*b<Bp 6):ac Pa0 vt [aW x,U5 a,U5 b] (aW (x+a*b)):=by
 refine ac.of N6 zR6 λ_=>aa ?_
 have ea:a=a%4294967296+4294967296*(a/4294967296):=by omega
 have eb:b=b%4294967296+4294967296*(b/4294967296):=by omega
 have a0:0≤a%4294967296∧a%4294967296≤4294967295:=by omega
 have a1:0≤a/4294967296∧a/4294967296≤4294967295:=by omega
 have b0:0≤b%4294967296∧b%4294967296≤4294967295:=by omega
 have b1:0≤b/4294967296∧b/4294967296≤4294967295:=by omega
 have pr: ∀{p q:Int},0≤p∧p≤4294967295→0≤q∧q≤4294967295→0≤p*q∧p*q≤18446744065119617025:=by
  intro p q hp hq
  refine⟨zM5 hp.1 hq.1, ?_⟩
  have:=zI4 hp.2 hq.2 hq.1 zR5
  omega
 have Z:a*b=(a%4294967296)*(b%4294967296)*Bp 0+(a%4294967296)*(b/4294967296)*Bp 1+(a/4294967296)*(b%4294967296)*Bp 1+(a/4294967296)*(b/4294967296)*Bp 2:=by
  generalize a%4294967296=p at*
  generalize a/4294967296=q at*
  generalize b%4294967296=r at*
  generalize b/4294967296=s at*
  subst ea
  subst eb
  have e1:p*(4294967296*s)=4294967296*(p*s):=Int.mul_left_comm _ _ _
  have e2:(4294967296*q)*r=4294967296*(q*r):=zL7 _ _ _
  have e3:(4294967296*q)*(4294967296*s)=4294967296*(4294967296*(q*s)):=by rw[zL7,Int.mul_left_comm q]
  rw[Int.add_mul,Int.mul_add,Int.mul_add,e1,e2,e3]
  simp only[Bp]
  omega
 have p00:=pr a0 b0
 have p01:=pr a0 b1
 have p10:=pr a1 b0
 have p11:=pr a1 b1
 have da:a.tdiv 4294967296=a/4294967296:=zE2 hG
 have db:b.tdiv 4294967296=b/4294967296:=zE2 hI
 have ma:a.tmod 4294967296=a%4294967296:=zG0 hG
 have mb:b.tmod 4294967296=b%4294967296:=zG0 hI
 have wa:IntKind.wrap .u64 (a/4294967296)=a/4294967296:=wrap_u64 zR5
 have wb:IntKind.wrap .u64 (b/4294967296)=b/4294967296:=wrap_u64 zR5
 generalize a%4294967296=p at*
 generalize a/4294967296=q at*
 generalize b%4294967296=r at*
 generalize b/4294967296=s at*
 rw[Z]at J
 rw[Z,←zQ7,←zQ7,←zQ7]
 simp only[Bp]at J
 have d1:=jA (x:=x) (n:=p*r) (at':=0) zR5 F p00.1 zR5 zS2
 have d2:=jA (x:=x+p*r*Bp 0) (n:=p*s) (at':=1) zR5 zS2 p01.1 zR5 zS2
 have d3:=jA (x:=x+p*r*Bp 0+p*s*Bp 1) (n:=q*r) (at':=1) zR5 zS2 p10.1 zR5 zS2
 have d4:=jA (x:=x+p*r*Bp 0+p*s*Bp 1+q*r*Bp 1) (n:=q*s) (at':=2) zR5 zS2 p11.1 zR5 zS2
 conv in Dl=>cbv
 clear Z ea eb J pr
 have w1:IntKind.wrap .u64 (p*r)=p*r:=wrap_u64 zR5
 have w2:IntKind.wrap .u64 (p*s)=p*s:=wrap_u64 zR5
 have w3:IntKind.wrap .u64 (q*r)=q*r:=wrap_u64 zR5
 have w4:IntKind.wrap .u64 (q*s)=q*s:=wrap_u64 zR5
 repeat' first|simp(disch:=omega)only[go_sem, *,da,db,ma,mb,wa,wb,w1,w2,w3,w4,ne_eq]|apply ab<;>intro h<;>try omega|refine ak d1 ?_|refine ak d2 ?_|refine ak d3 ?_|refine ak d4 ?_
theorem lj {y:Int} (F:0≤x) (J:x<Bp 6) (hA:0≤y) (hK:y<Bp 6):ac Pa0 uR [aW x,aW y] (Go.Abs.B (decide (x<y))):=by
 refine ac.of Od zR6 λ_=>aa ?_
 have sx:=uJ F J
 have sy:=uJ hA hK
 have dx:=uD x
 have dy:=uD y
 conv in Da=>cbv
 repeat' first|simp(disch:=omega)only[go_sem, *]|apply ab<;>intro h<;>try omega
 refine al (λi:Nat=>⟨[(2,.c (.ptr 0 0)),(3,.c (.ptr 1 0)),(5,I ((i:Int)-1))], [(0,.var (u6 (dg x))),(1,.var (u6 (dg y)))],2,0⟩)
  (λi=>i≤6∧ ∀j,i≤j→j<6→dg x j=dg y j) (λi=>i) ⟨6, [],⟨zB2 _,λj h1 h2=>by omega⟩,by simp⟩ ?_
 rintro i ⟨hi,g⟩
 refine aa ?_
 generalize dg x=p at*
 generalize dg y=q at*
 have h0:=dx 0 zR5
 have h1:=dx 1 zR5
 have h2:=dx 2 zR5
 have h3:=dx 3 zR5
 have h4:=dx 4 zR5
 have h5:=dx 5 zR5
 have k0:=dy 0 zR5
 have k1:=dy 1 zR5
 have k2:=dy 2 zR5
 have k3:=dy 3 zR5
 have k4:=dy 4 zR5
 have k5:=dy 5 zR5
 clear dx dy
 simp only[dF,Bp]at sx sy
 match i,hi with
 |0,_=>
  have e0:=g 0 zR5 zR5
  have e1:=g 1 zR5 zR5
  have e2:=g 2 zR5 zR5
  have e3:=g 3 zR5 zR5
  have e4:=g 4 zR5 zR5
  have e5:=g 5 zR5 zR5
  have hz:decide (x<y)=false:=zA9 zR5
  clear sx sy g e0 e1 e2 e3 e4 e5
  exact zW0
 |1,_=>
  have e1:=g 1 zR5 zR5
  have e2:=g 2 zR5 zR5
  have e3:=g 3 zR5 zR5
  have e4:=g 4 zR5 zR5
  have e5:=g 5 zR5 zR5
  have hz:p 0≠q 0→decide (x<y)=decide (p 0<q 0):= λN=>by rw[zF2];omega
  clear sx sy e1 e2 e3 e4 e5
  have v:=Lib.hid g
  clear g
  have ek:(((1:Nat):Int)-1)=((0:Nat):Int):=rfl
  simp only[ek]
  repeat' first|simp(disch:=omega)only[go_sem, *,zD1,zF4,wrap_i64]|apply ab<;>intro h<;>try omega
  ·refine⟨0, [],⟨by omega,λj h1 h2=> ?_⟩,by omega,by simp⟩
   by_cases e:j=0
   ·rw[e];assumption
   ·exact v.out j zR5 h2
 |2,_=>
  have e2:=g 2 zR5 zR5
  have e3:=g 3 zR5 zR5
  have e4:=g 4 zR5 zR5
  have e5:=g 5 zR5 zR5
  have hz:p 1≠q 1→decide (x<y)=decide (p 1<q 1):= λN=>by rw[zF2];omega
  clear sx sy e2 e3 e4 e5
  have v:=Lib.hid g
  clear g
  have ek:(((2:Nat):Int)-1)=((1:Nat):Int):=rfl
  simp only[ek]
  repeat' first|simp(disch:=omega)only[go_sem, *,zD1,zF4,wrap_i64]|apply ab<;>intro h<;>try omega
  ·refine⟨1, [],⟨by omega,λj h1 h2=> ?_⟩,by omega,by simp⟩
   by_cases e:j=1
   ·rw[e];assumption
   ·exact v.out j zR5 h2
 |3,_=>
  have e3:=g 3 zR5 zR5
  have e4:=g 4 zR5 zR5
  have e5:=g 5 zR5 zR5
  have hz:p 2≠q 2→decide (x<y)=decide (p 2<q 2):= λN=>by rw[zF2];omega
  clear sx sy e3 e4 e5
  have v:=Lib.hid g
  clear g
  have ek:(((3:Nat):Int)-1)=((2:Nat):Int):=rfl
  simp only[ek]
  repeat' first|simp(disch:=omega)only[go_sem, *,zD1,zF4,wrap_i64]|apply ab<;>intro h<;>try omega
  ·refine⟨2, [],⟨by omega,λj h1 h2=> ?_⟩,by omega,by simp⟩
   by_cases e:j=2
   ·rw[e];assumption
   ·exact v.out j zR5 h2
 |4,_=>
  have e4:=g 4 zR5 zR5
  have e5:=g 5 zR5 zR5
  have hz:p 3≠q 3→decide (x<y)=decide (p 3<q 3):= λN=>by rw[zF2];omega
  clear sx sy e4 e5
  have v:=Lib.hid g
  clear g
  have ek:(((4:Nat):Int)-1)=((3:Nat):Int):=rfl
  simp only[ek]
  repeat' first|simp(disch:=omega)only[go_sem, *,zD1,zF4,wrap_i64]|apply ab<;>intro h<;>try omega
  ·refine⟨3, [],⟨by omega,λj h1 h2=> ?_⟩,by omega,by simp⟩
   by_cases e:j=3
   ·rw[e];assumption
   ·exact v.out j zR5 h2
 |5,_=>
  have e5:=g 5 zR5 zR5
  have hz:p 4≠q 4→decide (x<y)=decide (p 4<q 4):= λN=>by rw[zF2];omega
  clear sx sy e5
  have v:=Lib.hid g
  clear g
  have ek:(((5:Nat):Int)-1)=((4:Nat):Int):=rfl
  simp only[ek]
  repeat' first|simp(disch:=omega)only[go_sem, *,zD1,zF4,wrap_i64]|apply ab<;>intro h<;>try omega
  ·refine⟨4, [],⟨by omega,λj h1 h2=> ?_⟩,by omega,by simp⟩
   by_cases e:j=4
   ·rw[e];assumption
   ·exact v.out j zR5 h2
 |6,_=>
  have hz:p 5≠q 5→decide (x<y)=decide (p 5<q 5):= λN=>by rw[zF2];omega
  clear sx sy
  have v:=Lib.hid g
  clear g
  have ek:(((6:Nat):Int)-1)=((5:Nat):Int):=rfl
  simp only[ek]
  repeat' first|simp(disch:=omega)only[go_sem, *,zD1,zF4,wrap_i64]|apply ab<;>intro h<;>try omega
  ·refine⟨5, [],⟨by omega,λj h1 h2=> ?_⟩,by omega,by simp⟩
   by_cases e:j=5
   ·rw[e];assumption
   ·exact v.out j zR5 h2
def S6 (q:Nat→Int) (i:Nat):Int:=(if i≤0 then q 0*Bp 0 else 0)+(if i≤1 then q 1*Bp 1 else 0)+(if i≤2 then q 2*Bp 2 else 0)+(if i≤3 then q 3*Bp 3 else 0)+(if i≤4 then q 4*Bp 4 else 0)+(if i≤5 then q 5*Bp 5 else 0)
theorem jq {y:Int} (J:x<Bp 6) (hA:0≤y) (hL:y≤x):ac Pa0 fm [aW x,aW y] (aW (x-y)):=by
 refine ac.of L2 zR6 λ_=>aa ?_
 have sx:=uJ zR5 J
 have sy:=uJ hA zR5
 have dx:=uD x
 have dy:=uD y
 conv in BG=>cbv
 repeat' first|simp(disch:=omega)only[go_sem, *]|apply ab<;>intro h<;>try omega
 refine al (λs:Nat×(Nat→Int)×Int=>⟨[(2,.c (.ptr 0 0)),(3,.c (.ptr 1 0)),(4,.c (.ptr 2 0)),(5,U5 s.2.2),(6,I s.1)], [(0,.var (u6 s.2.1)),(1,.var (u6 (dg y))),(2,.var (u6 λ_=>0))],3,0⟩)
  (λs=>s.1≤6∧KY s.2.1∧0≤s.2.2∧s.2.2≤1∧dF s.2.1-S6 (dg y) s.1-s.2.2*Bp s.1=x-y) (λs=>6-s.1) ⟨(0,dg x,0), [],⟨by show 0≤6;omega,dx,by show(0:Int)≤0;decide,by show(0:Int)≤1;decide, ?_⟩,by simp⟩ ?_
 ·show dF (dg x)-S6 (dg y) 0-0*Bp 0=x-y
  rw[sx]
  have:S6 (dg y) 0=dF (dg y):=by simp[S6,dF]
  rw[this,sy]
  omega
 clear sx dx
 rintro⟨i,a,c⟩ ⟨hi,ha,V,W,o⟩
 refine aa ?_
 simp only at hi ha V W o
 generalize dg y=q at*
 obtain⟨R,hR⟩: ∃R,R=x-y:=⟨_,rfl⟩
 rw[←hR]at o ⊢
 have hT:0≤R:=by omega
 clear hR sy hL
 have h0:=ha 0 zR5
 have h1:=ha 1 zR5
 have h2:=ha 2 zR5
 have h3:=ha 3 zR5
 have h4:=ha 4 zR5
 have h5:=ha 5 zR5
 have k0:=dy 0 zR5
 have k1:=dy 1 zR5
 have k2:=dy 2 zR5
 have k3:=dy 3 zR5
 have k4:=dy 4 zR5
 have k5:=dy 5 zR5
 by_cases h6:i=6
 ·subst h6
  have hz:dF a=R:=by
   simp only[dF,Bp,S6]at o ⊢
   simp at o
   omega
  repeat' first|simp(disch:=omega)only[go_sem, *]|apply ab<;>intro h<;>try omega
  show AV.agg (u6 a)=_
  rw[acr ha hz]
 ·have upd: ∀k d,k<6→0≤d→d<4294967296→KY (λj=>if j=k then d else a j):=by
   intro k d hk X Y j hj
   by_cases e:j=k
   ·simp only[e,if_true];exact⟨X,Y⟩
   ·simp only[e,if_false];exact ha j hj
  match i,(show i<6 by omega)with
  |0,_=>
   repeat' first|simp(disch:=omega)only[go_sem, *,zD1,zF4,wrap_u64,wrap_i64]|apply ab<;>intro h<;>try omega
   ·refine⟨(0+1,λj=>if j=0 then a 0+4294967296-(q 0+c)else a j,1), [],⟨by show 0+1≤6;omega,upd 0 _ zR5 zR5 zR5,by show(0:Int)≤1;decide,by show(1:Int)≤1;decide, ?_⟩,by show 6-(0+1)<6-0;omega,by simp⟩
    simp only[dF,Bp,S6,Nat.reduceEqDiff,if_true,if_false,reduceIte,zF7,Nat.reduceLeDiff]at o ⊢
    omega
   ·refine⟨(0+1,λj=>if j=0 then a 0-(q 0+c)else a j,0), [],⟨by show 0+1≤6;omega,upd 0 _ zR5 zR5 zR5,by show(0:Int)≤0;decide,by show(0:Int)≤1;decide, ?_⟩,by show 6-(0+1)<6-0;omega,by simp⟩
    simp only[dF,Bp,S6,Nat.reduceEqDiff,if_true,if_false,reduceIte,zF7,Nat.reduceLeDiff]at o ⊢
    omega
  |1,_=>
   repeat' first|simp(disch:=omega)only[go_sem, *,zD1,zF4,wrap_u64,wrap_i64]|apply ab<;>intro h<;>try omega
   ·refine⟨(1+1,λj=>if j=1 then a 1+4294967296-(q 1+c)else a j,1), [],⟨by show 1+1≤6;omega,upd 1 _ zR5 zR5 zR5,by show(0:Int)≤1;decide,by show(1:Int)≤1;decide, ?_⟩,by show 6-(1+1)<6-1;omega,by simp⟩
    simp only[dF,Bp,S6,Nat.reduceEqDiff,if_true,if_false,reduceIte,zF7,Nat.reduceLeDiff]at o ⊢
    omega
   ·refine⟨(1+1,λj=>if j=1 then a 1-(q 1+c)else a j,0), [],⟨by show 1+1≤6;omega,upd 1 _ zR5 zR5 zR5,by show(0:Int)≤0;decide,by show(0:Int)≤1;decide, ?_⟩,by show 6-(1+1)<6-1;omega,by simp⟩
    simp only[dF,Bp,S6,Nat.reduceEqDiff,if_true,if_false,reduceIte,zF7,Nat.reduceLeDiff]at o ⊢
    omega
  |2,_=>
   repeat' first|simp(disch:=omega)only[go_sem, *,zD1,zF4,wrap_u64,wrap_i64]|apply ab<;>intro h<;>try omega
   ·refine⟨(2+1,λj=>if j=2 then a 2+4294967296-(q 2+c)else a j,1), [],⟨by show 2+1≤6;omega,upd 2 _ zR5 zR5 zR5,by show(0:Int)≤1;decide,by show(1:Int)≤1;decide, ?_⟩,by show 6-(2+1)<6-2;omega,by simp⟩
    simp only[dF,Bp,S6,Nat.reduceEqDiff,if_true,if_false,reduceIte,zF7,Nat.reduceLeDiff]at o ⊢
    omega
   ·refine⟨(2+1,λj=>if j=2 then a 2-(q 2+c)else a j,0), [],⟨by show 2+1≤6;omega,upd 2 _ zR5 zR5 zR5,by show(0:Int)≤0;decide,by show(0:Int)≤1;decide, ?_⟩,by show 6-(2+1)<6-2;omega,by simp⟩
    simp only[dF,Bp,S6,Nat.reduceEqDiff,if_true,if_false,reduceIte,zF7,Nat.reduceLeDiff]at o ⊢
    omega
  |3,_=>
   repeat' first|simp(disch:=omega)only[go_sem, *,zD1,zF4,wrap_u64,wrap_i64]|apply ab<;>intro h<;>try omega
   ·refine⟨(3+1,λj=>if j=3 then a 3+4294967296-(q 3+c)else a j,1), [],⟨by show 3+1≤6;omega,upd 3 _ zR5 zR5 zR5,by show(0:Int)≤1;decide,by show(1:Int)≤1;decide, ?_⟩,by show 6-(3+1)<6-3;omega,by simp⟩
    simp only[dF,Bp,S6,Nat.reduceEqDiff,if_true,if_false,reduceIte,zF7,Nat.reduceLeDiff]at o ⊢
    omega
   ·refine⟨(3+1,λj=>if j=3 then a 3-(q 3+c)else a j,0), [],⟨by show 3+1≤6;omega,upd 3 _ zR5 zR5 zR5,by show(0:Int)≤0;decide,by show(0:Int)≤1;decide, ?_⟩,by show 6-(3+1)<6-3;omega,by simp⟩
    simp only[dF,Bp,S6,Nat.reduceEqDiff,if_true,if_false,reduceIte,zF7,Nat.reduceLeDiff]at o ⊢
    omega
  |4,_=>
   repeat' first|simp(disch:=omega)only[go_sem, *,zD1,zF4,wrap_u64,wrap_i64]|apply ab<;>intro h<;>try omega
   ·refine⟨(4+1,λj=>if j=4 then a 4+4294967296-(q 4+c)else a j,1), [],⟨by show 4+1≤6;omega,upd 4 _ zR5 zR5 zR5,by show(0:Int)≤1;decide,by show(1:Int)≤1;decide, ?_⟩,by show 6-(4+1)<6-4;omega,by simp⟩
    simp only[dF,Bp,S6,Nat.reduceEqDiff,if_true,if_false,reduceIte,zF7,Nat.reduceLeDiff]at o ⊢
    omega
   ·refine⟨(4+1,λj=>if j=4 then a 4-(q 4+c)else a j,0), [],⟨by show 4+1≤6;omega,upd 4 _ zR5 zR5 zR5,by show(0:Int)≤0;decide,by show(0:Int)≤1;decide, ?_⟩,by show 6-(4+1)<6-4;omega,by simp⟩
    simp only[dF,Bp,S6,Nat.reduceEqDiff,if_true,if_false,reduceIte,zF7,Nat.reduceLeDiff]at o ⊢
    omega
  |5,_=>
   repeat' first|simp(disch:=omega)only[go_sem, *,zD1,zF4,wrap_u64,wrap_i64]|apply ab<;>intro h<;>try omega
   ·refine⟨(5+1,λj=>if j=5 then a 5+4294967296-(q 5+c)else a j,1), [],⟨by show 5+1≤6;omega,upd 5 _ zR5 zR5 zR5,by show(0:Int)≤1;decide,by show(1:Int)≤1;decide, ?_⟩,by show 6-(5+1)<6-5;omega,by simp⟩
    simp only[dF,Bp,S6,Nat.reduceEqDiff,if_true,if_false,reduceIte,zF7,Nat.reduceLeDiff]at o ⊢
    omega
   ·refine⟨(5+1,λj=>if j=5 then a 5-(q 5+c)else a j,0), [],⟨by show 5+1≤6;omega,upd 5 _ zR5 zR5 zR5,by show(0:Int)≤0;decide,by show(0:Int)≤1;decide, ?_⟩,by show 6-(5+1)<6-5;omega,by simp⟩
    simp only[dF,Bp,S6,Nat.reduceEqDiff,if_true,if_false,reduceIte,zF7,Nat.reduceLeDiff]at o ⊢
    omega
theorem ij {a:Int} (ha:aH a):ac Pa0 uP [I a] (U5 a.natAbs):=by
 refine ac.of NS zR6 λ_=>aa ?_
 obtain⟨h1,h2⟩:=ha
 conv in EU=>cbv
 repeat' first|simp(disch:=omega)only[go_sem, *,wrap_u64,wrap_i64]|apply ab<;>intro h<;>try omega
 all_goals(congr 4;omega)
def su:List aG→ByteArray→Option Int
 | [],_=>none
 |m::r,s=>if m.1=s then some m.2 else su r s
theorem MR (env:List aG) (s:ByteArray):ac Pa0 wd [bF mP env,S s] (.tup [I ((su env s).getD 0),Go.Abs.B (su env s).isSome]):=by
 refine ac.of Nu zR6 λhb=>aa ?_
 have hx:env.length≤9223372036854775807:=by simpa[f6,fB,f5]using hb.1
 obtain⟨r,hr⟩: ∃r,r=su env s:=⟨_,rfl⟩
 rw[←hr]
 conv in DC=>cbv
 repeat' first|simp(disch:=omega)only[go_sem, *]|apply ab<;>intro h<;>try omega
 refine al (λk:Nat=>⟨[(6,I k),(0,bF mP env),(1,S s)], [],0,0⟩) (λk=>k≤env.length∧Hid (r=su (env.drop k) s)) (λk=>env.length-k) ⟨0, [],⟨by omega,hr⟩,by simp⟩ ?_
 rintro k ⟨hk,g⟩
 refine aa ?_
 clear hr
 by_cases u:k<env.length
 ·have Hall:Hid (r=if env[k].1=s then some env[k].2 else su (env.drop (k+1)) s):=by
   have:=g.out
   rwa [zC0 u,su]at this
  clear g
  repeat' first|simp(disch:=omega)only[go_sem, *,ae u,mP,wrap_i64]|apply ab<;>intro h<;>try omega
  ·rw[Hall.out,if_pos h]
   rfl
  ·refine⟨k+1, [],⟨by omega, ?_⟩,by omega,by simp⟩
   rw[Hid,Hall.out,if_neg h]
 ·have hn:=g.out
  rw[zD6 zR5,su]at hn
  clear g
  subst hn
  repeat' first|simp(disch:=omega)only[go_sem, *]|apply ab<;>intro h<;>try omega
  rfl
set_option maxRecDepth 20000
set_option maxRecDepth 1000000
def qG (f:ByteArray→Int):List aG→Int
 | []=>0
 |m::r=>m.2*f m.1+qG f r
theorem GF (f:ByteArray→Int): ∀(l r:List aG),qG f (l++r)=qG f l+qG f r
 | [],r=>by simp[qG]
 |m::l,r=>by simp only[zD2,qG,GF f l r,zQ7]
theorem tV {f:ByteArray→Int} {l:List aG} {j:Nat} (h:j<l.length):qG f (l.take (j+1))=qG f (l.take j)+l[j].2*f l[j].1:=by
 rw[zB5 h,GF]
 simp[qG]
def m0 (env:List aG) (s:ByteArray):Int:=(su env s).getD 0
noncomputable def io (k:Int) (l:List aG) (env:List aG):Int×Int:=
 if ¬gN l then(0,1)else if ∃m∈l,su env m.1=none then(0,9)else if aH (k+qG (m0 env) l)then(k+qG (m0 env) l,0)else(0,3)
variable {env:List aG}
theorem aa0 {s:ByteArray} (h:su env s=some x): ∃m∈env,m.2=x:=by
 induction env with
 |nil=>cases h
 |cons m r ih=>
  rw[su]at h
  split at h
  ·cases h;exact⟨m,zC5,rfl⟩
  ·obtain⟨m',h1,h2⟩:=ih h
   exact⟨m',zC3 _ h1,h2⟩
theorem mY {a:Int} (ha:aH a) (hb:aH b):0≤(a.natAbs:Int)*b.natAbs∧(a.natAbs:Int)*b.natAbs≤85070591730234615865843651857942052864:=by
 have h1:(a.natAbs:Int)≤9223372036854775808:=by unfold aH at ha;omega
 have h2:(b.natAbs:Int)≤9223372036854775808:=by unfold aH at hb;omega
 refine⟨zM5 zR5 zR5, ?_⟩
 have:=zI4 h1 h2 zR5 zR5
 omega
theorem oZ {a:Int} (h:(a<0∧b<0)∨(¬a<0∧ ¬b<0)):(a.natAbs:Int)*b.natAbs=b*a:=by
 rcases h with⟨h1,h2⟩|⟨h1,h2⟩
 ·rw[show(a.natAbs:Int)= -a by omega,show(b.natAbs:Int)= -b by omega,Int.neg_mul_neg,zG6]
 ·rw[show(a.natAbs:Int)=a by omega,show(b.natAbs:Int)=b by omega,zG6]
theorem oJ {a:Int} (h:(a<0∧ ¬b<0)∨(¬a<0∧b<0)):(a.natAbs:Int)*b.natAbs= -(b*a):=by
 rcases h with⟨h1,h2⟩|⟨h1,h2⟩
 ·rw[show(a.natAbs:Int)= -a by omega,show(b.natAbs:Int)=b by omega,zR4,zG6]
 ·rw[show(a.natAbs:Int)=a by omega,show(b.natAbs:Int)= -b by omega,zO6,zG6]
theorem EK:dg 0= λ_=>0:=by
 funext j
 simp[dg]
theorem fV {k:Int} {l:List aG} (hk:aH k) (M: ∀m∈l,aH m.2) (O: ∀m∈env,aH m.2):ac Pa0 iH [iK k l,bF mP env] (.tup [I (io k l env).1,I (io k l env).2]):=by
 refine ac.of Nc zR6 λhb=>aa ?_
 have hl:=vZ hb.1
 conv in Ep=>cbv
 by_cases h1:gN l
 ·have pk:=ij hk
  have hU:(k.natAbs:Int)≤9223372036854775808:=by unfold aH at hk;omega
  have fnd:=MR env
  have v64: ∀s x,su env s=some x→aH x:= λs x h=>by
   obtain⟨m,hm,rfl⟩:=aa0 h
   exact O m hm
  by_cases hN:k<0
  ·have pp:=fR (x:=0) (a:=k.natAbs) (b:=1) zR5 zR5 zR5 zR5 zR5 zS2
   rw[show(0:Int)+k.natAbs*1=k.natAbs by omega]at pp
   have z0:(λ_:Nat=>(0:Int))=dg 0:=EK.symm
   have e0:dg 0 0=0:=by simp[dg]
   simp only[aW,u6,EK]at pp
   repeat' first|simp(disch:=omega)only[go_sem, *,h1]|apply ab<;>intro h<;>try omega|refine ak (jS _ _) ?_|refine ak pk ?_|refine ak pp ?_
   refine al (λs:Nat×Int×Int=>⟨[(1,bF mP env),(2,.c (.ptr 0 0)),(6,.c (.ptr 1 0)),(7,.c (.ptr 2 0)),(8,I s.1)], [(0,.var [.pure (pI k),.pure (bQ l)]),(1,.var (u6 (dg s.2.1))),(2,.var (u6 (dg s.2.2)))],3,0⟩)
    (λs=>s.1≤l.length∧0≤s.2.1∧0≤s.2.2∧s.2.1≤9223372036854775808+s.1*85070591730234615865843651857942052864∧s.2.2≤9223372036854775808+s.1*85070591730234615865843651857942052864∧Hid (s.2.1-s.2.2=k+qG (m0 env) (l.take s.1))∧ct (λi=> ∀h:i<l.length,su env l[i].1≠none) s.1) (λs=>l.length-s.1) ⟨(0,(0:Int),(k.natAbs:Int)), [],⟨zE6 _,by show(0:Int)≤(0:Int);omega,by show(0:Int)≤(k.natAbs:Int);omega,by show(0:Int)≤(9223372036854775808:Int)+((0:Nat):Int)*_;omega,by show(k.natAbs:Int)≤(9223372036854775808:Int)+((0:Nat):Int)*_;omega, ?_,.zero⟩, ?_⟩ ?_
   ·show _=_
    simp only[zM6,qG]
    omega
   ·simp[EK]
   rintro⟨j,p,n⟩ ⟨hj,E,w,hC,K,hs,g⟩
   refine aa ?_
   simp only at hj E w hC K
   clear pp pk
   by_cases u:j<l.length
   ·have hm:=zA6 u
    have L:=M _ hm
    cases hx:su env l[j].1 with
    |none=>
     have G: ∃m∈l,su env m.1=none:=⟨l[j],hm,hx⟩
     rw[io,if_neg (zA5 h1),if_pos G]
     have hE:=fnd l[j].1
     rw[hx]at hE
     clear G hs g hx
     repeat' first|simp(disch:=omega)only[go_sem, *,ae u,mP]|apply ab<;>intro h<;>try omega|refine ak hE ?_
     all_goals(simp at*;done)
    |some x=>
     have hE:=fnd l[j].1
     rw[hx]at hE
     have H:=v64 _ _ hx
     have hM:=mY H L
     have q1:=ij H
     have q2:=ij L
     have hD:(j:Int)<9223372036854775807:=by omega
     have F:(x.natAbs:Int)<18446744073709551616:=by unfold aH at H;omega
     have P:(l[j].2.natAbs:Int)<18446744073709551616:=by unfold aH at L;omega
     have ap:=fR (x:=p) (a:=x.natAbs) (b:=l[j].2.natAbs) E zR5 F zR5 P zS2
     have an:=fR (x:=n) (a:=x.natAbs) (b:=l[j].2.natAbs) w zR5 F zR5 P zS2
     have hv:m0 env l[j].1=x:=by rw[m0,hx];rfl
     have HX:=Lib.hid hx
     clear hx
     have stepP:(x<0∧l[j].2<0)∨(¬x<0∧ ¬l[j].2<0)→Hid (p+(x.natAbs:Int)*l[j].2.natAbs-n=k+qG (m0 env) (l.take (j+1))):= λh=>by
      show _=_
      rw[tV u,hv,oZ h]
      have:=hs.out
      simp only at this
      omega
     have stepN:(x<0∧ ¬l[j].2<0)∨(¬x<0∧l[j].2<0)→Hid (p-(n+(x.natAbs:Int)*l[j].2.natAbs)=k+qG (m0 env) (l.take (j+1))):= λh=>by
      show _=_
      rw[tV u,hv,oJ h]
      have:=hs.out
      simp only at this
      omega
     have HP:=Lib.hid stepP
     have HN:=Lib.hid stepN
     have nxt:=g.succ (p:= λi=> ∀h:i<l.length,su env l[i].1≠none) λ_=>by rw[HX.out];simp
     have NX:=Lib.hid nxt
     clear stepP stepN hs g hv hm nxt
     by_cases D:x<0
     ·by_cases A:l[j].2<0
      ·repeat' first|simp(disch:=omega)only[go_sem, *,ae u,mP,wrap_i64,zA8,zF3,D,A]|apply ab<;>intro h<;>try omega|refine ak hE ?_|refine ak q1 ?_|refine ak q2 ?_|refine ak ap ?_|refine ak an ?_
       refine⟨(j+1,p+(x.natAbs:Int)*l[j].2.natAbs,n), [],⟨u,by show 0≤p+_;omega,w,by show p+_≤_;omega,by show n≤_;omega,HP.out (.inl ⟨D,A⟩),NX.out⟩,by show _-_<_-_;omega,by simp⟩
      ·repeat' first|simp(disch:=omega)only[go_sem, *,ae u,mP,wrap_i64,zA8,zF3,D,A]|apply ab<;>intro h<;>try omega|refine ak hE ?_|refine ak q1 ?_|refine ak q2 ?_|refine ak ap ?_|refine ak an ?_
       refine⟨(j+1,p,n+(x.natAbs:Int)*l[j].2.natAbs), [],⟨u,E,by show 0≤n+_;omega,by show p≤_;omega,by show n+_≤_;omega,HN.out (.inl ⟨D,A⟩),NX.out⟩,by show _-_<_-_;omega,by simp⟩
     ·by_cases A:l[j].2<0
      ·repeat' first|simp(disch:=omega)only[go_sem, *,ae u,mP,wrap_i64,zA8,zF3,D,A]|apply ab<;>intro h<;>try omega|refine ak hE ?_|refine ak q1 ?_|refine ak q2 ?_|refine ak ap ?_|refine ak an ?_
       refine⟨(j+1,p,n+(x.natAbs:Int)*l[j].2.natAbs), [],⟨u,E,by show 0≤n+_;omega,by show p≤_;omega,by show n+_≤_;omega,HN.out (.inr ⟨D,A⟩),NX.out⟩,by show _-_<_-_;omega,by simp⟩
      ·repeat' first|simp(disch:=omega)only[go_sem, *,ae u,mP,wrap_i64,zA8,zF3,D,A]|apply ab<;>intro h<;>try omega|refine ak hE ?_|refine ak q1 ?_|refine ak q2 ?_|refine ak ap ?_|refine ak an ?_
       refine⟨(j+1,p+(x.natAbs:Int)*l[j].2.natAbs,n), [],⟨u,by show 0≤p+_;omega,w,by show p+_≤_;omega,by show n≤_;omega,HP.out (.inr ⟨D,A⟩),NX.out⟩,by show _-_<_-_;omega,by simp⟩
   ·have G: ¬ ∃m∈l,su env m.1=none:=by
     rintro⟨m,hm,he⟩
     obtain⟨i,hi,rfl⟩:=zC2.1 hm
     exact g i zR5 hi he
    have hS:=hs.out
    simp only at hS
    rw[zB6 zR5]at hS
    rw[io,if_neg (zA5 h1),if_neg G,←hS]
    have hD:(j:Int)≤9223372036854775807:=by omega
    clear hs g G hS fnd v64 M O
    by_cases z:p<n
    ·have cl:=lj (x:=p) (y:=n) E zS2 w zS2
     rw[zB1 z]at cl
     have cm:ac Pa0 fm [aW n,aW p] (.agg (u6 (dg (n-p)))):=jq (x:=n) (y:=p) zS2 E zR5
     have sD:=uJ (x:=n-p) zR5 zS2
     have dD:=uD (n-p)
     generalize dg (n-p)=d at*
     have d0:=dD 0 zR5
     have d1:=dD 1 zR5
     have d2:=dD 2 zR5
     have d3:=dD 3 zR5
     have d4:=dD 4 zR5
     have d5:=dD 5 zR5
     simp only[dF,Bp]at sD
     clear dD
     have hR:p-n= -(d 0+d 1*4294967296+d 2*18446744073709551616+d 3*79228162514264337593543950336+d 4*340282366920938463463374607431768211456+d 5*1461501637330902918203684832716283019655932542976):=by omega
     have t:aH (p-n)↔(d 2=0∧d 3=0∧d 4=0∧d 5=0∧d 0+d 1*4294967296≤9223372036854775808):=by unfold aH;omega
     have Q:0<d 0+d 1*4294967296+d 2*18446744073709551616+d 3*79228162514264337593543950336+d 4*340282366920938463463374607431768211456+d 5*1461501637330902918203684832716283019655932542976:=by omega
     by_cases C:aH (p-n)
     ·rw[if_pos C]
      obtain⟨z2,z3,z4,z5,zz⟩:=t.1 C
      have e1:p-n= -(d 0+d 1*4294967296):=by omega
      rw[e1]
      clear t hR sD e1 z
      repeat' first|simp(disch:=omega)only[go_sem, *,z2,z3,z4,z5,zD1,zB3,show Int.toNat 1=1 from rfl,show Int.toNat 2=2 from rfl,show Int.toNat 3=3 from rfl,show Int.toNat 4=4 from rfl,show Int.toNat 5=5 from rfl,zF4,wrap_u64,wrap_i64]|apply ab<;>intro h<;>try omega|refine ak cl ?_|refine ak cm ?_
      rw[show 0-(d 0+d 1*4294967296-1)-1= -(d 0+d 1*4294967296) by omega]
     ·rw[if_neg C]
      have hF: ¬(d 2=0∧d 3=0∧d 4=0∧d 5=0∧d 0+d 1*4294967296≤9223372036854775808):= λh=>C (t.2 h)
      clear t hR sD z
      exact zW5
    ·have cl:=lj (x:=p) (y:=n) E zS2 w zS2
     rw[zA9 z]at cl
     have cm:ac Pa0 fm [aW p,aW n] (.agg (u6 (dg (p-n)))):=jq (x:=p) (y:=n) zS2 w zR5
     have sD:=uJ (x:=p-n) zR5 zS2
     have dD:=uD (p-n)
     generalize dg (p-n)=d at*
     have d0:=dD 0 zR5
     have d1:=dD 1 zR5
     have d2:=dD 2 zR5
     have d3:=dD 3 zR5
     have d4:=dD 4 zR5
     have d5:=dD 5 zR5
     simp only[dF,Bp]at sD
     clear dD
     have hR:p-n=(d 0+d 1*4294967296+d 2*18446744073709551616+d 3*79228162514264337593543950336+d 4*340282366920938463463374607431768211456+d 5*1461501637330902918203684832716283019655932542976):=by omega
     have t:aH (p-n)↔(d 2=0∧d 3=0∧d 4=0∧d 5=0∧d 0+d 1*4294967296≤9223372036854775807):=by unfold aH;omega
     have Q:0≤d 0+d 1*4294967296+d 2*18446744073709551616+d 3*79228162514264337593543950336+d 4*340282366920938463463374607431768211456+d 5*1461501637330902918203684832716283019655932542976:=by omega
     by_cases C:aH (p-n)
     ·rw[if_pos C]
      obtain⟨z2,z3,z4,z5,zz⟩:=t.1 C
      have e1:p-n=d 0+d 1*4294967296:=by omega
      rw[e1]
      clear t hR sD e1 z
      exact zW9
     ·rw[if_neg C]
      have hF: ¬(d 2=0∧d 3=0∧d 4=0∧d 5=0∧d 0+d 1*4294967296≤9223372036854775807):= λh=>C (t.2 h)
      clear t hR sD z
      exact zW5
  ·have pp:=fR (x:=0) (a:=k.natAbs) (b:=1) zR5 zR5 zR5 zR5 zR5 zS2
   rw[show(0:Int)+k.natAbs*1=k.natAbs by omega]at pp
   simp only[aW,u6,EK]at pp
   repeat' first|simp(disch:=omega)only[go_sem, *,h1]|apply ab<;>intro h<;>try omega|refine ak (jS _ _) ?_|refine ak pk ?_|refine ak pp ?_
   refine al (λs:Nat×Int×Int=>⟨[(1,bF mP env),(2,.c (.ptr 0 0)),(6,.c (.ptr 1 0)),(7,.c (.ptr 2 0)),(8,I s.1)], [(0,.var [.pure (pI k),.pure (bQ l)]),(1,.var (u6 (dg s.2.1))),(2,.var (u6 (dg s.2.2)))],3,0⟩)
    (λs=>s.1≤l.length∧0≤s.2.1∧0≤s.2.2∧s.2.1≤9223372036854775808+s.1*85070591730234615865843651857942052864∧s.2.2≤9223372036854775808+s.1*85070591730234615865843651857942052864∧Hid (s.2.1-s.2.2=k+qG (m0 env) (l.take s.1))∧ct (λi=> ∀h:i<l.length,su env l[i].1≠none) s.1) (λs=>l.length-s.1) ⟨(0,(k.natAbs:Int),(0:Int)), [],⟨zE6 _,by show(0:Int)≤(k.natAbs:Int);omega,by show(0:Int)≤(0:Int);omega,by show(k.natAbs:Int)≤(9223372036854775808:Int)+((0:Nat):Int)*_;omega,by show(0:Int)≤(9223372036854775808:Int)+((0:Nat):Int)*_;omega, ?_,.zero⟩, ?_⟩ ?_
   ·show _=_
    simp only[zM6,qG]
    omega
   ·simp[EK]
   rintro⟨j,p,n⟩ ⟨hj,E,w,hC,K,hs,g⟩
   refine aa ?_
   simp only at hj E w hC K
   clear pp pk
   by_cases u:j<l.length
   ·have hm:=zA6 u
    have L:=M _ hm
    cases hx:su env l[j].1 with
    |none=>
     have G: ∃m∈l,su env m.1=none:=⟨l[j],hm,hx⟩
     rw[io,if_neg (zA5 h1),if_pos G]
     have hE:=fnd l[j].1
     rw[hx]at hE
     clear G hs g hx
     repeat' first|simp(disch:=omega)only[go_sem, *,ae u,mP]|apply ab<;>intro h<;>try omega|refine ak hE ?_
     all_goals(simp at*;done)
    |some x=>
     have hE:=fnd l[j].1
     rw[hx]at hE
     have H:=v64 _ _ hx
     have hM:=mY H L
     have q1:=ij H
     have q2:=ij L
     have hD:(j:Int)<9223372036854775807:=by omega
     have F:(x.natAbs:Int)<18446744073709551616:=by unfold aH at H;omega
     have P:(l[j].2.natAbs:Int)<18446744073709551616:=by unfold aH at L;omega
     have ap:=fR (x:=p) (a:=x.natAbs) (b:=l[j].2.natAbs) E zR5 F zR5 P zS2
     have an:=fR (x:=n) (a:=x.natAbs) (b:=l[j].2.natAbs) w zR5 F zR5 P zS2
     have hv:m0 env l[j].1=x:=by rw[m0,hx];rfl
     have HX:=Lib.hid hx
     clear hx
     have stepP:(x<0∧l[j].2<0)∨(¬x<0∧ ¬l[j].2<0)→Hid (p+(x.natAbs:Int)*l[j].2.natAbs-n=k+qG (m0 env) (l.take (j+1))):= λh=>by
      show _=_
      rw[tV u,hv,oZ h]
      have:=hs.out
      simp only at this
      omega
     have stepN:(x<0∧ ¬l[j].2<0)∨(¬x<0∧l[j].2<0)→Hid (p-(n+(x.natAbs:Int)*l[j].2.natAbs)=k+qG (m0 env) (l.take (j+1))):= λh=>by
      show _=_
      rw[tV u,hv,oJ h]
      have:=hs.out
      simp only at this
      omega
     have HP:=Lib.hid stepP
     have HN:=Lib.hid stepN
     have nxt:=g.succ (p:= λi=> ∀h:i<l.length,su env l[i].1≠none) λ_=>by rw[HX.out];simp
     have NX:=Lib.hid nxt
     clear stepP stepN hs g hv hm nxt
     by_cases D:x<0
     ·by_cases A:l[j].2<0
      ·repeat' first|simp(disch:=omega)only[go_sem, *,ae u,mP,wrap_i64,zA8,zF3,D,A]|apply ab<;>intro h<;>try omega|refine ak hE ?_|refine ak q1 ?_|refine ak q2 ?_|refine ak ap ?_|refine ak an ?_
       refine⟨(j+1,p+(x.natAbs:Int)*l[j].2.natAbs,n), [],⟨u,by show 0≤p+_;omega,w,by show p+_≤_;omega,by show n≤_;omega,HP.out (.inl ⟨D,A⟩),NX.out⟩,by show _-_<_-_;omega,by simp⟩
      ·repeat' first|simp(disch:=omega)only[go_sem, *,ae u,mP,wrap_i64,zA8,zF3,D,A]|apply ab<;>intro h<;>try omega|refine ak hE ?_|refine ak q1 ?_|refine ak q2 ?_|refine ak ap ?_|refine ak an ?_
       refine⟨(j+1,p,n+(x.natAbs:Int)*l[j].2.natAbs), [],⟨u,E,by show 0≤n+_;omega,by show p≤_;omega,by show n+_≤_;omega,HN.out (.inl ⟨D,A⟩),NX.out⟩,by show _-_<_-_;omega,by simp⟩
     ·by_cases A:l[j].2<0
      ·repeat' first|simp(disch:=omega)only[go_sem, *,ae u,mP,wrap_i64,zA8,zF3,D,A]|apply ab<;>intro h<;>try omega|refine ak hE ?_|refine ak q1 ?_|refine ak q2 ?_|refine ak ap ?_|refine ak an ?_
       refine⟨(j+1,p,n+(x.natAbs:Int)*l[j].2.natAbs), [],⟨u,E,by show 0≤n+_;omega,by show p≤_;omega,by show n+_≤_;omega,HN.out (.inr ⟨D,A⟩),NX.out⟩,by show _-_<_-_;omega,by simp⟩
      ·repeat' first|simp(disch:=omega)only[go_sem, *,ae u,mP,wrap_i64,zA8,zF3,D,A]|apply ab<;>intro h<;>try omega|refine ak hE ?_|refine ak q1 ?_|refine ak q2 ?_|refine ak ap ?_|refine ak an ?_
       refine⟨(j+1,p+(x.natAbs:Int)*l[j].2.natAbs,n), [],⟨u,by show 0≤p+_;omega,w,by show p+_≤_;omega,by show n≤_;omega,HP.out (.inr ⟨D,A⟩),NX.out⟩,by show _-_<_-_;omega,by simp⟩
   ·have G: ¬ ∃m∈l,su env m.1=none:=by
     rintro⟨m,hm,he⟩
     obtain⟨i,hi,rfl⟩:=zC2.1 hm
     exact g i zR5 hi he
    have hS:=hs.out
    simp only at hS
    rw[zB6 zR5]at hS
    rw[io,if_neg (zA5 h1),if_neg G,←hS]
    have hD:(j:Int)≤9223372036854775807:=by omega
    clear hs g G hS fnd v64 M O
    by_cases z:p<n
    ·have cl:=lj (x:=p) (y:=n) E zS2 w zS2
     rw[zB1 z]at cl
     have cm:ac Pa0 fm [aW n,aW p] (.agg (u6 (dg (n-p)))):=jq (x:=n) (y:=p) zS2 E zR5
     have sD:=uJ (x:=n-p) zR5 zS2
     have dD:=uD (n-p)
     generalize dg (n-p)=d at*
     have d0:=dD 0 zR5
     have d1:=dD 1 zR5
     have d2:=dD 2 zR5
     have d3:=dD 3 zR5
     have d4:=dD 4 zR5
     have d5:=dD 5 zR5
     simp only[dF,Bp]at sD
     clear dD
     have hR:p-n= -(d 0+d 1*4294967296+d 2*18446744073709551616+d 3*79228162514264337593543950336+d 4*340282366920938463463374607431768211456+d 5*1461501637330902918203684832716283019655932542976):=by omega
     have t:aH (p-n)↔(d 2=0∧d 3=0∧d 4=0∧d 5=0∧d 0+d 1*4294967296≤9223372036854775808):=by unfold aH;omega
     have Q:0<d 0+d 1*4294967296+d 2*18446744073709551616+d 3*79228162514264337593543950336+d 4*340282366920938463463374607431768211456+d 5*1461501637330902918203684832716283019655932542976:=by omega
     by_cases C:aH (p-n)
     ·rw[if_pos C]
      obtain⟨z2,z3,z4,z5,zz⟩:=t.1 C
      have e1:p-n= -(d 0+d 1*4294967296):=by omega
      rw[e1]
      clear t hR sD e1 z
      repeat' first|simp(disch:=omega)only[go_sem, *,z2,z3,z4,z5,zD1,zB3,show Int.toNat 1=1 from rfl,show Int.toNat 2=2 from rfl,show Int.toNat 3=3 from rfl,show Int.toNat 4=4 from rfl,show Int.toNat 5=5 from rfl,zF4,wrap_u64,wrap_i64]|apply ab<;>intro h<;>try omega|refine ak cl ?_|refine ak cm ?_
      rw[show 0-(d 0+d 1*4294967296-1)-1= -(d 0+d 1*4294967296) by omega]
     ·rw[if_neg C]
      have hF: ¬(d 2=0∧d 3=0∧d 4=0∧d 5=0∧d 0+d 1*4294967296≤9223372036854775808):= λh=>C (t.2 h)
      clear t hR sD z
      exact zW5
    ·have cl:=lj (x:=p) (y:=n) E zS2 w zS2
     rw[zA9 z]at cl
     have cm:ac Pa0 fm [aW p,aW n] (.agg (u6 (dg (p-n)))):=jq (x:=p) (y:=n) zS2 w zR5
     have sD:=uJ (x:=p-n) zR5 zS2
     have dD:=uD (p-n)
     generalize dg (p-n)=d at*
     have d0:=dD 0 zR5
     have d1:=dD 1 zR5
     have d2:=dD 2 zR5
     have d3:=dD 3 zR5
     have d4:=dD 4 zR5
     have d5:=dD 5 zR5
     simp only[dF,Bp]at sD
     clear dD
     have hR:p-n=(d 0+d 1*4294967296+d 2*18446744073709551616+d 3*79228162514264337593543950336+d 4*340282366920938463463374607431768211456+d 5*1461501637330902918203684832716283019655932542976):=by omega
     have t:aH (p-n)↔(d 2=0∧d 3=0∧d 4=0∧d 5=0∧d 0+d 1*4294967296≤9223372036854775807):=by unfold aH;omega
     have Q:0≤d 0+d 1*4294967296+d 2*18446744073709551616+d 3*79228162514264337593543950336+d 4*340282366920938463463374607431768211456+d 5*1461501637330902918203684832716283019655932542976:=by omega
     by_cases C:aH (p-n)
     ·rw[if_pos C]
      obtain⟨z2,z3,z4,z5,zz⟩:=t.1 C
      have e1:p-n=d 0+d 1*4294967296:=by omega
      rw[e1]
      clear t hR sD e1 z
      exact zW9
     ·rw[if_neg C]
      have hF: ¬(d 2=0∧d 3=0∧d 4=0∧d 5=0∧d 0+d 1*4294967296≤9223372036854775807):= λh=>C (t.2 h)
      clear t hR sD z
      exact zW5
 ·rw[io,if_pos h1]
  repeat' first|simp(disch:=omega)only[go_sem, *,h1]|apply ab<;>intro h<;>try omega|refine ak (jS _ _) ?_
end Go.Proofs.YtigdjhnndaokjaaGreatDoor
