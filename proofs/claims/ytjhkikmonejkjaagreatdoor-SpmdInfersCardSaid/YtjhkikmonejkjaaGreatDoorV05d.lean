import Derived.Test.YtjhkikmonejkjaaGreatDoorV12a
set_option linter.unusedVariables false
set_option linter.unusedSimpArgs false
set_option maxRecDepth 20000
open Go.Proofs.Tryz renaming prog→Ya
namespace Go.Proofs.YtjhkikmonejkjaaGreatDoor
open Go.Abs Go.RowKit
def Bp:Nat→Int
 |0=>1
 |1=>4294967296
 |2=>18446744073709551616
 |3=>79228162514264337593543950336
 |4=>340282366920938463463374607431768211456
 |5=>1461501637330902918203684832716283019655932542976
 |_=>6277101735386680763835789423207666416102355444464034512896
abbrev u64 (n:Int):AC:= .pure (.val (.int .u64 n))
abbrev U5 (n:Int):AV:= .c (u64 n)
abbrev u6 (a:Nat→Int):List AC:= [u64 (a 0),u64 (a 1),u64 (a 2),u64 (a 3),u64 (a 4),u64 (a 5)]
def cJ (a:Nat→Int):Int:=a 0*Bp 0+a 1*Bp 1+a 2*Bp 2+a 3*Bp 3+a 4*Bp 4+a 5*Bp 5
def CR (a:Nat→Int):Prop:= ∀j,j<6→0≤a j∧a j<4294967296
def dg (x:Int) (j:Nat):Int:=x/Bp j%4294967296
abbrev aW (x:Int):AV:= .agg (u6 (dg x))
theorem pA (x:Int):CR (dg x):= λj _=>by unfold dg;omega
theorem pO {x:Int} (h0:0≤x) (h1:x<Bp 6):cJ (dg x)=x:=by
 simp only[cJ,dg,Bp]at*
 omega
theorem Gz {a:Nat→Int} (h:CR a): ∀j,j<6→dg (cJ a) j=a j:=by
 intro j hj
 have h0:=h 0 (by omega)
 have h1:=h 1 (by omega)
 have h2:=h 2 (by omega)
 have h3:=h 3 (by omega)
 have h4:=h 4 (by omega)
 have h5:=h 5 (by omega)
 simp only[cJ,dg,Bp]
 match j,hj with
 |0,_=>simp only[Bp];omega
 |1,_=>simp only[Bp];omega
 |2,_=>simp only[Bp];omega
 |3,_=>simp only[Bp];omega
 |4,_=>simp only[Bp];omega
 |5,_=>simp only[Bp];omega
theorem Sx {a:Nat→Int} (h:CR a) {x:Int} (hx:cJ a=x):u6 a=u6 (dg x):=by
 subst hx
 simp only[u6,Gz h 0 (by omega),Gz h 1 (by omega),Gz h 2 (by omega),Gz h 3 (by omega),Gz h 4 (by omega),Gz h 5 (by omega)]
theorem gE {x n:Int} {at':Nat} (hI:at'≤2) (F:0≤x) (w:0≤n) (K:n<18446744073709551616) (J:x+n*Bp at'<Bp 6):af Ya uW [aW x,I at',U5 n] (aW (x+n*Bp at')):=by
 refine af.of CB (by simp) λ_=>aa ?_
 have hB:0≤n*Bp at':=Int.mul_nonneg w (by match at',hI with|0,_=>decide|1,_=>decide|2,_=>decide)
 have o:=pO F (by omega)
 have T:=pA x
 obtain⟨R,hR⟩: ∃R,R=x+n*Bp at':=⟨_,rfl⟩
 rw[←hR]at J ⊢
 simp only[vd]
 repeat' first|simp(disch:=omega)only[go_sem, *]|apply ab<;>intro h<;>try omega
 refine ai (λs:Nat×(Nat→Int)×Int×Int=>⟨[(2,U5 s.2.2.2),(3,.c (.ptr 0 0)),(6,.c (.ptr 1 0)),(7,U5 s.2.2.1),(8,I s.1)], [(0,.var (u6 s.2.1)),(1,.var (u6 λ_=>0))],2,0⟩)
  (λs=>s.1≤6∧CR s.2.1∧0≤s.2.2.1∧s.2.2.1≤1∧0≤s.2.2.2∧s.2.2.2<18446744073709551616∧cJ s.2.1+(s.2.2.2+s.2.2.1)*Bp s.1=R) (λs=>6-s.1) ⟨(at',dg x,0,n), [],⟨by show at'≤6;omega,T,by show(0:Int)≤0;decide,by show(0:Int)≤1;decide,w,K, ?_⟩,by simp⟩ ?_
 ·show cJ (dg x)+(n+0)*Bp at'=R
  rw[o,Int.add_zero,hR]
 clear o T hR w K hB
 rintro⟨i,a,c,n⟩ ⟨hi,ha,V,W,w,K,o⟩
 refine aa ?_
 simp only at hi ha V W w K o
 have h0:=ha 0 (by omega)
 have h1:=ha 1 (by omega)
 have h2:=ha 2 (by omega)
 have h3:=ha 3 (by omega)
 have h4:=ha 4 (by omega)
 have h5:=ha 5 (by omega)
 by_cases h6:i=6
 ·subst h6
  have hz:cJ a=R:=by
   simp only[cJ,Bp]at o J ⊢
   omega
  repeat' first|simp(disch:=omega)only[go_sem, *,Int.toNat_natCast]|apply ab<;>intro h<;>try omega
  show AV.agg (u6 a)=_
  rw[Sx ha hz]
 ·have upd: ∀k d,k<6→0≤d→d<4294967296→CR (λj=>if j=k then d else a j):=by
   intro k d hk X Y j hj
   by_cases e:j=k
   ·simp only[e,if_true];exact⟨X,Y⟩
   ·simp only[e,if_false];exact ha j hj
  match i,(show i<6 by omega)with
  |0,_=>
   repeat' first|simp(disch:=omega)only[go_sem, *,Int.toNat_natCast,Nat.mul_one,wrap_u64,Int.tdiv_eq_ediv_of_nonneg,Int.tmod_eq_emod_of_nonneg,wrap_i64]|apply ab<;>intro h<;>try omega
   refine⟨(0+1,λj=>if j=0 then(a 0+n%4294967296+c)%4294967296 else a j,(a 0+n%4294967296+c)/4294967296,n/4294967296), [],⟨by show 0+1≤6;omega,upd 0 _ (by omega) (by omega) (by omega), ?_, ?_, ?_, ?_, ?_⟩,by show 6-(0+1)<6-0;omega,by simp⟩
   ·show 0≤(a 0+n%4294967296+c)/4294967296;omega
   ·show(a 0+n%4294967296+c)/4294967296≤1;omega
   ·show 0≤n/4294967296;omega
   ·show n/4294967296<18446744073709551616;omega
   ·simp only[cJ,Bp,Nat.reduceEqDiff,if_true,if_false,reduceIte,Nat.zero_ne_one]at o ⊢
    omega
  |1,_=>
   repeat' first|simp(disch:=omega)only[go_sem, *,Int.toNat_natCast,Nat.mul_one,wrap_u64,Int.tdiv_eq_ediv_of_nonneg,Int.tmod_eq_emod_of_nonneg,wrap_i64]|apply ab<;>intro h<;>try omega
   refine⟨(1+1,λj=>if j=1 then(a 1+n%4294967296+c)%4294967296 else a j,(a 1+n%4294967296+c)/4294967296,n/4294967296), [],⟨by show 1+1≤6;omega,upd 1 _ (by omega) (by omega) (by omega), ?_, ?_, ?_, ?_, ?_⟩,by show 6-(1+1)<6-1;omega,by simp⟩
   ·show 0≤(a 1+n%4294967296+c)/4294967296;omega
   ·show(a 1+n%4294967296+c)/4294967296≤1;omega
   ·show 0≤n/4294967296;omega
   ·show n/4294967296<18446744073709551616;omega
   ·simp only[cJ,Bp,Nat.reduceEqDiff,if_true,if_false,reduceIte,Nat.zero_ne_one]at o ⊢
    omega
  |2,_=>
   repeat' first|simp(disch:=omega)only[go_sem, *,Int.toNat_natCast,Nat.mul_one,wrap_u64,Int.tdiv_eq_ediv_of_nonneg,Int.tmod_eq_emod_of_nonneg,wrap_i64]|apply ab<;>intro h<;>try omega
   refine⟨(2+1,λj=>if j=2 then(a 2+n%4294967296+c)%4294967296 else a j,(a 2+n%4294967296+c)/4294967296,n/4294967296), [],⟨by show 2+1≤6;omega,upd 2 _ (by omega) (by omega) (by omega), ?_, ?_, ?_, ?_, ?_⟩,by show 6-(2+1)<6-2;omega,by simp⟩
   ·show 0≤(a 2+n%4294967296+c)/4294967296;omega
   ·show(a 2+n%4294967296+c)/4294967296≤1;omega
   ·show 0≤n/4294967296;omega
   ·show n/4294967296<18446744073709551616;omega
   ·simp only[cJ,Bp,Nat.reduceEqDiff,if_true,if_false,reduceIte,Nat.zero_ne_one]at o ⊢
    omega
  |3,_=>
   repeat' first|simp(disch:=omega)only[go_sem, *,Int.toNat_natCast,Nat.mul_one,wrap_u64,Int.tdiv_eq_ediv_of_nonneg,Int.tmod_eq_emod_of_nonneg,wrap_i64]|apply ab<;>intro h<;>try omega
   refine⟨(3+1,λj=>if j=3 then(a 3+n%4294967296+c)%4294967296 else a j,(a 3+n%4294967296+c)/4294967296,n/4294967296), [],⟨by show 3+1≤6;omega,upd 3 _ (by omega) (by omega) (by omega), ?_, ?_, ?_, ?_, ?_⟩,by show 6-(3+1)<6-3;omega,by simp⟩
   ·show 0≤(a 3+n%4294967296+c)/4294967296;omega
   ·show(a 3+n%4294967296+c)/4294967296≤1;omega
   ·show 0≤n/4294967296;omega
   ·show n/4294967296<18446744073709551616;omega
   ·simp only[cJ,Bp,Nat.reduceEqDiff,if_true,if_false,reduceIte,Nat.zero_ne_one]at o ⊢
    omega
  |4,_=>
   repeat' first|simp(disch:=omega)only[go_sem, *,Int.toNat_natCast,Nat.mul_one,wrap_u64,Int.tdiv_eq_ediv_of_nonneg,Int.tmod_eq_emod_of_nonneg,wrap_i64]|apply ab<;>intro h<;>try omega
   refine⟨(4+1,λj=>if j=4 then(a 4+n%4294967296+c)%4294967296 else a j,(a 4+n%4294967296+c)/4294967296,n/4294967296), [],⟨by show 4+1≤6;omega,upd 4 _ (by omega) (by omega) (by omega), ?_, ?_, ?_, ?_, ?_⟩,by show 6-(4+1)<6-4;omega,by simp⟩
   ·show 0≤(a 4+n%4294967296+c)/4294967296;omega
   ·show(a 4+n%4294967296+c)/4294967296≤1;omega
   ·show 0≤n/4294967296;omega
   ·show n/4294967296<18446744073709551616;omega
   ·simp only[cJ,Bp,Nat.reduceEqDiff,if_true,if_false,reduceIte,Nat.zero_ne_one]at o ⊢
    omega
  |5,_=>
   repeat' first|simp(disch:=omega)only[go_sem, *,Int.toNat_natCast,Nat.mul_one,wrap_u64,Int.tdiv_eq_ediv_of_nonneg,Int.tmod_eq_emod_of_nonneg,wrap_i64]|apply ab<;>intro h<;>try omega
   refine⟨(5+1,λj=>if j=5 then(a 5+n%4294967296+c)%4294967296 else a j,(a 5+n%4294967296+c)/4294967296,n/4294967296), [],⟨by show 5+1≤6;omega,upd 5 _ (by omega) (by omega) (by omega), ?_, ?_, ?_, ?_, ?_⟩,by show 6-(5+1)<6-5;omega,by simp⟩
   ·show 0≤(a 5+n%4294967296+c)/4294967296;omega
   ·show(a 5+n%4294967296+c)/4294967296≤1;omega
   ·show 0≤n/4294967296;omega
   ·show n/4294967296<18446744073709551616;omega
   ·simp only[cJ,Bp,Nat.reduceEqDiff,if_true,if_false,reduceIte,Nat.zero_ne_one]at o ⊢
    omega
theorem eB {x a b:Int} (F:0≤x) (hG:0≤a) (hN:a<18446744073709551616) (hH:0≤b) (hQ:b<18446744073709551616) (J:x+a*b<Bp 6):af Ya wM [aW x,U5 a,U5 b] (aW (x+a*b)):=by
 refine af.of Fe (by simp) λ_=>aa ?_
 have ea:a=a%4294967296+4294967296*(a/4294967296):=by omega
 have eb:b=b%4294967296+4294967296*(b/4294967296):=by omega
 have a0:0≤a%4294967296∧a%4294967296≤4294967295:=by omega
 have a1:0≤a/4294967296∧a/4294967296≤4294967295:=by omega
 have b0:0≤b%4294967296∧b%4294967296≤4294967295:=by omega
 have b1:0≤b/4294967296∧b/4294967296≤4294967295:=by omega
 have pr: ∀{p q:Int},0≤p∧p≤4294967295→0≤q∧q≤4294967295→0≤p*q∧p*q≤18446744065119617025:=by
  intro p q hp hq
  refine⟨Int.mul_nonneg hp.1 hq.1, ?_⟩
  have:=Int.mul_le_mul hp.2 hq.2 hq.1 (by omega)
  omega
 have Z:a*b=(a%4294967296)*(b%4294967296)*Bp 0+(a%4294967296)*(b/4294967296)*Bp 1+(a/4294967296)*(b%4294967296)*Bp 1+(a/4294967296)*(b/4294967296)*Bp 2:=by
  generalize a%4294967296=p at*
  generalize a/4294967296=q at*
  generalize b%4294967296=r at*
  generalize b/4294967296=s at*
  subst ea
  subst eb
  have e1:p*(4294967296*s)=4294967296*(p*s):=Int.mul_left_comm _ _ _
  have e2:(4294967296*q)*r=4294967296*(q*r):=Int.mul_assoc _ _ _
  have e3:(4294967296*q)*(4294967296*s)=4294967296*(4294967296*(q*s)):=by rw[Int.mul_assoc,Int.mul_left_comm q]
  rw[Int.add_mul,Int.mul_add,Int.mul_add,e1,e2,e3]
  simp only[Bp]
  omega
 have p00:=pr a0 b0
 have p01:=pr a0 b1
 have p10:=pr a1 b0
 have p11:=pr a1 b1
 have da:a.tdiv 4294967296=a/4294967296:=Int.tdiv_eq_ediv_of_nonneg hG
 have db:b.tdiv 4294967296=b/4294967296:=Int.tdiv_eq_ediv_of_nonneg hH
 have ma:a.tmod 4294967296=a%4294967296:=Int.tmod_eq_emod_of_nonneg hG
 have mb:b.tmod 4294967296=b%4294967296:=Int.tmod_eq_emod_of_nonneg hH
 have wa:IntKind.wrap .u64 (a/4294967296)=a/4294967296:=wrap_u64 (by omega)
 have wb:IntKind.wrap .u64 (b/4294967296)=b/4294967296:=wrap_u64 (by omega)
 generalize a%4294967296=p at*
 generalize a/4294967296=q at*
 generalize b%4294967296=r at*
 generalize b/4294967296=s at*
 rw[Z]at J
 rw[Z,←Int.add_assoc,←Int.add_assoc,←Int.add_assoc]
 simp only[Bp]at J
 have d1:=gE (x:=x) (n:=p*r) (at':=0) (by omega) F p00.1 (by omega) (by simp only[Bp];omega)
 have d2:=gE (x:=x+p*r*Bp 0) (n:=p*s) (at':=1) (by omega) (by simp only[Bp];omega) p01.1 (by omega) (by simp only[Bp];omega)
 have d3:=gE (x:=x+p*r*Bp 0+p*s*Bp 1) (n:=q*r) (at':=1) (by omega) (by simp only[Bp];omega) p10.1 (by omega) (by simp only[Bp];omega)
 have d4:=gE (x:=x+p*r*Bp 0+p*s*Bp 1+q*r*Bp 1) (n:=q*s) (at':=2) (by omega) (by simp only[Bp];omega) p11.1 (by omega) (by simp only[Bp];omega)
 simp only[yr]
 clear Z ea eb J pr
 have w1:IntKind.wrap .u64 (p*r)=p*r:=wrap_u64 (by omega)
 have w2:IntKind.wrap .u64 (p*s)=p*s:=wrap_u64 (by omega)
 have w3:IntKind.wrap .u64 (q*r)=q*r:=wrap_u64 (by omega)
 have w4:IntKind.wrap .u64 (q*s)=q*s:=wrap_u64 (by omega)
 repeat' first|simp(disch:=omega)only[go_sem, *,da,db,ma,mb,wa,wb,w1,w2,w3,w4,ne_eq]|apply ab<;>intro h<;>try omega|refine av d1 rfl rfl ?_|refine av d2 rfl rfl ?_|refine av d3 rfl rfl ?_|refine av d4 rfl rfl ?_
theorem iw {x y:Int} (F:0≤x) (J:x<Bp 6) (hA:0≤y) (hJ:y<Bp 6):af Ya yH [aW x,aW y] (Go.Abs.B (decide (x<y))):=by
 refine af.of Fs (by simp) λ_=>aa ?_
 have sx:=pO F J
 have sy:=pO hA hJ
 have dx:=pA x
 have dy:=pA y
 simp only[yL]
 repeat' first|simp(disch:=omega)only[go_sem, *]|apply ab<;>intro h<;>try omega
 refine ai (λi:Nat=>⟨[(2,.c (.ptr 0 0)),(3,.c (.ptr 1 0)),(5,I ((i:Int)-1))], [(0,.var (u6 (dg x))),(1,.var (u6 (dg y)))],2,0⟩)
  (λi=>i≤6∧ ∀j,i≤j→j<6→dg x j=dg y j) (λi=>i) ⟨6, [],⟨Nat.le_refl _,λj h1 h2=>by omega⟩,by simp⟩ ?_
 rintro i ⟨hi,g⟩
 refine aa ?_
 generalize dg x=p at*
 generalize dg y=q at*
 have h0:=dx 0 (by omega)
 have h1:=dx 1 (by omega)
 have h2:=dx 2 (by omega)
 have h3:=dx 3 (by omega)
 have h4:=dx 4 (by omega)
 have h5:=dx 5 (by omega)
 have k0:=dy 0 (by omega)
 have k1:=dy 1 (by omega)
 have k2:=dy 2 (by omega)
 have k3:=dy 3 (by omega)
 have k4:=dy 4 (by omega)
 have k5:=dy 5 (by omega)
 clear dx dy
 simp only[cJ,Bp]at sx sy
 match i,hi with
 |0,_=>
  have e0:=g 0 (by omega) (by omega)
  have e1:=g 1 (by omega) (by omega)
  have e2:=g 2 (by omega) (by omega)
  have e3:=g 3 (by omega) (by omega)
  have e4:=g 4 (by omega) (by omega)
  have e5:=g 5 (by omega) (by omega)
  have hz:decide (x<y)=false:=decide_eq_false (by omega)
  clear sx sy g e0 e1 e2 e3 e4 e5
  repeat' first|simp(disch:=omega)only[go_sem, *]|apply ab<;>intro h<;>try omega
 |1,_=>
  have e1:=g 1 (by omega) (by omega)
  have e2:=g 2 (by omega) (by omega)
  have e3:=g 3 (by omega) (by omega)
  have e4:=g 4 (by omega) (by omega)
  have e5:=g 5 (by omega) (by omega)
  have hz:p 0≠q 0→decide (x<y)=decide (p 0<q 0):= λN=>by rw[decide_eq_decide];omega
  clear sx sy e1 e2 e3 e4 e5
  have v:=Lib.hid g
  clear g
  have ek:(((1:Nat):Int)-1)=((0:Nat):Int):=rfl
  simp only[ek]
  repeat' first|simp(disch:=omega)only[go_sem, *,Int.toNat_natCast,Nat.mul_one,wrap_i64]|apply ab<;>intro h<;>try omega
  ·refine⟨0, [],⟨by omega,λj h1 h2=> ?_⟩,by omega,by simp⟩
   by_cases e:j=0
   ·rw[e];assumption
   ·exact v.out j (by omega) h2
 |2,_=>
  have e2:=g 2 (by omega) (by omega)
  have e3:=g 3 (by omega) (by omega)
  have e4:=g 4 (by omega) (by omega)
  have e5:=g 5 (by omega) (by omega)
  have hz:p 1≠q 1→decide (x<y)=decide (p 1<q 1):= λN=>by rw[decide_eq_decide];omega
  clear sx sy e2 e3 e4 e5
  have v:=Lib.hid g
  clear g
  have ek:(((2:Nat):Int)-1)=((1:Nat):Int):=rfl
  simp only[ek]
  repeat' first|simp(disch:=omega)only[go_sem, *,Int.toNat_natCast,Nat.mul_one,wrap_i64]|apply ab<;>intro h<;>try omega
  ·refine⟨1, [],⟨by omega,λj h1 h2=> ?_⟩,by omega,by simp⟩
   by_cases e:j=1
   ·rw[e];assumption
   ·exact v.out j (by omega) h2
 |3,_=>
  have e3:=g 3 (by omega) (by omega)
  have e4:=g 4 (by omega) (by omega)
  have e5:=g 5 (by omega) (by omega)
  have hz:p 2≠q 2→decide (x<y)=decide (p 2<q 2):= λN=>by rw[decide_eq_decide];omega
  clear sx sy e3 e4 e5
  have v:=Lib.hid g
  clear g
  have ek:(((3:Nat):Int)-1)=((2:Nat):Int):=rfl
  simp only[ek]
  repeat' first|simp(disch:=omega)only[go_sem, *,Int.toNat_natCast,Nat.mul_one,wrap_i64]|apply ab<;>intro h<;>try omega
  ·refine⟨2, [],⟨by omega,λj h1 h2=> ?_⟩,by omega,by simp⟩
   by_cases e:j=2
   ·rw[e];assumption
   ·exact v.out j (by omega) h2
 |4,_=>
  have e4:=g 4 (by omega) (by omega)
  have e5:=g 5 (by omega) (by omega)
  have hz:p 3≠q 3→decide (x<y)=decide (p 3<q 3):= λN=>by rw[decide_eq_decide];omega
  clear sx sy e4 e5
  have v:=Lib.hid g
  clear g
  have ek:(((4:Nat):Int)-1)=((3:Nat):Int):=rfl
  simp only[ek]
  repeat' first|simp(disch:=omega)only[go_sem, *,Int.toNat_natCast,Nat.mul_one,wrap_i64]|apply ab<;>intro h<;>try omega
  ·refine⟨3, [],⟨by omega,λj h1 h2=> ?_⟩,by omega,by simp⟩
   by_cases e:j=3
   ·rw[e];assumption
   ·exact v.out j (by omega) h2
 |5,_=>
  have e5:=g 5 (by omega) (by omega)
  have hz:p 4≠q 4→decide (x<y)=decide (p 4<q 4):= λN=>by rw[decide_eq_decide];omega
  clear sx sy e5
  have v:=Lib.hid g
  clear g
  have ek:(((5:Nat):Int)-1)=((4:Nat):Int):=rfl
  simp only[ek]
  repeat' first|simp(disch:=omega)only[go_sem, *,Int.toNat_natCast,Nat.mul_one,wrap_i64]|apply ab<;>intro h<;>try omega
  ·refine⟨4, [],⟨by omega,λj h1 h2=> ?_⟩,by omega,by simp⟩
   by_cases e:j=4
   ·rw[e];assumption
   ·exact v.out j (by omega) h2
 |6,_=>
  have hz:p 5≠q 5→decide (x<y)=decide (p 5<q 5):= λN=>by rw[decide_eq_decide];omega
  clear sx sy
  have v:=Lib.hid g
  clear g
  have ek:(((6:Nat):Int)-1)=((5:Nat):Int):=rfl
  simp only[ek]
  repeat' first|simp(disch:=omega)only[go_sem, *,Int.toNat_natCast,Nat.mul_one,wrap_i64]|apply ab<;>intro h<;>try omega
  ·refine⟨5, [],⟨by omega,λj h1 h2=> ?_⟩,by omega,by simp⟩
   by_cases e:j=5
   ·rw[e];assumption
   ·exact v.out j (by omega) h2
def S6 (q:Nat→Int) (i:Nat):Int:=(if i≤0 then q 0*Bp 0 else 0)+(if i≤1 then q 1*Bp 1 else 0)+(if i≤2 then q 2*Bp 2 else 0)+(if i≤3 then q 3*Bp 3 else 0)+(if i≤4 then q 4*Bp 4 else 0)+(if i≤5 then q 5*Bp 5 else 0)
theorem gG {x y:Int} (J:x<Bp 6) (hA:0≤y) (hK:y≤x):af Ya fb [aW x,aW y] (aW (x-y)):=by
 refine af.of Df (by simp) λ_=>aa ?_
 have sx:=pO (by omega) J
 have sy:=pO hA (by omega)
 have dx:=pA x
 have dy:=pA y
 simp only[vq]
 repeat' first|simp(disch:=omega)only[go_sem, *]|apply ab<;>intro h<;>try omega
 refine ai (λs:Nat×(Nat→Int)×Int=>⟨[(2,.c (.ptr 0 0)),(3,.c (.ptr 1 0)),(4,.c (.ptr 2 0)),(5,U5 s.2.2),(6,I s.1)], [(0,.var (u6 s.2.1)),(1,.var (u6 (dg y))),(2,.var (u6 λ_=>0))],3,0⟩)
  (λs=>s.1≤6∧CR s.2.1∧0≤s.2.2∧s.2.2≤1∧cJ s.2.1-S6 (dg y) s.1-s.2.2*Bp s.1=x-y) (λs=>6-s.1) ⟨(0,dg x,0), [],⟨by show 0≤6;omega,dx,by show(0:Int)≤0;decide,by show(0:Int)≤1;decide, ?_⟩,by simp⟩ ?_
 ·show cJ (dg x)-S6 (dg y) 0-0*Bp 0=x-y
  rw[sx]
  have:S6 (dg y) 0=cJ (dg y):=by simp[S6,cJ]
  rw[this,sy]
  omega
 clear sx dx
 rintro⟨i,a,c⟩ ⟨hi,ha,V,W,o⟩
 refine aa ?_
 simp only at hi ha V W o
 generalize dg y=q at*
 obtain⟨R,hR⟩: ∃R,R=x-y:=⟨_,rfl⟩
 rw[←hR]at o ⊢
 have hT:0≤R:=by omega
 clear hR sy hK
 have h0:=ha 0 (by omega)
 have h1:=ha 1 (by omega)
 have h2:=ha 2 (by omega)
 have h3:=ha 3 (by omega)
 have h4:=ha 4 (by omega)
 have h5:=ha 5 (by omega)
 have k0:=dy 0 (by omega)
 have k1:=dy 1 (by omega)
 have k2:=dy 2 (by omega)
 have k3:=dy 3 (by omega)
 have k4:=dy 4 (by omega)
 have k5:=dy 5 (by omega)
 by_cases h6:i=6
 ·subst h6
  have hz:cJ a=R:=by
   simp only[cJ,Bp,S6]at o ⊢
   simp at o
   omega
  repeat' first|simp(disch:=omega)only[go_sem, *]|apply ab<;>intro h<;>try omega
  show AV.agg (u6 a)=_
  rw[Sx ha hz]
 ·have upd: ∀k d,k<6→0≤d→d<4294967296→CR (λj=>if j=k then d else a j):=by
   intro k d hk X Y j hj
   by_cases e:j=k
   ·simp only[e,if_true];exact⟨X,Y⟩
   ·simp only[e,if_false];exact ha j hj
  match i,(show i<6 by omega)with
  |0,_=>
   repeat' first|simp(disch:=omega)only[go_sem, *,Int.toNat_natCast,Nat.mul_one,wrap_u64,wrap_i64]|apply ab<;>intro h<;>try omega
   ·refine⟨(0+1,λj=>if j=0 then a 0+4294967296-(q 0+c)else a j,1), [],⟨by show 0+1≤6;omega,upd 0 _ (by omega) (by omega) (by omega),by show(0:Int)≤1;decide,by show(1:Int)≤1;decide, ?_⟩,by show 6-(0+1)<6-0;omega,by simp⟩
    simp only[cJ,Bp,S6,Nat.reduceEqDiff,if_true,if_false,reduceIte,Nat.zero_ne_one,Nat.reduceLeDiff]at o ⊢
    omega
   ·refine⟨(0+1,λj=>if j=0 then a 0-(q 0+c)else a j,0), [],⟨by show 0+1≤6;omega,upd 0 _ (by omega) (by omega) (by omega),by show(0:Int)≤0;decide,by show(0:Int)≤1;decide, ?_⟩,by show 6-(0+1)<6-0;omega,by simp⟩
    simp only[cJ,Bp,S6,Nat.reduceEqDiff,if_true,if_false,reduceIte,Nat.zero_ne_one,Nat.reduceLeDiff]at o ⊢
    omega
  |1,_=>
   repeat' first|simp(disch:=omega)only[go_sem, *,Int.toNat_natCast,Nat.mul_one,wrap_u64,wrap_i64]|apply ab<;>intro h<;>try omega
   ·refine⟨(1+1,λj=>if j=1 then a 1+4294967296-(q 1+c)else a j,1), [],⟨by show 1+1≤6;omega,upd 1 _ (by omega) (by omega) (by omega),by show(0:Int)≤1;decide,by show(1:Int)≤1;decide, ?_⟩,by show 6-(1+1)<6-1;omega,by simp⟩
    simp only[cJ,Bp,S6,Nat.reduceEqDiff,if_true,if_false,reduceIte,Nat.zero_ne_one,Nat.reduceLeDiff]at o ⊢
    omega
   ·refine⟨(1+1,λj=>if j=1 then a 1-(q 1+c)else a j,0), [],⟨by show 1+1≤6;omega,upd 1 _ (by omega) (by omega) (by omega),by show(0:Int)≤0;decide,by show(0:Int)≤1;decide, ?_⟩,by show 6-(1+1)<6-1;omega,by simp⟩
    simp only[cJ,Bp,S6,Nat.reduceEqDiff,if_true,if_false,reduceIte,Nat.zero_ne_one,Nat.reduceLeDiff]at o ⊢
    omega
  |2,_=>
   repeat' first|simp(disch:=omega)only[go_sem, *,Int.toNat_natCast,Nat.mul_one,wrap_u64,wrap_i64]|apply ab<;>intro h<;>try omega
   ·refine⟨(2+1,λj=>if j=2 then a 2+4294967296-(q 2+c)else a j,1), [],⟨by show 2+1≤6;omega,upd 2 _ (by omega) (by omega) (by omega),by show(0:Int)≤1;decide,by show(1:Int)≤1;decide, ?_⟩,by show 6-(2+1)<6-2;omega,by simp⟩
    simp only[cJ,Bp,S6,Nat.reduceEqDiff,if_true,if_false,reduceIte,Nat.zero_ne_one,Nat.reduceLeDiff]at o ⊢
    omega
   ·refine⟨(2+1,λj=>if j=2 then a 2-(q 2+c)else a j,0), [],⟨by show 2+1≤6;omega,upd 2 _ (by omega) (by omega) (by omega),by show(0:Int)≤0;decide,by show(0:Int)≤1;decide, ?_⟩,by show 6-(2+1)<6-2;omega,by simp⟩
    simp only[cJ,Bp,S6,Nat.reduceEqDiff,if_true,if_false,reduceIte,Nat.zero_ne_one,Nat.reduceLeDiff]at o ⊢
    omega
  |3,_=>
   repeat' first|simp(disch:=omega)only[go_sem, *,Int.toNat_natCast,Nat.mul_one,wrap_u64,wrap_i64]|apply ab<;>intro h<;>try omega
   ·refine⟨(3+1,λj=>if j=3 then a 3+4294967296-(q 3+c)else a j,1), [],⟨by show 3+1≤6;omega,upd 3 _ (by omega) (by omega) (by omega),by show(0:Int)≤1;decide,by show(1:Int)≤1;decide, ?_⟩,by show 6-(3+1)<6-3;omega,by simp⟩
    simp only[cJ,Bp,S6,Nat.reduceEqDiff,if_true,if_false,reduceIte,Nat.zero_ne_one,Nat.reduceLeDiff]at o ⊢
    omega
   ·refine⟨(3+1,λj=>if j=3 then a 3-(q 3+c)else a j,0), [],⟨by show 3+1≤6;omega,upd 3 _ (by omega) (by omega) (by omega),by show(0:Int)≤0;decide,by show(0:Int)≤1;decide, ?_⟩,by show 6-(3+1)<6-3;omega,by simp⟩
    simp only[cJ,Bp,S6,Nat.reduceEqDiff,if_true,if_false,reduceIte,Nat.zero_ne_one,Nat.reduceLeDiff]at o ⊢
    omega
  |4,_=>
   repeat' first|simp(disch:=omega)only[go_sem, *,Int.toNat_natCast,Nat.mul_one,wrap_u64,wrap_i64]|apply ab<;>intro h<;>try omega
   ·refine⟨(4+1,λj=>if j=4 then a 4+4294967296-(q 4+c)else a j,1), [],⟨by show 4+1≤6;omega,upd 4 _ (by omega) (by omega) (by omega),by show(0:Int)≤1;decide,by show(1:Int)≤1;decide, ?_⟩,by show 6-(4+1)<6-4;omega,by simp⟩
    simp only[cJ,Bp,S6,Nat.reduceEqDiff,if_true,if_false,reduceIte,Nat.zero_ne_one,Nat.reduceLeDiff]at o ⊢
    omega
   ·refine⟨(4+1,λj=>if j=4 then a 4-(q 4+c)else a j,0), [],⟨by show 4+1≤6;omega,upd 4 _ (by omega) (by omega) (by omega),by show(0:Int)≤0;decide,by show(0:Int)≤1;decide, ?_⟩,by show 6-(4+1)<6-4;omega,by simp⟩
    simp only[cJ,Bp,S6,Nat.reduceEqDiff,if_true,if_false,reduceIte,Nat.zero_ne_one,Nat.reduceLeDiff]at o ⊢
    omega
  |5,_=>
   repeat' first|simp(disch:=omega)only[go_sem, *,Int.toNat_natCast,Nat.mul_one,wrap_u64,wrap_i64]|apply ab<;>intro h<;>try omega
   ·refine⟨(5+1,λj=>if j=5 then a 5+4294967296-(q 5+c)else a j,1), [],⟨by show 5+1≤6;omega,upd 5 _ (by omega) (by omega) (by omega),by show(0:Int)≤1;decide,by show(1:Int)≤1;decide, ?_⟩,by show 6-(5+1)<6-5;omega,by simp⟩
    simp only[cJ,Bp,S6,Nat.reduceEqDiff,if_true,if_false,reduceIte,Nat.zero_ne_one,Nat.reduceLeDiff]at o ⊢
    omega
   ·refine⟨(5+1,λj=>if j=5 then a 5-(q 5+c)else a j,0), [],⟨by show 5+1≤6;omega,upd 5 _ (by omega) (by omega) (by omega),by show(0:Int)≤0;decide,by show(0:Int)≤1;decide, ?_⟩,by show 6-(5+1)<6-5;omega,by simp⟩
    simp only[cJ,Bp,S6,Nat.reduceEqDiff,if_true,if_false,reduceIte,Nat.zero_ne_one,Nat.reduceLeDiff]at o ⊢
    omega
theorem fB {a:Int} (ha:aX a):af Ya wP [I a] (U5 a.natAbs):=by
 refine af.of Fn (by simp) λ_=>aa ?_
 obtain⟨h1,h2⟩:=ha
 simp only[y5]
 repeat' first|simp(disch:=omega)only[go_sem, *,wrap_u64,wrap_i64]|apply ab<;>intro h<;>try omega
 all_goals(congr 4;omega)
def lz:List aH→ByteArray→Option Int
 | [],_=>none
 |m::r,s=>if m.1=s then some m.2 else lz r s
theorem Dj (env:List aH) (s:ByteArray):af Ya xE [bZ mP env,S s] (.tup [I ((lz env s).getD 0),Go.Abs.B (lz env s).isSome]):=by
 refine af.of Fo (by simp) λhb=>aa ?_
 have hx:env.length≤9223372036854775807:=by simpa[fL,eW,ft]using hb.1
 obtain⟨r,hr⟩: ∃r,r=lz env s:=⟨_,rfl⟩
 rw[←hr]
 simp only[xq]
 repeat' first|simp(disch:=omega)only[go_sem, *]|apply ab<;>intro h<;>try omega
 refine ai (λk:Nat=>⟨[(6,I k),(0,bZ mP env),(1,S s)], [],0,0⟩) (λk=>k≤env.length∧Hid (r=lz (env.drop k) s)) (λk=>env.length-k) ⟨0, [],⟨by omega,hr⟩,by simp⟩ ?_
 rintro k ⟨hk,g⟩
 refine aa ?_
 clear hr
 by_cases u:k<env.length
 ·have Hall:Hid (r=if env[k].1=s then some env[k].2 else lz (env.drop (k+1)) s):=by
   have:=g.out
   rwa [List.drop_eq_getElem_cons u,lz]at this
  clear g
  repeat' first|simp(disch:=omega)only[go_sem, *,ac u,mP,wrap_i64]|apply ab<;>intro h<;>try omega
  ·rw[Hall.out,if_pos h]
   rfl
  ·refine⟨k+1, [],⟨by omega, ?_⟩,by omega,by simp⟩
   rw[Hid,Hall.out,if_neg h]
 ·have hn:=g.out
  rw[List.drop_eq_nil_of_le (by omega),lz]at hn
  clear g
  subst hn
  repeat' first|simp(disch:=omega)only[go_sem, *]|apply ab<;>intro h<;>try omega
  rfl
def kg (f:ByteArray→Int):List aH→Int
 | []=>0
 |m::r=>m.2*f m.1+kg f r
theorem Aw (f:ByteArray→Int): ∀(l r:List aH),kg f (l++r)=kg f l+kg f r
 | [],r=>by simp[kg]
 |m::l,r=>by simp only[List.cons_append,kg,Aw f l r,Int.add_assoc]
theorem oI {f:ByteArray→Int} {l:List aH} {j:Nat} (h:j<l.length):kg f (l.take (j+1))=kg f (l.take j)+l[j].2*f l[j].1:=by
 rw[List.take_succ_eq_append_getElem h,Aw]
 simp[kg]
def iR (env:List aH) (s:ByteArray):Int:=(lz env s).getD 0
noncomputable def mB (k:Int) (l:List aH) (env:List aH):Int×Int:=
 if ¬dZ l then(0,1)else if ∃m∈l,lz env m.1=none then(0,9)else if aX (k+kg (iR env) l)then(k+kg (iR env) l,0)else(0,3)
theorem R5 {env:List aH} {s:ByteArray} {x:Int} (h:lz env s=some x): ∃m∈env,m.2=x:=by
 induction env with
 |nil=>cases h
 |cons m r ih=>
  rw[lz]at h
  split at h
  ·cases h;exact⟨m,List.mem_cons_self,rfl⟩
  ·obtain⟨m',h1,h2⟩:=ih h
   exact⟨m',List.mem_cons_of_mem _ h1,h2⟩
theorem jC {a b:Int} (ha:aX a) (hb:aX b):0≤(a.natAbs:Int)*b.natAbs∧(a.natAbs:Int)*b.natAbs≤85070591730234615865843651857942052864:=by
 have h1:(a.natAbs:Int)≤9223372036854775808:=by unfold aX at ha;omega
 have h2:(b.natAbs:Int)≤9223372036854775808:=by unfold aX at hb;omega
 refine⟨Int.mul_nonneg (by omega) (by omega), ?_⟩
 have:=Int.mul_le_mul h1 h2 (by omega) (by omega)
 omega
theorem lc {a b:Int} (h:(a<0∧b<0)∨(¬a<0∧ ¬b<0)):(a.natAbs:Int)*b.natAbs=b*a:=by
 rcases h with⟨h1,h2⟩|⟨h1,h2⟩
 ·rw[show(a.natAbs:Int)= -a by omega,show(b.natAbs:Int)= -b by omega,Int.neg_mul_neg,Int.mul_comm]
 ·rw[show(a.natAbs:Int)=a by omega,show(b.natAbs:Int)=b by omega,Int.mul_comm]
theorem lk {a b:Int} (h:(a<0∧ ¬b<0)∨(¬a<0∧b<0)):(a.natAbs:Int)*b.natAbs= -(b*a):=by
 rcases h with⟨h1,h2⟩|⟨h1,h2⟩
 ·rw[show(a.natAbs:Int)= -a by omega,show(b.natAbs:Int)=b by omega,Int.neg_mul,Int.mul_comm]
 ·rw[show(a.natAbs:Int)=a by omega,show(b.natAbs:Int)= -b by omega,Int.mul_neg,Int.mul_comm]
theorem yU:dg 0= λ_=>0:=by
 funext j
 simp[dg]
set_option maxHeartbeats 2000000 in
theorem lK {k:Int} {l env:List aH} (hk:aX k) (M: ∀m∈l,aX m.2) (O: ∀m∈env,aX m.2):af Ya lb [f9 k l,bZ mP env] (.tup [I (mB k l env).1,I (mB k l env).2]):=by
 refine af.of EG (by simp) λhb=>aa ?_
 have hl:=m7 hb.1
 simp only[yh]
 by_cases h1:dZ l
 ·have pk:=fB hk
  have hU:(k.natAbs:Int)≤9223372036854775808:=by unfold aX at hk;omega
  have fnd:=Dj env
  have v64: ∀s x,lz env s=some x→aX x:= λs x h=>by
   obtain⟨m,hm,rfl⟩:=R5 h
   exact O m hm
  by_cases hM:k<0
  ·have pp:=eB (x:=0) (a:=k.natAbs) (b:=1) (by omega) (by omega) (by omega) (by omega) (by omega) (by simp only[Bp];omega)
   rw[show(0:Int)+k.natAbs*1=k.natAbs by omega]at pp
   have z0:(λ_:Nat=>(0:Int))=dg 0:=yU.symm
   have e0:dg 0 0=0:=by simp[dg]
   simp only[aW,u6,yU]at pp
   repeat' first|simp(disch:=omega)only[go_sem, *,h1]|apply ab<;>intro h<;>try omega|refine av (gH _ _) rfl rfl ?_|refine av pk rfl rfl ?_|refine av pp rfl rfl ?_
   refine ai (λs:Nat×Int×Int=>⟨[(1,bZ mP env),(2,.c (.ptr 0 0)),(6,.c (.ptr 1 0)),(7,.c (.ptr 2 0)),(8,I s.1)], [(0,.var [.pure (pI k),.pure (bp l)]),(1,.var (u6 (dg s.2.1))),(2,.var (u6 (dg s.2.2)))],3,0⟩)
    (λs=>s.1≤l.length∧0≤s.2.1∧0≤s.2.2∧s.2.1≤9223372036854775808+s.1*85070591730234615865843651857942052864∧s.2.2≤9223372036854775808+s.1*85070591730234615865843651857942052864∧Hid (s.2.1-s.2.2=k+kg (iR env) (l.take s.1))∧bI (λi=> ∀h:i<l.length,lz env l[i].1≠none) s.1) (λs=>l.length-s.1) ⟨(0,(0:Int),(k.natAbs:Int)), [],⟨Nat.zero_le _,by show(0:Int)≤(0:Int);omega,by show(0:Int)≤(k.natAbs:Int);omega,by show(0:Int)≤(9223372036854775808:Int)+((0:Nat):Int)*_;omega,by show(k.natAbs:Int)≤(9223372036854775808:Int)+((0:Nat):Int)*_;omega, ?_,.zero⟩, ?_⟩ ?_
   ·show _=_
    simp only[List.take_zero,kg]
    omega
   ·simp[yU]
   rintro⟨j,p,n⟩ ⟨hj,E,w,hC,K,hs,g⟩
   refine aa ?_
   simp only at hj E w hC K
   clear pp pk
   by_cases u:j<l.length
   ·have hm:=List.getElem_mem u
    have L:=M _ hm
    cases hx:lz env l[j].1 with
    |none=>
     have G: ∃m∈l,lz env m.1=none:=⟨l[j],hm,hx⟩
     rw[mB,if_neg (not_not_intro h1),if_pos G]
     have hE:=fnd l[j].1
     rw[hx]at hE
     clear G hs g hx
     repeat' first|simp(disch:=omega)only[go_sem, *,ac u,mP]|apply ab<;>intro h<;>try omega|refine av hE rfl rfl ?_
     all_goals(simp at*;done)
    |some x=>
     have hE:=fnd l[j].1
     rw[hx]at hE
     have H:=v64 _ _ hx
     have hL:=jC H L
     have q1:=fB H
     have q2:=fB L
     have hD:(j:Int)<9223372036854775807:=by omega
     have F:(x.natAbs:Int)<18446744073709551616:=by unfold aX at H;omega
     have P:(l[j].2.natAbs:Int)<18446744073709551616:=by unfold aX at L;omega
     have ap:=eB (x:=p) (a:=x.natAbs) (b:=l[j].2.natAbs) E (by omega) F (by omega) P (by simp only[Bp];omega)
     have an:=eB (x:=n) (a:=x.natAbs) (b:=l[j].2.natAbs) w (by omega) F (by omega) P (by simp only[Bp];omega)
     have hv:iR env l[j].1=x:=by rw[iR,hx];rfl
     have HX:=Lib.hid hx
     clear hx
     have stepP:(x<0∧l[j].2<0)∨(¬x<0∧ ¬l[j].2<0)→Hid (p+(x.natAbs:Int)*l[j].2.natAbs-n=k+kg (iR env) (l.take (j+1))):= λh=>by
      show _=_
      rw[oI u,hv,lc h]
      have:=hs.out
      simp only at this
      omega
     have stepN:(x<0∧ ¬l[j].2<0)∨(¬x<0∧l[j].2<0)→Hid (p-(n+(x.natAbs:Int)*l[j].2.natAbs)=k+kg (iR env) (l.take (j+1))):= λh=>by
      show _=_
      rw[oI u,hv,lk h]
      have:=hs.out
      simp only at this
      omega
     have HP:=Lib.hid stepP
     have HN:=Lib.hid stepN
     have nxt:=g.succ (p:= λi=> ∀h:i<l.length,lz env l[i].1≠none) λ_=>by rw[HX.out];simp
     have NX:=Lib.hid nxt
     clear stepP stepN hs g hv hm nxt
     by_cases D:x<0
     ·by_cases A:l[j].2<0
      ·repeat' first|simp(disch:=omega)only[go_sem, *,ac u,mP,wrap_i64,Option.getD_some,Option.isSome_some,D,A]|apply ab<;>intro h<;>try omega|refine av hE rfl rfl ?_|refine av q1 rfl rfl ?_|refine av q2 rfl rfl ?_|refine av ap rfl rfl ?_|refine av an rfl rfl ?_
       refine⟨(j+1,p+(x.natAbs:Int)*l[j].2.natAbs,n), [],⟨u,by show 0≤p+_;omega,w,by show p+_≤_;omega,by show n≤_;omega,HP.out (.inl ⟨D,A⟩),NX.out⟩,by show _-_<_-_;omega,by simp⟩
      ·repeat' first|simp(disch:=omega)only[go_sem, *,ac u,mP,wrap_i64,Option.getD_some,Option.isSome_some,D,A]|apply ab<;>intro h<;>try omega|refine av hE rfl rfl ?_|refine av q1 rfl rfl ?_|refine av q2 rfl rfl ?_|refine av ap rfl rfl ?_|refine av an rfl rfl ?_
       refine⟨(j+1,p,n+(x.natAbs:Int)*l[j].2.natAbs), [],⟨u,E,by show 0≤n+_;omega,by show p≤_;omega,by show n+_≤_;omega,HN.out (.inl ⟨D,A⟩),NX.out⟩,by show _-_<_-_;omega,by simp⟩
     ·by_cases A:l[j].2<0
      ·repeat' first|simp(disch:=omega)only[go_sem, *,ac u,mP,wrap_i64,Option.getD_some,Option.isSome_some,D,A]|apply ab<;>intro h<;>try omega|refine av hE rfl rfl ?_|refine av q1 rfl rfl ?_|refine av q2 rfl rfl ?_|refine av ap rfl rfl ?_|refine av an rfl rfl ?_
       refine⟨(j+1,p,n+(x.natAbs:Int)*l[j].2.natAbs), [],⟨u,E,by show 0≤n+_;omega,by show p≤_;omega,by show n+_≤_;omega,HN.out (.inr ⟨D,A⟩),NX.out⟩,by show _-_<_-_;omega,by simp⟩
      ·repeat' first|simp(disch:=omega)only[go_sem, *,ac u,mP,wrap_i64,Option.getD_some,Option.isSome_some,D,A]|apply ab<;>intro h<;>try omega|refine av hE rfl rfl ?_|refine av q1 rfl rfl ?_|refine av q2 rfl rfl ?_|refine av ap rfl rfl ?_|refine av an rfl rfl ?_
       refine⟨(j+1,p+(x.natAbs:Int)*l[j].2.natAbs,n), [],⟨u,by show 0≤p+_;omega,w,by show p+_≤_;omega,by show n≤_;omega,HP.out (.inr ⟨D,A⟩),NX.out⟩,by show _-_<_-_;omega,by simp⟩
   ·have G: ¬ ∃m∈l,lz env m.1=none:=by
     rintro⟨m,hm,he⟩
     obtain⟨i,hi,rfl⟩:=List.mem_iff_getElem.1 hm
     exact g i (by omega) hi he
    have hS:=hs.out
    simp only at hS
    rw[List.take_of_length_le (by omega)]at hS
    rw[mB,if_neg (not_not_intro h1),if_neg G,←hS]
    have hD:(j:Int)≤9223372036854775807:=by omega
    clear hs g G hS fnd v64 M O
    by_cases z:p<n
    ·have cl:=iw (x:=p) (y:=n) E (by simp only[Bp];omega) w (by simp only[Bp];omega)
     rw[decide_eq_true z]at cl
     have cm:af Ya fb [aW n,aW p] (.agg (u6 (dg (n-p)))):=gG (x:=n) (y:=p) (by simp only[Bp];omega) E (by omega)
     have sD:=pO (x:=n-p) (by omega) (by simp only[Bp];omega)
     have dD:=pA (n-p)
     generalize dg (n-p)=d at*
     have d0:=dD 0 (by omega)
     have d1:=dD 1 (by omega)
     have d2:=dD 2 (by omega)
     have d3:=dD 3 (by omega)
     have d4:=dD 4 (by omega)
     have d5:=dD 5 (by omega)
     simp only[cJ,Bp]at sD
     clear dD
     have hR:p-n= -(d 0+d 1*4294967296+d 2*18446744073709551616+d 3*79228162514264337593543950336+d 4*340282366920938463463374607431768211456+d 5*1461501637330902918203684832716283019655932542976):=by omega
     have t:aX (p-n)↔(d 2=0∧d 3=0∧d 4=0∧d 5=0∧d 0+d 1*4294967296≤9223372036854775808):=by unfold aX;omega
     have Q:0<d 0+d 1*4294967296+d 2*18446744073709551616+d 3*79228162514264337593543950336+d 4*340282366920938463463374607431768211456+d 5*1461501637330902918203684832716283019655932542976:=by omega
     by_cases C:aX (p-n)
     ·rw[if_pos C]
      obtain⟨z2,z3,z4,z5,zz⟩:=t.1 C
      have e1:p-n= -(d 0+d 1*4294967296):=by omega
      rw[e1]
      clear t hR sD e1 z
      repeat' first|simp(disch:=omega)only[go_sem, *,z2,z3,z4,z5,Int.toNat_natCast,Int.toNat_zero,show Int.toNat 1=1 from rfl,show Int.toNat 2=2 from rfl,show Int.toNat 3=3 from rfl,show Int.toNat 4=4 from rfl,show Int.toNat 5=5 from rfl,Nat.mul_one,wrap_u64,wrap_i64]|apply ab<;>intro h<;>try omega|refine av cl rfl rfl ?_|refine av cm rfl rfl ?_
      rw[show 0-(d 0+d 1*4294967296-1)-1= -(d 0+d 1*4294967296) by omega]
     ·rw[if_neg C]
      have hF: ¬(d 2=0∧d 3=0∧d 4=0∧d 5=0∧d 0+d 1*4294967296≤9223372036854775808):= λh=>C (t.2 h)
      clear t hR sD z
      repeat' first|simp(disch:=omega)only[go_sem, *,Int.toNat_natCast,Int.toNat_zero,show Int.toNat 1=1 from rfl,show Int.toNat 2=2 from rfl,show Int.toNat 3=3 from rfl,show Int.toNat 4=4 from rfl,show Int.toNat 5=5 from rfl,Nat.mul_one,wrap_u64,wrap_i64]|apply ab<;>intro h<;>try omega|refine av cl rfl rfl ?_|refine av cm rfl rfl ?_
    ·have cl:=iw (x:=p) (y:=n) E (by simp only[Bp];omega) w (by simp only[Bp];omega)
     rw[decide_eq_false z]at cl
     have cm:af Ya fb [aW p,aW n] (.agg (u6 (dg (p-n)))):=gG (x:=p) (y:=n) (by simp only[Bp];omega) w (by omega)
     have sD:=pO (x:=p-n) (by omega) (by simp only[Bp];omega)
     have dD:=pA (p-n)
     generalize dg (p-n)=d at*
     have d0:=dD 0 (by omega)
     have d1:=dD 1 (by omega)
     have d2:=dD 2 (by omega)
     have d3:=dD 3 (by omega)
     have d4:=dD 4 (by omega)
     have d5:=dD 5 (by omega)
     simp only[cJ,Bp]at sD
     clear dD
     have hR:p-n=(d 0+d 1*4294967296+d 2*18446744073709551616+d 3*79228162514264337593543950336+d 4*340282366920938463463374607431768211456+d 5*1461501637330902918203684832716283019655932542976):=by omega
     have t:aX (p-n)↔(d 2=0∧d 3=0∧d 4=0∧d 5=0∧d 0+d 1*4294967296≤9223372036854775807):=by unfold aX;omega
     have Q:0≤d 0+d 1*4294967296+d 2*18446744073709551616+d 3*79228162514264337593543950336+d 4*340282366920938463463374607431768211456+d 5*1461501637330902918203684832716283019655932542976:=by omega
     by_cases C:aX (p-n)
     ·rw[if_pos C]
      obtain⟨z2,z3,z4,z5,zz⟩:=t.1 C
      have e1:p-n=d 0+d 1*4294967296:=by omega
      rw[e1]
      clear t hR sD e1 z
      repeat' first|simp(disch:=omega)only[go_sem, *,z2,z3,z4,z5,Int.toNat_natCast,Int.toNat_zero,show Int.toNat 1=1 from rfl,show Int.toNat 2=2 from rfl,show Int.toNat 3=3 from rfl,show Int.toNat 4=4 from rfl,show Int.toNat 5=5 from rfl,Nat.mul_one,wrap_u64,wrap_i64]|apply ab<;>intro h<;>try omega|refine av cl rfl rfl ?_|refine av cm rfl rfl ?_
     ·rw[if_neg C]
      have hF: ¬(d 2=0∧d 3=0∧d 4=0∧d 5=0∧d 0+d 1*4294967296≤9223372036854775807):= λh=>C (t.2 h)
      clear t hR sD z
      repeat' first|simp(disch:=omega)only[go_sem, *,Int.toNat_natCast,Int.toNat_zero,show Int.toNat 1=1 from rfl,show Int.toNat 2=2 from rfl,show Int.toNat 3=3 from rfl,show Int.toNat 4=4 from rfl,show Int.toNat 5=5 from rfl,Nat.mul_one,wrap_u64,wrap_i64]|apply ab<;>intro h<;>try omega|refine av cl rfl rfl ?_|refine av cm rfl rfl ?_
  ·have pp:=eB (x:=0) (a:=k.natAbs) (b:=1) (by omega) (by omega) (by omega) (by omega) (by omega) (by simp only[Bp];omega)
   rw[show(0:Int)+k.natAbs*1=k.natAbs by omega]at pp
   simp only[aW,u6,yU]at pp
   repeat' first|simp(disch:=omega)only[go_sem, *,h1]|apply ab<;>intro h<;>try omega|refine av (gH _ _) rfl rfl ?_|refine av pk rfl rfl ?_|refine av pp rfl rfl ?_
   refine ai (λs:Nat×Int×Int=>⟨[(1,bZ mP env),(2,.c (.ptr 0 0)),(6,.c (.ptr 1 0)),(7,.c (.ptr 2 0)),(8,I s.1)], [(0,.var [.pure (pI k),.pure (bp l)]),(1,.var (u6 (dg s.2.1))),(2,.var (u6 (dg s.2.2)))],3,0⟩)
    (λs=>s.1≤l.length∧0≤s.2.1∧0≤s.2.2∧s.2.1≤9223372036854775808+s.1*85070591730234615865843651857942052864∧s.2.2≤9223372036854775808+s.1*85070591730234615865843651857942052864∧Hid (s.2.1-s.2.2=k+kg (iR env) (l.take s.1))∧bI (λi=> ∀h:i<l.length,lz env l[i].1≠none) s.1) (λs=>l.length-s.1) ⟨(0,(k.natAbs:Int),(0:Int)), [],⟨Nat.zero_le _,by show(0:Int)≤(k.natAbs:Int);omega,by show(0:Int)≤(0:Int);omega,by show(k.natAbs:Int)≤(9223372036854775808:Int)+((0:Nat):Int)*_;omega,by show(0:Int)≤(9223372036854775808:Int)+((0:Nat):Int)*_;omega, ?_,.zero⟩, ?_⟩ ?_
   ·show _=_
    simp only[List.take_zero,kg]
    omega
   ·simp[yU]
   rintro⟨j,p,n⟩ ⟨hj,E,w,hC,K,hs,g⟩
   refine aa ?_
   simp only at hj E w hC K
   clear pp pk
   by_cases u:j<l.length
   ·have hm:=List.getElem_mem u
    have L:=M _ hm
    cases hx:lz env l[j].1 with
    |none=>
     have G: ∃m∈l,lz env m.1=none:=⟨l[j],hm,hx⟩
     rw[mB,if_neg (not_not_intro h1),if_pos G]
     have hE:=fnd l[j].1
     rw[hx]at hE
     clear G hs g hx
     repeat' first|simp(disch:=omega)only[go_sem, *,ac u,mP]|apply ab<;>intro h<;>try omega|refine av hE rfl rfl ?_
     all_goals(simp at*;done)
    |some x=>
     have hE:=fnd l[j].1
     rw[hx]at hE
     have H:=v64 _ _ hx
     have hL:=jC H L
     have q1:=fB H
     have q2:=fB L
     have hD:(j:Int)<9223372036854775807:=by omega
     have F:(x.natAbs:Int)<18446744073709551616:=by unfold aX at H;omega
     have P:(l[j].2.natAbs:Int)<18446744073709551616:=by unfold aX at L;omega
     have ap:=eB (x:=p) (a:=x.natAbs) (b:=l[j].2.natAbs) E (by omega) F (by omega) P (by simp only[Bp];omega)
     have an:=eB (x:=n) (a:=x.natAbs) (b:=l[j].2.natAbs) w (by omega) F (by omega) P (by simp only[Bp];omega)
     have hv:iR env l[j].1=x:=by rw[iR,hx];rfl
     have HX:=Lib.hid hx
     clear hx
     have stepP:(x<0∧l[j].2<0)∨(¬x<0∧ ¬l[j].2<0)→Hid (p+(x.natAbs:Int)*l[j].2.natAbs-n=k+kg (iR env) (l.take (j+1))):= λh=>by
      show _=_
      rw[oI u,hv,lc h]
      have:=hs.out
      simp only at this
      omega
     have stepN:(x<0∧ ¬l[j].2<0)∨(¬x<0∧l[j].2<0)→Hid (p-(n+(x.natAbs:Int)*l[j].2.natAbs)=k+kg (iR env) (l.take (j+1))):= λh=>by
      show _=_
      rw[oI u,hv,lk h]
      have:=hs.out
      simp only at this
      omega
     have HP:=Lib.hid stepP
     have HN:=Lib.hid stepN
     have nxt:=g.succ (p:= λi=> ∀h:i<l.length,lz env l[i].1≠none) λ_=>by rw[HX.out];simp
     have NX:=Lib.hid nxt
     clear stepP stepN hs g hv hm nxt
     by_cases D:x<0
     ·by_cases A:l[j].2<0
      ·repeat' first|simp(disch:=omega)only[go_sem, *,ac u,mP,wrap_i64,Option.getD_some,Option.isSome_some,D,A]|apply ab<;>intro h<;>try omega|refine av hE rfl rfl ?_|refine av q1 rfl rfl ?_|refine av q2 rfl rfl ?_|refine av ap rfl rfl ?_|refine av an rfl rfl ?_
       refine⟨(j+1,p+(x.natAbs:Int)*l[j].2.natAbs,n), [],⟨u,by show 0≤p+_;omega,w,by show p+_≤_;omega,by show n≤_;omega,HP.out (.inl ⟨D,A⟩),NX.out⟩,by show _-_<_-_;omega,by simp⟩
      ·repeat' first|simp(disch:=omega)only[go_sem, *,ac u,mP,wrap_i64,Option.getD_some,Option.isSome_some,D,A]|apply ab<;>intro h<;>try omega|refine av hE rfl rfl ?_|refine av q1 rfl rfl ?_|refine av q2 rfl rfl ?_|refine av ap rfl rfl ?_|refine av an rfl rfl ?_
       refine⟨(j+1,p,n+(x.natAbs:Int)*l[j].2.natAbs), [],⟨u,E,by show 0≤n+_;omega,by show p≤_;omega,by show n+_≤_;omega,HN.out (.inl ⟨D,A⟩),NX.out⟩,by show _-_<_-_;omega,by simp⟩
     ·by_cases A:l[j].2<0
      ·repeat' first|simp(disch:=omega)only[go_sem, *,ac u,mP,wrap_i64,Option.getD_some,Option.isSome_some,D,A]|apply ab<;>intro h<;>try omega|refine av hE rfl rfl ?_|refine av q1 rfl rfl ?_|refine av q2 rfl rfl ?_|refine av ap rfl rfl ?_|refine av an rfl rfl ?_
       refine⟨(j+1,p,n+(x.natAbs:Int)*l[j].2.natAbs), [],⟨u,E,by show 0≤n+_;omega,by show p≤_;omega,by show n+_≤_;omega,HN.out (.inr ⟨D,A⟩),NX.out⟩,by show _-_<_-_;omega,by simp⟩
      ·repeat' first|simp(disch:=omega)only[go_sem, *,ac u,mP,wrap_i64,Option.getD_some,Option.isSome_some,D,A]|apply ab<;>intro h<;>try omega|refine av hE rfl rfl ?_|refine av q1 rfl rfl ?_|refine av q2 rfl rfl ?_|refine av ap rfl rfl ?_|refine av an rfl rfl ?_
       refine⟨(j+1,p+(x.natAbs:Int)*l[j].2.natAbs,n), [],⟨u,by show 0≤p+_;omega,w,by show p+_≤_;omega,by show n≤_;omega,HP.out (.inr ⟨D,A⟩),NX.out⟩,by show _-_<_-_;omega,by simp⟩
   ·have G: ¬ ∃m∈l,lz env m.1=none:=by
     rintro⟨m,hm,he⟩
     obtain⟨i,hi,rfl⟩:=List.mem_iff_getElem.1 hm
     exact g i (by omega) hi he
    have hS:=hs.out
    simp only at hS
    rw[List.take_of_length_le (by omega)]at hS
    rw[mB,if_neg (not_not_intro h1),if_neg G,←hS]
    have hD:(j:Int)≤9223372036854775807:=by omega
    clear hs g G hS fnd v64 M O
    by_cases z:p<n
    ·have cl:=iw (x:=p) (y:=n) E (by simp only[Bp];omega) w (by simp only[Bp];omega)
     rw[decide_eq_true z]at cl
     have cm:af Ya fb [aW n,aW p] (.agg (u6 (dg (n-p)))):=gG (x:=n) (y:=p) (by simp only[Bp];omega) E (by omega)
     have sD:=pO (x:=n-p) (by omega) (by simp only[Bp];omega)
     have dD:=pA (n-p)
     generalize dg (n-p)=d at*
     have d0:=dD 0 (by omega)
     have d1:=dD 1 (by omega)
     have d2:=dD 2 (by omega)
     have d3:=dD 3 (by omega)
     have d4:=dD 4 (by omega)
     have d5:=dD 5 (by omega)
     simp only[cJ,Bp]at sD
     clear dD
     have hR:p-n= -(d 0+d 1*4294967296+d 2*18446744073709551616+d 3*79228162514264337593543950336+d 4*340282366920938463463374607431768211456+d 5*1461501637330902918203684832716283019655932542976):=by omega
     have t:aX (p-n)↔(d 2=0∧d 3=0∧d 4=0∧d 5=0∧d 0+d 1*4294967296≤9223372036854775808):=by unfold aX;omega
     have Q:0<d 0+d 1*4294967296+d 2*18446744073709551616+d 3*79228162514264337593543950336+d 4*340282366920938463463374607431768211456+d 5*1461501637330902918203684832716283019655932542976:=by omega
     by_cases C:aX (p-n)
     ·rw[if_pos C]
      obtain⟨z2,z3,z4,z5,zz⟩:=t.1 C
      have e1:p-n= -(d 0+d 1*4294967296):=by omega
      rw[e1]
      clear t hR sD e1 z
      repeat' first|simp(disch:=omega)only[go_sem, *,z2,z3,z4,z5,Int.toNat_natCast,Int.toNat_zero,show Int.toNat 1=1 from rfl,show Int.toNat 2=2 from rfl,show Int.toNat 3=3 from rfl,show Int.toNat 4=4 from rfl,show Int.toNat 5=5 from rfl,Nat.mul_one,wrap_u64,wrap_i64]|apply ab<;>intro h<;>try omega|refine av cl rfl rfl ?_|refine av cm rfl rfl ?_
      rw[show 0-(d 0+d 1*4294967296-1)-1= -(d 0+d 1*4294967296) by omega]
     ·rw[if_neg C]
      have hF: ¬(d 2=0∧d 3=0∧d 4=0∧d 5=0∧d 0+d 1*4294967296≤9223372036854775808):= λh=>C (t.2 h)
      clear t hR sD z
      repeat' first|simp(disch:=omega)only[go_sem, *,Int.toNat_natCast,Int.toNat_zero,show Int.toNat 1=1 from rfl,show Int.toNat 2=2 from rfl,show Int.toNat 3=3 from rfl,show Int.toNat 4=4 from rfl,show Int.toNat 5=5 from rfl,Nat.mul_one,wrap_u64,wrap_i64]|apply ab<;>intro h<;>try omega|refine av cl rfl rfl ?_|refine av cm rfl rfl ?_
    ·have cl:=iw (x:=p) (y:=n) E (by simp only[Bp];omega) w (by simp only[Bp];omega)
     rw[decide_eq_false z]at cl
     have cm:af Ya fb [aW p,aW n] (.agg (u6 (dg (p-n)))):=gG (x:=p) (y:=n) (by simp only[Bp];omega) w (by omega)
     have sD:=pO (x:=p-n) (by omega) (by simp only[Bp];omega)
     have dD:=pA (p-n)
     generalize dg (p-n)=d at*
     have d0:=dD 0 (by omega)
     have d1:=dD 1 (by omega)
     have d2:=dD 2 (by omega)
     have d3:=dD 3 (by omega)
     have d4:=dD 4 (by omega)
     have d5:=dD 5 (by omega)
     simp only[cJ,Bp]at sD
     clear dD
     have hR:p-n=(d 0+d 1*4294967296+d 2*18446744073709551616+d 3*79228162514264337593543950336+d 4*340282366920938463463374607431768211456+d 5*1461501637330902918203684832716283019655932542976):=by omega
     have t:aX (p-n)↔(d 2=0∧d 3=0∧d 4=0∧d 5=0∧d 0+d 1*4294967296≤9223372036854775807):=by unfold aX;omega
     have Q:0≤d 0+d 1*4294967296+d 2*18446744073709551616+d 3*79228162514264337593543950336+d 4*340282366920938463463374607431768211456+d 5*1461501637330902918203684832716283019655932542976:=by omega
     by_cases C:aX (p-n)
     ·rw[if_pos C]
      obtain⟨z2,z3,z4,z5,zz⟩:=t.1 C
      have e1:p-n=d 0+d 1*4294967296:=by omega
      rw[e1]
      clear t hR sD e1 z
      repeat' first|simp(disch:=omega)only[go_sem, *,z2,z3,z4,z5,Int.toNat_natCast,Int.toNat_zero,show Int.toNat 1=1 from rfl,show Int.toNat 2=2 from rfl,show Int.toNat 3=3 from rfl,show Int.toNat 4=4 from rfl,show Int.toNat 5=5 from rfl,Nat.mul_one,wrap_u64,wrap_i64]|apply ab<;>intro h<;>try omega|refine av cl rfl rfl ?_|refine av cm rfl rfl ?_
     ·rw[if_neg C]
      have hF: ¬(d 2=0∧d 3=0∧d 4=0∧d 5=0∧d 0+d 1*4294967296≤9223372036854775807):= λh=>C (t.2 h)
      clear t hR sD z
      repeat' first|simp(disch:=omega)only[go_sem, *,Int.toNat_natCast,Int.toNat_zero,show Int.toNat 1=1 from rfl,show Int.toNat 2=2 from rfl,show Int.toNat 3=3 from rfl,show Int.toNat 4=4 from rfl,show Int.toNat 5=5 from rfl,Nat.mul_one,wrap_u64,wrap_i64]|apply ab<;>intro h<;>try omega|refine av cl rfl rfl ?_|refine av cm rfl rfl ?_
 ·rw[mB,if_pos h1]
  repeat' first|simp(disch:=omega)only[go_sem, *,h1]|apply ab<;>intro h<;>try omega|refine av (gH _ _) rfl rfl ?_
end Go.Proofs.YtjhkikmonejkjaaGreatDoor
