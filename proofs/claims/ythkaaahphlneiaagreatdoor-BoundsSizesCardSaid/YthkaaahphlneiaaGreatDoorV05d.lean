import Derived.Test.YthkaaahphlneiaaGreatDoorV12a
import Derived.Test.YthkaaahphlneiaaGreatDoorCodesB
import Derived.Lib.Hide
set_option linter.unusedVariables false
set_option linter.unusedSimpArgs false
set_option maxRecDepth 20000
set_option maxHeartbeats 4000000
set_option maxRecDepth 1000000
namespace Go.Proofs.YthkaaahphlneiaaGreatDoor
open Go.Abs Go.RowKit
def Bp:Nat→Int
 |0=>1
 |1=>4294967296
 |2=>18446744073709551616
 |3=>79228162514264337593543950336
 |4=>340282366920938463463374607431768211456
 |5=>1461501637330902918203684832716283019655932542976
 |_=>6277101735386680763835789423207666416102355444464034512896
abbrev u64 (n:Int):AC:= .pure (.val (.int .u64 n))
abbrev U5 (n:Int):AV:= .c (u64 n)
abbrev u6 (a:Nat→Int):List AC:= [u64 (a 0),u64 (a 1),u64 (a 2),u64 (a 3),u64 (a 4),u64 (a 5)]
def dq (a:Nat→Int):Int:=a 0*Bp 0+a 1*Bp 1+a 2*Bp 2+a 3*Bp 3+a 4*Bp 4+a 5*Bp 5
def D5 (a:Nat→Int):Prop:= ∀j,j<6→0≤a j∧a j<4294967296
def dg (x:Int) (j:Nat):Int:=x/Bp j%4294967296
abbrev aW (x:Int):AV:= .agg (u6 (dg x))
theorem qQ (x:Int):D5 (dg x):=fun j _=>by unfold dg;omega
theorem rH {x:Int} (h0:0≤x) (h1:x<Bp 6):dq (dg x)=x:=by
 simp only[dq,dg,Bp]at*
 omega
theorem Ip {a:Nat→Int} (h:D5 a): ∀j,j<6→dg (dq a) j=a j:=by
 intro j hj
 have h0:=h 0 (by omega)
 have h1:=h 1 (by omega)
 have h2:=h 2 (by omega)
 have h3:=h 3 (by omega)
 have h4:=h 4 (by omega)
 have h5:=h 5 (by omega)
 simp only[dq,dg,Bp]
 match j,hj with
 |0,_=>simp only[Bp];omega
 |1,_=>simp only[Bp];omega
 |2,_=>simp only[Bp];omega
 |3,_=>simp only[Bp];omega
 |4,_=>simp only[Bp];omega
 |5,_=>simp only[Bp];omega
theorem VG {a:Nat→Int} (h:D5 a) {x:Int} (hx:dq a=x):u6 a=u6 (dg x):=by
 subst hx
 simp only[u6,Ip h 0 (by omega),Ip h 1 (by omega),Ip h 2 (by omega),Ip h 3 (by omega),Ip h 4 (by omega),Ip h 5 (by omega)]
theorem iw {x n:Int} {at':Nat} (hat:at'≤2) (hx0:0≤x) (hn0:0≤n) (hn1:n<18446744073709551616) (hx1:x+n*Bp at'<Bp 6):ac Tryz.prog oY [aW x,I at',U5 n] (aW (x+n*Bp at')):=by
 refine ac.of E5 (by simp) fun _=>aa ?_
 have hB:0≤n*Bp at':=Int.mul_nonneg hn0 (by match at',hat with|0,_=>decide|1,_=>decide|2,_=>decide)
 have hsum:=rH hx0 (by omega)
 have hdig:=qQ x
 obtain⟨R,hR⟩: ∃R,R=x+n*Bp at':=⟨_,rfl⟩
 rw[←hR]at hx1 ⊢
 conv in wg=>cbv
 repeat' first|simp(disch:=omega) only[go_sem]|((with_reducible refine ab ?_ ?_)<;>intro h<;>try first|omega|simp(disch:=omega) only[go_sem, *])
 refine aj (fun s:Nat×(Nat→Int)×Int×Int=>⟨[(2,U5 s.2.2.2),(3,.c (.ptr 0 0)),(6,.c (.ptr 1 0)),(7,U5 s.2.2.1),(8,I s.1)], [(0,.var (u6 s.2.1)),(1,.var (u6 fun _=>0))],2,0⟩)
  (fun s=>s.1≤6∧D5 s.2.1∧0≤s.2.2.1∧s.2.2.1≤1∧0≤s.2.2.2∧s.2.2.2<18446744073709551616∧dq s.2.1+(s.2.2.2+s.2.2.1)*Bp s.1=R) (fun s=>6-s.1) ⟨(at',dg x,0,n), [],⟨by show at'≤6;omega,hdig,by show(0:Int)≤0;decide,by show(0:Int)≤1;decide,hn0,hn1, ?_⟩,by simp⟩ ?_
 ·show dq (dg x)+(n+0)*Bp at'=R
  rw[hsum,Int.add_zero,hR]
 clear hsum hdig hR hn0 hn1 hB
 rintro⟨i,a,c,n⟩ ⟨hi,ha,hc0,hc1,hn0,hn1,hsum⟩
 refine aa ?_
 simp only at hi ha hc0 hc1 hn0 hn1 hsum
 have h0:=ha 0 (by omega)
 have h1:=ha 1 (by omega)
 have h2:=ha 2 (by omega)
 have h3:=ha 3 (by omega)
 have h4:=ha 4 (by omega)
 have h5:=ha 5 (by omega)
 by_cases h6:i=6
 ·subst h6
  have hz:dq a=R:=by
   simp only[dq,Bp]at hsum hx1 ⊢
   omega
  repeat' first|simp(disch:=omega) only[go_sem,Int.toNat_natCast]|((with_reducible refine ab ?_ ?_)<;>intro h<;>try first|omega|simp(disch:=omega) only[go_sem, *,Int.toNat_natCast])
  show AV.agg (u6 a)=_
  rw[VG ha hz]
 ·have upd: ∀k d,k<6→0≤d→d<4294967296→D5 (fun j=>if j=k then d else a j):=by
   intro k d hk hd0 hd1 j hj
   by_cases e:j=k
   ·simp only[e,if_true];exact⟨hd0,hd1⟩
   ·simp only[e,if_false];exact ha j hj
  match i,(show i<6 by omega)with
  |0,_=>
   repeat' first|simp(disch:=omega) only[go_sem,Int.toNat_natCast,Nat.mul_one,wrap_u64,Int.tdiv_eq_ediv_of_nonneg,Int.tmod_eq_emod_of_nonneg,wrap_i64]|((with_reducible refine ab ?_ ?_)<;>intro h<;>try first|omega|simp(disch:=omega) only[go_sem, *,Int.toNat_natCast,Nat.mul_one,wrap_u64,Int.tdiv_eq_ediv_of_nonneg,Int.tmod_eq_emod_of_nonneg,wrap_i64])
   refine⟨(0+1,fun j=>if j=0 then(a 0+n%4294967296+c)%4294967296 else a j,(a 0+n%4294967296+c)/4294967296,n/4294967296), [],⟨by show 0+1≤6;omega,upd 0 _ (by omega) (by omega) (by omega), ?_, ?_, ?_, ?_, ?_⟩,by show 6-(0+1)<6-0;omega,by simp⟩
   ·show 0≤(a 0+n%4294967296+c)/4294967296;omega
   ·show(a 0+n%4294967296+c)/4294967296≤1;omega
   ·show 0≤n/4294967296;omega
   ·show n/4294967296<18446744073709551616;omega
   ·simp only[dq,Bp,Nat.reduceEqDiff,if_true,if_false,reduceIte,Nat.zero_ne_one]at hsum ⊢
    omega
  |1,_=>
   repeat' first|simp(disch:=omega) only[go_sem,Int.toNat_natCast,Nat.mul_one,wrap_u64,Int.tdiv_eq_ediv_of_nonneg,Int.tmod_eq_emod_of_nonneg,wrap_i64]|((with_reducible refine ab ?_ ?_)<;>intro h<;>try first|omega|simp(disch:=omega) only[go_sem, *,Int.toNat_natCast,Nat.mul_one,wrap_u64,Int.tdiv_eq_ediv_of_nonneg,Int.tmod_eq_emod_of_nonneg,wrap_i64])
   refine⟨(1+1,fun j=>if j=1 then(a 1+n%4294967296+c)%4294967296 else a j,(a 1+n%4294967296+c)/4294967296,n/4294967296), [],⟨by show 1+1≤6;omega,upd 1 _ (by omega) (by omega) (by omega), ?_, ?_, ?_, ?_, ?_⟩,by show 6-(1+1)<6-1;omega,by simp⟩
   ·show 0≤(a 1+n%4294967296+c)/4294967296;omega
   ·show(a 1+n%4294967296+c)/4294967296≤1;omega
   ·show 0≤n/4294967296;omega
   ·show n/4294967296<18446744073709551616;omega
   ·simp only[dq,Bp,Nat.reduceEqDiff,if_true,if_false,reduceIte,Nat.zero_ne_one]at hsum ⊢
    omega
  |2,_=>
   repeat' first|simp(disch:=omega) only[go_sem,Int.toNat_natCast,Nat.mul_one,wrap_u64,Int.tdiv_eq_ediv_of_nonneg,Int.tmod_eq_emod_of_nonneg,wrap_i64]|((with_reducible refine ab ?_ ?_)<;>intro h<;>try first|omega|simp(disch:=omega) only[go_sem, *,Int.toNat_natCast,Nat.mul_one,wrap_u64,Int.tdiv_eq_ediv_of_nonneg,Int.tmod_eq_emod_of_nonneg,wrap_i64])
   refine⟨(2+1,fun j=>if j=2 then(a 2+n%4294967296+c)%4294967296 else a j,(a 2+n%4294967296+c)/4294967296,n/4294967296), [],⟨by show 2+1≤6;omega,upd 2 _ (by omega) (by omega) (by omega), ?_, ?_, ?_, ?_, ?_⟩,by show 6-(2+1)<6-2;omega,by simp⟩
   ·show 0≤(a 2+n%4294967296+c)/4294967296;omega
   ·show(a 2+n%4294967296+c)/4294967296≤1;omega
   ·show 0≤n/4294967296;omega
   ·show n/4294967296<18446744073709551616;omega
   ·simp only[dq,Bp,Nat.reduceEqDiff,if_true,if_false,reduceIte,Nat.zero_ne_one]at hsum ⊢
    omega
  |3,_=>
   repeat' first|simp(disch:=omega) only[go_sem,Int.toNat_natCast,Nat.mul_one,wrap_u64,Int.tdiv_eq_ediv_of_nonneg,Int.tmod_eq_emod_of_nonneg,wrap_i64]|((with_reducible refine ab ?_ ?_)<;>intro h<;>try first|omega|simp(disch:=omega) only[go_sem, *,Int.toNat_natCast,Nat.mul_one,wrap_u64,Int.tdiv_eq_ediv_of_nonneg,Int.tmod_eq_emod_of_nonneg,wrap_i64])
   refine⟨(3+1,fun j=>if j=3 then(a 3+n%4294967296+c)%4294967296 else a j,(a 3+n%4294967296+c)/4294967296,n/4294967296), [],⟨by show 3+1≤6;omega,upd 3 _ (by omega) (by omega) (by omega), ?_, ?_, ?_, ?_, ?_⟩,by show 6-(3+1)<6-3;omega,by simp⟩
   ·show 0≤(a 3+n%4294967296+c)/4294967296;omega
   ·show(a 3+n%4294967296+c)/4294967296≤1;omega
   ·show 0≤n/4294967296;omega
   ·show n/4294967296<18446744073709551616;omega
   ·simp only[dq,Bp,Nat.reduceEqDiff,if_true,if_false,reduceIte,Nat.zero_ne_one]at hsum ⊢
    omega
  |4,_=>
   repeat' first|simp(disch:=omega) only[go_sem,Int.toNat_natCast,Nat.mul_one,wrap_u64,Int.tdiv_eq_ediv_of_nonneg,Int.tmod_eq_emod_of_nonneg,wrap_i64]|((with_reducible refine ab ?_ ?_)<;>intro h<;>try first|omega|simp(disch:=omega) only[go_sem, *,Int.toNat_natCast,Nat.mul_one,wrap_u64,Int.tdiv_eq_ediv_of_nonneg,Int.tmod_eq_emod_of_nonneg,wrap_i64])
   refine⟨(4+1,fun j=>if j=4 then(a 4+n%4294967296+c)%4294967296 else a j,(a 4+n%4294967296+c)/4294967296,n/4294967296), [],⟨by show 4+1≤6;omega,upd 4 _ (by omega) (by omega) (by omega), ?_, ?_, ?_, ?_, ?_⟩,by show 6-(4+1)<6-4;omega,by simp⟩
   ·show 0≤(a 4+n%4294967296+c)/4294967296;omega
   ·show(a 4+n%4294967296+c)/4294967296≤1;omega
   ·show 0≤n/4294967296;omega
   ·show n/4294967296<18446744073709551616;omega
   ·simp only[dq,Bp,Nat.reduceEqDiff,if_true,if_false,reduceIte,Nat.zero_ne_one]at hsum ⊢
    omega
  |5,_=>
   repeat' first|simp(disch:=omega) only[go_sem,Int.toNat_natCast,Nat.mul_one,wrap_u64,Int.tdiv_eq_ediv_of_nonneg,Int.tmod_eq_emod_of_nonneg,wrap_i64]|((with_reducible refine ab ?_ ?_)<;>intro h<;>try first|omega|simp(disch:=omega) only[go_sem, *,Int.toNat_natCast,Nat.mul_one,wrap_u64,Int.tdiv_eq_ediv_of_nonneg,Int.tmod_eq_emod_of_nonneg,wrap_i64])
   refine⟨(5+1,fun j=>if j=5 then(a 5+n%4294967296+c)%4294967296 else a j,(a 5+n%4294967296+c)/4294967296,n/4294967296), [],⟨by show 5+1≤6;omega,upd 5 _ (by omega) (by omega) (by omega), ?_, ?_, ?_, ?_, ?_⟩,by show 6-(5+1)<6-5;omega,by simp⟩
   ·show 0≤(a 5+n%4294967296+c)/4294967296;omega
   ·show(a 5+n%4294967296+c)/4294967296≤1;omega
   ·show 0≤n/4294967296;omega
   ·show n/4294967296<18446744073709551616;omega
   ·simp only[dq,Bp,Nat.reduceEqDiff,if_true,if_false,reduceIte,Nat.zero_ne_one]at hsum ⊢
    omega
theorem fj {x a b:Int} (hx0:0≤x) (ha0:0≤a) (ha1:a<18446744073709551616) (hb0:0≤b) (hb1:b<18446744073709551616) (hx1:x+a*b<Bp 6):ac Tryz.prog rb [aW x,U5 a,U5 b] (aW (x+a*b)):=by
 refine ac.of Gs (by simp) fun _=>aa ?_
 have ea:a=a%4294967296+4294967296*(a/4294967296):=by omega
 have eb:b=b%4294967296+4294967296*(b/4294967296):=by omega
 have a0:0≤a%4294967296∧a%4294967296≤4294967295:=by omega
 have a1:0≤a/4294967296∧a/4294967296≤4294967295:=by omega
 have b0:0≤b%4294967296∧b%4294967296≤4294967295:=by omega
 have b1:0≤b/4294967296∧b/4294967296≤4294967295:=by omega
 have pr: ∀{p q:Int},0≤p∧p≤4294967295→0≤q∧q≤4294967295→0≤p*q∧p*q≤18446744065119617025:=by
  intro p q hp hq
  refine⟨Int.mul_nonneg hp.1 hq.1, ?_⟩
  have:=Int.mul_le_mul hp.2 hq.2 hq.1 (by omega)
  omega
 have hab:a*b=(a%4294967296)*(b%4294967296)*Bp 0+(a%4294967296)*(b/4294967296)*Bp 1+(a/4294967296)*(b%4294967296)*Bp 1+(a/4294967296)*(b/4294967296)*Bp 2:=by
  generalize a%4294967296=p at*
  generalize a/4294967296=q at*
  generalize b%4294967296=r at*
  generalize b/4294967296=s at*
  subst ea
  subst eb
  have e1:p*(4294967296*s)=4294967296*(p*s):=Int.mul_left_comm _ _ _
  have e2:(4294967296*q)*r=4294967296*(q*r):=Int.mul_assoc _ _ _
  have e3:(4294967296*q)*(4294967296*s)=4294967296*(4294967296*(q*s)):=by rw[Int.mul_assoc,Int.mul_left_comm q]
  rw[Int.add_mul,Int.mul_add,Int.mul_add,e1,e2,e3]
  simp only[Bp]
  omega
 have p00:=pr a0 b0
 have p01:=pr a0 b1
 have p10:=pr a1 b0
 have p11:=pr a1 b1
 have da:a.tdiv 4294967296=a/4294967296:=Int.tdiv_eq_ediv_of_nonneg ha0
 have db:b.tdiv 4294967296=b/4294967296:=Int.tdiv_eq_ediv_of_nonneg hb0
 have ma:a.tmod 4294967296=a%4294967296:=Int.tmod_eq_emod_of_nonneg ha0
 have mb:b.tmod 4294967296=b%4294967296:=Int.tmod_eq_emod_of_nonneg hb0
 have wa:IntKind.wrap .u64 (a/4294967296)=a/4294967296:=wrap_u64 (by omega)
 have wb:IntKind.wrap .u64 (b/4294967296)=b/4294967296:=wrap_u64 (by omega)
 generalize a%4294967296=p at*
 generalize a/4294967296=q at*
 generalize b%4294967296=r at*
 generalize b/4294967296=s at*
 rw[hab]at hx1
 rw[hab,←Int.add_assoc,←Int.add_assoc,←Int.add_assoc]
 simp only[Bp]at hx1
 have d1:=iw (x:=x) (n:=p*r) (at':=0) (by omega) hx0 p00.1 (by omega) (by simp only[Bp];omega)
 have d2:=iw (x:=x+p*r*Bp 0) (n:=p*s) (at':=1) (by omega) (by simp only[Bp];omega) p01.1 (by omega) (by simp only[Bp];omega)
 have d3:=iw (x:=x+p*r*Bp 0+p*s*Bp 1) (n:=q*r) (at':=1) (by omega) (by simp only[Bp];omega) p10.1 (by omega) (by simp only[Bp];omega)
 have d4:=iw (x:=x+p*r*Bp 0+p*s*Bp 1+q*r*Bp 1) (n:=q*s) (at':=2) (by omega) (by simp only[Bp];omega) p11.1 (by omega) (by simp only[Bp];omega)
 conv in yA=>cbv
 clear hab ea eb hx1 pr
 have w1:IntKind.wrap .u64 (p*r)=p*r:=wrap_u64 (by omega)
 have w2:IntKind.wrap .u64 (p*s)=p*s:=wrap_u64 (by omega)
 have w3:IntKind.wrap .u64 (q*r)=q*r:=wrap_u64 (by omega)
 have w4:IntKind.wrap .u64 (q*s)=q*s:=wrap_u64 (by omega)
 repeat' first|simp(disch:=omega) only[go_sem,da,db,ma,mb,wa,wb,w1,w2,w3,w4,ne_eq]|((with_reducible refine ab ?_ ?_)<;>intro h<;>try first|omega|simp(disch:=omega) only[go_sem, *,da,db,ma,mb,wa,wb,w1,w2,w3,w4,ne_eq])|(refine ah d1 rfl (.inl rfl) ?_)|(refine ah d2 rfl (.inl rfl) ?_)|(refine ah d3 rfl (.inl rfl) ?_)|(refine ah d4 rfl (.inl rfl) ?_)
theorem ju {x y:Int} (hx0:0≤x) (hx1:x<Bp 6) (hy0:0≤y) (hy1:y<Bp 6):ac Tryz.prog rp [aW x,aW y] (Go.Abs.B (decide (x<y))):=by
 refine ac.of FV (by simp) fun _=>aa ?_
 have sx:=rH hx0 hx1
 have sy:=rH hy0 hy1
 have dx:=qQ x
 have dy:=qQ y
 conv in yQ=>cbv
 repeat' first|simp(disch:=omega) only[go_sem]|((with_reducible refine ab ?_ ?_)<;>intro h<;>try first|omega|simp(disch:=omega) only[go_sem, *])
 refine aj (fun i:Nat=>⟨[(2,.c (.ptr 0 0)),(3,.c (.ptr 1 0)),(5,I ((i:Int)-1))], [(0,.var (u6 (dg x))),(1,.var (u6 (dg y)))],2,0⟩)
  (fun i=>i≤6∧ ∀j,i≤j→j<6→dg x j=dg y j) (fun i=>i) ⟨6, [],⟨Nat.le_refl _,fun j h1 h2=>by omega⟩,by simp⟩ ?_
 rintro i ⟨hi,hall⟩
 refine aa ?_
 generalize dg x=p at*
 generalize dg y=q at*
 have h0:=dx 0 (by omega)
 have h1:=dx 1 (by omega)
 have h2:=dx 2 (by omega)
 have h3:=dx 3 (by omega)
 have h4:=dx 4 (by omega)
 have h5:=dx 5 (by omega)
 have k0:=dy 0 (by omega)
 have k1:=dy 1 (by omega)
 have k2:=dy 2 (by omega)
 have k3:=dy 3 (by omega)
 have k4:=dy 4 (by omega)
 have k5:=dy 5 (by omega)
 clear dx dy
 simp only[dq,Bp]at sx sy
 match i,hi with
 |0,_=>
  have e0:=hall 0 (by omega) (by omega)
  have e1:=hall 1 (by omega) (by omega)
  have e2:=hall 2 (by omega) (by omega)
  have e3:=hall 3 (by omega) (by omega)
  have e4:=hall 4 (by omega) (by omega)
  have e5:=hall 5 (by omega) (by omega)
  have hz:decide (x<y)=false:=decide_eq_false (by omega)
  clear sx sy hall e0 e1 e2 e3 e4 e5
  repeat' first|simp(disch:=omega) only[go_sem]|((with_reducible refine ab ?_ ?_)<;>intro h<;>try first|omega|simp(disch:=omega) only[go_sem, *])
 |1,_=>
  have e1:=hall 1 (by omega) (by omega)
  have e2:=hall 2 (by omega) (by omega)
  have e3:=hall 3 (by omega) (by omega)
  have e4:=hall 4 (by omega) (by omega)
  have e5:=hall 5 (by omega) (by omega)
  have hz:p 0≠q 0→decide (x<y)=decide (p 0<q 0):=fun hne=>by rw[decide_eq_decide];omega
  clear sx sy e1 e2 e3 e4 e5
  have hall':=Lib.hid hall
  clear hall
  have ek:(((1:Nat):Int)-1)=((0:Nat):Int):=rfl
  simp only[ek]
  repeat' first|simp(disch:=omega) only[go_sem,Int.toNat_natCast,Nat.mul_one,wrap_i64]|((with_reducible refine ab ?_ ?_)<;>intro h<;>try first|omega|simp(disch:=omega) only[go_sem, *,Int.toNat_natCast,Nat.mul_one,wrap_i64])
  ·refine⟨0, [],⟨by omega,fun j h1 h2=> ?_⟩,by omega,by simp⟩
   by_cases e:j=0
   ·rw[e];assumption
   ·exact hall'.out j (by omega) h2
 |2,_=>
  have e2:=hall 2 (by omega) (by omega)
  have e3:=hall 3 (by omega) (by omega)
  have e4:=hall 4 (by omega) (by omega)
  have e5:=hall 5 (by omega) (by omega)
  have hz:p 1≠q 1→decide (x<y)=decide (p 1<q 1):=fun hne=>by rw[decide_eq_decide];omega
  clear sx sy e2 e3 e4 e5
  have hall':=Lib.hid hall
  clear hall
  have ek:(((2:Nat):Int)-1)=((1:Nat):Int):=rfl
  simp only[ek]
  repeat' first|simp(disch:=omega) only[go_sem,Int.toNat_natCast,Nat.mul_one,wrap_i64]|((with_reducible refine ab ?_ ?_)<;>intro h<;>try first|omega|simp(disch:=omega) only[go_sem, *,Int.toNat_natCast,Nat.mul_one,wrap_i64])
  ·refine⟨1, [],⟨by omega,fun j h1 h2=> ?_⟩,by omega,by simp⟩
   by_cases e:j=1
   ·rw[e];assumption
   ·exact hall'.out j (by omega) h2
 |3,_=>
  have e3:=hall 3 (by omega) (by omega)
  have e4:=hall 4 (by omega) (by omega)
  have e5:=hall 5 (by omega) (by omega)
  have hz:p 2≠q 2→decide (x<y)=decide (p 2<q 2):=fun hne=>by rw[decide_eq_decide];omega
  clear sx sy e3 e4 e5
  have hall':=Lib.hid hall
  clear hall
  have ek:(((3:Nat):Int)-1)=((2:Nat):Int):=rfl
  simp only[ek]
  repeat' first|simp(disch:=omega) only[go_sem,Int.toNat_natCast,Nat.mul_one,wrap_i64]|((with_reducible refine ab ?_ ?_)<;>intro h<;>try first|omega|simp(disch:=omega) only[go_sem, *,Int.toNat_natCast,Nat.mul_one,wrap_i64])
  ·refine⟨2, [],⟨by omega,fun j h1 h2=> ?_⟩,by omega,by simp⟩
   by_cases e:j=2
   ·rw[e];assumption
   ·exact hall'.out j (by omega) h2
 |4,_=>
  have e4:=hall 4 (by omega) (by omega)
  have e5:=hall 5 (by omega) (by omega)
  have hz:p 3≠q 3→decide (x<y)=decide (p 3<q 3):=fun hne=>by rw[decide_eq_decide];omega
  clear sx sy e4 e5
  have hall':=Lib.hid hall
  clear hall
  have ek:(((4:Nat):Int)-1)=((3:Nat):Int):=rfl
  simp only[ek]
  repeat' first|simp(disch:=omega) only[go_sem,Int.toNat_natCast,Nat.mul_one,wrap_i64]|((with_reducible refine ab ?_ ?_)<;>intro h<;>try first|omega|simp(disch:=omega) only[go_sem, *,Int.toNat_natCast,Nat.mul_one,wrap_i64])
  ·refine⟨3, [],⟨by omega,fun j h1 h2=> ?_⟩,by omega,by simp⟩
   by_cases e:j=3
   ·rw[e];assumption
   ·exact hall'.out j (by omega) h2
 |5,_=>
  have e5:=hall 5 (by omega) (by omega)
  have hz:p 4≠q 4→decide (x<y)=decide (p 4<q 4):=fun hne=>by rw[decide_eq_decide];omega
  clear sx sy e5
  have hall':=Lib.hid hall
  clear hall
  have ek:(((5:Nat):Int)-1)=((4:Nat):Int):=rfl
  simp only[ek]
  repeat' first|simp(disch:=omega) only[go_sem,Int.toNat_natCast,Nat.mul_one,wrap_i64]|((with_reducible refine ab ?_ ?_)<;>intro h<;>try first|omega|simp(disch:=omega) only[go_sem, *,Int.toNat_natCast,Nat.mul_one,wrap_i64])
  ·refine⟨4, [],⟨by omega,fun j h1 h2=> ?_⟩,by omega,by simp⟩
   by_cases e:j=4
   ·rw[e];assumption
   ·exact hall'.out j (by omega) h2
 |6,_=>
  have hz:p 5≠q 5→decide (x<y)=decide (p 5<q 5):=fun hne=>by rw[decide_eq_decide];omega
  clear sx sy
  have hall':=Lib.hid hall
  clear hall
  have ek:(((6:Nat):Int)-1)=((5:Nat):Int):=rfl
  simp only[ek]
  repeat' first|simp(disch:=omega) only[go_sem,Int.toNat_natCast,Nat.mul_one,wrap_i64]|((with_reducible refine ab ?_ ?_)<;>intro h<;>try first|omega|simp(disch:=omega) only[go_sem, *,Int.toNat_natCast,Nat.mul_one,wrap_i64])
  ·refine⟨5, [],⟨by omega,fun j h1 h2=> ?_⟩,by omega,by simp⟩
   by_cases e:j=5
   ·rw[e];assumption
   ·exact hall'.out j (by omega) h2
def S6 (q:Nat→Int) (i:Nat):Int:=(if i≤0 then q 0*Bp 0 else 0)+(if i≤1 then q 1*Bp 1 else 0)+(if i≤2 then q 2*Bp 2 else 0)+(if i≤3 then q 3*Bp 3 else 0)+(if i≤4 then q 4*Bp 4 else 0)+(if i≤5 then q 5*Bp 5 else 0)
theorem ir {x y:Int} (hx1:x<Bp 6) (hy0:0≤y) (hyx:y≤x):ac Tryz.prog eW [aW x,aW y] (aW (x-y)):=by
 refine ac.of E7 (by simp) fun _=>aa ?_
 have sx:=rH (by omega) hx1
 have sy:=rH hy0 (by omega)
 have dx:=qQ x
 have dy:=qQ y
 conv in wP=>cbv
 repeat' first|simp(disch:=omega) only[go_sem]|((with_reducible refine ab ?_ ?_)<;>intro h<;>try first|omega|simp(disch:=omega) only[go_sem, *])
 refine aj (fun s:Nat×(Nat→Int)×Int=>⟨[(2,.c (.ptr 0 0)),(3,.c (.ptr 1 0)),(4,.c (.ptr 2 0)),(5,U5 s.2.2),(6,I s.1)], [(0,.var (u6 s.2.1)),(1,.var (u6 (dg y))),(2,.var (u6 fun _=>0))],3,0⟩)
  (fun s=>s.1≤6∧D5 s.2.1∧0≤s.2.2∧s.2.2≤1∧dq s.2.1-S6 (dg y) s.1-s.2.2*Bp s.1=x-y) (fun s=>6-s.1) ⟨(0,dg x,0), [],⟨by show 0≤6;omega,dx,by show(0:Int)≤0;decide,by show(0:Int)≤1;decide, ?_⟩,by simp⟩ ?_
 ·show dq (dg x)-S6 (dg y) 0-0*Bp 0=x-y
  rw[sx]
  have:S6 (dg y) 0=dq (dg y):=by simp[S6,dq]
  rw[this,sy]
  omega
 clear sx dx
 rintro⟨i,a,c⟩ ⟨hi,ha,hc0,hc1,hsum⟩
 refine aa ?_
 simp only at hi ha hc0 hc1 hsum
 generalize dg y=q at*
 obtain⟨R,hR⟩: ∃R,R=x-y:=⟨_,rfl⟩
 rw[←hR]at hsum ⊢
 have hR0:0≤R:=by omega
 clear hR sy hyx
 have h0:=ha 0 (by omega)
 have h1:=ha 1 (by omega)
 have h2:=ha 2 (by omega)
 have h3:=ha 3 (by omega)
 have h4:=ha 4 (by omega)
 have h5:=ha 5 (by omega)
 have k0:=dy 0 (by omega)
 have k1:=dy 1 (by omega)
 have k2:=dy 2 (by omega)
 have k3:=dy 3 (by omega)
 have k4:=dy 4 (by omega)
 have k5:=dy 5 (by omega)
 by_cases h6:i=6
 ·subst h6
  have hz:dq a=R:=by
   simp only[dq,Bp,S6]at hsum ⊢
   simp at hsum
   omega
  repeat' first|simp(disch:=omega) only[go_sem]|((with_reducible refine ab ?_ ?_)<;>intro h<;>try first|omega|simp(disch:=omega) only[go_sem, *])
  show AV.agg (u6 a)=_
  rw[VG ha hz]
 ·have upd: ∀k d,k<6→0≤d→d<4294967296→D5 (fun j=>if j=k then d else a j):=by
   intro k d hk hd0 hd1 j hj
   by_cases e:j=k
   ·simp only[e,if_true];exact⟨hd0,hd1⟩
   ·simp only[e,if_false];exact ha j hj
  match i,(show i<6 by omega)with
  |0,_=>
   repeat' first|simp(disch:=omega) only[go_sem,Int.toNat_natCast,Nat.mul_one,wrap_u64,wrap_i64]|((with_reducible refine ab ?_ ?_)<;>intro h<;>try first|omega|simp(disch:=omega) only[go_sem, *,Int.toNat_natCast,Nat.mul_one,wrap_u64,wrap_i64])
   ·refine⟨(0+1,fun j=>if j=0 then a 0+4294967296-(q 0+c)else a j,1), [],⟨by show 0+1≤6;omega,upd 0 _ (by omega) (by omega) (by omega),by show(0:Int)≤1;decide,by show(1:Int)≤1;decide, ?_⟩,by show 6-(0+1)<6-0;omega,by simp⟩
    simp only[dq,Bp,S6,Nat.reduceEqDiff,if_true,if_false,reduceIte,Nat.zero_ne_one,Nat.reduceLeDiff]at hsum ⊢
    omega
   ·refine⟨(0+1,fun j=>if j=0 then a 0-(q 0+c)else a j,0), [],⟨by show 0+1≤6;omega,upd 0 _ (by omega) (by omega) (by omega),by show(0:Int)≤0;decide,by show(0:Int)≤1;decide, ?_⟩,by show 6-(0+1)<6-0;omega,by simp⟩
    simp only[dq,Bp,S6,Nat.reduceEqDiff,if_true,if_false,reduceIte,Nat.zero_ne_one,Nat.reduceLeDiff]at hsum ⊢
    omega
  |1,_=>
   repeat' first|simp(disch:=omega) only[go_sem,Int.toNat_natCast,Nat.mul_one,wrap_u64,wrap_i64]|((with_reducible refine ab ?_ ?_)<;>intro h<;>try first|omega|simp(disch:=omega) only[go_sem, *,Int.toNat_natCast,Nat.mul_one,wrap_u64,wrap_i64])
   ·refine⟨(1+1,fun j=>if j=1 then a 1+4294967296-(q 1+c)else a j,1), [],⟨by show 1+1≤6;omega,upd 1 _ (by omega) (by omega) (by omega),by show(0:Int)≤1;decide,by show(1:Int)≤1;decide, ?_⟩,by show 6-(1+1)<6-1;omega,by simp⟩
    simp only[dq,Bp,S6,Nat.reduceEqDiff,if_true,if_false,reduceIte,Nat.zero_ne_one,Nat.reduceLeDiff]at hsum ⊢
    omega
   ·refine⟨(1+1,fun j=>if j=1 then a 1-(q 1+c)else a j,0), [],⟨by show 1+1≤6;omega,upd 1 _ (by omega) (by omega) (by omega),by show(0:Int)≤0;decide,by show(0:Int)≤1;decide, ?_⟩,by show 6-(1+1)<6-1;omega,by simp⟩
    simp only[dq,Bp,S6,Nat.reduceEqDiff,if_true,if_false,reduceIte,Nat.zero_ne_one,Nat.reduceLeDiff]at hsum ⊢
    omega
  |2,_=>
   repeat' first|simp(disch:=omega) only[go_sem,Int.toNat_natCast,Nat.mul_one,wrap_u64,wrap_i64]|((with_reducible refine ab ?_ ?_)<;>intro h<;>try first|omega|simp(disch:=omega) only[go_sem, *,Int.toNat_natCast,Nat.mul_one,wrap_u64,wrap_i64])
   ·refine⟨(2+1,fun j=>if j=2 then a 2+4294967296-(q 2+c)else a j,1), [],⟨by show 2+1≤6;omega,upd 2 _ (by omega) (by omega) (by omega),by show(0:Int)≤1;decide,by show(1:Int)≤1;decide, ?_⟩,by show 6-(2+1)<6-2;omega,by simp⟩
    simp only[dq,Bp,S6,Nat.reduceEqDiff,if_true,if_false,reduceIte,Nat.zero_ne_one,Nat.reduceLeDiff]at hsum ⊢
    omega
   ·refine⟨(2+1,fun j=>if j=2 then a 2-(q 2+c)else a j,0), [],⟨by show 2+1≤6;omega,upd 2 _ (by omega) (by omega) (by omega),by show(0:Int)≤0;decide,by show(0:Int)≤1;decide, ?_⟩,by show 6-(2+1)<6-2;omega,by simp⟩
    simp only[dq,Bp,S6,Nat.reduceEqDiff,if_true,if_false,reduceIte,Nat.zero_ne_one,Nat.reduceLeDiff]at hsum ⊢
    omega
  |3,_=>
   repeat' first|simp(disch:=omega) only[go_sem,Int.toNat_natCast,Nat.mul_one,wrap_u64,wrap_i64]|((with_reducible refine ab ?_ ?_)<;>intro h<;>try first|omega|simp(disch:=omega) only[go_sem, *,Int.toNat_natCast,Nat.mul_one,wrap_u64,wrap_i64])
   ·refine⟨(3+1,fun j=>if j=3 then a 3+4294967296-(q 3+c)else a j,1), [],⟨by show 3+1≤6;omega,upd 3 _ (by omega) (by omega) (by omega),by show(0:Int)≤1;decide,by show(1:Int)≤1;decide, ?_⟩,by show 6-(3+1)<6-3;omega,by simp⟩
    simp only[dq,Bp,S6,Nat.reduceEqDiff,if_true,if_false,reduceIte,Nat.zero_ne_one,Nat.reduceLeDiff]at hsum ⊢
    omega
   ·refine⟨(3+1,fun j=>if j=3 then a 3-(q 3+c)else a j,0), [],⟨by show 3+1≤6;omega,upd 3 _ (by omega) (by omega) (by omega),by show(0:Int)≤0;decide,by show(0:Int)≤1;decide, ?_⟩,by show 6-(3+1)<6-3;omega,by simp⟩
    simp only[dq,Bp,S6,Nat.reduceEqDiff,if_true,if_false,reduceIte,Nat.zero_ne_one,Nat.reduceLeDiff]at hsum ⊢
    omega
  |4,_=>
   repeat' first|simp(disch:=omega) only[go_sem,Int.toNat_natCast,Nat.mul_one,wrap_u64,wrap_i64]|((with_reducible refine ab ?_ ?_)<;>intro h<;>try first|omega|simp(disch:=omega) only[go_sem, *,Int.toNat_natCast,Nat.mul_one,wrap_u64,wrap_i64])
   ·refine⟨(4+1,fun j=>if j=4 then a 4+4294967296-(q 4+c)else a j,1), [],⟨by show 4+1≤6;omega,upd 4 _ (by omega) (by omega) (by omega),by show(0:Int)≤1;decide,by show(1:Int)≤1;decide, ?_⟩,by show 6-(4+1)<6-4;omega,by simp⟩
    simp only[dq,Bp,S6,Nat.reduceEqDiff,if_true,if_false,reduceIte,Nat.zero_ne_one,Nat.reduceLeDiff]at hsum ⊢
    omega
   ·refine⟨(4+1,fun j=>if j=4 then a 4-(q 4+c)else a j,0), [],⟨by show 4+1≤6;omega,upd 4 _ (by omega) (by omega) (by omega),by show(0:Int)≤0;decide,by show(0:Int)≤1;decide, ?_⟩,by show 6-(4+1)<6-4;omega,by simp⟩
    simp only[dq,Bp,S6,Nat.reduceEqDiff,if_true,if_false,reduceIte,Nat.zero_ne_one,Nat.reduceLeDiff]at hsum ⊢
    omega
  |5,_=>
   repeat' first|simp(disch:=omega) only[go_sem,Int.toNat_natCast,Nat.mul_one,wrap_u64,wrap_i64]|((with_reducible refine ab ?_ ?_)<;>intro h<;>try first|omega|simp(disch:=omega) only[go_sem, *,Int.toNat_natCast,Nat.mul_one,wrap_u64,wrap_i64])
   ·refine⟨(5+1,fun j=>if j=5 then a 5+4294967296-(q 5+c)else a j,1), [],⟨by show 5+1≤6;omega,upd 5 _ (by omega) (by omega) (by omega),by show(0:Int)≤1;decide,by show(1:Int)≤1;decide, ?_⟩,by show 6-(5+1)<6-5;omega,by simp⟩
    simp only[dq,Bp,S6,Nat.reduceEqDiff,if_true,if_false,reduceIte,Nat.zero_ne_one,Nat.reduceLeDiff]at hsum ⊢
    omega
   ·refine⟨(5+1,fun j=>if j=5 then a 5-(q 5+c)else a j,0), [],⟨by show 5+1≤6;omega,upd 5 _ (by omega) (by omega) (by omega),by show(0:Int)≤0;decide,by show(0:Int)≤1;decide, ?_⟩,by show 6-(5+1)<6-5;omega,by simp⟩
    simp only[dq,Bp,S6,Nat.reduceEqDiff,if_true,if_false,reduceIte,Nat.zero_ne_one,Nat.reduceLeDiff]at hsum ⊢
    omega
theorem gy {a:Int} (ha:aA a):ac Tryz.prog qR [I a] (U5 a.natAbs):=by
 refine ac.of Gd (by simp) fun _=>aa ?_
 obtain⟨h1,h2⟩:=ha
 conv in zF=>cbv
 repeat' first|simp(disch:=omega) only[go_sem,wrap_u64,wrap_i64]|((with_reducible refine ab ?_ ?_)<;>intro h<;>try first|omega|simp(disch:=omega) only[go_sem, *,wrap_u64,wrap_i64])
 all_goals(congr 4;omega)
def ry:List aP→ByteArray→Option Int
 | [],_=>none
 |m::r,s=>if m.1=s then some m.2 else ry r s
theorem Eu (env:List aP) (s:ByteArray):ac Tryz.prog rA [d8 mP env,S s] (.tup [I ((ry env s).getD 0),Go.Abs.B (ry env s).isSome]):=by
 refine ac.of GL (by simp) fun hb=>aa ?_
 have hx:env.length≤9223372036854775807:=by simpa[lW,ie,iz]using hb.1
 obtain⟨r,hr⟩: ∃r,r=ry env s:=⟨_,rfl⟩
 rw[←hr]
 conv in y7=>cbv
 repeat' first|simp(disch:=omega) only[go_sem]|((with_reducible refine ab ?_ ?_)<;>intro h<;>try first|omega|simp(disch:=omega) only[go_sem, *])
 refine aj (fun k:Nat=>⟨[(6,I k),(0,d8 mP env),(1,S s)], [],0,0⟩) (fun k=>k≤env.length∧Hid (r=ry (env.drop k) s)) (fun k=>env.length-k) ⟨0, [],⟨by omega,hr⟩,by simp⟩ ?_
 rintro k ⟨hk,hall⟩
 refine aa ?_
 clear hr
 by_cases hlt:k<env.length
 ·have Hall:Hid (r=if env[k].1=s then some env[k].2 else ry (env.drop (k+1)) s):=by
   have:=hall.out
   rwa [List.drop_eq_getElem_cons hlt,ry]at this
  clear hall
  repeat' first|simp(disch:=omega) only[go_sem,ae hlt,mP,wrap_i64]|((with_reducible refine ab ?_ ?_)<;>intro h<;>try first|omega|simp(disch:=omega) only[go_sem, *,ae hlt,mP,wrap_i64])
  ·rw[Hall.out,if_pos h]
   rfl
  ·refine⟨k+1, [],⟨by omega, ?_⟩,by omega,by simp⟩
   rw[Hid,Hall.out,if_neg h]
 ·have hn:=hall.out
  rw[List.drop_eq_nil_of_le (by omega),ry]at hn
  clear hall
  subst hn
  repeat' first|simp(disch:=omega) only[go_sem]|((with_reducible refine ab ?_ ?_)<;>intro h<;>try first|omega|simp(disch:=omega) only[go_sem, *])
  rfl
set_option maxRecDepth 20000
set_option maxRecDepth 1000000
def lu (f:ByteArray→Int):List aP→Int
 | []=>0
 |m::r=>m.2*f m.1+lu f r
theorem A1 (f:ByteArray→Int): ∀(l r:List aP),lu f (l++r)=lu f l+lu f r
 | [],r=>by simp[lu]
 |m::l,r=>by simp only[List.cons_append,lu,A1 f l r,Int.add_assoc]
theorem qC {f:ByteArray→Int} {l:List aP} {j:Nat} (h:j<l.length):lu f (l.take (j+1))=lu f (l.take j)+l[j].2*f l[j].1:=by
 rw[List.take_succ_eq_append_getElem h,A1]
 simp[lu]
def jx (env:List aP) (s:ByteArray):Int:=(ry env s).getD 0
noncomputable def rR (k:Int) (l:List aP) (env:List aP):Int×Int:=
 if ¬cd l then(0,1)else if ∃m∈l,ry env m.1=none then(0,9)else if aA (k+lu (jx env) l)then(k+lu (jx env) l,0)else(0,3)
theorem N3 {env:List aP} {s:ByteArray} {x:Int} (h:ry env s=some x): ∃m∈env,m.2=x:=by
 induction env with
 |nil=>cases h
 |cons m r ih=>
  rw[ry]at h
  split at h
  ·cases h;exact⟨m,List.mem_cons_self,rfl⟩
  ·obtain⟨m',h1,h2⟩:=ih h
   exact⟨m',List.mem_cons_of_mem _ h1,h2⟩
theorem kx {a b:Int} (ha:aA a) (hb:aA b):0≤(a.natAbs:Int)*b.natAbs∧(a.natAbs:Int)*b.natAbs≤85070591730234615865843651857942052864:=by
 have h1:(a.natAbs:Int)≤9223372036854775808:=by unfold aA at ha;omega
 have h2:(b.natAbs:Int)≤9223372036854775808:=by unfold aA at hb;omega
 refine⟨Int.mul_nonneg (by omega) (by omega), ?_⟩
 have:=Int.mul_le_mul h1 h2 (by omega) (by omega)
 omega
theorem mi {a b:Int} (h:(a<0∧b<0)∨(¬a<0∧ ¬b<0)):(a.natAbs:Int)*b.natAbs=b*a:=by
 rcases h with⟨h1,h2⟩|⟨h1,h2⟩
 ·rw[show(a.natAbs:Int)= -a by omega,show(b.natAbs:Int)= -b by omega,Int.neg_mul_neg,Int.mul_comm]
 ·rw[show(a.natAbs:Int)=a by omega,show(b.natAbs:Int)=b by omega,Int.mul_comm]
theorem mf {a b:Int} (h:(a<0∧ ¬b<0)∨(¬a<0∧b<0)):(a.natAbs:Int)*b.natAbs= -(b*a):=by
 rcases h with⟨h1,h2⟩|⟨h1,h2⟩
 ·rw[show(a.natAbs:Int)= -a by omega,show(b.natAbs:Int)=b by omega,Int.neg_mul,Int.mul_comm]
 ·rw[show(a.natAbs:Int)=a by omega,show(b.natAbs:Int)= -b by omega,Int.mul_neg,Int.mul_comm]
theorem yc:dg 0=fun _=>0:=by
 funext j
 simp[dg]
set_option maxHeartbeats 2000000 in
theorem ny {k:Int} {l env:List aP} (hk:aA k) (hl64: ∀m∈l,aA m.2) (he64: ∀m∈env,aA m.2):ac Tryz.prog jp [dj k l,d8 mP env] (.tup [I (rR k l env).1,I (rR k l env).2]):=by
 refine ac.of F6 (by simp) fun hb=>aa ?_
 have hl:=nY hb.1
 conv in zA=>cbv
 by_cases h1:cd l
 ·have pk:=gy hk
  have hka:(k.natAbs:Int)≤9223372036854775808:=by unfold aA at hk;omega
  have fnd:=Eu env
  have v64: ∀s x,ry env s=some x→aA x:=fun s x h=>by
   obtain⟨m,hm,rfl⟩:=N3 h
   exact he64 m hm
  by_cases hneg:k<0
  ·have pp:=fj (x:=0) (a:=k.natAbs) (b:=1) (by omega) (by omega) (by omega) (by omega) (by omega) (by simp only[Bp];omega)
   rw[show(0:Int)+k.natAbs*1=k.natAbs by omega]at pp
   have z0:(fun _:Nat=>(0:Int))=dg 0:=yc.symm
   have e0:dg 0 0=0:=by simp[dg]
   simp only[aW,u6,yc]at pp
   repeat' first|simp(disch:=omega) only[go_sem,h1]|((with_reducible refine ab ?_ ?_)<;>intro h<;>try first|omega|simp(disch:=omega) only[go_sem, *,h1])|(refine ah (dB _ _) rfl (.inl rfl) ?_)|(refine ah pk rfl (.inl rfl) ?_)|(refine ah pp rfl (.inl rfl) ?_)
   refine aj (fun s:Nat×Int×Int=>⟨[(1,d8 mP env),(2,.c (.ptr 0 0)),(6,.c (.ptr 1 0)),(7,.c (.ptr 2 0)),(8,I s.1)], [(0,.var [.pure (pI k),.pure (aE l)]),(1,.var (u6 (dg s.2.1))),(2,.var (u6 (dg s.2.2)))],3,0⟩)
    (fun s=>s.1≤l.length∧0≤s.2.1∧0≤s.2.2∧s.2.1≤9223372036854775808+s.1*85070591730234615865843651857942052864∧s.2.2≤9223372036854775808+s.1*85070591730234615865843651857942052864∧Hid (s.2.1-s.2.2=k+lu (jx env) (l.take s.1))∧dW (fun i=> ∀h:i<l.length,ry env l[i].1≠none) s.1) (fun s=>l.length-s.1) ⟨(0,(0:Int),(k.natAbs:Int)), [],⟨Nat.zero_le _,by show(0:Int)≤(0:Int);omega,by show(0:Int)≤(k.natAbs:Int);omega,by show(0:Int)≤(9223372036854775808:Int)+((0:Nat):Int)*_;omega,by show(k.natAbs:Int)≤(9223372036854775808:Int)+((0:Nat):Int)*_;omega, ?_,.zero⟩, ?_⟩ ?_
   ·show _=_
    simp only[List.take_zero,lu]
    omega
   ·simp[yc]
   rintro⟨j,p,n⟩ ⟨hj,hp0,hn0,hp1,hn1,hs,hall⟩
   refine aa ?_
   simp only at hj hp0 hn0 hp1 hn1
   clear pp pk
   by_cases hlt:j<l.length
   ·have hm:=List.getElem_mem hlt
    have h64:=hl64 _ hm
    cases hx:ry env l[j].1 with
    |none=>
     have hex: ∃m∈l,ry env m.1=none:=⟨l[j],hm,hx⟩
     rw[rR,if_neg (not_not_intro h1),if_pos hex]
     have hE:=fnd l[j].1
     rw[hx]at hE
     clear hex hs hall hx
     repeat' first|simp(disch:=omega) only[go_sem,ae hlt,mP]|((with_reducible refine ab ?_ ?_)<;>intro h<;>try first|omega|simp(disch:=omega) only[go_sem, *,ae hlt,mP])|(refine ah hE rfl (.inl rfl) ?_)
     all_goals(simp at*;done)
    |some x=>
     have hE:=fnd l[j].1
     rw[hx]at hE
     have hx64:=v64 _ _ hx
     have hbd:=kx hx64 h64
     have q1:=gy hx64
     have q2:=gy h64
     have hjl:(j:Int)<9223372036854775807:=by omega
     have hx0:(x.natAbs:Int)<18446744073709551616:=by unfold aA at hx64;omega
     have hl0:(l[j].2.natAbs:Int)<18446744073709551616:=by unfold aA at h64;omega
     have ap:=fj (x:=p) (a:=x.natAbs) (b:=l[j].2.natAbs) hp0 (by omega) hx0 (by omega) hl0 (by simp only[Bp];omega)
     have an:=fj (x:=n) (a:=x.natAbs) (b:=l[j].2.natAbs) hn0 (by omega) hx0 (by omega) hl0 (by simp only[Bp];omega)
     have hv:jx env l[j].1=x:=by rw[jx,hx];rfl
     have HX:=Lib.hid hx
     clear hx
     have stepP:(x<0∧l[j].2<0)∨(¬x<0∧ ¬l[j].2<0)→Hid (p+(x.natAbs:Int)*l[j].2.natAbs-n=k+lu (jx env) (l.take (j+1))):=fun h=>by
      show _=_
      rw[qC hlt,hv,mi h]
      have:=hs.out
      simp only at this
      omega
     have stepN:(x<0∧ ¬l[j].2<0)∨(¬x<0∧l[j].2<0)→Hid (p-(n+(x.natAbs:Int)*l[j].2.natAbs)=k+lu (jx env) (l.take (j+1))):=fun h=>by
      show _=_
      rw[qC hlt,hv,mf h]
      have:=hs.out
      simp only at this
      omega
     have HP:=Lib.hid stepP
     have HN:=Lib.hid stepN
     have nxt:=hall.succ (p:=fun i=> ∀h:i<l.length,ry env l[i].1≠none) fun _=>by rw[HX.out];simp
     have NX:=Lib.hid nxt
     clear stepP stepN hs hall hv hm nxt
     by_cases hxn:x<0
     ·by_cases hbn:l[j].2<0
      ·repeat' first|simp(disch:=omega) only[go_sem,ae hlt,mP,wrap_i64,Option.getD_some,Option.isSome_some,hxn,hbn]|((with_reducible refine ab ?_ ?_)<;>intro h<;>try first|omega|simp(disch:=omega) only[go_sem, *,ae hlt,mP,wrap_i64,Option.getD_some,Option.isSome_some,hxn,hbn])|(refine ah hE rfl (.inl rfl) ?_)|(refine ah q1 rfl (.inl rfl) ?_)|(refine ah q2 rfl (.inl rfl) ?_)|(refine ah ap rfl (.inl rfl) ?_)|(refine ah an rfl (.inl rfl) ?_)
       refine⟨(j+1,p+(x.natAbs:Int)*l[j].2.natAbs,n), [],⟨hlt,by show 0≤p+_;omega,hn0,by show p+_≤_;omega,by show n≤_;omega,HP.out (.inl ⟨hxn,hbn⟩),NX.out⟩,by show _-_<_-_;omega,by simp⟩
      ·repeat' first|simp(disch:=omega) only[go_sem,ae hlt,mP,wrap_i64,Option.getD_some,Option.isSome_some,hxn,hbn]|((with_reducible refine ab ?_ ?_)<;>intro h<;>try first|omega|simp(disch:=omega) only[go_sem, *,ae hlt,mP,wrap_i64,Option.getD_some,Option.isSome_some,hxn,hbn])|(refine ah hE rfl (.inl rfl) ?_)|(refine ah q1 rfl (.inl rfl) ?_)|(refine ah q2 rfl (.inl rfl) ?_)|(refine ah ap rfl (.inl rfl) ?_)|(refine ah an rfl (.inl rfl) ?_)
       refine⟨(j+1,p,n+(x.natAbs:Int)*l[j].2.natAbs), [],⟨hlt,hp0,by show 0≤n+_;omega,by show p≤_;omega,by show n+_≤_;omega,HN.out (.inl ⟨hxn,hbn⟩),NX.out⟩,by show _-_<_-_;omega,by simp⟩
     ·by_cases hbn:l[j].2<0
      ·repeat' first|simp(disch:=omega) only[go_sem,ae hlt,mP,wrap_i64,Option.getD_some,Option.isSome_some,hxn,hbn]|((with_reducible refine ab ?_ ?_)<;>intro h<;>try first|omega|simp(disch:=omega) only[go_sem, *,ae hlt,mP,wrap_i64,Option.getD_some,Option.isSome_some,hxn,hbn])|(refine ah hE rfl (.inl rfl) ?_)|(refine ah q1 rfl (.inl rfl) ?_)|(refine ah q2 rfl (.inl rfl) ?_)|(refine ah ap rfl (.inl rfl) ?_)|(refine ah an rfl (.inl rfl) ?_)
       refine⟨(j+1,p,n+(x.natAbs:Int)*l[j].2.natAbs), [],⟨hlt,hp0,by show 0≤n+_;omega,by show p≤_;omega,by show n+_≤_;omega,HN.out (.inr ⟨hxn,hbn⟩),NX.out⟩,by show _-_<_-_;omega,by simp⟩
      ·repeat' first|simp(disch:=omega) only[go_sem,ae hlt,mP,wrap_i64,Option.getD_some,Option.isSome_some,hxn,hbn]|((with_reducible refine ab ?_ ?_)<;>intro h<;>try first|omega|simp(disch:=omega) only[go_sem, *,ae hlt,mP,wrap_i64,Option.getD_some,Option.isSome_some,hxn,hbn])|(refine ah hE rfl (.inl rfl) ?_)|(refine ah q1 rfl (.inl rfl) ?_)|(refine ah q2 rfl (.inl rfl) ?_)|(refine ah ap rfl (.inl rfl) ?_)|(refine ah an rfl (.inl rfl) ?_)
       refine⟨(j+1,p+(x.natAbs:Int)*l[j].2.natAbs,n), [],⟨hlt,by show 0≤p+_;omega,hn0,by show p+_≤_;omega,by show n≤_;omega,HP.out (.inr ⟨hxn,hbn⟩),NX.out⟩,by show _-_<_-_;omega,by simp⟩
   ·have hex: ¬ ∃m∈l,ry env m.1=none:=by
     rintro⟨m,hm,he⟩
     obtain⟨i,hi,rfl⟩:=List.mem_iff_getElem.1 hm
     exact hall i (by omega) hi he
    have hS:=hs.out
    simp only at hS
    rw[List.take_of_length_le (by omega)]at hS
    rw[rR,if_neg (not_not_intro h1),if_neg hex,←hS]
    have hjl:(j:Int)≤9223372036854775807:=by omega
    clear hs hall hex hS fnd v64 hl64 he64
    by_cases hlt2:p<n
    ·have cl:=ju (x:=p) (y:=n) hp0 (by simp only[Bp];omega) hn0 (by simp only[Bp];omega)
     rw[decide_eq_true hlt2]at cl
     have cm:ac Tryz.prog eW [aW n,aW p] (.agg (u6 (dg (n-p)))):=ir (x:=n) (y:=p) (by simp only[Bp];omega) hp0 (by omega)
     have sD:=rH (x:=n-p) (by omega) (by simp only[Bp];omega)
     have dD:=qQ (n-p)
     generalize dg (n-p)=d at*
     have d0:=dD 0 (by omega)
     have d1:=dD 1 (by omega)
     have d2:=dD 2 (by omega)
     have d3:=dD 3 (by omega)
     have d4:=dD 4 (by omega)
     have d5:=dD 5 (by omega)
     simp only[dq,Bp]at sD
     clear dD
     have hR:p-n= -(d 0+d 1*4294967296+d 2*18446744073709551616+d 3*79228162514264337593543950336+d 4*340282366920938463463374607431768211456+d 5*1461501637330902918203684832716283019655932542976):=by omega
     have hlow:aA (p-n)↔(d 2=0∧d 3=0∧d 4=0∧d 5=0∧d 0+d 1*4294967296≤9223372036854775808):=by unfold aA;omega
     have hpos:0<d 0+d 1*4294967296+d 2*18446744073709551616+d 3*79228162514264337593543950336+d 4*340282366920938463463374607431768211456+d 5*1461501637330902918203684832716283019655932542976:=by omega
     by_cases hin:aA (p-n)
     ·rw[if_pos hin]
      obtain⟨z2,z3,z4,z5,zz⟩:=hlow.1 hin
      have e1:p-n= -(d 0+d 1*4294967296):=by omega
      rw[e1]
      clear hlow hR sD e1 hlt2
      repeat' first|simp(disch:=omega) only[go_sem,z2,z3,z4,z5,Int.toNat_natCast,Int.toNat_zero,show Int.toNat 1=1 from rfl,show Int.toNat 2=2 from rfl,show Int.toNat 3=3 from rfl,show Int.toNat 4=4 from rfl,show Int.toNat 5=5 from rfl,Nat.mul_one,wrap_u64,wrap_i64]|((with_reducible refine ab ?_ ?_)<;>intro h<;>try first|omega|simp(disch:=omega) only[go_sem, *,z2,z3,z4,z5,Int.toNat_natCast,Int.toNat_zero,show Int.toNat 1=1 from rfl,show Int.toNat 2=2 from rfl,show Int.toNat 3=3 from rfl,show Int.toNat 4=4 from rfl,show Int.toNat 5=5 from rfl,Nat.mul_one,wrap_u64,wrap_i64])|(refine ah cl rfl (.inl rfl) ?_)|(refine ah cm rfl (.inl rfl) ?_)
      rw[show 0-(d 0+d 1*4294967296-1)-1= -(d 0+d 1*4294967296) by omega]
     ·rw[if_neg hin]
      have hno: ¬(d 2=0∧d 3=0∧d 4=0∧d 5=0∧d 0+d 1*4294967296≤9223372036854775808):=fun h=>hin (hlow.2 h)
      clear hlow hR sD hlt2
      repeat' first|simp(disch:=omega) only[go_sem,Int.toNat_natCast,Int.toNat_zero,show Int.toNat 1=1 from rfl,show Int.toNat 2=2 from rfl,show Int.toNat 3=3 from rfl,show Int.toNat 4=4 from rfl,show Int.toNat 5=5 from rfl,Nat.mul_one,wrap_u64,wrap_i64]|((with_reducible refine ab ?_ ?_)<;>intro h<;>try first|omega|simp(disch:=omega) only[go_sem, *,Int.toNat_natCast,Int.toNat_zero,show Int.toNat 1=1 from rfl,show Int.toNat 2=2 from rfl,show Int.toNat 3=3 from rfl,show Int.toNat 4=4 from rfl,show Int.toNat 5=5 from rfl,Nat.mul_one,wrap_u64,wrap_i64])|(refine ah cl rfl (.inl rfl) ?_)|(refine ah cm rfl (.inl rfl) ?_)
    ·have cl:=ju (x:=p) (y:=n) hp0 (by simp only[Bp];omega) hn0 (by simp only[Bp];omega)
     rw[decide_eq_false hlt2]at cl
     have cm:ac Tryz.prog eW [aW p,aW n] (.agg (u6 (dg (p-n)))):=ir (x:=p) (y:=n) (by simp only[Bp];omega) hn0 (by omega)
     have sD:=rH (x:=p-n) (by omega) (by simp only[Bp];omega)
     have dD:=qQ (p-n)
     generalize dg (p-n)=d at*
     have d0:=dD 0 (by omega)
     have d1:=dD 1 (by omega)
     have d2:=dD 2 (by omega)
     have d3:=dD 3 (by omega)
     have d4:=dD 4 (by omega)
     have d5:=dD 5 (by omega)
     simp only[dq,Bp]at sD
     clear dD
     have hR:p-n=(d 0+d 1*4294967296+d 2*18446744073709551616+d 3*79228162514264337593543950336+d 4*340282366920938463463374607431768211456+d 5*1461501637330902918203684832716283019655932542976):=by omega
     have hlow:aA (p-n)↔(d 2=0∧d 3=0∧d 4=0∧d 5=0∧d 0+d 1*4294967296≤9223372036854775807):=by unfold aA;omega
     have hpos:0≤d 0+d 1*4294967296+d 2*18446744073709551616+d 3*79228162514264337593543950336+d 4*340282366920938463463374607431768211456+d 5*1461501637330902918203684832716283019655932542976:=by omega
     by_cases hin:aA (p-n)
     ·rw[if_pos hin]
      obtain⟨z2,z3,z4,z5,zz⟩:=hlow.1 hin
      have e1:p-n=d 0+d 1*4294967296:=by omega
      rw[e1]
      clear hlow hR sD e1 hlt2
      repeat' first|simp(disch:=omega) only[go_sem,z2,z3,z4,z5,Int.toNat_natCast,Int.toNat_zero,show Int.toNat 1=1 from rfl,show Int.toNat 2=2 from rfl,show Int.toNat 3=3 from rfl,show Int.toNat 4=4 from rfl,show Int.toNat 5=5 from rfl,Nat.mul_one,wrap_u64,wrap_i64]|((with_reducible refine ab ?_ ?_)<;>intro h<;>try first|omega|simp(disch:=omega) only[go_sem, *,z2,z3,z4,z5,Int.toNat_natCast,Int.toNat_zero,show Int.toNat 1=1 from rfl,show Int.toNat 2=2 from rfl,show Int.toNat 3=3 from rfl,show Int.toNat 4=4 from rfl,show Int.toNat 5=5 from rfl,Nat.mul_one,wrap_u64,wrap_i64])|(refine ah cl rfl (.inl rfl) ?_)|(refine ah cm rfl (.inl rfl) ?_)
     ·rw[if_neg hin]
      have hno: ¬(d 2=0∧d 3=0∧d 4=0∧d 5=0∧d 0+d 1*4294967296≤9223372036854775807):=fun h=>hin (hlow.2 h)
      clear hlow hR sD hlt2
      repeat' first|simp(disch:=omega) only[go_sem,Int.toNat_natCast,Int.toNat_zero,show Int.toNat 1=1 from rfl,show Int.toNat 2=2 from rfl,show Int.toNat 3=3 from rfl,show Int.toNat 4=4 from rfl,show Int.toNat 5=5 from rfl,Nat.mul_one,wrap_u64,wrap_i64]|((with_reducible refine ab ?_ ?_)<;>intro h<;>try first|omega|simp(disch:=omega) only[go_sem, *,Int.toNat_natCast,Int.toNat_zero,show Int.toNat 1=1 from rfl,show Int.toNat 2=2 from rfl,show Int.toNat 3=3 from rfl,show Int.toNat 4=4 from rfl,show Int.toNat 5=5 from rfl,Nat.mul_one,wrap_u64,wrap_i64])|(refine ah cl rfl (.inl rfl) ?_)|(refine ah cm rfl (.inl rfl) ?_)
  ·have pp:=fj (x:=0) (a:=k.natAbs) (b:=1) (by omega) (by omega) (by omega) (by omega) (by omega) (by simp only[Bp];omega)
   rw[show(0:Int)+k.natAbs*1=k.natAbs by omega]at pp
   simp only[aW,u6,yc]at pp
   repeat' first|simp(disch:=omega) only[go_sem,h1]|((with_reducible refine ab ?_ ?_)<;>intro h<;>try first|omega|simp(disch:=omega) only[go_sem, *,h1])|(refine ah (dB _ _) rfl (.inl rfl) ?_)|(refine ah pk rfl (.inl rfl) ?_)|(refine ah pp rfl (.inl rfl) ?_)
   refine aj (fun s:Nat×Int×Int=>⟨[(1,d8 mP env),(2,.c (.ptr 0 0)),(6,.c (.ptr 1 0)),(7,.c (.ptr 2 0)),(8,I s.1)], [(0,.var [.pure (pI k),.pure (aE l)]),(1,.var (u6 (dg s.2.1))),(2,.var (u6 (dg s.2.2)))],3,0⟩)
    (fun s=>s.1≤l.length∧0≤s.2.1∧0≤s.2.2∧s.2.1≤9223372036854775808+s.1*85070591730234615865843651857942052864∧s.2.2≤9223372036854775808+s.1*85070591730234615865843651857942052864∧Hid (s.2.1-s.2.2=k+lu (jx env) (l.take s.1))∧dW (fun i=> ∀h:i<l.length,ry env l[i].1≠none) s.1) (fun s=>l.length-s.1) ⟨(0,(k.natAbs:Int),(0:Int)), [],⟨Nat.zero_le _,by show(0:Int)≤(k.natAbs:Int);omega,by show(0:Int)≤(0:Int);omega,by show(k.natAbs:Int)≤(9223372036854775808:Int)+((0:Nat):Int)*_;omega,by show(0:Int)≤(9223372036854775808:Int)+((0:Nat):Int)*_;omega, ?_,.zero⟩, ?_⟩ ?_
   ·show _=_
    simp only[List.take_zero,lu]
    omega
   ·simp[yc]
   rintro⟨j,p,n⟩ ⟨hj,hp0,hn0,hp1,hn1,hs,hall⟩
   refine aa ?_
   simp only at hj hp0 hn0 hp1 hn1
   clear pp pk
   by_cases hlt:j<l.length
   ·have hm:=List.getElem_mem hlt
    have h64:=hl64 _ hm
    cases hx:ry env l[j].1 with
    |none=>
     have hex: ∃m∈l,ry env m.1=none:=⟨l[j],hm,hx⟩
     rw[rR,if_neg (not_not_intro h1),if_pos hex]
     have hE:=fnd l[j].1
     rw[hx]at hE
     clear hex hs hall hx
     repeat' first|simp(disch:=omega) only[go_sem,ae hlt,mP]|((with_reducible refine ab ?_ ?_)<;>intro h<;>try first|omega|simp(disch:=omega) only[go_sem, *,ae hlt,mP])|(refine ah hE rfl (.inl rfl) ?_)
     all_goals(simp at*;done)
    |some x=>
     have hE:=fnd l[j].1
     rw[hx]at hE
     have hx64:=v64 _ _ hx
     have hbd:=kx hx64 h64
     have q1:=gy hx64
     have q2:=gy h64
     have hjl:(j:Int)<9223372036854775807:=by omega
     have hx0:(x.natAbs:Int)<18446744073709551616:=by unfold aA at hx64;omega
     have hl0:(l[j].2.natAbs:Int)<18446744073709551616:=by unfold aA at h64;omega
     have ap:=fj (x:=p) (a:=x.natAbs) (b:=l[j].2.natAbs) hp0 (by omega) hx0 (by omega) hl0 (by simp only[Bp];omega)
     have an:=fj (x:=n) (a:=x.natAbs) (b:=l[j].2.natAbs) hn0 (by omega) hx0 (by omega) hl0 (by simp only[Bp];omega)
     have hv:jx env l[j].1=x:=by rw[jx,hx];rfl
     have HX:=Lib.hid hx
     clear hx
     have stepP:(x<0∧l[j].2<0)∨(¬x<0∧ ¬l[j].2<0)→Hid (p+(x.natAbs:Int)*l[j].2.natAbs-n=k+lu (jx env) (l.take (j+1))):=fun h=>by
      show _=_
      rw[qC hlt,hv,mi h]
      have:=hs.out
      simp only at this
      omega
     have stepN:(x<0∧ ¬l[j].2<0)∨(¬x<0∧l[j].2<0)→Hid (p-(n+(x.natAbs:Int)*l[j].2.natAbs)=k+lu (jx env) (l.take (j+1))):=fun h=>by
      show _=_
      rw[qC hlt,hv,mf h]
      have:=hs.out
      simp only at this
      omega
     have HP:=Lib.hid stepP
     have HN:=Lib.hid stepN
     have nxt:=hall.succ (p:=fun i=> ∀h:i<l.length,ry env l[i].1≠none) fun _=>by rw[HX.out];simp
     have NX:=Lib.hid nxt
     clear stepP stepN hs hall hv hm nxt
     by_cases hxn:x<0
     ·by_cases hbn:l[j].2<0
      ·repeat' first|simp(disch:=omega) only[go_sem,ae hlt,mP,wrap_i64,Option.getD_some,Option.isSome_some,hxn,hbn]|((with_reducible refine ab ?_ ?_)<;>intro h<;>try first|omega|simp(disch:=omega) only[go_sem, *,ae hlt,mP,wrap_i64,Option.getD_some,Option.isSome_some,hxn,hbn])|(refine ah hE rfl (.inl rfl) ?_)|(refine ah q1 rfl (.inl rfl) ?_)|(refine ah q2 rfl (.inl rfl) ?_)|(refine ah ap rfl (.inl rfl) ?_)|(refine ah an rfl (.inl rfl) ?_)
       refine⟨(j+1,p+(x.natAbs:Int)*l[j].2.natAbs,n), [],⟨hlt,by show 0≤p+_;omega,hn0,by show p+_≤_;omega,by show n≤_;omega,HP.out (.inl ⟨hxn,hbn⟩),NX.out⟩,by show _-_<_-_;omega,by simp⟩
      ·repeat' first|simp(disch:=omega) only[go_sem,ae hlt,mP,wrap_i64,Option.getD_some,Option.isSome_some,hxn,hbn]|((with_reducible refine ab ?_ ?_)<;>intro h<;>try first|omega|simp(disch:=omega) only[go_sem, *,ae hlt,mP,wrap_i64,Option.getD_some,Option.isSome_some,hxn,hbn])|(refine ah hE rfl (.inl rfl) ?_)|(refine ah q1 rfl (.inl rfl) ?_)|(refine ah q2 rfl (.inl rfl) ?_)|(refine ah ap rfl (.inl rfl) ?_)|(refine ah an rfl (.inl rfl) ?_)
       refine⟨(j+1,p,n+(x.natAbs:Int)*l[j].2.natAbs), [],⟨hlt,hp0,by show 0≤n+_;omega,by show p≤_;omega,by show n+_≤_;omega,HN.out (.inl ⟨hxn,hbn⟩),NX.out⟩,by show _-_<_-_;omega,by simp⟩
     ·by_cases hbn:l[j].2<0
      ·repeat' first|simp(disch:=omega) only[go_sem,ae hlt,mP,wrap_i64,Option.getD_some,Option.isSome_some,hxn,hbn]|((with_reducible refine ab ?_ ?_)<;>intro h<;>try first|omega|simp(disch:=omega) only[go_sem, *,ae hlt,mP,wrap_i64,Option.getD_some,Option.isSome_some,hxn,hbn])|(refine ah hE rfl (.inl rfl) ?_)|(refine ah q1 rfl (.inl rfl) ?_)|(refine ah q2 rfl (.inl rfl) ?_)|(refine ah ap rfl (.inl rfl) ?_)|(refine ah an rfl (.inl rfl) ?_)
       refine⟨(j+1,p,n+(x.natAbs:Int)*l[j].2.natAbs), [],⟨hlt,hp0,by show 0≤n+_;omega,by show p≤_;omega,by show n+_≤_;omega,HN.out (.inr ⟨hxn,hbn⟩),NX.out⟩,by show _-_<_-_;omega,by simp⟩
      ·repeat' first|simp(disch:=omega) only[go_sem,ae hlt,mP,wrap_i64,Option.getD_some,Option.isSome_some,hxn,hbn]|((with_reducible refine ab ?_ ?_)<;>intro h<;>try first|omega|simp(disch:=omega) only[go_sem, *,ae hlt,mP,wrap_i64,Option.getD_some,Option.isSome_some,hxn,hbn])|(refine ah hE rfl (.inl rfl) ?_)|(refine ah q1 rfl (.inl rfl) ?_)|(refine ah q2 rfl (.inl rfl) ?_)|(refine ah ap rfl (.inl rfl) ?_)|(refine ah an rfl (.inl rfl) ?_)
       refine⟨(j+1,p+(x.natAbs:Int)*l[j].2.natAbs,n), [],⟨hlt,by show 0≤p+_;omega,hn0,by show p+_≤_;omega,by show n≤_;omega,HP.out (.inr ⟨hxn,hbn⟩),NX.out⟩,by show _-_<_-_;omega,by simp⟩
   ·have hex: ¬ ∃m∈l,ry env m.1=none:=by
     rintro⟨m,hm,he⟩
     obtain⟨i,hi,rfl⟩:=List.mem_iff_getElem.1 hm
     exact hall i (by omega) hi he
    have hS:=hs.out
    simp only at hS
    rw[List.take_of_length_le (by omega)]at hS
    rw[rR,if_neg (not_not_intro h1),if_neg hex,←hS]
    have hjl:(j:Int)≤9223372036854775807:=by omega
    clear hs hall hex hS fnd v64 hl64 he64
    by_cases hlt2:p<n
    ·have cl:=ju (x:=p) (y:=n) hp0 (by simp only[Bp];omega) hn0 (by simp only[Bp];omega)
     rw[decide_eq_true hlt2]at cl
     have cm:ac Tryz.prog eW [aW n,aW p] (.agg (u6 (dg (n-p)))):=ir (x:=n) (y:=p) (by simp only[Bp];omega) hp0 (by omega)
     have sD:=rH (x:=n-p) (by omega) (by simp only[Bp];omega)
     have dD:=qQ (n-p)
     generalize dg (n-p)=d at*
     have d0:=dD 0 (by omega)
     have d1:=dD 1 (by omega)
     have d2:=dD 2 (by omega)
     have d3:=dD 3 (by omega)
     have d4:=dD 4 (by omega)
     have d5:=dD 5 (by omega)
     simp only[dq,Bp]at sD
     clear dD
     have hR:p-n= -(d 0+d 1*4294967296+d 2*18446744073709551616+d 3*79228162514264337593543950336+d 4*340282366920938463463374607431768211456+d 5*1461501637330902918203684832716283019655932542976):=by omega
     have hlow:aA (p-n)↔(d 2=0∧d 3=0∧d 4=0∧d 5=0∧d 0+d 1*4294967296≤9223372036854775808):=by unfold aA;omega
     have hpos:0<d 0+d 1*4294967296+d 2*18446744073709551616+d 3*79228162514264337593543950336+d 4*340282366920938463463374607431768211456+d 5*1461501637330902918203684832716283019655932542976:=by omega
     by_cases hin:aA (p-n)
     ·rw[if_pos hin]
      obtain⟨z2,z3,z4,z5,zz⟩:=hlow.1 hin
      have e1:p-n= -(d 0+d 1*4294967296):=by omega
      rw[e1]
      clear hlow hR sD e1 hlt2
      repeat' first|simp(disch:=omega) only[go_sem,z2,z3,z4,z5,Int.toNat_natCast,Int.toNat_zero,show Int.toNat 1=1 from rfl,show Int.toNat 2=2 from rfl,show Int.toNat 3=3 from rfl,show Int.toNat 4=4 from rfl,show Int.toNat 5=5 from rfl,Nat.mul_one,wrap_u64,wrap_i64]|((with_reducible refine ab ?_ ?_)<;>intro h<;>try first|omega|simp(disch:=omega) only[go_sem, *,z2,z3,z4,z5,Int.toNat_natCast,Int.toNat_zero,show Int.toNat 1=1 from rfl,show Int.toNat 2=2 from rfl,show Int.toNat 3=3 from rfl,show Int.toNat 4=4 from rfl,show Int.toNat 5=5 from rfl,Nat.mul_one,wrap_u64,wrap_i64])|(refine ah cl rfl (.inl rfl) ?_)|(refine ah cm rfl (.inl rfl) ?_)
      rw[show 0-(d 0+d 1*4294967296-1)-1= -(d 0+d 1*4294967296) by omega]
     ·rw[if_neg hin]
      have hno: ¬(d 2=0∧d 3=0∧d 4=0∧d 5=0∧d 0+d 1*4294967296≤9223372036854775808):=fun h=>hin (hlow.2 h)
      clear hlow hR sD hlt2
      repeat' first|simp(disch:=omega) only[go_sem,Int.toNat_natCast,Int.toNat_zero,show Int.toNat 1=1 from rfl,show Int.toNat 2=2 from rfl,show Int.toNat 3=3 from rfl,show Int.toNat 4=4 from rfl,show Int.toNat 5=5 from rfl,Nat.mul_one,wrap_u64,wrap_i64]|((with_reducible refine ab ?_ ?_)<;>intro h<;>try first|omega|simp(disch:=omega) only[go_sem, *,Int.toNat_natCast,Int.toNat_zero,show Int.toNat 1=1 from rfl,show Int.toNat 2=2 from rfl,show Int.toNat 3=3 from rfl,show Int.toNat 4=4 from rfl,show Int.toNat 5=5 from rfl,Nat.mul_one,wrap_u64,wrap_i64])|(refine ah cl rfl (.inl rfl) ?_)|(refine ah cm rfl (.inl rfl) ?_)
    ·have cl:=ju (x:=p) (y:=n) hp0 (by simp only[Bp];omega) hn0 (by simp only[Bp];omega)
     rw[decide_eq_false hlt2]at cl
     have cm:ac Tryz.prog eW [aW p,aW n] (.agg (u6 (dg (p-n)))):=ir (x:=p) (y:=n) (by simp only[Bp];omega) hn0 (by omega)
     have sD:=rH (x:=p-n) (by omega) (by simp only[Bp];omega)
     have dD:=qQ (p-n)
     generalize dg (p-n)=d at*
     have d0:=dD 0 (by omega)
     have d1:=dD 1 (by omega)
     have d2:=dD 2 (by omega)
     have d3:=dD 3 (by omega)
     have d4:=dD 4 (by omega)
     have d5:=dD 5 (by omega)
     simp only[dq,Bp]at sD
     clear dD
     have hR:p-n=(d 0+d 1*4294967296+d 2*18446744073709551616+d 3*79228162514264337593543950336+d 4*340282366920938463463374607431768211456+d 5*1461501637330902918203684832716283019655932542976):=by omega
     have hlow:aA (p-n)↔(d 2=0∧d 3=0∧d 4=0∧d 5=0∧d 0+d 1*4294967296≤9223372036854775807):=by unfold aA;omega
     have hpos:0≤d 0+d 1*4294967296+d 2*18446744073709551616+d 3*79228162514264337593543950336+d 4*340282366920938463463374607431768211456+d 5*1461501637330902918203684832716283019655932542976:=by omega
     by_cases hin:aA (p-n)
     ·rw[if_pos hin]
      obtain⟨z2,z3,z4,z5,zz⟩:=hlow.1 hin
      have e1:p-n=d 0+d 1*4294967296:=by omega
      rw[e1]
      clear hlow hR sD e1 hlt2
      repeat' first|simp(disch:=omega) only[go_sem,z2,z3,z4,z5,Int.toNat_natCast,Int.toNat_zero,show Int.toNat 1=1 from rfl,show Int.toNat 2=2 from rfl,show Int.toNat 3=3 from rfl,show Int.toNat 4=4 from rfl,show Int.toNat 5=5 from rfl,Nat.mul_one,wrap_u64,wrap_i64]|((with_reducible refine ab ?_ ?_)<;>intro h<;>try first|omega|simp(disch:=omega) only[go_sem, *,z2,z3,z4,z5,Int.toNat_natCast,Int.toNat_zero,show Int.toNat 1=1 from rfl,show Int.toNat 2=2 from rfl,show Int.toNat 3=3 from rfl,show Int.toNat 4=4 from rfl,show Int.toNat 5=5 from rfl,Nat.mul_one,wrap_u64,wrap_i64])|(refine ah cl rfl (.inl rfl) ?_)|(refine ah cm rfl (.inl rfl) ?_)
     ·rw[if_neg hin]
      have hno: ¬(d 2=0∧d 3=0∧d 4=0∧d 5=0∧d 0+d 1*4294967296≤9223372036854775807):=fun h=>hin (hlow.2 h)
      clear hlow hR sD hlt2
      repeat' first|simp(disch:=omega) only[go_sem,Int.toNat_natCast,Int.toNat_zero,show Int.toNat 1=1 from rfl,show Int.toNat 2=2 from rfl,show Int.toNat 3=3 from rfl,show Int.toNat 4=4 from rfl,show Int.toNat 5=5 from rfl,Nat.mul_one,wrap_u64,wrap_i64]|((with_reducible refine ab ?_ ?_)<;>intro h<;>try first|omega|simp(disch:=omega) only[go_sem, *,Int.toNat_natCast,Int.toNat_zero,show Int.toNat 1=1 from rfl,show Int.toNat 2=2 from rfl,show Int.toNat 3=3 from rfl,show Int.toNat 4=4 from rfl,show Int.toNat 5=5 from rfl,Nat.mul_one,wrap_u64,wrap_i64])|(refine ah cl rfl (.inl rfl) ?_)|(refine ah cm rfl (.inl rfl) ?_)
 ·rw[rR,if_pos h1]
  repeat' first|simp(disch:=omega) only[go_sem,h1]|((with_reducible refine ab ?_ ?_)<;>intro h<;>try first|omega|simp(disch:=omega) only[go_sem, *,h1])|(refine ah (dB _ _) rfl (.inl rfl) ?_)
end Go.Proofs.YthkaaahphlneiaaGreatDoor
