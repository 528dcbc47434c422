import Derived.Test.YtigdjhnndaokjaaGreatDoorLaw
import Derived.Lib.Hide
set_option linter.unusedVariables false
set_option linter.unusedSimpArgs false
set_option maxHeartbeats 4000000
open Go.Proofs.Tryz renaming prog→Pa0
namespace Go.Proofs.YtigdjhnndaokjaaGreatDoor
noncomputable section
abbrev Fr:=Int×Int
def aS (a:Fr):Prop:=1≤a.2∧a.2≤2147483647∧ -2147483647≤a.1∧a.1≤2147483647∧Nat.gcd a.1.natAbs a.2.natAbs=1
def Gl (r:Rat):Prop:=r.num.natAbs≤2147483647∧r.den≤2147483647
instance (a:Fr):Decidable (aS a):=Classical.propDecidable _
instance (r:Rat):Decidable (Gl r):=Classical.propDecidable _
def kY (r:Rat):Fr×Int:=if Gl r then((r.num,(r.den:Int)),0)else((0,0),3)
def f7 (a:Fr):Rat:=Rat.divInt a.1 a.2
theorem Dv (n d:Int) (hd:d≠0):(Rat.divInt n d).num=(if(n<0)≠(d<0)then-((n.natAbs/Nat.gcd n.natAbs d.natAbs:Nat):Int)else((n.natAbs/Nat.gcd n.natAbs d.natAbs:Nat):Int))∧(Rat.divInt n d).den=d.natAbs/Nat.gcd n.natAbs d.natAbs:=by
 have key: ∀(m:Int) (k:Nat) (hk:k≠0),(Rat.normalize m k hk).num=(if m<0 then-((m.natAbs/Nat.gcd m.natAbs k:Nat):Int)else((m.natAbs/Nat.gcd m.natAbs k:Nat):Int))∧(Rat.normalize m k hk).den=k/Nat.gcd m.natAbs k:=by
  intro m k hk
  rw[Rat.normalize_eq hk]
  refine⟨?_,rfl⟩
  show m/_=_
  obtain⟨c,hc⟩:m.natAbs.gcd k∣m.natAbs:=Nat.gcd_dvd_left _ _
  have hg:0<m.natAbs.gcd k:=zO2 _ zR5
  generalize m.natAbs.gcd k=g at*
  rw[hc,Nat.mul_div_cancel_left _ hg]
  split
  ·have:m=(g:Int)*(-(c:Int)):=by
    have:m= -((g*c:Nat):Int):=by omega
    rw[this,zH9,zO6]
   rw[this,zO1 _ zR5]
  ·have:m=(g:Int)*(c:Int):=by
    have:m=((g*c:Nat):Int):=by omega
    rw[this,zH9]
   rw[this,zO1 _ zR5]
 cases d with
 |ofNat k=>
  have hk:k≠0:=by rintro rfl;exact hd rfl
  have e:Rat.divInt n (Int.ofNat k)=Rat.normalize n k hk:=by
   show Rat.divInt n (k:Int)=_
   rw[Rat.divInt_ofNat,mkRat,dif_neg hk]
  rw[e]
  have h:=key n k hk
  have e2:(Int.ofNat k).natAbs=k:=rfl
  rw[e2]
  refine⟨?_,h.2⟩
  rw[h.1]
  have: ¬(Int.ofNat k<0):=by simp
  simp only[this]
  by_cases hn:n<0<;>simp[hn]
 |negSucc k=>
  have e:Rat.divInt n (Int.negSucc k)=Rat.normalize (-n) k.succ (Nat.succ_ne_zero k):=rfl
  rw[e]
  have h:=key (-n) k.succ (Nat.succ_ne_zero k)
  have e2:(Int.negSucc k).natAbs=k.succ:=rfl
  rw[e2]
  rw[Int.natAbs_neg]at h
  refine⟨?_,h.2⟩
  rw[h.1]
  have:Int.negSucc k<0:=Int.negSucc_lt_zero k
  simp only[this]
  by_cases hn:n<0
  ·have: ¬(-n<0):=by omega
   rw[if_neg this]
   simp[hn]
  ·by_cases h0:n=0
   ·subst h0;simp
   ·have: -n<0:=by omega
    rw[if_pos this]
    simp[hn]
variable {a:Fr}
theorem RR (h:aS a):kY (f7 a)=(a,0):=by
 obtain⟨n,d⟩:=a
 obtain⟨h1,h2,h3,h4,h5⟩:=h
 simp only at h1 h2 h3 h4 h5
 have hd:d≠0:=by omega
 obtain⟨p1,p2⟩:=Dv n d hd
 rw[h5,Nat.div_one]at p1 p2
 have F: ¬d<0:=by omega
 have p1':(Rat.divInt n d).num=n:=by
  rw[p1];simp only[F];by_cases hn:n<0<;>simp[hn]<;>omega
 have p2':((Rat.divInt n d).den:Int)=d:=by rw[p2];omega
 have:Gl (Rat.divInt n d):=⟨by rw[p1'];omega,by omega⟩
 rw[kY,f7,if_pos this,p1',p2']
variable {r:Rat}
theorem UY (h:Gl r):aS (r.num,(r.den:Int)):=by
 obtain⟨h1,h2⟩:=h
 have:=r.den_nz
 exact⟨by simp only;omega,by simp only;omega,by simp only;omega,by simp only;omega,r.reduced⟩
theorem YS (r:Rat):f7 (r.num,(r.den:Int))=r:=Rat.num_divInt_den r
def eE (n d:Int):Fr×Int:=if d=0 then((0,0),4)else kY (Rat.divInt n d)
def tg (f:Rat→Rat→Rat) (a b:Fr):Fr×Int:=if ¬aS a∨ ¬aS b then((0,0),1)else kY (f (f7 a) (f7 b))
def kZ (a b:Fr):Fr×Int:=if ¬aS a∨ ¬aS b then((0,0),1)else if b.1=0 then((0,0),4)else kY (f7 a/f7 b)
variable {b:Fr}
theorem aa5 (ha:aS a) (hb:aS b):eE (a.1*b.2+b.1*a.2) (a.2*b.2)=kY (f7 a+f7 b):=by
 have h1:a.2≠0:=by have:=ha.1;omega
 have h2:b.2≠0:=by have:=hb.1;omega
 rw[eE,if_neg (zP2 h1 h2),f7,f7,Rat.divInt_add_divInt _ _ h1 h2]
theorem aa2 (ha:aS a) (hb:aS b):eE (a.1*b.2-b.1*a.2) (a.2*b.2)=kY (f7 a-f7 b):=by
 have h1:a.2≠0:=by have:=ha.1;omega
 have h2:b.2≠0:=by have:=hb.1;omega
 rw[eE,if_neg (zP2 h1 h2),f7,f7,Rat.divInt_sub_divInt _ _ h1 h2]
theorem aba (ha:aS a) (hb:aS b):eE (a.1*b.1) (a.2*b.2)=kY (f7 a*f7 b):=by
 have h1:a.2≠0:=by have:=ha.1;omega
 have h2:b.2≠0:=by have:=hb.1;omega
 rw[eE,if_neg (zP2 h1 h2),f7,f7,Rat.divInt_mul_divInt]
theorem abj (ha:aS a) (hb:aS b) (h:b.1≠0):eE (a.1*b.2) (a.2*b.1)=kY (f7 a/f7 b):=by
 have h1:a.2≠0:=by have:=ha.1;omega
 rw[eE,if_neg (zP2 h1 h),f7,f7,Rat.div_def,Rat.inv_divInt,Rat.divInt_mul_divInt]
theorem ZJ {v:Fr} (h:kY r=(v,0)):Gl r∧v=(r.num,(r.den:Int)):=by
 rw[kY]at h
 split at h
 ·rename_i hf
  exact⟨hf,by cases h;rfl⟩
 ·cases h
theorem WC {v:Fr} (h:kY r=(v,0)):aS v∧f7 v=r:=by
 obtain⟨h1,rfl⟩:=ZJ h
 exact⟨UY h1,YS r⟩
variable {n d:Int}
theorem CV (hd:d≠0):eE n d=if n.natAbs/Nat.gcd n.natAbs d.natAbs>2147483647∨d.natAbs/Nat.gcd n.natAbs d.natAbs>2147483647 then((0,0),3)
  else((if(n<0)≠(d<0)then-((n.natAbs/Nat.gcd n.natAbs d.natAbs:Nat):Int)else((n.natAbs/Nat.gcd n.natAbs d.natAbs:Nat):Int),((d.natAbs/Nat.gcd n.natAbs d.natAbs:Nat):Int)),0):=by
 obtain⟨h1,h2⟩:=Dv n d hd
 rw[eE,if_neg hd,kY,h1,h2]
 have e:(Rat.divInt n d).num.natAbs=n.natAbs/Nat.gcd n.natAbs d.natAbs:=by rw[h1];generalize n.natAbs/Nat.gcd n.natAbs d.natAbs=q;split<;>omega
 by_cases hf:Gl (Rat.divInt n d)
 ·obtain⟨f1,f2⟩:=id hf
  rw[e]at f1
  rw[h2]at f2
  rw[if_pos hf,if_neg (not_or.2 ⟨Nat.not_lt.2 f1,Nat.not_lt.2 f2⟩)]
 ·have hc:n.natAbs/Nat.gcd n.natAbs d.natAbs>2147483647∨d.natAbs/Nat.gcd n.natAbs d.natAbs>2147483647:=by
   by_cases h:n.natAbs/Nat.gcd n.natAbs d.natAbs>2147483647
   ·exact .inl h
   ·exact .inr (Nat.lt_of_not_le λh'=>hf ⟨by rw[e];exact zK1 h,by rw[h2];exact h'⟩)
  rw[if_neg hf,if_pos hc]
theorem eR {x y:Int} (hx: -2147483647≤x∧x≤2147483647) (hy: -2147483647≤y∧y≤2147483647): -4611686014132420609≤x*y∧x*y≤4611686014132420609:=by
 have h1:x.natAbs*y.natAbs≤2147483647*2147483647:=zQ1 zR5 zR5
 rw[←zQ0]at h1
 omega
def jb (a b:Fr):Fr×Int:=tg (· + ·) a b
def kf (a b:Fr):Fr×Int:=tg (· - ·) a b
def iU (a b:Fr):Fr×Int:=tg (· * ·) a b
theorem LS (ha:aS a) (hb:aS b):jb a b=eE (a.1*b.2+b.1*a.2) (a.2*b.2):=by
 rw[aa5 ha hb,jb,tg,if_neg Go.Abs.zV3]
theorem RQ (ha:aS a) (hb:aS b):kf a b=eE (a.1*b.2-b.1*a.2) (a.2*b.2):=by
 rw[aa2 ha hb,kf,tg,if_neg Go.Abs.zV3]
theorem K5 (ha:aS a) (hb:aS b):iU a b=eE (a.1*b.1) (a.2*b.2):=by
 rw[aba ha hb,iU,tg,if_neg Go.Abs.zV3]
theorem R5 (ha:aS a) (hb:aS b):kZ a b=eE (a.1*b.2) (a.2*b.1):=by
 rw[kZ,if_neg Go.Abs.zV3]
 by_cases h:b.1=0
 ·rw[if_pos h,eE,if_pos (by rw[h,Int.mul_zero])]
 ·rw[if_neg h,abj ha hb h]
theorem nK {f:Rat→Rat→Rat} (h: ¬aS a∨ ¬aS b):tg f a b=((0,0),1):=by rw[tg,if_pos h]
theorem Ab (h: ¬aS a∨ ¬aS b):kZ a b=((0,0),1):=by rw[kZ,if_pos h]
def Hq (a b:Int):Int:=if a<b then-1 else if a>b then 1 else 0
def dY (a b:Fr):Int:=if aS a∧aS b then Hq (a.1*b.2) (b.1*a.2)else if Hq a.1 b.1≠0 then Hq a.1 b.1 else Hq a.2 b.2
def fM (a:Fr):Fr:=if aS a then(-a.1,a.2)else(0,0)
def bD (a:Fr):Prop:=aH a.1∧aH a.2
theorem ff (h:aS a):bD a:=by
 obtain⟨h1,h2,h3,h4,_⟩:=h
 exact⟨by unfold aH;omega,by unfold aH;omega⟩
theorem Mt (ha:aS a) (hb:aS b) (h:dY a b=0):a=b:=by
 rw[dY,if_pos ⟨ha,hb⟩,Hq]at h
 have e:a.1*b.2=b.1*a.2:=by
  split at h
  ·cases h
  ·split at h
   ·cases h
   ·omega
 have h1:a.2≠0:=by have:=ha.1;omega
 have h2:b.2≠0:=by have:=hb.1;omega
 have h3:f7 a=f7 b:=(Rat.divInt_eq_divInt_iff h1 h2).2 e
 have k1:=RR ha
 rw[h3,RR hb]at k1
 exact(Prod.mk.inj k1).1.symm
set_option maxRecDepth 1000000
open Go.Abs Go.RowKit
def Ea:List ByteArray:= [⟨⟨[115,105,122,101]⟩⟩,⟨⟨[119,104,101,114,101]⟩⟩,⟨⟨[105,110]⟩⟩,⟨⟨[100,101,102]⟩⟩,⟨⟨[111,117,116]⟩⟩,⟨⟨[115,117,109]⟩⟩,⟨⟨[112,114,111,100]⟩⟩,⟨⟨[109,105,110]⟩⟩,⟨⟨[109,97,120]⟩⟩,⟨⟨[115,99,97,110]⟩⟩,⟨⟨[111,118,101,114]⟩⟩,⟨⟨[105,102]⟩⟩,⟨⟨[99,97,115,116]⟩⟩,⟨⟨[102,114,97,99]⟩⟩,⟨⟨[105,110,116]⟩⟩,⟨⟨[102,105,120]⟩⟩,⟨⟨[99,101,105,108]⟩⟩,⟨⟨[102,108,111,111,114]⟩⟩,⟨⟨[122,101,114,111]⟩⟩,⟨⟨[101,118,101,110]⟩⟩,⟨⟨[115,97,116]⟩⟩,⟨⟨[119,114,97,112]⟩⟩]
theorem L6:ac Pa0 uO [] (DW Ea):=by
 refine ac.of NO zR6 λ_=>aa ?_
 conv in DX=>cbv
 repeat' first|simp(disch:=omega)only[go_sem, *]|apply ab<;>intro h<;>try omega
 rfl
theorem kI (xs:List ByteArray) (s:ByteArray):ac Pa0 Cx [DW xs,S s] (Go.Abs.B (decide (s∈xs))):=by
 refine ac.of RK zR6 λhb=>aa ?_
 have hx:xs.length≤9223372036854775807:=by simpa[f6,fB,f5]using hb.1
 conv in MQ=>cbv
 repeat' first|simp(disch:=omega)only[go_sem, *]|apply ab<;>intro h<;>try omega
 refine al (λk:Nat=>⟨[(5,I k),(0,DW xs),(1,S s)], [],0,0⟩) (λk=>k≤xs.length∧ ∀j (h:j<xs.length),j<k→xs[j]≠s) (λk=>xs.length-k) ⟨0, [],⟨by omega,λj h h'=>by omega⟩,by simp⟩ ?_
 rintro k ⟨hk,p⟩
 refine aa ?_
 by_cases o:k<xs.length
 ·repeat' first|simp(disch:=omega)only[go_sem, *,ae o,zE1,wrap_i64]|apply ab<;>intro h<;>try omega
  ·have:s∈xs:=by subst h;exact zA6 o
   simp[this]
  ·refine⟨k+1, [],⟨by omega,λj hj T=> ?_⟩,by omega,by simp⟩
   by_cases e:j=k
   ·subst e;exact h
   ·exact p j hj zR5
 ·repeat' first|simp(disch:=omega)only[go_sem, *]|apply ab<;>intro h<;>try omega
  have: ¬s∈xs:= λhm=>by
   obtain⟨j,hj,e⟩:=zC2.1 hm
   exact p j hj zR5 e
  simp[this]
theorem F3 (s:ByteArray):ac Pa0 pJ [S s] (Go.Abs.B (decide (s∈Ea))):=by
 refine ac.of IK zR6 λ_=>aa ?_
 conv in zr=>cbv
 repeat' first|simp(disch:=omega)only[go_sem, *]|apply ab<;>intro h<;>try omega
 all_goals simp[Ea, *]
set_option maxRecDepth 20000
set_option maxRecDepth 1000000
def Ae (i:Nat) (c:UInt8):Prop:=(97≤c.toNat∧c.toNat≤122)∨(0<i∧((48≤c.toNat∧c.toNat≤57)∨c.toNat=95))
instance (i:Nat) (c:UInt8):Decidable (Ae i c):=by unfold Ae;infer_instance
def oE (s:ByteArray):Prop:=1≤s.size∧s.size≤16∧ ¬s∈Ea∧ ∀i (h:i<s.size),Ae i s[i]
instance (s:ByteArray):Decidable (oE s):=Classical.propDecidable _
theorem jd (s:ByteArray):ac Pa0 zF [S s] (Go.Abs.B (decide (oE s))):=by
 refine ac.of Rj zR6 λhb=>aa ?_
 conv in GG=>cbv
 repeat' first|simp(disch:=omega)only[go_sem, *]|apply ab<;>intro h<;>try omega|refine dH L6 ?_|refine ak (kI _ _) ?_
 ·rw[zA9];rintro⟨h1,_⟩;omega
 ·rw[zA9];rintro⟨_,h1,_⟩;omega
 ·rw[zA9];rintro⟨_,_,h1,_⟩;exact h1 h
 ·refine al (λk:Nat=>⟨[(3,I k),(0,S s)], [],0,0⟩) (λk=>k≤s.size∧ct (λj=> ∀h:j<s.size,Ae j s[j]) k) (λk=>s.size-k) ⟨0, [],⟨by omega,.zero⟩,by simp⟩ ?_
  rintro k ⟨hk,p⟩
  refine aa ?_
  by_cases o:k<s.size
  ·repeat' first|simp(disch:=omega)only[go_sem, *,getElem?_pos s k o,wrap_i64]|apply ab<;>intro h<;>try omega
   all_goals first
    |(refine⟨k+1, [],⟨by omega,p.succ λ_=> ?_⟩,by omega,by simp⟩;unfold Ae;omega)
    |(rw[zA9];rintro⟨_,_,_,h4⟩;have:=h4 k o;unfold Ae at this;omega)
  ·repeat' first|simp(disch:=omega)only[go_sem, *]|apply ab<;>intro h<;>try omega
   rw[zB1]
   exact⟨by omega,by omega,‹_›,λi hi=>p i zR5 hi⟩
theorem ph (s:ByteArray):ac Pa0 me [S s] (Go.Abs.B (decide (oE s))):=by
 refine ac.of EF zR6 λhb=>aa ?_
 conv in um=>cbv
 by_cases h0:s.size<1
 ·repeat' first|simp(disch:=omega)only[go_sem, *]|apply ab<;>intro h<;>try omega
  rw[zA9];rintro⟨h1,_⟩;omega
 have C:0<s.size:=by omega
 repeat' first|simp(disch:=omega)only[go_sem, *,getElem?_pos s 0 C,zB3]|apply ab<;>intro h<;>try omega|refine ak (F3 _) ?_
 ·rw[zA9];rintro⟨_,h1,_⟩;omega
 ·rw[zA9];rintro⟨_,_,h1,_⟩;exact h1 h
 ·rw[zA9];rintro⟨_,_,_,h4⟩;have:=h4 0 C;unfold Ae at this;omega
 ·rw[zA9];rintro⟨_,_,_,h4⟩;have:=h4 0 C;unfold Ae at this;omega
 ·refine al (λk:Nat=>⟨[(29,I k),(28,I s.size),(0,S s)], [],0,0⟩) (λk=>k≤s.size∧ct (λj=> ∀h:j<s.size,Ae (j+1) s[j]) k) (λk=>s.size-k) ⟨0, [],⟨by omega,.zero⟩,by simp⟩ ?_
  rintro k ⟨hk,p⟩
  refine aa ?_
  by_cases o:k<s.size
  ·repeat' first|simp(disch:=omega)only[go_sem, *,getElem?_pos s k o,wrap_i64]|apply ab<;>intro h<;>try omega
   all_goals first
    |(refine⟨k+1, [],⟨by omega,p.succ λ_=> ?_⟩,by omega,by simp⟩;unfold Ae;omega)
    |(rw[zA9];rintro⟨_,_,_,h4⟩;have:=h4 k o;unfold Ae at this;omega)
  ·repeat' first|simp(disch:=omega)only[go_sem, *]|apply ab<;>intro h<;>try omega
   rw[zB1]
   refine⟨by omega,by omega,‹_›,λi hi=> ?_⟩
   have h5:=p i zR5 hi
   by_cases e:i=0
   ·subst e;unfold Ae;omega
   ·unfold Ae at h5 ⊢;omega
abbrev aG:=ByteArray×Int
def mP (m:aG):List PC:= [pS m.1,pI m.2]
abbrev bQ (l:List aG):PC:=dp mP l
abbrev iB:=Int×List aG
abbrev MZ:=iB×Bool
abbrev iK (k:Int) (l:List aG):AV:= .agg [.pure (pI k),.pure (bQ l)]
def SL (a b:ByteArray):Bool:=Op.bytesLess a.toList b.toList
def UN (l:List aG) (i:Nat):Prop:= ∀h:i<l.length,oE l[i].1∧l[i].2≠0∧(0<i→SL l[i-1].1 l[i].1=true)
def gN (l:List aG):Prop:=ct (UN l) l.length
instance (l:List aG):Decidable (gN l):=Classical.propDecidable _
theorem vZ {k:Int} {l:List aG} (h:fB (iK k l)):l.length≤9223372036854775807:=by simpa[fB,om,f5]using h
set_option maxRecDepth 20000 in
theorem fl (c:Int) (l:List aG):ac Pa0 wH [iK c l] (Go.Abs.B (decide (gN l))):=by
 refine ac.of Fy zR6 λhb=>aa ?_
 have hl:=vZ hb.1
 simp only[wG]
 repeat' first|simp(disch:=omega)only[go_sem, *]|apply ab<;>intro h<;>try omega
 refine al (λk:Nat=>⟨[(3,I k),(1,.c (.ptr 0 0))], [(0,.var [.pure (pI c),.pure (bQ l)])],1,0⟩) (λk=>k≤l.length∧ct (UN l) k) (λk=>l.length-k) ⟨0, [],⟨by omega,.zero⟩,by simp⟩ ?_
 rintro k ⟨hk,p⟩
 refine aa ?_
 by_cases o:k<l.length
 ·by_cases h0:0<k
  ·have D:k-1<l.length:=by omega
   have e1:((k:Int)-1).toNat=k-1:=by omega
   repeat' first|simp(disch:=omega)only[go_sem, *,zL4,zK9,ae o,ae D,mP,wrap_i64,e1]|apply ab<;>intro h<;>try omega|refine ak (jd _) ?_
   ·rw[zA9]
    intro hc
    exact(hc k o o).2.1 h
   ·refine⟨k+1, [],⟨by omega,p.succ λ_=>⟨‹_›,‹_›,λ_=>h⟩⟩,by omega,by simp⟩
   ·rw[zA9]
    intro hc
    have:=(hc k o o).2.2 h0
    rw[SL,h]at this
    cases this
   ·rw[zA9]
    intro hc
    exact h (hc k o o).1
  ·repeat' first|simp(disch:=omega)only[go_sem, *,zL4,zK9,ae o,mP,wrap_i64]|apply ab<;>intro h<;>try omega|refine ak (jd _) ?_
   ·rw[zA9]
    intro hc
    exact(hc k o o).2.1 h
   ·refine⟨k+1, [],⟨by omega,p.succ λ_=>⟨‹_›,‹_›,λ_=>by omega⟩⟩,by omega,by simp⟩
   ·rw[zA9]
    intro hc
    exact h (hc k o o).1
 ·repeat' first|simp(disch:=omega)only[go_sem, *,zL4,zK9]|apply ab<;>intro h<;>try omega
  rw[zB1]
  have:k=l.length:=by omega
  rw[this]at p
  exact p
theorem jS (c:Int) (l:List aG):ac Pa0 mn [iK c l] (I (if gN l then 0 else 1)):=by
 refine ac.of Ee zR6 λhb=>aa ?_
 conv in up=>cbv
 repeat' first|simp(disch:=omega)only[go_sem, *,↓zK9,↓zN5,↓zM6]|apply ab<;>intro h<;>try omega|refine ak (fl c l) ?_
 all_goals simp[*]
set_option maxRecDepth 20000 in
theorem cw (c:Int) (l:List aG):ac Pa0 qL [iK c l] (I (if gN l then 0 else 1)):=by
 refine ac.of Hr zR6 λhb=>aa ?_
 have hl:=vZ hb.1
 conv in yj=>cbv
 repeat' first|simp(disch:=omega)only[go_sem, *,zL4,zK9]|apply ab<;>intro h<;>try omega
 refine al (λk:Nat=>⟨[(8,I k),(7,I l.length),(6,.c (.pure (bQ l))),(1,.c (.ptr 0 0))], [(0,.var [.pure (pI c),.pure (bQ l)])],1,0⟩) (λk=>k≤l.length∧ct (UN l) k) (λk=>l.length-k) ⟨0, [],⟨by omega,.zero⟩,by simp⟩ ?_
 rintro k ⟨hk,p⟩
 refine aa ?_
 by_cases o:k<l.length
 ·by_cases h0:0<k
  ·have D:k-1<l.length:=by omega
   have e1:((k:Int)-1).toNat=k-1:=by omega
   repeat' first|simp(disch:=omega)only[go_sem, *,zL4,zK9,zN5,zM6,ae o,ae D,mP,wrap_i64,e1]|apply ab<;>intro h<;>try omega|refine ak (ph _) ?_
   ·rw[if_neg λhc=>(hc k o o).2.1 h]
   ·refine⟨k+1, [],⟨by omega,p.succ λ_=>⟨‹_›,‹_›,λ_=>h⟩⟩,by omega,by simp⟩
   ·rw[if_neg λhc=> ?_]
    have:=(hc k o o).2.2 h0
    rw[SL,h]at this
    cases this
   ·rw[if_neg λhc=>h (hc k o o).1]
  ·repeat' first|simp(disch:=omega)only[go_sem, *,ae o,mP,wrap_i64]|apply ab<;>intro h<;>try omega|refine ak (ph _) ?_
   ·rw[if_neg λhc=>(hc k o o).2.1 h]
   ·refine⟨k+1, [],⟨by omega,p.succ λ_=>⟨‹_›,‹_›,λ_=>by omega⟩⟩,by omega,by simp⟩
   ·rw[if_neg λhc=>h (hc k o o).1]
 ·repeat' first|simp(disch:=omega)only[go_sem, *]|apply ab<;>intro h<;>try omega
  rw[if_pos]
  have:k=l.length:=by omega
  rw[this]at p
  exact p
set_option maxRecDepth 20000
set_option maxRecDepth 1000000
variable {y:AV}{bytes:Nat}{rows:List (List PC)}{σ:St}{K:vJ (AV→St→Prop)}
theorem no {e sz:Nat} {ys:List (List PC)} (h0:dO sz rows) (E:dO sz ys) (h1:(rows.length+ys.length)*bytes≤140737488355328) (h2:rows.length+ys.length≤140737488355328)
  (hk:K.out (.c (.pure (.slice (rows++ys)))) σ): @Nn e sz bytes (.c (.tsl rows)) y ys σ K:=⟨E,.inr (.inr ⟨rows,rfl,h0,.inr (.inl ⟨h1,h2,hk⟩)⟩)⟩
theorem jn {e sz:Nat} (h0:dO sz rows) (hk:K.out (.c (.tsl rows)) σ): @Nn e sz bytes (.c (.tsl rows)) y [] σ K:=⟨(by intro r hr;cases hr),.inr (.inr ⟨rows,rfl,h0,.inr (.inr ⟨rfl,hk⟩)⟩)⟩
theorem gO {e sz:Nat} {ys:List (List PC)} (h0:dO sz rows) (E:dO sz ys) (G:ys≠ []) (h1:(rows.length+ys.length)*bytes≤140737488355328) (h2:rows.length+ys.length≤140737488355328)
  (hk:K.out (.c (.ref σ.nx)) {σ with mem:=(σ.nx,.arr e sz (rows++ys))::σ.mem,nx:=σ.nx+1}): @Nn e sz bytes (.c (.tsl rows)) y ys σ K:=⟨E,.inr (.inr ⟨rows,rfl,h0,.inl ⟨G,h1,h2,hk⟩⟩)⟩
def cP (c:MZ):List PC:= [pI c.1.1,bQ c.1.2,pB c.2]
abbrev W7 (c:MZ):AV:= .agg [.pure (pI c.1.1),.pure (bQ c.1.2),.pure (pB c.2)]
abbrev aew (l:List MZ):AV:=bF cP l
theorem uk (c:MZ):ac Pa0 gM [W7 c] (I (if gN c.1.2 then 0 else 1)):=by
 refine ac.of uT zR6 λ_=>aa ?_
 conv in lD=>cbv
 repeat' first|simp(disch:=omega)only[go_sem, *]|apply ab<;>intro h<;>try omega|refine ak (cw _ _) ?_
set_option maxRecDepth 20000
set_option maxRecDepth 1000000
abbrev eX (a:Fr):AV:= .agg [.pure (pI a.1),.pure (pI a.2)]
abbrev gh (x:Fr×Int):AV:= .tup [eX x.1,I x.2]
theorem KP (x y:Nat):Int.tmod (x:Int) (y:Int)=((x%y:Nat):Int):=(zQ2 x y).symm
theorem C1 (x y:Nat):Int.tdiv (x:Int) (y:Int)=((x/y:Nat):Int):=(Int.ofNat_tdiv x y).symm
theorem Dk (a b:Nat):ac Pa0 Cj [U a,U b] (U (Nat.gcd a b)):=by
 refine ac.of Sq zR6 λ_=>aa ?_
 obtain⟨R,hR⟩: ∃R,R=Nat.gcd a b:=⟨_,rfl⟩
 rw[←hR]
 conv in Mu=>cbv
 repeat' first|simp(disch:=omega)only[go_sem, *]|apply ab<;>intro h<;>try omega
 refine al (λs:Nat×Nat=>⟨[(0,U s.1),(1,U s.2)], [],0,0⟩) (λs=>Hid (R=Nat.gcd s.1 s.2)) (λs=>s.2) ⟨(a,b), [],Lib.hid hR,by simp⟩ ?_
 clear hR
 rintro⟨x,y⟩ HR
 refine aa ?_
 by_cases h0:y=0
 ·have h1:=HR.out
  simp only[h0,zQ6]at h1
  subst h0
  subst h1
  exact yA6
 ·have h1:(y:Int)≠0:=by omega
  repeat' first|simp(disch:=omega)only[go_sem, *,h1,ne_eq,KP]|apply ab<;>intro h<;>try omega
  exact⟨(y,x%y), [],Lib.hid zT3,zI3 _ zR5,by simp⟩
theorem jN (hn:aH n):ac Pa0 l8 [I n] (U n.natAbs):=by
 refine ac.of Dh zR6 λ_=>aa ?_
 obtain⟨h1,h2⟩:=hn
 conv in uw=>cbv
 by_cases h0:n<0
 ·have e1:IntKind.wrap .u64 n=n+18446744073709551616:=by rw[IntKind.wrap_u64];omega
  have e2:IntKind.wrap .u64 (0-(n+18446744073709551616))=n.natAbs:=by rw[IntKind.wrap_u64];omega
  exact yE6
 ·have e2:IntKind.wrap .u64 n=n.natAbs:=by rw[IntKind.wrap_u64];omega
  exact yA8
theorem tM (n:Int):ac Pa0 qO [I n] (Go.Abs.B (decide (-2147483647≤n∧n≤2147483647))):=by
 refine ac.of I1 zR6 λ_=>aa ?_
 conv in xC=>cbv
 repeat' first|simp(disch:=omega)only[go_sem, *]|apply ab<;>intro h<;>try omega
 all_goals(simp<;>omega)
theorem bn (ha:bD a):ac Pa0 vm [eX a] (Go.Abs.B (decide (aS a))):=by
 refine ac.of Nq zR6 λ_=>aa ?_
 obtain⟨n,d⟩:=a
 have p1:=jN ha.1
 have p2:=Dk n.natAbs d.natAbs
 simp only at p1
 conv in CT=>cbv
 by_cases h1:1≤d
 ·by_cases h2:d≤2147483647
  ·have e:IntKind.wrap .u64 d=d.natAbs:=by rw[IntKind.wrap_u64];omega
   by_cases h3: -2147483647≤n∧n≤2147483647
   ·repeat' first|simp(disch:=omega)only[go_sem, *,e,h3]|apply ab<;>intro h<;>try omega|refine ak (tM _) ?_|refine ak p1 ?_|refine ak p2 ?_
    rw[show decide (((n.natAbs.gcd d.natAbs:Nat):Int)=1)=decide (aS (n,d)) by rw[zF2];simp only[aS];omega]
   ·repeat' first|simp(disch:=omega)only[go_sem, *,e,h3]|apply ab<;>intro h<;>try omega|refine ak (tM _) ?_|refine ak p1 ?_|refine ak p2 ?_
    rw[zA9]
    simp only[aS]
    omega
  ·repeat' first|simp(disch:=omega)only[go_sem, *]|apply ab<;>intro h<;>try omega
   rw[zA9]
   simp only[aS]
   omega
 ·repeat' first|simp(disch:=omega)only[go_sem, *]|apply ab<;>intro h<;>try omega
  rw[zA9]
  simp only[aS]
  omega
theorem lb (hn:aH n) (hd:aH d):ac Pa0 Cy [I n,I d] (gh (eE n d)):=by
 refine ac.of RD zR6 λ_=>aa ?_
 have p1:=jN hn
 have p2:=jN hd
 have p3:=Dk n.natAbs d.natAbs
 conv in Mi=>cbv
 by_cases h0:d=0
 ·rw[eE,if_pos h0]
  exact zW0
 have e:=CV (n:=n) h0
 rw[e]
 have g0:((Nat.gcd n.natAbs d.natAbs:Nat):Int)≠0:=by
  have:0<Nat.gcd n.natAbs d.natAbs:=zO2 _ zR5
  omega
 have b1:n.natAbs/Nat.gcd n.natAbs d.natAbs≤n.natAbs:=zH8 _ _
 have b2:d.natAbs/Nat.gcd n.natAbs d.natAbs≤d.natAbs:=zH8 _ _
 have d1:=C1 n.natAbs (Nat.gcd n.natAbs d.natAbs)
 have d2:=C1 d.natAbs (Nat.gcd n.natAbs d.natAbs)
 clear e
 generalize Nat.gcd n.natAbs d.natAbs=g at*
 generalize n.natAbs/g=q1 at*
 generalize d.natAbs/g=q2 at*
 obtain⟨H,J⟩:=hn
 obtain⟨L,M⟩:=hd
 repeat' first|simp(disch:=omega)only[go_sem, *,g0,ne_eq,d1,d2,wrap_u64,wrap_i64]|apply ab<;>intro h<;>try omega|refine ak p1 ?_|refine ak p2 ?_|refine ak p3 ?_
 all_goals first
  |(rw[if_pos zR5];done)
  |(rw[if_neg zR5];by_cases V:n<0<;>by_cases F:d<0<;>simp_all<;>omega)
theorem oN (ha:bD a) (hb:bD b):ac Pa0 B4 [eX a,eX b] (gh (jb a b)):=by
 refine ac.of SI zR6 λ_=>aa ?_
 obtain⟨n,d⟩:=a
 obtain⟨m,k⟩:=b
 have p1:=bn ha
 have p2:=bn hb
 conv in Mg=>cbv
 by_cases oa:aS (n,d)
 ·by_cases ob:aS (m,k)
  ·rw[LS oa ob]
   obtain⟨o1,o2,o3,o4,_⟩:=id oa
   obtain⟨r1,r2,r3,r4,_⟩:=id ob
   simp only at o1 o2 o3 o4 r1 r2 r3 r4
   have q1:=eR (x:=n) (y:=k) zR5 zR5
   have q2:=eR (x:=m) (y:=d) zR5 zR5
   have q3:=eR (x:=d) (y:=k) zR5 zR5
   have q4:=eR (x:=n) (y:=m) zR5 zR5
   have q5:=eR (x:=d) (y:=m) zR5 zR5
   have p3:=lb (n:=n*k+m*d) (d:=d*k) zS5 zS5
   simp only[oa,decide_true]at p1
   simp only[ob,decide_true]at p2
   simp only
   generalize t:n*k=x1 at*
   generalize u:m*d=x2 at*
   generalize w:d*k=x3 at*
   generalize z:n*m=x4 at*
   generalize A:d*m=x5 at*
   exact zW4
  ·rw[jb,nK (.inr ob)]
   simp only[oa,decide_true]at p1
   simp only[ob,decide_false]at p2
   exact zW2
 ·rw[jb,nK (.inl oa)]
  simp only[oa,decide_false]at p1
  exact zW2
theorem oR (ha:bD a) (hb:bD b):ac Pa0 CA [eX a,eX b] (gh (kf a b)):=by
 refine ac.of S8 zR6 λ_=>aa ?_
 obtain⟨n,d⟩:=a
 obtain⟨m,k⟩:=b
 have p1:=bn ha
 have p2:=bn hb
 conv in MO=>cbv
 by_cases oa:aS (n,d)
 ·by_cases ob:aS (m,k)
  ·rw[RQ oa ob]
   obtain⟨o1,o2,o3,o4,_⟩:=id oa
   obtain⟨r1,r2,r3,r4,_⟩:=id ob
   simp only at o1 o2 o3 o4 r1 r2 r3 r4
   have q1:=eR (x:=n) (y:=k) zR5 zR5
   have q2:=eR (x:=m) (y:=d) zR5 zR5
   have q3:=eR (x:=d) (y:=k) zR5 zR5
   have q4:=eR (x:=n) (y:=m) zR5 zR5
   have q5:=eR (x:=d) (y:=m) zR5 zR5
   have p3:=lb (n:=n*k-m*d) (d:=d*k) zS5 zS5
   simp only[oa,decide_true]at p1
   simp only[ob,decide_true]at p2
   simp only
   generalize t:n*k=x1 at*
   generalize u:m*d=x2 at*
   generalize w:d*k=x3 at*
   generalize z:n*m=x4 at*
   generalize A:d*m=x5 at*
   exact zW4
  ·rw[kf,nK (.inr ob)]
   simp only[oa,decide_true]at p1
   simp only[ob,decide_false]at p2
   exact zW2
 ·rw[kf,nK (.inl oa)]
  simp only[oa,decide_false]at p1
  exact zW2
theorem li (ha:bD a) (hb:bD b):ac Pa0 CJ [eX a,eX b] (gh (iU a b)):=by
 refine ac.of Sa zR6 λ_=>aa ?_
 obtain⟨n,d⟩:=a
 obtain⟨m,k⟩:=b
 have p1:=bn ha
 have p2:=bn hb
 conv in LF=>cbv
 by_cases oa:aS (n,d)
 ·by_cases ob:aS (m,k)
  ·rw[K5 oa ob]
   obtain⟨o1,o2,o3,o4,_⟩:=id oa
   obtain⟨r1,r2,r3,r4,_⟩:=id ob
   simp only at o1 o2 o3 o4 r1 r2 r3 r4
   have q1:=eR (x:=n) (y:=k) zR5 zR5
   have q2:=eR (x:=m) (y:=d) zR5 zR5
   have q3:=eR (x:=d) (y:=k) zR5 zR5
   have q4:=eR (x:=n) (y:=m) zR5 zR5
   have q5:=eR (x:=d) (y:=m) zR5 zR5
   have p3:=lb (n:=n*m) (d:=d*k) zS5 zS5
   simp only[oa,decide_true]at p1
   simp only[ob,decide_true]at p2
   simp only
   generalize t:n*k=x1 at*
   generalize u:m*d=x2 at*
   generalize w:d*k=x3 at*
   generalize z:n*m=x4 at*
   generalize A:d*m=x5 at*
   exact zW4
  ·rw[iU,nK (.inr ob)]
   simp only[oa,decide_true]at p1
   simp only[ob,decide_false]at p2
   exact zW2
 ·rw[iU,nK (.inl oa)]
  simp only[oa,decide_false]at p1
  exact zW2
theorem vz (ha:bD a) (hb:bD b):ac Pa0 Cs [eX a,eX b] (gh (kZ a b)):=by
 refine ac.of Ry zR6 λ_=>aa ?_
 obtain⟨n,d⟩:=a
 obtain⟨m,k⟩:=b
 have p1:=bn ha
 have p2:=bn hb
 conv in JB=>cbv
 by_cases oa:aS (n,d)
 ·by_cases ob:aS (m,k)
  ·rw[R5 oa ob]
   obtain⟨o1,o2,o3,o4,_⟩:=id oa
   obtain⟨r1,r2,r3,r4,_⟩:=id ob
   simp only at o1 o2 o3 o4 r1 r2 r3 r4
   have q1:=eR (x:=n) (y:=k) zR5 zR5
   have q2:=eR (x:=m) (y:=d) zR5 zR5
   have q3:=eR (x:=d) (y:=k) zR5 zR5
   have q4:=eR (x:=n) (y:=m) zR5 zR5
   have q5:=eR (x:=d) (y:=m) zR5 zR5
   have p3:=lb (n:=n*k) (d:=d*m) zS5 zS5
   simp only[oa,decide_true]at p1
   simp only[ob,decide_true]at p2
   simp only
   generalize t:n*k=x1 at*
   generalize u:m*d=x2 at*
   generalize w:d*k=x3 at*
   generalize z:n*m=x4 at*
   generalize A:d*m=x5 at*
   exact zW4
  ·rw[Ab (.inr ob)]
   simp only[oa,decide_true]at p1
   simp only[ob,decide_false]at p2
   exact zW2
 ·rw[Ab (.inl oa)]
  simp only[oa,decide_false]at p1
  exact zW2
set_option maxRecDepth 20000
set_option maxRecDepth 1000000
theorem LB (a b:Int):ac Pa0 vT [I a,I b] (I (Hq a b)):=by
 refine ac.of Nz zR6 λ_=>aa ?_
 conv in Fl=>cbv
 repeat' first|simp(disch:=omega)only[go_sem, *]|apply ab<;>intro h<;>try omega
 all_goals simp[Hq, *]
theorem Id (a b:Int):ac Pa0 sd [I a,I b] (I (Hq a b)):=by
 refine ac.of Ku zR6 λ_=>aa ?_
 conv in Bt=>cbv
 repeat' first|simp(disch:=omega)only[go_sem, *]|apply ab<;>intro h<;>try omega
 all_goals simp[Hq, *]
theorem Qr (ha:bD a):ac Pa0 CH [eX a] (eX (fM a)):=by
 refine ac.of Tk zR6 λ_=>aa ?_
 obtain⟨n,d⟩:=a
 have p1:=bn ha
 conv in Jy=>cbv
 by_cases oa:aS (n,d)
 ·rw[fM,if_pos oa]
  obtain⟨o1,o2,o3,o4,_⟩:=id oa
  simp only at o1 o2 o3 o4
  simp only[oa,decide_true]at p1
  exact yC3
 ·rw[fM,if_neg oa]
  simp only[oa,decide_false]at p1
  exact zX0
abbrev rz:AV:= .agg [.pure (pI 1),.pure (pI 0),.pure (pI 0),.pure (pI 0),.pure (pI 0)]
theorem D0 (a b:Nat):ac Pa0 Ch [I a,I b] (I (Nat.gcd a b)):=by
 refine ac.of RX zR6 λ_=>aa ?_
 obtain⟨R,hR⟩: ∃R,R=Nat.gcd a b:=⟨_,rfl⟩
 rw[←hR]
 conv in KH=>cbv
 repeat' first|simp(disch:=omega)only[go_sem, *]|apply ab<;>intro h<;>try omega
 refine al (λs:Nat×Nat=>⟨[(0,I s.1),(1,I s.2)], [],0,0⟩) (λs=>Hid (R=Nat.gcd s.1 s.2)) (λs=>s.2) ⟨(a,b), [],Lib.hid hR,by simp⟩ ?_
 clear hR
 rintro⟨x,y⟩ HR
 refine aa ?_
 by_cases h0:y=0
 ·have h1:=HR.out
  simp only[h0,zQ6]at h1
  subst h0
  subst h1
  exact yA6
 ·have h1:(y:Int)≠0:=by omega
  repeat' first|simp(disch:=omega)only[go_sem, *,h1,ne_eq,KP]|apply ab<;>intro h<;>try omega
  exact⟨(y,x%y), [],Lib.hid zT3,zI3 _ zR5,by simp⟩
theorem NT (a b:Nat):ac Pa0 zi [U a,U b] (U (Nat.gcd a b)):=by
 refine ac.of QR zR6 λ_=>aa ?_
 obtain⟨R,hR⟩: ∃R,R=Nat.gcd a b:=⟨_,rfl⟩
 rw[←hR]
 conv in Gw=>cbv
 repeat' first|simp(disch:=omega)only[go_sem, *]|apply ab<;>intro h<;>try omega
 refine al (λs:Nat×Nat=>⟨[(1,U s.2),(0,U s.1)], [],0,0⟩) (λs=>Hid (R=Nat.gcd s.1 s.2)) (λs=>s.2) ⟨(a,b), [],Lib.hid hR,by simp⟩ ?_
 clear hR
 rintro⟨x,y⟩ HR
 refine aa ?_
 by_cases h0:y=0
 ·have h1:=HR.out
  simp only[h0,zQ6]at h1
  subst h0
  subst h1
  exact yA6
 ·have h1:(y:Int)≠0:=by omega
  repeat' first|simp(disch:=omega)only[go_sem, *,h1,ne_eq,KP]|apply ab<;>intro h<;>try omega
  exact⟨(y,x%y), [],Lib.hid zT3,zI3 _ zR5,by simp⟩
theorem oD (ha:bD a):ac Pa0 vN [rz,eX a] (Go.Abs.B (decide (aS a))):=by
 refine ac.of G7 zR6 λ_=>aa ?_
 obtain⟨n,d⟩:=a
 obtain⟨⟨N,O⟩,P,Q⟩:=ha
 simp only at N O P Q
 conv in B3=>cbv
 by_cases h1:1≤d
 ·by_cases h2:d≤2147483647
  ·by_cases h3: -2147483647≤n∧n≤2147483647
   ·have e:max n (0-n)=(n.natAbs:Int):=by omega
    have e2:d=(d.natAbs:Int):=by omega
    have p2:=D0 n.natAbs d.natAbs
    rw[←e2]at p2
    clear e2
    repeat' first|simp(disch:=omega)only[go_sem, *,e,wrap_i64,↓reduceIte]|apply ab<;>intro h<;>try omega|refine ak p2 ?_
    rw[show decide (((n.natAbs.gcd d.natAbs:Nat):Int)=1)=decide (aS (n,d)) by rw[zF2];simp only[aS];omega]
   ·repeat' first|simp(disch:=omega)only[go_sem, *]|apply ab<;>intro h<;>try omega
    all_goals(rw[zA9];simp only[aS];omega)
  ·repeat' first|simp(disch:=omega)only[go_sem, *]|apply ab<;>intro h<;>try omega
   all_goals(rw[zA9];simp only[aS];omega)
 ·repeat' first|simp(disch:=omega)only[go_sem, *]|apply ab<;>intro h<;>try omega
  all_goals(rw[zA9];simp only[aS];omega)
theorem ji:ac Pa0 ro [rz] (Go.Abs.B true):=by
 refine ac.of EV zR6 λ_=>aa ?_
 conv in zu=>cbv
 exact zW0
theorem bH (ha:bD a):ac Pa0 sT [eX a] (Go.Abs.B (decide (aS a))):=by
 refine ac.of Li zR6 λ_=>aa ?_
 conv in AD=>cbv
 repeat' first|simp(disch:=omega)only[go_sem, *]|apply ab<;>intro h<;>try omega|refine ak (oD ha) ?_
theorem y7 (hn:aH n):ac Pa0 uC [I n] (U n.natAbs):=by
 refine ac.of Ng zR6 λ_=>aa ?_
 obtain⟨h1,h2⟩:=hn
 conv in Ez=>cbv
 by_cases h0:n<0
 ·repeat' first|simp(disch:=omega)only[go_sem, *,wrap_i64,wrap_u64]|apply ab<;>intro h<;>try omega
  rw[show 0-(n+1)+1=(n.natAbs:Int) by omega]
 ·have e2:IntKind.wrap .u64 n=n.natAbs:=by rw[IntKind.wrap_u64];omega
  exact yA8
theorem LH (hn:aH n) (hd:aH d) (h0:d≠0):ac Pa0 vH [Go.Abs.B (!(decide (n<0)==decide (d<0))),U n.natAbs,U d.natAbs] (gh (eE n d)):=by
 refine ac.of Nv zR6 λ_=>aa ?_
 have p3:=NT n.natAbs d.natAbs
 conv in Em=>cbv
 have e:=CV (n:=n) h0
 rw[e]
 have g0:((Nat.gcd n.natAbs d.natAbs:Nat):Int)≠0:=by
  have:0<Nat.gcd n.natAbs d.natAbs:=zO2 _ zR5
  omega
 have b1:n.natAbs/Nat.gcd n.natAbs d.natAbs≤n.natAbs:=zH8 _ _
 have b2:d.natAbs/Nat.gcd n.natAbs d.natAbs≤d.natAbs:=zH8 _ _
 have d1:=C1 n.natAbs (Nat.gcd n.natAbs d.natAbs)
 have d2:=C1 d.natAbs (Nat.gcd n.natAbs d.natAbs)
 clear e
 generalize Nat.gcd n.natAbs d.natAbs=g at*
 generalize n.natAbs/g=q1 at*
 generalize d.natAbs/g=q2 at*
 obtain⟨H,J⟩:=hn
 obtain⟨L,M⟩:=hd
 have e:(!(decide (n<0)==decide (d<0)))=decide ((n<0)≠(d<0)):=by by_cases a:n<0<;>by_cases b:d<0<;>simp[a,b]
 rw[e]
 repeat' first|simp(disch:=omega)only[go_sem, *,g0,ne_eq,d1,d2,wrap_u64,wrap_i64]|apply ab<;>intro h<;>try omega|refine ak p3 ?_
 all_goals first
  |(rw[if_pos zR5];done)
  |(rw[if_neg zR5]<;>simp_all;done)
theorem i9 (hn:aH n) (hd:aH d):ac Pa0 yi [I n,I d] (gh (eE n d)):=by
 refine ac.of Qk zR6 λ_=>aa ?_
 conv in GL=>cbv
 by_cases h0:d=0
 ·rw[eE,if_pos h0]
  exact zW0
 have p1:=y7 hn
 have p2:=y7 hd
 have p3:=LH hn hd h0
 generalize eE n d=R at*
 generalize hx:(!(decide (n<0)==decide (d<0)))=x at*
 repeat' first|simp(disch:=omega)only[go_sem, *,hx]|apply ab<;>intro h<;>try omega|refine ak p1 ?_|refine ak p2 ?_|refine ak p3 ?_
theorem jo (ha:bD a) (hb:bD b):ac Pa0 yT [eX a,eX b] (gh (jb a b)):=by
 refine ac.of QU zR6 λ_=>aa ?_
 obtain⟨n,d⟩:=a
 obtain⟨m,k⟩:=b
 have p1:=bH ha
 have p2:=bH hb
 conv in G1=>cbv
 by_cases oa:aS (n,d)
 ·by_cases ob:aS (m,k)
  ·rw[LS oa ob]
   obtain⟨o1,o2,o3,o4,_⟩:=id oa
   obtain⟨r1,r2,r3,r4,_⟩:=id ob
   simp only at o1 o2 o3 o4 r1 r2 r3 r4
   have q1:=eR (x:=n) (y:=k) zR5 zR5
   have q2:=eR (x:=m) (y:=d) zR5 zR5
   have q3:=eR (x:=d) (y:=k) zR5 zR5
   have q4:=eR (x:=n) (y:=m) zR5 zR5
   have q5:=eR (x:=d) (y:=m) zR5 zR5
   have p3:=i9 (n:=n*k+m*d) (d:=d*k) zS5 zS5
   simp only[oa,decide_true]at p1
   simp only[ob,decide_true]at p2
   simp only
   generalize t:n*k=x1 at*
   generalize u:m*d=x2 at*
   generalize w:d*k=x3 at*
   generalize z:n*m=x4 at*
   generalize A:d*m=x5 at*
   exact zW4
  ·rw[jb,nK (.inr ob)]
   simp only[oa,decide_true]at p1
   simp only[ob,decide_false]at p2
   exact zW2
 ·rw[jb,nK (.inl oa)]
  simp only[oa,decide_false]at p1
  exact zW2
theorem jk (ha:bD a) (hb:bD b):ac Pa0 yx [eX a,eX b] (gh (kf a b)):=by
 refine ac.of Qs zR6 λ_=>aa ?_
 obtain⟨n,d⟩:=a
 obtain⟨m,k⟩:=b
 have p1:=bH ha
 have p2:=bH hb
 conv in GY=>cbv
 by_cases oa:aS (n,d)
 ·by_cases ob:aS (m,k)
  ·rw[RQ oa ob]
   obtain⟨o1,o2,o3,o4,_⟩:=id oa
   obtain⟨r1,r2,r3,r4,_⟩:=id ob
   simp only at o1 o2 o3 o4 r1 r2 r3 r4
   have q1:=eR (x:=n) (y:=k) zR5 zR5
   have q2:=eR (x:=m) (y:=d) zR5 zR5
   have q3:=eR (x:=d) (y:=k) zR5 zR5
   have q4:=eR (x:=n) (y:=m) zR5 zR5
   have q5:=eR (x:=d) (y:=m) zR5 zR5
   have p3:=i9 (n:=n*k-m*d) (d:=d*k) zS5 zS5
   simp only[oa,decide_true]at p1
   simp only[ob,decide_true]at p2
   simp only
   generalize t:n*k=x1 at*
   generalize u:m*d=x2 at*
   generalize w:d*k=x3 at*
   generalize z:n*m=x4 at*
   generalize A:d*m=x5 at*
   exact zW4
  ·rw[kf,nK (.inr ob)]
   simp only[oa,decide_true]at p1
   simp only[ob,decide_false]at p2
   exact zW2
 ·rw[kf,nK (.inl oa)]
  simp only[oa,decide_false]at p1
  exact zW2
theorem gH (ha:bD a) (hb:bD b):ac Pa0 ze [eX a,eX b] (gh (iU a b)):=by
 refine ac.of Qf zR6 λ_=>aa ?_
 obtain⟨n,d⟩:=a
 obtain⟨m,k⟩:=b
 have p1:=bH ha
 have p2:=bH hb
 conv in GD=>cbv
 by_cases oa:aS (n,d)
 ·by_cases ob:aS (m,k)
  ·rw[K5 oa ob]
   obtain⟨o1,o2,o3,o4,_⟩:=id oa
   obtain⟨r1,r2,r3,r4,_⟩:=id ob
   simp only at o1 o2 o3 o4 r1 r2 r3 r4
   have q1:=eR (x:=n) (y:=k) zR5 zR5
   have q2:=eR (x:=m) (y:=d) zR5 zR5
   have q3:=eR (x:=d) (y:=k) zR5 zR5
   have q4:=eR (x:=n) (y:=m) zR5 zR5
   have q5:=eR (x:=d) (y:=m) zR5 zR5
   have p3:=i9 (n:=n*m) (d:=d*k) zS5 zS5
   simp only[oa,decide_true]at p1
   simp only[ob,decide_true]at p2
   simp only
   generalize t:n*k=x1 at*
   generalize u:m*d=x2 at*
   generalize w:d*k=x3 at*
   generalize z:n*m=x4 at*
   generalize A:d*m=x5 at*
   exact zW4
  ·rw[iU,nK (.inr ob)]
   simp only[oa,decide_true]at p1
   simp only[ob,decide_false]at p2
   exact zW2
 ·rw[iU,nK (.inl oa)]
  simp only[oa,decide_false]at p1
  exact zW2
theorem mJ (ha:bD a) (hb:bD b):ac Pa0 zv [eX a,eX b] (gh (kZ a b)):=by
 refine ac.of QV zR6 λ_=>aa ?_
 obtain⟨n,d⟩:=a
 obtain⟨m,k⟩:=b
 have p1:=bH ha
 have p2:=bH hb
 conv in GC=>cbv
 by_cases oa:aS (n,d)
 ·by_cases ob:aS (m,k)
  ·rw[R5 oa ob]
   obtain⟨o1,o2,o3,o4,_⟩:=id oa
   obtain⟨r1,r2,r3,r4,_⟩:=id ob
   simp only at o1 o2 o3 o4 r1 r2 r3 r4
   have q1:=eR (x:=n) (y:=k) zR5 zR5
   have q2:=eR (x:=m) (y:=d) zR5 zR5
   have q3:=eR (x:=d) (y:=k) zR5 zR5
   have q4:=eR (x:=n) (y:=m) zR5 zR5
   have q5:=eR (x:=d) (y:=m) zR5 zR5
   have p3:=i9 (n:=n*k) (d:=d*m) zS5 zS5
   simp only[oa,decide_true]at p1
   simp only[ob,decide_true]at p2
   simp only
   generalize t:n*k=x1 at*
   generalize u:m*d=x2 at*
   generalize w:d*k=x3 at*
   generalize z:n*m=x4 at*
   generalize A:d*m=x5 at*
   exact zW4
  ·rw[Ab (.inr ob)]
   simp only[oa,decide_true]at p1
   simp only[ob,decide_false]at p2
   exact zW2
 ·rw[Ab (.inl oa)]
  simp only[oa,decide_false]at p1
  exact zW2
theorem sG (ha:bD a):ac Pa0 yf [eX a] (eX (fM a)):=by
 refine ac.of Qe zR6 λ_=>aa ?_
 obtain⟨n,d⟩:=a
 have p1:=bH ha
 conv in Gr=>cbv
 by_cases oa:aS (n,d)
 ·rw[fM,if_pos oa]
  obtain⟨o1,o2,o3,o4,_⟩:=id oa
  simp only at o1 o2 o3 o4
  simp only[oa,decide_true]at p1
  exact yC3
 ·rw[fM,if_neg oa]
  simp only[oa,decide_false]at p1
  exact zX0
theorem md (ha:aS a) (hb:aS b):ac Pa0 qt [eX a,eX b] (I (dY a b)):=by
 refine ac.of IX zR6 λ_=>aa ?_
 obtain⟨n,d⟩:=a
 obtain⟨m,k⟩:=b
 rw[dY,if_pos ⟨ha,hb⟩]
 have p1:=bn (ff ha)
 have p2:=bn (ff hb)
 obtain⟨o1,o2,o3,o4,_⟩:=id ha
 obtain⟨r1,r2,r3,r4,_⟩:=id hb
 simp only at o1 o2 o3 o4 r1 r2 r3 r4
 have q1:=eR (x:=n) (y:=k) zR5 zR5
 have q2:=eR (x:=m) (y:=d) zR5 zR5
 have p3:=LB (n*k) (m*d)
 simp only[ha,decide_true]at p1
 simp only[hb,decide_true]at p2
 conv in yH=>cbv
 generalize t:n*k=x1 at*
 generalize u:m*d=x2 at*
 exact zZ7
theorem ld (ha:aS a) (hb:aS b):ac Pa0 nG [eX a,eX b] (I (dY a b)):=by
 refine ac.of FV zR6 λ_=>aa ?_
 obtain⟨n,d⟩:=a
 obtain⟨m,k⟩:=b
 rw[dY,if_pos ⟨ha,hb⟩]
 have p1:=bH (ff ha)
 have p2:=bH (ff hb)
 obtain⟨o1,o2,o3,o4,_⟩:=id ha
 obtain⟨r1,r2,r3,r4,_⟩:=id hb
 simp only at o1 o2 o3 o4 r1 r2 r3 r4
 have q1:=eR (x:=n) (y:=k) zR5 zR5
 have q2:=eR (x:=m) (y:=d) zR5 zR5
 have p3:=Id (n*k) (m*d)
 simp only[ha,decide_true]at p1
 simp only[hb,decide_true]at p2
 conv in wn=>cbv
 generalize t:n*k=x1 at*
 generalize u:m*d=x2 at*
 exact zZ7
end
end Go.Proofs.YtigdjhnndaokjaaGreatDoor
