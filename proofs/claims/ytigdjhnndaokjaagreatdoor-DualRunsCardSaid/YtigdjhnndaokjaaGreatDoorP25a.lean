import Derived.Test.YtigdjhnndaokjaaGreatDoorV19b
import Derived.Test.YtigdjhnndaokjaaGreatDoorInE
import Derived.Test.YtigdjhnndaokjaaGreatDoorV12c
set_option linter.unusedVariables false
set_option linter.unusedSimpArgs false
namespace Go.Proofs.YtigdjhnndaokjaaGreatDoor
open Go.Abs Go.RowKit
noncomputable section
def Ax (n d how:Int):Int:=
 if n%d=0∨how=1 then n/d else if how=2 then n/d+1 else if how=3 then(if n<0 then n/d+1 else n/d)
 else if d-n%d<n%d∨(n%d=d-n%d∧n/d%2≠0)then n/d+1 else n/d
def XD (a b:Nat) (neg:Bool) (how:Int):Nat:=
 if a%b=0∨how=3∨(how=1∧neg=false)∨(how=2∧neg=true)∨(how=4∧(2*(a%b)<b∨(2*(a%b)=b∧a/b%2=0)))then a/b else a/b+1
theorem VB {a b:Nat} (hb:0<b):(a%b=0→(-(a:Int))/b= -((a/b:Nat):Int)∧(-(a:Int))%b=0)∧(a%b≠0→(-(a:Int))/b= -((a/b:Nat):Int)-1∧(-(a:Int))%b=b-((a%b:Nat):Int)):=by
 have h:=zL8 a b
 have hm:=zI3 a hb
 generalize a/b=q at*
 generalize a%b=r at*
 have c:(0:Int)<b:=by omega
 have e:(a:Int)=b*q+r:=by exact_mod_cast h.symm
 refine⟨λh0=> ?_,λh0=> ?_⟩
 ·subst h0
  refine(zN0 c).2 ⟨?_,by omega,by omega⟩
  rw[e,zO6]
  simp
 ·refine(zN0 c).2 ⟨?_,by omega,by omega⟩
  rw[e,Int.mul_sub,zO6]
  omega
variable {how:Int}
theorem UZ {a b:Nat} (hb:0<b) (hh:1≤how∧how≤4):(XD a b false how:Int)=Ax a b how:=by
 have e1:(a:Int)/b=((a/b:Nat):Int):=rfl
 have e2:(a:Int)%b=((a%b:Nat):Int):=rfl
 have hm:=zI3 a hb
 unfold XD Ax
 rw[e1,e2]
 generalize a/b=q at*
 generalize a%b=r at*
 have h4:how=1∨how=2∨how=3∨how=4:=by omega
 rcases h4 with rfl|rfl|rfl|rfl<;>simp<;>(repeat' split)<;>omega
theorem VQ {a b:Nat} (hb:0<b) (hh:1≤how∧how≤4): -(XD a b true how:Int)=Ax (-a) b how:=by
 obtain⟨h1,h2⟩:=VB (a:=a) hb
 have hm:=zI3 a hb
 have h:=zL8 a b
 have ha:a%b≠0→0<a:= λh=>by
  rcases Nat.eq_zero_or_pos a with rfl|h'
  ·simp at h
  ·exact h'
 unfold XD Ax
 by_cases h0:a%b=0
 ·obtain⟨e1,e2⟩:=h1 h0
  rw[e1,e2,if_pos (.inl h0),if_pos (.inl rfl)]
 ·obtain⟨e1,e2⟩:=h2 h0
  have ha:=ha h0
  rw[e1,e2]
  clear h
  generalize a/b=q at*
  generalize a%b=r at*
  have h4:how=1∨how=2∨how=3∨how=4:=by omega
  rcases h4 with rfl|rfl|rfl|rfl<;>simp<;>(repeat' split)<;>omega
def MY (b o n:Int):Int:=if-aB b≤n∧n<aB b then n else if o=1 then(if n< -aB b then-aB b else aB b-1)else(n+aB b)%(2*aB b)-aB b
variable {b:Int}
theorem XB {o n:Int} (hb:1≤aB b): -aB b≤MY b o n∧MY b o n<aB b:=by
 unfold MY
 have h1:=zL9 (n+aB b) (b:=2*aB b) zR5
 have h2:=zM2 (n+aB b) (b:=2*aB b) zR5
 (repeat' split)<;>omega
theorem abv {o n:Int} (hb:1≤aB b) (ho:o=1∨o=2):MY b o n=max (-aB b) (min (aB b-1) (if o=2 then n-(n+aB b)/(2*aB b)*2*aB b else n)):=by
 have h1:=zL9 (n+aB b) (b:=2*aB b) zR5
 have h2:=zM2 (n+aB b) (b:=2*aB b) zR5
 have h3:(n+aB b)%(2*aB b)=(n+aB b)-2*aB b*((n+aB b)/(2*aB b)):=zP0 _ _
 have e:(n+aB b)/(2*aB b)*2*aB b=2*aB b*((n+aB b)/(2*aB b)):=by rw[zL7,zG6]
 unfold MY
 rcases ho with rfl|rfl
 ·simp
  (repeat' split)<;>omega
 ·rw[if_pos rfl,e]
  by_cases g: -aB b≤n∧n<aB b
  ·have hz:(n+aB b)/(2*aB b)=0:=Int.ediv_eq_zero_of_lt zR5 zR5
   rw[if_pos g,hz]
   simp
   omega
  ·rw[if_neg g,if_neg zR9]
   generalize (n+aB b)%(2*aB b)=r at*
   generalize 2*aB b*((n+aB b)/(2*aB b))=s at*
   omega
theorem UW (h1:2≤b) (h2:b≤31):(2:Int)^(64-b).toNat*(2*aB b)=18446744073709551616∧(2:Int)^(64-b).toNat*aB b=9223372036854775808∧0<(2:Int)^(64-b).toNat:=by
 obtain⟨n,rfl⟩: ∃n:Nat,b=n:=⟨b.toNat,by omega⟩
 have h3:n≤31:=by omega
 have h4:2≤n:=by omega
 clear h1 h2
 have key: ∀m:Fin 32,2≤m.val→(2:Int)^(64-(m.val:Int)).toNat*(2*aB (m.val:Int))=18446744073709551616∧(2:Int)^(64-(m.val:Int)).toNat*aB (m.val:Int)=9223372036854775808∧0<(2:Int)^(64-(m.val:Int)).toNat:=by decide+kernel
 exact key ⟨n,by omega⟩ h4
theorem Zq {n:Int} (h1:2≤b) (h2:b≤31):IntKind.wrap .i64 (IntKind.wrap .u64 (IntKind.wrap .u64 n*2^(64-b).toNat))/2^(64-b).toNat=(n+aB b)%(2*aB b)-aB b:=by
 obtain⟨e1,e2,e3⟩:=UW h1 h2
 rw[IntKind.wrap_i64,IntKind.wrap_u64,IntKind.wrap_u64]
 generalize (2:Int)^(64-b).toNat=h at*
 have a1:(n%18446744073709551616*h)%18446744073709551616=(n*h)%18446744073709551616:=by rw[Int.mul_emod,Int.emod_emod,←Int.mul_emod]
 rw[a1,Int.emod_add_emod]
 have a2:(n*h+9223372036854775808)%18446744073709551616=h*((n+aB b)%(2*aB b)):=by
  rw[←e1,←e2,zG6 n h,←Int.mul_add,Int.mul_emod_mul_of_pos _ _ e3]
 rw[a2,←e2,←Int.mul_sub,zO1 _ zR5]
abbrev Yh:=Fr×Int
def gy (f:Int):Int:=2^f.toNat
theorem uQ {f:Int} (h1:0≤f) (h2:f≤30):1≤gy f∧gy f≤1073741824:=by
 obtain⟨n,rfl⟩: ∃n:Nat,f=n:=⟨f.toNat,by omega⟩
 have h3:n≤30:=by omega
 clear h1 h2
 have key: ∀m:Fin 31,(1:Int)≤gy (m.val:Int)∧gy (m.val:Int)≤1073741824:=by decide+kernel
 exact key ⟨n,by omega⟩
def BB (f r op a b:Int):Int×Int:=
 if op=4 then(a+b,0)else if op=5 then(a-b,0)else if op=6 then(Ax (a*b) (gy f) r,0)else if op=8 then(-a,0)
 else if b=0 then(0,4)else if b<0 then(Ax (-(a*gy f)) (-b) r,0)else(Ax (a*gy f) b r,0)
def c9 (t:Ty) (op a b:Int):Yh:=if(BB t.2.2.1 t.2.2.2.1 op a b).2≠0 then((0,0),(BB t.2.2.1 t.2.2.2.1 op a b).2)else((MY t.2.1 t.2.2.2.2 (BB t.2.2.1 t.2.2.2.1 op a b).1,1),0)
def flD (a b:Int):Int:=if b<0 then-a/ -b else a/b
def yG (op a b:Int):Int:=if op=4 then a+b else if op=5 then a-b else if op=6 then a*b else flD a b
def ny (op a b:Int):Yh:=if op=7∧b=0 then((0,0),4)else if-2147483647≤yG op a b∧yG op a b≤2147483647 then((yG op a b,1),0)else((0,0),3)
def oA (op:Int) (a b:Fr):Yh:=if op=4 then jb a b else if op=5 then kf a b else if op=6 then iU a b else kZ a b
def rL (t:Ty) (a b:Fr):Int:=if t.1=1 then dY a b else Hq a.1 b.1
def gp (op:Int) (t:Ty) (a b:Fr):Yh:=
 if op=8 then(if t.1=2 then c9 t 8 a.1 a.1 else((-a.1,a.2),0))
 else if op=9 then(if 0<rL t a b then(b,0)else(a,0))else if op=10 then(if rL t a b<0 then(b,0)else(a,0))
 else if t.1=3 then ny op a.1 b.1 else if t.1=2 then c9 t op a.1 b.1 else oA op a b
theorem yz {r:Rat} (h:(kY r).2=0):aS (kY r).1:=by
 have e:kY r=((kY r).1,0):=zL0 rfl h
 exact(WC e).1
variable {op:Int}
theorem DE {a b:Fr} (h:(oA op a b).2=0):aS (oA op a b).1:=by
 have key: ∀f:Rat→Rat→Rat,(tg f a b).2=0→aS (tg f a b).1:= λf h=>by
  unfold tg at*
  split at h
  ·simp at h
  ·rw[if_neg ‹_›]
   exact yz h
 unfold oA at*
 split at h
 ·rw[if_pos ‹_›];exact key _ h
 ·rw[if_neg ‹_›]
  split at h
  ·rw[if_pos ‹_›];exact key _ h
  ·rw[if_neg ‹_›]
   split at h
   ·rw[if_pos ‹_›];exact key _ h
   ·rw[if_neg ‹_›]
    unfold kZ at*
    split at h
    ·simp at h
    ·rw[if_neg ‹_›]
     split at h
     ·simp at h
     ·rw[if_neg ‹_›]
      exact yz h
theorem RM {a:Fr} (h:aS a):aS (-a.1,a.2):=by
 obtain⟨h1,h2,h3,h4,h5⟩:=h
 exact⟨h1,h2,by show _≤ -a.1;omega,by show-a.1≤_;omega,by show Nat.gcd (-a.1).natAbs _=1;rw[Int.natAbs_neg];exact h5⟩
variable {t:Ty}
theorem jf (h:cj t) (h2:t.1=2):fc t.2.1 t.2.2.1 t.2.2.2.1 t.2.2.2.2:=h.elim (λh'=>by omega) λh'=>h'.2
theorem zS (h:cj t):t.1=1∨t.1=2∨t.1=3:=by rcases h with⟨h,_⟩|⟨h,_⟩<;>omega
theorem S5 {a:Int} (ht:cj t) (h2:t.1=2) (h:(c9 t op a b).2=0):aK t (c9 t op a b).1:=by
 have hf:=jf ht h2
 have hh:=fi hf.1 hf.2.1
 unfold c9 at*
 split at h
 ·exact absurd h ‹_›
 ·rw[if_neg ‹_›,aK,if_pos h2]
  exact⟨rfl,XB hh.1⟩
theorem aaq {a:Int} (h3:t.1=3) (h:(ny op a b).2=0):aK t (ny op a b).1:=by
 unfold ny at*
 split at h
 ·simp at h
 ·rw[if_neg ‹_›]
  split at h
  ·rename_i hr
   rw[if_pos hr,aK,if_neg zR5,if_pos h3]
   exact⟨rfl,hr⟩
  ·simp at h
theorem V9 {a b:Fr} (ht:cj t) (ha:aK t a) (hb:aK t b) (h:(gp op t a b).2=0):aK t (gp op t a b).1:=by
 have hk:=zS ht
 unfold gp at*
 split at h
 ·rw[if_pos ‹_›]
  split at h
  ·rename_i h2
   rw[if_pos h2]
   exact S5 ht h2 h
  ·rename_i h2
   rw[if_neg h2]
   unfold aK at ha ⊢
   rw[if_neg h2]at ha ⊢
   split at ha
   ·rename_i h3
    rw[if_pos h3]
    exact⟨ha.1,by show _≤ -a.1;omega,by show-a.1≤_;omega⟩
   ·rename_i h3
    rw[if_neg h3]
    exact RM ha
 ·rw[if_neg ‹_›]
  split at h
  ·rw[if_pos ‹_›]
   split
   ·exact hb
   ·exact ha
  ·rw[if_neg ‹_›]
   split at h
   ·rw[if_pos ‹_›]
    split
    ·exact hb
    ·exact ha
   ·rw[if_neg ‹_›]
    split at h
    ·rename_i h3
     rw[if_pos h3]
     exact aaq h3 h
    ·rename_i h3
     rw[if_neg h3]
     split at h
     ·rename_i h2
      rw[if_pos h2]
      exact S5 ht h2 h
     ·rename_i h2
      rw[if_neg h2,aK,if_neg h2,if_neg h3]
      exact DE h
def fh (t:Ty) (v:Fr):Fr:=if t.1=2 then(eE v.1 (gy t.2.2.1)).1 else v
def wD (s t:Ty) (v:Fr):Fr:=
 if t.1=3 then((fh s v).1/(fh s v).2,1)else if t.1=2 then(MY t.2.1 t.2.2.2.2 (Ax ((fh s v).1*gy t.2.2.1) (fh s v).2 t.2.2.2.1),1)else fh s v
def OA (fold:Int):Int:=if fold=1∨fold=5 then 4 else if fold=2 then 6 else if fold=3 then 9 else if fold=4 then 10 else 0
abbrev Nm:=ByteArray×Tn
abbrev Nb:=Ty×Du
abbrev z1:Fr:=(0,1)
abbrev ty3:Ty:=(3,0,0,0,0)
abbrev HU:Nb:=((0,0,0,0,0),((0,0),(0,0)))
abbrev MD:Tn:=((0,0,0,0,0), [], [])
def bm (L:List Nm) (s:ByteArray):Option Tn:=(L.find? λt=>decide (t.1=s)).map (·.2)
def OK (env:List aG):List iB→List Int→List Int×Int
 | [],_=>([],0)
 |f::r,ds=>if(io f.1 f.2 env).2≠0 then([],(io f.1 f.2 env).2)else if(io f.1 f.2 env).1<0∨ds.headD 0≤(io f.1 f.2 env).1 then([],12)
  else if(OK env r ds.tail).2≠0 then([],(OK env r ds.tail).2)else((io f.1 f.2 env).1::(OK env r ds.tail).1,0)
def Rl (M:List Nm) (env:List aG) (x:Ix) (n:Int):Int×Int:=
 if x.2.1=nul then io x.1.1 x.1.2 env
 else if(OK env x.2.2 ((bm M x.2.1).getD MD).2.1).2≠0 then(0,(OK env x.2.2 ((bm M x.2.1).getD MD).2.1).2)
 else(min (max ((((bm M x.2.1).getD MD).2.2)[(qD ((bm M x.2.1).getD MD).2.1 (OK env x.2.2 ((bm M x.2.1).getD MD).2.1).1).toNat]?.getD (0,0)).1 0) (n-1),0)
def qS (M:List Nm) (env:List aG):List Ix→List Int→List Int×Int
 | [],_=>([],0)
 |x::r,ds=>if(Rl M env x (ds.headD 0)).2≠0 then([],(Rl M env x (ds.headD 0)).2)else if(Rl M env x (ds.headD 0)).1<0∨ds.headD 0≤(Rl M env x (ds.headD 0)).1 then([],12)
  else if(qS M env r ds.tail).2≠0 then([],(qS M env r ds.tail).2)else((Rl M env x (ds.headD 0)).1::(qS M env r ds.tail).1,0)
def rdD (M A:List Nm) (env:List aG) (s:ByteArray) (idx:List Ix):Nb×Int:=
 if(qS M env idx ((bm M s).getD MD).2.1).2≠0 then(HU,(qS M env idx ((bm M s).getD MD).2.1).2)
 else((((bm M s).getD MD).1,((((bm M s).getD MD).2.2)[(qD ((bm M s).getD MD).2.1 (qS M env idx ((bm M s).getD MD).2.1).1).toNat]?.getD (0,0),
  match bm A s with
  |some t=>t.2.2[(qD ((bm M s).getD MD).2.1 (qS M env idx ((bm M s).getD MD).2.1).1).toNat]?.getD (0,0)
  |none=>z1)),0)
def C6 (op:Int) (a b:Nb):Nb×Int:=
 if a.1.1=1 then((a.1,(bi op a.2 b.2).1),(bi op a.2 b.2).2)else((a.1,((gp op a.1 a.2.1 b.2.1).1,z1)),(gp op a.1 a.2.1 b.2.1).2)
def Bi (a:Nb) (t:Ty):Nb:=if a.1.1=1∧t.1=1 then a else(t,(wD a.1 t a.2.1,z1))
def Sy (op n:Int):Bool:=if op=13 then decide (n<0)else if op=14 then decide (n≤0)else decide (n=0)
mutual
def jr (M A:List Nm) (env:List aG):Ex→Nb×Int
 | .mk op name val ty lin idx args=>
  if op=1 then((ty,(val,z1)),0)
  else if op=2 then((ty3,(((io lin.1 lin.2 env).1,1),z1)),if(io lin.1 lin.2 env).2=0∧(2147483647<(io lin.1 lin.2 env).1∨(io lin.1 lin.2 env).1< -2147483647)then 3 else(io lin.1 lin.2 env).2)
  else if op=3 then rdD M A env name idx
  else if op=11 then(match (Tr M A env args)[0]?.getD (false,0)with
   |(b,e)=>if e≠0 then(HU,e)else if b=true then(II M A env args)[1]?.getD (HU,0)else(II M A env args)[2]?.getD (HU,0))
  else(match (II M A env args)[0]?.getD (HU,0)with
   |(a,e)=>if e≠0 then(HU,e)else if op=12 then(Bi a ty,0)else if op=8 then C6 op a a
    else(match (II M A env args)[1]?.getD (HU,0)with
     |(b,f)=>if f≠0 then(HU,f)else C6 op a b))
def II (M A:List Nm) (env:List aG):List Ex→List (Nb×Int)
 | []=> []
 |a::r=>jr M A env a::II M A env r
def Ar (M A:List Nm) (env:List aG):Ex→Bool×Int
 | .mk op name val ty lin idx args=>
  if op=18 then(match (Tr M A env args)[0]?.getD (false,0)with
   |(b,e)=>(!b,e))
  else if op=16∨op=17 then(match (Tr M A env args)[0]?.getD (false,0)with
   |(a,e)=>if e≠0 then(false,e)else(match (Tr M A env args)[1]?.getD (false,0)with
    |(b,f)=>(if op=16 then a&&b else a||b,f)))
  else(match (II M A env args)[0]?.getD (HU,0)with
   |(a,e)=>if e≠0 then(false,e)else(match (II M A env args)[1]?.getD (HU,0)with
    |(b,f)=>if f≠0 then(false,f)else(Sy op (rL a.1 a.2.1 b.2.1),0)))
def Tr (M A:List Nm) (env:List aG):List Ex→List (Bool×Int)
 | []=> []
 |a::r=>Ar M A env a::Tr M A env r
end
end
end Go.Proofs.YtigdjhnndaokjaaGreatDoor
