import Derived.Test.YtigdjhnndaokjaaGreatDoorP25a
set_option linter.unusedVariables false
set_option linter.unusedSimpArgs false
set_option maxHeartbeats 4000000
set_option maxRecDepth 1000000
open Go.Proofs.Tryz renaming prog→Pa0
namespace Go.Proofs.YtigdjhnndaokjaaGreatDoor
open Go.Abs Go.RowKit
abbrev aeh (n:Int):Prop:= -4611686018427387904≤n∧n≤4611686018427387904
variable {n d:Int}
theorem qc (hd:0<d):n/d=(if n<n.tdiv d*d then n.tdiv d-1 else n.tdiv d)∧n.tdiv d*d≤n.natAbs∧ -(n.natAbs:Int)≤n.tdiv d*d∧n.tdiv d≤n.natAbs∧ -(n.natAbs:Int)≤n.tdiv d:=by
 have key: ∀a:Int,0≤a→a.tdiv d=a/d∧a/d*d≤a∧0≤a/d∧a/d≤a:= λa ha=>
  ⟨zE2 ha,Int.ediv_mul_le _ zR5,zJ5 ha zR5,zJ1 _ ha⟩
 have h0: ∀a:Int,0≤a→0≤a/d*d:= λa ha=>zM5 (key a ha).2.2.1 zR5
 by_cases hn:0≤n
 ·obtain⟨e1,e2,e3,e4⟩:=key n hn
  have:=h0 n hn
  rw[e1,if_neg zR5]
  omega
 ·obtain⟨m,rfl⟩: ∃m:Int,n= -m:=⟨-n,by omega⟩
  have hm:0≤m:=by omega
  obtain⟨e1,e2,e3,e4⟩:=key m hm
  have h1:=h0 m hm
  rw[Int.neg_tdiv,e1]
  have e5: -(m/d)*d= -(m/d*d):=zR4 _ _
  rw[e5]
  have F:=zL9 m (b:=d) zR5
  have G:=zM2 m hd
  have i:m%d=m-d*(m/d):=zP0 _ _
  rw[zG6 d]at i
  refine⟨?_,by omega,by omega,by omega,by omega⟩
  by_cases hz:m%d=0
  ·rw[if_neg zR5]
   exact((zN0 hd).2 ⟨by rw[zO6,zG6 d];omega,by omega,by omega⟩:(-m)/d= -(m/d)∧(-m)%d=0).1
  ·rw[if_pos zR5]
   exact((zN0 hd).2 ⟨by rw[Int.mul_sub,zO6,zG6 d];omega,by omega,by omega⟩:(-m)/d= -(m/d)-1∧(-m)%d=d-m%d).1
theorem gC (hn:aeh n) (hd:0<d):ac Pa0 sn [I n,I d] (I (n/d)):=by
 refine ac.of Kg zR6 λ_=>aa ?_
 obtain⟨e1,e2,e3,e4,e5⟩:=qc (n:=n) hd
 obtain⟨h1,h2⟩:=hn
 have w1:IntKind.wrap .i64 (n.tdiv d)=n.tdiv d:=wrap_i64 zR5
 have w2:IntKind.wrap .i64 (n.tdiv d*d)=n.tdiv d*d:=wrap_i64 zR5
 have w3:IntKind.wrap .i64 (n.tdiv d-1)=n.tdiv d-1:=wrap_i64 zR5
 have w:d≠0:=by omega
 conv in BK=>cbv
 by_cases hc:n<n.tdiv d*d
 ·rw[if_pos hc]at e1
  rw[e1]
  clear e1 e2 e3 e4 e5
  exact yD0
 ·rw[if_neg hc]at e1
  rw[e1]
  clear e1 e2 e3 e4 e5
  exact yD0
variable {t:Ty}
theorem pl (h1:0≤t.2.2.1) (h2:t.2.2.1≤30):ac Pa0 oM [mj t] (I (gy t.2.2.1)):=by
 refine ac.of NR zR6 λ_=>aa ?_
 obtain⟨k,b,f,r,o⟩:=t
 simp only at h1 h2 ⊢
 have hs:=uQ h1 h2
 have hu:IntKind.wrap .u64 f=f:=by rw[IntKind.wrap_u64];omega
 have e1:(2:Int)^(min f.toNat 64)=gy f:=by rw[gy,zI8 zR5]
 have v1:IntKind.wrap .i64 (gy f)=gy f:=wrap_i64 zR5
 conv in EY=>cbv
 repeat' first|simp(disch:=omega)only[go_sem, *,hu,e1,zJ0,v1]|apply ab<;>intro h<;>try omega
theorem wi {how:Int} (hn:aeh n) (hd:0<d∧d≤4611686018427387904) (hh:1≤how∧how≤4):ac Pa0 jc [I n,I d,I how] (I (Ax n d how)):=by
 refine ac.of La zR6 λ_=>aa ?_
 have p1:=gC hn hd.1
 have j:=zL9 n (b:=d) zR5
 have p:=zM2 n hd.1
 have i:n%d=n-d*(n/d):=zP0 _ _
 rw[zG6 d]at i
 obtain⟨e1,e2,e3,e4,e5⟩:=qc (n:=n) hd.1
 have hq: -4611686018427387906≤n/d∧n/d≤4611686018427387906:=by
  rw[e1]
  split<;>omega
 clear e1 e2 e3 e4 e5
 unfold Ax
 obtain⟨D,E⟩:=hn
 have w1:IntKind.wrap .i64 (n/d*d)=n/d*d:=wrap_i64 zR5
 have w2:IntKind.wrap .i64 (n-n/d*d)=n%d:=by rw[wrap_i64 zR5];omega
 have w3:IntKind.wrap .i64 (d-n%d)=d-n%d:=wrap_i64 zR5
 have w4:IntKind.wrap .i64 (n/d+1)=n/d+1:=wrap_i64 zR5
 have y:(n/d).tmod 2=0↔n/d%2=0:=by
  rw[←Int.dvd_iff_tmod_eq_zero,←Int.dvd_iff_emod_eq_zero]
 have w5:IntKind.wrap .i64 ((n/d).tmod 2)=(n/d).tmod 2:=wrap_i64 (by have:=Int.tmod_lt_of_pos (n/d) (b:=2) zR9;have:=Int.lt_tmod_of_pos (n/d) (b:=2) zR9;omega)
 clear i
 generalize n/d=q at*
 generalize n%d=r at*
 conv in A2=>cbv
 have h4:how=1∨how=2∨how=3∨how=4:=by omega
 clear hh
 have HM:=Lib.hid y
 clear y j p hq D E
 by_cases z0:r=0
 ·have z0':=eq_true z0
  rw[if_pos (.inl z0)]
  clear z0
  exact zY5
 ·have z0':=eq_false z0
  rcases h4 with rfl|rfl|rfl|rfl
  ·rw[if_pos (.inr rfl)]
   clear z0
   exact zY5
  ·rw[if_neg (by simp[z0]),if_pos rfl]
   clear z0
   exact zY5
  ·rw[if_neg (by simp[z0]),if_neg zR9,if_pos rfl]
   clear z0
   by_cases c1:n<0
   ·rw[if_pos c1]
    exact zY2
   ·rw[if_neg c1]
    exact zY2
  ·rw[if_neg (by simp[z0]),if_neg zR9,if_neg zR9]
   clear z0
   by_cases c1:d-r<r
   ·rw[if_pos (.inl c1)]
    exact zY2
   ·by_cases c2:r=d-r
    ·have c2':=eq_true c2
     by_cases c3:q%2=0
     ·rw[if_neg (by rintro(h|h);exact c1 h;exact h.2 c3)]
      have c3':=eq_true (HM.out.2 c3)
      clear c2 c3
      exact yA3
     ·rw[if_pos (.inr ⟨c2,c3⟩)]
      have c3':=eq_false λh=>c3 (HM.out.1 h)
      clear c2 c3
      exact yA3
    ·rw[if_neg (by rintro(h|h);exact c1 h;exact c2 h.1)]
     have c2':=eq_false c2
     clear c2
     repeat' first|simp(disch:=omega)only[go_sem, *,w1,w2,w3,w4,w5,z0',c1,c2']|apply ab<;>intro h<;>try omega|refine ak p1 ?_
variable {b:Int}
theorem Zk (h1:2≤b) (h2:b≤31):IntKind.wrap .u64 (b-1)=b-1∧IntKind.wrap .i64 (b-1)=b-1∧(2:Int)^(min (b-1).toNat 64)=aB b:=
 ⟨by rw[IntKind.wrap_u64];omega,wrap_i64 zR5,Jd h1 h2⟩
abbrev afx (n:Int):Prop:= -2305843009213693960≤n∧n≤2305843009213693960
theorem QL {how:Int} (hd:0<d) {B:Int} (h: -B≤n∧n≤B): -B-1≤Ax n d how∧Ax n d how≤B+1:=by
 have j:=zL9 n (b:=d) zR5
 have i:n%d=n-d*(n/d):=zP0 _ _
 obtain⟨e1,e2,e3,e4,e5⟩:=qc (n:=n) hd
 have hq: -B-1≤n/d∧n/d≤B:=by
  rw[e1]
  split<;>omega
 have h0:n/d=B→n%d=0∨n/d+1≤B+1:= λ_=> .inr zR5
 unfold Ax
 (repeat' split)<;>omega
theorem Bl (ht:fc t.2.1 t.2.2.1 t.2.2.2.1 t.2.2.2.2) (hn:afx n):ac Pa0 nz [mj t,I n] (eX (MY t.2.1 t.2.2.2.2 n,1)):=by
 refine ac.of Q6 zR6 λ_=>aa ?_
 obtain⟨k,b,f,r,o⟩:=t
 simp only at ht ⊢
 obtain⟨h1,h2,_,_,_,_,ho⟩:=ht
 have hh:=fi h1 h2
 obtain⟨v1,v2,v3⟩:=Zk h1 h2
 obtain⟨n1,n2⟩:=hn
 have p1:=gC (n:=n+aB b) (d:=2*aB b) ⟨by omega,by omega⟩ zR5
 have hd:=abv (b:=b) (n:=n) (o:=o) hh.1 ho
 have i:(n+aB b)%(2*aB b)=(n+aB b)-2*aB b*((n+aB b)/(2*aB b)):=zP0 _ _
 have j:=zL9 (n+aB b) (b:=2*aB b) zR5
 have p:=zM2 (n+aB b) (b:=2*aB b) zR5
 obtain⟨e1,e2,e3,e4,e5⟩:=qc (n:=n+aB b) (d:=2*aB b) zR5
 have hq: -2305843010287435785≤(n+aB b)/(2*aB b)∧(n+aB b)/(2*aB b)≤2305843010287435785:=by
  rw[e1]
  split<;>omega
 clear e1 e2 e3 e4 e5
 have em:(n+aB b)/(2*aB b)*2*aB b=2*aB b*((n+aB b)/(2*aB b)):=by rw[zL7,zG6]
 rw[←em]at i
 clear em
 generalize (n+aB b)/(2*aB b)=q at*
 generalize (n+aB b)%(2*aB b)=z at*
 have w1:IntKind.wrap .i64 (aB b)=aB b:=wrap_i64 zR5
 have w2:IntKind.wrap .i64 (n+aB b)=n+aB b:=wrap_i64 zR5
 have w3:IntKind.wrap .i64 (2*aB b)=2*aB b:=wrap_i64 zR5
 have w4:IntKind.wrap .i64 (q*2)=q*2:=wrap_i64 zR5
 have w5:IntKind.wrap .i64 (q*2*aB b)=q*2*aB b:=wrap_i64 zR5
 have w6:IntKind.wrap .i64 (n-q*2*aB b)=n-q*2*aB b:=wrap_i64 zR5
 have w7:IntKind.wrap .i64 (0-aB b)= -aB b:=by rw[zG5];exact wrap_i64 zR5
 have w8:IntKind.wrap .i64 (aB b-1)=aB b-1:=wrap_i64 zR5
 rw[hd]
 clear hd i j p hq
 conv in GV=>cbv
 rcases ho with rfl|rfl
 ·rw[if_neg zR9]
  repeat' first|simp(disch:=omega)only[go_sem, *,v1,v2,v3,zJ0,w1,w2,w3,w4,w5,w6,w7,w8]|apply ab<;>intro h<;>try omega|refine ak p1 ?_
  all_goals trace_state
 ·rw[if_pos rfl]
  repeat' first|simp(disch:=omega)only[go_sem, *,v1,v2,v3,zJ0,w1,w2,w3,w4,w5,w6,w7,w8]|apply ab<;>intro h<;>try omega|refine ak p1 ?_
  all_goals trace_state
theorem Pi {a:Int} (ha: -1073741824≤a∧a≤1073741824) (hb: -1073741824≤b∧b≤1073741824): -1152921504606846976≤a*b∧a*b≤1152921504606846976:=by
 have h1:(a*b).natAbs≤1073741824*1073741824:=by
  rw[zQ0]
  exact zQ1 zR5 zR5
 omega
theorem Ou {op a:Int} (ht:fc t.2.1 t.2.2.1 t.2.2.2.1 t.2.2.2.2) (ho:4≤op∧op≤8) (ha: -aB t.2.1≤a∧a<aB t.2.1) (hb: -aB t.2.1≤b∧b<aB t.2.1):ac Pa0 ru [I op,mj t,I a,I b] (gh (c9 t op a b)):=by
 refine ac.of PU zR6 λ_=>aa ?_
 have hh:=fi ht.1 ht.2.1
 have hs:=uQ ht.2.2.1 ht.2.2.2.1
 have u: -1073741824≤a∧a≤1073741824:=by omega
 have A: -1073741824≤b∧b≤1073741824:=by omega
 have m1:=Pi u A
 have m2:=Pi u (b:=gy t.2.2.1) zR5
 have fit:= λn hn=>Bl (t:=t) (n:=n) ht hn
 have pst:=pl (t:=t) ht.2.2.1 ht.2.2.2.1
 have rnd:= λn d hn hd=>wi (n:=n) (d:=d) (how:=t.2.2.2.1) hn hd ⟨ht.2.2.2.2.1,ht.2.2.2.2.2.1⟩
 have w1:IntKind.wrap .i64 (a+b)=a+b:=wrap_i64 zR5
 have w2:IntKind.wrap .i64 (a-b)=a-b:=wrap_i64 zR5
 have w3:IntKind.wrap .i64 (a*b)=a*b:=wrap_i64 zR5
 have w4:IntKind.wrap .i64 (0-a)= -a:=by rw[zG5];exact wrap_i64 zR5
 have w5:IntKind.wrap .i64 (0-b)= -b:=by rw[zG5];exact wrap_i64 zR5
 have w6:IntKind.wrap .i64 (a*gy t.2.2.1)=a*gy t.2.2.1:=wrap_i64 zR5
 have w7:IntKind.wrap .i64 (-a*gy t.2.2.1)= -(a*gy t.2.2.1):=by rw[zR4];exact wrap_i64 zR5
 have q1:=rnd (a*b) (gy t.2.2.1) ⟨by omega,by omega⟩ ⟨by omega,by omega⟩
 have q1':=QL (n:=a*b) (d:=gy t.2.2.1) (how:=t.2.2.2.1) zR5 (B:=1152921504606846976) ⟨by omega,by omega⟩
 have f1:=fit (a+b) ⟨by omega,by omega⟩
 have f2:=fit (a-b) ⟨by omega,by omega⟩
 have f3:=fit (Ax (a*b) (gy t.2.2.1) t.2.2.2.1) ⟨by omega,by omega⟩
 have f4:=fit (-a) ⟨by omega,by omega⟩
 have h5:op=4∨op=5∨op=6∨op=7∨op=8:=by omega
 have key7:b≠0→ ∃n d,0<d∧ac Pa0 jc [I n,I d,I t.2.2.2.1] (I (Ax n d t.2.2.2.1))∧ac Pa0 nz [mj t,I (Ax n d t.2.2.2.1)] (eX (MY t.2.1 t.2.2.2.2 (Ax n d t.2.2.2.1),1))∧((b<0∧ -(a*gy t.2.2.1)=n∧ -b=d)∨(¬b<0∧a*gy t.2.2.1=n∧b=d)):= λh0=>by
  by_cases l:b<0
  ·have q:=QL (n:= -(a*gy t.2.2.1)) (d:= -b) (how:=t.2.2.2.1) zR5 (B:=1152921504606846976) ⟨by omega,by omega⟩
   exact⟨_,_,by omega,rnd _ _ ⟨by omega,by omega⟩ ⟨by omega,by omega⟩,fit _ ⟨by omega,by omega⟩,.inl ⟨l,rfl,rfl⟩⟩
  ·have q:=QL (n:=a*gy t.2.2.1) (d:=b) (how:=t.2.2.2.1) zR5 (B:=1152921504606846976) ⟨by omega,by omega⟩
   exact⟨_,_,by omega,rnd _ _ ⟨by omega,by omega⟩ ⟨by omega,by omega⟩,fit _ ⟨by omega,by omega⟩,.inr ⟨l,rfl,rfl⟩⟩
 clear fit rnd m1 m2 ha hb u A ho ht hh hs q1'
 obtain⟨k,bb,f,r,o⟩:=t
 simp only at*
 conv in Gp=>cbv
 simp only[c9,BB]
 generalize Ax (a*b) (gy f) r=z1 at*
 rcases h5 with rfl|rfl|rfl|rfl|rfl
 ·repeat' first|simp(disch:=omega)only[go_sem, *,w1]|apply ab<;>intro h<;>try omega|refine ak f1 ?_
  all_goals simp
 ·repeat' first|simp(disch:=omega)only[go_sem, *,w2]|apply ab<;>intro h<;>try omega|refine ak f2 ?_
  all_goals simp
 ·repeat' first|simp(disch:=omega)only[go_sem, *,w3]|apply zA1<;>intro h<;>try omega|refine ak pst ?_|refine ak q1 ?_|refine ak f3 ?_
  all_goals simp
 ·by_cases h0:b=0
  ·subst h0
   repeat' first|simp(disch:=omega)only[go_sem, *]|apply zA1<;>intro h<;>try omega
   all_goals simp
  ·obtain⟨n,d,hd,c1,c2,hc⟩:=key7 h0
   have g:=eq_false h0
   rcases hc with⟨hn,rfl,rfl⟩|⟨hn,rfl,rfl⟩
   ·have c:=eq_true hn
    clear hn h0 key7 hd
    generalize Ax (-(a*gy f)) (-b) r=z2 at*
    repeat' first|simp(disch:=omega)only[go_sem, *,w4,w5,w7,g,c]|apply zA1<;>intro h<;>try omega|refine ak pst ?_|refine ak c1 ?_|refine ak c2 ?_
    all_goals simp[g,c]
   ·have c:=eq_false hn
    clear hn h0 key7 hd
    generalize Ax (a*gy f) b r=z2 at*
    repeat' first|simp(disch:=omega)only[go_sem, *,w6,g,c]|apply zA1<;>intro h<;>try omega|refine ak pst ?_|refine ak c1 ?_|refine ak c2 ?_
    all_goals simp[g,c]
 ·repeat' first|simp(disch:=omega)only[go_sem, *,w4]|apply ab<;>intro h<;>try omega|refine ak f4 ?_
  all_goals simp
set_option maxRecDepth 20000
set_option maxRecDepth 1000000
theorem DI {op a x:Int} (h: ¬(op=7∧b=0)) (hx:yG op a b=x):ny op a b=if 2147483647<x then((0,0),3)else if x< -2147483647 then((0,0),3)else((x,1),0):=by
 subst hx
 rw[ny,if_neg h]
 by_cases h1:2147483647<yG op a b
 ·rw[if_neg zR5,if_pos h1]
 ·rw[if_neg h1]
  by_cases h2:yG op a b< -2147483647
  ·rw[if_neg zR5,if_pos h2]
  ·rw[if_pos zR5,if_neg h2]
theorem Ip {op a:Int} (ho:4≤op∧op≤7) (ha: -2147483647≤a∧a≤2147483647) (hb: -2147483647≤b∧b≤2147483647):ac Pa0 jm [I op,I a,I b] (gh (ny op a b)):=by
 refine ac.of xD zR6 λ_=>aa ?_
 have m1:=eR ha hb
 have w1:IntKind.wrap .i64 (a+b)=a+b:=wrap_i64 zR5
 have w2:IntKind.wrap .i64 (a-b)=a-b:=wrap_i64 zR5
 have w3:IntKind.wrap .i64 (a*b)=a*b:=wrap_i64 zR5
 have w4:IntKind.wrap .i64 (0-a)= -a:=by rw[zG5];exact wrap_i64 zR5
 have w5:IntKind.wrap .i64 (0-b)= -b:=by rw[zG5];exact wrap_i64 zR5
 have p1:=gC (n:= -a) (d:= -b) ⟨by omega,by omega⟩
 have p2:=gC (n:=a) (d:=b) ⟨by omega,by omega⟩
 have h5:op=4∨op=5∨op=6∨op=7:=by omega
 clear ho m1
 conv in sX=>cbv
 rcases h5 with rfl|rfl|rfl|rfl
 ·rw[DI (x:=a+b) zR6 rfl]
  clear p1 p2
  by_cases h1:2147483647<a+b
  ·rw[if_pos h1]
   repeat' first|simp(disch:=omega)only[go_sem, *,w1,w4,h1]|apply ab<;>intro h<;>try omega
  ·rw[if_neg h1]
   by_cases h2:a+b< -2147483647
   ·rw[if_pos h2]
    exact yE0
   ·rw[if_neg h2]
    exact yE0
 ·rw[DI (x:=a-b) zR6 rfl]
  clear p1 p2
  by_cases h1:2147483647<a-b
  ·rw[if_pos h1]
   repeat' first|simp(disch:=omega)only[go_sem, *,w2,w4,h1]|apply ab<;>intro h<;>try omega
  ·rw[if_neg h1]
   by_cases h2:a-b< -2147483647
   ·rw[if_pos h2]
    exact yE1
   ·rw[if_neg h2]
    exact yE1
 ·rw[DI (x:=a*b) zR6 rfl]
  clear p1 p2
  by_cases h1:2147483647<a*b
  ·rw[if_pos h1]
   repeat' first|simp(disch:=omega)only[go_sem, *,w3,w4,h1]|apply ab<;>intro h<;>try omega
  ·rw[if_neg h1]
   by_cases h2:a*b< -2147483647
   ·rw[if_pos h2]
    exact yE2
   ·rw[if_neg h2]
    exact yE2
 ·by_cases h0:b=0
  ·subst h0
   clear p1 p2
   rw[ny,if_pos ⟨rfl,rfl⟩]
   repeat' first|simp(disch:=omega)only[go_sem, *,w4]|apply ab<;>intro h<;>try omega
  ·have g:=eq_false h0
   rw[DI (x:=flD a b) (λh=>h0 h.2) rfl]
   by_cases hn:b<0
   ·have hx:flD a b= -a/ -b:=if_pos hn
    have p1:=p1 zR5
    rw[←hx]at p1
    have c:=eq_true hn
    clear p2 hx hn h0
    generalize flD a b=x at*
    by_cases h1:2147483647<x
    ·rw[if_pos h1]
     repeat' first|simp(disch:=omega)only[go_sem, *,w4,w5,g,c,h1]|apply ab<;>intro h<;>try omega|refine ak p1 ?_
    ·rw[if_neg h1]
     by_cases h2:x< -2147483647
     ·rw[if_pos h2]
      exact yB4
     ·rw[if_neg h2]
      exact yB4
   ·have hx:flD a b=a/b:=if_neg hn
    have p2:=p2 zR5
    rw[←hx]at p2
    have c:=eq_false hn
    clear p1 hx hn h0
    generalize flD a b=x at*
    by_cases h1:2147483647<x
    ·rw[if_pos h1]
     repeat' first|simp(disch:=omega)only[go_sem, *,w4,w5,g,c,h1]|apply ab<;>intro h<;>try omega|refine ak p2 ?_
    ·rw[if_neg h1]
     by_cases h2:x< -2147483647
     ·rw[if_pos h2]
      exact yB5
     ·rw[if_neg h2]
      exact yB5
variable {a:Fr}
theorem dt (ht:cj t) (h:aK t a):bD a:=by
 unfold aK at h
 split at h
 ·rename_i h2
  have hf:=jf ht h2
  have hh:=fi hf.1 hf.2.1
  unfold bD aH
  omega
 ·split at h
  ·unfold bD aH
   omega
  ·exact ff h
theorem xx (ht:cj t) (ha:bD a):ac Pa0 mQ [mj t,eX a] (Go.Abs.B (decide (aK t a))):=by
 refine ac.of xM zR6 λ_=>aa ?_
 have p1:=aY t
 rw[zB1 ht]at p1
 have p2:=eZ ht ha
 clear ht ha
 conv in sS=>cbv
 repeat' first|simp(disch:=omega)only[go_sem, *]|apply zA1<;>intro h<;>try omega|refine ak p1 ?_|refine ak p2 ?_
 all_goals rfl
theorem O5 (ht:cj t) (h1:t.1≠1) (h:aK t a):a=(a.1,1)∧ -2147483647≤a.1∧a.1≤2147483647:=by
 have hk:=zS ht
 unfold aK at h
 split at h
 ·rename_i h2
  have hf:=jf ht h2
  have hh:=fi hf.1 hf.2.1
  exact⟨zL0 rfl h.1,by omega,by omega⟩
 ·split at h
  ·exact⟨zL0 rfl h.1,h.2⟩
  ·omega
theorem Qz {b:Fr} (ht:cj t) (ha:aK t a) (hb:aK t b):aS a∧aS b∧dY a b=rL t a b:=by
 unfold rL
 by_cases h1:t.1=1
 ·rw[if_pos h1]
  unfold aK at ha hb
  rw[if_neg zR5,if_neg zR5]at ha hb
  exact⟨ha,hb,rfl⟩
 ·rw[if_neg h1]
  obtain⟨e1,r1⟩:=O5 ht h1 ha
  obtain⟨e2,r2⟩:=O5 ht h1 hb
  have o1:aS a:=by rw[e1];exact e9 r1
  have o2:aS b:=by rw[e2];exact e9 r2
  refine⟨o1,o2, ?_⟩
  have d1:a.2=1:=by rw[e1]
  have d2:b.2=1:=by rw[e2]
  rw[dY,if_pos ⟨o1,o2⟩,d1,d2,zQ3,zQ3]
theorem abc {b:Fr} (ht:cj t) (ha:aK t a) (hb:aK t b) (h:rL t a b=0):a=b:=by
 obtain⟨o1,o2,e⟩:=Qz ht ha hb
 exact Mt o1 o2 (e.trans h)
theorem tF {b:Fr} (ht:cj t) (ha:aK t a) (hb:aK t b):ac Pa0 js [mj t,eX a,eX b] (I (rL t a b)):=by
 refine ac.of ul zR6 λ_=>aa ?_
 obtain⟨o1,o2,e⟩:=Qz ht ha hb
 have p1:=xx ht (dt ht ha)
 have p2:=xx ht (dt ht hb)
 rw[zB1 ha]at p1
 rw[zB1 hb]at p2
 have p3:=ld o1 o2
 rw[e]at p3
 clear ht ha hb o1 o2 e
 generalize rL t a b=z at*
 conv in nL=>cbv
 repeat' first|simp(disch:=omega)only[go_sem, *]|apply zA1<;>intro h<;>try omega|refine ak p1 ?_|refine ak p2 ?_|refine ak p3 ?_
 all_goals rfl
set_option maxRecDepth 20000
set_option maxRecDepth 1000000
theorem Rm (hn: -1073741824≤n∧n≤1073741824) (hd:1≤d∧d≤1073741824):(eE n d).2=0∧aS (eE n d).1:=by
 have e:=CV (n:=n) (d:=d) zR5
 have h1:n.natAbs/Nat.gcd n.natAbs d.natAbs≤n.natAbs:=zH8 _ _
 have h2:d.natAbs/Nat.gcd n.natAbs d.natAbs≤d.natAbs:=zH8 _ _
 have h0:(eE n d).2=0:=by
  rw[e,if_neg zR5]
 refine⟨h0, ?_⟩
 rw[eE,if_neg zR5]at h0 ⊢
 exact yz h0
variable {v:Fr}
theorem Ko (ht:cj t) (hv:aK t v):aS (fh t v):=by
 unfold fh
 by_cases h2:t.1=2
 ·rw[if_pos h2]
  have hf:=jf ht h2
  have hh:=fi hf.1 hf.2.1
  have hs:=uQ hf.2.2.1 hf.2.2.2.1
  unfold aK at hv
  rw[if_pos h2]at hv
  exact(Rm ⟨by omega,by omega⟩ ⟨hs.1,hs.2⟩).2
 ·rw[if_neg h2]
  exact(Qz ht hv hv).1
theorem JS (ht:cj t) (hv:aK t v):ac Pa0 sB [mj t,eX v] (eX (fh t v)):=by
 refine ac.of MJ zR6 λ_=>aa ?_
 conv in Bf=>cbv
 simp only[fh]
 by_cases h2:t.1=2
 ·have hf:=jf ht h2
  have hs:=uQ hf.2.2.1 hf.2.2.2.1
  have p1:=pl (t:=t) hf.2.2.1 hf.2.2.2.1
  have p2:=i9 (n:=v.1) (d:=gy t.2.2.1) (dt ht hv).1 zS5
  rw[if_pos h2]
  clear ht hv hf hs
  obtain⟨k,b,f,r,o⟩:=t
  obtain⟨n,d⟩:=v
  simp only at h2 p1 p2 ⊢
  subst h2
  generalize eE n (gy f)=Z at*
  repeat' first|simp(disch:=omega)only[go_sem, *]|apply zA1<;>intro h<;>try omega|refine ak p1 ?_|refine ak p2 ?_
  all_goals rfl
 ·rw[if_neg h2]
  have C:=eq_false h2
  clear ht hv h2
  obtain⟨k,b,f,r,o⟩:=t
  obtain⟨n,d⟩:=v
  simp only at C ⊢
  repeat' first|simp(disch:=omega)only[go_sem, *,C]|apply zA1<;>intro h<;>try omega
  all_goals rfl
theorem acp {x:Fr} (h:aS x): -2147483648≤x.1/x.2∧x.1/x.2≤2147483648∧ -2147483647≤x.1/x.2∧x.1/x.2≤2147483647:=by
 have h1:=h.1
 have h3:=h.2.2.1
 have h4:=h.2.2.2.1
 have a:x.1/x.2≤2147483647:=by
  rw[←Int.lt_add_one_iff]
  exact Int.ediv_lt_of_lt_mul zR5 (by
   have:(2147483647+1:Int)*1≤(2147483647+1)*x.2:=zP7 h1 zR5
   omega)
 have b: -2147483647≤x.1/x.2:=(Int.le_ediv_iff_mul_le zR5).2 (by
  have:(2147483647:Int)*1≤2147483647*x.2:=zP7 h1 zR5
  rw[zR4]
  omega)
 omega
theorem acn {a:Int} (ha: -2147483647≤a∧a≤2147483647) (hb:1≤b∧b≤1073741824): -2305843009213693952≤a*b∧a*b≤2305843009213693952:=by
 have h1:(a*b).natAbs≤2147483647*1073741824:=by
  rw[zQ0]
  exact zQ1 zR5 zR5
 omega
theorem aad {s:Ty} (hs:cj s) (ht:cj t) (hv:aK s v):aK t (wD s t v):=by
 have ho:=Ko hs hv
 unfold wD
 by_cases h3:t.1=3
 ·rw[if_pos h3,aK,if_neg zR5,if_pos h3]
  exact⟨rfl,(acp ho).2.2⟩
 ·rw[if_neg h3]
  by_cases h2:t.1=2
  ·have hf:=jf ht h2
   rw[if_pos h2,aK,if_pos h2]
   exact⟨rfl,XB (fi hf.1 hf.2.1).1⟩
  ·rw[if_neg h2,aK,if_neg h2,if_neg h3]
   exact ho
theorem Np {s:Ty} (hs:cj s) (ht:cj t) (hv:aK s v):ac Pa0 vr [mj s,mj t,eX v] (gh (wD s t v,0)):=by
 refine ac.of Nt zR6 λ_=>aa ?_
 have p1:=aY s
 have p2:=aY t
 rw[zB1 hs]at p1
 rw[zB1 ht]at p2
 have p3:=eZ hs (dt hs hv)
 rw[zB1 hv]at p3
 have p4:=JS hs hv
 have ho:=Ko hs hv
 have hb:=acp ho
 have hk:=zS ht
 have p5:=gC (n:=(fh s v).1) (d:=(fh s v).2) ⟨by have:=ho.2.2.1;omega,by have:=ho.2.2.2.1;omega⟩ (by have:=ho.1;omega)
 have p6:t.1=2→ac Pa0 oM [mj t] (I (gy t.2.2.1))∧IntKind.wrap .i64 ((fh s v).1*gy t.2.2.1)=(fh s v).1*gy t.2.2.1∧ac Pa0 jc [I ((fh s v).1*gy t.2.2.1),I (fh s v).2,I t.2.2.2.1] (I (Ax ((fh s v).1*gy t.2.2.1) (fh s v).2 t.2.2.2.1))∧
   ac Pa0 nz [mj t,I (Ax ((fh s v).1*gy t.2.2.1) (fh s v).2 t.2.2.2.1)] (eX (MY t.2.1 t.2.2.2.2 (Ax ((fh s v).1*gy t.2.2.1) (fh s v).2 t.2.2.2.1),1)):= λh2=>by
  have hf:=jf ht h2
  have hs:=uQ hf.2.2.1 hf.2.2.2.1
  have m:=acn (a:=(fh s v).1) (b:=gy t.2.2.1) ⟨ho.2.2.1,ho.2.2.2.1⟩ hs
  have q:=QL (n:=(fh s v).1*gy t.2.2.1) (d:=(fh s v).2) (how:=t.2.2.2.1) (by have:=ho.1;omega) (B:=2305843009213693952) ⟨by omega,by omega⟩
  exact⟨pl hf.2.2.1 hf.2.2.2.1,wrap_i64 zR5,wi ⟨by omega,by omega⟩ ⟨by have:=ho.1;omega,by have:=ho.2.1;omega⟩ ⟨hf.2.2.2.2.1,hf.2.2.2.2.2.1⟩,Bl hf ⟨by omega,by omega⟩⟩
 clear ho hb hs ht hv
 conv in DQ=>cbv
 simp only[wD]
 generalize fh s v=x at*
 obtain⟨k,b,f,r,o⟩:=t
 obtain⟨k',b',f',r',o'⟩:=s
 obtain⟨n,d⟩:=v
 obtain⟨xn,xd⟩:=x
 simp only at*
 rcases hk with rfl|rfl|rfl
 ·clear p6 p5
  repeat' first|simp(disch:=omega)only[go_sem, *]|apply zA1<;>intro h<;>try omega|refine ak p1 ?_|refine ak p2 ?_|refine ak p3 ?_|refine ak p4 ?_
  all_goals simp
 ·obtain⟨c1,w1,c2,c3⟩:=p6 rfl
  clear p6 p5
  generalize Ax (xn*gy f) xd r=z at*
  repeat' first|simp(disch:=omega)only[go_sem, *,w1]|apply zA1<;>intro h<;>try omega|refine ak p1 ?_|refine ak p2 ?_|refine ak p3 ?_|refine ak p4 ?_|refine ak c1 ?_|refine ak c2 ?_|refine ak c3 ?_
  all_goals simp
 ·clear p6
  repeat' first|simp(disch:=omega)only[go_sem, *]|apply zA1<;>intro h<;>try omega|refine ak p1 ?_|refine ak p2 ?_|refine ak p3 ?_|refine ak p4 ?_|refine ak p5 ?_
  all_goals simp
end Go.Proofs.YtigdjhnndaokjaaGreatDoor
