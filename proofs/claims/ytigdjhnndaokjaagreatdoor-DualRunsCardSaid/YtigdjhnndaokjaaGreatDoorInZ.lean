import Derived.Test.YtigdjhnndaokjaaGreatDoorAbsD
import Derived.Test.YtigdjhnndaokjaaGreatDoorV12c
import Derived.Test.YtigdjhnndaokjaaGreatDoorInE
import Derived.Test.YtigdjhnndaokjaaGreatDoorV14d
import Derived.Test.YtigdjhnndaokjaaGreatDoorV06h
set_option linter.unusedVariables false
set_option linter.unusedSimpArgs false
set_option maxHeartbeats 4000000
set_option maxRecDepth 1000000
open Go.Proofs.Tryz renaming prog→Pa0
namespace Go.Proofs.YtigdjhnndaokjaaGreatDoor
open Go.Abs Go.RowKit
variable {n0:Nat}
theorem ylt {J:YJ} (h:JOk n0 J): ∀k S W,J k S W→(∀b,S b→b<W.heap.size)∧wY W:= λk S W hj=>⟨(h.old k S W hj).1,(h.old k S W hj).2.2⟩
theorem ygr {J:YJ} (h:JOk n0 J): ∀k S W W',J k S W→Below W.heap.size W W'→J k (λb=>S b∨W.heap.size≤b∧b<W'.heap.size) W':= λk S W W' hj hb=>h.grow _ _ _ _ hj ((wC.of_below hb).le (h.old _ _ _ hj).2.1)
abbrev cXs (xs:List Int):AV:= .c (.cptr [c6 xs])
variable {n:Nat}
theorem LD {i:Nat} {f:Nat→List AV} (h:i<n):((List.range n).map f)[i]? =some (f i):=by
 rw[zC7,zL3 h]
 rfl
variable {xs:List Int}
theorem Hs (hn:n≤1000000000) (hC:ac Pa0 xk [aF xs] (I n)):jH Pa0 eV [cXs xs] ((List.range n).map λi:Nat=> [I (i:Int)]):=by
 refine jH.of ⟨_,Tryz.func226,rfl,by kernel_rfl⟩ λl w J hY=> ?_
 have o:=ylt hY.ok
 have y:=ygr hY.ok
 have hx: ∀i,i<n→((List.range n).map λi:Nat=> [I (i:Int)])[i]? =some [I (i:Int)]:= λi h=>LD h
 have u:((List.range n).map λi:Nat=> [I (i:Int)]).length=n:=by simp
 generalize ((List.range n).map λi:Nat=> [I (i:Int)])=ys at*
 refine mU.of o Fv zR6 λhb=> ?_
 conv in wt=>cbv
 refine cH (cf o y ?_)
 repeat' first|simp(disch:=omega)only[go_sem]|((with_reducible refine ab ?_ ?_)<;>intro h<;>try first|omega|simp(disch:=omega)only[go_sem, *])|refine ak hC ?_
 refine⟨[(0,yv l),(5,I n),(6,I 0)],zR7, ?_⟩
 refine ns (Jl (λi:Nat=>(some i, [(0,yv l),(5,I n),(6,I i)])) (λi=>i≤n) (λi=>n-i) ⟨0,by omega,rfl,zR7⟩ ?_)
 intro i hi
 refine cH (cf o y ?_)
 simp(disch:=omega)only[go_sem]
 refine⟨[(7,Go.Abs.B (decide ((i:Int)<n))),(0,yv l),(5,I n),(6,I i)],zR7, ?_⟩
 refine cH (ky rfl (λh1=> ?_) (λh1=> ?_) o)
 ·have v:i<n:=by simpa using h1
  refine mW (cH (ns (cH (cf o y ?_))))
  simp(disch:=omega)only[go_sem]
  refine⟨[(3,I i),(0,yv l),(5,I n),(6,I i)],zR7, ?_⟩
  refine cH (KE 2 rfl o y ?_)
  simp only[List.take,List.drop]
  simp(disch:=omega)only[go_sem]
  refine⟨[(10,I i),(9,yv l),(0,yv l),(5,I n),(6,I i)],zR7,_,m8 hY (hx i v), ?_⟩
  rintro res k' ⟨b,rfl,rfl⟩
  simp(disch:=omega)only[go_sem]
  refine⟨[(12,Go.Abs.B !b),(0,yv l),(5,I n),(6,I i)],zR7, ?_⟩
  refine ky (t:= !b) rfl (λz=> ?_) (λz=> ?_) o
  ·obtain rfl:b=false:=by simpa using z
   exact B1 (.inr rfl)
  ·obtain rfl:b=true:=by simpa using z
   refine mW ?_
   simp only[↓reduceIte]
   refine cf o y ?_
   simp(disch:=omega)only[go_sem,wrap_i64]
   refine⟨[(0,yv l),(5,I n),(6,I ((i+1:Nat):Int))],zR7, ?_⟩
   exact⟨i+1,by omega,by show n-(i+1)<n-i;omega,rfl,zR7⟩
 ·have v:i=n:=by
   have: ¬i<n:=by simpa using h1
   omega
  subst v
  refine Ji ?_
  exact .inl (by rw[u])
abbrev cYl (l:Nat):AV:= .c (.cptr [.val (.func (.yield l) #[] #[])])
theorem RB {pt:Nat→List Int} (hn:n≤1000000000) (hC:ac Pa0 xk [aF xs] (I n)) (hN:ac Pa0 mE [aF xs] (.c (.clo eV [.cptr [c6 xs]])))
  (hP: ∀k:Nat,k<n→ac Pa0 rf [aF xs,I k] (.tup [aF (pt k),Go.Abs.B true])):jH Pa0 qZ [cXs xs] ((List.range n).map λi:Nat=> [aF (pt i)]):=by
 refine jH.of2 QD zR6 λl w J hY=> ?_
 have G:=hY.ok
 have o:=ylt G
 have y:=ygr G
 have hx: ∀i,i<n→((List.range n).map λi:Nat=> [aF (pt i)])[i]? =some [aF (pt i)]:= λi h=>LD h
 have u:((List.range n).map λi:Nat=> [aF (pt i)]).length=n:=by simp
 have T:=Hs hn hC
 have V: ∀i x,((List.range n).map λi:Nat=> [I (i:Int)])[i]? =some x→i<n∧x= [I (i:Int)]:= λi x h=>by
  have v:i<n:=by
   have:=(zB7.1 h).1
   simpa using this
  rw[LD v]at h
  exact⟨v,(Option.some.inj h).symm⟩
 have X: ∀x∈((List.range n).map λi:Nat=> [I (i:Int)]),x.length=1:= λx h=>by
  obtain⟨i,_,rfl⟩:=zE0.1 h
  rfl
 have H:((List.range n).map λi:Nat=> [I (i:Int)]).length=n:=by simp
 generalize ((List.range n).map λi:Nat=> [aF (pt i)])=ys at*
 generalize ((List.range n).map λi:Nat=> [I (i:Int)])=zs at*
 conv in Hf=>cbv
 refine Ja (vG o y ?_)
 simp(disch:=omega)only[go_sem]
 refine⟨[(2,cYl l),(1,cXs xs)],zR7, ?_⟩
 refine Ja (vG o y ?_)
 repeat' first|simp(disch:=omega)only[go_sem]|((with_reducible refine ab ?_ ?_)<;>intro h<;>try first|omega|simp(disch:=omega)only[go_sem, *])|refine dH hN ?_
 refine⟨[(7,.c (.clo eV [.cptr [c6 xs]])),(2,cYl l),(1,cXs xs)],zR7, ?_⟩
 refine O3 (T4 G (λi ko=>ko=some i) [(2,cYl l),(1,cXs xs)] rfl rfl rfl T X zR7 rfl (λl1 k1 x kout Y hk=> ?_) (λkout hk=> ?_))
 ·obtain⟨v,rfl⟩:=V k1 x Y
  subst hk
  refine vG o y ?_
  simp(disch:=omega)only[go_sem,BT]
  refine⟨[(3,I k1),(2,cYl l),(1,cXs xs)],zR7, ?_⟩
  refine O3 (Ja (vG o y ?_))
  have hp:=hP k1 v
  repeat' first|simp(disch:=omega)only[go_sem]|((with_reducible refine ab ?_ ?_)<;>intro h<;>try first|omega|simp(disch:=omega)only[go_sem, *])|refine dH hp ?_
  refine⟨[(4,aF (pt k1)),(2,cYl l),(1,cXs xs)],zR7, ?_⟩
  refine Ja (acH 2 rfl o y ?_)
  simp only[List.take,List.drop]
  simp(disch:=omega)only[go_sem]
  refine⟨[(16,aF (pt k1)),(15,yv l),(2,cYl l),(1,cXs xs)],zR7,_,Ts hY (hx k1 v), ?_⟩
  rintro res k' ⟨b,rfl,rfl⟩
  simp(disch:=omega)only[go_sem]
  refine⟨[(18,Go.Abs.B !b),(2,cYl l),(1,cXs xs)],zR7, ?_⟩
  refine Z6 (t:= !b) rfl (λz=> ?_) (λz=> ?_) o
  ·obtain rfl:b=false:=by simpa using z
   exact aaV (.inr rfl)
  ·obtain rfl:b=true:=by simpa using z
   exact XX rfl
 ·subst hk
  exact .inl (by rw[H,u])
set_option maxRecDepth 20000
set_option maxRecDepth 1000000
def Ql (xs:List Int):Prop:= ∀x∈xs,1≤x∧x≤4096
def vb:Int→List Int→Int
 |_, []=>0
 |p,n::r=>if 65536/p<n then 2 else vb (p*n) r
def Ad (xs:List Int):Int:=if 16<xs.length then 2 else vb 1 xs
def Yu:List Int→Int
 | []=>1
 |n::r=>n*Yu r
theorem Ql.tl {n:Int} {r:List Int} (h:Ql (n::r)):(1≤n∧n≤4096)∧Ql r:=⟨h n zC5,λx hx=>h x (zC3 _ hx)⟩
theorem Ql.get (h:Ql xs) {j:Nat} (hj:j<xs.length):1≤xs[j]∧xs[j]≤4096:=h _ (zA6 hj)
theorem Ql.drop (h:Ql xs) (j:Nat):Ql (xs.drop j):= λx hx=>h x (List.mem_of_mem_drop hx)
theorem abJ: ∀{xs:List Int},Ql xs→1≤Yu xs
 | [],_=>zN4 _
 |n::r,h=>by
  have h1:=abJ h.tl.2
  have h2:=h.tl.1.1
  have h3:=zI4 h2 h1 zR5 zR5
  rw[Yu]
  omega
theorem acy {p n:Int} (hp:1≤p∧p≤65536) (hn:1≤n) (h: ¬65536/p<n):1≤p*n∧p*n≤65536:=by
 have h1:=zI4 hp.1 hn zR5 zR5
 have h2:n*p≤65536:=Int.le_trans (zP6 (show n≤65536/p by omega) zR5) (Int.ediv_mul_le _ zR5)
 rw[zG6 n p]at h2
 omega
theorem aec: ∀{xs:List Int} {p:Int},1≤p∧p≤65536→Ql xs→vb p xs=0→p*Yu xs≤65536
 | [],p,hp,_,_=>by rw[Yu];omega
 |n::r,p,hp,he,h=>by
  rw[vb]at h
  by_cases h1:65536/p<n
  ·rw[if_pos h1]at h;omega
  ·rw[if_neg h1]at h
   rw[Yu,←zL7]
   exact aec (acy hp he.tl.1.1 h1) he.tl.2 h
def okX (xs:List Int):Prop:=Ql xs∧Ad xs=0
theorem okX.bd (h:okX xs):xs.length≤16∧1≤Yu xs∧Yu xs≤65536:=by
 have h1:=h.2
 unfold Ad at h1
 by_cases h2:16<xs.length
 ·rw[if_pos h2]at h1;omega
 ·rw[if_neg h2]at h1
  have:=aec ⟨zN4 _,by omega⟩ h.1 h1
  exact⟨by omega,abJ h.1,by omega⟩
theorem acj {p:Int} {j:Nat} (h:j<xs.length):vb p (xs.drop j)=if 65536/p<xs[j]then 2 else vb (p*xs[j]) (xs.drop (j+1)):=by
 rw[zC0 h,vb]
theorem t7 (he:Ql xs):ac Pa0 k8 [aF xs] (I (Ad xs)):=by
 refine ac.of Ia zR6 λhb=>aa ?_
 have hx:xs.length≤9223372036854775807:=by simpa[f6,fB,f5]using hb.1
 conv in yg=>cbv
 simp only[Ad]
 by_cases A:16<xs.length
 ·rw[if_pos A]
  exact zW0
 ·rw[if_neg A]
  repeat' first|simp(disch:=omega)only[go_sem, *]|apply ab<;>intro h<;>try omega
  refine al (λj:Nat=>⟨[(0,aF xs),(3,I 1),(4,Go.Abs.B false),(12,aF xs),(13,I xs.length),(14,I j)], [],0,0⟩) (λj=>j≤xs.length) (λj=>xs.length-j) ⟨0, [],by omega,by simp⟩ ?_
  intro j hj
  refine aa ?_
  by_cases o:j<xs.length
  ·obtain⟨h1,h2⟩:=he.get o
   have e0:decide (xs[j]=0)=false:=zA9 zR5
   repeat' first|simp(disch:=omega)only[go_sem, *,ae o,wrap_i64,e0]|apply ab<;>intro h<;>try omega
   exact⟨j+1, [],by omega,by omega,by simp⟩
  ·obtain⟨R,hR⟩: ∃R,R=vb 1 xs:=⟨_,rfl⟩
   rw[←hR]
   have HR:Hid (vb 1 (xs.drop 0)=R):=Lib.hid hR.symm
   clear hR
   repeat' first|simp(disch:=omega)only[go_sem, *]|apply ab<;>intro h<;>try omega
   refine al (λx:Nat×Int=>⟨[(3,I x.2),(4,Go.Abs.B false),(26,aF xs),(27,I xs.length),(28,I x.1)], [],0,0⟩) (λx=>x.1≤xs.length∧1≤x.2∧x.2≤65536∧Hid (vb x.2 (xs.drop x.1)=R)) (λx=>xs.length-x.1) ⟨(0,1), [],⟨by omega,zN4 _,by show(1:Int)≤65536;omega,HR⟩,by simp⟩ ?_
   rintro⟨j,p⟩ ⟨hj,C,D,hr⟩
   refine aa ?_
   simp only at hj C D
   by_cases o:j<xs.length
   ·obtain⟨h1,h2⟩:=he.get o
    have hd:=hr.out
    simp only at hd
    rw[acj o]at hd
    have e1:(65536:Int).tdiv p=65536/p:=zE2 zR9
    have q1:0≤65536/p:=zJ5 zR9 zR5
    have q2:65536/p≤65536:=zJ1 _ zR9
    have E:p≠0:=by omega
    clear hr HR
    by_cases hc:65536/p<xs[j]
    ·rw[if_pos hc]at hd
     subst hd
     exact yC6
    ·rw[if_neg hc]at hd
     obtain⟨m1,m2⟩:=acy ⟨C,D⟩ h1 hc
     have HD:=Lib.hid hd
     clear hd
     repeat' first|simp(disch:=omega)only[go_sem, *,ae o,wrap_i64,e1,E,ne_eq]|apply ab<;>intro h<;>try omega
     exact⟨(j+1,p*xs[j]), [],⟨by omega,m1,m2,HD⟩,by show _-_<_-_;omega,by simp⟩
   ·have hd:=hr.out
    simp only at hd
    rw[zF8 zR5,vb]at hd
    subst hd
    exact zW0
theorem CG (he:Ql xs):ac Pa0 lO [aF xs] (I (Ad xs)):=by
 refine ac.of EH zR6 λhb=>aa ?_
 have hx:xs.length≤9223372036854775807:=by simpa[f6,fB,f5]using hb.1
 conv in tC=>cbv
 simp only[Ad]
 by_cases A:16<xs.length
 ·rw[if_pos A]
  exact zW0
 ·rw[if_neg A]
  repeat' first|simp(disch:=omega)only[go_sem, *]|apply ab<;>intro h<;>try omega
  refine al (λj:Nat=>⟨[(0,aF xs),(3,Go.Abs.B false),(4,I j)], [],0,0⟩) (λj=>j≤xs.length) (λj=>xs.length-j) ⟨0, [],by omega,by simp⟩ ?_
  intro j hj
  refine aa ?_
  by_cases o:j<xs.length
  ·obtain⟨h1,h2⟩:=he.get o
   have e0:decide (xs[j]=0)=false:=zA9 zR5
   repeat' first|simp(disch:=omega)only[go_sem, *,ae o,wrap_i64,e0]|apply ab<;>intro h<;>try omega
   exact⟨j+1, [],by omega,by omega,by simp⟩
  ·obtain⟨R,hR⟩: ∃R,R=vb 1 xs:=⟨_,rfl⟩
   rw[←hR]
   have HR:Hid (vb 1 (xs.drop 0)=R):=Lib.hid hR.symm
   clear hR
   repeat' first|simp(disch:=omega)only[go_sem, *]|apply ab<;>intro h<;>try omega
   refine al (λx:Nat×Int=>⟨[(0,aF xs),(3,Go.Abs.B false),(5,I x.2),(6,I x.1)], [],0,0⟩) (λx=>x.1≤xs.length∧1≤x.2∧x.2≤65536∧Hid (vb x.2 (xs.drop x.1)=R)) (λx=>xs.length-x.1) ⟨(0,1), [],⟨by omega,zN4 _,by show(1:Int)≤65536;omega,HR⟩,by simp⟩ ?_
   rintro⟨j,p⟩ ⟨hj,C,D,hr⟩
   refine aa ?_
   simp only at hj C D
   by_cases o:j<xs.length
   ·obtain⟨h1,h2⟩:=he.get o
    have hd:=hr.out
    simp only at hd
    rw[acj o]at hd
    have e1:(65536:Int).tdiv p=65536/p:=zE2 zR9
    have q1:0≤65536/p:=zJ5 zR9 zR5
    have q2:65536/p≤65536:=zJ1 _ zR9
    have E:p≠0:=by omega
    clear hr HR
    by_cases hc:65536/p<xs[j]
    ·rw[if_pos hc]at hd
     subst hd
     exact yC6
    ·rw[if_neg hc]at hd
     obtain⟨m1,m2⟩:=acy ⟨C,D⟩ h1 hc
     have HD:=Lib.hid hd
     clear hd
     repeat' first|simp(disch:=omega)only[go_sem, *,ae o,wrap_i64,e1,E,ne_eq]|apply ab<;>intro h<;>try omega
     exact⟨(j+1,p*xs[j]), [],⟨by omega,m1,m2,HD⟩,by show _-_<_-_;omega,by simp⟩
   ·have hd:=hr.out
    simp only at hd
    rw[zF8 zR5,vb]at hd
    subst hd
    exact zW0
theorem I0 (xs:List Int):ac Pa0 mE [aF xs] (.c (.clo eV [.cptr [c6 xs]])):=by
 refine ac.of KJ zR6 λhb=>aa ?_
 conv in Bx=>cbv
 exact zW0
theorem Tl (h:xs.length≤16):ac Pa0 FY [aF xs] (.c (.clo qZ [.cptr [c6 xs]])):=by
 refine ac.of T0 zR6 λhb=>aa ?_
 conv in OY=>cbv
 repeat' first|simp(disch:=omega)only[go_sem, *]|apply zA1<;>intro h<;>try omega|refine I9 (aD λx=>rfl) zR8 zR8 ?_
 all_goals trace_state
abbrev sI:TS:= .int .i64
abbrev sMo:TS:= .slice [.str,sI]
abbrev sLi:TS:= .slice [sI,sMo]
abbrev lIx:List TS:= [sI,sMo,.str,sLi]
abbrev lE:List TS:= [sI,.str,sI,sI,sI,sI,sI,sI,sI,sI,sMo,.slice lIx]
abbrev sAx:TS:= .slice [.str,sI,sMo]
abbrev adQ:List TS:= [.str,sI,sI,sI,sI,sI,sLi]
abbrev acT:List TE:= [.t .str,.t sI,.t sI,.t sI,.t sI,.t sI,.t sAx,.t sAx,.t sI,.t sI,.t .str,.t sI,.t sI,.t sI,.t sI,.t sI,.t sI,.t sI,.t sI,.t sMo,.t (.slice lIx),.ex lE]
abbrev ac1:List TE:= [.t (.slice [.str]),.t (.slice [sI,sMo,.bool]),.t (.slice adQ),.sl acT,.t (.slice [.str])]
variable {p:PC}
theorem vP (h:Ik sMo p): ∃l:List aG,p=bQ l∧ ∀m∈l,aH m.2:=by
 obtain⟨l,h1,h2,_⟩:=rK (λm:aG=>mP m) (λm=>aH m.2) (λr hr=>by
  obtain⟨p1,r1,rfl,h1,q1⟩:=cN hr
  obtain⟨p2,rfl,h2⟩:=wg q1
  obtain⟨s,rfl,_⟩:=EN h1
  obtain⟨n,rfl,i2⟩:=dk h2
  exact⟨(s,n),rfl,i2⟩) h
 exact⟨l,h1,h2⟩
theorem Zj (h:Ik sLi p): ∃l:List iB,p=dp bT l∧ ∀x∈l,d8 x:=by
 obtain⟨l,h1,h2,_⟩:=rK (λm:iB=>bT m) (λx=>d8 x) (λr hr=>by
  obtain⟨p1,r1,rfl,h1,q1⟩:=cN hr
  obtain⟨p2,rfl,h2⟩:=wg q1
  obtain⟨n,rfl,i1⟩:=dk h1
  obtain⟨l,rfl,i2⟩:=vP h2
  exact⟨(n,l),rfl,i1,i2⟩) h
 exact⟨l,h1,h2⟩
theorem acs (h:Ik (.slice lIx) p): ∃l:List Ix,p=dp gS l∧ ∀x∈l,d8 x.1∧ ∀f∈x.2.2,d8 f:=by
 obtain⟨l,h1,h2,_⟩:=rK (λm:Ix=>gS m) (λx=>d8 x.1∧ ∀f∈x.2.2,d8 f) (λr hr=>by
  obtain⟨p1,r1,rfl,h1,q1⟩:=cN hr
  obtain⟨p2,r2,rfl,h2,q2⟩:=cN q1
  obtain⟨p3,r3,rfl,h3,q3⟩:=cN q2
  obtain⟨p4,rfl,h4⟩:=wg q3
  obtain⟨n,rfl,i1⟩:=dk h1
  obtain⟨l,rfl,i2⟩:=vP h2
  obtain⟨s,rfl,_⟩:=EN h3
  obtain⟨f,rfl,i4⟩:=Zj h4
  exact⟨((n,l),s,f),rfl,⟨i1,i2⟩,i4⟩) h
 exact⟨l,h1,h2⟩
theorem acw (h:Ik sAx p): ∃l:List iF,p=dp gw l∧ ∀a∈l,d8 a.2:=by
 obtain⟨l,h1,h2,_⟩:=rK (λm:iF=>gw m) (λa=>d8 a.2) (λr hr=>by
  obtain⟨p1,r1,rfl,h1,q1⟩:=cN hr
  obtain⟨p2,r2,rfl,h2,q2⟩:=cN q1
  obtain⟨p3,rfl,h3⟩:=wg q2
  obtain⟨s,rfl,_⟩:=EN h1
  obtain⟨n,rfl,i2⟩:=dk h2
  obtain⟨l,rfl,i3⟩:=vP h3
  exact⟨(s,n,l),rfl,i2,i3⟩) h
 exact⟨l,h1,h2⟩
theorem acD (h:Ik (.slice [sI,sMo,.bool]) p): ∃l:List MZ,p=dp cP l∧ ∀c∈l,d8 c.1:=by
 obtain⟨l,h1,h2,_⟩:=rK (λm:MZ=>cP m) (λc=>d8 c.1) (λr hr=>by
  obtain⟨p1,r1,rfl,h1,q1⟩:=cN hr
  obtain⟨p2,r2,rfl,h2,q2⟩:=cN q1
  obtain⟨p3,rfl,h3⟩:=wg q2
  obtain⟨n,rfl,i1⟩:=dk h1
  obtain⟨l,rfl,i2⟩:=vP h2
  obtain⟨b,rfl⟩:=adp h3
  exact⟨((n,l),b),rfl,i1,i2⟩) h
 exact⟨l,h1,h2⟩
theorem acU (h:Ik (.slice adQ) p): ∃l:List gV,p=dp ef l∧ ∀x∈l,∀f∈x.2.2,d8 f:=by
 obtain⟨l,h1,h2,_⟩:=rK (λm:gV=>ef m) (λx=> ∀f∈x.2.2,d8 f) (λr hr=>by
  obtain⟨p1,r1,rfl,h1,q1⟩:=cN hr
  obtain⟨p2,r2,rfl,h2,q2⟩:=cN q1
  obtain⟨p3,r3,rfl,h3,q3⟩:=cN q2
  obtain⟨p4,r4,rfl,h4,q4⟩:=cN q3
  obtain⟨p5,r5,rfl,h5,q5⟩:=cN q4
  obtain⟨p6,r6,rfl,h6,q6⟩:=cN q5
  obtain⟨p7,rfl,h7⟩:=wg q6
  obtain⟨s,rfl,_⟩:=EN h1
  obtain⟨n2,rfl,_⟩:=dk h2
  obtain⟨n3,rfl,_⟩:=dk h3
  obtain⟨n4,rfl,_⟩:=dk h4
  obtain⟨n5,rfl,_⟩:=dk h5
  obtain⟨n6,rfl,_⟩:=dk h6
  obtain⟨l,rfl,i7⟩:=Zj h7
  exact⟨(s,(n2,n3,n4,n5,n6),l),rfl,i7⟩) h
 exact⟨l,h1,h2⟩
def ad1 (e:Ex):List PC:= [pI e.op,pS e.name,pI e.val.1,pI e.val.2,pI e.ty.1,pI e.ty.2.1,pI e.ty.2.2.1,pI e.ty.2.2.2.1,pI e.ty.2.2.2.2,pI e.lin.1,bQ e.lin.2,dp gS e.idx]
theorem Rn {e:Ex} (h1:d8 e.lin) (h2: ∀x∈e.idx,d8 x.1∧ ∀f∈x.2.2,d8 f): ∀g∈e.forms,d8 g:=by
 intro g hg
 rcases zD7.1 hg with rfl|hg
 ·exact h1
 ·obtain⟨x,hx,hg⟩:=zM9.1 hg
  rcases zD7.1 hg with rfl|hg
  ·exact(h2 x hx).1
  ·exact(h2 x hx).2 g hg
variable {ps:List PC}
theorem acL (h:FL lE ps): ∃f:List Ex→Ex,(∀l,ps=ad1 (f l)∧(f l).args=l)∧ ∀l,bD (f l).val∧ ∀g∈(f l).forms,d8 g:=by
 obtain⟨p1,r1,rfl,h1,q1⟩:=cN h
 obtain⟨p2,r2,rfl,h2,q2⟩:=cN q1
 obtain⟨p3,r3,rfl,h3,q3⟩:=cN q2
 obtain⟨p4,r4,rfl,h4,q4⟩:=cN q3
 obtain⟨p5,r5,rfl,h5,q5⟩:=cN q4
 obtain⟨p6,r6,rfl,h6,q6⟩:=cN q5
 obtain⟨p7,r7,rfl,h7,q7⟩:=cN q6
 obtain⟨p8,r8,rfl,h8,q8⟩:=cN q7
 obtain⟨p9,r9,rfl,h9,q9⟩:=cN q8
 obtain⟨p10,r10,rfl,K,q10⟩:=cN q9
 obtain⟨p11,r11,rfl,L,q11⟩:=cN q10
 obtain⟨p12,rfl,M⟩:=wg q11
 obtain⟨n1,rfl,_⟩:=dk h1
 obtain⟨s,rfl,_⟩:=EN h2
 obtain⟨n3,rfl,i3⟩:=dk h3
 obtain⟨n4,rfl,i4⟩:=dk h4
 obtain⟨n5,rfl,_⟩:=dk h5
 obtain⟨n6,rfl,_⟩:=dk h6
 obtain⟨n7,rfl,_⟩:=dk h7
 obtain⟨n8,rfl,_⟩:=dk h8
 obtain⟨n9,rfl,_⟩:=dk h9
 obtain⟨n10,rfl,i10⟩:=dk K
 obtain⟨m,rfl,i11⟩:=vP L
 obtain⟨x,rfl,i12⟩:=acs M
 exact⟨λl=> .mk n1 s (n3,n4) (n5,n6,n7,n8,n9) (n10,m) x l,λl=>⟨rfl,rfl⟩,λl=>⟨⟨i3,i4⟩,Rn (e:= .mk n1 s (n3,n4) (n5,n6,n7,n8,n9) (n10,m) x l) ⟨i10,i11⟩ i12⟩⟩
theorem ac5 (e:Ex):e.row=ad1 e++ [.slice (e.args.map Ex.row)]:=by rw[Ex.row_eq];rfl
def TB (e:Ex):Prop:= ∀a∈e.pre,bD a.val∧ ∀l∈a.forms,d8 l
theorem YL {e:Ex} (h:bD e.val∧ ∀l∈e.forms,d8 l) (ha: ∀a∈e.args,TB a):TB e:=by
 intro b hb
 rw[Ex.pre_eq]at hb
 rcases zD7.1 hb with rfl|hb
 ·exact h
 ·have key: ∀l:List Ex,(∀a∈l,TB a)→ ∀b∈Ex.pres l,bD b.val∧ ∀l∈b.forms,d8 l:=by
   intro l
   induction l with
   |nil=>intro _ b hb;simp[Ex.pres]at hb
   |cons x r ih=>
    intro h b hb
    rw[Ex.pres]at hb
    rcases zE7.1 hb with hb|hb
    ·exact h x zC5 b hb
    ·exact ih (λa ha=>h a (zC3 _ ha)) b hb
  exact key _ ha b hb
theorem ad5 (h:OkX lE p): ∃l:List Ex,p= .slice (l.map Ex.row)∧ ∀a∈l,TB a:=by
 induction h with
 | @mk rows hm h0 h1 h2 ih=>
  have key: ∀rs:List (List PC),(∀r∈rs,r∈rows)→ ∃l:List Ex,rs=l.map Ex.row∧ ∀a∈l,TB a:=by
   intro rs
   induction rs with
   |nil=>intro _;exact⟨[],rfl,by simp⟩
   |cons r rs N=>
    intro v
    have hr:=v r zC5
    obtain⟨l,hl,hq⟩:=N λx hx=>v x (zC3 _ hx)
    have u:=h0 r hr
    obtain⟨q,F⟩: ∃q,r[12]? =some q:=⟨_,zA7 zV0⟩
    obtain⟨args,rfl,ha⟩:=ih r hr q F
    obtain⟨f,hf,hv⟩:=acL (ps:=r.take 12) ⟨by rw[zI2,u];rfl,λi s p hs hp=>h1 r hr i s p hs (by
     rw[List.getElem?_take]at hp
     split at hp
     ·exact hp
     ·cases hp)⟩
    have Q:r=(f args).row:=by
     rw[ac5,←(hf args).1,(hf args).2]
     have:r=r.take 12++r.drop 12:=(zF1 12 r).symm
     rw[this]
     congr 1
     ·rw[←this]
     ·have hd:r.drop 12= [r[12]' zV0]:=by
       rw[zC0 zV0,zD6 zV0]
      rw[hd]
      rw[zA7 zV0]at F
      injection F with F
      rw[F]
    refine⟨f args::l,by rw[zB8,←hl,←Q],λa O=> ?_⟩
    rcases zD7.1 O with rfl|O
    ·exact YL (hv _) (by rw[(hf args).2];exact ha)
    ·exact hq a O
  obtain⟨l,hl,hq⟩:=key rows λr hr=>hr
  exact⟨l,by rw[hl],hq⟩
theorem cJ {s:TE} {l:List TE} (h:FI (s::l) ps): ∃p r,ps=p::r∧OkE s p∧FI l r:=by
 obtain⟨h1,h2⟩:=h
 match ps with
 |p::r=>exact⟨p,r,rfl,h2 0 s p rfl rfl,by simpa using h1,λi s p hi hp=>h2 (i+1) s p zS7 zV7⟩
 | []=>simp at h1
theorem YU (h:FI [] ps):ps= []:=zG4 h.1
theorem FM {s:TS} (h:OkE (.t s) p):Ik s p:=by cases h;assumption
theorem oeX {l:List TS} (h:OkE (.ex l) p):OkX l p:=by cases h;assumption
theorem acS (h:OkE (.sl acT) p): ∃l:List lH,p=dp bU l∧ ∀d∈l,TB d.body∧ ∀a∈d.dims++d.red,d8 a.2:=by
 cases h with
 | @sl _ rows hm hl h=>
  have key: ∀rs:List (List PC),(∀r∈rs,r∈rows)→ ∃l:List lH,rs=l.map bU∧ ∀d∈l,TB d.body∧ ∀a∈d.dims++d.red,d8 a.2:=by
   intro rs
   induction rs with
   |nil=>intro _;exact⟨[],rfl,by simp⟩
   |cons r rs N=>
    intro v
    have hr:=v r zC5
    obtain⟨l,P,hq⟩:=N λx hx=>v x (zC3 _ hx)
    have u:r.length=22:=hl r hr
    have hE:FI acT r:=⟨hl r hr,h r hr⟩
    obtain⟨p1,r1,rfl,h1,q1⟩:=cJ hE
    obtain⟨p2,r2,rfl,h2,q2⟩:=cJ q1
    obtain⟨p3,r3,rfl,h3,q3⟩:=cJ q2
    obtain⟨p4,r4,rfl,h4,q4⟩:=cJ q3
    obtain⟨p5,r5,rfl,h5,q5⟩:=cJ q4
    obtain⟨p6,r6,rfl,h6,q6⟩:=cJ q5
    obtain⟨p7,r7,rfl,h7,q7⟩:=cJ q6
    obtain⟨p8,r8,rfl,h8,q8⟩:=cJ q7
    obtain⟨p9,r9,rfl,h9,q9⟩:=cJ q8
    obtain⟨p10,r10,rfl,K,q10⟩:=cJ q9
    obtain⟨p11,r11,rfl,L,q11⟩:=cJ q10
    obtain⟨p12,r12,rfl,M,q12⟩:=cJ q11
    obtain⟨p13,r13,rfl,Z,q13⟩:=cJ q12
    obtain⟨p14,r14,rfl,hA,q14⟩:=cJ q13
    obtain⟨p15,r15,rfl,hB,q15⟩:=cJ q14
    obtain⟨p16,r16,rfl,A,q16⟩:=cJ q15
    obtain⟨p17,r17,rfl,hD,q17⟩:=cJ q16
    obtain⟨p18,r18,rfl,hF,q18⟩:=cJ q17
    obtain⟨p19,r19,rfl,hG,q19⟩:=cJ q18
    obtain⟨p20,r20,rfl,hI,q20⟩:=cJ q19
    obtain⟨p21,r21,rfl,hJ,q21⟩:=cJ q20
    obtain⟨p22,r22,rfl,hK,q22⟩:=cJ q21
    obtain rfl:=YU q22
    obtain⟨s1,rfl,_⟩:=EN (FM h1)
    obtain⟨n2,rfl,_⟩:=dk (FM h2)
    obtain⟨n3,rfl,_⟩:=dk (FM h3)
    obtain⟨n4,rfl,_⟩:=dk (FM h4)
    obtain⟨n5,rfl,_⟩:=dk (FM h5)
    obtain⟨n6,rfl,_⟩:=dk (FM h6)
    obtain⟨a7,rfl,i7⟩:=acw (FM h7)
    obtain⟨a8,rfl,i8⟩:=acw (FM h8)
    obtain⟨n9,rfl,_⟩:=dk (FM h9)
    obtain⟨n10,rfl,_⟩:=dk (FM K)
    obtain⟨s11,rfl,_⟩:=EN (FM L)
    obtain⟨n12,rfl,i12⟩:=dk (FM M)
    obtain⟨n13,rfl,i13⟩:=dk (FM Z)
    obtain⟨n14,rfl,_⟩:=dk (FM hA)
    obtain⟨n15,rfl,_⟩:=dk (FM hB)
    obtain⟨n16,rfl,_⟩:=dk (FM A)
    obtain⟨n17,rfl,_⟩:=dk (FM hD)
    obtain⟨n18,rfl,_⟩:=dk (FM hF)
    obtain⟨n19,rfl,i19⟩:=dk (FM hG)
    obtain⟨m20,rfl,i20⟩:=vP (FM hI)
    obtain⟨x21,rfl,i21⟩:=acs (FM hJ)
    obtain⟨ars,rfl,ha⟩:=ad5 (oeX hK)
    refine⟨⟨s1,(n2,n3,n4,n5,n6),a7,a8,n9,.mk n10 s11 (n12,n13) (n14,n15,n16,n17,n18) (n19,m20) x21 ars⟩::l,by rw[zB8,←P];rfl,λd hd=> ?_⟩
    rcases zD7.1 hd with rfl|hd
    ·exact⟨YL ⟨⟨i12,i13⟩,Rn (e:= .mk n10 s11 (n12,n13) (n14,n15,n16,n17,n18) (n19,m20) x21 ars) ⟨i19,i20⟩ i21⟩ ha,λa h=>(zE7.1 h).elim (i7 a) (i8 a)⟩
    ·exact hq d hd
  obtain⟨l,P,hq⟩:=key rows λr hr=>hr
  exact⟨l,by rw[P],hq⟩
theorem aex (h:FI ac1 ps): ∃p:bu,ps= [bj p.sizes,dp cP p.wher,dp ef p.params,dp bU p.defs,bj p.outs]∧m9 p∧Et p:=by
 obtain⟨p1,r1,rfl,h1,q1⟩:=cJ h
 obtain⟨p2,r2,rfl,h2,q2⟩:=cJ q1
 obtain⟨p3,r3,rfl,h3,q3⟩:=cJ q2
 obtain⟨p4,r4,rfl,h4,q4⟩:=cJ q3
 obtain⟨p5,r5,rfl,h5,q5⟩:=cJ q4
 obtain rfl:=YU q5
 obtain⟨a,rfl,_⟩:=Yt (FM h1)
 obtain⟨b,rfl,hb⟩:=acD (FM h2)
 obtain⟨c,rfl,hc⟩:=acU (FM h3)
 obtain⟨d,rfl,hd⟩:=acS h4
 obtain⟨e,rfl,_⟩:=Yt (FM h5)
 exact⟨⟨a,b,c,d,e⟩,rfl,λx hx a ha=>((hd x hx).1 a ha).1,hb,hc,λx hx=>⟨(hd x hx).2,λa ha=>((hd x hx).1 a ha).2⟩⟩
end Go.Proofs.YtigdjhnndaokjaaGreatDoor
