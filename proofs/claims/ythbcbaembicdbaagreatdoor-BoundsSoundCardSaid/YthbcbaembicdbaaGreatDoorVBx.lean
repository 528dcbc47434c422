import Derived.Test.YthbcbaembicdbaaGreatDoorLaw
import Derived.Test.YthbcbaembicdbaaGreatDoorAbs28
import Derived.Lib.Hide
set_option linter.unusedVariables false
set_option linter.unusedSimpArgs false
set_option maxRecDepth 20000
namespace Go.Proofs.YthbcbaembicdbaaGreatDoor
open Go.Abs Go.RowKit
theorem ylt {n0:Nat} {J:YJ} (h:Sx n0 J): ∀k S W,J k S W→(∀b,S b→b<W.heap.size)∧mN W:= λk S W hj=>⟨(h.old k S W hj).1,(h.old k S W hj).2.2⟩
theorem ygr {n0:Nat} {J:YJ} (h:Sx n0 J): ∀k S W W',J k S W→Below W.heap.size W W'→J k (λb=>S b∨W.heap.size≤b∧b<W'.heap.size) W':= λk S W W' hj hb=>h.grow _ _ _ _ hj ((fc.of_below hb).le (h.old _ _ _ hj).2.1)
abbrev WU (xs:List Int):AV:= .c (.cptr [mz xs])
theorem Dt {n i:Nat} {f:Nat→List AV} (h:i<n):((List.range n).map f)[i]? =some (f i):=by
 rw[List.getElem?_map,List.getElem?_range h]
 rfl
theorem CC {xs:List Int} {n:Nat} (hn:n≤1000000000) (hC:af Tryz.prog oH [dc xs] (I n)):iS Tryz.prog fO [WU xs] ((List.range n).map λi:Nat=> [I (i:Int)]):=by
 refine iS.of ⟨_,Tryz.func145,rfl,by kernel_rfl⟩ λl w J hY=> ?_
 have hlt:=ylt hY.ok
 have hgr:=ygr hY.ok
 have hx: ∀i,i<n→((List.range n).map λi:Nat=> [I (i:Int)])[i]? =some [I (i:Int)]:= λi h=>Dt h
 have hlen:((List.range n).map λi:Nat=> [I (i:Int)]).length=n:=by simp
 generalize ((List.range n).map λi:Nat=> [I (i:Int)])=ys at*
 refine kP.of hlt Bh (by simp) λhb=> ?_
 simp only[sm]
 refine cE (cg hlt hgr ?_)
 repeat' first|simp(disch:=omega) only[go_sem]|((with_reducible refine ab ?_ ?_)<;>intro h<;>try first|omega|simp(disch:=omega) only[go_sem, *])|(refine aY hC rfl rfl ?_)
 refine⟨[(0,yv l),(5,I n),(6,I 0)],(by simp[gi,ij,c7,b8,dp,rn,yv,ct,aV,cU,cG,bv,c9,cz,aA,al,ja,gQ,cw]), ?_⟩
 refine ll (Di (λi:Nat=>(some i, [(0,yv l),(5,I n),(6,I i)])) (λi=>i≤n) (λi=>n-i) ⟨0,by omega,rfl,(by simp[gi,ij,c7,b8,dp,rn,yv,ct,aV,cU,cG,bv,c9,cz,aA,al,ja,gQ,cw])⟩ ?_)
 intro i hi
 refine cE (cg hlt hgr ?_)
 simp(disch:=omega) only[go_sem]
 refine⟨[(7,Go.Abs.B (decide ((i:Int)<n))),(0,yv l),(5,I n),(6,I i)],(by simp[gi,ij,c7,b8,dp,rn,yv,ct,aV,cU,cG,bv,c9,cz,aA,al,ja,gQ,cw]), ?_⟩
 refine cE (jP rfl (λh1=> ?_) (λh1=> ?_) hlt)
 ·have hin:i<n:=by simpa using h1
  refine kN (cE (ll (cE (cg hlt hgr ?_))))
  simp(disch:=omega) only[go_sem]
  refine⟨[(3,I i),(0,yv l),(5,I n),(6,I i)],(by simp[gi,ij,c7,b8,dp,rn,yv,ct,aV,cU,cG,bv,c9,cz,aA,al,ja,gQ,cw]), ?_⟩
  refine cE (FE 2 rfl hlt hgr ?_)
  simp only[List.take,List.drop]
  simp(disch:=omega) only[go_sem]
  refine⟨[(10,I i),(9,yv l),(0,yv l),(5,I n),(6,I i)],(by simp[gi,ij,c7,b8,dp,rn,yv,ct,aV,cU,cG,bv,c9,cz,aA,al,ja,gQ,cw]),_,lD hY (hx i hin), ?_⟩
  rintro res k' ⟨b,rfl,rfl⟩
  simp(disch:=omega) only[go_sem]
  refine⟨[(12,Go.Abs.B !b),(0,yv l),(5,I n),(6,I i)],(by simp[gi,ij,c7,b8,dp,rn,yv,ct,aV,cU,cG,bv,c9,cz,aA,al,ja,gQ,cw]), ?_⟩
  refine jP (t:= !b) rfl (λhb0=> ?_) (λhb0=> ?_) hlt
  ·obtain rfl:b=false:=by simpa using hb0
   exact xT (.inr rfl)
  ·obtain rfl:b=true:=by simpa using hb0
   refine kN ?_
   simp only[↓reduceIte]
   refine cg hlt hgr ?_
   simp(disch:=omega) only[go_sem,wrap_i64]
   refine⟨[(0,yv l),(5,I n),(6,I ((i+1:Nat):Int))],(by simp[gi,ij,c7,b8,dp,rn,yv,ct,aV,cU,cG,bv,c9,cz,aA,al,ja,gQ,cw]), ?_⟩
   exact⟨i+1,by omega,by show n-(i+1)<n-i;omega,rfl,(by simp[gi,ij,c7,b8,dp,rn,yv,ct,aV,cU,cG,bv,c9,cz,aA,al,ja,gQ,cw])⟩
 ·have hin:i=n:=by
   have: ¬i<n:=by simpa using h1
   omega
  subst hin
  refine C8 ?_
  exact .inl (by rw[hlen])
abbrev YE (l:Nat):AV:= .c (.cptr [.val (.func (.yield l) #[] #[])])
theorem KV {xs:List Int} {n:Nat} {pt:Nat→List Int} (hn:n≤1000000000) (hC:af Tryz.prog oH [dc xs] (I n)) (hN:af Tryz.prog pJ [dc xs] (.c (.clo fO [.cptr [mz xs]])))
  (hP: ∀k:Nat,k<n→af Tryz.prog tN [dc xs,I k] (.tup [dc (pt k),Go.Abs.B true])):iS Tryz.prog vz [WU xs] ((List.range n).map λi:Nat=> [dc (pt i)]):=by
 refine iS.of2 I5 (by simp) λl w J hY=> ?_
 have hok:=hY.ok
 have hlt:=ylt hok
 have hgr:=ygr hok
 have hx: ∀i,i<n→((List.range n).map λi:Nat=> [dc (pt i)])[i]? =some [dc (pt i)]:= λi h=>Dt h
 have hlen:((List.range n).map λi:Nat=> [dc (pt i)]).length=n:=by simp
 have hY1:=CC hn hC
 have hx1: ∀i x,((List.range n).map λi:Nat=> [I (i:Int)])[i]? =some x→i<n∧x= [I (i:Int)]:= λi x h=>by
  have hin:i<n:=by
   have:=(List.getElem?_eq_some_iff.1 h).1
   simpa using this
  rw[Dt hin]at h
  exact⟨hin,(Option.some.inj h).symm⟩
 have hl1: ∀x∈((List.range n).map λi:Nat=> [I (i:Int)]),x.length=1:= λx h=>by
  obtain⟨i,_,rfl⟩:=List.mem_map.1 h
  rfl
 have hlen1:((List.range n).map λi:Nat=> [I (i:Int)]).length=n:=by simp
 generalize ((List.range n).map λi:Nat=> [dc (pt i)])=ys at*
 generalize ((List.range n).map λi:Nat=> [I (i:Int)])=zs at*
 simp only[B4]
 refine C9 (ru hlt hgr ?_)
 simp(disch:=omega) only[go_sem]
 refine⟨[(2,YE l),(1,WU xs)],(by simp[gi,ij,c7,b8,dp,rn,yv,ct,aV,cU,cG,bv,c9,cz,aA,al,ja,gQ,cw]), ?_⟩
 refine C9 (ru hlt hgr ?_)
 repeat' first|simp(disch:=omega) only[go_sem]|((with_reducible refine ab ?_ ?_)<;>intro h<;>try first|omega|simp(disch:=omega) only[go_sem, *])|(refine el hN rfl rfl ?_)
 refine⟨[(7,.c (.clo fO [.cptr [mz xs]])),(2,YE l),(1,WU xs)],(by simp[gi,ij,c7,b8,dp,rn,yv,ct,aV,cU,cG,bv,c9,cz,aA,al,ja,gQ,cw]), ?_⟩
 refine Is (Nj hok (λi ko=>ko=some i) [(2,YE l),(1,WU xs)] rfl rfl rfl hY1 hl1 (by simp[gi,ij,c7,b8,dp,rn,yv,ct,aV,cU,cG,bv,c9,cz,aA,al,ja,gQ,cw]) rfl (λl1 k1 x kout hxx hk=> ?_) (λkout hk=> ?_))
 ·obtain⟨hin,rfl⟩:=hx1 k1 x hxx
  subst hk
  refine ru hlt hgr ?_
  simp(disch:=omega) only[go_sem,EF]
  refine⟨[(3,I k1),(2,YE l),(1,WU xs)],(by simp[gi,ij,c7,b8,dp,rn,yv,ct,aV,cU,cG,bv,c9,cz,aA,al,ja,gQ,cw]), ?_⟩
  refine Is (C9 (ru hlt hgr ?_))
  have hp:=hP k1 hin
  repeat' first|simp(disch:=omega) only[go_sem]|((with_reducible refine ab ?_ ?_)<;>intro h<;>try first|omega|simp(disch:=omega) only[go_sem, *])|(refine el hp rfl rfl ?_)
  refine⟨[(4,dc (pt k1)),(2,YE l),(1,WU xs)],(by simp[gi,ij,c7,b8,dp,rn,yv,ct,aV,cU,cG,bv,c9,cz,aA,al,ja,gQ,cw]), ?_⟩
  refine C9 (ZG 2 rfl hlt hgr ?_)
  simp only[List.take,List.drop]
  simp(disch:=omega) only[go_sem]
  refine⟨[(16,dc (pt k1)),(15,yv l),(2,YE l),(1,WU xs)],(by simp[gi,ij,c7,b8,dp,rn,yv,ct,aV,cU,cG,bv,c9,cz,aA,al,ja,gQ,cw]),_,Kk hY (hx k1 hin), ?_⟩
  rintro res k' ⟨b,rfl,rfl⟩
  simp(disch:=omega) only[go_sem]
  refine⟨[(18,Go.Abs.B !b),(2,YE l),(1,WU xs)],(by simp[gi,ij,c7,b8,dp,rn,yv,ct,aV,cU,cG,bv,c9,cz,aA,al,ja,gQ,cw]), ?_⟩
  refine VP (t:= !b) rfl (λhb0=> ?_) (λhb0=> ?_) hlt
  ·obtain rfl:b=false:=by simpa using hb0
   exact Wg (.inr rfl)
  ·obtain rfl:b=true:=by simpa using hb0
   exact SK rfl
 ·subst hk
  exact .inl (by rw[hlen1,hlen])
def pK (xs:List Int):Prop:= ∀x∈xs,1≤x∧x≤4096
def vb:Int→List Int→Int
 |_, []=>0
 |p,n::r=>if 65536/p<n then 2 else vb (p*n) r
def CY (xs:List Int):Int:=if 16<xs.length then 2 else vb 1 xs
def gW:List Int→Int
 | []=>1
 |n::r=>n*gW r
theorem pK.tl {n:Int} {r:List Int} (h:pK (n::r)):(1≤n∧n≤4096)∧pK r:=⟨h n List.mem_cons_self,λx hx=>h x (List.mem_cons_of_mem _ hx)⟩
theorem pK.get {xs:List Int} (h:pK xs) {j:Nat} (hj:j<xs.length):1≤xs[j]∧xs[j]≤4096:=h _ (List.getElem_mem hj)
theorem pK.drop {xs:List Int} (h:pK xs) (j:Nat):pK (xs.drop j):= λx hx=>h x (List.mem_of_mem_drop hx)
theorem A1: ∀{xs:List Int},pK xs→1≤gW xs
 | [],_=>Int.le_refl _
 |n::r,h=>by
  have h1:=A1 h.tl.2
  have h2:=h.tl.1.1
  have h3:=Int.mul_le_mul h2 h1 (by omega) (by omega)
  rw[gW]
  omega
theorem X1 {p n:Int} (hp:1≤p∧p≤65536) (hn:1≤n) (h: ¬65536/p<n):1≤p*n∧p*n≤65536:=by
 have h1:=Int.mul_le_mul hp.1 hn (by omega) (by omega)
 have h2:n*p≤65536:=Int.le_trans (Int.mul_le_mul_of_nonneg_right (show n≤65536/p by omega) (by omega)) (Int.ediv_mul_le _ (by omega))
 rw[Int.mul_comm n p]at h2
 omega
theorem O7: ∀{xs:List Int} {p:Int},1≤p∧p≤65536→pK xs→vb p xs=0→p*gW xs≤65536
 | [],p,hp,_,_=>by rw[gW];omega
 |n::r,p,hp,he,h=>by
  rw[vb]at h
  by_cases h1:65536/p<n
  ·rw[if_pos h1]at h;omega
  ·rw[if_neg h1]at h
   rw[gW,←Int.mul_assoc]
   exact O7 (X1 hp he.tl.1.1 h1) he.tl.2 h
def okX (xs:List Int):Prop:=pK xs∧CY xs=0
theorem okX.bd {xs:List Int} (h:okX xs):xs.length≤16∧1≤gW xs∧gW xs≤65536:=by
 have h1:=h.2
 unfold CY at h1
 by_cases h2:16<xs.length
 ·rw[if_pos h2]at h1;omega
 ·rw[if_neg h2]at h1
  have:=O7 ⟨Int.le_refl _,by omega⟩ h.1 h1
  exact⟨by omega,A1 h.1,by omega⟩
theorem abe {xs:List Int} {p:Int} {j:Nat} (h:j<xs.length):vb p (xs.drop j)=if 65536/p<xs[j]then 2 else vb (p*xs[j]) (xs.drop (j+1)):=by
 rw[List.drop_eq_getElem_cons h,vb]
theorem Tl {xs:List Int} {j:Nat} (h:j<xs.length):gW (xs.drop j)=xs[j]*gW (xs.drop (j+1)):=by
 rw[List.drop_eq_getElem_cons h,gW]
def kB:List Int→Int→List Int×Int
 | [],z=>([],z)
 |n::r,z=>((kB r z).2%n::(kB r z).1,(kB r z).2/n)
theorem Dg: ∀{xs:List Int} {z:Int},(kB xs z).1.length=xs.length
 | [],_=>rfl
 |n::r,z=>by rw[kB,List.length_cons,List.length_cons,Dg]
theorem Vy: ∀{xs:List Int} {z:Int},pK xs→0≤z→0≤(kB xs z).2∧(kB xs z).2≤z
 | [],z,_,h=>⟨h,Int.le_refl _⟩
 |n::r,z,he,h=>by
  obtain⟨h1,h2⟩:=Vy he.tl.2 h
  have h3:=he.tl.1.1
  exact⟨Int.ediv_nonneg h1 (by omega),Int.le_trans (Int.ediv_le_self _ h1) h2⟩
theorem Nr: ∀{xs:List Int} {z:Int},pK xs→ ∀x∈(kB xs z).1,0≤x∧x<4096
 | [],z,_,x,h=>by cases h
 |n::r,z,he,x,h=>by
  have h3:=he.tl.1
  rcases List.mem_cons.1 h with rfl|h
  ·have:=Int.emod_nonneg (kB r z).2 (b:=n) (by omega)
   have:=Int.emod_lt_of_pos (kB r z).2 (b:=n) (by omega)
   exact⟨by omega,by omega⟩
  ·exact Nr he.tl.2 x h
theorem YT {xs:List Int} {z:Int} {j:Nat} (h:j<xs.length):kB (xs.drop j) z=((kB (xs.drop (j+1)) z).2%xs[j]::(kB (xs.drop (j+1)) z).1,(kB (xs.drop (j+1)) z).2/xs[j]):=by
 rw[List.drop_eq_getElem_cons h,kB]
theorem Hu: ∀(k:Nat) (b:Int) (l:List Int),(List.replicate (k+1) (0:Int)++l).set k b=List.replicate k 0++b::l
 |0,b,l=>rfl
 |k+1,b,l=>by
  have:=Hu k b l
  show(0::(List.replicate (k+1) (0:Int)++l)).set (k+1) b=_
  rw[List.set_cons_succ,this]
  rfl
theorem qC {xs:List Int} (he:pK xs):af Tryz.prog uV [dc xs] (I (CY xs)):=by
 refine af.of Cs (by simp) λhb=>aa ?_
 have hx:xs.length≤9223372036854775807:=by simpa[ol,iI,jt]using hb.1
 simp only[u4,CY]
 by_cases h16:16<xs.length
 ·rw[if_pos h16]
  repeat' first|simp(disch:=omega) only[go_sem, *]|((with_reducible apply ab)<;>intro h<;>try omega)
 ·rw[if_neg h16]
  repeat' first|simp(disch:=omega) only[go_sem, *]|((with_reducible apply ab)<;>intro h<;>try omega)
  refine ap (λj:Nat=>⟨[(0,dc xs),(3,I 1),(4,Go.Abs.B false),(12,dc xs),(13,I xs.length),(14,I j)], [],0,0⟩) (λj=>j≤xs.length) (λj=>xs.length-j) ⟨0, [],by omega,by simp⟩ ?_
  intro j hj
  refine aa ?_
  by_cases hlt:j<xs.length
  ·obtain⟨h1,h2⟩:=he.get hlt
   have e0:decide (xs[j]=0)=false:=decide_eq_false (by omega)
   repeat' first|simp(disch:=omega) only[go_sem, *,ai hlt,wrap_i64,e0]|((with_reducible apply ab)<;>intro h<;>try omega)
   exact⟨j+1, [],by omega,by omega,by simp⟩
  ·obtain⟨R,hR⟩: ∃R,R=vb 1 xs:=⟨_,rfl⟩
   rw[←hR]
   have HR:Hid (vb 1 (xs.drop 0)=R):=Lib.hid hR.symm
   clear hR
   repeat' first|simp(disch:=omega) only[go_sem, *]|((with_reducible apply ab)<;>intro h<;>try omega)
   refine ap (λx:Nat×Int=>⟨[(3,I x.2),(4,Go.Abs.B false),(26,dc xs),(27,I xs.length),(28,I x.1)], [],0,0⟩) (λx=>x.1≤xs.length∧1≤x.2∧x.2≤65536∧Hid (vb x.2 (xs.drop x.1)=R)) (λx=>xs.length-x.1) ⟨(0,1), [],⟨by omega,Int.le_refl _,by show(1:Int)≤65536;omega,HR⟩,by simp⟩ ?_
   rintro⟨j,p⟩ ⟨hj,hp1,hp2,hr⟩
   refine aa ?_
   simp only at hj hp1 hp2
   by_cases hlt:j<xs.length
   ·obtain⟨h1,h2⟩:=he.get hlt
    have hd:=hr.out
    simp only at hd
    rw[abe hlt]at hd
    have e1:(65536:Int).tdiv p=65536/p:=Int.tdiv_eq_ediv_of_nonneg (by decide)
    have q1:0≤65536/p:=Int.ediv_nonneg (by decide) (by omega)
    have q2:65536/p≤65536:=Int.ediv_le_self _ (by decide)
    have hp0:p≠0:=by omega
    clear hr HR
    by_cases hc:65536/p<xs[j]
    ·rw[if_pos hc]at hd
     subst hd
     repeat' first|simp(disch:=omega) only[go_sem, *,ai hlt,wrap_i64,e1,hp0,ne_eq]|((with_reducible apply ab)<;>intro h<;>try omega)
    ·rw[if_neg hc]at hd
     obtain⟨m1,m2⟩:=X1 ⟨hp1,hp2⟩ h1 hc
     have HD:=Lib.hid hd
     clear hd
     repeat' first|simp(disch:=omega) only[go_sem, *,ai hlt,wrap_i64,e1,hp0,ne_eq]|((with_reducible apply ab)<;>intro h<;>try omega)
     exact⟨(j+1,p*xs[j]), [],⟨by omega,m1,m2,HD⟩,by show _-_<_-_;omega,by simp⟩
   ·have hd:=hr.out
    simp only at hd
    rw[List.drop_of_length_le (by omega),vb]at hd
    subst hd
    repeat' first|simp(disch:=omega) only[go_sem, *]|((with_reducible apply ab)<;>intro h<;>try omega)
theorem xf {xs:List Int} (h:okX xs):af Tryz.prog oH [dc xs] (I (gW xs)):=by
 refine af.of JX (by simp) λhb=>aa ?_
 have hx:xs.length≤9223372036854775807:=by simpa[ol,iI,jt]using hb.1
 have pv:=qC h.1
 rw[h.2]at pv
 obtain⟨_,b1,b2⟩:=h.bd
 obtain⟨R,hR⟩: ∃R,R=gW xs:=⟨_,rfl⟩
 rw[←hR]
 rw[←hR]at b1 b2
 have HR:Hid (1*gW (xs.drop 0)=R):=Lib.hid (by rw[hR,Int.one_mul];rfl)
 clear hR
 have he:=h.1
 simp only[BZ]
 repeat' first|simp(disch:=omega) only[go_sem, *]|((with_reducible apply ab)<;>intro h<;>try omega)|(refine aY pv rfl rfl ?_)
 refine ap (λj:Nat=>⟨[(0,dc xs),(3,I 1),(11,dc xs),(12,I xs.length),(13,I j)], [],0,0⟩) (λj=>j≤xs.length) (λj=>xs.length-j) ⟨0, [],by omega,by simp⟩ ?_
 intro j hj
 refine aa ?_
 by_cases hlt:j<xs.length
 ·obtain⟨h1,h2⟩:=he.get hlt
  have e0: ¬xs[j]=0:=by omega
  repeat' first|simp(disch:=omega) only[go_sem, *,ai hlt,wrap_i64,e0]|((with_reducible apply ab)<;>intro h<;>try omega)
  exact⟨j+1, [],by omega,by omega,by simp⟩
 ·repeat' first|simp(disch:=omega) only[go_sem, *]|((with_reducible apply ab)<;>intro h<;>try omega)
  refine ap (λx:Nat×Int=>⟨[(3,I x.2),(20,dc xs),(21,I xs.length),(22,I x.1)], [],0,0⟩) (λx=>x.1≤xs.length∧1≤x.2∧Hid (x.2*gW (xs.drop x.1)=R)) (λx=>xs.length-x.1) ⟨(0,1), [],⟨by omega,Int.le_refl _,HR⟩,by simp⟩ ?_
  rintro⟨j,p⟩ ⟨hj,hp1,hr⟩
  refine aa ?_
  simp only at hj hp1
  by_cases hlt:j<xs.length
  ·obtain⟨h1,h2⟩:=he.get hlt
   have hd:=hr.out
   simp only at hd
   rw[Tl hlt,←Int.mul_assoc]at hd
   have q1:=A1 (he.drop (j+1))
   have q2:=Int.mul_le_mul hp1 h1 (by omega) (by omega)
   have q3:p*xs[j]*1≤p*xs[j]*gW (xs.drop (j+1)):=Int.mul_le_mul_of_nonneg_left q1 (by omega)
   have HD:=Lib.hid hd
   rw[hd]at q3
   clear hd hr HR q1
   repeat' first|simp(disch:=omega) only[go_sem, *,ai hlt,wrap_i64]|((with_reducible apply ab)<;>intro h<;>try omega)
   exact⟨(j+1,p*xs[j]), [],⟨by omega,by show 1≤p*_;omega,HD⟩,by show _-_<_-_;omega,by simp⟩
  ·have hd:=hr.out
   simp only at hd
   rw[List.drop_of_length_le (by omega),gW,Int.mul_one]at hd
   subst hd
   repeat' first|simp(disch:=omega) only[go_sem, *]|((with_reducible apply ab)<;>intro h<;>try omega)
theorem Gg {xs:List Int} (h:okX xs) {z:Int} (hz:0≤z∧z<gW xs):af Tryz.prog tN [dc xs,I z] (.tup [dc (kB xs z).1,Go.Abs.B true]):=by
 refine af.of Jz (by simp) λhb=>aa ?_
 have pc:=xf h
 obtain⟨b0,b1,b2⟩:=h.bd
 obtain⟨z0,z1⟩:=hz
 obtain⟨R,hR⟩: ∃R,R=(kB xs z).1:=⟨_,rfl⟩
 rw[←hR]
 have he:=h.1
 simp only[BQ]
 repeat' first|simp(disch:=omega) only[go_sem, *]|((with_reducible apply ab)<;>intro h<;>try omega)|(refine aY pc rfl rfl ?_)
 refine ap (λk:Nat=>⟨[(0,dc xs),(1,I (kB (xs.drop k) z).2),(6,.c (.ref 0)),(7,I ((k:Int)-1))], [(0,.arr 3 1 ((List.replicate k 0++(kB (xs.drop k) z).1).map λn=> [pI n]))],1,0⟩) (λk=>k≤xs.length) (λk=>k) ⟨xs.length, [],Nat.le_refl _, ?_⟩ ?_
 ·rw[List.drop_eq_nil_of_le (Nat.le_refl _),kB]
  simp[wrap_i64 (show-9223372036854775808≤(xs.length:Int)-1∧(xs.length:Int)-1≤9223372036854775807 by omega)]
 ·intro k hk
  refine aa ?_
  cases k with
  |zero=>
   repeat' first|simp(disch:=omega) only[go_sem, *]|((with_reducible apply ab)<;>intro h<;>try omega)
   rfl
  |succ k=>
   have hlt:k<xs.length:=hk
   obtain⟨h1,h2⟩:=he.get hlt
   have e1:(((k+1:Nat):Int)-1)=(k:Int):=by omega
   have hP:=YT (z:=z) hlt
   obtain⟨q0,q1⟩:=Vy (he.drop (k+1)) z0
   generalize kB (xs.drop (k+1)) z=P at*
   obtain⟨T,y⟩:=P
   simp only at hP q0 q1 ⊢
   have hne:xs[k]≠0:=by omega
   have q2:0≤y/xs[k]:=Int.ediv_nonneg q0 (by omega)
   have q3:y/xs[k]≤y:=Int.ediv_le_self _ q0
   have eq1:y.tdiv xs[k]=y/xs[k]:=Int.tdiv_eq_ediv_of_nonneg q0
   have eq2:y.tmod xs[k]=y%xs[k]:=Int.tmod_eq_emod_of_nonneg q0
   have hrow:((List.replicate (k+1) (0:Int)++T).map λn=> [pI n])[k]? =some [pI 0]:=by
    rw[List.getElem?_map,List.getElem?_append_left (by simp),List.getElem?_replicate,if_pos (by omega)]
    rfl
   have hlen:k<(List.replicate (k+1) (0:Int)++T).length:=by simp;omega
   have hset:(((List.replicate (k+1) (0:Int)++T).map λn=> [pI n]).set k [PC.val (.int .i64 (y%xs[k]))])=(List.replicate k 0++y%xs[k]::T).map λn=> [pI n]:=by
    rw[←List.map_set (f:= λn:Int=> [pI n]) (a:=y%xs[k]),Hu]
   have HS:=Lib.hid hset
   have HP:=Lib.hid hP
   clear hset hP hR
   simp only[e1]
   repeat' first|simp(disch:=omega) only[go_sem, *,ai hlt,hrow,wrap_i64,eq1,eq2,hne,ne_eq]|((with_reducible apply ab)<;>intro h<;>try omega)
   rw[HS.out]
   refine⟨k, [],by omega,Nat.lt_succ_self _, ?_⟩
   rw[HP.out]
   simp
theorem Cv (xs:List Int):af Tryz.prog pJ [dc xs] (.c (.clo fO [.cptr [mz xs]])):=by
 refine af.of FD (by simp) λhb=>aa ?_
 simp only[wF]
 repeat' first|simp(disch:=omega) only[go_sem, *]|((with_reducible apply ab)<;>intro h<;>try omega)
theorem LF {xs:List Int} (h:xs.length≤16):af Tryz.prog H5 [dc xs] (.c (.clo vz [.cptr [mz xs]])):=by
 refine af.of NH (by simp) λhb=>aa ?_
 simp only[Hh]
 repeat' first|simp(disch:=omega) only[go_sem, *]|((with_reducible apply ab)<;>intro h<;>try omega)|(with_reducible apply ah)|(with_reducible refine aj (λh=> ?_) ?_)|(refine z7 (aQ λx=>rfl) (by simp;omega) (by simp;omega) ?_)
 all_goals trace_state
end Go.Proofs.YthbcbaembicdbaaGreatDoor
