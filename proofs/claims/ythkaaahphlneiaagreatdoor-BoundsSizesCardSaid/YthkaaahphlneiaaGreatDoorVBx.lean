import Derived.Test.YthkaaahphlneiaaGreatDoorLaw
import Derived.Test.YthkaaahphlneiaaGreatDoorAbs28
import Derived.Lib.Hide
set_option linter.unusedVariables false
set_option linter.unusedSimpArgs false
set_option maxRecDepth 20000
namespace Go.Proofs.YthkaaahphlneiaaGreatDoor
open Go.Abs Go.RowKit
theorem Zg {n0:Nat} {J:YJ} (h:Yy n0 J): ∀k S W,J k S W→(∀b,S b→b<W.heap.size)∧me W:=fun k S W hj=>⟨(h.old k S W hj).1,(h.old k S W hj).2.2⟩
theorem Zf {n0:Nat} {J:YJ} (h:Yy n0 J): ∀k S W W',J k S W→Below W.heap.size W W'→J k (fun b=>S b∨W.heap.size≤b∧b<W'.heap.size) W':=fun k S W W' hj hb=>h.grow _ _ _ _ hj ((fe.of_below hb).le (h.old _ _ _ hj).2.1)
abbrev U8 (xs:List Int):AV:= .c (.cptr [su xs])
theorem E8 {n i:Nat} {f:Nat→List AV} (h:i<n):((List.range n).map f)[i]? =some (f i):=by
 rw[List.getElem?_map,List.getElem?_range h]
 rfl
theorem Cw {xs:List Int} {n:Nat} (hn:n≤1000000000) (hC:ac Tryz.prog nZ [du xs] (I n)):iI Tryz.prog fM [U8 xs] ((List.range n).map fun i:Nat=> [I (i:Int)]):=by
 refine iI.of ⟨_,Tryz.func83,rfl,by kernel_rfl⟩ fun l w J hY=> ?_
 have hlt:=Zg hY.ok
 have hgr:=Zf hY.ok
 have hx: ∀i,i<n→((List.range n).map fun i:Nat=> [I (i:Int)])[i]? =some [I (i:Int)]:=fun i h=>E8 h
 have hlen:((List.range n).map fun i:Nat=> [I (i:Int)]).length=n:=by simp
 generalize ((List.range n).map fun i:Nat=> [I (i:Int)])=ys at*
 refine kA.of hlt AP (by simp) fun hb=> ?_
 simp only[sm]
 refine co (cb hlt hgr ?_)
 repeat' first|simp(disch:=omega) only[go_sem]|((with_reducible refine ab ?_ ?_)<;>intro h<;>try first|omega|simp(disch:=omega) only[go_sem, *])|(refine ah hC rfl (.inl rfl) ?_)
 refine⟨[(0,yv l),(5,I n),(6,I 0)],(by simp[gi,ia,cZ,b8,df,rn,yv,ct,aZ,cK,cz,bu,c6,ci,ay,ak,i6,gR,cp]), ?_⟩
 refine kF (CN (fun i:Nat=>(some i, [(0,yv l),(5,I n),(6,I i)])) (fun i=>i≤n) (fun i=>n-i) ⟨0,by omega,rfl,(by simp[gi,ia,cZ,b8,df,rn,yv,ct,aZ,cK,cz,bu,c6,ci,ay,ak,i6,gR,cp])⟩ ?_)
 intro i hi
 refine co (cb hlt hgr ?_)
 simp(disch:=omega) only[go_sem]
 refine⟨[(7,Go.Abs.B (decide ((i:Int)<n))),(0,yv l),(5,I n),(6,I i)],(by simp[gi,ia,cZ,b8,df,rn,yv,ct,aZ,cK,cz,bu,c6,ci,ay,ak,i6,gR,cp]), ?_⟩
 refine co (jy rfl (fun h1=> ?_) (fun h1=> ?_) hlt)
 ·have hin:i<n:=by simpa using h1
  refine kr (co (kF (co (cb hlt hgr ?_))))
  simp(disch:=omega) only[go_sem]
  refine⟨[(3,I i),(0,yv l),(5,I n),(6,I i)],(by simp[gi,ia,cZ,b8,df,rn,yv,ct,aZ,cK,cz,bu,c6,ci,ay,ak,i6,gR,cp]), ?_⟩
  refine co (FL 2 rfl hlt hgr ?_)
  simp only[List.take,List.drop]
  simp(disch:=omega) only[go_sem]
  refine⟨[(10,I i),(9,yv l),(0,yv l),(5,I n),(6,I i)],(by simp[gi,ia,cZ,b8,df,rn,yv,ct,aZ,cK,cz,bu,c6,ci,ay,ak,i6,gR,cp]),_,li hY (hx i hin), ?_⟩
  rintro res k' ⟨b,rfl,rfl⟩
  simp(disch:=omega) only[go_sem]
  refine⟨[(12,Go.Abs.B !b),(0,yv l),(5,I n),(6,I i)],(by simp[gi,ia,cZ,b8,df,rn,yv,ct,aZ,cK,cz,bu,c6,ci,ay,ak,i6,gR,cp]), ?_⟩
  refine jy (t:= !b) rfl (fun hb0=> ?_) (fun hb0=> ?_) hlt
  ·obtain rfl:b=false:=by simpa using hb0
   exact xq (.inr rfl)
  ·obtain rfl:b=true:=by simpa using hb0
   refine kr ?_
   simp only[↓reduceIte]
   refine cb hlt hgr ?_
   simp(disch:=omega) only[go_sem,wrap_i64]
   refine⟨[(0,yv l),(5,I n),(6,I ((i+1:Nat):Int))],(by simp[gi,ia,cZ,b8,df,rn,yv,ct,aZ,cK,cz,bu,c6,ci,ay,ak,i6,gR,cp]), ?_⟩
   exact⟨i+1,by omega,by show n-(i+1)<n-i;omega,rfl,(by simp[gi,ia,cZ,b8,df,rn,yv,ct,aZ,cK,cz,bu,c6,ci,ay,ak,i6,gR,cp])⟩
 ·have hin:i=n:=by
   have: ¬i<n:=by simpa using h1
   omega
  subst hin
  refine CS ?_
  exact .inl (by rw[hlen])
abbrev V8 (l:Nat):AV:= .c (.cptr [.val (.func (.yield l) #[] #[])])
theorem Ki {xs:List Int} {n:Nat} {pt:Nat→List Int} (hn:n≤1000000000) (hC:ac Tryz.prog nZ [du xs] (I n)) (hN:ac Tryz.prog ot [du xs] (.c (.clo fM [.cptr [su xs]])))
  (hP: ∀k:Nat,k<n→ac Tryz.prog tK [du xs,I k] (.tup [du (pt k),Go.Abs.B true])):iI Tryz.prog sZ [U8 xs] ((List.range n).map fun i:Nat=> [du (pt i)]):=by
 refine iI.of2 JB (by simp) fun l w J hY=> ?_
 have hok:=hY.ok
 have hlt:=Zg hok
 have hgr:=Zf hok
 have hx: ∀i,i<n→((List.range n).map fun i:Nat=> [du (pt i)])[i]? =some [du (pt i)]:=fun i h=>E8 h
 have hlen:((List.range n).map fun i:Nat=> [du (pt i)]).length=n:=by simp
 have hY1:=Cw hn hC
 have hx1: ∀i x,((List.range n).map fun i:Nat=> [I (i:Int)])[i]? =some x→i<n∧x= [I (i:Int)]:=fun i x h=>by
  have hin:i<n:=by
   have:=(List.getElem?_eq_some_iff.1 h).1
   simpa using this
  rw[E8 hin]at h
  exact⟨hin,(Option.some.inj h).symm⟩
 have hl1: ∀x∈((List.range n).map fun i:Nat=> [I (i:Int)]),x.length=1:=fun x h=>by
  obtain⟨i,_,rfl⟩:=List.mem_map.1 h
  rfl
 have hlen1:((List.range n).map fun i:Nat=> [I (i:Int)]).length=n:=by simp
 generalize ((List.range n).map fun i:Nat=> [du (pt i)])=ys at*
 generalize ((List.range n).map fun i:Nat=> [I (i:Int)])=zs at*
 simp only[Bn]
 refine CM (rm hlt hgr ?_)
 simp(disch:=omega) only[go_sem]
 refine⟨[(2,V8 l),(1,U8 xs)],(by simp[gi,ia,cZ,b8,df,rn,yv,ct,aZ,cK,cz,bu,c6,ci,ay,ak,i6,gR,cp]), ?_⟩
 refine CM (rm hlt hgr ?_)
 repeat' first|simp(disch:=omega) only[go_sem]|((with_reducible refine ab ?_ ?_)<;>intro h<;>try first|omega|simp(disch:=omega) only[go_sem, *])|(refine ah hN rfl (.inr rfl) ?_)
 refine⟨[(7,.c (.clo fM [.cptr [su xs]])),(2,V8 l),(1,U8 xs)],(by simp[gi,ia,cZ,b8,df,rn,yv,ct,aZ,cK,cz,bu,c6,ci,ay,ak,i6,gR,cp]), ?_⟩
 refine GY (NJ hok (fun i ko=>ko=some i) [(2,V8 l),(1,U8 xs)] rfl rfl rfl hY1 hl1 (by simp[gi,ia,cZ,b8,df,rn,yv,ct,aZ,cK,cz,bu,c6,ci,ay,ak,i6,gR,cp]) rfl (fun l1 k1 x kout hxx hk=> ?_) (fun kout hk=> ?_))
 ·obtain⟨hin,rfl⟩:=hx1 k1 x hxx
  subst hk
  refine rm hlt hgr ?_
  simp(disch:=omega) only[go_sem,DS]
  refine⟨[(3,I k1),(2,V8 l),(1,U8 xs)],(by simp[gi,ia,cZ,b8,df,rn,yv,ct,aZ,cK,cz,bu,c6,ci,ay,ak,i6,gR,cp]), ?_⟩
  refine GY (CM (rm hlt hgr ?_))
  have hp:=hP k1 hin
  repeat' first|simp(disch:=omega) only[go_sem]|((with_reducible refine ab ?_ ?_)<;>intro h<;>try first|omega|simp(disch:=omega) only[go_sem, *])|(refine ah hp rfl (.inr rfl) ?_)
  refine⟨[(4,du (pt k1)),(2,V8 l),(1,U8 xs)],(by simp[gi,ia,cZ,b8,df,rn,yv,ct,aZ,cK,cz,bu,c6,ci,ay,ak,i6,gR,cp]), ?_⟩
  refine CM (WJ 2 rfl hlt hgr ?_)
  simp only[List.take,List.drop]
  simp(disch:=omega) only[go_sem]
  refine⟨[(16,du (pt k1)),(15,yv l),(2,V8 l),(1,U8 xs)],(by simp[gi,ia,cZ,b8,df,rn,yv,ct,aZ,cK,cz,bu,c6,ci,ay,ak,i6,gR,cp]),_,KG hY (hx k1 hin), ?_⟩
  rintro res k' ⟨b,rfl,rfl⟩
  simp(disch:=omega) only[go_sem]
  refine⟨[(18,Go.Abs.B !b),(2,V8 l),(1,U8 xs)],(by simp[gi,ia,cZ,b8,df,rn,yv,ct,aZ,cK,cz,bu,c6,ci,ay,ak,i6,gR,cp]), ?_⟩
  refine TH (t:= !b) rfl (fun hb0=> ?_) (fun hb0=> ?_) hlt
  ·obtain rfl:b=false:=by simpa using hb0
   exact Vb (.inr rfl)
  ·obtain rfl:b=true:=by simpa using hb0
   exact Tt rfl
 ·subst hk
  exact .inl (by rw[hlen1,hlen])
set_option maxHeartbeats 4000000
set_option maxRecDepth 1000000
def nK (xs:List Int):Prop:= ∀x∈xs,1≤x∧x≤4096
def vb:Int→List Int→Int
 |_, []=>0
 |p,n::r=>if 65536/p<n then 2 else vb (p*n) r
def xv (xs:List Int):Int:=if 16<xs.length then 2 else vb 1 xs
def dJ:List Int→Int
 | []=>1
 |n::r=>n*dJ r
theorem nK.tl {n:Int} {r:List Int} (h:nK (n::r)):(1≤n∧n≤4096)∧nK r:=⟨h n List.mem_cons_self,fun x hx=>h x (List.mem_cons_of_mem _ hx)⟩
theorem nK.get {xs:List Int} (h:nK xs) {j:Nat} (hj:j<xs.length):1≤xs[j]∧xs[j]≤4096:=h _ (List.getElem_mem hj)
theorem nK.drop {xs:List Int} (h:nK xs) (j:Nat):nK (xs.drop j):=fun x hx=>h x (List.mem_of_mem_drop hx)
theorem u5: ∀{xs:List Int},nK xs→1≤dJ xs
 | [],_=>Int.le_refl _
 |n::r,h=>by
  have h1:=u5 h.tl.2
  have h2:=h.tl.1.1
  have h3:=Int.mul_le_mul h2 h1 (by omega) (by omega)
  rw[dJ]
  omega
theorem Sv {p n:Int} (hp:1≤p∧p≤65536) (hn:1≤n) (h: ¬65536/p<n):1≤p*n∧p*n≤65536:=by
 have h1:=Int.mul_le_mul hp.1 hn (by omega) (by omega)
 have h2:n*p≤65536:=Int.le_trans (Int.mul_le_mul_of_nonneg_right (show n≤65536/p by omega) (by omega)) (Int.ediv_mul_le _ (by omega))
 rw[Int.mul_comm n p]at h2
 omega
theorem N9: ∀{xs:List Int} {p:Int},1≤p∧p≤65536→nK xs→vb p xs=0→p*dJ xs≤65536
 | [],p,hp,_,_=>by rw[dJ];omega
 |n::r,p,hp,he,h=>by
  rw[vb]at h
  by_cases h1:65536/p<n
  ·rw[if_pos h1]at h;omega
  ·rw[if_neg h1]at h
   rw[dJ,←Int.mul_assoc]
   exact N9 (Sv hp he.tl.1.1 h1) he.tl.2 h
def UE (xs:List Int):Prop:=nK xs∧xv xs=0
theorem UE.bd {xs:List Int} (h:UE xs):xs.length≤16∧1≤dJ xs∧dJ xs≤65536:=by
 have h1:=h.2
 unfold xv at h1
 by_cases h2:16<xs.length
 ·rw[if_pos h2]at h1;omega
 ·rw[if_neg h2]at h1
  have:=N9 ⟨Int.le_refl _,by omega⟩ h.1 h1
  exact⟨by omega,u5 h.1,by omega⟩
theorem Vf {xs:List Int} {p:Int} {j:Nat} (h:j<xs.length):vb p (xs.drop j)=if 65536/p<xs[j]then 2 else vb (p*xs[j]) (xs.drop (j+1)):=by
 rw[List.drop_eq_getElem_cons h,vb]
theorem Ks {xs:List Int} {j:Nat} (h:j<xs.length):dJ (xs.drop j)=xs[j]*dJ (xs.drop (j+1)):=by
 rw[List.drop_eq_getElem_cons h,dJ]
def jz:List Int→Int→List Int×Int
 | [],z=>([],z)
 |n::r,z=>((jz r z).2%n::(jz r z).1,(jz r z).2/n)
theorem JK: ∀{xs:List Int} {z:Int},(jz xs z).1.length=xs.length
 | [],_=>rfl
 |n::r,z=>by rw[jz,List.length_cons,List.length_cons,JK]
theorem M8: ∀{xs:List Int} {z:Int},nK xs→0≤z→0≤(jz xs z).2∧(jz xs z).2≤z
 | [],z,_,h=>⟨h,Int.le_refl _⟩
 |n::r,z,he,h=>by
  obtain⟨h1,h2⟩:=M8 he.tl.2 h
  have h3:=he.tl.1.1
  exact⟨Int.ediv_nonneg h1 (by omega),Int.le_trans (Int.ediv_le_self _ h1) h2⟩
theorem IW: ∀{xs:List Int} {z:Int},nK xs→ ∀x∈(jz xs z).1,0≤x∧x<4096
 | [],z,_,x,h=>by cases h
 |n::r,z,he,x,h=>by
  have h3:=he.tl.1
  rcases List.mem_cons.1 h with rfl|h
  ·have:=Int.emod_nonneg (jz r z).2 (b:=n) (by omega)
   have:=Int.emod_lt_of_pos (jz r z).2 (b:=n) (by omega)
   exact⟨by omega,by omega⟩
  ·exact IW he.tl.2 x h
theorem QT {xs:List Int} {z:Int} {j:Nat} (h:j<xs.length):jz (xs.drop j) z=((jz (xs.drop (j+1)) z).2%xs[j]::(jz (xs.drop (j+1)) z).1,(jz (xs.drop (j+1)) z).2/xs[j]):=by
 rw[List.drop_eq_getElem_cons h,jz]
theorem AN: ∀(k:Nat) (b:Int) (l:List Int),(List.replicate (k+1) (0:Int)++l).set k b=List.replicate k 0++b::l
 |0,b,l=>rfl
 |k+1,b,l=>by
  have:=AN k b l
  show(0::(List.replicate (k+1) (0:Int)++l)).set (k+1) b=_
  rw[List.set_cons_succ,this]
  rfl
theorem pQ {xs:List Int} (he:nK xs):ac Tryz.prog uk [du xs] (I (xv xs)):=by
 refine ac.of BU (by simp) fun hb=>aa ?_
 have hx:xs.length≤9223372036854775807:=by simpa[lW,ie,iz]using hb.1
 simp only[uQ,xv]
 by_cases h16:16<xs.length
 ·rw[if_pos h16]
  repeat' first|simp(disch:=omega) only[go_sem]|((with_reducible refine ab ?_ ?_)<;>intro h<;>try first|omega|simp(disch:=omega) only[go_sem, *])
 ·rw[if_neg h16]
  repeat' first|simp(disch:=omega) only[go_sem]|((with_reducible refine ab ?_ ?_)<;>intro h<;>try first|omega|simp(disch:=omega) only[go_sem, *])
  refine aj (fun j:Nat=>⟨[(0,du xs),(3,I 1),(4,Go.Abs.B false),(12,du xs),(13,I xs.length),(14,I j)], [],0,0⟩) (fun j=>j≤xs.length) (fun j=>xs.length-j) ⟨0, [],by omega,by simp⟩ ?_
  intro j hj
  refine aa ?_
  by_cases hlt:j<xs.length
  ·obtain⟨h1,h2⟩:=he.get hlt
   have e0:decide (xs[j]=0)=false:=decide_eq_false (by omega)
   repeat' first|simp(disch:=omega) only[go_sem,ae hlt,wrap_i64,e0]|((with_reducible refine ab ?_ ?_)<;>intro h<;>try first|omega|simp(disch:=omega) only[go_sem, *,ae hlt,wrap_i64,e0])
   exact⟨j+1, [],by omega,by omega,by simp⟩
  ·obtain⟨R,hR⟩: ∃R,R=vb 1 xs:=⟨_,rfl⟩
   rw[←hR]
   have HR:Hid (vb 1 (xs.drop 0)=R):=Lib.hid hR.symm
   clear hR
   repeat' first|simp(disch:=omega) only[go_sem]|((with_reducible refine ab ?_ ?_)<;>intro h<;>try first|omega|simp(disch:=omega) only[go_sem, *])
   refine aj (fun x:Nat×Int=>⟨[(3,I x.2),(4,Go.Abs.B false),(26,du xs),(27,I xs.length),(28,I x.1)], [],0,0⟩) (fun x=>x.1≤xs.length∧1≤x.2∧x.2≤65536∧Hid (vb x.2 (xs.drop x.1)=R)) (fun x=>xs.length-x.1) ⟨(0,1), [],⟨by omega,Int.le_refl _,by show(1:Int)≤65536;omega,HR⟩,by simp⟩ ?_
   rintro⟨j,p⟩ ⟨hj,hp1,hp2,hr⟩
   refine aa ?_
   simp only at hj hp1 hp2
   by_cases hlt:j<xs.length
   ·obtain⟨h1,h2⟩:=he.get hlt
    have hd:=hr.out
    simp only at hd
    rw[Vf hlt]at hd
    have e1:(65536:Int).tdiv p=65536/p:=Int.tdiv_eq_ediv_of_nonneg (by decide)
    have q1:0≤65536/p:=Int.ediv_nonneg (by decide) (by omega)
    have q2:65536/p≤65536:=Int.ediv_le_self _ (by decide)
    have hp0:p≠0:=by omega
    clear hr HR
    by_cases hc:65536/p<xs[j]
    ·rw[if_pos hc]at hd
     subst hd
     repeat' first|simp(disch:=omega) only[go_sem,ae hlt,wrap_i64,e1,hp0,ne_eq]|((with_reducible refine ab ?_ ?_)<;>intro h<;>try first|omega|simp(disch:=omega) only[go_sem, *,ae hlt,wrap_i64,e1,hp0,ne_eq])
    ·rw[if_neg hc]at hd
     obtain⟨m1,m2⟩:=Sv ⟨hp1,hp2⟩ h1 hc
     have HD:=Lib.hid hd
     clear hd
     repeat' first|simp(disch:=omega) only[go_sem,ae hlt,wrap_i64,e1,hp0,ne_eq]|((with_reducible refine ab ?_ ?_)<;>intro h<;>try first|omega|simp(disch:=omega) only[go_sem, *,ae hlt,wrap_i64,e1,hp0,ne_eq])
     exact⟨(j+1,p*xs[j]), [],⟨by omega,m1,m2,HD⟩,by show _-_<_-_;omega,by simp⟩
   ·have hd:=hr.out
    simp only at hd
    rw[List.drop_of_length_le (by omega),vb]at hd
    subst hd
    repeat' first|simp(disch:=omega) only[go_sem]|((with_reducible refine ab ?_ ?_)<;>intro h<;>try first|omega|simp(disch:=omega) only[go_sem, *])
theorem m7 {xs:List Int} (he:nK xs):ac Tryz.prog kd [du xs] (I (xv xs)):=by
 refine ac.of zw (by simp) fun hb=>aa ?_
 have hx:xs.length≤9223372036854775807:=by simpa[lW,ie,iz]using hb.1
 conv in pM=>cbv
 simp only[xv]
 by_cases h16:16<xs.length
 ·rw[if_pos h16]
  repeat' first|simp(disch:=omega) only[go_sem]|((with_reducible refine ab ?_ ?_)<;>intro h<;>try first|omega|simp(disch:=omega) only[go_sem, *])
 ·rw[if_neg h16]
  repeat' first|simp(disch:=omega) only[go_sem]|((with_reducible refine ab ?_ ?_)<;>intro h<;>try first|omega|simp(disch:=omega) only[go_sem, *])
  refine aj (fun j:Nat=>⟨[(0,du xs),(3,Go.Abs.B false),(4,I j)], [],0,0⟩) (fun j=>j≤xs.length) (fun j=>xs.length-j) ⟨0, [],by omega,by simp⟩ ?_
  intro j hj
  refine aa ?_
  by_cases hlt:j<xs.length
  ·obtain⟨h1,h2⟩:=he.get hlt
   have e0:decide (xs[j]=0)=false:=decide_eq_false (by omega)
   repeat' first|simp(disch:=omega) only[go_sem,ae hlt,wrap_i64,e0]|((with_reducible refine ab ?_ ?_)<;>intro h<;>try first|omega|simp(disch:=omega) only[go_sem, *,ae hlt,wrap_i64,e0])
   exact⟨j+1, [],by omega,by omega,by simp⟩
  ·obtain⟨R,hR⟩: ∃R,R=vb 1 xs:=⟨_,rfl⟩
   rw[←hR]
   have HR:Hid (vb 1 (xs.drop 0)=R):=Lib.hid hR.symm
   clear hR
   repeat' first|simp(disch:=omega) only[go_sem]|((with_reducible refine ab ?_ ?_)<;>intro h<;>try first|omega|simp(disch:=omega) only[go_sem, *])
   refine aj (fun x:Nat×Int=>⟨[(0,du xs),(3,Go.Abs.B false),(5,I x.2),(6,I x.1)], [],0,0⟩) (fun x=>x.1≤xs.length∧1≤x.2∧x.2≤65536∧Hid (vb x.2 (xs.drop x.1)=R)) (fun x=>xs.length-x.1) ⟨(0,1), [],⟨by omega,Int.le_refl _,by show(1:Int)≤65536;omega,HR⟩,by simp⟩ ?_
   rintro⟨j,p⟩ ⟨hj,hp1,hp2,hr⟩
   refine aa ?_
   simp only at hj hp1 hp2
   by_cases hlt:j<xs.length
   ·obtain⟨h1,h2⟩:=he.get hlt
    have hd:=hr.out
    simp only at hd
    rw[Vf hlt]at hd
    have e1:(65536:Int).tdiv p=65536/p:=Int.tdiv_eq_ediv_of_nonneg (by decide)
    have q1:0≤65536/p:=Int.ediv_nonneg (by decide) (by omega)
    have q2:65536/p≤65536:=Int.ediv_le_self _ (by decide)
    have hp0:p≠0:=by omega
    clear hr HR
    by_cases hc:65536/p<xs[j]
    ·rw[if_pos hc]at hd
     subst hd
     repeat' first|simp(disch:=omega) only[go_sem,ae hlt,wrap_i64,e1,hp0,ne_eq]|((with_reducible refine ab ?_ ?_)<;>intro h<;>try first|omega|simp(disch:=omega) only[go_sem, *,ae hlt,wrap_i64,e1,hp0,ne_eq])
    ·rw[if_neg hc]at hd
     obtain⟨m1,m2⟩:=Sv ⟨hp1,hp2⟩ h1 hc
     have HD:=Lib.hid hd
     clear hd
     repeat' first|simp(disch:=omega) only[go_sem,ae hlt,wrap_i64,e1,hp0,ne_eq]|((with_reducible refine ab ?_ ?_)<;>intro h<;>try first|omega|simp(disch:=omega) only[go_sem, *,ae hlt,wrap_i64,e1,hp0,ne_eq])
     exact⟨(j+1,p*xs[j]), [],⟨by omega,m1,m2,HD⟩,by show _-_<_-_;omega,by simp⟩
   ·have hd:=hr.out
    simp only at hd
    rw[List.drop_of_length_le (by omega),vb]at hd
    subst hd
    repeat' first|simp(disch:=omega) only[go_sem]|((with_reducible refine ab ?_ ?_)<;>intro h<;>try first|omega|simp(disch:=omega) only[go_sem, *])
theorem vL {xs:List Int} (h:UE xs):ac Tryz.prog nZ [du xs] (I (dJ xs)):=by
 refine ac.of IK (by simp) fun hb=>aa ?_
 have hx:xs.length≤9223372036854775807:=by simpa[lW,ie,iz]using hb.1
 have pv:=pQ h.1
 rw[h.2]at pv
 obtain⟨_,b1,b2⟩:=h.bd
 obtain⟨R,hR⟩: ∃R,R=dJ xs:=⟨_,rfl⟩
 rw[←hR]
 rw[←hR]at b1 b2
 have HR:Hid (1*dJ (xs.drop 0)=R):=Lib.hid (by rw[hR,Int.one_mul];rfl)
 clear hR
 have he:=h.1
 simp only[Bg]
 repeat' first|simp(disch:=omega) only[go_sem]|((with_reducible refine ab ?_ ?_)<;>intro h<;>try first|omega|simp(disch:=omega) only[go_sem, *])|(refine ah pv rfl (.inl rfl) ?_)
 refine aj (fun j:Nat=>⟨[(0,du xs),(3,I 1),(11,du xs),(12,I xs.length),(13,I j)], [],0,0⟩) (fun j=>j≤xs.length) (fun j=>xs.length-j) ⟨0, [],by omega,by simp⟩ ?_
 intro j hj
 refine aa ?_
 by_cases hlt:j<xs.length
 ·obtain⟨h1,h2⟩:=he.get hlt
  have e0: ¬xs[j]=0:=by omega
  repeat' first|simp(disch:=omega) only[go_sem,ae hlt,wrap_i64,e0]|((with_reducible refine ab ?_ ?_)<;>intro h<;>try first|omega|simp(disch:=omega) only[go_sem, *,ae hlt,wrap_i64,e0])
  exact⟨j+1, [],by omega,by omega,by simp⟩
 ·repeat' first|simp(disch:=omega) only[go_sem]|((with_reducible refine ab ?_ ?_)<;>intro h<;>try first|omega|simp(disch:=omega) only[go_sem, *])
  refine aj (fun x:Nat×Int=>⟨[(3,I x.2),(20,du xs),(21,I xs.length),(22,I x.1)], [],0,0⟩) (fun x=>x.1≤xs.length∧1≤x.2∧Hid (x.2*dJ (xs.drop x.1)=R)) (fun x=>xs.length-x.1) ⟨(0,1), [],⟨by omega,Int.le_refl _,HR⟩,by simp⟩ ?_
  rintro⟨j,p⟩ ⟨hj,hp1,hr⟩
  refine aa ?_
  simp only at hj hp1
  by_cases hlt:j<xs.length
  ·obtain⟨h1,h2⟩:=he.get hlt
   have hd:=hr.out
   simp only at hd
   rw[Ks hlt,←Int.mul_assoc]at hd
   have q1:=u5 (he.drop (j+1))
   have q2:=Int.mul_le_mul hp1 h1 (by omega) (by omega)
   have q3:p*xs[j]*1≤p*xs[j]*dJ (xs.drop (j+1)):=Int.mul_le_mul_of_nonneg_left q1 (by omega)
   have HD:=Lib.hid hd
   rw[hd]at q3
   clear hd hr HR q1
   repeat' first|simp(disch:=omega) only[go_sem,ae hlt,wrap_i64]|((with_reducible refine ab ?_ ?_)<;>intro h<;>try first|omega|simp(disch:=omega) only[go_sem, *,ae hlt,wrap_i64])
   exact⟨(j+1,p*xs[j]), [],⟨by omega,by show 1≤p*_;omega,HD⟩,by show _-_<_-_;omega,by simp⟩
  ·have hd:=hr.out
   simp only at hd
   rw[List.drop_of_length_le (by omega),dJ,Int.mul_one]at hd
   subst hd
   repeat' first|simp(disch:=omega) only[go_sem]|((with_reducible refine ab ?_ ?_)<;>intro h<;>try first|omega|simp(disch:=omega) only[go_sem, *])
theorem rT {xs:List Int} (h:UE xs):ac Tryz.prog oM [du xs] (I (dJ xs)):=by
 refine ac.of EB (by simp) fun hb=>aa ?_
 have hx:xs.length≤9223372036854775807:=by simpa[lW,ie,iz]using hb.1
 have pv:=m7 h.1
 rw[h.2]at pv
 obtain⟨_,b1,b2⟩:=h.bd
 obtain⟨R,hR⟩: ∃R,R=dJ xs:=⟨_,rfl⟩
 rw[←hR]
 rw[←hR]at b1 b2
 have HR:Hid (1*dJ (xs.drop 0)=R):=Lib.hid (by rw[hR,Int.one_mul];rfl)
 clear hR
 have he:=h.1
 conv in wn=>cbv
 repeat' first|simp(disch:=omega) only[go_sem]|((with_reducible refine ab ?_ ?_)<;>intro h<;>try first|omega|simp(disch:=omega) only[go_sem, *])|(refine ah pv rfl (.inl rfl) ?_)
 refine aj (fun x:Nat×Int=>⟨[(0,du xs),(3,I x.2),(4,I x.1)], [],0,0⟩) (fun x=>x.1≤xs.length∧1≤x.2∧Hid (x.2*dJ (xs.drop x.1)=R)) (fun x=>xs.length-x.1) ⟨(0,1), [],⟨by omega,Int.le_refl _,HR⟩,by simp⟩ ?_
 rintro⟨j,p⟩ ⟨hj,hp1,hr⟩
 refine aa ?_
 simp only at hj hp1
 by_cases hlt:j<xs.length
 ·obtain⟨h1,h2⟩:=he.get hlt
  have hd:=hr.out
  simp only at hd
  rw[Ks hlt,←Int.mul_assoc]at hd
  have q1:=u5 (he.drop (j+1))
  have q2:=Int.mul_le_mul hp1 h1 (by omega) (by omega)
  have q3:p*xs[j]*1≤p*xs[j]*dJ (xs.drop (j+1)):=Int.mul_le_mul_of_nonneg_left q1 (by omega)
  have HD:=Lib.hid hd
  rw[hd]at q3
  have e0: ¬xs[j]=0:=by omega
  clear hd hr HR q1
  repeat' first|simp(disch:=omega) only[go_sem,ae hlt,wrap_i64,e0]|((with_reducible refine ab ?_ ?_)<;>intro h<;>try first|omega|simp(disch:=omega) only[go_sem, *,ae hlt,wrap_i64,e0])
  exact⟨(j+1,p*xs[j]), [],⟨by omega,by show 1≤p*_;omega,HD⟩,by show _-_<_-_;omega,by simp⟩
 ·have hd:=hr.out
  simp only at hd
  rw[List.drop_of_length_le (by omega),dJ,Int.mul_one]at hd
  subst hd
  repeat' first|simp(disch:=omega) only[go_sem]|((with_reducible refine ab ?_ ?_)<;>intro h<;>try first|omega|simp(disch:=omega) only[go_sem, *])
theorem GI {xs:List Int} (h:UE xs) {z:Int} (hz:0≤z∧z<dJ xs):ac Tryz.prog tK [du xs,I z] (.tup [du (jz xs z).1,Go.Abs.B true]):=by
 refine ac.of IP (by simp) fun hb=>aa ?_
 have pc:=vL h
 obtain⟨b0,b1,b2⟩:=h.bd
 obtain⟨z0,z1⟩:=hz
 obtain⟨R,hR⟩: ∃R,R=(jz xs z).1:=⟨_,rfl⟩
 rw[←hR]
 have he:=h.1
 simp only[Bw]
 repeat' first|simp(disch:=omega) only[go_sem]|((with_reducible refine ab ?_ ?_)<;>intro h<;>try first|omega|simp(disch:=omega) only[go_sem, *])|(refine ah pc rfl (.inl rfl) ?_)
 refine aj (fun k:Nat=>⟨[(0,du xs),(1,I (jz (xs.drop k) z).2),(6,.c (.ref 0)),(7,I ((k:Int)-1))], [(0,.arr 3 1 ((List.replicate k 0++(jz (xs.drop k) z).1).map fun n=> [pI n]))],1,0⟩) (fun k=>k≤xs.length) (fun k=>k) ⟨xs.length, [],Nat.le_refl _, ?_⟩ ?_
 ·rw[List.drop_eq_nil_of_le (Nat.le_refl _),jz]
  simp[wrap_i64 (show-9223372036854775808≤(xs.length:Int)-1∧(xs.length:Int)-1≤9223372036854775807 by omega)]
 ·intro k hk
  refine aa ?_
  cases k with
  |zero=>
   repeat' first|simp(disch:=omega) only[go_sem]|((with_reducible refine ab ?_ ?_)<;>intro h<;>try first|omega|simp(disch:=omega) only[go_sem, *])
   rfl
  |succ k=>
   have hlt:k<xs.length:=hk
   obtain⟨h1,h2⟩:=he.get hlt
   have e1:(((k+1:Nat):Int)-1)=(k:Int):=by omega
   have hP:=QT (z:=z) hlt
   obtain⟨q0,q1⟩:=M8 (he.drop (k+1)) z0
   generalize jz (xs.drop (k+1)) z=P at*
   obtain⟨T,y⟩:=P
   simp only at hP q0 q1 ⊢
   have hne:xs[k]≠0:=by omega
   have q2:0≤y/xs[k]:=Int.ediv_nonneg q0 (by omega)
   have q3:y/xs[k]≤y:=Int.ediv_le_self _ q0
   have eq1:y.tdiv xs[k]=y/xs[k]:=Int.tdiv_eq_ediv_of_nonneg q0
   have eq2:y.tmod xs[k]=y%xs[k]:=Int.tmod_eq_emod_of_nonneg q0
   have hrow:((List.replicate (k+1) (0:Int)++T).map fun n=> [pI n])[k]? =some [pI 0]:=by
    rw[List.getElem?_map,List.getElem?_append_left (by simp),List.getElem?_replicate,if_pos (by omega)]
    rfl
   have hlen:k<(List.replicate (k+1) (0:Int)++T).length:=by simp;omega
   have hset:(((List.replicate (k+1) (0:Int)++T).map fun n=> [pI n]).set k [PC.val (.int .i64 (y%xs[k]))])=(List.replicate k 0++y%xs[k]::T).map fun n=> [pI n]:=by
    rw[←List.map_set (f:=fun n:Int=> [pI n]) (a:=y%xs[k]),AN]
   have HS:=Lib.hid hset
   have HP:=Lib.hid hP
   clear hset hP hR
   simp only[e1]
   repeat' first|simp(disch:=omega) only[go_sem,ae hlt,hrow,wrap_i64,eq1,eq2,hne,ne_eq]|((with_reducible refine ab ?_ ?_)<;>intro h<;>try first|omega|simp(disch:=omega) only[go_sem, *,ae hlt,hrow,wrap_i64,eq1,eq2,hne,ne_eq])
   rw[HS.out]
   refine⟨k, [],by omega,Nat.lt_succ_self _, ?_⟩
   rw[HP.out]
   simp
theorem Cd {xs:List Int} (h:UE xs) {z:Int} (hz:0≤z∧z<dJ xs):ac Tryz.prog o5 [du xs,I z] (.tup [du (jz xs z).1,Go.Abs.B true]):=by
 refine ac.of DE (by simp) fun hb=>aa ?_
 have pc:=rT h
 obtain⟨b0,b1,b2⟩:=h.bd
 obtain⟨z0,z1⟩:=hz
 obtain⟨R,hR⟩: ∃R,R=(jz xs z).1:=⟨_,rfl⟩
 rw[←hR]
 have he:=h.1
 conv in wM=>cbv
 repeat' first|simp(disch:=omega) only[go_sem]|((with_reducible refine ab ?_ ?_)<;>intro h<;>try first|omega|simp(disch:=omega) only[go_sem, *])|(refine ah pc rfl (.inl rfl) ?_)
 refine aj (fun k:Nat=>⟨[(0,du xs),(1,I (jz (xs.drop k) z).2),(6,.c (.ref 0)),(7,I ((k:Int)-1))], [(0,.arr 3 1 ((List.replicate k 0++(jz (xs.drop k) z).1).map fun n=> [pI n]))],1,0⟩) (fun k=>k≤xs.length) (fun k=>k) ⟨xs.length, [],Nat.le_refl _, ?_⟩ ?_
 ·rw[List.drop_eq_nil_of_le (Nat.le_refl _),jz]
  simp[wrap_i64 (show-9223372036854775808≤(xs.length:Int)-1∧(xs.length:Int)-1≤9223372036854775807 by omega)]
 ·intro k hk
  refine aa ?_
  cases k with
  |zero=>
   repeat' first|simp(disch:=omega) only[go_sem]|((with_reducible refine ab ?_ ?_)<;>intro h<;>try first|omega|simp(disch:=omega) only[go_sem, *])
   rfl
  |succ k=>
   have hlt:k<xs.length:=hk
   obtain⟨h1,h2⟩:=he.get hlt
   have e1:(((k+1:Nat):Int)-1)=(k:Int):=by omega
   have hP:=QT (z:=z) hlt
   obtain⟨q0,q1⟩:=M8 (he.drop (k+1)) z0
   generalize jz (xs.drop (k+1)) z=P at*
   obtain⟨T,y⟩:=P
   simp only at hP q0 q1 ⊢
   have hne:xs[k]≠0:=by omega
   have q2:0≤y/xs[k]:=Int.ediv_nonneg q0 (by omega)
   have q3:y/xs[k]≤y:=Int.ediv_le_self _ q0
   have eq1:y.tdiv xs[k]=y/xs[k]:=Int.tdiv_eq_ediv_of_nonneg q0
   have eq2:y.tmod xs[k]=y%xs[k]:=Int.tmod_eq_emod_of_nonneg q0
   have hrow:((List.replicate (k+1) (0:Int)++T).map fun n=> [pI n])[k]? =some [pI 0]:=by
    rw[List.getElem?_map,List.getElem?_append_left (by simp),List.getElem?_replicate,if_pos (by omega)]
    rfl
   have hlen:k<(List.replicate (k+1) (0:Int)++T).length:=by simp;omega
   have hset:(((List.replicate (k+1) (0:Int)++T).map fun n=> [pI n]).set k [PC.val (.int .i64 (y%xs[k]))])=(List.replicate k 0++y%xs[k]::T).map fun n=> [pI n]:=by
    rw[←List.map_set (f:=fun n:Int=> [pI n]) (a:=y%xs[k]),AN]
   have HS:=Lib.hid hset
   have HP:=Lib.hid hP
   clear hset hP hR
   simp only[e1]
   repeat' first|simp(disch:=omega) only[go_sem,ae hlt,hrow,wrap_i64,eq1,eq2,hne,ne_eq]|((with_reducible refine ab ?_ ?_)<;>intro h<;>try first|omega|simp(disch:=omega) only[go_sem, *,ae hlt,hrow,wrap_i64,eq1,eq2,hne,ne_eq])
   rw[HS.out]
   refine⟨k, [],by omega,Nat.lt_succ_self _, ?_⟩
   rw[HP.out]
   simp
def pJ (xs:List Int):List (List Int):=(List.range (dJ xs).toNat).map fun(i:Nat)=>(jz xs i).1
abbrev V7 (l:List (List Int)):AV:=d8 (fun p=> [su p]) l
theorem KS (xs:List Int):(pJ xs).length=(dJ xs).toNat:=by simp[pJ]
theorem Mf {xs:List Int} {i:Nat} (h:i<(pJ xs).length):(pJ xs)[i]=(jz xs i).1:=by simp[pJ]
theorem PZ {xs:List Int} {k:Nat} (hk:k<(pJ xs).length):(pJ xs).take (k+1)=(pJ xs).take k++ [(jz xs k).1]:=by
 rw[List.take_succ_eq_append_getElem hk,Mf]
theorem Gn {xs:List Int} (h:UE xs):ac Tryz.prog uG [du xs] (V7 (pJ xs)):=by
 refine ac.of JL (by simp) fun hb=>aa ?_
 have p1:=rT h
 have hc:=h.bd
 have hlen:=KS xs
 conv in Bd=>cbv
 repeat' first|simp(disch:=omega) only[go_sem]|((with_reducible refine ab ?_ ?_)<;>intro h<;>try first|omega|simp(disch:=omega) only[go_sem, *])|(refine ah p1 rfl (.inl rfl) ?_)
 refine dv 3 65 1 rfl (by decide) ?_
 refine aj (fun k:Nat=>⟨[(0,du xs),(3,.c (.ref 0)),(4,I (dJ xs)),(5,I k)], [(0,.arr 65 1 (((pJ xs).take k).map fun p=> [su p]))],1,0⟩) (fun k=>k≤(pJ xs).length) (fun k=>(pJ xs).length-k) ⟨0, [],Nat.zero_le _,by simp⟩ ?_
 rintro k hk
 refine aa ?_
 by_cases hlt:k<(pJ xs).length
 ·have hki:(k:Int)<dJ xs:=by omega
  have p2:=Cd h (z:=(k:Int)) ⟨by omega,by omega⟩
  have hl2:(((pJ xs).take k).map fun p=> [su p]).length=k:=by rw[List.length_map,List.length_take];omega
  have L:=Lib.hid hl2
  clear hl2
  repeat' first|simp(disch:=omega) only[go_sem,wrap_i64]|((with_reducible refine ab ?_ ?_)<;>intro h<;>try first|omega|simp(disch:=omega) only[go_sem, *,wrap_i64])|(refine ah p2 rfl (.inr rfl) ?_)|(refine aN rfl (by intro h;cases h) (aI rfl) (by rw[L.out];simp;omega) (by rw[L.out];simp;omega) ?_)
  refine⟨k+1, [(0,1)],hlt,by omega, ?_⟩
  rw[PZ hlt,List.map_append]
  simp
 ·have e:(pJ xs).take k=pJ xs:=List.take_of_length_le (by omega)
  rw[e]
  have hki: ¬(k:Int)<dJ xs:=by omega
  repeat' first|simp(disch:=omega) only[go_sem]|((with_reducible refine ab ?_ ?_)<;>intro h<;>try first|omega|simp(disch:=omega) only[go_sem, *])
theorem Ct (xs:List Int):ac Tryz.prog ot [du xs] (.c (.clo fM [.cptr [su xs]])):=by
 refine ac.of FC (by simp) fun hb=>aa ?_
 simp only[wR]
 repeat' first|simp(disch:=omega) only[go_sem]|((with_reducible refine ab ?_ ?_)<;>intro h<;>try first|omega|simp(disch:=omega) only[go_sem, *])
theorem Mn {xs:List Int} (h:xs.length≤16):ac Tryz.prog Ha [du xs] (.c (.clo sZ [.cptr [su xs]])):=by
 refine ac.of Nu (by simp) fun hb=>aa ?_
 simp only[Ic]
 repeat' first|simp(disch:=omega) only[go_sem]|((with_reducible refine ab ?_ ?_)<;>intro h<;>try first|omega|simp(disch:=omega) only[go_sem, *])|(with_reducible refine af ?_ ?_)|(with_reducible refine ag (fun h=> ?_) ?_)|(refine nN (ar fun x=>rfl) (by simp;omega) (by simp;omega) ?_)
 all_goals trace_state
end Go.Proofs.YthkaaahphlneiaaGreatDoor
