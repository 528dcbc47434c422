import Derived.Test.YthbcbaembicdbaaGreatDoorV18e
set_option linter.unusedVariables false
set_option linter.unusedSimpArgs false
set_option maxHeartbeats 4000000
set_option maxRecDepth 20000
namespace Go.Proofs.YthbcbaembicdbaaGreatDoor
open Go.Abs Go.RowKit
noncomputable section
def Ij (p:bI) (d:Nat) (e:Ex):Prop:= ∀(cs:List bt) (l:List Ob) (q r nx:Nat) (F:List (Nat×bc)),cs.length+e.sz≤20000→l.length+72*e.sz≤100000000→q<r→r<nx→Go.Abs.dk nx [q,r] F→
  au Tryz.prog lU [.c (.ptr q 0),fJ e,bT cs] (Yt q r p d l F) nx (eF []) (Yt q nx p d (l++kF p e cs) F) (nx+1)
abbrev Ul (o:Int) (e:Ex):bc:= .var [.pure (pI o),.pure (pS e.name),.pure (pI e.val.1),.pure (pI e.val.2),.pure (pI e.ty.1),.pure (pI e.ty.2.1),.pure (pI e.ty.2.2.1),.pure (pI e.ty.2.2.2.1),.pure (pI e.ty.2.2.2.2),.pure (pI e.lin.1),.pure (aw e.lin.2),.pure (du eQ e.idx),.pure (.slice (e.args.map Ex.row))]
abbrev ZP (e:Ex):bc:=Ul e.op e
abbrev bIx (x:Ix):bc:= .var [.pure (pI x.1.1),.pure (aw x.1.2),.pure (pS x.2.1),.pure (du cd x.2.2)]
theorem CI {p:bI} {d:Nat} {e:Ex} (h:zz p e) (k3:e.op≠3) (k11:e.op≠11) (IH: ∀a∈e.args,Ij p d a):Ij p d e:=by
 intro cs l q r nx F W hl hr hG hF
 have j: ∀k,q<nx+k:=λk=>by omega
 have hz:=Ex.sz_eq e
 have hH:=Ex.szs_len e.args
 have D:kF p e cs=sy p e.args cs:=by rw[pV,if_neg k3,if_neg k11,List.nil_append]
 rw[D]
 clear D
 refine au.ofZ (ress:= []) gp (by simp) λ_=>aa ?_
 simp only[fb]
 repeat' first|simp(disch:=omega)only[go_sem, *,aD,aE,k3,k11]|(with_reducible apply ab)<;>intro h<;>try omega
 refine an (λk:Nat=>⟨[(0,.c (.ptr q 0)),(2,bT cs),(90,.c (.pure (.slice (e.args.map Ex.row)))),(91,I e.args.length),(92,I k)],Yt q nx p d (l++sy p (e.args.take k) cs) F,nx+1,nx⟩) (λk=>k≤e.args.length) (λk=>e.args.length-k) ⟨0, [(nx,r)],by omega, ?_⟩ ?_
 ·simp only[List.take_zero,sy,List.append_nil]
  refine aq (by simp(disch:=omega) [aD,j]) ?_ rfl (by simp;try omega) (by simp[eg];try omega)
  repeat' first|exact hF.wkA|refine ar ?_ ?_ ?_ ?_ ?_|(simp(disch:=omega) [aD,j]<;>omega)|omega
 intro k hk
 refine aa ?_
 have v:q<nx:=by omega
 by_cases u:k<e.args.length
 ·have hm:=List.getElem_mem u
  have hR:=iC h hm
  have hU:=cU hm
  have w: ∀l:List Ex,(∀a∈l,i0 a)→(sy p l cs).length≤72*Ex.szs l:=by
   intro l
   induction l with
   |nil=>intro _;simp[sy]
   |cons a s ih=>
    intro hh
    have:=y8 p a (hh a List.mem_cons_self) cs
    have:=ih λb hb=>hh b (List.mem_cons_of_mem _ hb)
    simp only[sy,List.length_append,Ex.szs]
    omega
  have h1:=w (e.args.take k) λa ha=>iU h.1.1 (List.mem_of_mem_take ha)
  have h2:Ex.szs (e.args.take k)+e.args[k].sz≤Ex.szs e.args:=by
   have a1:=Ex.szs_take u
   have a2:Ex.szs (e.args.take (k+1))≤Ex.szs e.args:=by
    conv=>rhs;rw[←List.take_append_drop (k+1) e.args,Ex.szs_append]
    omega
   omega
  have pe:=IH _ hm cs (l++sy p (e.args.take k) cs) q nx (nx+2) ((nx+1,ZP e.args[k])::F) (by omega) (by simp only[List.length_append];omega) v (by omega) (vf hF (by omega) (by omega) (by omega) rfl (.inr (Nat.le_refl _)) (by omega))
  rw[List.append_assoc,←Px p cs u]at pe
  have g1:=ah (f:=Ex.row) u
  rw[Ex.row_eq]at g1
  clear IH h hR w h1 h2 hm
  repeat' first|simp(disch:=omega)only[go_sem, *,g1,aD,aE,wrap_i64]|(with_reducible apply ab)<;>intro h<;>try omega|refine ap (pe.perm (λnm=>by first|rfl|(simp only[am,al];done)|(simp only[am,al];(repeat' split)<;>first|rfl|omega))) ?_
  refine⟨k+1, [(nx,nx+2)],by omega,by omega, ?_⟩
  refine aq (by simp(disch:=omega) [aD,j,v]) ?_ rfl (by simp;try omega) (by simp[eg];try omega)
  repeat' first|exact hF.wkA|refine ar ?_ ?_ ?_ ?_ ?_|(simp(disch:=omega) [aD,j,v]<;>omega)|omega
 ·obtain rfl:k=e.args.length:=by omega
  rw[List.take_of_length_le (by omega)]
  repeat' first|simp(disch:=omega)only[go_sem, *,aD,aE]|(with_reducible apply ab)<;>intro h<;>try omega
  refine⟨[], [], ?_⟩
  simp(disch:=omega)only[go_sem,aR,aD,aE]
  refine aq (by simp(disch:=omega) [aD,j]) ?_ rfl (by simp;try omega) (by simp[eg];try omega)
  repeat' first|exact hF.wkA|refine ar ?_ ?_ ?_ ?_ ?_|(simp(disch:=omega) [aD,j]<;>omega)|omega
theorem H4 {p:bI} {d:Nat} {e:Ex} (h:zz p e) (k11:e.op=11) (IH: ∀a∈e.args,Ij p d a):Ij p d e:=by
 intro cs l q r nx F W hl hr hG hF
 have j: ∀k,q<nx+k:=λk=>by omega
 have ha:=(dY h.1.1).1
 rw[k11]at ha
 obtain⟨a,b,c,g⟩:=Zz (l:=e.args) ha
 have ma:a∈e.args:=by rw[g];simp
 have mb:b∈e.args:=by rw[g];simp
 have mc:c∈e.args:=by rw[g];simp
 have hz:=Ex.sz_eq e
 rw[g]at hz
 simp only[Ex.szs]at hz
 have oa:=iC h ma
 have on:=AZ oa.1
 have hS:(fh a).sz=1+a.sz:=by rw[Ex.sz_eq];simp[fh,Ex.args,Ex.szs]
 have fa:=(mw a oa.1).1
 have fn:(bA (fh a)).1.length≤a.sz:=by
  have e1:bA (fh a)=Bt (bA a):=Bh rfl rfl
  have:=Ex.sz_pos a
  rw[e1]
  unfold Bt
  split
  ·split
   ·rename_i hh
    show(fp _).1.length≤_
    omega
   ·simp
  ·simp
 have D:kF p e cs=kF p a cs++kF p b (cs++(bA a).1)++kF p c (cs++(bA (fh a)).1):=by
  rw[pV,if_neg (by omega),if_pos k11,g,List.nil_append]
  rfl
 have l1:=y8 p a oa.1.1 cs
 have l2:=y8 p b (iC h mb).1.1 (cs++(bA a).1)
 have pf:=wl oa.1 (by omega)
 have pn:=wl on (by omega)
 have p1:=IH a ma cs l q r (nx+1) ((nx,ZP e)::F) (by omega) (by omega) hr (by omega) (vf hF (by omega) (by omega) (by omega) rfl (.inl rfl) (by omega))
 have p2:=IH b mb (cs++(bA a).1) (l++kF p a cs) q (nx+1) (nx+2) ((nx,ZP e)::F) (by simp only[List.length_append];omega) (by simp only[List.length_append];omega) (by omega) (by omega) (vf hF (by omega) (by omega) (by omega) rfl (.inr (by omega)) (by omega))
 have p3:=IH c mc (cs++(bA (fh a)).1) (l++kF p a cs++kF p b (cs++(bA a).1)) q (nx+2) (nx+3) ((nx,ZP e)::F) (by simp only[List.length_append];omega) (by simp only[List.length_append];omega) (by omega) (by omega) (vf hF (by omega) (by omega) (by omega) rfl (.inr (by omega)) (by omega))
 rw[D,←List.append_assoc,←List.append_assoc]
 have X:bl 3 (cs.map cP):=av λ_=>rfl
 have hI:bl 3 ((bA a).1.map cP):=av λ_=>rfl
 have hJ:bl 3 ((bA (fh a)).1.map cP):=av λ_=>rfl
 have hT:bl 13 (e.args.map Ex.row):=av λx=>by rw[Ex.row_eq];rfl
 have tk:(cs.map cP).take cs.length=cs.map cP:=List.take_of_length_le (by simp)
 have hg:(e.args.map Ex.row)[0]? =some a.row:=by rw[g];rfl
 have hK:(e.args.map Ex.row)[1]? =some b.row:=by rw[g];rfl
 have hM:(e.args.map Ex.row)[2]? =some c.row:=by rw[g];rfl
 have hN:(e.args.map Ex.row).take 1= [a.row]:=by rw[g];rfl
 have hH:e.args.length=3:=by rw[g];rfl
 have lf:(bA a).1.length≤20000:=by omega
 have ln:(bA (fh a)).1.length≤20000:=by omega
 have lc:cs.length≤20000:=by omega
 rw[Ex.row_eq]at hg hK hM hN
 rw[show fJ (fh a)= .agg [.pure (pI 18),.pure (pS ⟨⟨[]⟩⟩),.pure (pI 0),.pure (pI 0),.pure (pI 0),.pure (pI 0),.pure (pI 0),.pure (pI 0),.pure (pI 0),.pure (pI 0),.pure (aw []),.pure (du eQ []),.pure (.slice [a.row])]from rfl,Ex.row_eq]at pn
 rw[show bT (cs++(bA a).1)= .c (.pure (.slice (cs.map cP++(bA a).1.map cP))) by show AV.c (.pure (.slice (List.map cP (_++_))))=_;rw[List.map_append]]at p2
 rw[show bT (cs++(bA (fh a)).1)= .c (.pure (.slice (cs.map cP++(bA (fh a)).1.map cP))) by show AV.c (.pure (.slice (List.map cP (_++_))))=_;rw[List.map_append]]at p3
 clear IH h ha g ma mb mc hz oa on hS fa fn D l1 l2 W hl
 refine au.ofZ (ress:= []) gp (by simp) λ_=>aa ?_
 simp only[fb]
 generalize kF p a cs=o1 at*
 generalize kF p b (cs++(bA a).1)=o2 at*
 generalize kF p c (cs++(bA (fh a)).1)=o3 at*
 simp only[fJ,ZP,k11]at p1 p2 p3
 repeat' first|simp(disch:=omega)only[go_sem, *,aD,aE,and_false,if_false,k11,hT,X,hg,hK,hM,hN,hH,tk,Int.reduceToNat,Int.toNat_zero,Int.toNat_one,Option.getD_none,Option.getD_some]|(with_reducible apply ab)<;>intro h<;>try omega|(with_reducible apply ag)|(with_reducible refine aj (λh=> ?_) ?_)|refine ap (p1.perm (λnm=>by first|rfl|(simp only[am,al];done)|(simp only[am,al];(repeat' split)<;>first|rfl|omega))) ?_|refine ap (p2.perm (λnm=>by first|rfl|(simp only[am,al];done)|(simp only[am,al];(repeat' split)<;>first|rfl|omega))) ?_|refine ap (p3.perm (λnm=>by first|rfl|(simp only[am,al];done)|(simp only[am,al];(repeat' split)<;>first|rfl|omega))) ?_|refine cg pf rfl rfl ?_|refine cg pn rfl rfl ?_|refine fZ X hI (by simp only[List.length_map];omega) (by simp only[List.length_map];omega) ?_|refine fZ X hJ (by simp only[List.length_map];omega) (by simp only[List.length_map];omega) ?_
 refine⟨[], [(nx,nx+3)], ?_⟩
 simp(disch:=omega)only[go_sem,aR,aD,aE]
 refine aq (by simp(disch:=omega) [aD,j]) ?_ rfl (by simp;try omega) (by simp[eg];try omega)
 repeat' first|exact hF.wkA|refine ar ?_ ?_ ?_ ?_ ?_|(simp(disch:=omega) [aD,j]<;>omega)|omega
theorem Bm {α β γ:Type} {f:α×β→List γ} {l:List α} {m:List β} {k:Nat} (h:k<l.length) (h':k<m.length):((l.zip m).take (k+1)).flatMap f=((l.zip m).take k).flatMap f++f (l[k],m[k]):=by
 have hz:k<(l.zip m).length:=by simp;omega
 rw[List.take_succ_eq_append_getElem hz,List.flatMap_append]
 simp
theorem E5 {α β γ:Type} {f:α×β→List γ} {n:Nat}: ∀{l:List (α×β)},(∀x∈l,(f x).length≤n)→(l.flatMap f).length≤n*l.length
 | [],_=>by simp
 |a::r,h=>by
  have h1:=h a List.mem_cons_self
  have h2:=E5 (l:=r) λx hx=>h x (List.mem_cons_of_mem _ hx)
  simp only[List.flatMap_cons,List.length_append,List.length_cons,Nat.mul_add]
  omega
theorem RF (cs a b:List bt):sk cs (a++b)=sk cs a++sk cs b:=by simp[sk]
theorem Si (cs a:List bt):(sk cs a).length=a.length:=by simp[sk]
theorem Ca {p:bI} {d:Nat} {e:Ex} (G:j0 p) (h:zz p e) (k3:e.op=3):Ij p d e:=by
 intro cs l q r nx F W hl hr hG hF
 have j: ∀k,q<nx+k:=λk=>by omega
 obtain⟨Y,_,_,hV,Z⟩:=dY h.1.1
 rw[k3]at Y
 have g:e.args= []:=List.eq_nil_of_length_eq_zero (by have:((e.args.length:Nat):Int)=0:=Y;omega)
 obtain⟨t,ds,hA,w,hO,hP⟩:=h.2 e (jG e) k3
 have hz:=Ex.sz_pos e
 have E: ∀n,nx≤n→am F n=none:=λn h=>ni hF h
 have D:kF p e cs=sk cs ((e.idx.zip ds).flatMap λq=>BJ p q.1 q.2):=by
  rw[pV,if_pos k3,if_neg (by omega),g,sy,List.append_nil,Gu,uW,hA]
  rfl
 rw[D]
 clear D Y
 have pf:=ie G e.name
 rw[hA]at pf
 have C:=λl hl=>((h.1.2 e (jG e)).2 l hl:bq l∧l.2.length≤1000)
 refine au.ofZ (ress:= []) gp (by simp) λ_=>aa ?_
 simp only[fb]
 repeat' first|simp(disch:=omega)only[go_sem, *,aD,aE,E,k3]|(with_reducible apply ab)<;>intro h<;>try omega|refine cg pf rfl rfl ?_
 refine an (λi:Nat=>⟨[(0,.c (.ptr q 0)),(2,bT cs),(4,.c (.ptr (nx+1) 0)),(7,md ds),(38,.c (.pure (du eQ e.idx))),(39,I e.idx.length),(40,I i)],(nx+1,Ul 3 e)::Yt q nx p d (l++sk cs (((e.idx.zip ds).take i).flatMap λq=>BJ p q.1 q.2)) F,nx+2,nx⟩) (λi=>i≤e.idx.length) (λi=>e.idx.length-i) ⟨0, [(nx,r),(nx+1,nx)],by omega, ?_⟩ ?_
 ·simp only[List.take_zero,List.flatMap_nil,sk,List.map_nil,List.append_nil]
  refine aq (by simp(disch:=omega) [aD,j,w]) ?_ rfl (by simp;try omega) (by simp[eg];try omega)
  repeat' first|exact hF.wkA|refine ar ?_ ?_ ?_ ?_ ?_|(simp(disch:=omega) [aD,j,w]<;>omega)|omega
 intro i hi
 refine aa ?_
 have v:q<nx:=by omega
 clear pf
 by_cases u:i<e.idx.length
 ·have H:i<ds.length:=by omega
  have hm:=List.getElem_mem u
  have g1:=ah (f:=eQ) u
  have g2:=ah (f:=cd) H
  have gd:=hO _ (List.getElem_mem H)
  have R:=hP _ hm
  have J:=C _ (List.mem_cons_of_mem _ (List.mem_flatMap.2 ⟨e.idx[i],hm,List.mem_cons_self⟩))
  have M: ∀l∈e.idx[i].2.2,bq l∧l.2.length≤1000:=λl hl=>C _ (List.mem_cons_of_mem _ (List.mem_flatMap.2 ⟨e.idx[i],hm,List.mem_cons_of_mem _ hl⟩))
  have h6:=Z _ hm
  have A:=Bm (f:=λq:Ix×bY=>BJ p q.1 q.2) u H
  have hW:(((e.idx.zip ds).take i).flatMap λq=>BJ p q.1 q.2).length≤60:=by
   have:=E5 (f:=λq:Ix×bY=>BJ p q.1 q.2) (n:=12) (l:=(e.idx.zip ds).take i) λx hx=>E6 (Z _ (List.of_mem_zip (List.mem_of_mem_take hx)).1)
   have h3:((e.idx.zip ds).take i).length≤i:=by simp;omega
   omega
  clear hP C hO Z h hm hA
  obtain⟨R1,hB⟩: ∃R1,R1=((e.idx.zip ds).take (i+1)).flatMap (λq=>BJ p q.1 q.2):=⟨_,rfl⟩
  rw[←hB]at A
  have HR1:=Lib.hid hB
  clear hB
  generalize ((e.idx.zip ds).take i).flatMap (λq=>BJ p q.1 q.2)=R0 at*
  generalize ds[i]=dl at*
  generalize e.idx[i]=x at*
  obtain⟨⟨K,L⟩,s,at'⟩:=x
  obtain⟨K2,L2⟩:=dl
  simp only[eQ,cd]at g1 g2 J gd R M h6 A
  have N:ds.length=e.idx.length:=w.symm
  by_cases hs:s=⟨⟨[]⟩⟩
  ·subst hs
   rw[BJ,if_pos rfl]at A
   have pn:=tb (p:=p) (d:=d) (f:=(K,L)) (x:=(K2,L2)) (cs:=cs) (l:=l++sk cs R0) (q:=q) (r:=nx) (nx:=nx+3) (F:=(nx+2,bIx ((K,L),⟨⟨[]⟩⟩,at'))::(nx+1,Ul 3 e)::F) J.1 gd.1 (by have:=J.2;simp only at this ⊢;omega) (by have:=gd.2;simp only at this ⊢;omega) (by simp only[List.length_append,Si];omega) v (by omega)
    (vf (vf hF (by omega) (by omega) (by omega) rfl (.inr (Nat.le_refl _)) (by omega)) (by omega) (Nat.le_refl _) (by omega) rfl (.inl rfl) (by omega))
   rw[List.append_assoc,←RF,←A]at pn
   clear A R J M gd w
   repeat' first|simp(disch:=omega)only[go_sem, *,g1,g2,N,aD,aE,E,wrap_i64]|(with_reducible apply ab)<;>intro h<;>try omega|refine ap (pn.perm (λnm=>by first|rfl|(simp only[am,al];done)|(simp only[am,al];(repeat' split)<;>first|rfl|omega))) ?_
   refine⟨i+1, [(nx,nx+3)],by omega,by omega, ?_⟩
   rw[←HR1.out]
   refine aq (by simp(disch:=omega) [aD,j,v]) ?_ rfl (by simp;try omega) (by simp[eg];try omega)
   repeat' first|exact hF.wkA|refine ar ?_ ?_ ?_ ?_ ?_|(simp(disch:=omega) [aD,j,v]<;>omega)|omega
  ·obtain⟨t',ds',O,z,P⟩:=R hs
   have pf2:=ie G s
   rw[O]at pf2
   rw[BJ,if_neg hs,uW,O]at A
   clear R J gd w g2 O
   simp only at A z
   repeat' first|simp(disch:=omega)only[go_sem, *,g1,N,aD,aE,E,hs]|(with_reducible apply ab)<;>intro h<;>try omega|refine cg pf2 rfl rfl ?_
   refine an (λk:Nat=>⟨[(0,.c (.ptr q 0)),(2,bT cs),(4,.c (.ptr (nx+1) 0)),(7,md ds),(12,md ds'),(38,.c (.pure (du eQ e.idx))),(39,I e.idx.length),(40,I i),(69,md at'),(70,I at'.length),(71,I k)],(nx+1,Ul 3 e)::Yt q nx p d (l++sk cs (R0++((at'.zip ds').take k).flatMap λq=>eP q.1 q.2)) F,nx+2,nx⟩) (λk=>k≤at'.length) (λk=>at'.length-k) ⟨0, [],by omega, ?_⟩ ?_
   ·simp only[List.take_zero,List.flatMap_nil,List.append_nil]
    refine aq (by simp(disch:=omega) [aD,j,v,z]) ?_ rfl (by simp;try omega) (by simp[eg];try omega)
    repeat' first|exact hF.wkA|refine ar ?_ ?_ ?_ ?_ ?_|(simp(disch:=omega) [aD,j,v,z]<;>omega)|omega
   clear pf2 g1
   intro k hk
   refine aa ?_
   by_cases hC:k<at'.length
   ·have Q:k<ds'.length:=by omega
    have g3:=ah (f:=cd) hC
    have g4:=ah (f:=cd) Q
    have b1:=M _ (List.getElem_mem hC)
    have b2:=P _ (List.getElem_mem Q)
    have V:=Bm (f:=λq:bY×bY=>eP q.1 q.2) hC Q
    have hX:(((at'.zip ds').take k).flatMap λq=>eP q.1 q.2).length≤12:=by
     rw[Mo]
     have:((at'.zip ds').take k).length≤at'.length:=by simp;omega
     omega
    have pn:=tb (p:=p) (d:=d) (f:=at'[k]) (x:=ds'[k]) (cs:=cs) (l:=l++sk cs (R0++((at'.zip ds').take k).flatMap λq=>eP q.1 q.2)) (r:=nx) (nx:=nx+3) (F:=(nx+2,.var [.pure (pI at'[k].1),.pure (aw at'[k].2)])::(nx+1,Ul 3 e)::F) b1.1 b2.1 (by have:=b1.2;omega) (by have:=b2.2;omega) (by simp only[List.length_append,Si];omega) v (by omega)
     (vf (vf hF (by omega) (by omega) (by omega) rfl (.inr (Nat.le_refl _)) (by omega)) (by omega) (Nat.le_refl _) (by omega) rfl (.inl rfl) (by omega))
    rw[List.append_assoc,←RF,List.append_assoc,←V]at pn
    clear V b1 b2 A M P
    simp only[cd]at g3 g4
    have hE:ds'.length=at'.length:=z.symm
    clear z
    repeat' first|simp(disch:=omega)only[go_sem, *,g3,g4,hE,aD,aE,E,wrap_i64]|(with_reducible apply ab)<;>intro h<;>try omega|refine ap (pn.perm (λnm=>by first|rfl|(simp only[am,al];done)|(simp only[am,al];(repeat' split)<;>first|rfl|omega))) ?_
    refine⟨k+1, [(nx,nx+3)],by omega,by omega, ?_⟩
    refine aq (by simp(disch:=omega) [aD,j,v]) ?_ rfl (by simp;try omega) (by simp[eg];try omega)
    repeat' first|exact hF.wkA|refine ar ?_ ?_ ?_ ?_ ?_|(simp(disch:=omega) [aD,j,v]<;>omega)|omega
   ·obtain rfl:k=at'.length:=by omega
    rw[List.take_of_length_le (l:=at'.zip ds') (by simp;omega),←A]
    clear A M P
    repeat' first|simp(disch:=omega)only[go_sem, *,aD,aE,E,wrap_i64]|(with_reducible apply ab)<;>intro h<;>try omega
    refine⟨i+1, [],by omega,by omega, ?_⟩
    rw[←HR1.out]
    refine aq (by simp(disch:=omega) [aD,j,v]) ?_ rfl (by simp;try omega) (by simp[eg];try omega)
    repeat' first|exact hF.wkA|refine ar ?_ ?_ ?_ ?_ ?_|(simp(disch:=omega) [aD,j,v]<;>omega)|omega
 ·obtain rfl:i=e.idx.length:=by omega
  rw[List.take_of_length_le (l:=e.idx.zip ds) (by simp;omega)]
  repeat' first|simp(disch:=omega)only[go_sem, *,aD,aE,E]|(with_reducible apply ab)<;>intro h<;>try omega
  refine an (λk:Nat=>⟨[(0,.c (.ptr q 0)),(2,bT cs),(90,.c (.pure (.slice []))),(91,I 0),(92,I 0)],Yt q nx p d (l++sk cs ((e.idx.zip ds).flatMap λq=>BJ p q.1 q.2)) F,nx+1,nx⟩) (λk=>k=0) (λ_=>0) ⟨0, [],rfl, ?_⟩ ?_
  ·refine aq (by simp(disch:=omega) [aD,j,g]) ?_ rfl (by simp;try omega) (by simp[eg];try omega)
   repeat' first|exact hF.wkA|refine ar ?_ ?_ ?_ ?_ ?_|(simp(disch:=omega) [aD,j,g]<;>omega)|omega
  rintro k rfl
  refine aa ?_
  repeat' first|simp(disch:=omega)only[go_sem, *,aD,aE,E]|(with_reducible apply ab)<;>intro h<;>try omega
  refine⟨[], [], ?_⟩
  simp(disch:=omega)only[go_sem,aR,aD,aE]
  refine aq (by simp(disch:=omega) [aD,j]) ?_ rfl (by simp;try omega) (by simp[eg];try omega)
  repeat' first|exact hF.wkA|refine ar ?_ ?_ ?_ ?_ ?_|(simp(disch:=omega) [aD,j]<;>omega)|omega
theorem I4 {p:bI} {d:Nat} (G:j0 p) (e:Ex):zz p e→Ij p d e:=by
 refine Ex.ind (p:=λe=>zz p e→Ij p d e) (λe ih h=> ?_) e
 by_cases k3:e.op=3
 ·exact Ca G h k3
 ·by_cases k11:e.op=11
  ·exact H4 h k11 λa ha=>ih a ha (iC h ha)
  ·exact CI h k3 k11 λa ha=>ih a ha (iC h ha)
set_option maxRecDepth 1000000
abbrev Jp:=Nat×Nat×Ob
def a6 (x:Jp):List PC:=obP x.1 x.2.1 x.2.2
def a5 (x:Jp):List PC:= [pI x.1,pI x.2.1,pI x.2.2.1.1.1,aw x.2.2.1.1.2,pB x.2.2.1.2]
def QV (p:bI) (x:zB×Nat):List Jp:=(kF p x.1.body []).zipIdx.map λy=>(x.2,y.2,y.1)
def ll (p:bI) (k:Nat):List Jp:=((p.defs.take k).zipIdx).flatMap (QV p)
def qM (p:bI):List Jp:=(p.defs.zipIdx).flatMap (QV p)
theorem BY {p:bI} {k:Nat} (h:k<p.defs.length):ll p (k+1)=ll p k++QV p (p.defs[k],k):=by
 unfold ll
 rw[List.take_succ_eq_append_getElem h,List.zipIdx_append,List.flatMap_append]
 simp[Nat.min_eq_left (Nat.le_of_lt h)]
theorem KR (p:bI) (d:zB) (k:Nat):(QV p (d,k)).map a6=jz k (kF p d.body []):=by
 simp[QV,jz,a6,Function.comp_def]
def Qb (p:bI):Prop:=p.defs.length≤1000∧ ∀d∈p.defs,zz p d.body∧d.body.sz≤20000-1
theorem O8 {p:bI} {d:zB} {k:Nat} (h:zz p d.body∧d.body.sz≤20000-1):(QV p (d,k)).length≤1440000:=by
 have:=y8 p d.body h.1.1.1 []
 simp only[QV,List.length_map,List.length_zipIdx]
 omega
theorem Ga {p:bI} (h:Qb p): ∀k,(ll p k).length≤1440000*k:=by
 intro k
 induction k with
 |zero=>simp[ll]
 |succ k ih=>
  by_cases u:k<p.defs.length
  ·rw[BY u,List.length_append]
   have:=O8 (k:=k) (h.2 _ (List.getElem_mem u))
   omega
  ·have:ll p (k+1)=ll p k:=by
    unfold ll
    rw[List.take_of_length_le (by omega),List.take_of_length_le (by omega)]
   rw[this]
   omega
theorem Fv {p:bI} (G:j0 p) (h:Qb p):ac Tryz.prog Bf [fO p] (j5 a6 (qM p)):=by
 refine ac.of Ja (by simp) λhb=>aa ?_
 have hY:=h.1
 conv in Bd=>cbv
 repeat' first|simp(disch:=omega)only[go_sem, *]|(with_reducible apply ab)<;>intro h<;>try omega
 refine dR 3 82 6 rfl (by decide) ?_
 refine an (λk:Nat=>⟨[(10,I k),(9,I p.defs.length),(8,.c (.pure (du da p.defs))),(3,.c (.ref 1)),(1,.c (.ptr 0 0))], [(1,.arr 82 6 ((ll p k).map a6)),(0,eV p)],2,0⟩) (λk=>k≤p.defs.length) (λk=>p.defs.length-k) ⟨0, [],by omega,by simp[ll]⟩ ?_
 intro k hk
 by_cases u:k<p.defs.length
 ·have hd:=h.2 _ (List.getElem_mem u)
  have hL:=Ga h k
  have hD:=O8 (k:=k) hd
  have pe:=I4 (d:=k) G p.defs[k].body hd.1 [] [] 3 4 5 [(2,Uc p.defs[k]),(1,.arr 82 6 ((ll p k).map a6)),(0,eV p)] (by have:=hd.2;simp;omega) (by have:=hd.2;simp;omega) (by omega) (by omega) ⟨by omega,rfl,by simp[ju],by omega,rfl,by simp[ju],by omega,rfl,by simp[ju],trivial⟩
  rw[List.nil_append]at pe
  have T:=KR p p.defs[k] k
  have hs:=BY u
  have g1:=ah (f:=da) u
  refine bN (aa ?_)
  repeat' first|simp(disch:=omega)only[go_sem, *]|(with_reducible apply ab)<;>intro h<;>try omega
  refine bN (eR (t:=decide ((k:Int)<(p.defs.length:Int))) rfl (λ_=>kU ?_) (λe=>absurd e (by simp;omega)))
  change AW _ _ _ _ _
  refine bN (uy (bN (aa ?_)))
  repeat' first|simp(disch:=omega)only[go_sem, *,g1,da]|(with_reducible apply ab)<;>intro h<;>try omega
  refine bN (aa ?_)
  repeat' first|simp(disch:=omega)only[go_sem, *]|(with_reducible apply ab)<;>intro h<;>try omega
  refine cQ 3 6 82 6 _ rfl rfl (by decide) ?_
  have pc:=au.nil3 pe
  have ho:bl 6 (jz k (kF p p.defs[k].body [])):=by rw[←T];exact av λx=>rfl
  have hc:(jz k (kF p p.defs[k].body [])).length≤1440000:=by rw[←T,List.length_map];exact hD
  have hQ:(ll p k).map a6++jz k (kF p p.defs[k].body [])=(ll p (k+1)).map a6:=by rw[hs,List.map_append,T]
  have HT:=Lib.hid hQ
  clear hQ hs T pe hb hd g1
  refine aa ?_
  repeat' first|simp(disch:=omega)only[go_sem, *]|(with_reducible apply ab)<;>intro h<;>try omega|refine ap (pc.perm (λnm=>by first|rfl|(simp only[am,al];done)|(simp only[am,al];(repeat' split)<;>first|rfl|omega))) ?_|refine aJ rfl (by intro h;cases h) ho (by simp only[List.length_map];omega) (by simp only[List.length_map];omega) ?_
  rw[HT.out]
  change AW _ _ _ _ _
  refine aa ?_
  repeat' first|simp(disch:=omega)only[go_sem, *,wrap_i64]|(with_reducible apply ab)<;>intro h<;>try omega
  exact⟨k+1, [(1,6)],by omega,by omega,by simp⟩
 ·obtain rfl:k=p.defs.length:=by omega
  refine aa ?_
  rw[show ll p p.defs.length=qM p by unfold ll qM;rw[List.take_of_length_le (Nat.le_refl _)]]
  repeat' first|simp(disch:=omega)only[go_sem, *]|(with_reducible apply ab)<;>intro h<;>try omega
  all_goals rfl
def X4 (p:bI):List Jp:=if(bQ p).2≠0 then []else qM p
theorem PI {p:bI} (h:Qb p):(qM p).length≤1440000000:=by
 have h1:=Ga h p.defs.length
 have h2:=h.1
 rw[show ll p p.defs.length=qM p by unfold ll qM;rw[List.take_of_length_le (Nat.le_refl _)]]at h1
 omega
end
end Go.Proofs.YthbcbaembicdbaaGreatDoor
