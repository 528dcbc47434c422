import Derived.Test.YtiapgekjmcjjgaaGreatDoorV18e
set_option maxHeartbeats 4000000
set_option linter.unusedVariables false
set_option linter.unusedSimpArgs false
set_option maxRecDepth 20000
namespace Go.Proofs.YtiapgekjmcjjgaaGreatDoor
open Go.Abs Go.RowKit
noncomputable section
def SU (p:bG) (d:Nat) (e:Ex):Prop:= ∀(cs:List aU) (l:List Ob) (q r nx:Nat) (F:List (Nat×bk)),cs.length+e.sz≤20000→l.length+72*e.sz≤100000000→q<r→r<nx→Go.Abs.dq nx [q,r] F→
  aw Tryz.prog 36 [.c (.ptr q 0),fE e,bB cs] (QM q r p d l F) nx (fm []) (QM q nx p d (l++jo p e cs) F) (nx+1)
abbrev Nl (o:Int) (e:Ex):bk:= .var [.pure (pI o),.pure (pS e.name),.pure (pI e.val.1),.pure (pI e.val.2),.pure (pI e.ty.1),.pure (pI e.ty.2.1),.pure (pI e.ty.2.2.1),.pure (pI e.ty.2.2.2.1),.pure (pI e.ty.2.2.2.2),.pure (pI e.lin.1),.pure (ay e.lin.2),.pure (dp eR e.idx),.pure (.slice (e.args.map Ex.row))]
abbrev RT (e:Ex):bk:=Nl e.op e
abbrev Wl (x:Ix):bk:= .var [.pure (pI x.1.1),.pure (ay x.1.2),.pure (pS x.2.1),.pure (dp b9 x.2.2)]
theorem wc {p:bG} {d:Nat} {e:Ex} (h:uk p e) (k3:e.op≠3) (k11:e.op≠11) (IH: ∀a∈e.args,SU p d a):SU p d e:=by
 intro cs l q r nx F W hl hr hG hF
 have j: ∀k,q<nx+k:= λk=>by omega
 have hz:=Ex.sz_eq e
 have hH:=Ex.szs_len e.args
 have D:jo p e cs=m8 p e.args cs:=by rw[lU,if_neg k3,if_neg k11,List.nil_append]
 rw[D]
 clear D
 refine aw.ofZ (ress:= []) f6 (by simp) λ_=>aa ?_
 simp only[fb]
 repeat' first|simp(disch:=omega)only[go_sem, *,aF,aN,k3,k11]|apply ab<;>intro h<;>try omega
 refine ai (λk:Nat=>⟨[(0,.c (.ptr q 0)),(2,bB cs),(90,.c (.pure (.slice (e.args.map Ex.row)))),(91,I e.args.length),(92,I k)],QM q nx p d (l++m8 p (e.args.take k) cs) F,nx+1,nx⟩) (λk=>k≤e.args.length) (λk=>e.args.length-k) ⟨0, [(nx,r)],by omega, ?_⟩ ?_
 ·simp only[List.take_zero,m8,List.append_nil]
  refine au (by simp(disch:=omega) [aF,j]) ?_ rfl (by simp;try omega) (by simp[eg];try omega)
  repeat' first|exact hF.wkA|refine av ?_ ?_ ?_ ?_ ?_|(simp(disch:=omega) [aF,j]<;>omega)|omega
 intro k hk
 refine aa ?_
 have v:q<nx:=by omega
 by_cases u:k<e.args.length
 ·have hm:=List.getElem_mem u
  have hS:=gY h hm
  have hV:=cQ hm
  have w: ∀l:List Ex,(∀a∈l,iy a)→(m8 p l cs).length≤72*Ex.szs l:=by
   intro l
   induction l with
   |nil=>intro _;simp[m8]
   |cons a s ih=>
    intro hh
    have:=tz p a (hh a List.mem_cons_self) cs
    have:=ih λb hb=>hh b (List.mem_cons_of_mem _ hb)
    simp only[m8,List.length_append,Ex.szs]
    omega
  have h1:=w (e.args.take k) λa ha=>il h.1.1 (List.mem_of_mem_take ha)
  have h2:Ex.szs (e.args.take k)+e.args[k].sz≤Ex.szs e.args:=by
   have a1:=Ex.szs_take u
   have a2:Ex.szs (e.args.take (k+1))≤Ex.szs e.args:=by
    conv=>rhs;rw[←List.take_append_drop (k+1) e.args,Ex.szs_append]
    omega
   omega
  have pe:=IH _ hm cs (l++m8 p (e.args.take k) cs) q nx (nx+2) ((nx+1,RT e.args[k])::F) (by omega) (by simp only[List.length_append];omega) v (by omega) (qv hF (by omega) (by omega) (by omega) rfl (.inr (Nat.le_refl _)) (by omega))
  rw[List.append_assoc,←Ge p cs u]at pe
  have g1:=ah (f:=Ex.row) u
  rw[Ex.row_eq]at g1
  clear IH h hS w h1 h2 hm
  repeat' first|simp(disch:=omega)only[go_sem, *,g1,aF,aN,wrap_i64]|apply ab<;>intro h<;>try omega|refine ap (pe.perm (λnm=>by first|rfl|(simp only[al,aj];done)|(simp only[al,aj];(repeat' split)<;>first|rfl|omega))) ?_
  refine⟨k+1, [(nx,nx+2)],by omega,by omega, ?_⟩
  refine au (by simp(disch:=omega) [aF,j,v]) ?_ rfl (by simp;try omega) (by simp[eg];try omega)
  repeat' first|exact hF.wkA|refine av ?_ ?_ ?_ ?_ ?_|(simp(disch:=omega) [aF,j,v]<;>omega)|omega
 ·obtain rfl:k=e.args.length:=by omega
  rw[List.take_of_length_le (by omega)]
  repeat' first|simp(disch:=omega)only[go_sem, *,aF,aN]|apply ab<;>intro h<;>try omega
  refine⟨[], [], ?_⟩
  simp(disch:=omega)only[go_sem,aQ,aF,aN]
  refine au (by simp(disch:=omega) [aF,j]) ?_ rfl (by simp;try omega) (by simp[eg];try omega)
  repeat' first|exact hF.wkA|refine av ?_ ?_ ?_ ?_ ?_|(simp(disch:=omega) [aF,j]<;>omega)|omega
theorem zP {p:bG} {d:Nat} {e:Ex} (h:uk p e) (k11:e.op=11) (IH: ∀a∈e.args,SU p d a):SU p d e:=by
 intro cs l q r nx F W hl hr hG hF
 have j: ∀k,q<nx+k:= λk=>by omega
 have ha:=(dP h.1.1).1
 rw[k11]at ha
 obtain⟨a,b,c,g⟩:=RP (l:=e.args) ha
 have ma:a∈e.args:=by rw[g];simp
 have mb:b∈e.args:=by rw[g];simp
 have mc:c∈e.args:=by rw[g];simp
 have hz:=Ex.sz_eq e
 rw[g]at hz
 simp only[Ex.szs]at hz
 have oa:=gY h ma
 have on:=vA oa.1
 have hT:(fc a).sz=1+a.sz:=by rw[Ex.sz_eq];simp[fc,Ex.args,Ex.szs]
 have fa:=(kf a oa.1).1
 have fn:(bE (fc a)).1.length≤a.sz:=by
  have e1:bE (fc a)=uX (bE a):=vt rfl rfl
  have:=Ex.sz_pos a
  rw[e1]
  unfold uX
  split
  ·split
   ·rename_i hh
    show(eT _).1.length≤_
    omega
   ·simp
  ·simp
 have D:jo p e cs=jo p a cs++jo p b (cs++(bE a).1)++jo p c (cs++(bE (fc a)).1):=by
  rw[lU,if_neg (by omega),if_pos k11,g,List.nil_append]
  rfl
 have l1:=tz p a oa.1.1 cs
 have l2:=tz p b (gY h mb).1.1 (cs++(bE a).1)
 have pf:=qF oa.1 (by omega)
 have pn:=qF on (by omega)
 have p1:=IH a ma cs l q r (nx+1) ((nx,RT e)::F) (by omega) (by omega) hr (by omega) (qv hF (by omega) (by omega) (by omega) rfl (.inl rfl) (by omega))
 have p2:=IH b mb (cs++(bE a).1) (l++jo p a cs) q (nx+1) (nx+2) ((nx,RT e)::F) (by simp only[List.length_append];omega) (by simp only[List.length_append];omega) (by omega) (by omega) (qv hF (by omega) (by omega) (by omega) rfl (.inr (by omega)) (by omega))
 have p3:=IH c mc (cs++(bE (fc a)).1) (l++jo p a cs++jo p b (cs++(bE a).1)) q (nx+2) (nx+3) ((nx,RT e)::F) (by simp only[List.length_append];omega) (by simp only[List.length_append];omega) (by omega) (by omega) (qv hF (by omega) (by omega) (by omega) rfl (.inr (by omega)) (by omega))
 rw[D,←List.append_assoc,←List.append_assoc]
 have X:aK 3 (cs.map cP):=ar λ_=>rfl
 have hI:aK 3 ((bE a).1.map cP):=ar λ_=>rfl
 have hJ:aK 3 ((bE (fc a)).1.map cP):=ar λ_=>rfl
 have hU:aK 13 (e.args.map Ex.row):=ar λx=>by rw[Ex.row_eq];rfl
 have tk:(cs.map cP).take cs.length=cs.map cP:=List.take_of_length_le (by simp)
 have hg:(e.args.map Ex.row)[0]? =some a.row:=by rw[g];rfl
 have hK:(e.args.map Ex.row)[1]? =some b.row:=by rw[g];rfl
 have hM:(e.args.map Ex.row)[2]? =some c.row:=by rw[g];rfl
 have hN:(e.args.map Ex.row).take 1= [a.row]:=by rw[g];rfl
 have hH:e.args.length=3:=by rw[g];rfl
 have lf:(bE a).1.length≤20000:=by omega
 have ln:(bE (fc a)).1.length≤20000:=by omega
 have lc:cs.length≤20000:=by omega
 rw[Ex.row_eq]at hg hK hM hN
 rw[show fE (fc a)= .agg [.pure (pI 18),.pure (pS ⟨⟨[]⟩⟩),.pure (pI 0),.pure (pI 0),.pure (pI 0),.pure (pI 0),.pure (pI 0),.pure (pI 0),.pure (pI 0),.pure (pI 0),.pure (ay []),.pure (dp eR []),.pure (.slice [a.row])]from rfl,Ex.row_eq]at pn
 rw[show bB (cs++(bE a).1)= .c (.pure (.slice (cs.map cP++(bE a).1.map cP))) by show AV.c (.pure (.slice (List.map cP (_++_))))=_;rw[List.map_append]]at p2
 rw[show bB (cs++(bE (fc a)).1)= .c (.pure (.slice (cs.map cP++(bE (fc a)).1.map cP))) by show AV.c (.pure (.slice (List.map cP (_++_))))=_;rw[List.map_append]]at p3
 clear IH h ha g ma mb mc hz oa on hT fa fn D l1 l2 W hl
 refine aw.ofZ (ress:= []) f6 (by simp) λ_=>aa ?_
 simp only[fb]
 generalize jo p a cs=o1 at*
 generalize jo p b (cs++(bE a).1)=o2 at*
 generalize jo p c (cs++(bE (fc a)).1)=o3 at*
 simp only[fE,RT,k11]at p1 p2 p3
 repeat' first|simp(disch:=omega)only[go_sem, *,aF,aN,and_false,if_false,k11,hU,X,hg,hK,hM,hN,hH,tk,Int.reduceToNat,Int.toNat_zero,Int.toNat_one,Option.getD_none,Option.getD_some]|apply ab<;>intro h<;>try omega|apply af|(with_reducible refine ag (λh=> ?_) ?_)|refine ap (p1.perm (λnm=>by first|rfl|(simp only[al,aj];done)|(simp only[al,aj];(repeat' split)<;>first|rfl|omega))) ?_|refine ap (p2.perm (λnm=>by first|rfl|(simp only[al,aj];done)|(simp only[al,aj];(repeat' split)<;>first|rfl|omega))) ?_|refine ap (p3.perm (λnm=>by first|rfl|(simp only[al,aj];done)|(simp only[al,aj];(repeat' split)<;>first|rfl|omega))) ?_|refine aW pf rfl rfl ?_|refine aW pn rfl rfl ?_|refine cN X hI (by simp only[List.length_map];omega) (by simp only[List.length_map];omega) ?_|refine cN X hJ (by simp only[List.length_map];omega) (by simp only[List.length_map];omega) ?_
 refine⟨[], [(nx,nx+3)], ?_⟩
 simp(disch:=omega)only[go_sem,aQ,aF,aN]
 refine au (by simp(disch:=omega) [aF,j]) ?_ rfl (by simp;try omega) (by simp[eg];try omega)
 repeat' first|exact hF.wkA|refine av ?_ ?_ ?_ ?_ ?_|(simp(disch:=omega) [aF,j]<;>omega)|omega
theorem vi {α β γ:Type} {f:α×β→List γ} {l:List α} {m:List β} {k:Nat} (h:k<l.length) (h':k<m.length):((l.zip m).take (k+1)).flatMap f=((l.zip m).take k).flatMap f++f (l[k],m[k]):=by
 have hz:k<(l.zip m).length:=by simp;omega
 rw[List.take_succ_eq_append_getElem hz,List.flatMap_append]
 simp
theorem yY {α β γ:Type} {f:α×β→List γ} {n:Nat}: ∀{l:List (α×β)},(∀x∈l,(f x).length≤n)→(l.flatMap f).length≤n*l.length
 | [],_=>by simp
 |a::r,h=>by
  have h1:=h a List.mem_cons_self
  have h2:=yY (l:=r) λx hx=>h x (List.mem_cons_of_mem _ hx)
  simp only[List.flatMap_cons,List.length_append,List.length_cons,Nat.mul_add]
  omega
theorem LD (cs a b:List aU):oJ cs (a++b)=oJ cs a++oJ cs b:=by simp[oJ]
theorem Lj (cs a:List aU):(oJ cs a).length=a.length:=by simp[oJ]
theorem v8 {p:bG} {d:Nat} {e:Ex} (G:iR p) (h:uk p e) (k3:e.op=3):SU p d e:=by
 intro cs l q r nx F W hl hr hG hF
 have j: ∀k,q<nx+k:= λk=>by omega
 obtain⟨Y,_,_,hW,Z⟩:=dP h.1.1
 rw[k3]at Y
 have g:e.args= []:=List.eq_nil_of_length_eq_zero (by have:((e.args.length:Nat):Int)=0:=Y;omega)
 obtain⟨t,ds,hA,w,hP,hQ⟩:=h.2 e (jh e) k3
 have hz:=Ex.sz_pos e
 have E: ∀n,nx≤n→al F n=none:= λn h=>lj hF h
 have D:jo p e cs=oJ cs ((e.idx.zip ds).flatMap λq=>u0 p q.1 q.2):=by
  rw[lU,if_pos k3,if_neg (by omega),g,m8,List.append_nil,vd,nE,hA]
  rfl
 rw[D]
 clear D Y
 have pf:=gL G e.name
 rw[hA]at pf
 have C:= λl hl=>((h.1.2 e (jh e)).2 l hl:bl l∧l.2.length≤1000)
 refine aw.ofZ (ress:= []) f6 (by simp) λ_=>aa ?_
 simp only[fb]
 repeat' first|simp(disch:=omega)only[go_sem, *,aF,aN,E,k3]|apply ab<;>intro h<;>try omega|refine aW pf rfl rfl ?_
 refine ai (λi:Nat=>⟨[(0,.c (.ptr q 0)),(2,bB cs),(4,.c (.ptr (nx+1) 0)),(7,j6 ds),(38,.c (.pure (dp eR e.idx))),(39,I e.idx.length),(40,I i)],(nx+1,Nl 3 e)::QM q nx p d (l++oJ cs (((e.idx.zip ds).take i).flatMap λq=>u0 p q.1 q.2)) F,nx+2,nx⟩) (λi=>i≤e.idx.length) (λi=>e.idx.length-i) ⟨0, [(nx,r),(nx+1,nx)],by omega, ?_⟩ ?_
 ·simp only[List.take_zero,List.flatMap_nil,oJ,List.map_nil,List.append_nil]
  refine au (by simp(disch:=omega) [aF,j,w]) ?_ rfl (by simp;try omega) (by simp[eg];try omega)
  repeat' first|exact hF.wkA|refine av ?_ ?_ ?_ ?_ ?_|(simp(disch:=omega) [aF,j,w]<;>omega)|omega
 intro i hi
 refine aa ?_
 have v:q<nx:=by omega
 clear pf
 by_cases u:i<e.idx.length
 ·have H:i<ds.length:=by omega
  have hm:=List.getElem_mem u
  have g1:=ah (f:=eR) u
  have g2:=ah (f:=b9) H
  have gd:=hP _ (List.getElem_mem H)
  have R:=hQ _ hm
  have J:=C _ (List.mem_cons_of_mem _ (List.mem_flatMap.2 ⟨e.idx[i],hm,List.mem_cons_self⟩))
  have M: ∀l∈e.idx[i].2.2,bl l∧l.2.length≤1000:= λl hl=>C _ (List.mem_cons_of_mem _ (List.mem_flatMap.2 ⟨e.idx[i],hm,List.mem_cons_of_mem _ hl⟩))
  have h6:=Z _ hm
  have A:=vi (f:= λq:Ix×bW=>u0 p q.1 q.2) u H
  have hX:(((e.idx.zip ds).take i).flatMap λq=>u0 p q.1 q.2).length≤60:=by
   have:=yY (f:= λq:Ix×bW=>u0 p q.1 q.2) (n:=12) (l:=(e.idx.zip ds).take i) λx hx=>yR (Z _ (List.of_mem_zip (List.mem_of_mem_take hx)).1)
   have h3:((e.idx.zip ds).take i).length≤i:=by simp;omega
   omega
  clear hQ C hP Z h hm hA
  obtain⟨R1,hB⟩: ∃R1,R1=((e.idx.zip ds).take (i+1)).flatMap (λq=>u0 p q.1 q.2):=⟨_,rfl⟩
  rw[←hB]at A
  have HR1:=Lib.hid hB
  clear hB
  generalize ((e.idx.zip ds).take i).flatMap (λq=>u0 p q.1 q.2)=R0 at*
  generalize ds[i]=dl at*
  generalize e.idx[i]=x at*
  obtain⟨⟨K,L⟩,s,at'⟩:=x
  obtain⟨K2,L2⟩:=dl
  simp only[eR,b9]at g1 g2 J gd R M h6 A
  have N:ds.length=e.idx.length:=w.symm
  by_cases hs:s=⟨⟨[]⟩⟩
  ·subst hs
   rw[u0,if_pos rfl]at A
   have pn:=oW (p:=p) (d:=d) (f:=(K,L)) (x:=(K2,L2)) (cs:=cs) (l:=l++oJ cs R0) (q:=q) (r:=nx) (nx:=nx+3) (F:=(nx+2,Wl ((K,L),⟨⟨[]⟩⟩,at'))::(nx+1,Nl 3 e)::F) J.1 gd.1 (by have:=J.2;simp only at this ⊢;omega) (by have:=gd.2;simp only at this ⊢;omega) (by simp only[List.length_append,Lj];omega) v (by omega)
    (qv (qv hF (by omega) (by omega) (by omega) rfl (.inr (Nat.le_refl _)) (by omega)) (by omega) (Nat.le_refl _) (by omega) rfl (.inl rfl) (by omega))
   rw[List.append_assoc,←LD,←A]at pn
   clear A R J M gd w
   repeat' first|simp(disch:=omega)only[go_sem, *,g1,g2,N,aF,aN,E,wrap_i64]|apply ab<;>intro h<;>try omega|refine ap (pn.perm (λnm=>by first|rfl|(simp only[al,aj];done)|(simp only[al,aj];(repeat' split)<;>first|rfl|omega))) ?_
   refine⟨i+1, [(nx,nx+3)],by omega,by omega, ?_⟩
   rw[←HR1.out]
   refine au (by simp(disch:=omega) [aF,j,v]) ?_ rfl (by simp;try omega) (by simp[eg];try omega)
   repeat' first|exact hF.wkA|refine av ?_ ?_ ?_ ?_ ?_|(simp(disch:=omega) [aF,j,v]<;>omega)|omega
  ·obtain⟨t',ds',O,z,P⟩:=R hs
   have pf2:=gL G s
   rw[O]at pf2
   rw[u0,if_neg hs,nE,O]at A
   clear R J gd w g2 O
   simp only at A z
   repeat' first|simp(disch:=omega)only[go_sem, *,g1,N,aF,aN,E,hs]|apply ab<;>intro h<;>try omega|refine aW pf2 rfl rfl ?_
   refine ai (λk:Nat=>⟨[(0,.c (.ptr q 0)),(2,bB cs),(4,.c (.ptr (nx+1) 0)),(7,j6 ds),(12,j6 ds'),(38,.c (.pure (dp eR e.idx))),(39,I e.idx.length),(40,I i),(69,j6 at'),(70,I at'.length),(71,I k)],(nx+1,Nl 3 e)::QM q nx p d (l++oJ cs (R0++((at'.zip ds').take k).flatMap λq=>d7 q.1 q.2)) F,nx+2,nx⟩) (λk=>k≤at'.length) (λk=>at'.length-k) ⟨0, [],by omega, ?_⟩ ?_
   ·simp only[List.take_zero,List.flatMap_nil,List.append_nil]
    refine au (by simp(disch:=omega) [aF,j,v,z]) ?_ rfl (by simp;try omega) (by simp[eg];try omega)
    repeat' first|exact hF.wkA|refine av ?_ ?_ ?_ ?_ ?_|(simp(disch:=omega) [aF,j,v,z]<;>omega)|omega
   clear pf2 g1
   intro k hk
   refine aa ?_
   by_cases hC:k<at'.length
   ·have Q:k<ds'.length:=by omega
    have g3:=ah (f:=b9) hC
    have g4:=ah (f:=b9) Q
    have b1:=M _ (List.getElem_mem hC)
    have b2:=P _ (List.getElem_mem Q)
    have V:=vi (f:= λq:bW×bW=>d7 q.1 q.2) hC Q
    have hY:(((at'.zip ds').take k).flatMap λq=>d7 q.1 q.2).length≤12:=by
     rw[E7]
     have:((at'.zip ds').take k).length≤at'.length:=by simp;omega
     omega
    have pn:=oW (p:=p) (d:=d) (f:=at'[k]) (x:=ds'[k]) (cs:=cs) (l:=l++oJ cs (R0++((at'.zip ds').take k).flatMap λq=>d7 q.1 q.2)) (r:=nx) (nx:=nx+3) (F:=(nx+2,.var [.pure (pI at'[k].1),.pure (ay at'[k].2)])::(nx+1,Nl 3 e)::F) b1.1 b2.1 (by have:=b1.2;omega) (by have:=b2.2;omega) (by simp only[List.length_append,Lj];omega) v (by omega)
     (qv (qv hF (by omega) (by omega) (by omega) rfl (.inr (Nat.le_refl _)) (by omega)) (by omega) (Nat.le_refl _) (by omega) rfl (.inl rfl) (by omega))
    rw[List.append_assoc,←LD,List.append_assoc,←V]at pn
    clear V b1 b2 A M P
    simp only[b9]at g3 g4
    have hE:ds'.length=at'.length:=z.symm
    clear z
    repeat' first|simp(disch:=omega)only[go_sem, *,g3,g4,hE,aF,aN,E,wrap_i64]|apply ab<;>intro h<;>try omega|refine ap (pn.perm (λnm=>by first|rfl|(simp only[al,aj];done)|(simp only[al,aj];(repeat' split)<;>first|rfl|omega))) ?_
    refine⟨k+1, [(nx,nx+3)],by omega,by omega, ?_⟩
    refine au (by simp(disch:=omega) [aF,j,v]) ?_ rfl (by simp;try omega) (by simp[eg];try omega)
    repeat' first|exact hF.wkA|refine av ?_ ?_ ?_ ?_ ?_|(simp(disch:=omega) [aF,j,v]<;>omega)|omega
   ·obtain rfl:k=at'.length:=by omega
    rw[List.take_of_length_le (l:=at'.zip ds') (by simp;omega),←A]
    clear A M P
    repeat' first|simp(disch:=omega)only[go_sem, *,aF,aN,E,wrap_i64]|apply ab<;>intro h<;>try omega
    refine⟨i+1, [],by omega,by omega, ?_⟩
    rw[←HR1.out]
    refine au (by simp(disch:=omega) [aF,j,v]) ?_ rfl (by simp;try omega) (by simp[eg];try omega)
    repeat' first|exact hF.wkA|refine av ?_ ?_ ?_ ?_ ?_|(simp(disch:=omega) [aF,j,v]<;>omega)|omega
 ·obtain rfl:i=e.idx.length:=by omega
  rw[List.take_of_length_le (l:=e.idx.zip ds) (by simp;omega)]
  repeat' first|simp(disch:=omega)only[go_sem, *,aF,aN,E]|apply ab<;>intro h<;>try omega
  refine ai (λk:Nat=>⟨[(0,.c (.ptr q 0)),(2,bB cs),(90,.c (.pure (.slice []))),(91,I 0),(92,I 0)],QM q nx p d (l++oJ cs ((e.idx.zip ds).flatMap λq=>u0 p q.1 q.2)) F,nx+1,nx⟩) (λk=>k=0) (λ_=>0) ⟨0, [],rfl, ?_⟩ ?_
  ·refine au (by simp(disch:=omega) [aF,j,g]) ?_ rfl (by simp;try omega) (by simp[eg];try omega)
   repeat' first|exact hF.wkA|refine av ?_ ?_ ?_ ?_ ?_|(simp(disch:=omega) [aF,j,g]<;>omega)|omega
  rintro k rfl
  refine aa ?_
  repeat' first|simp(disch:=omega)only[go_sem, *,aF,aN,E]|apply ab<;>intro h<;>try omega
  refine⟨[], [], ?_⟩
  simp(disch:=omega)only[go_sem,aQ,aF,aN]
  refine au (by simp(disch:=omega) [aF,j]) ?_ rfl (by simp;try omega) (by simp[eg];try omega)
  repeat' first|exact hF.wkA|refine av ?_ ?_ ?_ ?_ ?_|(simp(disch:=omega) [aF,j]<;>omega)|omega
theorem Cb {p:bG} {d:Nat} (G:iR p) (e:Ex):uk p e→SU p d e:=by
 refine Ex.ind (p:= λe=>uk p e→SU p d e) (λe ih h=> ?_) e
 by_cases k3:e.op=3
 ·exact v8 G h k3
 ·by_cases k11:e.op=11
  ·exact zP h k11 λa ha=>ih a ha (gY h ha)
  ·exact wc h k3 k11 λa ha=>ih a ha (gY h ha)
set_option maxRecDepth 1000000
abbrev ww:=Nat×Nat×Ob
def a6 (x:ww):List PC:=Vk x.1 x.2.1 x.2.2
def a5 (x:ww):List PC:= [pI x.1,pI x.2.1,pI x.2.2.1.1.1,ay x.2.2.1.1.2,pB x.2.2.1.2]
def Eo (p:bG) (x:uu×Nat):List ww:=(jo p x.1.body []).zipIdx.map λy=>(x.2,y.2,y.1)
def jR (p:bG) (k:Nat):List ww:=((p.defs.take k).zipIdx).flatMap (Eo p)
def im (p:bG):List ww:=(p.defs.zipIdx).flatMap (Eo p)
theorem wT {p:bG} {k:Nat} (h:k<p.defs.length):jR p (k+1)=jR p k++Eo p (p.defs[k],k):=by
 unfold jR
 rw[List.take_succ_eq_append_getElem h,List.zipIdx_append,List.flatMap_append]
 simp[Nat.min_eq_left (Nat.le_of_lt h)]
theorem DR (p:bG) (d:uu) (k:Nat):(Eo p (d,k)).map a6=iU k (jo p d.body []):=by
 simp[Eo,iU,a6,Function.comp_def]
def Ci (p:bG):Prop:=p.defs.length≤1000∧ ∀d∈p.defs,uk p d.body∧d.body.sz≤20000-1
theorem Gl {p:bG} {d:uu} {k:Nat} (h:uk p d.body∧d.body.sz≤20000-1):(Eo p (d,k)).length≤1440000:=by
 have:=tz p d.body h.1.1.1 []
 simp only[Eo,List.length_map,List.length_zipIdx]
 omega
theorem zj {p:bG} (h:Ci p): ∀k,(jR p k).length≤1440000*k:=by
 intro k
 induction k with
 |zero=>simp[jR]
 |succ k ih=>
  by_cases u:k<p.defs.length
  ·rw[wT u,List.length_append]
   have:=Gl (k:=k) (h.2 _ (List.getElem_mem u))
   omega
  ·have:jR p (k+1)=jR p k:=by
    unfold jR
    rw[List.take_of_length_le (by omega),List.take_of_length_le (by omega)]
   rw[this]
   omega
theorem qe {p:bG} (G:iR p) (h:Ci p):ac Tryz.prog 14 [gy p] (i6 a6 (im p)):=by
 refine ac.of B7 (by simp) λhb=>aa ?_
 have hc:=h.1
 conv in bh _ _=>cbv
 repeat' first|simp(disch:=omega)only[go_sem, *]|apply ab<;>intro h<;>try omega
 refine dv 3 68 6 rfl (by decide) ?_
 refine ai (λk:Nat=>⟨[(10,I k),(9,I p.defs.length),(8,.c (.pure (dp di p.defs))),(3,.c (.ref 1)),(1,.c (.ptr 0 0))], [(1,.arr 68 6 ((jR p k).map a6)),(0,eJ p)],2,0⟩) (λk=>k≤p.defs.length) (λk=>p.defs.length-k) ⟨0, [],by omega,by simp[jR]⟩ ?_
 intro k hk
 by_cases u:k<p.defs.length
 ·have hd:=h.2 _ (List.getElem_mem u)
  have hL:=zj h k
  have hD:=Gl (k:=k) hd
  have pe:=Cb (d:=k) G p.defs[k].body hd.1 [] [] 3 4 5 [(2,L0 p.defs[k]),(1,.arr 68 6 ((jR p k).map a6)),(0,eJ p)] (by have:=hd.2;simp;omega) (by have:=hd.2;simp;omega) (by omega) (by omega) ⟨by omega,rfl,by simp[iI],by omega,rfl,by simp[iI],by omega,rfl,by simp[iI],trivial⟩
  rw[List.nil_append]at pe
  have T:=DR p p.defs[k] k
  have hs:=wT u
  have g1:=ah (f:=di) u
  refine bU (aa ?_)
  repeat' first|simp(disch:=omega)only[go_sem, *]|apply ab<;>intro h<;>try omega
  refine bU (fw (t:=decide ((k:Int)<(p.defs.length:Int))) rfl (λ_=>kK ?_) (λe=>absurd e (by simp;omega)))
  change AW _ _ _ _ _
  refine bU (uE (bU (aa ?_)))
  repeat' first|simp(disch:=omega)only[go_sem, *,g1,di]|apply ab<;>intro h<;>try omega
  refine bU (aa ?_)
  repeat' first|simp(disch:=omega)only[go_sem, *]|apply ab<;>intro h<;>try omega
  refine ci 3 6 68 6 _ rfl rfl (by decide) ?_
  have pc:=aw.nil3 pe
  have ho:aK 6 (iU k (jo p p.defs[k].body [])):=by rw[←T];exact ar λx=>rfl
  have he:(iU k (jo p p.defs[k].body [])).length≤1440000:=by rw[←T,List.length_map];exact hD
  have hR:(jR p k).map a6++iU k (jo p p.defs[k].body [])=(jR p (k+1)).map a6:=by rw[hs,List.map_append,T]
  have HT:=Lib.hid hR
  clear hR hs T pe hb hd g1
  refine aa ?_
  repeat' first|simp(disch:=omega)only[go_sem, *]|apply ab<;>intro h<;>try omega|refine ap (pc.perm (λnm=>by first|rfl|(simp only[al,aj];done)|(simp only[al,aj];(repeat' split)<;>first|rfl|omega))) ?_|refine aA rfl (by intro h;cases h) ho (by simp only[List.length_map];omega) (by simp only[List.length_map];omega) ?_
  rw[HT.out]
  change AW _ _ _ _ _
  refine aa ?_
  repeat' first|simp(disch:=omega)only[go_sem, *,wrap_i64]|apply ab<;>intro h<;>try omega
  exact⟨k+1, [(1,6)],by omega,by omega,by simp⟩
 ·obtain rfl:k=p.defs.length:=by omega
  refine aa ?_
  rw[show jR p p.defs.length=im p by unfold jR im;rw[List.take_of_length_le (Nat.le_refl _)]]
  repeat' first|simp(disch:=omega)only[go_sem, *]|apply ab<;>intro h<;>try omega
  all_goals rfl
def Qu (p:bG):List ww:=if(bn p).2≠0 then []else im p
theorem uH {p:bG} (h:Ci p):(im p).length≤1440000000:=by
 have h1:=zj h p.defs.length
 have h2:=h.1
 rw[show jR p p.defs.length=im p by unfold jR im;rw[List.take_of_length_le (Nat.le_refl _)]]at h1
 omega
end
