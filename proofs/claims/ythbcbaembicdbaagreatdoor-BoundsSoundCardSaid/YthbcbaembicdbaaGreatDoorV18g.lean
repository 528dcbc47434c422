import Derived.Test.YthbcbaembicdbaaGreatDoorV18e
set_option maxHeartbeats 4000000
set_option linter.unusedVariables false
set_option linter.unusedSimpArgs false
set_option maxRecDepth 20000
namespace Go.Proofs.YthbcbaembicdbaaGreatDoor
open Go.Abs Go.RowKit
noncomputable section
def YD (p:bz) (d:Nat) (e:Ex):Prop:= ∀(cs:List aR) (l:List Ob) (q r nx:Nat) (F:List (Nat×aU)),cs.length+e.sz≤20000→l.length+72*e.sz≤100000000→q<r→r<nx→Go.Abs.dO nx [q,r] F→
  aq Tryz.prog lq [.c (.ptr q 0),j5 e,bR cs] (XI q r p d l F) nx (eo []) (XI q nx p d (l++qq p e cs) F) (nx+1)
abbrev Z9 (o:Int) (e:Ex):aU:= .var [.pure (pI o),.pure (pS e.name),.pure (pI e.val.1),.pure (pI e.val.2),.pure (pI e.ty.1),.pure (pI e.ty.2.1),.pure (pI e.ty.2.2.1),.pure (pI e.ty.2.2.2.1),.pure (pI e.ty.2.2.2.2),.pure (pI e.lin.1),.pure (aw e.lin.2),.pure (dg fQ e.idx),.pure (.slice (e.args.map Ex.row))]
abbrev bXr (e:Ex):aU:=Z9 e.op e
abbrev bIx (x:Ix):aU:= .var [.pure (pI x.1.1),.pure (aw x.1.2),.pure (pS x.2.1),.pure (dg cR x.2.2)]
theorem A7 {p:bz} {d:Nat} {e:Ex} (h:GL p e) (k3:e.op≠3) (k11:e.op≠11) (IH: ∀a∈e.args,YD p d a):YD p d e:=by
 intro cs l q r nx F hcs hl hr hrn hF
 have hqk: ∀k,q<nx+k:= λk=>by omega
 have hz:=Ex.sz_eq e
 have hal:=Ex.szs_len e.args
 have hob:qq p e cs=yn p e.args cs:=by rw[yb,if_neg k3,if_neg k11,List.nil_append]
 rw[hob]
 clear hob
 refine aq.ofZ (ress:= []) fS (by simp) λ_=>aa ?_
 simp only[eF]
 repeat' first|simp(disch:=omega) only[go_sem, *,aG,aH,k3,k11]|((with_reducible apply ab)<;>intro h<;>try omega)
 refine ap (λk:Nat=>⟨[(0,.c (.ptr q 0)),(2,bR cs),(90,.c (.pure (.slice (e.args.map Ex.row)))),(91,I e.args.length),(92,I k)],XI q nx p d (l++yn p (e.args.take k) cs) F,nx+1,nx⟩) (λk=>k≤e.args.length) (λk=>e.args.length-k) ⟨0, [(nx,r)],by omega, ?_⟩ ?_
 ·simp only[List.take_zero,yn,List.append_nil]
  refine av (by simp(disch:=omega) [aG,hqk]) ?_ rfl (by simp;try omega) (by simp[e7];try omega)
  repeat' first|exact hF.wkA|refine au ?_ ?_ ?_ ?_ ?_|(simp(disch:=omega) [aG,hqk]<;>omega)|omega
 intro k hk
 refine aa ?_
 have h0n:q<nx:=by omega
 by_cases hlt:k<e.args.length
 ·have hm:=List.getElem_mem hlt
  have hoa:=uW h hm
  have hsm:=gm hm
  have hlen: ∀l:List Ex,(∀a∈l,lX a)→(yn p l cs).length≤72*Ex.szs l:=by
   intro l
   induction l with
   |nil=>intro _;simp[yn]
   |cons a s ih=>
    intro hh
    have:=JJ p a (hh a List.mem_cons_self) cs
    have:=ih λb hb=>hh b (List.mem_cons_of_mem _ hb)
    simp only[yn,List.length_append,Ex.szs]
    omega
  have h1:=hlen (e.args.take k) λa ha=>nU h.1.1 (List.mem_of_mem_take ha)
  have h2:Ex.szs (e.args.take k)+e.args[k].sz≤Ex.szs e.args:=by
   have a1:=Ex.szs_take hlt
   have a2:Ex.szs (e.args.take (k+1))≤Ex.szs e.args:=by
    conv=>rhs;rw[←List.take_append_drop (k+1) e.args,Ex.szs_append]
    omega
   omega
  have pe:=IH _ hm cs (l++yn p (e.args.take k) cs) q nx (nx+2) ((nx+1,bXr e.args[k])::F) (by omega) (by simp only[List.length_append];omega) h0n (by omega) (tD hF (by omega) (by omega) (by omega) rfl (.inr (Nat.le_refl _)) (by omega))
  rw[List.append_assoc,←Uv p cs hlt]at pe
  have g1:=ai (f:=Ex.row) hlt
  rw[Ex.row_eq]at g1
  clear IH h hoa hlen h1 h2 hm
  repeat' first|simp(disch:=omega) only[go_sem, *,g1,aG,aH,wrap_i64]|((with_reducible apply ab)<;>intro h<;>try omega)|(refine an (pe.perm (λnm=>by first|rfl|(simp only[al,am];done)|(simp only[al,am];(repeat' split)<;>first|rfl|omega))) ?_)
  refine⟨k+1, [(nx,nx+2)],by omega,by omega, ?_⟩
  refine av (by simp(disch:=omega) [aG,hqk,h0n]) ?_ rfl (by simp;try omega) (by simp[e7];try omega)
  repeat' first|exact hF.wkA|refine au ?_ ?_ ?_ ?_ ?_|(simp(disch:=omega) [aG,hqk,h0n]<;>omega)|omega
 ·obtain rfl:k=e.args.length:=by omega
  rw[List.take_of_length_le (by omega)]
  repeat' first|simp(disch:=omega) only[go_sem, *,aG,aH]|((with_reducible apply ab)<;>intro h<;>try omega)
  refine⟨[], [], ?_⟩
  simp(disch:=omega) only[go_sem,aP,aG,aH]
  refine av (by simp(disch:=omega) [aG,hqk]) ?_ rfl (by simp;try omega) (by simp[e7];try omega)
  repeat' first|exact hF.wkA|refine au ?_ ?_ ?_ ?_ ?_|(simp(disch:=omega) [aG,hqk]<;>omega)|omega
theorem DH {p:bz} {d:Nat} {e:Ex} (h:GL p e) (k11:e.op=11) (IH: ∀a∈e.args,YD p d a):YD p d e:=by
 intro cs l q r nx F hcs hl hr hrn hF
 have hqk: ∀k,q<nx+k:= λk=>by omega
 have ha:=(jk h.1.1).1
 rw[k11]at ha
 obtain⟨a,b,c,hargs⟩:=Z4 (l:=e.args) ha
 have ma:a∈e.args:=by rw[hargs];simp
 have mb:b∈e.args:=by rw[hargs];simp
 have mc:c∈e.args:=by rw[hargs];simp
 have hz:=Ex.sz_eq e
 rw[hargs]at hz
 simp only[Ex.szs]at hz
 have oa:=uW h ma
 have on:=Ep oa.1
 have hnz:(jJ a).sz=1+a.sz:=by rw[Ex.sz_eq];simp[jJ,Ex.args,Ex.szs]
 have fa:=(tr a oa.1).1
 have fn:(cj (jJ a)).1.length≤a.sz:=by
  have e1:cj (jJ a)=Gp (cj a):=Kl rfl rfl
  have:=Ex.sz_pos a
  rw[e1]
  unfold Gp
  split
  ·split
   ·rename_i hh
    show(fT _).1.length≤_
    omega
   ·simp
  ·simp
 have hob:qq p e cs=qq p a cs++qq p b (cs++(cj a).1)++qq p c (cs++(cj (jJ a)).1):=by
  rw[yb,if_neg (by omega),if_pos k11,hargs,List.nil_append]
  rfl
 have l1:=JJ p a oa.1.1 cs
 have l2:=JJ p b (uW h mb).1.1 (cs++(cj a).1)
 have pf:=uI oa.1 (by omega)
 have pn:=uI on (by omega)
 have p1:=IH a ma cs l q r (nx+1) ((nx,bXr e)::F) (by omega) (by omega) hr (by omega) (tD hF (by omega) (by omega) (by omega) rfl (.inl rfl) (by omega))
 have p2:=IH b mb (cs++(cj a).1) (l++qq p a cs) q (nx+1) (nx+2) ((nx,bXr e)::F) (by simp only[List.length_append];omega) (by simp only[List.length_append];omega) (by omega) (by omega) (tD hF (by omega) (by omega) (by omega) rfl (.inr (by omega)) (by omega))
 have p3:=IH c mc (cs++(cj (jJ a)).1) (l++qq p a cs++qq p b (cs++(cj a).1)) q (nx+2) (nx+3) ((nx,bXr e)::F) (by simp only[List.length_append];omega) (by simp only[List.length_append];omega) (by omega) (by omega) (tD hF (by omega) (by omega) (by omega) rfl (.inr (by omega)) (by omega))
 rw[hob,←List.append_assoc,←List.append_assoc]
 have hok:bC 3 (cs.map cP):=aQ λ_=>rfl
 have hokf:bC 3 ((cj a).1.map cP):=aQ λ_=>rfl
 have hokn:bC 3 ((cj (jJ a)).1.map cP):=aQ λ_=>rfl
 have hrx:bC 13 (e.args.map Ex.row):=aQ λx=>by rw[Ex.row_eq];rfl
 have tk:(cs.map cP).take cs.length=cs.map cP:=List.take_of_length_le (by simp)
 have hg:(e.args.map Ex.row)[0]? =some a.row:=by rw[hargs];rfl
 have hg1:(e.args.map Ex.row)[1]? =some b.row:=by rw[hargs];rfl
 have hg2:(e.args.map Ex.row)[2]? =some c.row:=by rw[hargs];rfl
 have hgt:(e.args.map Ex.row).take 1= [a.row]:=by rw[hargs];rfl
 have hal:e.args.length=3:=by rw[hargs];rfl
 have lf:(cj a).1.length≤20000:=by omega
 have ln:(cj (jJ a)).1.length≤20000:=by omega
 have lc:cs.length≤20000:=by omega
 rw[Ex.row_eq]at hg hg1 hg2 hgt
 rw[show j5 (jJ a)= .agg [.pure (pI 18),.pure (pS ⟨⟨[]⟩⟩),.pure (pI 0),.pure (pI 0),.pure (pI 0),.pure (pI 0),.pure (pI 0),.pure (pI 0),.pure (pI 0),.pure (pI 0),.pure (aw []),.pure (dg fQ []),.pure (.slice [a.row])]from rfl,Ex.row_eq]at pn
 rw[show bR (cs++(cj a).1)= .c (.pure (.slice (cs.map cP++(cj a).1.map cP))) by show AV.c (.pure (.slice (List.map cP (_++_))))=_;rw[List.map_append]]at p2
 rw[show bR (cs++(cj (jJ a)).1)= .c (.pure (.slice (cs.map cP++(cj (jJ a)).1.map cP))) by show AV.c (.pure (.slice (List.map cP (_++_))))=_;rw[List.map_append]]at p3
 clear IH h ha hargs ma mb mc hz oa on hnz fa fn hob l1 l2 hcs hl
 refine aq.ofZ (ress:= []) fS (by simp) λ_=>aa ?_
 simp only[eF]
 generalize qq p a cs=o1 at*
 generalize qq p b (cs++(cj a).1)=o2 at*
 generalize qq p c (cs++(cj (jJ a)).1)=o3 at*
 simp only[j5,bXr,k11]at p1 p2 p3
 repeat' first|simp(disch:=omega) only[go_sem, *,aG,aH,and_false,if_false,k11,hrx,hok,hg,hg1,hg2,hgt,hal,tk,Int.reduceToNat,Int.toNat_zero,Int.toNat_one,Option.getD_none,Option.getD_some]|((with_reducible apply ab)<;>intro h<;>try omega)|(with_reducible apply ah)|(with_reducible refine aj (λh=> ?_) ?_)|(refine an (p1.perm (λnm=>by first|rfl|(simp only[al,am];done)|(simp only[al,am];(repeat' split)<;>first|rfl|omega))) ?_)|(refine an (p2.perm (λnm=>by first|rfl|(simp only[al,am];done)|(simp only[al,am];(repeat' split)<;>first|rfl|omega))) ?_)|(refine an (p3.perm (λnm=>by first|rfl|(simp only[al,am];done)|(simp only[al,am];(repeat' split)<;>first|rfl|omega))) ?_)|(refine el pf rfl rfl ?_)|(refine el pn rfl rfl ?_)|(refine nJ hok hokf (by simp only[List.length_map];omega) (by simp only[List.length_map];omega) ?_)|(refine nJ hok hokn (by simp only[List.length_map];omega) (by simp only[List.length_map];omega) ?_)
 refine⟨[], [(nx,nx+3)], ?_⟩
 simp(disch:=omega) only[go_sem,aP,aG,aH]
 refine av (by simp(disch:=omega) [aG,hqk]) ?_ rfl (by simp;try omega) (by simp[e7];try omega)
 repeat' first|exact hF.wkA|refine au ?_ ?_ ?_ ?_ ?_|(simp(disch:=omega) [aG,hqk]<;>omega)|omega
theorem LX {α β γ:Type} {f:α×β→List γ} {l:List α} {m:List β} {k:Nat} (h:k<l.length) (h':k<m.length):((l.zip m).take (k+1)).flatMap f=((l.zip m).take k).flatMap f++f (l[k],m[k]):=by
 have hz:k<(l.zip m).length:=by simp;omega
 rw[List.take_succ_eq_append_getElem hz,List.flatMap_append]
 simp
theorem PS {α β γ:Type} {f:α×β→List γ} {n:Nat}: ∀{l:List (α×β)},(∀x∈l,(f x).length≤n)→(l.flatMap f).length≤n*l.length
 | [],_=>by simp
 |a::r,h=>by
  have h1:=h a List.mem_cons_self
  have h2:=PS (l:=r) λx hx=>h x (List.mem_cons_of_mem _ hx)
  simp only[List.flatMap_cons,List.length_append,List.length_cons,Nat.mul_add]
  omega
theorem OD (cs a b:List aR):AQ cs (a++b)=AQ cs a++AQ cs b:=by simp[AQ]
theorem O8 (cs a:List aR):(AQ cs a).length=a.length:=by simp[AQ]
theorem Ba {p:bz} {d:Nat} {e:Ex} (hfp:rI p) (h:GL p e) (k3:e.op=3):YD p d e:=by
 intro cs l q r nx F hcs hl hr hrn hF
 have hqk: ∀k,q<nx+k:= λk=>by omega
 obtain⟨hra,_,_,hi6,ha6⟩:=jk h.1.1
 rw[k3]at hra
 have hargs:e.args= []:=List.eq_nil_of_length_eq_zero (by have:((e.args.length:Nat):Int)=0:=hra;omega)
 obtain⟨t,ds,hfd,hlen,hds,hix⟩:=h.2 e (nN e) k3
 have hz:=Ex.sz_pos e
 have hfn: ∀n,nx≤n→al F n=none:= λn h=>Bi hF h
 have hob:qq p e cs=AQ cs ((e.idx.zip ds).flatMap λq=>Mz p q.1 q.2):=by
  rw[yb,if_pos k3,if_neg (by omega),hargs,yn,List.append_nil,Iy,zl,hfd]
  rfl
 rw[hob]
 clear hob hra
 have pf:=gR hfp e.name
 rw[hfd]at pf
 have hforms:= λl hl=>((h.1.2 e (nN e)).2 l hl:br l∧l.2.length≤1000)
 refine aq.ofZ (ress:= []) fS (by simp) λ_=>aa ?_
 simp only[eF]
 repeat' first|simp(disch:=omega) only[go_sem, *,aG,aH,hfn,k3]|((with_reducible apply ab)<;>intro h<;>try omega)|(refine el pf rfl rfl ?_)
 refine ap (λi:Nat=>⟨[(0,.c (.ptr q 0)),(2,bR cs),(4,.c (.ptr (nx+1) 0)),(7,sH ds),(38,.c (.pure (dg fQ e.idx))),(39,I e.idx.length),(40,I i)],(nx+1,Z9 3 e)::XI q nx p d (l++AQ cs (((e.idx.zip ds).take i).flatMap λq=>Mz p q.1 q.2)) F,nx+2,nx⟩) (λi=>i≤e.idx.length) (λi=>e.idx.length-i) ⟨0, [(nx,r),(nx+1,nx)],by omega, ?_⟩ ?_
 ·simp only[List.take_zero,List.flatMap_nil,AQ,List.map_nil,List.append_nil]
  refine av (by simp(disch:=omega) [aG,hqk,hlen]) ?_ rfl (by simp;try omega) (by simp[e7];try omega)
  repeat' first|exact hF.wkA|refine au ?_ ?_ ?_ ?_ ?_|(simp(disch:=omega) [aG,hqk,hlen]<;>omega)|omega
 intro i hi
 refine aa ?_
 have h0n:q<nx:=by omega
 clear pf
 by_cases hlt:i<e.idx.length
 ·have hltd:i<ds.length:=by omega
  have hm:=List.getElem_mem hlt
  have g1:=ai (f:=fQ) hlt
  have g2:=ai (f:=cR) hltd
  have gd:=hds _ (List.getElem_mem hltd)
  have hxi:=hix _ hm
  have hf1:=hforms _ (List.mem_cons_of_mem _ (List.mem_flatMap.2 ⟨e.idx[i],hm,List.mem_cons_self⟩))
  have hfa: ∀l∈e.idx[i].2.2,br l∧l.2.length≤1000:= λl hl=>hforms _ (List.mem_cons_of_mem _ (List.mem_flatMap.2 ⟨e.idx[i],hm,List.mem_cons_of_mem _ hl⟩))
  have h6:=ha6 _ hm
  have hst:=LX (f:= λq:Ix×bU=>Mz p q.1 q.2) hlt hltd
  have hll:(((e.idx.zip ds).take i).flatMap λq=>Mz p q.1 q.2).length≤60:=by
   have:=PS (f:= λq:Ix×bU=>Mz p q.1 q.2) (n:=12) (l:=(e.idx.zip ds).take i) λx hx=>Oq (ha6 _ (List.of_mem_zip (List.mem_of_mem_take hx)).1)
   have h3:((e.idx.zip ds).take i).length≤i:=by simp;omega
   omega
  clear hix hforms hds ha6 h hm hfd
  obtain⟨R1,hR1⟩: ∃R1,R1=((e.idx.zip ds).take (i+1)).flatMap (λq=>Mz p q.1 q.2):=⟨_,rfl⟩
  rw[←hR1]at hst
  have HR1:=Lib.hid hR1
  clear hR1
  generalize ((e.idx.zip ds).take i).flatMap (λq=>Mz p q.1 q.2)=R0 at*
  generalize ds[i]=dl at*
  generalize e.idx[i]=x at*
  obtain⟨⟨K,L⟩,s,at'⟩:=x
  obtain⟨K2,L2⟩:=dl
  simp only[fQ,cR]at g1 g2 hf1 gd hxi hfa h6 hst
  have hlen':ds.length=e.idx.length:=hlen.symm
  by_cases hs:s=⟨⟨[]⟩⟩
  ·subst hs
   rw[Mz,if_pos rfl]at hst
   have pn:=sk (p:=p) (d:=d) (f:=(K,L)) (x:=(K2,L2)) (cs:=cs) (l:=l++AQ cs R0) (q:=q) (r:=nx) (nx:=nx+3) (F:=(nx+2,bIx ((K,L),⟨⟨[]⟩⟩,at'))::(nx+1,Z9 3 e)::F) hf1.1 gd.1 (by have:=hf1.2;simp only at this ⊢;omega) (by have:=gd.2;simp only at this ⊢;omega) (by simp only[List.length_append,O8];omega) h0n (by omega)
    (tD (tD hF (by omega) (by omega) (by omega) rfl (.inr (Nat.le_refl _)) (by omega)) (by omega) (Nat.le_refl _) (by omega) rfl (.inl rfl) (by omega))
   rw[List.append_assoc,←OD,←hst]at pn
   clear hst hxi hf1 hfa gd hlen
   repeat' first|simp(disch:=omega) only[go_sem, *,g1,g2,hlen',aG,aH,hfn,wrap_i64]|((with_reducible apply ab)<;>intro h<;>try omega)|(refine an (pn.perm (λnm=>by first|rfl|(simp only[al,am];done)|(simp only[al,am];(repeat' split)<;>first|rfl|omega))) ?_)
   refine⟨i+1, [(nx,nx+3)],by omega,by omega, ?_⟩
   rw[←HR1.out]
   refine av (by simp(disch:=omega) [aG,hqk,h0n]) ?_ rfl (by simp;try omega) (by simp[e7];try omega)
   repeat' first|exact hF.wkA|refine au ?_ ?_ ?_ ?_ ?_|(simp(disch:=omega) [aG,hqk,h0n]<;>omega)|omega
  ·obtain⟨t',ds',hfd',hlen2,hds'⟩:=hxi hs
   have pf2:=gR hfp s
   rw[hfd']at pf2
   rw[Mz,if_neg hs,zl,hfd']at hst
   clear hxi hf1 gd hlen g2 hfd'
   simp only at hst hlen2
   repeat' first|simp(disch:=omega) only[go_sem, *,g1,hlen',aG,aH,hfn,hs]|((with_reducible apply ab)<;>intro h<;>try omega)|(refine el pf2 rfl rfl ?_)
   refine ap (λk:Nat=>⟨[(0,.c (.ptr q 0)),(2,bR cs),(4,.c (.ptr (nx+1) 0)),(7,sH ds),(12,sH ds'),(38,.c (.pure (dg fQ e.idx))),(39,I e.idx.length),(40,I i),(69,sH at'),(70,I at'.length),(71,I k)],(nx+1,Z9 3 e)::XI q nx p d (l++AQ cs (R0++((at'.zip ds').take k).flatMap λq=>m7 q.1 q.2)) F,nx+2,nx⟩) (λk=>k≤at'.length) (λk=>at'.length-k) ⟨0, [],by omega, ?_⟩ ?_
   ·simp only[List.take_zero,List.flatMap_nil,List.append_nil]
    refine av (by simp(disch:=omega) [aG,hqk,h0n,hlen2]) ?_ rfl (by simp;try omega) (by simp[e7];try omega)
    repeat' first|exact hF.wkA|refine au ?_ ?_ ?_ ?_ ?_|(simp(disch:=omega) [aG,hqk,h0n,hlen2]<;>omega)|omega
   clear pf2 g1
   intro k hk
   refine aa ?_
   by_cases hlk:k<at'.length
   ·have hlkd:k<ds'.length:=by omega
    have g3:=ai (f:=cR) hlk
    have g4:=ai (f:=cR) hlkd
    have b1:=hfa _ (List.getElem_mem hlk)
    have b2:=hds' _ (List.getElem_mem hlkd)
    have hst2:=LX (f:= λq:bU×bU=>m7 q.1 q.2) hlk hlkd
    have hl2:(((at'.zip ds').take k).flatMap λq=>m7 q.1 q.2).length≤12:=by
     rw[Pj]
     have:((at'.zip ds').take k).length≤at'.length:=by simp;omega
     omega
    have pn:=sk (p:=p) (d:=d) (f:=at'[k]) (x:=ds'[k]) (cs:=cs) (l:=l++AQ cs (R0++((at'.zip ds').take k).flatMap λq=>m7 q.1 q.2)) (r:=nx) (nx:=nx+3) (F:=(nx+2,.var [.pure (pI at'[k].1),.pure (aw at'[k].2)])::(nx+1,Z9 3 e)::F) b1.1 b2.1 (by have:=b1.2;omega) (by have:=b2.2;omega) (by simp only[List.length_append,O8];omega) h0n (by omega)
     (tD (tD hF (by omega) (by omega) (by omega) rfl (.inr (Nat.le_refl _)) (by omega)) (by omega) (Nat.le_refl _) (by omega) rfl (.inl rfl) (by omega))
    rw[List.append_assoc,←OD,List.append_assoc,←hst2]at pn
    clear hst2 b1 b2 hst hfa hds'
    simp only[cR]at g3 g4
    have hlen3:ds'.length=at'.length:=hlen2.symm
    clear hlen2
    repeat' first|simp(disch:=omega) only[go_sem, *,g3,g4,hlen3,aG,aH,hfn,wrap_i64]|((with_reducible apply ab)<;>intro h<;>try omega)|(refine an (pn.perm (λnm=>by first|rfl|(simp only[al,am];done)|(simp only[al,am];(repeat' split)<;>first|rfl|omega))) ?_)
    refine⟨k+1, [(nx,nx+3)],by omega,by omega, ?_⟩
    refine av (by simp(disch:=omega) [aG,hqk,h0n]) ?_ rfl (by simp;try omega) (by simp[e7];try omega)
    repeat' first|exact hF.wkA|refine au ?_ ?_ ?_ ?_ ?_|(simp(disch:=omega) [aG,hqk,h0n]<;>omega)|omega
   ·obtain rfl:k=at'.length:=by omega
    rw[List.take_of_length_le (l:=at'.zip ds') (by simp;omega),←hst]
    clear hst hfa hds'
    repeat' first|simp(disch:=omega) only[go_sem, *,aG,aH,hfn,wrap_i64]|((with_reducible apply ab)<;>intro h<;>try omega)
    refine⟨i+1, [],by omega,by omega, ?_⟩
    rw[←HR1.out]
    refine av (by simp(disch:=omega) [aG,hqk,h0n]) ?_ rfl (by simp;try omega) (by simp[e7];try omega)
    repeat' first|exact hF.wkA|refine au ?_ ?_ ?_ ?_ ?_|(simp(disch:=omega) [aG,hqk,h0n]<;>omega)|omega
 ·obtain rfl:i=e.idx.length:=by omega
  rw[List.take_of_length_le (l:=e.idx.zip ds) (by simp;omega)]
  repeat' first|simp(disch:=omega) only[go_sem, *,aG,aH,hfn]|((with_reducible apply ab)<;>intro h<;>try omega)
  refine ap (λk:Nat=>⟨[(0,.c (.ptr q 0)),(2,bR cs),(90,.c (.pure (.slice []))),(91,I 0),(92,I 0)],XI q nx p d (l++AQ cs ((e.idx.zip ds).flatMap λq=>Mz p q.1 q.2)) F,nx+1,nx⟩) (λk=>k=0) (λ_=>0) ⟨0, [],rfl, ?_⟩ ?_
  ·refine av (by simp(disch:=omega) [aG,hqk,hargs]) ?_ rfl (by simp;try omega) (by simp[e7];try omega)
   repeat' first|exact hF.wkA|refine au ?_ ?_ ?_ ?_ ?_|(simp(disch:=omega) [aG,hqk,hargs]<;>omega)|omega
  rintro k rfl
  refine aa ?_
  repeat' first|simp(disch:=omega) only[go_sem, *,aG,aH,hfn]|((with_reducible apply ab)<;>intro h<;>try omega)
  refine⟨[], [], ?_⟩
  simp(disch:=omega) only[go_sem,aP,aG,aH]
  refine av (by simp(disch:=omega) [aG,hqk]) ?_ rfl (by simp;try omega) (by simp[e7];try omega)
  repeat' first|exact hF.wkA|refine au ?_ ?_ ?_ ?_ ?_|(simp(disch:=omega) [aG,hqk]<;>omega)|omega
theorem GT {p:bz} {d:Nat} (hfp:rI p) (e:Ex):GL p e→YD p d e:=by
 refine Ex.ind (p:= λe=>GL p e→YD p d e) (λe ih h=> ?_) e
 by_cases k3:e.op=3
 ·exact Ba hfp h k3
 ·by_cases k11:e.op=11
  ·exact DH h k11 λa ha=>ih a ha (uW h ha)
  ·exact A7 h k3 k11 λa ha=>ih a ha (uW h ha)
set_option maxRecDepth 1000000
abbrev yA:=Nat×Nat×Ob
def a6 (x:yA):List PC:=obP x.1 x.2.1 x.2.2
def a5 (x:yA):List PC:= [pI x.1,pI x.2.1,pI x.2.2.1.1.1,aw x.2.2.1.1.2,pB x.2.2.1.2]
def Nz (p:bz) (x:y5×Nat):List yA:=(qq p x.1.body []).zipIdx.map λy=>(x.2,y.2,y.1)
def ul (p:bz) (k:Nat):List yA:=((p.defs.take k).zipIdx).flatMap (Nz p)
def lG (p:bz):List yA:=(p.defs.zipIdx).flatMap (Nz p)
theorem IF {p:bz} {k:Nat} (h:k<p.defs.length):ul p (k+1)=ul p k++Nz p (p.defs[k],k):=by
 unfold ul
 rw[List.take_succ_eq_append_getElem h,List.zipIdx_append,List.flatMap_append]
 simp[Nat.min_eq_left (Nat.le_of_lt h)]
theorem Ry (p:bz) (d:y5) (k:Nat):(Nz p (d,k)).map a6=tF k (qq p d.body []):=by
 simp[Nz,tF,a6,Function.comp_def]
def Qm (p:bz):Prop:=p.defs.length≤1000∧ ∀d∈p.defs,GL p d.body∧d.body.sz≤20000-1
theorem Mn {p:bz} {d:y5} {k:Nat} (h:GL p d.body∧d.body.sz≤20000-1):(Nz p (d,k)).length≤1440000:=by
 have:=JJ p d.body h.1.1.1 []
 simp only[Nz,List.length_map,List.length_zipIdx]
 omega
theorem Mk {p:bz} (h:Qm p): ∀k,(ul p k).length≤1440000*k:=by
 intro k
 induction k with
 |zero=>simp[ul]
 |succ k ih=>
  by_cases hlt:k<p.defs.length
  ·rw[IF hlt,List.length_append]
   have:=Mn (k:=k) (h.2 _ (List.getElem_mem hlt))
   omega
  ·have:ul p (k+1)=ul p k:=by
    unfold ul
    rw[List.take_of_length_le (by omega),List.take_of_length_le (by omega)]
   rw[this]
   omega
theorem nO {p:bz} (hfp:rI p) (h:Qm p):af Tryz.prog yF [jE p] (gG a6 (lG p)):=by
 refine af.of Gt (by simp) λhb=>aa ?_
 have hdl:=h.1
 conv in zi=>cbv
 repeat' first|simp(disch:=omega) only[go_sem, *]|((with_reducible apply ab)<;>intro h<;>try omega)
 refine fj 3 82 6 rfl (by decide) ?_
 refine ap (λk:Nat=>⟨[(10,I k),(9,I p.defs.length),(8,.c (.pure (dg eh p.defs))),(3,.c (.ref 1)),(1,.c (.ptr 0 0))], [(1,.arr 82 6 ((ul p k).map a6)),(0,kx p)],2,0⟩) (λk=>k≤p.defs.length) (λk=>p.defs.length-k) ⟨0, [],by omega,by simp[ul]⟩ ?_
 intro k hk
 by_cases hlt:k<p.defs.length
 ·have hd:=h.2 _ (List.getElem_mem hlt)
  have hL:=Mk h k
  have hD:=Mn (k:=k) hd
  have pe:=GT (d:=k) hfp p.defs[k].body hd.1 [] [] 3 4 5 [(2,QD p.defs[k]),(1,.arr 82 6 ((ul p k).map a6)),(0,kx p)] (by have:=hd.2;simp;omega) (by have:=hd.2;simp;omega) (by omega) (by omega) ⟨by omega,rfl,by simp[jO],by omega,rfl,by simp[jO],by omega,rfl,by simp[jO],trivial⟩
  rw[List.nil_append]at pe
  have hrw:=Ry p p.defs[k] k
  have hs:=IF hlt
  have g1:=ai (f:=eh) hlt
  refine cZ (aa ?_)
  repeat' first|simp(disch:=omega) only[go_sem, *]|((with_reducible apply ab)<;>intro h<;>try omega)
  refine cZ (f7 (t:=decide ((k:Int)<(p.defs.length:Int))) rfl (λ_=>oM ?_) (λe=>absurd e (by simp;omega)))
  change AW _ _ _ _ _
  refine cZ (EE (cZ (aa ?_)))
  repeat' first|simp(disch:=omega) only[go_sem, *,g1,eh]|((with_reducible apply ab)<;>intro h<;>try omega)
  refine cZ (aa ?_)
  repeat' first|simp(disch:=omega) only[go_sem, *]|((with_reducible apply ab)<;>intro h<;>try omega)
  refine dD 3 6 82 6 _ rfl rfl (by decide) ?_
  have pc:=aq.nil3 pe
  have ho:bC 6 (tF k (qq p p.defs[k].body [])):=by rw[←hrw];exact aQ λx=>rfl
  have hol:(tF k (qq p p.defs[k].body [])).length≤1440000:=by rw[←hrw,List.length_map];exact hD
  have hat:(ul p k).map a6++tF k (qq p p.defs[k].body [])=(ul p (k+1)).map a6:=by rw[hs,List.map_append,hrw]
  have HT:=Lib.hid hat
  clear hat hs hrw pe hb hd g1
  refine aa ?_
  repeat' first|simp(disch:=omega) only[go_sem, *]|((with_reducible apply ab)<;>intro h<;>try omega)|(refine an (pc.perm (λnm=>by first|rfl|(simp only[al,am];done)|(simp only[al,am];(repeat' split)<;>first|rfl|omega))) ?_)|(refine bf rfl (by intro h;cases h) ho (by simp only[List.length_map];omega) (by simp only[List.length_map];omega) ?_)
  rw[HT.out]
  change AW _ _ _ _ _
  refine aa ?_
  repeat' first|simp(disch:=omega) only[go_sem, *,wrap_i64]|((with_reducible apply ab)<;>intro h<;>try omega)
  exact⟨k+1, [(1,6)],by omega,by omega,by simp⟩
 ·obtain rfl:k=p.defs.length:=by omega
  refine aa ?_
  rw[show ul p p.defs.length=lG p by unfold ul lG;rw[List.take_of_length_le (Nat.le_refl _)]]
  repeat' first|simp(disch:=omega) only[go_sem, *]|((with_reducible apply ab)<;>intro h<;>try omega)
  all_goals rfl
theorem FC {p:bz} (h:Qm p):(lG p).length≤1440000000:=by
 have h1:=Mk h p.defs.length
 have h2:=h.1
 rw[show ul p p.defs.length=lG p by unfold ul lG;rw[List.take_of_length_le (Nat.le_refl _)]]at h1
 omega
end
end Go.Proofs.YthbcbaembicdbaaGreatDoor
