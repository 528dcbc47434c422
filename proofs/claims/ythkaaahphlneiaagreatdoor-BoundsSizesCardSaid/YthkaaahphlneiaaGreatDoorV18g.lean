import Derived.Test.YthkaaahphlneiaaGreatDoorV18e
import Derived.Test.YthkaaahphlneiaaGreatDoorP18w
set_option linter.unusedVariables false
set_option linter.unusedSimpArgs false
set_option maxRecDepth 20000
namespace Go.Proofs.YthkaaahphlneiaaGreatDoor
open Go.Abs Go.RowKit
def WG (p:bK) (d:Nat) (e:Ex):Prop:= ∀(cs:List gf) (l:List Ob) (q r nx:Nat) (F:List (Nat×aS)),cs.length+e.sz≤20000→l.length+72*e.sz≤100000000→q<r→r<nx→Go.Abs.dU nx [q,r] F→
  am Tryz.prog gn [.c (.ptr q 0),fm e,ej cs] (Uu q r p d l F) nx (gE []) (Uu q nx p d (l++ns p e cs) F) (nx+1)
abbrev Qn (o:Int) (e:Ex):aS:= .var [.pure (pI o),.pure (pS e.name),.pure (pI e.val.1),.pure (pI e.val.2),.pure (pI e.ty.1),.pure (pI e.ty.2.1),.pure (pI e.ty.2.2.1),.pure (pI e.ty.2.2.2.1),.pure (pI e.ty.2.2.2.2),.pure (pI e.lin.1),.pure (aE e.lin.2),.pure (c9 eB e.idx),.pure (.slice (e.args.map Ex.row))]
abbrev Vk (e:Ex):aS:=Qn e.op e
abbrev Zq (x:Ix):aS:= .var [.pure (pI x.1.1),.pure (aE x.1.2),.pure (pS x.2.1),.pure (c9 bQ x.2.2)]
set_option maxHeartbeats 4000000 in
theorem AI {p:bK} {d:Nat} {e:Ex} (h:xL p e) (k3:e.op≠3) (k11:e.op≠11) (IH: ∀a∈e.args,WG p d a):WG p d e:=by
 intro cs l q r nx F hcs hl hr hrn hF
 have hqk: ∀k,q<nx+k:=fun k=>by omega
 have hz:=Ex.sz_eq e
 have hal:=Ex.szs_len e.args
 have hob:ns p e cs=vC p e.args cs:=by rw[ur,if_neg k3,if_neg k11,List.nil_append]
 rw[hob]
 clear hob
 refine am.ofZ (ress:= []) fX (by simp) fun _=>aa ?_
 simp only[eR]
 repeat' first|simp(disch:=omega) only[go_sem, *,dm,eG,k3,k11]|((with_reducible refine ab ?_ ?_)<;>intro h<;>try omega)
 refine aj (fun k:Nat=>⟨[(0,.c (.ptr q 0)),(2,ej cs),(90,.c (.pure (.slice (e.args.map Ex.row)))),(91,I e.args.length),(92,I k)],Uu q nx p d (l++vC p (e.args.take k) cs) F,nx+1,nx⟩) (fun k=>k≤e.args.length) (fun k=>e.args.length-k) ⟨0, [(nx,r)],by omega, ?_⟩ ?_
 ·simp only[List.take_zero,vC,List.append_nil]
  refine bz (by simp(disch:=omega) [dm,hqk]) ?_ rfl (by simp;try omega) (by simp[qS];try omega)
  repeat' first|exact hF.wkA|refine bB ?_ ?_ ?_ ?_ ?_|(simp(disch:=omega) [dm,hqk]<;>omega)|omega
 intro k hk
 refine aa ?_
 have h0n:q<nx:=by omega
 by_cases hlt:k<e.args.length
 ·have hm:=List.getElem_mem hlt
  have hoa:=ii h hm
  have hsm:=cj hm
  have hlen: ∀l:List Ex,(∀a∈l,iE a)→(vC p l cs).length≤72*Ex.szs l:=by
   intro l
   induction l with
   |nil=>intro _;simp[vC]
   |cons a s ih=>
    intro hh
    have:=w9 p a (hh a List.mem_cons_self) cs
    have:=ih fun b hb=>hh b (List.mem_cons_of_mem _ hb)
    simp only[vC,List.length_append,Ex.szs]
    omega
  have h1:=hlen (e.args.take k) fun a ha=>iJ h.1.1 (List.mem_of_mem_take ha)
  have h2:Ex.szs (e.args.take k)+e.args[k].sz≤Ex.szs e.args:=by
   have a1:=Ex.szs_take hlt
   have a2:Ex.szs (e.args.take (k+1))≤Ex.szs e.args:=by
    conv=>rhs;rw[←List.take_append_drop (k+1) e.args,Ex.szs_append]
    omega
   omega
  have pe:=IH _ hm cs (l++vC p (e.args.take k) cs) q nx (nx+2) ((nx+1,Vk e.args[k])::F) (by omega) (by simp only[List.length_append];omega) h0n (by omega) (ol hF (by omega) (by omega) (by omega) rfl (.inr (Nat.le_refl _)) (by omega))
  rw[List.append_assoc,←LQ p cs hlt]at pe
  have g1:=ae (f:=Ex.row) hlt
  rw[Ex.row_eq]at g1
  clear IH h hoa hlen h1 h2 hm
  repeat' first|simp(disch:=omega) only[go_sem, *,g1,dm,eG,wrap_i64]|((with_reducible refine ab ?_ ?_)<;>intro h<;>try omega)|(refine aq (pe.perm (fun nm=>by first|rfl|(simp only[ak,aB];done)|(simp only[ak,aB];(repeat' split)<;>first|rfl|omega))) ?_)
  refine⟨k+1, [(nx,nx+2)],by omega,by omega, ?_⟩
  refine bz (by simp(disch:=omega) [dm,hqk,h0n]) ?_ rfl (by simp;try omega) (by simp[qS];try omega)
  repeat' first|exact hF.wkA|refine bB ?_ ?_ ?_ ?_ ?_|(simp(disch:=omega) [dm,hqk,h0n]<;>omega)|omega
 ·obtain rfl:k=e.args.length:=by omega
  rw[List.take_of_length_le (by omega)]
  repeat' first|simp(disch:=omega) only[go_sem, *,dm,eG]|((with_reducible refine ab ?_ ?_)<;>intro h<;>try omega)
  refine⟨[], [], ?_⟩
  simp(disch:=omega) only[go_sem,bo,dm,eG]
  refine bz (by simp(disch:=omega) [dm,hqk]) ?_ rfl (by simp;try omega) (by simp[qS];try omega)
  repeat' first|exact hF.wkA|refine bB ?_ ?_ ?_ ?_ ?_|(simp(disch:=omega) [dm,hqk]<;>omega)|omega
set_option maxHeartbeats 4000000 in
theorem D7 {p:bK} {d:Nat} {e:Ex} (h:xL p e) (k11:e.op=11) (IH: ∀a∈e.args,WG p d a):WG p d e:=by
 intro cs l q r nx F hcs hl hr hrn hF
 have hqk: ∀k,q<nx+k:=fun k=>by omega
 have ha:=(dO h.1.1).1
 rw[k11]at ha
 obtain⟨a,b,c,hargs⟩:=VM (l:=e.args) ha
 have ma:a∈e.args:=by rw[hargs];simp
 have mb:b∈e.args:=by rw[hargs];simp
 have mc:c∈e.args:=by rw[hargs];simp
 have hz:=Ex.sz_eq e
 rw[hargs]at hz
 simp only[Ex.szs]at hz
 have oa:=ii h ma
 have on:=Fx oa.1
 have hnz:(gl a).sz=1+a.sz:=by rw[Ex.sz_eq];simp[gl,Ex.args,Ex.szs]
 have fa:=(oQ a oa.1).1
 have fn:(bw (gl a)).1.length≤a.sz:=by
  have e1:bw (gl a)=zQ (bw a):=yk rfl rfl
  have:=Ex.sz_pos a
  rw[e1]
  unfold zQ
  split
  ·split
   ·rename_i hh
    show(gO _).1.length≤_
    omega
   ·simp
  ·simp
 have hob:ns p e cs=ns p a cs++ns p b (cs++(bw a).1)++ns p c (cs++(bw (gl a)).1):=by
  rw[ur,if_neg (by omega),if_pos k11,hargs,List.nil_append]
  rfl
 have l1:=w9 p a oa.1.1 cs
 have l2:=w9 p b (ii h mb).1.1 (cs++(bw a).1)
 have pf:=tX oa.1 (by omega)
 have pn:=tX on (by omega)
 have p1:=IH a ma cs l q r (nx+1) ((nx,Vk e)::F) (by omega) (by omega) hr (by omega) (ol hF (by omega) (by omega) (by omega) rfl (.inl rfl) (by omega))
 have p2:=IH b mb (cs++(bw a).1) (l++ns p a cs) q (nx+1) (nx+2) ((nx,Vk e)::F) (by simp only[List.length_append];omega) (by simp only[List.length_append];omega) (by omega) (by omega) (ol hF (by omega) (by omega) (by omega) rfl (.inr (by omega)) (by omega))
 have p3:=IH c mc (cs++(bw (gl a)).1) (l++ns p a cs++ns p b (cs++(bw a).1)) q (nx+2) (nx+3) ((nx,Vk e)::F) (by simp only[List.length_append];omega) (by simp only[List.length_append];omega) (by omega) (by omega) (ol hF (by omega) (by omega) (by omega) rfl (.inr (by omega)) (by omega))
 rw[hob,←List.append_assoc,←List.append_assoc]
 have hok:bl 3 (cs.map cP):=ar fun _=>rfl
 have hokf:bl 3 ((bw a).1.map cP):=ar fun _=>rfl
 have hokn:bl 3 ((bw (gl a)).1.map cP):=ar fun _=>rfl
 have hrx:bl 13 (e.args.map Ex.row):=ar fun x=>by rw[Ex.row_eq];rfl
 have tk:(cs.map cP).take cs.length=cs.map cP:=List.take_of_length_le (by simp)
 have hg:(e.args.map Ex.row)[0]? =some a.row:=by rw[hargs];rfl
 have hg1:(e.args.map Ex.row)[1]? =some b.row:=by rw[hargs];rfl
 have hg2:(e.args.map Ex.row)[2]? =some c.row:=by rw[hargs];rfl
 have hgt:(e.args.map Ex.row).take 1= [a.row]:=by rw[hargs];rfl
 have hal:e.args.length=3:=by rw[hargs];rfl
 have lf:(bw a).1.length≤20000:=by omega
 have ln:(bw (gl a)).1.length≤20000:=by omega
 have lc:cs.length≤20000:=by omega
 rw[Ex.row_eq]at hg hg1 hg2 hgt
 rw[show fm (gl a)= .agg [.pure (pI 18),.pure (pS ⟨⟨[]⟩⟩),.pure (pI 0),.pure (pI 0),.pure (pI 0),.pure (pI 0),.pure (pI 0),.pure (pI 0),.pure (pI 0),.pure (pI 0),.pure (aE []),.pure (c9 eB []),.pure (.slice [a.row])]from rfl,Ex.row_eq]at pn
 rw[show ej (cs++(bw a).1)= .c (.pure (.slice (cs.map cP++(bw a).1.map cP))) by show AV.c (.pure (.slice (List.map cP (_++_))))=_;rw[List.map_append]]at p2
 rw[show ej (cs++(bw (gl a)).1)= .c (.pure (.slice (cs.map cP++(bw (gl a)).1.map cP))) by show AV.c (.pure (.slice (List.map cP (_++_))))=_;rw[List.map_append]]at p3
 clear IH h ha hargs ma mb mc hz oa on hnz fa fn hob l1 l2 hcs hl
 refine am.ofZ (ress:= []) fX (by simp) fun _=>aa ?_
 simp only[eR]
 generalize ns p a cs=o1 at*
 generalize ns p b (cs++(bw a).1)=o2 at*
 generalize ns p c (cs++(bw (gl a)).1)=o3 at*
 simp only[fm,Vk,k11]at p1 p2 p3
 repeat' first|simp(disch:=omega) only[go_sem, *,dm,eG,and_false,if_false,k11,hrx,hok,hg,hg1,hg2,hgt,hal,tk,Int.reduceToNat,Int.toNat_zero,Int.toNat_one,Option.getD_none,Option.getD_some]|((with_reducible refine ab ?_ ?_)<;>intro h<;>try omega)|(with_reducible refine af ?_ ?_)|(with_reducible refine ag (fun h=> ?_) ?_)|(refine aq (p1.perm (fun nm=>by first|rfl|(simp only[ak,aB];done)|(simp only[ak,aB];(repeat' split)<;>first|rfl|omega))) ?_)|(refine aq (p2.perm (fun nm=>by first|rfl|(simp only[ak,aB];done)|(simp only[ak,aB];(repeat' split)<;>first|rfl|omega))) ?_)|(refine aq (p3.perm (fun nm=>by first|rfl|(simp only[ak,aB];done)|(simp only[ak,aB];(repeat' split)<;>first|rfl|omega))) ?_)|(refine bS pf rfl rfl ?_)|(refine bS pn rfl rfl ?_)|(refine im hok hokf (by simp only[List.length_map];omega) (by simp only[List.length_map];omega) ?_)|(refine im hok hokn (by simp only[List.length_map];omega) (by simp only[List.length_map];omega) ?_)
 refine⟨[], [(nx,nx+3)], ?_⟩
 simp(disch:=omega) only[go_sem,bo,dm,eG]
 refine bz (by simp(disch:=omega) [dm,hqk]) ?_ rfl (by simp;try omega) (by simp[qS];try omega)
 repeat' first|exact hF.wkA|refine bB ?_ ?_ ?_ ?_ ?_|(simp(disch:=omega) [dm,hqk]<;>omega)|omega
theorem zk {α β γ:Type} {f:α×β→List γ} {l:List α} {m:List β} {k:Nat} (h:k<l.length) (h':k<m.length):((l.zip m).take (k+1)).flatMap f=((l.zip m).take k).flatMap f++f (l[k],m[k]):=by
 have hz:k<(l.zip m).length:=by simp;omega
 rw[List.take_succ_eq_append_getElem hz,List.flatMap_append]
 simp
theorem CH {α β γ:Type} {f:α×β→List γ} {n:Nat}: ∀{l:List (α×β)},(∀x∈l,(f x).length≤n)→(l.flatMap f).length≤n*l.length
 | [],_=>by simp
 |a::r,h=>by
  have h1:=h a List.mem_cons_self
  have h2:=CH (l:=r) fun x hx=>h x (List.mem_cons_of_mem _ hx)
  simp only[List.flatMap_cons,List.length_append,List.length_cons,Nat.mul_add]
  omega
theorem On (cs a b:List gf):rv cs (a++b)=rv cs a++rv cs b:=by simp[rv]
theorem OO (cs a:List gf):(rv cs a).length=a.length:=by simp[rv]
set_option maxHeartbeats 4000000 in
theorem z8 {p:bK} {d:Nat} {e:Ex} (hfp:j8 p) (h:xL p e) (k3:e.op=3):WG p d e:=by
 intro cs l q r nx F hcs hl hr hrn hF
 have hqk: ∀k,q<nx+k:=fun k=>by omega
 obtain⟨hra,_,_,hi6,ha6⟩:=dO h.1.1
 rw[k3]at hra
 have hargs:e.args= []:=List.eq_nil_of_length_eq_zero (by have:((e.args.length:Nat):Int)=0:=hra;omega)
 obtain⟨t,ds,hfd,hlen,hds,hix⟩:=h.2 e (nr e) k3
 have hz:=Ex.sz_pos e
 have hfn: ∀n,nx≤n→ak F n=none:=fun n h=>pO hF h
 have hob:ns p e cs=rv cs ((e.idx.zip ds).flatMap fun q=>Ar p q.1 q.2):=by
  rw[ur,if_pos k3,if_neg (by omega),hargs,vC,List.append_nil,Ft,yX,hfd]
  rfl
 rw[hob]
 clear hob hra
 have pf:=gJ hfp e.name
 rw[hfd]at pf
 have hforms:=fun l hl=>((h.1.2 e (nr e)).2 l hl:bj l∧l.2.length≤1000)
 refine am.ofZ (ress:= []) fX (by simp) fun _=>aa ?_
 simp only[eR]
 repeat' first|simp(disch:=omega) only[go_sem, *,dm,eG,hfn,k3]|((with_reducible refine ab ?_ ?_)<;>intro h<;>try omega)|(refine bS pf rfl rfl ?_)
 refine aj (fun i:Nat=>⟨[(0,.c (.ptr q 0)),(2,ej cs),(4,.c (.ptr (nx+1) 0)),(7,kL ds),(38,.c (.pure (c9 eB e.idx))),(39,I e.idx.length),(40,I i)],(nx+1,Qn 3 e)::Uu q nx p d (l++rv cs (((e.idx.zip ds).take i).flatMap fun q=>Ar p q.1 q.2)) F,nx+2,nx⟩) (fun i=>i≤e.idx.length) (fun i=>e.idx.length-i) ⟨0, [(nx,r),(nx+1,nx)],by omega, ?_⟩ ?_
 ·simp only[List.take_zero,List.flatMap_nil,rv,List.map_nil,List.append_nil]
  refine bz (by simp(disch:=omega) [dm,hqk,hlen]) ?_ rfl (by simp;try omega) (by simp[qS];try omega)
  repeat' first|exact hF.wkA|refine bB ?_ ?_ ?_ ?_ ?_|(simp(disch:=omega) [dm,hqk,hlen]<;>omega)|omega
 intro i hi
 refine aa ?_
 have h0n:q<nx:=by omega
 clear pf
 by_cases hlt:i<e.idx.length
 ·have hltd:i<ds.length:=by omega
  have hm:=List.getElem_mem hlt
  have g1:=ae (f:=eB) hlt
  have g2:=ae (f:=bQ) hltd
  have gd:=hds _ (List.getElem_mem hltd)
  have hxi:=hix _ hm
  have hf1:=hforms _ (List.mem_cons_of_mem _ (List.mem_flatMap.2 ⟨e.idx[i],hm,List.mem_cons_self⟩))
  have hfa: ∀l∈e.idx[i].2.2,bj l∧l.2.length≤1000:=fun l hl=>hforms _ (List.mem_cons_of_mem _ (List.mem_flatMap.2 ⟨e.idx[i],hm,List.mem_cons_of_mem _ hl⟩))
  have h6:=ha6 _ hm
  have hst:=zk (f:=fun q:Ix×ca=>Ar p q.1 q.2) hlt hltd
  have hll:(((e.idx.zip ds).take i).flatMap fun q=>Ar p q.1 q.2).length≤60:=by
   have:=CH (f:=fun q:Ix×ca=>Ar p q.1 q.2) (n:=12) (l:=(e.idx.zip ds).take i) fun x hx=>CP (ha6 _ (List.of_mem_zip (List.mem_of_mem_take hx)).1)
   have h3:((e.idx.zip ds).take i).length≤i:=by simp;omega
   omega
  clear hix hforms hds ha6 h hm hfd
  obtain⟨R1,hR1⟩: ∃R1,R1=((e.idx.zip ds).take (i+1)).flatMap (fun q=>Ar p q.1 q.2):=⟨_,rfl⟩
  rw[←hR1]at hst
  have HR1:=Lib.hid hR1
  clear hR1
  generalize ((e.idx.zip ds).take i).flatMap (fun q=>Ar p q.1 q.2)=R0 at*
  generalize ds[i]=dl at*
  generalize e.idx[i]=x at*
  obtain⟨⟨K,L⟩,s,at'⟩:=x
  obtain⟨K2,L2⟩:=dl
  simp only[eB,bQ]at g1 g2 hf1 gd hxi hfa h6 hst
  have hlen':ds.length=e.idx.length:=hlen.symm
  by_cases hs:s=⟨⟨[]⟩⟩
  ·subst hs
   rw[Ar,if_pos rfl]at hst
   have pn:=rO (p:=p) (d:=d) (f:=(K,L)) (x:=(K2,L2)) (cs:=cs) (l:=l++rv cs R0) (q:=q) (r:=nx) (nx:=nx+3) (F:=(nx+2,Zq ((K,L),⟨⟨[]⟩⟩,at'))::(nx+1,Qn 3 e)::F) hf1.1 gd.1 (by have:=hf1.2;simp only at this ⊢;omega) (by have:=gd.2;simp only at this ⊢;omega) (by simp only[List.length_append,OO];omega) h0n (by omega)
    (ol (ol hF (by omega) (by omega) (by omega) rfl (.inr (Nat.le_refl _)) (by omega)) (by omega) (Nat.le_refl _) (by omega) rfl (.inl rfl) (by omega))
   rw[List.append_assoc,←On,←hst]at pn
   clear hst hxi hf1 hfa gd hlen
   repeat' first|simp(disch:=omega) only[go_sem, *,g1,g2,hlen',dm,eG,hfn,wrap_i64]|((with_reducible refine ab ?_ ?_)<;>intro h<;>try omega)|(refine aq (pn.perm (fun nm=>by first|rfl|(simp only[ak,aB];done)|(simp only[ak,aB];(repeat' split)<;>first|rfl|omega))) ?_)
   refine⟨i+1, [(nx,nx+3)],by omega,by omega, ?_⟩
   rw[←HR1.out]
   refine bz (by simp(disch:=omega) [dm,hqk,h0n]) ?_ rfl (by simp;try omega) (by simp[qS];try omega)
   repeat' first|exact hF.wkA|refine bB ?_ ?_ ?_ ?_ ?_|(simp(disch:=omega) [dm,hqk,h0n]<;>omega)|omega
  ·obtain⟨t',ds',hfd',hlen2,hds'⟩:=hxi hs
   have pf2:=gJ hfp s
   rw[hfd']at pf2
   rw[Ar,if_neg hs,yX,hfd']at hst
   clear hxi hf1 gd hlen g2 hfd'
   simp only at hst hlen2
   repeat' first|simp(disch:=omega) only[go_sem, *,g1,hlen',dm,eG,hfn,hs]|((with_reducible refine ab ?_ ?_)<;>intro h<;>try omega)|(refine bS pf2 rfl rfl ?_)
   refine aj (fun k:Nat=>⟨[(0,.c (.ptr q 0)),(2,ej cs),(4,.c (.ptr (nx+1) 0)),(7,kL ds),(12,kL ds'),(38,.c (.pure (c9 eB e.idx))),(39,I e.idx.length),(40,I i),(69,kL at'),(70,I at'.length),(71,I k)],(nx+1,Qn 3 e)::Uu q nx p d (l++rv cs (R0++((at'.zip ds').take k).flatMap fun q=>eN q.1 q.2)) F,nx+2,nx⟩) (fun k=>k≤at'.length) (fun k=>at'.length-k) ⟨0, [],by omega, ?_⟩ ?_
   ·simp only[List.take_zero,List.flatMap_nil,List.append_nil]
    refine bz (by simp(disch:=omega) [dm,hqk,h0n,hlen2]) ?_ rfl (by simp;try omega) (by simp[qS];try omega)
    repeat' first|exact hF.wkA|refine bB ?_ ?_ ?_ ?_ ?_|(simp(disch:=omega) [dm,hqk,h0n,hlen2]<;>omega)|omega
   clear pf2 g1
   intro k hk
   refine aa ?_
   by_cases hlk:k<at'.length
   ·have hlkd:k<ds'.length:=by omega
    have g3:=ae (f:=bQ) hlk
    have g4:=ae (f:=bQ) hlkd
    have b1:=hfa _ (List.getElem_mem hlk)
    have b2:=hds' _ (List.getElem_mem hlkd)
    have hst2:=zk (f:=fun q:ca×ca=>eN q.1 q.2) hlk hlkd
    have hl2:(((at'.zip ds').take k).flatMap fun q=>eN q.1 q.2).length≤12:=by
     rw[Jq]
     have:((at'.zip ds').take k).length≤at'.length:=by simp;omega
     omega
    have pn:=rO (p:=p) (d:=d) (f:=at'[k]) (x:=ds'[k]) (cs:=cs) (l:=l++rv cs (R0++((at'.zip ds').take k).flatMap fun q=>eN q.1 q.2)) (r:=nx) (nx:=nx+3) (F:=(nx+2,.var [.pure (pI at'[k].1),.pure (aE at'[k].2)])::(nx+1,Qn 3 e)::F) b1.1 b2.1 (by have:=b1.2;omega) (by have:=b2.2;omega) (by simp only[List.length_append,OO];omega) h0n (by omega)
     (ol (ol hF (by omega) (by omega) (by omega) rfl (.inr (Nat.le_refl _)) (by omega)) (by omega) (Nat.le_refl _) (by omega) rfl (.inl rfl) (by omega))
    rw[List.append_assoc,←On,List.append_assoc,←hst2]at pn
    clear hst2 b1 b2 hst hfa hds'
    simp only[bQ]at g3 g4
    have hlen3:ds'.length=at'.length:=hlen2.symm
    clear hlen2
    repeat' first|simp(disch:=omega) only[go_sem, *,g3,g4,hlen3,dm,eG,hfn,wrap_i64]|((with_reducible refine ab ?_ ?_)<;>intro h<;>try omega)|(refine aq (pn.perm (fun nm=>by first|rfl|(simp only[ak,aB];done)|(simp only[ak,aB];(repeat' split)<;>first|rfl|omega))) ?_)
    refine⟨k+1, [(nx,nx+3)],by omega,by omega, ?_⟩
    refine bz (by simp(disch:=omega) [dm,hqk,h0n]) ?_ rfl (by simp;try omega) (by simp[qS];try omega)
    repeat' first|exact hF.wkA|refine bB ?_ ?_ ?_ ?_ ?_|(simp(disch:=omega) [dm,hqk,h0n]<;>omega)|omega
   ·obtain rfl:k=at'.length:=by omega
    rw[List.take_of_length_le (l:=at'.zip ds') (by simp;omega),←hst]
    clear hst hfa hds'
    repeat' first|simp(disch:=omega) only[go_sem, *,dm,eG,hfn,wrap_i64]|((with_reducible refine ab ?_ ?_)<;>intro h<;>try omega)
    refine⟨i+1, [],by omega,by omega, ?_⟩
    rw[←HR1.out]
    refine bz (by simp(disch:=omega) [dm,hqk,h0n]) ?_ rfl (by simp;try omega) (by simp[qS];try omega)
    repeat' first|exact hF.wkA|refine bB ?_ ?_ ?_ ?_ ?_|(simp(disch:=omega) [dm,hqk,h0n]<;>omega)|omega
 ·obtain rfl:i=e.idx.length:=by omega
  rw[List.take_of_length_le (l:=e.idx.zip ds) (by simp;omega)]
  repeat' first|simp(disch:=omega) only[go_sem, *,dm,eG,hfn]|((with_reducible refine ab ?_ ?_)<;>intro h<;>try omega)
  refine aj (fun k:Nat=>⟨[(0,.c (.ptr q 0)),(2,ej cs),(90,.c (.pure (.slice []))),(91,I 0),(92,I 0)],Uu q nx p d (l++rv cs ((e.idx.zip ds).flatMap fun q=>Ar p q.1 q.2)) F,nx+1,nx⟩) (fun k=>k=0) (fun _=>0) ⟨0, [],rfl, ?_⟩ ?_
  ·refine bz (by simp(disch:=omega) [dm,hqk,hargs]) ?_ rfl (by simp;try omega) (by simp[qS];try omega)
   repeat' first|exact hF.wkA|refine bB ?_ ?_ ?_ ?_ ?_|(simp(disch:=omega) [dm,hqk,hargs]<;>omega)|omega
  rintro k rfl
  refine aa ?_
  repeat' first|simp(disch:=omega) only[go_sem, *,dm,eG,hfn]|((with_reducible refine ab ?_ ?_)<;>intro h<;>try omega)
  refine⟨[], [], ?_⟩
  simp(disch:=omega) only[go_sem,bo,dm,eG]
  refine bz (by simp(disch:=omega) [dm,hqk]) ?_ rfl (by simp;try omega) (by simp[qS];try omega)
  repeat' first|exact hF.wkA|refine bB ?_ ?_ ?_ ?_ ?_|(simp(disch:=omega) [dm,hqk]<;>omega)|omega
theorem FQ {p:bK} {d:Nat} (hfp:j8 p) (e:Ex):xL p e→WG p d e:=by
 refine Ex.ind (p:=fun e=>xL p e→WG p d e) (fun e ih h=> ?_) e
 by_cases k3:e.op=3
 ·exact z8 hfp h k3
 ·by_cases k11:e.op=11
  ·exact D7 h k11 fun a ha=>ih a ha (ii h ha)
  ·exact AI h k3 k11 fun a ha=>ih a ha (ii h ha)
set_option maxHeartbeats 4000000
set_option maxRecDepth 1000000
abbrev Qo:=Nat×Nat×Ob
def a6 (x:Qo):List PC:=Y3 x.1 x.2.1 x.2.2
def a5 (x:Qo):List PC:= [pI x.1,pI x.2.1,pI x.2.2.1.1.1,aE x.2.2.1.1.2,pB x.2.2.1.2]
noncomputable def MW (p:bK) (x:zH×Nat):List Qo:=(ns p x.1.body []).zipIdx.map fun y=>(x.2,y.2,y.1)
noncomputable def lk (p:bK) (k:Nat):List Qo:=((p.defs.take k).zipIdx).flatMap (MW p)
noncomputable def vG (p:bK):List Qo:=(p.defs.zipIdx).flatMap (MW p)
theorem As {p:bK} {k:Nat} (h:k<p.defs.length):lk p (k+1)=lk p k++MW p (p.defs[k],k):=by
 unfold lk
 rw[List.take_succ_eq_append_getElem h,List.zipIdx_append,List.flatMap_append]
 simp[Nat.min_eq_left (Nat.le_of_lt h)]
theorem If (p:bK) (d:zH) (k:Nat):(MW p (d,k)).map a6=ji k (ns p d.body []):=by
 simp[MW,ji,a6,Function.comp_def]
def R9 (p:bK):Prop:=p.defs.length≤1000∧ ∀d∈p.defs,xL p d.body∧d.body.sz≤20000-1
theorem Kq {p:bK} {d:zH} {k:Nat} (h:xL p d.body∧d.body.sz≤20000-1):(MW p (d,k)).length≤1440000:=by
 have:=w9 p d.body h.1.1.1 []
 simp only[MW,List.length_map,List.length_zipIdx]
 omega
theorem ER {p:bK} (h:R9 p): ∀k,(lk p k).length≤1440000*k:=by
 intro k
 induction k with
 |zero=>simp[lk]
 |succ k ih=>
  by_cases hlt:k<p.defs.length
  ·rw[As hlt,List.length_append]
   have:=Kq (k:=k) (h.2 _ (List.getElem_mem hlt))
   omega
  ·have:lk p (k+1)=lk p k:=by
    unfold lk
    rw[List.take_of_length_le (by omega),List.take_of_length_le (by omega)]
   rw[this]
   omega
set_option maxHeartbeats 4000000 in
theorem D6 {p:bK} (hfp:j8 p) (h:R9 p):ac Tryz.prog qO [fK p] (d8 a6 (vG p)):=by
 refine ac.of GN (by simp) fun hb=>aa ?_
 have hdl:=h.1
 conv in yj=>cbv
 repeat' first|simp(disch:=omega) only[go_sem, *]|((with_reducible refine ab ?_ ?_)<;>intro h<;>try omega)
 refine dv 3 64 6 rfl (by decide) ?_
 refine aj (fun k:Nat=>⟨[(10,I k),(9,I p.defs.length),(8,.c (.pure (c9 cr p.defs))),(3,.c (.ref 1)),(1,.c (.ptr 0 0))], [(1,.arr 64 6 ((lk p k).map a6)),(0,d6 p)],2,0⟩) (fun k=>k≤p.defs.length) (fun k=>p.defs.length-k) ⟨0, [],by omega,by simp[lk]⟩ ?_
 intro k hk
 by_cases hlt:k<p.defs.length
 ·have hd:=h.2 _ (List.getElem_mem hlt)
  have hL:=ER h k
  have hD:=Kq (k:=k) hd
  have pe:=FQ (d:=k) hfp p.defs[k].body hd.1 [] [] 3 4 5 [(2,J4 p.defs[k]),(1,.arr 64 6 ((lk p k).map a6)),(0,d6 p)] (by have:=hd.2;simp;omega) (by have:=hd.2;simp;omega) (by omega) (by omega) ⟨by omega,rfl,by simp[jo],by omega,rfl,by simp[jo],by omega,rfl,by simp[jo],trivial⟩
  rw[List.nil_append]at pe
  have hrw:=If p p.defs[k] k
  have hs:=As hlt
  have g1:=ae (f:=cr) hlt
  refine bO (aa ?_)
  repeat' first|simp(disch:=omega) only[go_sem, *]|((with_reducible refine ab ?_ ?_)<;>intro h<;>try omega)
  refine bO (fb (t:=decide ((k:Int)<(p.defs.length:Int))) rfl (fun _=>mh ?_) (fun e=>absurd e (by simp;omega)))
  change AW _ _ _ _ _
  refine bO (tT (bO (aa ?_)))
  repeat' first|simp(disch:=omega) only[go_sem, *,g1,cr]|((with_reducible refine ab ?_ ?_)<;>intro h<;>try omega)
  refine bO (aa ?_)
  repeat' first|simp(disch:=omega) only[go_sem, *]|((with_reducible refine ab ?_ ?_)<;>intro h<;>try omega)
  refine fc 3 6 64 6 _ rfl rfl (by decide) ?_
  have pc:=am.nil3 pe
  have ho:bl 6 (ji k (ns p p.defs[k].body [])):=by rw[←hrw];exact ar fun x=>rfl
  have hol:(ji k (ns p p.defs[k].body [])).length≤1440000:=by rw[←hrw,List.length_map];exact hD
  have hat:(lk p k).map a6++ji k (ns p p.defs[k].body [])=(lk p (k+1)).map a6:=by rw[hs,List.map_append,hrw]
  have HT:=Lib.hid hat
  clear hat hs hrw pe hb hd g1
  refine aa ?_
  repeat' first|simp(disch:=omega) only[go_sem, *]|((with_reducible refine ab ?_ ?_)<;>intro h<;>try omega)|(refine aq (pc.perm (fun nm=>by first|rfl|(simp only[ak,aB];done)|(simp only[ak,aB];(repeat' split)<;>first|rfl|omega))) ?_)|(refine aN rfl (by intro h;cases h) ho (by simp only[List.length_map];omega) (by simp only[List.length_map];omega) ?_)
  rw[HT.out]
  change AW _ _ _ _ _
  refine aa ?_
  repeat' first|simp(disch:=omega) only[go_sem, *,wrap_i64]|((with_reducible refine ab ?_ ?_)<;>intro h<;>try omega)
  exact⟨k+1, [(1,6)],by omega,by omega,by simp⟩
 ·obtain rfl:k=p.defs.length:=by omega
  refine aa ?_
  rw[show lk p p.defs.length=vG p by unfold lk vG;rw[List.take_of_length_le (Nat.le_refl _)]]
  repeat' first|simp(disch:=omega) only[go_sem, *]|((with_reducible refine ab ?_ ?_)<;>intro h<;>try omega)
  all_goals rfl
noncomputable def Uf (p:bK):List Qo:=if(c7 p).2≠0 then []else vG p
theorem LT {p:bK} (h:R9 p):(vG p).length≤1440000000:=by
 have h1:=ER h p.defs.length
 have h2:=h.1
 rw[show lk p p.defs.length=vG p by unfold lk vG;rw[List.take_of_length_le (Nat.le_refl _)]]at h1
 omega
end Go.Proofs.YthkaaahphlneiaaGreatDoor
