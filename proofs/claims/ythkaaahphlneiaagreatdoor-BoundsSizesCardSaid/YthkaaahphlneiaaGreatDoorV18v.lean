import Derived.Test.YthkaaahphlneiaaGreatDoorV18e
import Derived.Test.YthkaaahphlneiaaGreatDoorV18g
import Derived.Test.YthkaaahphlneiaaGreatDoorV17c
import Derived.Test.YthkaaahphlneiaaGreatDoorV17x
set_option linter.unusedVariables false
set_option linter.unusedSimpArgs false
set_option maxRecDepth 20000
set_option maxHeartbeats 4000000
set_option maxRecDepth 1000000
namespace Go.Proofs.YthkaaahphlneiaaGreatDoor
open Go.Abs Go.RowKit
set_option maxHeartbeats 4000000 in
theorem pG (e:Ex):lG e→e.sz≤20000→ac Tryz.prog jF [fm e] (YF (dP e)):=by
 refine Ex.ind (p:=fun e=>lG e→e.sz≤20000→ac Tryz.prog jF [fm e] (YF (dP e))) (fun e ih h hs=> ?_) e
 refine ac.of Cn (by simp) fun hb=>aa ?_
 clear hb
 have ha:=(dO h.1).1
 rw[Jg]
 conv in tD=>cbv
 by_cases k2:e.op=2
 ·rw[show lN e.op e.val e.ty e.lin (e.args.map dP)=(e.lin,true) by simp[lN,k2]]
  clear ih ha h
  repeat' first|simp(disch:=omega) only[go_sem, *,k2]|((with_reducible refine ab ?_ ?_)<;>intro h<;>try omega)|(with_reducible refine af ?_ ?_)|(with_reducible refine ag (fun h=> ?_) ?_)
  all_goals rfl
 by_cases k1:e.op=1
 ·rw[show lN e.op e.val e.ty e.lin (e.args.map dP)=((e.val.1, []),decide (e.ty.1=3)) by simp[lN,k1]]
  have pc:=rU e.val.1
  clear ih ha h k2
  repeat' first|simp(disch:=omega) only[go_sem, *,k1]|((with_reducible refine ab ?_ ?_)<;>intro h<;>try omega)|(with_reducible refine af ?_ ?_)|(with_reducible refine ag (fun h=> ?_) ?_)|(refine bS pc rfl rfl ?_)
  all_goals rfl
 by_cases k8:e.op=8
 ·rw[k8]at ha
  obtain⟨a,hargs⟩:=GW (l:=e.args) ha
  have hm:a∈e.args:=by rw[hargs];exact List.mem_cons_self
  have hN:lN e.op e.val e.ty e.lin (e.args.map dP)=((bJ (dP a).1 (-1)).1,(dP a).2&&decide ((bJ (dP a).1 (-1)).2=0)):=by rw[hargs,k8];simp[lN]
  rw[hN]
  have pa:=ih a hm (aX h hm) (by have:=cj hm;omega)
  obtain⟨q1,q2,_⟩:=fU (yq a (aX h hm)) (by have:=cj hm;omega)
  have hg:(e.args.map Ex.row)[0]? =some a.row:=by rw[hargs];rfl
  have hl:e.args.length=1:=by rw[hargs];rfl
  clear ih ha h k2 k1 hN hm hargs hs
  generalize dP a=r at*
  obtain⟨⟨K,l⟩,b⟩:=r
  have ps:=lB (a:=(K,l)) (b:= -1) q1 (by decide) q2
  clear q1 q2
  simp only at ps ⊢
  generalize bJ (K,l) (-1)=s at*
  obtain⟨⟨K',l'⟩,er⟩:=s
  try simp only at ps
  cases b
  all_goals
   repeat' first|simp(disch:=omega) only[go_sem, *,k8,hl,hg,Ex.row_eq,Int.toNat_zero]|((with_reducible refine ab ?_ ?_)<;>intro h<;>try omega)|(with_reducible refine af ?_ ?_)|(with_reducible refine ag (fun h=> ?_) ?_)|(refine bS pa rfl rfl ?_)|(refine bS ps rfl rfl ?_)
   all_goals rfl
 by_cases k45:e.op=4∨e.op=5
 ·have ha2:(e.args.length:Int)=2:=by rw[ha];unfold jn;rcases k45 with k|k<;>rw[k]<;>rfl
  obtain⟨a,b,hargs⟩:=G0 ha2
  have hm:a∈e.args:=by rw[hargs];exact List.mem_cons_self
  have hm':b∈e.args:=by rw[hargs];exact List.mem_cons_of_mem _ List.mem_cons_self
  have pa:=ih a hm (aX h hm) (by have:=cj hm;omega)
  have pb:=ih b hm' (aX h hm') (by have:=cj hm';omega)
  obtain⟨q1,q2,q3⟩:=fU (yq a (aX h hm)) (by have:=cj hm;omega)
  obtain⟨r1,r2,r3⟩:=fU (yq b (aX h hm')) (by have:=cj hm';omega)
  have hg:(e.args.map Ex.row)[0]? =some a.row:=by rw[hargs];rfl
  have hg1:(e.args.map Ex.row)[1]? =some b.row:=by rw[hargs];rfl
  have hl:e.args.length=2:=by rw[hargs];rfl
  rcases k45 with k|k
  ·have hN:lN e.op e.val e.ty e.lin (e.args.map dP)=((fV (dP a).1 (dP b).1).1,(dP a).2&&(dP b).2&&true&&decide ((fV (dP a).1 (dP b).1).2=0)):=by rw[hargs,k];simp[lN]
   rw[hN]
   clear ih ha ha2 h k2 k1 k8 hN hm hm' hargs hs
   generalize dP a=r at*
   obtain⟨⟨K,l⟩,x⟩:=r
   generalize dP b=r at*
   obtain⟨⟨K',l'⟩,y⟩:=r
   have ps:=kp q1 r1 (by simp only at q3 r3 ⊢;omega)
   clear q1 q2 r1 r2 q3 r3
   simp only at ps ⊢
   generalize fV (K,l) (K',l')=s at*
   obtain⟨⟨K2,l2⟩,er⟩:=s
   try simp only at ps
   cases x<;>cases y
   all_goals
    repeat' first|simp(disch:=omega) only[go_sem, *,k,hl,hg,hg1,Ex.row_eq,Int.toNat_zero,Int.toNat_one]|((with_reducible refine ab ?_ ?_)<;>intro h<;>try omega)|(with_reducible refine af ?_ ?_)|(with_reducible refine ag (fun h=> ?_) ?_)|(refine bS pa rfl rfl ?_)|(refine bS pb rfl rfl ?_)|(refine bS ps rfl rfl ?_)
    all_goals rfl
  ·have hN:lN e.op e.val e.ty e.lin (e.args.map dP)=((fV (dP a).1 (bJ (dP b).1 (-1)).1).1,(dP a).2&&(dP b).2&&decide ((bJ (dP b).1 (-1)).2=0)&&decide ((fV (dP a).1 (bJ (dP b).1 (-1)).1).2=0)):=by rw[hargs,k];simp[lN]
   rw[hN]
   clear ih ha ha2 h k2 k1 k8 hN hm hm' hargs hs
   generalize dP a=r at*
   obtain⟨⟨K,l⟩,x⟩:=r
   generalize dP b=r at*
   obtain⟨⟨K',l'⟩,y⟩:=r
   have p1:=lB (a:=(K',l')) (b:= -1) r1 (by decide) r2
   have ps:=kp q1 (ql (a:=(K',l'))) (by have:=iF (K',l') (-1);simp only at q3 r3 this ⊢;omega)
   clear q1 q2 r1 r2 q3 r3
   simp only at p1 ps ⊢
   generalize bJ (K',l') (-1)=s at*
   obtain⟨⟨K3,l3⟩,e3⟩:=s
   simp only at p1 ps ⊢
   generalize fV (K,l) (K3,l3)=s at*
   obtain⟨⟨K2,l2⟩,er⟩:=s
   try simp only at ps
   cases x<;>cases y
   all_goals
    repeat' first|simp(disch:=omega) only[go_sem, *,k,hl,hg,hg1,Ex.row_eq,Int.toNat_zero,Int.toNat_one]|((with_reducible refine ab ?_ ?_)<;>intro h<;>try omega)|(with_reducible refine af ?_ ?_)|(with_reducible refine ag (fun h=> ?_) ?_)|(refine bS pa rfl rfl ?_)|(refine bS pb rfl rfl ?_)|(refine bS p1 rfl rfl ?_)|(refine bS ps rfl rfl ?_)
    all_goals first|rfl|(simp_all;done)|(simp;done)
 ·have hN:lN e.op e.val e.ty e.lin (e.args.map dP)=lq:=by
   unfold lN
   rw[if_neg k2,if_neg k1,if_neg k8,if_neg (fun h=>k45 (.inr h)),if_neg (fun h=>k45 (.inl h))]
  rw[hN]
  have k4: ¬e.op=4:=fun h=>k45 (.inl h)
  have k5: ¬e.op=5:=fun h=>k45 (.inr h)
  clear ih ha h hN k45
  repeat' first|simp(disch:=omega) only[go_sem, *,k2,k1,k8,k4,k5]|((with_reducible refine ab ?_ ?_)<;>intro h<;>try omega)|(with_reducible refine af ?_ ?_)|(with_reducible refine ag (fun h=> ?_) ?_)
  all_goals rfl
set_option maxHeartbeats 4000000 in
theorem rP (e:Ex):lG e→e.sz≤20000→ac Tryz.prog ky [fm e] (YE (bw e)):=by
 refine Ex.ind (p:=fun e=>lG e→e.sz≤20000→ac Tryz.prog ky [fm e] (YE (bw e))) (fun e ih h hs=> ?_) e
 have ha:=(dO h.1).1
 by_cases k:13≤e.op∧e.op≤15
 ·have ha2:(e.args.length:Int)=2:=by
   rw[ha]
   have:e.op=13∨e.op=14∨e.op=15:=by omega
   rcases this with k|k|k<;>rw[k]<;>rfl
  obtain⟨a,b,hargs⟩:=G0 ha2
  have hm:a∈e.args:=by rw[hargs];exact List.mem_cons_self
  have hm':b∈e.args:=by rw[hargs];exact List.mem_cons_of_mem _ List.mem_cons_self
  have pa:=pG a (aX h hm) (by have:=cj hm;omega)
  have pb:=pG b (aX h hm') (by have:=cj hm';omega)
  obtain⟨q1,q2,q3⟩:=fU (yq a (aX h hm)) (by have:=cj hm;omega)
  obtain⟨r1,r2,r3⟩:=fU (yq b (aX h hm')) (by have:=cj hm';omega)
  obtain⟨sa1,sa2⟩:=Vy a
  obtain⟨sb1,sb2⟩:=Vy b
  have hF:bw e=if(dP a).2=true∧(dP b).2=true then Xm (sF e.op (dP a).1 (dP b).1) (decide (e.op=15))else([],false):=by
   rw[Mp k hargs,sa1,sb1]
   by_cases hh:(dP a).2=true∧(dP b).2=true
   ·rw[if_pos hh,if_pos hh,sa2 (sa1.trans hh.1),sb2 (sb1.trans hh.2)]
   ·rw[if_neg hh,if_neg hh]
  have hg:(e.args.map Ex.row)[0]? =some a.row:=by rw[hargs];rfl
  have hg1:(e.args.map Ex.row)[1]? =some b.row:=by rw[hargs];rfl
  have hl:e.args.length=2:=by rw[hargs];rfl
  have hd:e.op=13∨e.op=14∨e.op=15:=by omega
  rw[hF]
  clear ih ha ha2 h hs hm hm' hargs sa1 sa2 sb1 sb2 hF k
  generalize dP a=r at*
  obtain⟨⟨K,l⟩,x⟩:=r
  generalize dP b=r at*
  obtain⟨⟨K',l'⟩,y⟩:=r
  by_cases hxy:x=true∧y=true
  ·obtain⟨rfl,rfl⟩:=hxy
   rw[if_pos ⟨rfl,rfl⟩]
   have p0:=lC (k:=0) (.inl rfl) q1 r1 q3 r3
   have p1:=lC (k:= -1) (.inr rfl) q1 r1 q3 r3
   rw[if_pos rfl]at p0
   rw[if_neg (by decide)]at p1
   clear q1 q2 r1 r2 q3 r3
   unfold Xm
   simp only at p0 p1 ⊢
   rcases hd with hd|hd|hd
   ·rw[show sF e.op (K,l) (K',l')=nJ (K,l) (K',l') by rw[sF,if_pos hd]]
    generalize nJ (K,l) (K',l')=s at*
    obtain⟨⟨K2,l2⟩,er⟩:=s
    clear p0
    by_cases h0:er=0
    ·subst h0
     rw[if_pos rfl]
     refine ac.of cN (by simp) fun hb=>aa ?_
     conv in cM=>cbv
     repeat' first|simp(disch:=omega) only[go_sem, *,hd,hl,hg,hg1,Ex.row_eq,Int.toNat_zero,Int.toNat_one]|((with_reducible refine ab ?_ ?_)<;>intro h<;>try omega)|(with_reducible refine af ?_ ?_)|(with_reducible refine ag (fun h=> ?_) ?_)|(refine bS pa rfl rfl ?_)|(refine bS pb rfl rfl ?_)|(refine bS p1 rfl rfl ?_)
     all_goals rfl
    ·rw[if_neg h0]
     refine ac.of cN (by simp) fun hb=>aa ?_
     conv in cM=>cbv
     repeat' first|simp(disch:=omega) only[go_sem, *,h0,hd,hl,hg,hg1,Ex.row_eq,Int.toNat_zero,Int.toNat_one]|((with_reducible refine ab ?_ ?_)<;>intro h<;>try omega)|(with_reducible refine af ?_ ?_)|(with_reducible refine ag (fun h=> ?_) ?_)|(refine bS pa rfl rfl ?_)|(refine bS pb rfl rfl ?_)|(refine bS p1 rfl rfl ?_)
     all_goals rfl
   all_goals
    rw[show sF e.op (K,l) (K',l')=kH (K,l) (K',l') by rw[sF,if_neg (by omega)]]
    generalize kH (K,l) (K',l')=s at*
    obtain⟨⟨K2,l2⟩,er⟩:=s
    clear p1
    by_cases h0:er=0
    ·subst h0
     rw[if_pos rfl]
     refine ac.of cN (by simp) fun hb=>aa ?_
     conv in cM=>cbv
     repeat' first|simp(disch:=omega) only[go_sem, *,hd,hl,hg,hg1,Ex.row_eq,Int.toNat_zero,Int.toNat_one]|((with_reducible refine ab ?_ ?_)<;>intro h<;>try omega)|(with_reducible refine af ?_ ?_)|(with_reducible refine ag (fun h=> ?_) ?_)|(refine bS pa rfl rfl ?_)|(refine bS pb rfl rfl ?_)|(refine bS p0 rfl rfl ?_)
     all_goals rfl
    ·rw[if_neg h0]
     refine ac.of cN (by simp) fun hb=>aa ?_
     conv in cM=>cbv
     repeat' first|simp(disch:=omega) only[go_sem, *,h0,hd,hl,hg,hg1,Ex.row_eq,Int.toNat_zero,Int.toNat_one]|((with_reducible refine ab ?_ ?_)<;>intro h<;>try omega)|(with_reducible refine af ?_ ?_)|(with_reducible refine ag (fun h=> ?_) ?_)|(refine bS pa rfl rfl ?_)|(refine bS pb rfl rfl ?_)|(refine bS p0 rfl rfl ?_)
     all_goals rfl
  ·rw[if_neg hxy]
   clear q1 q2 r1 r2 q3 r3
   refine ac.of cN (by simp) fun hb=>aa ?_
   conv in cM=>cbv
   rcases hd with hd|hd|hd
   all_goals
    cases x<;>cases y
    all_goals first
     |(exact absurd ⟨rfl,rfl⟩ hxy;done)
     |skip
    all_goals
     clear hxy
     repeat' first|simp(disch:=omega) only[go_sem, *,hd,hl,hg,hg1,Ex.row_eq,Int.toNat_zero,Int.toNat_one]|((with_reducible refine ab ?_ ?_)<;>intro h<;>try omega)|(with_reducible refine af ?_ ?_)|(with_reducible refine ag (fun h=> ?_) ?_)|(refine bS pa rfl rfl ?_)|(refine bS pb rfl rfl ?_)
    all_goals rfl
 by_cases k16:e.op=16
 ·have ha2:(e.args.length:Int)=2:=by rw[ha,k16];rfl
  obtain⟨a,b,hargs⟩:=G0 ha2
  rw[Kh k16 hargs]
  have hm:a∈e.args:=by rw[hargs];exact List.mem_cons_self
  have hm':b∈e.args:=by rw[hargs];exact List.mem_cons_of_mem _ List.mem_cons_self
  have pa:=ih a hm (aX h hm) (by have:=cj hm;omega)
  have pb:=ih b hm' (aX h hm') (by have:=cj hm';omega)
  have q1:=(oQ a (aX h hm)).1
  have q2:=(oQ b (aX h hm')).1
  have s1:=cj hm
  have s2:=cj hm'
  have hg:(e.args.map Ex.row)[0]? =some a.row:=by rw[hargs];rfl
  have hg1:(e.args.map Ex.row)[1]? =some b.row:=by rw[hargs];rfl
  have hl:e.args.length=2:=by rw[hargs];rfl
  clear ih ha ha2 h k hm hm' hargs
  have l1:(bw a).1.length≤20000:=by omega
  have l2:(bw b).1.length≤20000:=by omega
  clear q1 q2 s1 s2 hs
  generalize bw a=r at*
  obtain⟨x,y⟩:=r
  generalize bw b=r at*
  obtain⟨x',y'⟩:=r
  have ok':bl 3 (x'.map cP):=ar fun _=>rfl
  have ok:bl 3 (x.map cP):=ar fun _=>rfl
  simp only at l1 l2 pa pb ⊢
  rw[show YE (x++x',y&&y')= .tup [.c (.pure (.slice (x.map cP++x'.map cP))),Go.Abs.B (y&&y')] by show AV.tup [.c (.pure (.slice (List.map cP (_++_)))),_]=_;rw[List.map_append]]
  refine ac.of cN (by simp) fun hb=>aa ?_
  conv in cM=>cbv
  cases y
  all_goals
   repeat' first|simp(disch:=omega) only[go_sem, *,k16,hl,hg,hg1,Ex.row_eq,Int.toNat_zero,Int.toNat_one]|((with_reducible refine ab ?_ ?_)<;>intro h<;>try omega)|(with_reducible refine af ?_ ?_)|(with_reducible refine ag (fun h=> ?_) ?_)|(refine bS pa rfl rfl ?_)|(refine bS pb rfl rfl ?_)|(refine nN ok (by simp only[List.length_map];omega) (by simp only[List.length_map];omega) ?_)|(refine aN rfl (by intro h;cases h) ok' (by simp only[List.length_map];omega) (by simp only[List.length_map];omega) ?_)
  all_goals rfl
 by_cases k18:e.op=18
 ·have ha2:(e.args.length:Int)=1:=by rw[ha,k18];rfl
  obtain⟨a,hargs⟩:=GW ha2
  rw[yk k18 hargs]
  have hm:a∈e.args:=by rw[hargs];exact List.mem_cons_self
  have pa:=ih a hm (aX h hm) (by have:=cj hm;omega)
  have q1:=oQ a (aX h hm)
  have s1:=cj hm
  have hg:(e.args.map Ex.row)[0]? =some a.row:=by rw[hargs];rfl
  have hl:e.args.length=1:=by rw[hargs];rfl
  clear ih ha ha2 h k k16 hm hargs
  have hq:TN 20000 (bw a).1:=KD q1 (by omega)
  clear q1 s1 hs
  generalize bw a=r at*
  obtain⟨x,y⟩:=r
  simp only at pa hq ⊢
  by_cases hxy:x.length=1∧y=true
  ·obtain⟨hx,rfl⟩:=hxy
   obtain⟨c,rfl⟩: ∃c,x= [c]:=by match x,hx with| [c],_=>exact⟨c,rfl⟩
   obtain⟨h64,hlen⟩:=hq.2 c List.mem_cons_self
   have hsh:ft c.1.2:=by unfold ft;omega
   have pn:=AM h64 hsh
   rw[show zQ ([c],true)=if(gO c).2=0∧(gO c).1.length=1 then((gO c).1,true)else([],false)from rfl]
   clear h64 hlen hq hsh
   generalize gO c=X at*
   obtain⟨xs,er⟩:=X
   try simp only at pn pa ⊢
   by_cases hn:er=0∧xs.length=1
   ·rw[if_pos hn]
    obtain⟨rfl,hx1⟩:=hn
    refine ac.of cN (by simp) fun hb=>aa ?_
    conv in cM=>cbv
    repeat' first|simp(disch:=omega) only[go_sem, *,k18,hl,hg,Ex.row_eq,Int.toNat_zero,cP,hx1]|((with_reducible refine ab ?_ ?_)<;>intro h<;>try omega)|(with_reducible refine af ?_ ?_)|(with_reducible refine ag (fun h=> ?_) ?_)|(refine bS pa rfl rfl ?_)|(refine bS pn rfl rfl ?_)
    all_goals rfl
   ·rw[if_neg hn]
    have hn':er≠0∨(er=0∧ ¬((xs.length:Nat):Int)=1):=by
     by_cases h:er=0
     ·exact .inr ⟨h,fun h1=>hn ⟨h,by omega⟩⟩
     ·exact .inl h
    clear hn
    refine ac.of cN (by simp) fun hb=>aa ?_
    conv in cM=>cbv
    rcases hn' with h1|⟨rfl,h1⟩
    all_goals
     repeat' first|simp(disch:=omega) only[go_sem, *,k18,hl,hg,Ex.row_eq,Int.toNat_zero,cP,h1]|((with_reducible refine ab ?_ ?_)<;>intro h<;>try omega)|(with_reducible refine af ?_ ?_)|(with_reducible refine ag (fun h=> ?_) ?_)|(refine bS pa rfl rfl ?_)|(refine bS pn rfl rfl ?_)
    all_goals rfl
  ·rw[show zQ (x,y)=(([],false):CB)from OD hxy]
   have hy:y=false∨(y=true∧ ¬((x.length:Nat):Int)=1):=by
    cases y
    ·exact .inl rfl
    ·exact .inr ⟨rfl,fun h1=>hxy ⟨by omega,rfl⟩⟩
   clear hxy hq
   refine ac.of cN (by simp) fun hb=>aa ?_
   conv in cM=>cbv
   rcases hy with rfl|⟨rfl,h1⟩
   ·repeat' first|simp(disch:=omega) only[go_sem, *,k18,hl,hg,Ex.row_eq,Int.toNat_zero]|((with_reducible refine ab ?_ ?_)<;>intro h<;>try omega)|(with_reducible refine af ?_ ?_)|(with_reducible refine ag (fun h=> ?_) ?_)|(refine bS pa rfl rfl ?_)
    all_goals rfl
   ·repeat' first|simp(disch:=omega) only[go_sem, *,k18,hl,hg,Ex.row_eq,Int.toNat_zero,h1]|((with_reducible refine ab ?_ ?_)<;>intro h<;>try omega)|(with_reducible refine af ?_ ?_)|(with_reducible refine ag (fun h=> ?_) ?_)|(refine bS pa rfl rfl ?_)
    all_goals rfl
 ·rw[Om k k16 k18]
  have d1: ¬e.op=13:=by omega
  have d2: ¬e.op=14:=by omega
  have d3: ¬e.op=15:=by omega
  clear ih ha h k
  refine ac.of cN (by simp) fun hb=>aa ?_
  conv in cM=>cbv
  repeat' first|simp(disch:=omega) only[go_sem, *,d1,d2,d3,k16,k18]|((with_reducible refine ab ?_ ?_)<;>intro h<;>try omega)|(with_reducible refine af ?_ ?_)|(with_reducible refine ag (fun h=> ?_) ?_)
  all_goals rfl
theorem tL {f x:ca} (hf:bj f) (hx:bj x) (lf:f.2.length≤40000000) (lx:x.2.length≤40000000):ac Tryz.prog rh [dj f.1 f.2,dj x.1 x.2] (ej (eN f x)):=by
 have p1:=lC (k:= -1) (.inr rfl) hf hx lf lx
 rw[if_neg (by decide)]at p1
 refine ac.of GE (by simp) fun hb=>aa ?_
 conv in yK=>cbv
 unfold eN
 obtain⟨K,L⟩:=f
 obtain⟨K2,L2⟩:=x
 clear hf hx lf lx
 simp only at p1 ⊢
 generalize nJ (K,L) (K2,L2)=s at*
 obtain⟨⟨K3,L3⟩,er⟩:=s
 by_cases h0:er=0
 ·subst h0
  rw[if_pos rfl]
  repeat' first|simp(disch:=omega) only[go_sem, *]|((with_reducible refine ab ?_ ?_)<;>intro h<;>try omega)|(with_reducible refine af ?_ ?_)|(with_reducible refine ag (fun h=> ?_) ?_)|(refine bS p1 rfl rfl ?_)
  all_goals rfl
 ·rw[if_neg h0]
  repeat' first|simp(disch:=omega) only[go_sem, *,h0]|((with_reducible refine ab ?_ ?_)<;>intro h<;>try omega)|(with_reducible refine af ?_ ?_)|(with_reducible refine ag (fun h=> ?_) ?_)|(refine bS p1 rfl rfl ?_)
  all_goals rfl
set_option maxRecDepth 20000
abbrev JJ (R:List (List PC)) (d:Nat) (l:List Ob):aS:= .arr 79 6 (R++ji d l)
theorem AE {N N' a r r':Nat} {b:aS} {F:List (Nat×aS)} (h:Go.Abs.dU N [r] F) (ha:N≤a) (ha':a<N') (hb:wS b=true) (hr:r'=r∨N≤r') (hne:a≠r'):Go.Abs.dU N' [r'] ((a,b)::F):=by
 refine⟨ha',hb,eK.2 fun m hm=> ?_,h.mono (by omega) fun n hn h'=>eK.2 fun m hm=> ?_⟩
 ·simp only[List.mem_cons,List.not_mem_nil,or_false]at hm
  omega
 ·have h2:=eK.1 h' r (by simp)
  simp only[List.mem_cons,List.not_mem_nil,or_false]at hm
  omega
abbrev YY (a:Ex):aS:= .var [.pure (pI 18),.pure (pS ⟨⟨[]⟩⟩),.pure (pI 0),.pure (pI 0),.pure (pI 0),.pure (pI 0),.pure (pI 0),.pure (pI 0),.pure (pI 0),.pure (pI 0),.nils,.nils,.tsl [[pI a.op,pS a.name,pI a.val.1,pI a.val.2,pI a.ty.1,pI a.ty.2.1,pI a.ty.2.2.1,pI a.ty.2.2.2.1,pI a.ty.2.2.2.2,pI a.lin.1,aE a.lin.2,c9 eB a.idx,.slice (a.args.map Ex.row)]]]
theorem NY (nm e sz:Nat) (rows:List (List PC)) {P:Program} {nt:Nat} {c:ai} {σ:St} {Q:be→St→Prop} (hf:ak σ.mem nm=some (.arr e sz rows)) (h:AW P nt c ⟨Gu nm rows σ.fr,sP nm rows σ.mem,σ.nx,σ.base⟩ Q):AW P nt c σ Q:=
 ri [nm] (by rw[bo,hf];exact h)
def WB (p:bK) (d:Nat) (e:Ex):Prop:= ∀(cs:List gf) (R:List (List PC)) (l:List Ob) (r nx:Nat) (F:List (Nat×aS)),cs.length+e.sz≤20000→R.length≤2000000000→l.length+72*e.sz≤100000000→r<nx→Go.Abs.dU nx [r] F→
  am Tryz.prog vP [fK p,I d,fm e,ej cs,.c (.ref r),I R.length] ((r,JJ R d l)::F) nx (gE [.c (.ref nx)]) ((nx,JJ R d (l++ns p e cs))::F) (nx+1)
set_option maxHeartbeats 4000000 in
theorem Ad {p:bK} {d:Nat} {e:Ex} (h:xL p e) (k3:e.op≠3) (k11:e.op≠11) (IH: ∀a∈e.args,WB p d a):WB p d e:=by
 intro cs R l r nx F hcs hR hl hrn hF
 have hz:=Ex.sz_eq e
 have hal:=Ex.szs_len e.args
 have hob:ns p e cs=vC p e.args cs:=by rw[ur,if_neg k3,if_neg k11,List.nil_append]
 rw[hob]
 clear hob
 have hfn: ∀n,nx≤n→ak F n=none:=fun n h=>pO hF h
 have hok:bl 3 (cs.map cP):=ar fun _=>rfl
 refine am.ofZ (ress:= [.c (.ref nx)]) nb (by simp) fun _=>aa ?_
 simp only[kC]
 repeat' first|simp(disch:=omega) only[go_sem, *,dm,eG,k3,hfn]|((with_reducible refine ab ?_ ?_)<;>intro h<;>try omega)
 refine aj (fun k:Nat=>⟨[(1,I d),(3,ej cs),(4,.c (.ref nx)),(5,I R.length),(6,.c (.ptr (nx+1) 0)),(8,.c (.ptr (nx+2) 0)),(23,I k)],(nx,JJ R d (l++vC p (e.args.take k) cs))::(nx+1,d6 p)::(nx+2,Vk e)::F,nx+3,nx⟩) (fun k=>k≤e.args.length) (fun k=>e.args.length-k) ⟨0, [(nx,r),(nx+1,nx),(nx+2,nx+1)],by omega, ?_⟩ ?_
 ·simp only[List.take_zero,vC,List.append_nil]
  refine bz (by simp(disch:=omega) [dm]) ?_ rfl (by simp;try omega) (by simp[qS];try omega)
  repeat' first|exact hF.wkA|refine bB ?_ ?_ ?_ ?_ ?_|(simp(disch:=omega) [dm]<;>omega)|omega
 intro k hk
 refine aa ?_
 by_cases hlt:k<e.args.length
 ·have hm:=List.getElem_mem hlt
  have hoa:=ii h hm
  have hsm:=cj hm
  have hlen: ∀l:List Ex,(∀a∈l,iE a)→(vC p l cs).length≤72*Ex.szs l:=by
   intro l
   induction l with
   |nil=>intro _;simp[vC]
   |cons a s ih=>
    intro hh
    have:=w9 p a (hh a List.mem_cons_self) cs
    have:=ih fun b hb=>hh b (List.mem_cons_of_mem _ hb)
    simp only[vC,List.length_append,Ex.szs]
    omega
  have h1:=hlen (e.args.take k) fun a ha=>iJ h.1.1 (List.mem_of_mem_take ha)
  have h2:Ex.szs (e.args.take k)+e.args[k].sz≤Ex.szs e.args:=by
   have a1:=Ex.szs_take hlt
   have a2:Ex.szs (e.args.take (k+1))≤Ex.szs e.args:=by
    conv=>rhs;rw[←List.take_append_drop (k+1) e.args,Ex.szs_append]
    omega
   omega
  have pe:=IH _ hm cs R (l++vC p (e.args.take k) cs) nx (nx+3) ((nx+2,Vk e)::(nx+1,d6 p)::F) (by omega) hR (by simp only[List.length_append];omega) (by omega) (AE (N:=nx+2) (r:=nx) (AE (N':=nx+2) (r':=nx) hF (by omega) (by omega) rfl (.inr (Nat.le_refl _)) (by omega)) (by omega) (by omega) rfl (.inl rfl) (by omega))
  rw[List.append_assoc,←LQ p cs hlt]at pe
  have g1:=ae (f:=Ex.row) hlt
  rw[Ex.row_eq]at g1
  clear IH h hoa hlen h1 h2 hm
  repeat' first|simp(disch:=omega) only[go_sem, *,g1,k11,dm,eG,hfn,wrap_i64]|((with_reducible refine ab ?_ ?_)<;>intro h<;>try omega)|(with_reducible refine af ?_ ?_)|(with_reducible refine ag (fun h=> ?_) ?_)|(refine El hok (by simp only[List.length_map];omega) (by simp only[List.length_map];omega) ?_)|(refine aq (pe.perm (fun nm=>by first|rfl|(simp only[ak,aB];done)|(simp only[ak,aB];(repeat' split)<;>first|rfl|omega))) ?_)
  refine⟨k+1, [(nx,nx+3)],by omega,by omega, ?_⟩
  refine bz (by simp(disch:=omega) [dm]) ?_ rfl (by simp;try omega) (by simp[qS];try omega)
  repeat' first|exact hF.wkA|refine bB ?_ ?_ ?_ ?_ ?_|(simp(disch:=omega) [dm]<;>omega)|omega
 ·obtain rfl:k=e.args.length:=by omega
  rw[List.take_of_length_le (by omega)]
  repeat' first|simp(disch:=omega) only[go_sem, *,dm,eG]|((with_reducible refine ab ?_ ?_)<;>intro h<;>try omega)
  refine⟨[], [], ?_⟩
  simp(disch:=omega) only[go_sem,bo,dm,eG]
  refine bz (by simp(disch:=omega) [dm]) ?_ rfl (by simp;try omega) (by simp[qS];try omega)
  repeat' first|exact hF.wkA|refine bB ?_ ?_ ?_ ?_ ?_|(simp(disch:=omega) [dm]<;>omega)|omega
set_option maxHeartbeats 4000000 in
theorem zN {p:bK} {d:Nat} {e:Ex} (hfp:j8 p) (h:xL p e) (k3:e.op=3):WB p d e:=by
 intro cs R l r nx F hcs hR hl hrn hF
 obtain⟨hra,_,_,hi6,ha6⟩:=dO h.1.1
 obtain⟨t,ds,hfd,hlen,hds,hix⟩:=h.2 e (nr e) k3
 have hz:=Ex.sz_pos e
 have hfn: ∀n,nx≤n→ak F n=none:=fun n h=>pO hF h
 rw[k3]at hra
 have hargs:e.args= []:=List.eq_nil_of_length_eq_zero (by have:((e.args.length:Nat):Int)=0:=hra;omega)
 have hob:ns p e cs=rv cs ((e.idx.zip ds).flatMap fun q=>Ar p q.1 q.2):=by
  rw[ur,if_pos k3,if_neg (by omega),hargs,vC,List.append_nil,Ft,yX,hfd]
  rfl
 rw[hob]
 have hall:((e.idx.zip ds).flatMap fun q=>Ar p q.1 q.2).length≤72:=by
  have:=CH (f:=fun q:Ix×ca=>Ar p q.1 q.2) (n:=12) (l:=e.idx.zip ds) fun x hx=>CP (ha6 _ (List.of_mem_zip hx).1)
  have h3:(e.idx.zip ds).length≤e.idx.length:=by simp;omega
  omega
 clear hob hra hargs
 have pf:=gx hfp e.name
 rw[hfd]at pf
 have hforms:=fun l hl=>((h.1.2 e (nr e)).2 l hl:bj l∧l.2.length≤1000)
 have hlen':ds.length=e.idx.length:=hlen.symm
 have hrk: ∀k,r<nx+k:=fun k=>by omega
 have hdn:lJ F (nx+2)=F:=hF.del (.inr (by omega))
 refine am.ofZ (ress:= [.c (.ref nx)]) nb (by simp) fun _=>aa ?_
 simp only[kC]
 repeat' first|simp(disch:=omega) only[go_sem, *,dm,eG,hfn,k3]|((with_reducible refine ab ?_ ?_)<;>intro h<;>try omega)|(refine bS pf rfl rfl ?_)
 refine dv 16 60 3 rfl (by decide) ?_
 have hok1: ∀(f x:ca),bl 3 ((eN f x).map cP):=fun f x=>ar fun _=>rfl
 refine aj (fun i:Nat=>⟨[(1,I d),(3,ej cs),(4,.c (.ref r)),(5,I R.length),(6,.c (.ptr nx 0)),(8,.c (.ptr (nx+1) 0)),(14,kL ds),(16,.c (.ref (nx+2))),(17,I i)],(nx+2,.arr 60 3 ((((e.idx.zip ds).take i).flatMap fun q=>Ar p q.1 q.2).map cP))::(nx,d6 p)::(nx+1,Qn 3 e)::(r,JJ R d l)::F,nx+3,nx⟩) (fun i=>i≤e.idx.length) (fun i=>e.idx.length-i) ⟨0, [(nx+2,nx+3)],by omega, ?_⟩ ?_
 ·simp only[List.take_zero,List.flatMap_nil,List.map_nil]
  refine bz (by simp(disch:=omega) [dm,hrk,hrn]) ?_ rfl (by simp;try omega) (by simp[qS];try omega)
  repeat' first|exact hF.wkA|refine bB ?_ ?_ ?_ ?_ ?_|(simp(disch:=omega) [dm,hrk,hrn]<;>omega)|omega
 intro i hi
 refine aa ?_
 clear pf
 by_cases hlt:i<e.idx.length
 ·have hltd:i<ds.length:=by omega
  have hm:=List.getElem_mem hlt
  have g1:=ae (f:=eB) hlt
  have g2:=ae (f:=bQ) hltd
  have gd:=hds _ (List.getElem_mem hltd)
  have hxi:=hix _ hm
  have hf1:=hforms _ (List.mem_cons_of_mem _ (List.mem_flatMap.2 ⟨e.idx[i],hm,List.mem_cons_self⟩))
  have hfa: ∀l∈e.idx[i].2.2,bj l∧l.2.length≤1000:=fun l hl=>hforms _ (List.mem_cons_of_mem _ (List.mem_flatMap.2 ⟨e.idx[i],hm,List.mem_cons_of_mem _ hl⟩))
  have h6:=ha6 _ hm
  have hst:=zk (f:=fun q:Ix×ca=>Ar p q.1 q.2) hlt hltd
  have hll:(((e.idx.zip ds).take i).flatMap fun q=>Ar p q.1 q.2).length≤60:=by
   have:=CH (f:=fun q:Ix×ca=>Ar p q.1 q.2) (n:=12) (l:=(e.idx.zip ds).take i) fun x hx=>CP (ha6 _ (List.of_mem_zip (List.mem_of_mem_take hx)).1)
   have h3:((e.idx.zip ds).take i).length≤i:=by simp;omega
   omega
  clear hix hforms hds ha6 h hm hfd hall
  obtain⟨R1,hR1⟩: ∃R1,R1=((e.idx.zip ds).take (i+1)).flatMap (fun q=>Ar p q.1 q.2):=⟨_,rfl⟩
  rw[←hR1]at hst
  have HR1:=Lib.hid hR1
  clear hR1
  generalize ((e.idx.zip ds).take i).flatMap (fun q=>Ar p q.1 q.2)=R0 at*
  generalize ds[i]=dl at*
  generalize e.idx[i]=x at*
  obtain⟨⟨K,L⟩,s,at'⟩:=x
  obtain⟨K2,L2⟩:=dl
  simp only[eB,bQ]at g1 g2 hf1 gd hxi hfa h6 hst
  by_cases hs:s=⟨⟨[]⟩⟩
  ·subst hs
   rw[Ar,if_pos rfl]at hst
   have pn:=tL (f:=(K,L)) (x:=(K2,L2)) hf1.1 gd.1 (by have:=hf1.2;simp only at this ⊢;omega) (by have:=gd.2;simp only at this ⊢;omega)
   have ok1:=hok1 (K,L) (K2,L2)
   have hn2:((eN (K,L) (K2,L2)).map cP).length=2:=rfl
   have hst':R0.map cP++(eN (K,L) (K2,L2)).map cP=R1.map cP:=by rw[hst,List.map_append]
   have HT:=Lib.hid hst'
   clear hst hst' hxi hf1 hfa gd hlen hok1
   simp only at pn
   generalize eN (K,L) (K2,L2)=nd at*
   repeat' first|simp(disch:=omega) only[go_sem, *,g1,g2,hlen',dm,eG,hfn,wrap_i64]|((with_reducible refine ab ?_ ?_)<;>intro h<;>try omega)|(with_reducible refine af ?_ ?_)|(with_reducible refine ag (fun h=> ?_) ?_)|(refine bS pn rfl rfl ?_)|(refine aN (by simp(disch:=omega) only[ak,aB,dm,eq_self,↓reduceIte,Option.map_some]<;>rfl) (by intro h;cases h) ok1 (by simp only[List.length_map]at*;omega) (by simp only[List.length_map]at*;omega) ?_)
   rw[HT.out]
   try rw[hdn]
   refine⟨i+1, [(nx+2,nx+3)],by omega,by omega, ?_⟩
   rw[←HR1.out]
   refine bz (by simp(disch:=omega) [dm,hrk,hrn]) ?_ rfl (by simp;try omega) (by simp[qS];try omega)
   repeat' first|exact hF.wkA|refine bB ?_ ?_ ?_ ?_ ?_|(simp(disch:=omega) [dm,hrk,hrn]<;>omega)|omega
  ·obtain⟨t',ds',hfd',hlen2,hds'⟩:=hxi hs
   have pf2:=gx hfp s
   rw[hfd']at pf2
   rw[Ar,if_neg hs,yX,hfd']at hst
   clear hxi hf1 gd hlen g2 hfd'
   simp only at hst hlen2
   have hlen3:ds'.length=at'.length:=hlen2.symm
   repeat' first|simp(disch:=omega) only[go_sem, *,g1,hlen',dm,eG,hfn,hs]|((with_reducible refine ab ?_ ?_)<;>intro h<;>try omega)|(with_reducible refine af ?_ ?_)|(with_reducible refine ag (fun h=> ?_) ?_)|(refine bS pf2 rfl rfl ?_)
   refine aj (fun k:Nat=>⟨[(1,I d),(3,ej cs),(4,.c (.ref r)),(5,I R.length),(6,.c (.ptr nx 0)),(8,.c (.ptr (nx+1) 0)),(14,kL ds),(16,.c (.ref (nx+2))),(17,I i),(19,kL ds'),(21,I k)],(nx+2,.arr 60 3 ((R0++((at'.zip ds').take k).flatMap fun q=>eN q.1 q.2).map cP))::(nx,d6 p)::(nx+1,Qn 3 e)::(r,JJ R d l)::F,nx+3,nx⟩) (fun k=>k≤at'.length) (fun k=>at'.length-k) ⟨0, [],by omega, ?_⟩ ?_
   ·simp only[List.take_zero,List.flatMap_nil,List.append_nil]
    refine bz (by simp(disch:=omega) [dm,hrk,hrn]) ?_ rfl (by simp;try omega) (by simp[qS];try omega)
    repeat' first|exact hF.wkA|refine bB ?_ ?_ ?_ ?_ ?_|(simp(disch:=omega) [dm,hrk,hrn]<;>omega)|omega
   clear pf2
   intro k hk
   refine aa ?_
   by_cases hlk:k<at'.length
   ·have hlkd:k<ds'.length:=by omega
    have g3:=ae (f:=bQ) hlk
    have g4:=ae (f:=bQ) hlkd
    have b1:=hfa _ (List.getElem_mem hlk)
    have b2:=hds' _ (List.getElem_mem hlkd)
    have hst2:=zk (f:=fun q:ca×ca=>eN q.1 q.2) hlk hlkd
    have hl2:(((at'.zip ds').take k).flatMap fun q=>eN q.1 q.2).length≤12:=by
     rw[Jq]
     have:((at'.zip ds').take k).length≤at'.length:=by simp;omega
     omega
    have pn:=tL (f:=at'[k]) (x:=ds'[k]) b1.1 b2.1 (by have:=b1.2;omega) (by have:=b2.2;omega)
    have ok1:=hok1 at'[k] ds'[k]
    have hn2:(eN at'[k] ds'[k]).length=2:=rfl
    have hl3:(R0++((at'.zip ds').take k).flatMap fun q=>eN q.1 q.2).length≤72:=by rw[List.length_append];omega
    have hst3:(R0++((at'.zip ds').take k).flatMap fun q=>eN q.1 q.2).map cP++(eN at'[k] ds'[k]).map cP=(R0++((at'.zip ds').take (k+1)).flatMap fun q=>eN q.1 q.2).map cP:=by rw[hst2,←List.append_assoc,List.map_append (l₁:=R0++_)]
    have HT:=Lib.hid hst3
    clear hst2 hst3 b1 b2 hst hfa hds' hlen2 hl2 hok1
    simp only[bQ]at g3 g4
    generalize eN at'[k] ds'[k]=nd at*
    generalize (R0++((at'.zip ds').take k).flatMap fun q=>eN q.1 q.2)=R2 at*
    repeat' first|simp(disch:=omega) only[go_sem, *,g1,g3,g4,hlen3,dm,eG,hfn,wrap_i64]|((with_reducible refine ab ?_ ?_)<;>intro h<;>try omega)|(with_reducible refine af ?_ ?_)|(with_reducible refine ag (fun h=> ?_) ?_)|(refine bS pn rfl rfl ?_)|(refine aN (by simp(disch:=omega) only[ak,aB,dm,eq_self,↓reduceIte,Option.map_some]<;>rfl) (by intro h;cases h) ok1 (by simp only[List.length_map];omega) (by simp only[List.length_map];omega) ?_)
    rw[HT.out]
    try rw[hdn]
    refine⟨k+1, [(nx+2,nx+3)],by omega,by omega, ?_⟩
    refine bz (by simp(disch:=omega) [dm,hrk,hrn]) ?_ rfl (by simp;try omega) (by simp[qS];try omega)
    repeat' first|exact hF.wkA|refine bB ?_ ?_ ?_ ?_ ?_|(simp(disch:=omega) [dm,hrk,hrn]<;>omega)|omega
   ·obtain rfl:k=at'.length:=by omega
    rw[List.take_of_length_le (l:=at'.zip ds') (by simp;omega),←hst]
    clear hst hfa hds' hlen2
    repeat' first|simp(disch:=omega) only[go_sem, *,g1,dm,eG,hfn,wrap_i64]|((with_reducible refine ab ?_ ?_)<;>intro h<;>try omega)|(with_reducible refine af ?_ ?_)|(with_reducible refine ag (fun h=> ?_) ?_)
    refine⟨i+1, [],by omega,by omega, ?_⟩
    rw[←HR1.out]
    refine bz (by simp(disch:=omega) [dm,hrk,hrn]) ?_ rfl (by simp;try omega) (by simp[qS];try omega)
    repeat' first|exact hF.wkA|refine bB ?_ ?_ ?_ ?_ ?_|(simp(disch:=omega) [dm,hrk,hrn]<;>omega)|omega
 ·obtain rfl:i=e.idx.length:=by omega
  rw[List.take_of_length_le (l:=e.idx.zip ds) (by simp;omega)]
  generalize (e.idx.zip ds).flatMap (fun q=>Ar p q.1 q.2)=C at*
  clear hix hforms hds ha6 h hfd hok1 hlen hlen'
  repeat' first|simp(disch:=omega) only[go_sem, *,dm,eG,hfn]|((with_reducible refine ab ?_ ?_)<;>intro h<;>try omega)
  refine aj (fun k:Nat=>⟨[(1,I d),(3,ej cs),(4,.c (.ref nx)),(5,I R.length),(16,.c (.ref (nx+1))),(22,I k)],(nx,JJ R d (l++rv cs (C.take k)))::(nx+1,.arr 60 3 (C.map cP))::F,nx+2,nx⟩) (fun k=>k≤C.length) (fun k=>C.length-k) ⟨0, [(nx,r),(nx+1,nx+2)],by omega, ?_⟩ ?_
  ·simp only[List.take_zero,rv,List.map_nil,List.append_nil]
   refine bz (by simp(disch:=omega) [dm,hrk,hrn]) ?_ rfl (by simp;try omega) (by simp[qS];try omega)
   repeat' first|exact hF.wkA|refine bB ?_ ?_ ?_ ?_ ?_|(simp(disch:=omega) [dm,hrk,hrn]<;>omega)|omega
  clear hi hlt hdn
  have hdn:lJ F nx=F:=hF.del (.inr (by omega))
  intro k hk
  refine aa ?_
  by_cases hlk:k<C.length
  ·have g1:(C.map cP)[k]? =some [pI C[k].1.1,aE C[k].1.2,pB C[k].2]:=ae (f:=cP) hlk
   have hlo:(l++rv cs (C.take k)).length≤100000072:=by simp[rv];omega
   have ho:l++rv cs (C.take (k+1))=l++rv cs (C.take k)++ [(C[k],cs)]:=by
    rw[List.take_succ_eq_append_getElem hlk,rv,List.map_append,List.append_assoc]
    rfl
   have hr1:=IB d (l++rv cs (C.take k)) (C[k],cs)
   rw[←ho]at hr1
   have hro:=Ig d (l++rv cs (C.take k))
   obtain⟨l2,hl2⟩: ∃l2,l2=l++rv cs (C.take (k+1)):=⟨_,rfl⟩
   rw[←hl2]at hr1
   have HL:=Lib.hid hl2
   clear hl2 ho
   generalize l++rv cs (C.take k)=l1 at*
   have hr2:(R++ji d l1)++ [[pI d,pI l1.length,pI C[k].1.1,aE C[k].1.2,pB C[k].2,c9 cP cs]]=R++ji d l2:=by rw[hr1,List.append_assoc]
   have hq:((R++ji d l1).length:Int)=R.length+l1.length:=by rw[List.length_append,hro];omega
   have hw:IntKind.wrap .i64 (((R++ji d l1).length:Int)-(R.length:Int))=l1.length:=by rw[wrap_i64 (by omega)];omega
   have hql:(R++ji d l1).length≤2100000100:=by omega
   have HR:=Lib.hid hr2
   clear hr1 hr2 hq hro
   repeat' first|simp(disch:=omega) only[go_sem, *,g1,hw,dm,eG,hfn,wrap_i64]|((with_reducible refine ab ?_ ?_)<;>intro h<;>try omega)|(refine aN (by simp(disch:=omega) only[ak,aB,dm,eq_self,↓reduceIte,Option.map_some]<;>rfl) (by intro h;cases h) (aI rfl) (by simp only[List.length_cons,List.length_nil];omega) (by simp only[List.length_cons,List.length_nil];omega) ?_)
   rw[HR.out]
   try rw[hdn]
   refine⟨k+1, [(nx,nx+2)],by omega,by omega, ?_⟩
   rw[←HL.out]
   refine bz (by simp(disch:=omega) [dm,hrk,hrn]) ?_ rfl (by simp;try omega) (by simp[qS];try omega)
   repeat' first|exact hF.wkA|refine bB ?_ ?_ ?_ ?_ ?_|(simp(disch:=omega) [dm,hrk,hrn]<;>omega)|omega
  ·obtain rfl:k=C.length:=by omega
   rw[List.take_of_length_le (Nat.le_refl _)]
   repeat' first|simp(disch:=omega) only[go_sem, *,dm,eG,hfn]|((with_reducible refine ab ?_ ?_)<;>intro h<;>try omega)
   refine⟨[], [], ?_⟩
   simp(disch:=omega) only[go_sem,bo,dm,eG]
   refine bz (by simp(disch:=omega) [dm]) ?_ rfl (by simp;try omega) (by simp[qS];try omega)
   repeat' first|exact hF.wkA|refine bB ?_ ?_ ?_ ?_ ?_|(simp(disch:=omega) [dm]<;>omega)|omega
set_option maxHeartbeats 8000000 in
theorem DR {p:bK} {d:Nat} {e:Ex} (h:xL p e) (k11:e.op=11) (IH: ∀a∈e.args,WB p d a):WB p d e:=by
 intro cs R l r nx F hcs hR hl hrn hF
 have ha:=(dO h.1.1).1
 rw[k11]at ha
 obtain⟨a,b,c,hargs⟩:=VM (l:=e.args) ha
 have ma:a∈e.args:=by rw[hargs];simp
 have mb:b∈e.args:=by rw[hargs];simp
 have mc:c∈e.args:=by rw[hargs];simp
 have hz:=Ex.sz_eq e
 rw[hargs]at hz
 simp only[Ex.szs]at hz
 have oa:=ii h ma
 have on:=Fx oa.1
 have hnz:(gl a).sz=1+a.sz:=by rw[Ex.sz_eq];simp[gl,Ex.args,Ex.szs]
 have fa:=(oQ a oa.1).1
 have fn:(bw (gl a)).1.length≤a.sz:=by
  have e1:bw (gl a)=zQ (bw a):=yk rfl rfl
  have:=Ex.sz_pos a
  rw[e1]
  unfold zQ
  split
  ·split
   ·rename_i hh
    show(gO _).1.length≤_
    omega
   ·simp
  ·simp
 have hob:ns p e cs=ns p a cs++ns p b (cs++(bw a).1)++ns p c (cs++(bw (gl a)).1):=by
  rw[ur,if_neg (by omega),if_pos k11,hargs,List.nil_append]
  rfl
 have l1:=w9 p a oa.1.1 cs
 have l2:=w9 p b (ii h mb).1.1 (cs++(bw a).1)
 have pf:=rP a oa.1 (by omega)
 have pn:=rP (gl a) on (by omega)
 have hfr:Go.Abs.dU (nx+3) [nx] ((nx+2,Qn 11 e)::(nx+1,d6 p)::F):=AE (N:=nx+2) (r:=nx) (AE (N':=nx+2) (r':=nx) hF (by omega) (by omega) rfl (.inr (Nat.le_refl _)) (by omega)) (by omega) (by omega) rfl (.inl rfl) (by omega)
 have hfn: ∀n,nx≤n→ak F n=none:=fun n h=>pO hF h
 have hrk: ∀k,r<nx+k:=fun k=>by omega
 have hok:bl 3 (cs.map cP):=ar fun _=>rfl
 have hokf:bl 3 ((bw a).1.map cP):=ar fun _=>rfl
 have hokn:bl 3 ((bw (gl a)).1.map cP):=ar fun _=>rfl
 have hg:(e.args.map Ex.row)[0]? =some a.row:=by rw[hargs];rfl
 have hg1:(e.args.map Ex.row)[1]? =some b.row:=by rw[hargs];rfl
 have hg2:(e.args.map Ex.row)[2]? =some c.row:=by rw[hargs];rfl
 have hal:e.args.length=3:=by rw[hargs];rfl
 have lf:(bw a).1.length≤20000:=by omega
 have ln:(bw (gl a)).1.length≤20000:=by omega
 have lc:cs.length≤20000:=by omega
 have p1:=IH a ma cs R l nx (nx+3) ((nx+2,Qn 11 e)::(nx+1,d6 p)::F) (by omega) hR (by omega) (by omega) hfr
 have p2:=IH b mb (cs++(bw a).1) R (l++ns p a cs) nx (nx+6) ((nx+4,Vk a)::(nx+2,Qn 11 e)::(nx+1,d6 p)::F) (by simp only[List.length_append];omega) hR (by simp only[List.length_append];omega) (by omega) (AE hfr (by omega) (by omega) rfl (.inl rfl) (by omega))
 have p3:=IH c mc (cs++(bw (gl a)).1) R (l++ns p a cs++ns p b (cs++(bw a).1)) nx (nx+6) ((nx+4,YY a)::(nx+2,Qn 11 e)::(nx+1,d6 p)::F) (by simp only[List.length_append];omega) hR (by simp only[List.length_append];omega) (by omega) (AE hfr (by omega) (by omega) rfl (.inl rfl) (by omega))
 have hd3:lJ F (nx+3)=F:=hF.del (.inr (by omega))
 have hf1:sP (nx+3+1+1) (cs.map cP++(bw a).1.map cP) F=F:=hF.frz (.inr (by omega))
 have hf2:sP (nx+3+1+1) (cs.map cP++(bw (gl a)).1.map cP) F=F:=hF.frz (.inr (by omega))
 rw[hob,←List.append_assoc,←List.append_assoc]
 rw[Ex.row_eq]at hg hg1 hg2
 rw[show fm (gl a)= .agg [.pure (pI 18),.pure (pS ⟨⟨[]⟩⟩),.pure (pI 0),.pure (pI 0),.pure (pI 0),.pure (pI 0),.pure (pI 0),.pure (pI 0),.pure (pI 0),.pure (pI 0),.pure (aE []),.pure (c9 eB []),.pure (.slice [a.row])]from rfl,Ex.row_eq]at pn
 rw[show ej (cs++(bw a).1)= .c (.pure (.slice (cs.map cP++(bw a).1.map cP))) by show AV.c (.pure (.slice (List.map cP (_++_))))=_;rw[List.map_append]]at p2
 rw[show ej (cs++(bw (gl a)).1)= .c (.pure (.slice (cs.map cP++(bw (gl a)).1.map cP))) by show AV.c (.pure (.slice (List.map cP (_++_))))=_;rw[List.map_append]]at p3
 clear IH h ha hargs ma mb mc hz oa on hnz fa fn hob l1 l2 hcs hl hfr
 refine am.ofZ (ress:= [.c (.ref nx)]) nb (by simp) fun _=>aa ?_
 simp only[kC]
 generalize ns p a cs=o1 at*
 generalize ns p b (cs++(bw a).1)=o2 at*
 generalize ns p c (cs++(bw (gl a)).1)=o3 at*
 repeat' first|simp(disch:=omega) only[go_sem, *,dm,eG,k11,hfn]|((with_reducible refine ab ?_ ?_)<;>intro h<;>try omega)
 refine aj (fun k:Nat=>⟨[(1,I d),(3,ej cs),(4,.c (.ref nx)),(5,I R.length),(6,.c (.ptr (nx+1) 0)),(8,.c (.ptr (nx+2) 0)),(23,I k)],(nx,JJ R d (l++([o1,o2,o3].take k).flatten))::(nx+1,d6 p)::(nx+2,Qn 11 e)::F,nx+3,nx⟩) (fun k=>k≤3) (fun k=>3-k) ⟨0, [(nx,r),(nx+1,nx),(nx+2,nx+1)],by omega, ?_⟩ ?_
 ·simp only[List.take_zero,List.flatten_nil,List.append_nil]
  refine bz (by simp(disch:=omega) [dm,hrk,hrn]) ?_ rfl (by simp;try omega) (by simp[qS];try omega)
  repeat' first|exact hF.wkA|refine bB ?_ ?_ ?_ ?_ ?_|(simp(disch:=omega) [dm,hrk,hrn]<;>omega)|omega
 intro k hk
 have hk4:k=0∨k=1∨k=2∨k=3:=by omega
 rcases hk4 with rfl|rfl|rfl|rfl
 ·refine aa ?_
  rw[show l++([o1,o2,o3].take 0).flatten=l by simp]
  repeat' first|simp(disch:=omega) only[go_sem, *,hg,hal,dm,eG,hfn,wrap_i64]|((with_reducible refine ab ?_ ?_)<;>intro h<;>try omega)|(with_reducible refine af ?_ ?_)|(with_reducible refine ag (fun h=> ?_) ?_)|(refine El hok (by simp only[List.length_map];omega) (by simp only[List.length_map];omega) ?_)|(refine aq (p1.perm (fun nm=>by first|rfl|(simp only[ak,aB];done)|(simp only[ak,aB];(repeat' split)<;>first|rfl|omega))) ?_)
  refine⟨1, [(nx,nx+3)],by omega,by omega, ?_⟩
  rw[show l++([o1,o2,o3].take 1).flatten=l++o1 by simp]
  refine bz (by simp(disch:=omega) [dm,hrk,hrn]) ?_ rfl (by simp;try omega) (by simp[qS];try omega)
  repeat' first|exact hF.wkA|refine bB ?_ ?_ ?_ ?_ ?_|(simp(disch:=omega) [dm,hrk,hrn]<;>omega)|omega
 ·rw[show l++([o1,o2,o3].take 1).flatten=l++o1 by simp]
  refine bO (bO (aa ?_))
  repeat' first|simp(disch:=omega) only[go_sem, *,hal,dm,eG,hfn]|((with_reducible refine ab ?_ ?_)<;>intro h<;>try omega)
  refine fb (t:=true) rfl (fun _=>mh ?_) (fun e=>by cases e)
  change AW _ _ _ _ _
  refine bO (tT (bO (aa ?_)))
  repeat' first|simp(disch:=omega) only[go_sem, *]|((with_reducible refine ab ?_ ?_)<;>intro h<;>try omega)
  refine bO (aa ?_)
  repeat' first|simp(disch:=omega) only[go_sem, *,dm,eG]|((with_reducible refine ab ?_ ?_)<;>intro h<;>try omega)|(refine nN hok (by simp only[List.length_map];omega) (by simp only[List.length_map];omega) ?_)
  refine bO (bO (aa ?_))
  repeat' first|simp(disch:=omega) only[go_sem, *,hal,dm,eG,hfn]|((with_reducible refine ab ?_ ?_)<;>intro h<;>try omega)
  refine fb (t:=true) rfl (fun _=> ?_) (fun e=>by cases e)
  refine aa ?_
  repeat' first|simp(disch:=omega) only[go_sem, *,hg,hal,dm,eG,hfn,Int.toNat_zero]|((with_reducible refine ab ?_ ?_)<;>intro h<;>try omega)|(with_reducible refine af ?_ ?_)|(with_reducible refine ag (fun h=> ?_) ?_)|(refine bS pf rfl rfl ?_)|(refine aN (by simp(disch:=omega) only[ak,aB,dm,eq_self,↓reduceIte,Option.map_some]<;>rfl) (by intro h;cases h) hokf (by simp only[List.length_map];omega) (by simp only[List.length_map];omega) ?_)
  try rw[hd3]
  refine NY (nx+3+1+1) 60 3 (cs.map cP++(bw a).1.map cP) (by simp(disch:=omega) only[ak,aB,dm,eq_self,↓reduceIte,Option.map_some]<;>rfl) ?_
  simp(disch:=omega) only[Gu,AL,o7,sP,IV,List.map_cons,List.map_nil,dm,hf1,↓reduceIte]
  refine aa ?_
  repeat' first|simp(disch:=omega) only[go_sem, *,hg1,hal,dm,eG,hfn,Int.toNat_one]|((with_reducible refine ab ?_ ?_)<;>intro h<;>try omega)|(with_reducible refine af ?_ ?_)|(with_reducible refine ag (fun h=> ?_) ?_)|(refine aq (p2.perm (fun nm=>by first|rfl|(simp only[ak,aB];done)|(simp only[ak,aB];(repeat' split)<;>first|rfl|omega))) ?_)
  change AW _ _ _ _ _
  refine aa ?_
  repeat' first|simp(disch:=omega) only[go_sem, *,wrap_i64]|((with_reducible refine ab ?_ ?_)<;>intro h<;>try omega)
  refine⟨2, [(nx,nx+6)],by omega,by omega, ?_⟩
  rw[show l++([o1,o2,o3].take 2).flatten=l++o1++o2 by simp]
  refine bz (by simp(disch:=omega) [dm,hrk,hrn]) ?_ rfl (by simp;try omega) (by simp[qS];try omega)
  repeat' first|exact hF.wkA|refine bB ?_ ?_ ?_ ?_ ?_|(simp(disch:=omega) [dm,hrk,hrn]<;>omega)|omega
 ·rw[show l++([o1,o2,o3].take 2).flatten=l++o1++o2 by simp]
  refine bO (bO (aa ?_))
  repeat' first|simp(disch:=omega) only[go_sem, *,hal,dm,eG,hfn]|((with_reducible refine ab ?_ ?_)<;>intro h<;>try omega)
  refine fb (t:=true) rfl (fun _=>mh ?_) (fun e=>by cases e)
  change AW _ _ _ _ _
  refine bO (tT (bO (aa ?_)))
  repeat' first|simp(disch:=omega) only[go_sem, *]|((with_reducible refine ab ?_ ?_)<;>intro h<;>try omega)
  refine bO (aa ?_)
  repeat' first|simp(disch:=omega) only[go_sem, *,dm,eG]|((with_reducible refine ab ?_ ?_)<;>intro h<;>try omega)|(refine nN hok (by simp only[List.length_map];omega) (by simp only[List.length_map];omega) ?_)
  refine bO (bO (aa ?_))
  repeat' first|simp(disch:=omega) only[go_sem, *,hal,dm,eG,hfn]|((with_reducible refine ab ?_ ?_)<;>intro h<;>try omega)
  refine fb (t:=true) rfl (fun _=> ?_) (fun e=>by cases e)
  refine aa ?_
  repeat' first|simp(disch:=omega) only[go_sem, *,hg,hal,dm,eG,hfn,Int.toNat_zero]|((with_reducible refine ab ?_ ?_)<;>intro h<;>try omega)|(with_reducible refine af ?_ ?_)|(with_reducible refine ag (fun h=> ?_) ?_)|(refine bS pn rfl rfl ?_)|(refine aN (by simp(disch:=omega) only[ak,aB,dm,eq_self,↓reduceIte,Option.map_some]<;>rfl) (by intro h;cases h) hokn (by simp only[List.length_map];omega) (by simp only[List.length_map];omega) ?_)
  try rw[hd3]
  refine NY (nx+3+1+1) 60 3 (cs.map cP++(bw (gl a)).1.map cP) (by simp(disch:=omega) only[ak,aB,dm,eq_self,↓reduceIte,Option.map_some]<;>rfl) ?_
  simp(disch:=omega) only[Gu,AL,o7,sP,IV,List.map_cons,List.map_nil,dm,hf2,↓reduceIte]
  refine aa ?_
  repeat' first|simp(disch:=omega) only[go_sem, *,hg2,hal,dm,eG,hfn,Int.reduceToNat]|((with_reducible refine ab ?_ ?_)<;>intro h<;>try omega)|(with_reducible refine af ?_ ?_)|(with_reducible refine ag (fun h=> ?_) ?_)|(refine aq (p3.perm (fun nm=>by first|rfl|(simp only[ak,aB];done)|(simp only[ak,aB];(repeat' split)<;>first|rfl|omega))) ?_)
  change AW _ _ _ _ _
  refine aa ?_
  repeat' first|simp(disch:=omega) only[go_sem, *,wrap_i64]|((with_reducible refine ab ?_ ?_)<;>intro h<;>try omega)
  refine⟨3, [(nx,nx+6)],by omega,by omega, ?_⟩
  rw[show l++([o1,o2,o3].take 3).flatten=l++o1++o2++o3 by simp]
  refine bz (by simp(disch:=omega) [dm,hrk,hrn]) ?_ rfl (by simp;try omega) (by simp[qS];try omega)
  repeat' first|exact hF.wkA|refine bB ?_ ?_ ?_ ?_ ?_|(simp(disch:=omega) [dm,hrk,hrn]<;>omega)|omega
 ·rw[show l++([o1,o2,o3].take 3).flatten=l++o1++o2++o3 by simp]
  refine aa ?_
  repeat' first|simp(disch:=omega) only[go_sem, *,hal,dm,eG,hfn]|((with_reducible refine ab ?_ ?_)<;>intro h<;>try omega)
  refine⟨[], [], ?_⟩
  simp(disch:=omega) only[go_sem,bo,dm,eG]
  refine bz (by simp(disch:=omega) [dm]) ?_ rfl (by simp;try omega) (by simp[qS];try omega)
  repeat' first|exact hF.wkA|refine bB ?_ ?_ ?_ ?_ ?_|(simp(disch:=omega) [dm]<;>omega)|omega
theorem Gy {p:bK} {d:Nat} (hfp:j8 p) (e:Ex):xL p e→WB p d e:=by
 refine Ex.ind (p:=fun e=>xL p e→WB p d e) (fun e ih h=> ?_) e
 by_cases k3:e.op=3
 ·exact zN hfp h k3
 ·by_cases k11:e.op=11
  ·exact DR h k11 fun a ha=>ih a ha (ii h ha)
  ·exact Ad h k3 k11 fun a ha=>ih a ha (ii h ha)
set_option maxRecDepth 1000000
theorem Ce {p:bK} (hf:j8 p) (h64:sd p) (hal:(c7 p).2=0→R9 p):ac Tryz.prog o4 [fK p] (d8 a6 (Uf p)):=by
 refine ac.of CT (by simp) fun hb=>aa ?_
 conv in wc=>cbv
 have pv:=mL hf h64
 by_cases h0:(c7 p).2=0
 ·have h:=hal h0
  have hdl:=h.1
  rw[Uf,if_neg (not_not_intro h0)]
  rw[h0]at pv
  clear hal h0
  repeat' first|simp(disch:=omega) only[go_sem, *]|((with_reducible refine ab ?_ ?_)<;>intro h<;>try omega)|(refine av pv rfl rfl ?_)
  refine dv 3 79 6 rfl (by decide) ?_
  refine aj (fun k:Nat=>⟨[(1,.c (.ptr 0 0)),(3,.c (.ref 1)),(6,I k)], [(1,.arr 79 6 ((lk p k).map a6)),(0,d6 p)],2,0⟩) (fun k=>k≤p.defs.length) (fun k=>p.defs.length-k) ⟨0, [],by omega,by simp[lk]⟩ ?_
  clear pv
  intro k hk
  refine aa ?_
  by_cases hlt:k<p.defs.length
  ·have hd:=h.2 _ (List.getElem_mem hlt)
   have hL:=ER h k
   have pe:=Gy (d:=k) hf p.defs[k].body hd.1 [] ((lk p k).map a6) [] 1 2 [(0,d6 p)] (by have:=hd.2;simp;omega) (by simp;omega) (by have:=hd.2;simp;omega) (by omega) ⟨by omega,rfl,by simp[jo],trivial⟩
   have hrw:=If p p.defs[k] k
   have hs:=As hlt
   have e0:((lk p k).map a6)++ji k []=(lk p k).map a6:=List.append_nil _
   have e1:((lk p k).map a6)++ji k ([]++ns p p.defs[k].body [])=(lk p (k+1)).map a6:=by rw[List.nil_append,←hrw,hs,List.map_append]
   rw[JJ,JJ,e0,e1,List.length_map]at pe
   have pc:=am.nil4 pe
   have g1:=ae (f:=cr) hlt
   clear pe hrw hs e0 e1 hd
   repeat' first|simp(disch:=omega) only[go_sem, *,g1,cr,wrap_i64]|((with_reducible refine ab ?_ ?_)<;>intro h<;>try omega)|(with_reducible refine af ?_ ?_)|(with_reducible refine ag (fun h=> ?_) ?_)|(refine aq (pc.perm (fun nm=>by first|rfl|(simp only[ak,aB];done)|(simp only[ak,aB];(repeat' split)<;>first|rfl|omega))) ?_)
   exact⟨k+1, [(1,2)],by omega,by omega,by simp⟩
  ·obtain rfl:k=p.defs.length:=by omega
   rw[show lk p p.defs.length=vG p by unfold lk vG;rw[List.take_of_length_le (Nat.le_refl _)]]
   repeat' first|simp(disch:=omega) only[go_sem, *]|((with_reducible refine ab ?_ ?_)<;>intro h<;>try omega)
   all_goals rfl
 ·rw[Uf,if_pos h0]
  clear hal
  repeat' first|simp(disch:=omega) only[go_sem, *,h0]|((with_reducible refine ab ?_ ?_)<;>intro h<;>try omega)|(refine av pv rfl rfl ?_)
  all_goals rfl
end Go.Proofs.YthkaaahphlneiaaGreatDoor
