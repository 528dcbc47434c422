import Derived.Test.YtiapgekjmcjjgaaGreatDoorV18g
set_option maxHeartbeats 4000000
set_option linter.unusedVariables false
set_option linter.unusedSimpArgs false
set_option maxRecDepth 1000000
open Go.Proofs.Tryz renaming prog→Ya
namespace Go.Proofs.YtiapgekjmcjjgaaGreatDoor
open Go.Abs Go.RowKit
theorem m6 (e:Ex):iZ e→e.sz≤20000→ac Ya 140 [fE e] (Vf (dU e)):=by
 refine Ex.ind (p:= λe=>iZ e→e.sz≤20000→ac Ya 140 [fE e] (Vf (dU e))) (λe ih h hs=> ?_) e
 refine ac.of yh (by simp) λhb=>aa ?_
 clear hb
 have ha:=(dP h.1).1
 rw[EP]
 conv in bh _ _=>cbv
 by_cases k2:e.op=2
 ·rw[show ky e.op e.val e.ty e.lin (e.args.map dU)=(e.lin,true) by simp[ky,k2]]
  clear ih ha h
  repeat' first|simp(disch:=omega)only[go_sem, *,k2]|apply ab<;>intro h<;>try omega|apply af|(with_reducible refine ag (λh=> ?_) ?_)
  all_goals rfl
 by_cases k1:e.op=1
 ·rw[show ky e.op e.val e.ty e.lin (e.args.map dU)=((e.val.1, []),decide (e.ty.1=3)) by simp[ky,k1]]
  have pc:=oZ e.val.1
  clear ih ha h k2
  repeat' first|simp(disch:=omega)only[go_sem, *,k1]|apply ab<;>intro h<;>try omega|apply af|(with_reducible refine ag (λh=> ?_) ?_)|refine aW pc rfl rfl ?_
  all_goals rfl
 by_cases k8:e.op=8
 ·rw[k8]at ha
  obtain⟨a,g⟩:=KA (l:=e.args) ha
  have hm:a∈e.args:=by rw[g];exact List.mem_cons_self
  have hN:ky e.op e.val e.ty e.lin (e.args.map dU)=((bM (dU a).1 (-1)).1,(dU a).2&&decide ((bM (dU a).1 (-1)).2=0)):=by rw[g,k8];simp[ky]
  rw[hN]
  have pa:=ih a hm (aV h hm) (by have:=cQ hm;omega)
  obtain⟨q1,q2,_⟩:=fY (uF a (aV h hm)) (by have:=cQ hm;omega)
  have hg:(e.args.map Ex.row)[0]? =some a.row:=by rw[g];rfl
  have hl:e.args.length=1:=by rw[g];rfl
  clear ih ha h k2 k1 hN hm g hs
  generalize dU a=r at*
  obtain⟨⟨K,l⟩,b⟩:=r
  have ps:=ki (a:=(K,l)) (b:= -1) q1 (by decide) q2
  clear q1 q2
  simp only at ps ⊢
  generalize bM (K,l) (-1)=s at*
  obtain⟨⟨K',l'⟩,er⟩:=s
  try simp only at ps
  cases b
  all_goals
   repeat' first|simp(disch:=omega)only[go_sem, *,k8,hl,hg,Ex.row_eq,Int.toNat_zero]|apply ab<;>intro h<;>try omega|apply af|(with_reducible refine ag (λh=> ?_) ?_)|refine aW pa rfl rfl ?_|refine aW ps rfl rfl ?_
   all_goals rfl
 by_cases k45:e.op=4∨e.op=5
 ·have E:(e.args.length:Int)=2:=by rw[ha];unfold iW;rcases k45 with k|k<;>rw[k]<;>rfl
  obtain⟨a,b,g⟩:=Di E
  have hm:a∈e.args:=by rw[g];exact List.mem_cons_self
  have v:b∈e.args:=by rw[g];exact List.mem_cons_of_mem _ List.mem_cons_self
  have pa:=ih a hm (aV h hm) (by have:=cQ hm;omega)
  have pb:=ih b v (aV h v) (by have:=cQ v;omega)
  obtain⟨q1,q2,q3⟩:=fY (uF a (aV h hm)) (by have:=cQ hm;omega)
  obtain⟨r1,r2,r3⟩:=fY (uF b (aV h v)) (by have:=cQ v;omega)
  have hg:(e.args.map Ex.row)[0]? =some a.row:=by rw[g];rfl
  have A:(e.args.map Ex.row)[1]? =some b.row:=by rw[g];rfl
  have hl:e.args.length=2:=by rw[g];rfl
  rcases k45 with k|k
  ·have hN:ky e.op e.val e.ty e.lin (e.args.map dU)=((fj (dU a).1 (dU b).1).1,(dU a).2&&(dU b).2&&true&&decide ((fj (dU a).1 (dU b).1).2=0)):=by rw[g,k];simp[ky]
   rw[hN]
   clear ih ha E h k2 k1 k8 hN hm v g hs
   generalize dU a=r at*
   obtain⟨⟨K,l⟩,x⟩:=r
   generalize dU b=r at*
   obtain⟨⟨K',l'⟩,y⟩:=r
   have ps:=jJ q1 r1 (by simp only at q3 r3 ⊢;omega)
   clear q1 q2 r1 r2 q3 r3
   simp only at ps ⊢
   generalize fj (K,l) (K',l')=s at*
   obtain⟨⟨K2,l2⟩,er⟩:=s
   try simp only at ps
   cases x<;>cases y
   all_goals
    repeat' first|simp(disch:=omega)only[go_sem, *,k,hl,hg,A,Ex.row_eq,Int.toNat_zero,Int.toNat_one]|apply ab<;>intro h<;>try omega|apply af|(with_reducible refine ag (λh=> ?_) ?_)|refine aW pa rfl rfl ?_|refine aW pb rfl rfl ?_|refine aW ps rfl rfl ?_
    all_goals rfl
  ·have hN:ky e.op e.val e.ty e.lin (e.args.map dU)=((fj (dU a).1 (bM (dU b).1 (-1)).1).1,(dU a).2&&(dU b).2&&decide ((bM (dU b).1 (-1)).2=0)&&decide ((fj (dU a).1 (bM (dU b).1 (-1)).1).2=0)):=by rw[g,k];simp[ky]
   rw[hN]
   clear ih ha E h k2 k1 k8 hN hm v g hs
   generalize dU a=r at*
   obtain⟨⟨K,l⟩,x⟩:=r
   generalize dU b=r at*
   obtain⟨⟨K',l'⟩,y⟩:=r
   have p1:=ki (a:=(K',l')) (b:= -1) r1 (by decide) r2
   have ps:=jJ q1 (ni (a:=(K',l'))) (by have:=gC (K',l') (-1);simp only at q3 r3 this ⊢;omega)
   clear q1 q2 r1 r2 q3 r3
   simp only at p1 ps ⊢
   generalize bM (K',l') (-1)=s at*
   obtain⟨⟨K3,l3⟩,e3⟩:=s
   simp only at p1 ps ⊢
   generalize fj (K,l) (K3,l3)=s at*
   obtain⟨⟨K2,l2⟩,er⟩:=s
   try simp only at ps
   cases x<;>cases y
   all_goals
    repeat' first|simp(disch:=omega)only[go_sem, *,k,hl,hg,A,Ex.row_eq,Int.toNat_zero,Int.toNat_one]|apply ab<;>intro h<;>try omega|apply af|(with_reducible refine ag (λh=> ?_) ?_)|refine aW pa rfl rfl ?_|refine aW pb rfl rfl ?_|refine aW p1 rfl rfl ?_|refine aW ps rfl rfl ?_
    all_goals first|rfl|(simp_all;done)|(simp;done)
 ·have hN:ky e.op e.val e.ty e.lin (e.args.map dU)=jn:=by
   unfold ky
   rw[if_neg k2,if_neg k1,if_neg k8,if_neg (λh=>k45 (.inr h)),if_neg (λh=>k45 (.inl h))]
  rw[hN]
  have k4: ¬e.op=4:= λh=>k45 (.inl h)
  have k5: ¬e.op=5:= λh=>k45 (.inr h)
  clear ih ha h hN k45
  repeat' first|simp(disch:=omega)only[go_sem, *,k2,k1,k8,k4,k5]|apply ab<;>intro h<;>try omega|apply af|(with_reducible refine ag (λh=> ?_) ?_)
  all_goals rfl
theorem oV (e:Ex):iZ e→e.sz≤20000→ac Ya 96 [fE e] (Ve (bE e)):=by
 refine Ex.ind (p:= λe=>iZ e→e.sz≤20000→ac Ya 96 [fE e] (Ve (bE e))) (λe ih h hs=> ?_) e
 have ha:=(dP h.1).1
 by_cases k:13≤e.op∧e.op≤15
 ·have E:(e.args.length:Int)=2:=by
   rw[ha]
   have:e.op=13∨e.op=14∨e.op=15:=by omega
   rcases this with k|k|k<;>rw[k]<;>rfl
  obtain⟨a,b,g⟩:=Di E
  have hm:a∈e.args:=by rw[g];exact List.mem_cons_self
  have v:b∈e.args:=by rw[g];exact List.mem_cons_of_mem _ List.mem_cons_self
  have pa:=m6 a (aV h hm) (by have:=cQ hm;omega)
  have pb:=m6 b (aV h v) (by have:=cQ v;omega)
  obtain⟨q1,q2,q3⟩:=fY (uF a (aV h hm)) (by have:=cQ hm;omega)
  obtain⟨r1,r2,r3⟩:=fY (uF b (aV h v)) (by have:=cQ v;omega)
  obtain⟨sa1,sa2⟩:=RZ a
  obtain⟨sb1,sb2⟩:=RZ b
  have hF:bE e=if(dU a).2=true∧(dU b).2=true then Tg (oP e.op (dU a).1 (dU b).1) (decide (e.op=15))else([],false):=by
   rw[IT k g,sa1,sb1]
   by_cases hh:(dU a).2=true∧(dU b).2=true
   ·rw[if_pos hh,if_pos hh,sa2 (sa1.trans hh.1),sb2 (sb1.trans hh.2)]
   ·rw[if_neg hh,if_neg hh]
  have hg:(e.args.map Ex.row)[0]? =some a.row:=by rw[g];rfl
  have A:(e.args.map Ex.row)[1]? =some b.row:=by rw[g];rfl
  have hl:e.args.length=2:=by rw[g];rfl
  have hd:e.op=13∨e.op=14∨e.op=15:=by omega
  rw[hF]
  clear ih ha E h hs hm v g sa1 sa2 sb1 sb2 hF k
  generalize dU a=r at*
  obtain⟨⟨K,l⟩,x⟩:=r
  generalize dU b=r at*
  obtain⟨⟨K',l'⟩,y⟩:=r
  by_cases J:x=true∧y=true
  ·obtain⟨rfl,rfl⟩:=J
   rw[if_pos ⟨rfl,rfl⟩]
   have p0:=ig (k:=0) (.inl rfl) q1 r1 q3 r3
   have p1:=ig (k:= -1) (.inr rfl) q1 r1 q3 r3
   rw[if_pos rfl]at p0
   rw[if_neg (by decide)]at p1
   clear q1 q2 r1 r2 q3 r3
   unfold Tg
   simp only at p0 p1 ⊢
   rcases hd with hd|hd|hd
   ·rw[show oP e.op (K,l) (K',l')=d5 (K,l) (K',l') by rw[oP,if_pos hd]]
    generalize d5 (K,l) (K',l')=s at*
    obtain⟨⟨K2,l2⟩,er⟩:=s
    clear p0
    by_cases h0:er=0
    ·subst h0
     rw[if_pos rfl]
     refine ac.of dc (by simp) λhb=>aa ?_
     simp only[df]
     repeat' first|simp(disch:=omega)only[go_sem, *,hd,hl,hg,A,Ex.row_eq,Int.toNat_zero,Int.toNat_one]|apply ab<;>intro h<;>try omega|apply af|(with_reducible refine ag (λh=> ?_) ?_)|refine aW pa rfl rfl ?_|refine aW pb rfl rfl ?_|refine aW p1 rfl rfl ?_
     all_goals rfl
    ·rw[if_neg h0]
     refine ac.of dc (by simp) λhb=>aa ?_
     simp only[df]
     repeat' first|simp(disch:=omega)only[go_sem, *,h0,hd,hl,hg,A,Ex.row_eq,Int.toNat_zero,Int.toNat_one]|apply ab<;>intro h<;>try omega|apply af|(with_reducible refine ag (λh=> ?_) ?_)|refine aW pa rfl rfl ?_|refine aW pb rfl rfl ?_|refine aW p1 rfl rfl ?_
     all_goals rfl
   all_goals
    rw[show oP e.op (K,l) (K',l')=i0 (K,l) (K',l') by rw[oP,if_neg (by omega)]]
    generalize i0 (K,l) (K',l')=s at*
    obtain⟨⟨K2,l2⟩,er⟩:=s
    clear p1
    by_cases h0:er=0
    ·subst h0
     rw[if_pos rfl]
     refine ac.of dc (by simp) λhb=>aa ?_
     simp only[df]
     repeat' first|simp(disch:=omega)only[go_sem, *,hd,hl,hg,A,Ex.row_eq,Int.toNat_zero,Int.toNat_one]|apply ab<;>intro h<;>try omega|apply af|(with_reducible refine ag (λh=> ?_) ?_)|refine aW pa rfl rfl ?_|refine aW pb rfl rfl ?_|refine aW p0 rfl rfl ?_
     all_goals rfl
    ·rw[if_neg h0]
     refine ac.of dc (by simp) λhb=>aa ?_
     simp only[df]
     repeat' first|simp(disch:=omega)only[go_sem, *,h0,hd,hl,hg,A,Ex.row_eq,Int.toNat_zero,Int.toNat_one]|apply ab<;>intro h<;>try omega|apply af|(with_reducible refine ag (λh=> ?_) ?_)|refine aW pa rfl rfl ?_|refine aW pb rfl rfl ?_|refine aW p0 rfl rfl ?_
     all_goals rfl
  ·rw[if_neg J]
   clear q1 q2 r1 r2 q3 r3
   refine ac.of dc (by simp) λhb=>aa ?_
   simp only[df]
   rcases hd with hd|hd|hd
   all_goals
    cases x<;>cases y
    all_goals first
     |(exact absurd ⟨rfl,rfl⟩ J;done)
     |skip
    all_goals
     clear J
     repeat' first|simp(disch:=omega)only[go_sem, *,hd,hl,hg,A,Ex.row_eq,Int.toNat_zero,Int.toNat_one]|apply ab<;>intro h<;>try omega|apply af|(with_reducible refine ag (λh=> ?_) ?_)|refine aW pa rfl rfl ?_|refine aW pb rfl rfl ?_
    all_goals rfl
 by_cases k16:e.op=16
 ·have E:(e.args.length:Int)=2:=by rw[ha,k16];rfl
  obtain⟨a,b,g⟩:=Di E
  rw[F3 k16 g]
  have hm:a∈e.args:=by rw[g];exact List.mem_cons_self
  have v:b∈e.args:=by rw[g];exact List.mem_cons_of_mem _ List.mem_cons_self
  have pa:=ih a hm (aV h hm) (by have:=cQ hm;omega)
  have pb:=ih b v (aV h v) (by have:=cQ v;omega)
  have q1:=(kf a (aV h hm)).1
  have q2:=(kf b (aV h v)).1
  have s1:=cQ hm
  have s2:=cQ v
  have hg:(e.args.map Ex.row)[0]? =some a.row:=by rw[g];rfl
  have A:(e.args.map Ex.row)[1]? =some b.row:=by rw[g];rfl
  have hl:e.args.length=2:=by rw[g];rfl
  clear ih ha E h k hm v g
  have l1:(bE a).1.length≤20000:=by omega
  have l2:(bE b).1.length≤20000:=by omega
  clear q1 q2 s1 s2 hs
  generalize bE a=r at*
  obtain⟨x,y⟩:=r
  generalize bE b=r at*
  obtain⟨x',y'⟩:=r
  have ok':aK 3 (x'.map cP):=ar λ_=>rfl
  have ok:aK 3 (x.map cP):=ar λ_=>rfl
  simp only at l1 l2 pa pb ⊢
  rw[show Ve (x++x',y&&y')= .tup [.c (.pure (.slice (x.map cP++x'.map cP))),Go.Abs.B (y&&y')] by show AV.tup [.c (.pure (.slice (List.map cP (_++_)))),_]=_;rw[List.map_append]]
  refine ac.of dc (by simp) λhb=>aa ?_
  simp only[df]
  cases y
  all_goals
   repeat' first|simp(disch:=omega)only[go_sem, *,k16,hl,hg,A,Ex.row_eq,Int.toNat_zero,Int.toNat_one]|apply ab<;>intro h<;>try omega|apply af|(with_reducible refine ag (λh=> ?_) ?_)|refine aW pa rfl rfl ?_|refine aW pb rfl rfl ?_|refine ia ok (by simp only[List.length_map];omega) (by simp only[List.length_map];omega) ?_|refine aA rfl (by intro h;cases h) ok' (by simp only[List.length_map];omega) (by simp only[List.length_map];omega) ?_
  all_goals rfl
 by_cases k18:e.op=18
 ·have E:(e.args.length:Int)=1:=by rw[ha,k18];rfl
  obtain⟨a,g⟩:=KA E
  rw[vt k18 g]
  have hm:a∈e.args:=by rw[g];exact List.mem_cons_self
  have pa:=ih a hm (aV h hm) (by have:=cQ hm;omega)
  have q1:=kf a (aV h hm)
  have s1:=cQ hm
  have hg:(e.args.map Ex.row)[0]? =some a.row:=by rw[g];rfl
  have hl:e.args.length=1:=by rw[g];rfl
  clear ih ha E h k k16 hm g
  have hq:Qn 20000 (bE a).1:=IU q1 (by omega)
  clear q1 s1 hs
  generalize bE a=r at*
  obtain⟨x,y⟩:=r
  simp only at pa hq ⊢
  by_cases J:x.length=1∧y=true
  ·obtain⟨hx,rfl⟩:=J
   obtain⟨c,rfl⟩: ∃c,x= [c]:=by match x,hx with| [c],_=>exact⟨c,rfl⟩
   obtain⟨hH,z⟩:=hq.2 c List.mem_cons_self
   have he:short c.1.2:=by unfold short;omega
   have pn:=nv hH he
   rw[show uX ([c],true)=if(eT c).2=0∧(eT c).1.length=1 then((eT c).1,true)else([],false)from rfl]
   clear hH z hq he
   generalize eT c=X at*
   obtain⟨xs,er⟩:=X
   try simp only at pn pa ⊢
   by_cases hn:er=0∧xs.length=1
   ·rw[if_pos hn]
    obtain⟨rfl,h8⟩:=hn
    refine ac.of dc (by simp) λhb=>aa ?_
    simp only[df]
    repeat' first|simp(disch:=omega)only[go_sem, *,k18,hl,hg,Ex.row_eq,Int.toNat_zero,cP,h8]|apply ab<;>intro h<;>try omega|apply af|(with_reducible refine ag (λh=> ?_) ?_)|refine aW pa rfl rfl ?_|refine aW pn rfl rfl ?_
    all_goals rfl
   ·rw[if_neg hn]
    have h9:er≠0∨(er=0∧ ¬((xs.length:Nat):Int)=1):=by
     by_cases h:er=0
     ·exact .inr ⟨h,λh1=>hn ⟨h,by omega⟩⟩
     ·exact .inl h
    clear hn
    refine ac.of dc (by simp) λhb=>aa ?_
    simp only[df]
    rcases h9 with h1|⟨rfl,h1⟩
    all_goals
     repeat' first|simp(disch:=omega)only[go_sem, *,k18,hl,hg,Ex.row_eq,Int.toNat_zero,cP,h1]|apply ab<;>intro h<;>try omega|apply af|(with_reducible refine ag (λh=> ?_) ?_)|refine aW pa rfl rfl ?_|refine aW pn rfl rfl ?_
    all_goals rfl
  ·rw[show uX (x,y)=(([],false):CB)from Ll J]
   have hy:y=false∨(y=true∧ ¬((x.length:Nat):Int)=1):=by
    cases y
    ·exact .inl rfl
    ·exact .inr ⟨rfl,λh1=>J ⟨by omega,rfl⟩⟩
   clear J hq
   refine ac.of dc (by simp) λhb=>aa ?_
   simp only[df]
   rcases hy with rfl|⟨rfl,h1⟩
   ·repeat' first|simp(disch:=omega)only[go_sem, *,k18,hl,hg,Ex.row_eq,Int.toNat_zero]|apply ab<;>intro h<;>try omega|apply af|(with_reducible refine ag (λh=> ?_) ?_)|refine aW pa rfl rfl ?_
    all_goals rfl
   ·repeat' first|simp(disch:=omega)only[go_sem, *,k18,hl,hg,Ex.row_eq,Int.toNat_zero,h1]|apply ab<;>intro h<;>try omega|apply af|(with_reducible refine ag (λh=> ?_) ?_)|refine aW pa rfl rfl ?_
    all_goals rfl
 ·rw[K9 k k16 k18]
  have d1: ¬e.op=13:=by omega
  have d2: ¬e.op=14:=by omega
  have d3: ¬e.op=15:=by omega
  clear ih ha h k
  refine ac.of dc (by simp) λhb=>aa ?_
  simp only[df]
  repeat' first|simp(disch:=omega)only[go_sem, *,d1,d2,d3,k16,k18]|apply ab<;>intro h<;>try omega|apply af|(with_reducible refine ag (λh=> ?_) ?_)
  all_goals rfl
theorem rf {f x:bW} (hf:bl f) (hx:bl x) (lf:f.2.length≤40000000) (lx:x.2.length≤40000000):ac Ya 95 [da f.1 f.2,da x.1 x.2] (bB (d7 f x)):=by
 have p1:=ig (k:= -1) (.inr rfl) hf hx lf lx
 rw[if_neg (by decide)]at p1
 refine ac.of Co (by simp) λhb=>aa ?_
 conv in bh _ _=>cbv
 unfold d7
 obtain⟨K,L⟩:=f
 obtain⟨K2,L2⟩:=x
 clear hf hx lf lx
 simp only at p1 ⊢
 generalize d5 (K,L) (K2,L2)=s at*
 obtain⟨⟨K3,L3⟩,er⟩:=s
 by_cases h0:er=0
 ·subst h0
  rw[if_pos rfl]
  repeat' first|simp(disch:=omega)only[go_sem, *]|apply ab<;>intro h<;>try omega|apply af|(with_reducible refine ag (λh=> ?_) ?_)|refine aW p1 rfl rfl ?_
  all_goals rfl
 ·rw[if_neg h0]
  repeat' first|simp(disch:=omega)only[go_sem, *,h0]|apply ab<;>intro h<;>try omega|apply af|(with_reducible refine ag (λh=> ?_) ?_)|refine aW p1 rfl rfl ?_
  all_goals rfl
set_option maxRecDepth 20000
abbrev ER (R:List (List PC)) (d:Nat) (l:List Ob):bk:= .arr 81 6 (R++iU d l)
theorem wM {N N' a r r':Nat} {b:bk} {F:List (Nat×bk)} (h:Go.Abs.dq N [r] F) (ha:N≤a) (HA:a<N') (hb:pu b=true) (hr:r'=r∨N≤r') (HG:a≠r'):Go.Abs.dq N' [r'] ((a,b)::F):=by
 refine⟨HA,hb,dB.2 λm hm=> ?_,h.mono (by omega) λn hn h'=>dB.2 λm hm=> ?_⟩
 ·simp only[List.mem_cons,List.not_mem_nil,or_false]at hm
  omega
 ·have h2:=dB.1 h' r (by simp)
  simp only[List.mem_cons,List.not_mem_nil,or_false]at hm
  omega
abbrev VY (a:Ex):bk:= .var [.pure (pI 18),.pure (pS ⟨⟨[]⟩⟩),.pure (pI 0),.pure (pI 0),.pure (pI 0),.pure (pI 0),.pure (pI 0),.pure (pI 0),.pure (pI 0),.pure (pI 0),.nils,.nils,.tsl [[pI a.op,pS a.name,pI a.val.1,pI a.val.2,pI a.ty.1,pI a.ty.2.1,pI a.ty.2.2.1,pI a.ty.2.2.2.1,pI a.ty.2.2.2.2,pI a.lin.1,ay a.lin.2,dp eR a.idx,.slice (a.args.map Ex.row)]]]
def Sq (p:bG) (d:Nat) (e:Ex):Prop:= ∀(cs:List aU) (R:List (List PC)) (l:List Ob) (r nx:Nat) (F:List (Nat×bk)),cs.length+e.sz≤20000→R.length≤2000000000→l.length+72*e.sz≤100000000→r<nx→Go.Abs.dq nx [r] F→
  aw Ya 50 [gy p,I d,fE e,bB cs,.c (.ref r),I R.length] ((r,ER R d l)::F) nx (fm [.c (.ref nx)]) ((nx,ER R d (l++jo p e cs))::F) (nx+1)
theorem w9 {p:bG} {d:Nat} {e:Ex} (h:uk p e) (k3:e.op≠3) (k11:e.op≠11) (IH: ∀a∈e.args,Sq p d a):Sq p d e:=by
 intro cs R l r nx F hU hR hl j hF
 have hz:=Ex.sz_eq e
 have w:=Ex.szs_len e.args
 have O:jo p e cs=m8 p e.args cs:=by rw[lU,if_neg k3,if_neg k11,List.nil_append]
 rw[O]
 clear O
 have o: ∀n,nx≤n→al F n=none:= λn h=>lj hF h
 have W:aK 3 (cs.map cP):=ar λ_=>rfl
 refine aw.ofZ (ress:= [.c (.ref nx)]) lS (by simp) λ_=>aa ?_
 simp only[jL]
 repeat' first|simp(disch:=omega)only[go_sem, *,aF,aN,k3,o]|apply ab<;>intro h<;>try omega
 refine ai (λk:Nat=>⟨[(1,I d),(3,bB cs),(4,.c (.ref nx)),(5,I R.length),(6,.c (.ptr (nx+1) 0)),(8,.c (.ptr (nx+2) 0)),(23,I k)],(nx,ER R d (l++m8 p (e.args.take k) cs))::(nx+1,eJ p)::(nx+2,RT e)::F,nx+3,nx⟩) (λk=>k≤e.args.length) (λk=>e.args.length-k) ⟨0, [(nx,r),(nx+1,nx),(nx+2,nx+1)],by omega, ?_⟩ ?_
 ·simp only[List.take_zero,m8,List.append_nil]
  refine au (by simp(disch:=omega) [aF]) ?_ rfl (by simp;try omega) (by simp[eg];try omega)
  repeat' first|exact hF.wkA|refine av ?_ ?_ ?_ ?_ ?_|(simp(disch:=omega) [aF]<;>omega)|omega
 intro k hk
 refine aa ?_
 by_cases D:k<e.args.length
 ·have hm:=List.getElem_mem D
  have HB:=gY h hm
  have HI:=cQ hm
  have z: ∀l:List Ex,(∀a∈l,iy a)→(m8 p l cs).length≤72*Ex.szs l:=by
   intro l
   induction l with
   |nil=>intro _;simp[m8]
   |cons a s ih=>
    intro hh
    have:=tz p a (hh a List.mem_cons_self) cs
    have:=ih λb hb=>hh b (List.mem_cons_of_mem _ hb)
    simp only[m8,List.length_append,Ex.szs]
    omega
  have h1:=z (e.args.take k) λa ha=>il h.1.1 (List.mem_of_mem_take ha)
  have h2:Ex.szs (e.args.take k)+e.args[k].sz≤Ex.szs e.args:=by
   have a1:=Ex.szs_take D
   have a2:Ex.szs (e.args.take (k+1))≤Ex.szs e.args:=by
    conv=>rhs;rw[←List.take_append_drop (k+1) e.args,Ex.szs_append]
    omega
   omega
  have pe:=IH _ hm cs R (l++m8 p (e.args.take k) cs) nx (nx+3) ((nx+2,RT e)::(nx+1,eJ p)::F) (by omega) hR (by simp only[List.length_append];omega) (by omega) (wM (N:=nx+2) (r:=nx) (wM (N':=nx+2) (r':=nx) hF (by omega) (by omega) rfl (.inr (Nat.le_refl _)) (by omega)) (by omega) (by omega) rfl (.inl rfl) (by omega))
  rw[List.append_assoc,←Ge p cs D]at pe
  have g1:=ah (f:=Ex.row) D
  rw[Ex.row_eq]at g1
  clear IH h HB z h1 h2 hm
  repeat' first|simp(disch:=omega)only[go_sem, *,g1,k11,aF,aN,o,wrap_i64]|apply ab<;>intro h<;>try omega|apply af|(with_reducible refine ag (λh=> ?_) ?_)|refine vq W (by simp only[List.length_map];omega) (by simp only[List.length_map];omega) ?_|refine ap (pe.perm (λnm=>by first|rfl|(simp only[al,aj];done)|(simp only[al,aj];(repeat' split)<;>first|rfl|omega))) ?_
  refine⟨k+1, [(nx,nx+3)],by omega,by omega, ?_⟩
  refine au (by simp(disch:=omega) [aF]) ?_ rfl (by simp;try omega) (by simp[eg];try omega)
  repeat' first|exact hF.wkA|refine av ?_ ?_ ?_ ?_ ?_|(simp(disch:=omega) [aF]<;>omega)|omega
 ·obtain rfl:k=e.args.length:=by omega
  rw[List.take_of_length_le (by omega)]
  repeat' first|simp(disch:=omega)only[go_sem, *,aF,aN]|apply ab<;>intro h<;>try omega
  refine⟨[], [], ?_⟩
  simp(disch:=omega)only[go_sem,aQ,aF,aN]
  refine au (by simp(disch:=omega) [aF]) ?_ rfl (by simp;try omega) (by simp[eg];try omega)
  repeat' first|exact hF.wkA|refine av ?_ ?_ ?_ ?_ ?_|(simp(disch:=omega) [aF]<;>omega)|omega
theorem w7 {p:bG} {d:Nat} {e:Ex} (hI:iR p) (h:uk p e) (k3:e.op=3):Sq p d e:=by
 intro cs R l r nx F hU hR hl j hF
 obtain⟨hV,_,_,HK,Y⟩:=dP h.1.1
 obtain⟨t,ds,hJ,z,hW,hX⟩:=h.2 e (jh e) k3
 have hz:=Ex.sz_pos e
 have o: ∀n,nx≤n→al F n=none:= λn h=>lj hF h
 rw[k3]at hV
 have g:e.args= []:=List.eq_nil_of_length_eq_zero (by have:((e.args.length:Nat):Int)=0:=hV;omega)
 have O:jo p e cs=oJ cs ((e.idx.zip ds).flatMap λq=>u0 p q.1 q.2):=by
  rw[lU,if_pos k3,if_neg (by omega),g,m8,List.append_nil,vd,nE,hJ]
  rfl
 rw[O]
 have hj:((e.idx.zip ds).flatMap λq=>u0 p q.1 q.2).length≤72:=by
  have:=yY (f:= λq:Ix×bW=>u0 p q.1 q.2) (n:=12) (l:=e.idx.zip ds) λx hx=>yR (Y _ (List.of_mem_zip hx).1)
  have h3:(e.idx.zip ds).length≤e.idx.length:=by simp;omega
  omega
 clear O hV g
 have pf:=gr hI e.name
 rw[hJ]at pf
 have G:= λl hl=>((h.1.2 e (jh e)).2 l hl:bl l∧l.2.length≤1000)
 have Q:ds.length=e.idx.length:=z.symm
 have u: ∀k,r<nx+k:= λk=>by omega
 have Z:lz F (nx+2)=F:=hF.del (.inr (by omega))
 refine aw.ofZ (ress:= [.c (.ref nx)]) lS (by simp) λ_=>aa ?_
 simp only[jL]
 repeat' first|simp(disch:=omega)only[go_sem, *,aF,aN,o,k3]|apply ab<;>intro h<;>try omega|refine aW pf rfl rfl ?_
 refine dv 16 64 3 rfl (by decide) ?_
 have P: ∀(f x:bW),aK 3 ((d7 f x).map cP):= λf x=>ar λ_=>rfl
 refine ai (λi:Nat=>⟨[(1,I d),(3,bB cs),(4,.c (.ref r)),(5,I R.length),(6,.c (.ptr nx 0)),(8,.c (.ptr (nx+1) 0)),(14,j6 ds),(16,.c (.ref (nx+2))),(17,I i)],(nx+2,.arr 64 3 ((((e.idx.zip ds).take i).flatMap λq=>u0 p q.1 q.2).map cP))::(nx,eJ p)::(nx+1,Nl 3 e)::(r,ER R d l)::F,nx+3,nx⟩) (λi=>i≤e.idx.length) (λi=>e.idx.length-i) ⟨0, [(nx+2,nx+3)],by omega, ?_⟩ ?_
 ·simp only[List.take_zero,List.flatMap_nil,List.map_nil]
  refine au (by simp(disch:=omega) [aF,u,j]) ?_ rfl (by simp;try omega) (by simp[eg];try omega)
  repeat' first|exact hF.wkA|refine av ?_ ?_ ?_ ?_ ?_|(simp(disch:=omega) [aF,u,j]<;>omega)|omega
 intro i hi
 refine aa ?_
 clear pf
 by_cases D:i<e.idx.length
 ·have hA:i<ds.length:=by omega
  have hm:=List.getElem_mem D
  have g1:=ah (f:=eR) D
  have g2:=ah (f:=b9) hA
  have gd:=hW _ (List.getElem_mem hA)
  have hK:=hX _ hm
  have T:=G _ (List.mem_cons_of_mem _ (List.mem_flatMap.2 ⟨e.idx[i],hm,List.mem_cons_self⟩))
  have hB: ∀l∈e.idx[i].2.2,bl l∧l.2.length≤1000:= λl hl=>G _ (List.mem_cons_of_mem _ (List.mem_flatMap.2 ⟨e.idx[i],hm,List.mem_cons_of_mem _ hl⟩))
  have h6:=Y _ hm
  have H:=vi (f:= λq:Ix×bW=>u0 p q.1 q.2) D hA
  have HM:(((e.idx.zip ds).take i).flatMap λq=>u0 p q.1 q.2).length≤60:=by
   have:=yY (f:= λq:Ix×bW=>u0 p q.1 q.2) (n:=12) (l:=(e.idx.zip ds).take i) λx hx=>yR (Y _ (List.of_mem_zip (List.mem_of_mem_take hx)).1)
   have h3:((e.idx.zip ds).take i).length≤i:=by simp;omega
   omega
  clear hX G hW Y h hm hJ hj
  obtain⟨R1,hY⟩: ∃R1,R1=((e.idx.zip ds).take (i+1)).flatMap (λq=>u0 p q.1 q.2):=⟨_,rfl⟩
  rw[←hY]at H
  have HR1:=Lib.hid hY
  clear hY
  generalize ((e.idx.zip ds).take i).flatMap (λq=>u0 p q.1 q.2)=R0 at*
  generalize ds[i]=dl at*
  generalize e.idx[i]=x at*
  obtain⟨⟨K,L⟩,s,at'⟩:=x
  obtain⟨K2,L2⟩:=dl
  simp only[eR,b9]at g1 g2 T gd hK hB h6 H
  by_cases hs:s=⟨⟨[]⟩⟩
  ·subst hs
   rw[u0,if_pos rfl]at H
   have pn:=rf (f:=(K,L)) (x:=(K2,L2)) T.1 gd.1 (by have:=T.2;simp only at this ⊢;omega) (by have:=gd.2;simp only at this ⊢;omega)
   have ok1:=P (K,L) (K2,L2)
   have HC:((d7 (K,L) (K2,L2)).map cP).length=2:=rfl
   have hQ:R0.map cP++(d7 (K,L) (K2,L2)).map cP=R1.map cP:=by rw[H,List.map_append]
   have HT:=Lib.hid hQ
   clear H hQ hK T hB gd z P
   simp only at pn
   generalize d7 (K,L) (K2,L2)=nd at*
   repeat' first|simp(disch:=omega)only[go_sem, *,g1,g2,Q,aF,aN,o,wrap_i64]|apply ab<;>intro h<;>try omega|apply af|(with_reducible refine ag (λh=> ?_) ?_)|refine aW pn rfl rfl ?_|refine aA (by simp(disch:=omega)only[al,aj,aF,eq_self,↓reduceIte,Option.map_some]<;>rfl) (by intro h;cases h) ok1 (by simp only[List.length_map]at*;omega) (by simp only[List.length_map]at*;omega) ?_
   rw[HT.out]
   try rw[Z]
   refine⟨i+1, [(nx+2,nx+3)],by omega,by omega, ?_⟩
   rw[←HR1.out]
   refine au (by simp(disch:=omega) [aF,u,j]) ?_ rfl (by simp;try omega) (by simp[eg];try omega)
   repeat' first|exact hF.wkA|refine av ?_ ?_ ?_ ?_ ?_|(simp(disch:=omega) [aF,u,j]<;>omega)|omega
  ·obtain⟨t',ds',hC,M,hD⟩:=hK hs
   have pf2:=gr hI s
   rw[hC]at pf2
   rw[u0,if_neg hs,nE,hC]at H
   clear hK T gd z g2 hC
   simp only at H M
   have hc:ds'.length=at'.length:=M.symm
   repeat' first|simp(disch:=omega)only[go_sem, *,g1,Q,aF,aN,o,hs]|apply ab<;>intro h<;>try omega|apply af|(with_reducible refine ag (λh=> ?_) ?_)|refine aW pf2 rfl rfl ?_
   refine ai (λk:Nat=>⟨[(1,I d),(3,bB cs),(4,.c (.ref r)),(5,I R.length),(6,.c (.ptr nx 0)),(8,.c (.ptr (nx+1) 0)),(14,j6 ds),(16,.c (.ref (nx+2))),(17,I i),(19,j6 ds'),(21,I k)],(nx+2,.arr 64 3 ((R0++((at'.zip ds').take k).flatMap λq=>d7 q.1 q.2).map cP))::(nx,eJ p)::(nx+1,Nl 3 e)::(r,ER R d l)::F,nx+3,nx⟩) (λk=>k≤at'.length) (λk=>at'.length-k) ⟨0, [],by omega, ?_⟩ ?_
   ·simp only[List.take_zero,List.flatMap_nil,List.append_nil]
    refine au (by simp(disch:=omega) [aF,u,j]) ?_ rfl (by simp;try omega) (by simp[eg];try omega)
    repeat' first|exact hF.wkA|refine av ?_ ?_ ?_ ?_ ?_|(simp(disch:=omega) [aF,u,j]<;>omega)|omega
   clear pf2
   intro k hk
   refine aa ?_
   by_cases V:k<at'.length
   ·have hE:k<ds'.length:=by omega
    have g3:=ah (f:=b9) V
    have g4:=ah (f:=b9) hE
    have b1:=hB _ (List.getElem_mem V)
    have b2:=hD _ (List.getElem_mem hE)
    have hS:=vi (f:= λq:bW×bW=>d7 q.1 q.2) V hE
    have hG:(((at'.zip ds').take k).flatMap λq=>d7 q.1 q.2).length≤12:=by
     rw[E7]
     have:((at'.zip ds').take k).length≤at'.length:=by simp;omega
     omega
    have pn:=rf (f:=at'[k]) (x:=ds'[k]) b1.1 b2.1 (by have:=b1.2;omega) (by have:=b2.2;omega)
    have ok1:=P at'[k] ds'[k]
    have HC:(d7 at'[k] ds'[k]).length=2:=rfl
    have HN:(R0++((at'.zip ds').take k).flatMap λq=>d7 q.1 q.2).length≤72:=by rw[List.length_append];omega
    have hT:(R0++((at'.zip ds').take k).flatMap λq=>d7 q.1 q.2).map cP++(d7 at'[k] ds'[k]).map cP=(R0++((at'.zip ds').take (k+1)).flatMap λq=>d7 q.1 q.2).map cP:=by rw[hS,←List.append_assoc,List.map_append (l₁:=R0++_)]
    have HT:=Lib.hid hT
    clear hS hT b1 b2 H hB hD M hG P
    simp only[b9]at g3 g4
    generalize d7 at'[k] ds'[k]=nd at*
    generalize (R0++((at'.zip ds').take k).flatMap λq=>d7 q.1 q.2)=R2 at*
    repeat' first|simp(disch:=omega)only[go_sem, *,g1,g3,g4,hc,aF,aN,o,wrap_i64]|apply ab<;>intro h<;>try omega|apply af|(with_reducible refine ag (λh=> ?_) ?_)|refine aW pn rfl rfl ?_|refine aA (by simp(disch:=omega)only[al,aj,aF,eq_self,↓reduceIte,Option.map_some]<;>rfl) (by intro h;cases h) ok1 (by simp only[List.length_map];omega) (by simp only[List.length_map];omega) ?_
    rw[HT.out]
    try rw[Z]
    refine⟨k+1, [(nx+2,nx+3)],by omega,by omega, ?_⟩
    refine au (by simp(disch:=omega) [aF,u,j]) ?_ rfl (by simp;try omega) (by simp[eg];try omega)
    repeat' first|exact hF.wkA|refine av ?_ ?_ ?_ ?_ ?_|(simp(disch:=omega) [aF,u,j]<;>omega)|omega
   ·obtain rfl:k=at'.length:=by omega
    rw[List.take_of_length_le (l:=at'.zip ds') (by simp;omega),←H]
    clear H hB hD M
    repeat' first|simp(disch:=omega)only[go_sem, *,g1,aF,aN,o,wrap_i64]|apply ab<;>intro h<;>try omega|apply af|(with_reducible refine ag (λh=> ?_) ?_)
    refine⟨i+1, [],by omega,by omega, ?_⟩
    rw[←HR1.out]
    refine au (by simp(disch:=omega) [aF,u,j]) ?_ rfl (by simp;try omega) (by simp[eg];try omega)
    repeat' first|exact hF.wkA|refine av ?_ ?_ ?_ ?_ ?_|(simp(disch:=omega) [aF,u,j]<;>omega)|omega
 ·obtain rfl:i=e.idx.length:=by omega
  rw[List.take_of_length_le (l:=e.idx.zip ds) (by simp;omega)]
  generalize (e.idx.zip ds).flatMap (λq=>u0 p q.1 q.2)=C at*
  clear hX G hW Y h hJ P z Q
  repeat' first|simp(disch:=omega)only[go_sem, *,aF,aN,o]|apply ab<;>intro h<;>try omega
  refine ai (λk:Nat=>⟨[(1,I d),(3,bB cs),(4,.c (.ref nx)),(5,I R.length),(16,.c (.ref (nx+1))),(22,I k)],(nx,ER R d (l++oJ cs (C.take k)))::(nx+1,.arr 64 3 (C.map cP))::F,nx+2,nx⟩) (λk=>k≤C.length) (λk=>C.length-k) ⟨0, [(nx,r),(nx+1,nx+2)],by omega, ?_⟩ ?_
  ·simp only[List.take_zero,oJ,List.map_nil,List.append_nil]
   refine au (by simp(disch:=omega) [aF,u,j]) ?_ rfl (by simp;try omega) (by simp[eg];try omega)
   repeat' first|exact hF.wkA|refine av ?_ ?_ ?_ ?_ ?_|(simp(disch:=omega) [aF,u,j]<;>omega)|omega
  clear hi D Z
  have Z:lz F nx=F:=hF.del (.inr (by omega))
  intro k hk
  refine aa ?_
  by_cases V:k<C.length
  ·have g1:(C.map cP)[k]? =some [pI C[k].1.1,ay C[k].1.2,pB C[k].2]:=ah (f:=cP) V
   have HP:(l++oJ cs (C.take k)).length≤100000072:=by simp[oJ];omega
   have ho:l++oJ cs (C.take (k+1))=l++oJ cs (C.take k)++ [(C[k],cs)]:=by
    rw[List.take_succ_eq_append_getElem V,oJ,List.map_append,List.append_assoc]
    rfl
   have hM:=Dw d (l++oJ cs (C.take k)) (C[k],cs)
   rw[←ho]at hM
   have hp:=Dm d (l++oJ cs (C.take k))
   obtain⟨l2,hG⟩: ∃l2,l2=l++oJ cs (C.take (k+1)):=⟨_,rfl⟩
   rw[←hG]at hM
   have HL:=Lib.hid hG
   clear hG ho
   generalize l++oJ cs (C.take k)=l1 at*
   have ht:(R++iU d l1)++ [[pI d,pI l1.length,pI C[k].1.1,ay C[k].1.2,pB C[k].2,dp cP cs]]=R++iU d l2:=by rw[hM,List.append_assoc]
   have hq:((R++iU d l1).length:Int)=R.length+l1.length:=by rw[List.length_append,hp];omega
   have hw:IntKind.wrap .i64 (((R++iU d l1).length:Int)-(R.length:Int))=l1.length:=by rw[wrap_i64 (by omega)];omega
   have HQ:(R++iU d l1).length≤2100000100:=by omega
   have HR:=Lib.hid ht
   clear hM ht hq hp
   repeat' first|simp(disch:=omega)only[go_sem, *,g1,hw,aF,aN,o,wrap_i64]|apply ab<;>intro h<;>try omega|refine aA (by simp(disch:=omega)only[al,aj,aF,eq_self,↓reduceIte,Option.map_some]<;>rfl) (by intro h;cases h) (an rfl) (by simp only[List.length_cons,List.length_nil];omega) (by simp only[List.length_cons,List.length_nil];omega) ?_
   rw[HR.out]
   try rw[Z]
   refine⟨k+1, [(nx,nx+2)],by omega,by omega, ?_⟩
   rw[←HL.out]
   refine au (by simp(disch:=omega) [aF,u,j]) ?_ rfl (by simp;try omega) (by simp[eg];try omega)
   repeat' first|exact hF.wkA|refine av ?_ ?_ ?_ ?_ ?_|(simp(disch:=omega) [aF,u,j]<;>omega)|omega
  ·obtain rfl:k=C.length:=by omega
   rw[List.take_of_length_le (Nat.le_refl _)]
   repeat' first|simp(disch:=omega)only[go_sem, *,aF,aN,o]|apply ab<;>intro h<;>try omega
   refine⟨[], [], ?_⟩
   simp(disch:=omega)only[go_sem,aQ,aF,aN]
   refine au (by simp(disch:=omega) [aF]) ?_ rfl (by simp;try omega) (by simp[eg];try omega)
   repeat' first|exact hF.wkA|refine av ?_ ?_ ?_ ?_ ?_|(simp(disch:=omega) [aF]<;>omega)|omega
set_option maxHeartbeats 8000000 in
theorem Bx {p:bG} {d:Nat} {e:Ex} (h:uk p e) (k11:e.op=11) (IH: ∀a∈e.args,Sq p d a):Sq p d e:=by
 intro cs R l r nx F hU hR hl j hF
 have ha:=(dP h.1.1).1
 rw[k11]at ha
 obtain⟨a,b,c,g⟩:=RP (l:=e.args) ha
 have ma:a∈e.args:=by rw[g];simp
 have mb:b∈e.args:=by rw[g];simp
 have mc:c∈e.args:=by rw[g];simp
 have hz:=Ex.sz_eq e
 rw[g]at hz
 simp only[Ex.szs]at hz
 have oa:=gY h ma
 have on:=vA oa.1
 have HD:(fc a).sz=1+a.sz:=by rw[Ex.sz_eq];simp[fc,Ex.args,Ex.szs]
 have fa:=(kf a oa.1).1
 have fn:(bE (fc a)).1.length≤a.sz:=by
  have e1:bE (fc a)=uX (bE a):=vt rfl rfl
  have:=Ex.sz_pos a
  rw[e1]
  unfold uX
  split
  ·split
   ·rename_i hh
    show(eT _).1.length≤_
    omega
   ·simp
  ·simp
 have O:jo p e cs=jo p a cs++jo p b (cs++(bE a).1)++jo p c (cs++(bE (fc a)).1):=by
  rw[lU,if_neg (by omega),if_pos k11,g,List.nil_append]
  rfl
 have l1:=tz p a oa.1.1 cs
 have l2:=tz p b (gY h mb).1.1 (cs++(bE a).1)
 have pf:=oV a oa.1 (by omega)
 have pn:=oV (fc a) on (by omega)
 have hP:Go.Abs.dq (nx+3) [nx] ((nx+2,Nl 11 e)::(nx+1,eJ p)::F):=wM (N:=nx+2) (r:=nx) (wM (N':=nx+2) (r':=nx) hF (by omega) (by omega) rfl (.inr (Nat.le_refl _)) (by omega)) (by omega) (by omega) rfl (.inl rfl) (by omega)
 have o: ∀n,nx≤n→al F n=none:= λn h=>lj hF h
 have u: ∀k,r<nx+k:= λk=>by omega
 have W:aK 3 (cs.map cP):=ar λ_=>rfl
 have hu:aK 3 ((bE a).1.map cP):=ar λ_=>rfl
 have hv:aK 3 ((bE (fc a)).1.map cP):=ar λ_=>rfl
 have hg:(e.args.map Ex.row)[0]? =some a.row:=by rw[g];rfl
 have A:(e.args.map Ex.row)[1]? =some b.row:=by rw[g];rfl
 have h4:(e.args.map Ex.row)[2]? =some c.row:=by rw[g];rfl
 have w:e.args.length=3:=by rw[g];rfl
 have lf:(bE a).1.length≤20000:=by omega
 have ln:(bE (fc a)).1.length≤20000:=by omega
 have lc:cs.length≤20000:=by omega
 have p1:=IH a ma cs R l nx (nx+3) ((nx+2,Nl 11 e)::(nx+1,eJ p)::F) (by omega) hR (by omega) (by omega) hP
 have p2:=IH b mb (cs++(bE a).1) R (l++jo p a cs) nx (nx+6) ((nx+4,RT a)::(nx+2,Nl 11 e)::(nx+1,eJ p)::F) (by simp only[List.length_append];omega) hR (by simp only[List.length_append];omega) (by omega) (wM hP (by omega) (by omega) rfl (.inl rfl) (by omega))
 have p3:=IH c mc (cs++(bE (fc a)).1) R (l++jo p a cs++jo p b (cs++(bE a).1)) nx (nx+6) ((nx+4,VY a)::(nx+2,Nl 11 e)::(nx+1,eJ p)::F) (by simp only[List.length_append];omega) hR (by simp only[List.length_append];omega) (by omega) (wM hP (by omega) (by omega) rfl (.inl rfl) (by omega))
 have h5:lz F (nx+3)=F:=hF.del (.inr (by omega))
 have T:kJ (nx+3+1+1) (cs.map cP++(bE a).1.map cP) F=F:=hF.frz (.inr (by omega))
 have HE:kJ (nx+3+1+1) (cs.map cP++(bE (fc a)).1.map cP) F=F:=hF.frz (.inr (by omega))
 rw[O,←List.append_assoc,←List.append_assoc]
 rw[Ex.row_eq]at hg A h4
 rw[show fE (fc a)= .agg [.pure (pI 18),.pure (pS ⟨⟨[]⟩⟩),.pure (pI 0),.pure (pI 0),.pure (pI 0),.pure (pI 0),.pure (pI 0),.pure (pI 0),.pure (pI 0),.pure (pI 0),.pure (ay []),.pure (dp eR []),.pure (.slice [a.row])]from rfl,Ex.row_eq]at pn
 rw[show bB (cs++(bE a).1)= .c (.pure (.slice (cs.map cP++(bE a).1.map cP))) by show AV.c (.pure (.slice (List.map cP (_++_))))=_;rw[List.map_append]]at p2
 rw[show bB (cs++(bE (fc a)).1)= .c (.pure (.slice (cs.map cP++(bE (fc a)).1.map cP))) by show AV.c (.pure (.slice (List.map cP (_++_))))=_;rw[List.map_append]]at p3
 clear IH h ha g ma mb mc hz oa on HD fa fn O l1 l2 hU hl hP
 refine aw.ofZ (ress:= [.c (.ref nx)]) lS (by simp) λ_=>aa ?_
 simp only[jL]
 generalize jo p a cs=o1 at*
 generalize jo p b (cs++(bE a).1)=o2 at*
 generalize jo p c (cs++(bE (fc a)).1)=o3 at*
 repeat' first|simp(disch:=omega)only[go_sem, *,aF,aN,k11,o]|apply ab<;>intro h<;>try omega
 refine ai (λk:Nat=>⟨[(1,I d),(3,bB cs),(4,.c (.ref nx)),(5,I R.length),(6,.c (.ptr (nx+1) 0)),(8,.c (.ptr (nx+2) 0)),(23,I k)],(nx,ER R d (l++([o1,o2,o3].take k).flatten))::(nx+1,eJ p)::(nx+2,Nl 11 e)::F,nx+3,nx⟩) (λk=>k≤3) (λk=>3-k) ⟨0, [(nx,r),(nx+1,nx),(nx+2,nx+1)],by omega, ?_⟩ ?_
 ·simp only[List.take_zero,List.flatten_nil,List.append_nil]
  refine au (by simp(disch:=omega) [aF,u,j]) ?_ rfl (by simp;try omega) (by simp[eg];try omega)
  repeat' first|exact hF.wkA|refine av ?_ ?_ ?_ ?_ ?_|(simp(disch:=omega) [aF,u,j]<;>omega)|omega
 intro k hk
 have HF:k=0∨k=1∨k=2∨k=3:=by omega
 rcases HF with rfl|rfl|rfl|rfl
 ·refine aa ?_
  rw[show l++([o1,o2,o3].take 0).flatten=l by simp]
  repeat' first|simp(disch:=omega)only[go_sem, *,hg,w,aF,aN,o,wrap_i64]|apply ab<;>intro h<;>try omega|apply af|(with_reducible refine ag (λh=> ?_) ?_)|refine vq W (by simp only[List.length_map];omega) (by simp only[List.length_map];omega) ?_|refine ap (p1.perm (λnm=>by first|rfl|(simp only[al,aj];done)|(simp only[al,aj];(repeat' split)<;>first|rfl|omega))) ?_
  refine⟨1, [(nx,nx+3)],by omega,by omega, ?_⟩
  rw[show l++([o1,o2,o3].take 1).flatten=l++o1 by simp]
  refine au (by simp(disch:=omega) [aF,u,j]) ?_ rfl (by simp;try omega) (by simp[eg];try omega)
  repeat' first|exact hF.wkA|refine av ?_ ?_ ?_ ?_ ?_|(simp(disch:=omega) [aF,u,j]<;>omega)|omega
 ·rw[show l++([o1,o2,o3].take 1).flatten=l++o1 by simp]
  refine bU (bU (aa ?_))
  repeat' first|simp(disch:=omega)only[go_sem, *,w,aF,aN,o]|apply ab<;>intro h<;>try omega
  refine fw (t:=true) rfl (λ_=>kK ?_) (λe=>by cases e)
  change AW _ _ _ _ _
  refine bU (uE (bU (aa ?_)))
  repeat' first|simp(disch:=omega)only[go_sem, *]|apply ab<;>intro h<;>try omega
  refine bU (aa ?_)
  repeat' first|simp(disch:=omega)only[go_sem, *,aF,aN]|apply ab<;>intro h<;>try omega|refine ia W (by simp only[List.length_map];omega) (by simp only[List.length_map];omega) ?_
  refine bU (bU (aa ?_))
  repeat' first|simp(disch:=omega)only[go_sem, *,w,aF,aN,o]|apply ab<;>intro h<;>try omega
  refine fw (t:=true) rfl (λ_=> ?_) (λe=>by cases e)
  refine aa ?_
  repeat' first|simp(disch:=omega)only[go_sem, *,hg,w,aF,aN,o,Int.toNat_zero]|apply ab<;>intro h<;>try omega|apply af|(with_reducible refine ag (λh=> ?_) ?_)|refine aW pf rfl rfl ?_|refine aA (by simp(disch:=omega)only[al,aj,aF,eq_self,↓reduceIte,Option.map_some]<;>rfl) (by intro h;cases h) hu (by simp only[List.length_map];omega) (by simp only[List.length_map];omega) ?_
  try rw[h5]
  refine yT (nx+3+1+1) 64 3 (cs.map cP++(bE a).1.map cP) (by simp(disch:=omega)only[al,aj,aF,eq_self,↓reduceIte,Option.map_some]<;>rfl) ?_
  simp(disch:=omega)only[vm,nG,gS,kJ,ub,List.map_cons,List.map_nil,aF,T,↓reduceIte]
  refine aa ?_
  repeat' first|simp(disch:=omega)only[go_sem, *,A,w,aF,aN,o,Int.toNat_one]|apply ab<;>intro h<;>try omega|apply af|(with_reducible refine ag (λh=> ?_) ?_)|refine ap (p2.perm (λnm=>by first|rfl|(simp only[al,aj];done)|(simp only[al,aj];(repeat' split)<;>first|rfl|omega))) ?_
  change AW _ _ _ _ _
  refine aa ?_
  repeat' first|simp(disch:=omega)only[go_sem, *,wrap_i64]|apply ab<;>intro h<;>try omega
  refine⟨2, [(nx,nx+6)],by omega,by omega, ?_⟩
  rw[show l++([o1,o2,o3].take 2).flatten=l++o1++o2 by simp]
  refine au (by simp(disch:=omega) [aF,u,j]) ?_ rfl (by simp;try omega) (by simp[eg];try omega)
  repeat' first|exact hF.wkA|refine av ?_ ?_ ?_ ?_ ?_|(simp(disch:=omega) [aF,u,j]<;>omega)|omega
 ·rw[show l++([o1,o2,o3].take 2).flatten=l++o1++o2 by simp]
  refine bU (bU (aa ?_))
  repeat' first|simp(disch:=omega)only[go_sem, *,w,aF,aN,o]|apply ab<;>intro h<;>try omega
  refine fw (t:=true) rfl (λ_=>kK ?_) (λe=>by cases e)
  change AW _ _ _ _ _
  refine bU (uE (bU (aa ?_)))
  repeat' first|simp(disch:=omega)only[go_sem, *]|apply ab<;>intro h<;>try omega
  refine bU (aa ?_)
  repeat' first|simp(disch:=omega)only[go_sem, *,aF,aN]|apply ab<;>intro h<;>try omega|refine ia W (by simp only[List.length_map];omega) (by simp only[List.length_map];omega) ?_
  refine bU (bU (aa ?_))
  repeat' first|simp(disch:=omega)only[go_sem, *,w,aF,aN,o]|apply ab<;>intro h<;>try omega
  refine fw (t:=true) rfl (λ_=> ?_) (λe=>by cases e)
  refine aa ?_
  repeat' first|simp(disch:=omega)only[go_sem, *,hg,w,aF,aN,o,Int.toNat_zero]|apply ab<;>intro h<;>try omega|apply af|(with_reducible refine ag (λh=> ?_) ?_)|refine aW pn rfl rfl ?_|refine aA (by simp(disch:=omega)only[al,aj,aF,eq_self,↓reduceIte,Option.map_some]<;>rfl) (by intro h;cases h) hv (by simp only[List.length_map];omega) (by simp only[List.length_map];omega) ?_
  try rw[h5]
  refine yT (nx+3+1+1) 64 3 (cs.map cP++(bE (fc a)).1.map cP) (by simp(disch:=omega)only[al,aj,aF,eq_self,↓reduceIte,Option.map_some]<;>rfl) ?_
  simp(disch:=omega)only[vm,nG,gS,kJ,ub,List.map_cons,List.map_nil,aF,HE,↓reduceIte]
  refine aa ?_
  repeat' first|simp(disch:=omega)only[go_sem, *,h4,w,aF,aN,o,Int.reduceToNat]|apply ab<;>intro h<;>try omega|apply af|(with_reducible refine ag (λh=> ?_) ?_)|refine ap (p3.perm (λnm=>by first|rfl|(simp only[al,aj];done)|(simp only[al,aj];(repeat' split)<;>first|rfl|omega))) ?_
  change AW _ _ _ _ _
  refine aa ?_
  repeat' first|simp(disch:=omega)only[go_sem, *,wrap_i64]|apply ab<;>intro h<;>try omega
  refine⟨3, [(nx,nx+6)],by omega,by omega, ?_⟩
  rw[show l++([o1,o2,o3].take 3).flatten=l++o1++o2++o3 by simp]
  refine au (by simp(disch:=omega) [aF,u,j]) ?_ rfl (by simp;try omega) (by simp[eg];try omega)
  repeat' first|exact hF.wkA|refine av ?_ ?_ ?_ ?_ ?_|(simp(disch:=omega) [aF,u,j]<;>omega)|omega
 ·rw[show l++([o1,o2,o3].take 3).flatten=l++o1++o2++o3 by simp]
  refine aa ?_
  repeat' first|simp(disch:=omega)only[go_sem, *,w,aF,aN,o]|apply ab<;>intro h<;>try omega
  refine⟨[], [], ?_⟩
  simp(disch:=omega)only[go_sem,aQ,aF,aN]
  refine au (by simp(disch:=omega) [aF]) ?_ rfl (by simp;try omega) (by simp[eg];try omega)
  repeat' first|exact hF.wkA|refine av ?_ ?_ ?_ ?_ ?_|(simp(disch:=omega) [aF]<;>omega)|omega
theorem CG {p:bG} {d:Nat} (hI:iR p) (e:Ex):uk p e→Sq p d e:=by
 refine Ex.ind (p:= λe=>uk p e→Sq p d e) (λe ih h=> ?_) e
 by_cases k3:e.op=3
 ·exact w7 hI h k3
 ·by_cases k11:e.op=11
  ·exact Bx h k11 λa ha=>ih a ha (gY h ha)
  ·exact w9 h k3 k11 λa ha=>ih a ha (gY h ha)
set_option maxRecDepth 1000000
theorem yF {p:bG} (hf:iR p) (hH:kI p) (w:(bn p).2=0→Ci p):ac Ya 20 [gy p] (i6 a6 (Qu p)):=by
 refine ac.of AS (by simp) λhb=>aa ?_
 conv in bh _ _=>cbv
 have pv:=io hf hH
 by_cases h0:(bn p).2=0
 ·have h:=w h0
  have HS:=h.1
  rw[Qu,if_neg (not_not_intro h0)]
  rw[h0]at pv
  clear w h0
  repeat' first|simp(disch:=omega)only[go_sem, *]|apply ab<;>intro h<;>try omega|refine aq pv rfl rfl ?_
  refine dv 3 81 6 rfl (by decide) ?_
  refine ai (λk:Nat=>⟨[(1,.c (.ptr 0 0)),(3,.c (.ref 1)),(6,I k)], [(1,.arr 81 6 ((jR p k).map a6)),(0,eJ p)],2,0⟩) (λk=>k≤p.defs.length) (λk=>p.defs.length-k) ⟨0, [],by omega,by simp[jR]⟩ ?_
  clear pv
  intro k hk
  refine aa ?_
  by_cases D:k<p.defs.length
  ·have hd:=h.2 _ (List.getElem_mem D)
   have hL:=zj h k
   have pe:=CG (d:=k) hf p.defs[k].body hd.1 [] ((jR p k).map a6) [] 1 2 [(0,eJ p)] (by have:=hd.2;simp;omega) (by simp;omega) (by have:=hd.2;simp;omega) (by omega) ⟨by omega,rfl,by simp[iI],trivial⟩
   have h7:=DR p p.defs[k] k
   have hs:=wT D
   have e0:((jR p k).map a6)++iU k []=(jR p k).map a6:=List.append_nil _
   have e1:((jR p k).map a6)++iU k ([]++jo p p.defs[k].body [])=(jR p (k+1)).map a6:=by rw[List.nil_append,←h7,hs,List.map_append]
   rw[ER,ER,e0,e1,List.length_map]at pe
   have pc:=aw.nil4 pe
   have g1:=ah (f:=di) D
   clear pe h7 hs e0 e1 hd
   repeat' first|simp(disch:=omega)only[go_sem, *,g1,di,wrap_i64]|apply ab<;>intro h<;>try omega|apply af|(with_reducible refine ag (λh=> ?_) ?_)|refine ap (pc.perm (λnm=>by first|rfl|(simp only[al,aj];done)|(simp only[al,aj];(repeat' split)<;>first|rfl|omega))) ?_
   exact⟨k+1, [(1,2)],by omega,by omega,by simp⟩
  ·obtain rfl:k=p.defs.length:=by omega
   rw[show jR p p.defs.length=im p by unfold jR im;rw[List.take_of_length_le (Nat.le_refl _)]]
   repeat' first|simp(disch:=omega)only[go_sem, *]|apply ab<;>intro h<;>try omega
   all_goals rfl
 ·rw[Qu,if_pos h0]
  clear w
  repeat' first|simp(disch:=omega)only[go_sem, *,h0]|apply ab<;>intro h<;>try omega|refine aq pv rfl rfl ?_
  all_goals rfl
