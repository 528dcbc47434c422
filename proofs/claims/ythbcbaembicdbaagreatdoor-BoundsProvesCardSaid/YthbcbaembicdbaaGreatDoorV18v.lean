import Derived.Test.YthbcbaembicdbaaGreatDoorV18g
set_option linter.unusedVariables false
set_option linter.unusedSimpArgs false
set_option maxHeartbeats 4000000
set_option maxRecDepth 1000000
namespace Go.Proofs.YthbcbaembicdbaaGreatDoor
open Go.Abs Go.RowKit
theorem rv (e:Ex):jO e→e.sz≤20000→ac Tryz.prog nA [fJ e] (aLB (d4 e)):=by
 refine Ex.ind (p:=λe=>jO e→e.sz≤20000→ac Tryz.prog nA [fJ e] (aLB (d4 e))) (λe ih h hs=> ?_) e
 refine ac.of Ey (by simp) λhb=>aa ?_
 clear hb
 have ha:=(dY h.1).1
 rw[Mr]
 conv in vS=>cbv
 by_cases k2:e.op=2
 ·rw[show mN e.op e.val e.ty e.lin (e.args.map d4)=(e.lin,true) by simp[mN,k2]]
  clear ih ha h
  repeat' first|simp(disch:=omega)only[go_sem, *,k2]|(with_reducible apply ab)<;>intro h<;>try omega|with_reducible apply ag|with_reducible refine aj (λh=> ?_) ?_
  all_goals rfl
 by_cases k1:e.op=1
 ·rw[show mN e.op e.val e.ty e.lin (e.args.map d4)=((e.val.1, []),decide (e.ty.1=3)) by simp[mN,k1]]
  have pc:=tj e.val.1
  clear ih ha h k2
  repeat' first|simp(disch:=omega)only[go_sem, *,k1]|(with_reducible apply ab)<;>intro h<;>try omega|with_reducible apply ag|with_reducible refine aj (λh=> ?_) ?_|refine cg pc rfl rfl ?_
  all_goals rfl
 by_cases k8:e.op=8
 ·rw[k8]at ha
  obtain⟨a,g⟩:=J0 (l:=e.args) ha
  have hm:a∈e.args:=by rw[g];exact List.mem_cons_self
  have hN:mN e.op e.val e.ty e.lin (e.args.map d4)=((bO (d4 a).1 (-1)).1,(d4 a).2&&decide ((bO (d4 a).1 (-1)).2=0)):=by rw[g,k8];simp[mN]
  rw[hN]
  have pa:=ih a hm (aV h hm) (by have:=cU hm;omega)
  obtain⟨q1,q2,_⟩:=gm (Bz a (aV h hm)) (by have:=cU hm;omega)
  have hg:(e.args.map Ex.row)[0]? =some a.row:=by rw[g];rfl
  have hl:e.args.length=1:=by rw[g];rfl
  clear ih ha h k2 k1 hN hm g hs
  generalize d4 a=r at*
  obtain⟨⟨K,l⟩,b⟩:=r
  have ps:=mp (a:=(K,l)) (b:= -1) q1 (by decide) q2
  clear q1 q2
  simp only at ps ⊢
  generalize bO (K,l) (-1)=s at*
  obtain⟨⟨K',l'⟩,er⟩:=s
  try simp only at ps
  cases b
  all_goals
   repeat' first|simp(disch:=omega)only[go_sem, *,k8,hl,hg,Ex.row_eq,Int.toNat_zero]|(with_reducible apply ab)<;>intro h<;>try omega|with_reducible apply ag|with_reducible refine aj (λh=> ?_) ?_|refine cg pa rfl rfl ?_|refine cg ps rfl rfl ?_
   all_goals rfl
 by_cases k45:e.op=4∨e.op=5
 ·have E:(e.args.length:Int)=2:=by rw[ha];unfold jJ;rcases k45 with k|k<;>rw[k]<;>rfl
  obtain⟨a,b,g⟩:=KI E
  have hm:a∈e.args:=by rw[g];exact List.mem_cons_self
  have v:b∈e.args:=by rw[g];exact List.mem_cons_of_mem _ List.mem_cons_self
  have pa:=ih a hm (aV h hm) (by have:=cU hm;omega)
  have pb:=ih b v (aV h v) (by have:=cU v;omega)
  obtain⟨q1,q2,q3⟩:=gm (Bz a (aV h hm)) (by have:=cU hm;omega)
  obtain⟨r1,r2,r3⟩:=gm (Bz b (aV h v)) (by have:=cU v;omega)
  have hg:(e.args.map Ex.row)[0]? =some a.row:=by rw[g];rfl
  have A:(e.args.map Ex.row)[1]? =some b.row:=by rw[g];rfl
  have hl:e.args.length=2:=by rw[g];rfl
  rcases k45 with k|k
  ·have hN:mN e.op e.val e.ty e.lin (e.args.map d4)=((fK (d4 a).1 (d4 b).1).1,(d4 a).2&&(d4 b).2&&true&&decide ((fK (d4 a).1 (d4 b).1).2=0)):=by rw[g,k];simp[mN]
   rw[hN]
   clear ih ha E h k2 k1 k8 hN hm v g hs
   generalize d4 a=r at*
   obtain⟨⟨K,l⟩,x⟩:=r
   generalize d4 b=r at*
   obtain⟨⟨K',l'⟩,y⟩:=r
   have ps:=kV q1 r1 (by simp only at q3 r3 ⊢;omega)
   clear q1 q2 r1 r2 q3 r3
   simp only at ps ⊢
   generalize fK (K,l) (K',l')=s at*
   obtain⟨⟨K2,l2⟩,er⟩:=s
   try simp only at ps
   cases x<;>cases y
   all_goals
    repeat' first|simp(disch:=omega)only[go_sem, *,k,hl,hg,A,Ex.row_eq,Int.toNat_zero,Int.toNat_one]|(with_reducible apply ab)<;>intro h<;>try omega|with_reducible apply ag|with_reducible refine aj (λh=> ?_) ?_|refine cg pa rfl rfl ?_|refine cg pb rfl rfl ?_|refine cg ps rfl rfl ?_
    all_goals rfl
  ·have hN:mN e.op e.val e.ty e.lin (e.args.map d4)=((fK (d4 a).1 (bO (d4 b).1 (-1)).1).1,(d4 a).2&&(d4 b).2&&decide ((bO (d4 b).1 (-1)).2=0)&&decide ((fK (d4 a).1 (bO (d4 b).1 (-1)).1).2=0)):=by rw[g,k];simp[mN]
   rw[hN]
   clear ih ha E h k2 k1 k8 hN hm v g hs
   generalize d4 a=r at*
   obtain⟨⟨K,l⟩,x⟩:=r
   generalize d4 b=r at*
   obtain⟨⟨K',l'⟩,y⟩:=r
   have p1:=mp (a:=(K',l')) (b:= -1) r1 (by decide) r2
   have ps:=kV q1 (qQ (a:=(K',l'))) (by have:=gR (K',l') (-1);simp only at q3 r3 this ⊢;omega)
   clear q1 q2 r1 r2 q3 r3
   simp only at p1 ps ⊢
   generalize bO (K',l') (-1)=s at*
   obtain⟨⟨K3,l3⟩,e3⟩:=s
   simp only at p1 ps ⊢
   generalize fK (K,l) (K3,l3)=s at*
   obtain⟨⟨K2,l2⟩,er⟩:=s
   try simp only at ps
   cases x<;>cases y
   all_goals
    repeat' first|simp(disch:=omega)only[go_sem, *,k,hl,hg,A,Ex.row_eq,Int.toNat_zero,Int.toNat_one]|(with_reducible apply ab)<;>intro h<;>try omega|with_reducible apply ag|with_reducible refine aj (λh=> ?_) ?_|refine cg pa rfl rfl ?_|refine cg pb rfl rfl ?_|refine cg p1 rfl rfl ?_|refine cg ps rfl rfl ?_
    all_goals first|rfl|(simp_all;done)|(simp;done)
 ·have hN:mN e.op e.val e.ty e.lin (e.args.map d4)=jY:=by
   unfold mN
   rw[if_neg k2,if_neg k1,if_neg k8,if_neg (λh=>k45 (.inr h)),if_neg (λh=>k45 (.inl h))]
  rw[hN]
  have k4: ¬e.op=4:=λh=>k45 (.inl h)
  have k5: ¬e.op=5:=λh=>k45 (.inr h)
  clear ih ha h hN k45
  repeat' first|simp(disch:=omega)only[go_sem, *,k2,k1,k8,k4,k5]|(with_reducible apply ab)<;>intro h<;>try omega|with_reducible apply ag|with_reducible refine aj (λh=> ?_) ?_
  all_goals rfl
theorem tB (e:Ex):jO e→e.sz≤20000→ac Tryz.prog qg [fJ e] (aCB (bA e)):=by
 refine Ex.ind (p:=λe=>jO e→e.sz≤20000→ac Tryz.prog qg [fJ e] (aCB (bA e))) (λe ih h hs=> ?_) e
 have ha:=(dY h.1).1
 by_cases k:13≤e.op∧e.op≤15
 ·have E:(e.args.length:Int)=2:=by
   rw[ha]
   have:e.op=13∨e.op=14∨e.op=15:=by omega
   rcases this with k|k|k<;>rw[k]<;>rfl
  obtain⟨a,b,g⟩:=KI E
  have hm:a∈e.args:=by rw[g];exact List.mem_cons_self
  have v:b∈e.args:=by rw[g];exact List.mem_cons_of_mem _ List.mem_cons_self
  have pa:=rv a (aV h hm) (by have:=cU hm;omega)
  have pb:=rv b (aV h v) (by have:=cU v;omega)
  obtain⟨q1,q2,q3⟩:=gm (Bz a (aV h hm)) (by have:=cU hm;omega)
  obtain⟨r1,r2,r3⟩:=gm (Bz b (aV h v)) (by have:=cU v;omega)
  obtain⟨sa1,sa2⟩:=ZE a
  obtain⟨sb1,sb2⟩:=ZE b
  have hF:bA e=if(d4 a).2=true∧(d4 b).2=true then Nh (sK e.op (d4 a).1 (d4 b).1) (decide (e.op=15))else([],false):=by
   rw[PL k g,sa1,sb1]
   by_cases hh:(d4 a).2=true∧(d4 b).2=true
   ·rw[if_pos hh,if_pos hh,sa2 (sa1.trans hh.1),sb2 (sb1.trans hh.2)]
   ·rw[if_neg hh,if_neg hh]
  have hg:(e.args.map Ex.row)[0]? =some a.row:=by rw[g];rfl
  have A:(e.args.map Ex.row)[1]? =some b.row:=by rw[g];rfl
  have hl:e.args.length=2:=by rw[g];rfl
  have hd:e.op=13∨e.op=14∨e.op=15:=by omega
  rw[hF]
  clear ih ha E h hs hm v g sa1 sa2 sb1 sb2 hF k
  generalize d4 a=r at*
  obtain⟨⟨K,l⟩,x⟩:=r
  generalize d4 b=r at*
  obtain⟨⟨K',l'⟩,y⟩:=r
  by_cases J:x=true∧y=true
  ·obtain⟨rfl,rfl⟩:=J
   rw[if_pos ⟨rfl,rfl⟩]
   have p0:=iH (k:=0) (.inl rfl) q1 r1 q3 r3
   have p1:=iH (k:= -1) (.inr rfl) q1 r1 q3 r3
   rw[if_pos rfl]at p0
   rw[if_neg (by decide)]at p1
   clear q1 q2 r1 r2 q3 r3
   unfold Nh
   simp only at p0 p1 ⊢
   rcases hd with hd|hd|hd
   ·rw[show sK e.op (K,l) (K',l')=eD (K,l) (K',l') by rw[sK,if_pos hd]]
    generalize eD (K,l) (K',l')=s at*
    obtain⟨⟨K2,l2⟩,er⟩:=s
    clear p0
    by_cases h0:er=0
    ·subst h0
     rw[if_pos rfl]
     refine ac.of db (by simp) λhb=>aa ?_
     simp only[dc]
     repeat' first|simp(disch:=omega)only[go_sem, *,hd,hl,hg,A,Ex.row_eq,Int.toNat_zero,Int.toNat_one]|(with_reducible apply ab)<;>intro h<;>try omega|with_reducible apply ag|with_reducible refine aj (λh=> ?_) ?_|refine cg pa rfl rfl ?_|refine cg pb rfl rfl ?_|refine cg p1 rfl rfl ?_
     all_goals rfl
    ·rw[if_neg h0]
     refine ac.of db (by simp) λhb=>aa ?_
     simp only[dc]
     repeat' first|simp(disch:=omega)only[go_sem, *,h0,hd,hl,hg,A,Ex.row_eq,Int.toNat_zero,Int.toNat_one]|(with_reducible apply ab)<;>intro h<;>try omega|with_reducible apply ag|with_reducible refine aj (λh=> ?_) ?_|refine cg pa rfl rfl ?_|refine cg pb rfl rfl ?_|refine cg p1 rfl rfl ?_
     all_goals rfl
   all_goals
    rw[show sK e.op (K,l) (K',l')=kC (K,l) (K',l') by rw[sK,if_neg (by omega)]]
    generalize kC (K,l) (K',l')=s at*
    obtain⟨⟨K2,l2⟩,er⟩:=s
    clear p1
    by_cases h0:er=0
    ·subst h0
     rw[if_pos rfl]
     refine ac.of db (by simp) λhb=>aa ?_
     simp only[dc]
     repeat' first|simp(disch:=omega)only[go_sem, *,hd,hl,hg,A,Ex.row_eq,Int.toNat_zero,Int.toNat_one]|(with_reducible apply ab)<;>intro h<;>try omega|with_reducible apply ag|with_reducible refine aj (λh=> ?_) ?_|refine cg pa rfl rfl ?_|refine cg pb rfl rfl ?_|refine cg p0 rfl rfl ?_
     all_goals rfl
    ·rw[if_neg h0]
     refine ac.of db (by simp) λhb=>aa ?_
     simp only[dc]
     repeat' first|simp(disch:=omega)only[go_sem, *,h0,hd,hl,hg,A,Ex.row_eq,Int.toNat_zero,Int.toNat_one]|(with_reducible apply ab)<;>intro h<;>try omega|with_reducible apply ag|with_reducible refine aj (λh=> ?_) ?_|refine cg pa rfl rfl ?_|refine cg pb rfl rfl ?_|refine cg p0 rfl rfl ?_
     all_goals rfl
  ·rw[if_neg J]
   clear q1 q2 r1 r2 q3 r3
   refine ac.of db (by simp) λhb=>aa ?_
   simp only[dc]
   rcases hd with hd|hd|hd
   all_goals
    cases x<;>cases y
    all_goals first
     |(exact absurd ⟨rfl,rfl⟩ J;done)
     |skip
    all_goals
     clear J
     repeat' first|simp(disch:=omega)only[go_sem, *,hd,hl,hg,A,Ex.row_eq,Int.toNat_zero,Int.toNat_one]|(with_reducible apply ab)<;>intro h<;>try omega|with_reducible apply ag|with_reducible refine aj (λh=> ?_) ?_|refine cg pa rfl rfl ?_|refine cg pb rfl rfl ?_
    all_goals rfl
 by_cases k16:e.op=16
 ·have E:(e.args.length:Int)=2:=by rw[ha,k16];rfl
  obtain⟨a,b,g⟩:=KI E
  rw[M5 k16 g]
  have hm:a∈e.args:=by rw[g];exact List.mem_cons_self
  have v:b∈e.args:=by rw[g];exact List.mem_cons_of_mem _ List.mem_cons_self
  have pa:=ih a hm (aV h hm) (by have:=cU hm;omega)
  have pb:=ih b v (aV h v) (by have:=cU v;omega)
  have q1:=(mw a (aV h hm)).1
  have q2:=(mw b (aV h v)).1
  have s1:=cU hm
  have s2:=cU v
  have hg:(e.args.map Ex.row)[0]? =some a.row:=by rw[g];rfl
  have A:(e.args.map Ex.row)[1]? =some b.row:=by rw[g];rfl
  have hl:e.args.length=2:=by rw[g];rfl
  clear ih ha E h k hm v g
  have l1:(bA a).1.length≤20000:=by omega
  have l2:(bA b).1.length≤20000:=by omega
  clear q1 q2 s1 s2 hs
  generalize bA a=r at*
  obtain⟨x,y⟩:=r
  generalize bA b=r at*
  obtain⟨x',y'⟩:=r
  have ok':bl 3 (x'.map cP):=av λ_=>rfl
  have ok:bl 3 (x.map cP):=av λ_=>rfl
  simp only at l1 l2 pa pb ⊢
  rw[show aCB (x++x',y&&y')= .tup [.c (.pure (.slice (x.map cP++x'.map cP))),Go.Abs.B (y&&y')] by show AV.tup [.c (.pure (.slice (List.map cP (_++_)))),_]=_;rw[List.map_append]]
  refine ac.of db (by simp) λhb=>aa ?_
  simp only[dc]
  cases y
  all_goals
   repeat' first|simp(disch:=omega)only[go_sem, *,k16,hl,hg,A,Ex.row_eq,Int.toNat_zero,Int.toNat_one]|(with_reducible apply ab)<;>intro h<;>try omega|with_reducible apply ag|with_reducible refine aj (λh=> ?_) ?_|refine cg pa rfl rfl ?_|refine cg pb rfl rfl ?_|refine kR ok (by simp only[List.length_map];omega) (by simp only[List.length_map];omega) ?_|refine aJ rfl (by intro h;cases h) ok' (by simp only[List.length_map];omega) (by simp only[List.length_map];omega) ?_
  all_goals rfl
 by_cases k18:e.op=18
 ·have E:(e.args.length:Int)=1:=by rw[ha,k18];rfl
  obtain⟨a,g⟩:=J0 E
  rw[Bh k18 g]
  have hm:a∈e.args:=by rw[g];exact List.mem_cons_self
  have pa:=ih a hm (aV h hm) (by have:=cU hm;omega)
  have q1:=mw a (aV h hm)
  have s1:=cU hm
  have hg:(e.args.map Ex.row)[0]? =some a.row:=by rw[g];rfl
  have hl:e.args.length=1:=by rw[g];rfl
  clear ih ha E h k k16 hm g
  have hq:XI 20000 (bA a).1:=MQ q1 (by omega)
  clear q1 s1 hs
  generalize bA a=r at*
  obtain⟨x,y⟩:=r
  simp only at pa hq ⊢
  by_cases J:x.length=1∧y=true
  ·obtain⟨hx,rfl⟩:=J
   obtain⟨c,rfl⟩: ∃c,x= [c]:=by match x,hx with| [c],_=>exact⟨c,rfl⟩
   obtain⟨hH,z⟩:=hq.2 c List.mem_cons_self
   have hc:short c.1.2:=by unfold short;omega
   have pn:=CR hH hc
   rw[show Bt ([c],true)=if(fp c).2=0∧(fp c).1.length=1 then((fp c).1,true)else([],false)from rfl]
   clear hH z hq hc
   generalize fp c=X at*
   obtain⟨xs,er⟩:=X
   try simp only at pn pa ⊢
   by_cases hn:er=0∧xs.length=1
   ·rw[if_pos hn]
    obtain⟨rfl,h7⟩:=hn
    refine ac.of db (by simp) λhb=>aa ?_
    simp only[dc]
    repeat' first|simp(disch:=omega)only[go_sem, *,k18,hl,hg,Ex.row_eq,Int.toNat_zero,cP,h7]|(with_reducible apply ab)<;>intro h<;>try omega|with_reducible apply ag|with_reducible refine aj (λh=> ?_) ?_|refine cg pa rfl rfl ?_|refine cg pn rfl rfl ?_
    all_goals rfl
   ·rw[if_neg hn]
    have h8:er≠0∨(er=0∧ ¬((xs.length:Nat):Int)=1):=by
     by_cases h:er=0
     ·exact .inr ⟨h,λh1=>hn ⟨h,by omega⟩⟩
     ·exact .inl h
    clear hn
    refine ac.of db (by simp) λhb=>aa ?_
    simp only[dc]
    rcases h8 with h1|⟨rfl,h1⟩
    all_goals
     repeat' first|simp(disch:=omega)only[go_sem, *,k18,hl,hg,Ex.row_eq,Int.toNat_zero,cP,h1]|(with_reducible apply ab)<;>intro h<;>try omega|with_reducible apply ag|with_reducible refine aj (λh=> ?_) ?_|refine cg pa rfl rfl ?_|refine cg pn rfl rfl ?_
    all_goals rfl
  ·rw[show Bt (x,y)=(([],false):CB)from Rq J]
   have hy:y=false∨(y=true∧ ¬((x.length:Nat):Int)=1):=by
    cases y
    ·exact .inl rfl
    ·exact .inr ⟨rfl,λh1=>J ⟨by omega,rfl⟩⟩
   clear J hq
   refine ac.of db (by simp) λhb=>aa ?_
   simp only[dc]
   rcases hy with rfl|⟨rfl,h1⟩
   ·repeat' first|simp(disch:=omega)only[go_sem, *,k18,hl,hg,Ex.row_eq,Int.toNat_zero]|(with_reducible apply ab)<;>intro h<;>try omega|with_reducible apply ag|with_reducible refine aj (λh=> ?_) ?_|refine cg pa rfl rfl ?_
    all_goals rfl
   ·repeat' first|simp(disch:=omega)only[go_sem, *,k18,hl,hg,Ex.row_eq,Int.toNat_zero,h1]|(with_reducible apply ab)<;>intro h<;>try omega|with_reducible apply ag|with_reducible refine aj (λh=> ?_) ?_|refine cg pa rfl rfl ?_
    all_goals rfl
 ·rw[Sa k k16 k18]
  have d1: ¬e.op=13:=by omega
  have d2: ¬e.op=14:=by omega
  have d3: ¬e.op=15:=by omega
  clear ih ha h k
  refine ac.of db (by simp) λhb=>aa ?_
  simp only[dc]
  repeat' first|simp(disch:=omega)only[go_sem, *,d1,d2,d3,k16,k18]|(with_reducible apply ab)<;>intro h<;>try omega|with_reducible apply ag|with_reducible refine aj (λh=> ?_) ?_
  all_goals rfl
theorem vG {f x:bY} (hf:bq f) (hx:bq x) (lf:f.2.length≤40000000) (lx:x.2.length≤40000000):ac Tryz.prog AQ [dm f.1 f.2,dm x.1 x.2] (bT (eP f x)):=by
 have p1:=iH (k:= -1) (.inr rfl) hf hx lf lx
 rw[if_neg (by decide)]at p1
 refine ac.of I3 (by simp) λhb=>aa ?_
 conv in zL=>cbv
 unfold eP
 obtain⟨K,L⟩:=f
 obtain⟨K2,L2⟩:=x
 clear hf hx lf lx
 simp only at p1 ⊢
 generalize eD (K,L) (K2,L2)=s at*
 obtain⟨⟨K3,L3⟩,er⟩:=s
 by_cases h0:er=0
 ·subst h0
  rw[if_pos rfl]
  repeat' first|simp(disch:=omega)only[go_sem, *]|(with_reducible apply ab)<;>intro h<;>try omega|with_reducible apply ag|with_reducible refine aj (λh=> ?_) ?_|refine cg p1 rfl rfl ?_
  all_goals rfl
 ·rw[if_neg h0]
  repeat' first|simp(disch:=omega)only[go_sem, *,h0]|(with_reducible apply ab)<;>intro h<;>try omega|with_reducible apply ag|with_reducible refine aj (λh=> ?_) ?_|refine cg p1 rfl rfl ?_
  all_goals rfl
abbrev Lj (R:List (List PC)) (d:Nat) (l:List Ob):bc:= .arr 50 6 (R++jz d l)
theorem CM {N N' a r r':Nat} {b:bc} {F:List (Nat×bc)} (h:Go.Abs.dk N [r] F) (ha:N≤a) (h9:a<N') (hb:tz b=true) (hr:r'=r∨N≤r') (HF:a≠r'):Go.Abs.dk N' [r'] ((a,b)::F):=by
 refine⟨h9,hb,dz.2 λm hm=> ?_,h.mono (by omega) λn hn h'=>dz.2 λm hm=> ?_⟩
 ·simp only[List.mem_cons,List.not_mem_nil,or_false]at hm
  omega
 ·have h2:=dz.1 h' r (by simp)
  simp only[List.mem_cons,List.not_mem_nil,or_false]at hm
  omega
abbrev acw (a:Ex):bc:= .var [.pure (pI 18),.pure (pS ⟨⟨[]⟩⟩),.pure (pI 0),.pure (pI 0),.pure (pI 0),.pure (pI 0),.pure (pI 0),.pure (pI 0),.pure (pI 0),.pure (pI 0),.nils,.nils,.tsl [[pI a.op,pS a.name,pI a.val.1,pI a.val.2,pI a.ty.1,pI a.ty.2.1,pI a.ty.2.2.1,pI a.ty.2.2.2.1,pI a.ty.2.2.2.2,pI a.lin.1,aw a.lin.2,du eQ a.idx,.slice (a.args.map Ex.row)]]]
def Z6 (p:bI) (d:Nat) (e:Ex):Prop:= ∀(cs:List bt) (R:List (List PC)) (l:List Ob) (r nx:Nat) (F:List (Nat×bc)),cs.length+e.sz≤20000→R.length≤2000000000→l.length+72*e.sz≤100000000→r<nx→Go.Abs.dk nx [r] F→
  au Tryz.prog xi [fO p,I d,fJ e,bT cs,.c (.ref r),I R.length] ((r,Lj R d l)::F) nx (eF [.c (.ref nx)]) ((nx,Lj R d (l++kF p e cs))::F) (nx+1)
theorem BN {p:bI} {d:Nat} {e:Ex} (h:zz p e) (k3:e.op≠3) (k11:e.op≠11) (IH: ∀a∈e.args,Z6 p d a):Z6 p d e:=by
 intro cs R l r nx F hT hR hl j hF
 have hz:=Ex.sz_eq e
 have w:=Ex.szs_len e.args
 have O:kF p e cs=sy p e.args cs:=by rw[pV,if_neg k3,if_neg k11,List.nil_append]
 rw[O]
 clear O
 have o: ∀n,nx≤n→am F n=none:=λn h=>ni hF h
 have W:bl 3 (cs.map cP):=av λ_=>rfl
 refine au.ofZ (ress:= [.c (.ref nx)]) oz (by simp) λ_=>aa ?_
 simp only[kX]
 repeat' first|simp(disch:=omega)only[go_sem, *,aD,aE,k3,o]|(with_reducible apply ab)<;>intro h<;>try omega
 refine an (λk:Nat=>⟨[(1,I d),(3,bT cs),(4,.c (.ref nx)),(5,I R.length),(6,.c (.ptr (nx+1) 0)),(8,.c (.ptr (nx+2) 0)),(23,I k)],(nx,Lj R d (l++sy p (e.args.take k) cs))::(nx+1,eV p)::(nx+2,ZP e)::F,nx+3,nx⟩) (λk=>k≤e.args.length) (λk=>e.args.length-k) ⟨0, [(nx,r),(nx+1,nx),(nx+2,nx+1)],by omega, ?_⟩ ?_
 ·simp only[List.take_zero,sy,List.append_nil]
  refine aq (by simp(disch:=omega) [aD]) ?_ rfl (by simp;try omega) (by simp[eg];try omega)
  repeat' first|exact hF.wkA|refine ar ?_ ?_ ?_ ?_ ?_|(simp(disch:=omega) [aD]<;>omega)|omega
 intro k hk
 refine aa ?_
 by_cases D:k<e.args.length
 ·have hm:=List.getElem_mem D
  have HA:=iC h hm
  have HG:=cU hm
  have z: ∀l:List Ex,(∀a∈l,i0 a)→(sy p l cs).length≤72*Ex.szs l:=by
   intro l
   induction l with
   |nil=>intro _;simp[sy]
   |cons a s ih=>
    intro hh
    have:=y8 p a (hh a List.mem_cons_self) cs
    have:=ih λb hb=>hh b (List.mem_cons_of_mem _ hb)
    simp only[sy,List.length_append,Ex.szs]
    omega
  have h1:=z (e.args.take k) λa ha=>iU h.1.1 (List.mem_of_mem_take ha)
  have h2:Ex.szs (e.args.take k)+e.args[k].sz≤Ex.szs e.args:=by
   have a1:=Ex.szs_take D
   have a2:Ex.szs (e.args.take (k+1))≤Ex.szs e.args:=by
    conv=>rhs;rw[←List.take_append_drop (k+1) e.args,Ex.szs_append]
    omega
   omega
  have pe:=IH _ hm cs R (l++sy p (e.args.take k) cs) nx (nx+3) ((nx+2,ZP e)::(nx+1,eV p)::F) (by omega) hR (by simp only[List.length_append];omega) (by omega) (CM (N:=nx+2) (r:=nx) (CM (N':=nx+2) (r':=nx) hF (by omega) (by omega) rfl (.inr (Nat.le_refl _)) (by omega)) (by omega) (by omega) rfl (.inl rfl) (by omega))
  rw[List.append_assoc,←Px p cs D]at pe
  have g1:=ah (f:=Ex.row) D
  rw[Ex.row_eq]at g1
  clear IH h HA z h1 h2 hm
  repeat' first|simp(disch:=omega)only[go_sem, *,g1,k11,aD,aE,o,wrap_i64]|(with_reducible apply ab)<;>intro h<;>try omega|with_reducible apply ag|with_reducible refine aj (λh=> ?_) ?_|refine Abs.Fd W (by simp only[List.length_map];omega) (by simp only[List.length_map];omega) ?_|refine ap (pe.perm (λnm=>by first|rfl|(simp only[am,al];done)|(simp only[am,al];(repeat' split)<;>first|rfl|omega))) ?_
  refine⟨k+1, [(nx,nx+3)],by omega,by omega, ?_⟩
  refine aq (by simp(disch:=omega) [aD]) ?_ rfl (by simp;try omega) (by simp[eg];try omega)
  repeat' first|exact hF.wkA|refine ar ?_ ?_ ?_ ?_ ?_|(simp(disch:=omega) [aD]<;>omega)|omega
 ·obtain rfl:k=e.args.length:=by omega
  rw[List.take_of_length_le (by omega)]
  repeat' first|simp(disch:=omega)only[go_sem, *,aD,aE]|(with_reducible apply ab)<;>intro h<;>try omega
  refine⟨[], [], ?_⟩
  simp(disch:=omega)only[go_sem,aR,aD,aE]
  refine aq (by simp(disch:=omega) [aD]) ?_ rfl (by simp;try omega) (by simp[eg];try omega)
  repeat' first|exact hF.wkA|refine ar ?_ ?_ ?_ ?_ ?_|(simp(disch:=omega) [aD]<;>omega)|omega
theorem CV {p:bI} {d:Nat} {e:Ex} (hI:j0 p) (h:zz p e) (k3:e.op=3):Z6 p d e:=by
 intro cs R l r nx F hT hR hl j hF
 obtain⟨hU,_,_,HK,Y⟩:=dY h.1.1
 obtain⟨t,ds,hJ,z,hV,hW⟩:=h.2 e (jG e) k3
 have hz:=Ex.sz_pos e
 have o: ∀n,nx≤n→am F n=none:=λn h=>ni hF h
 rw[k3]at hU
 have g:e.args= []:=List.eq_nil_of_length_eq_zero (by have:((e.args.length:Nat):Int)=0:=hU;omega)
 have O:kF p e cs=sk cs ((e.idx.zip ds).flatMap λq=>BJ p q.1 q.2):=by
  rw[pV,if_pos k3,if_neg (by omega),g,sy,List.append_nil,Gu,uW,hJ]
  rfl
 rw[O]
 have he:((e.idx.zip ds).flatMap λq=>BJ p q.1 q.2).length≤72:=by
  have:=E5 (f:=λq:Ix×bY=>BJ p q.1 q.2) (n:=12) (l:=e.idx.zip ds) λx hx=>E6 (Y _ (List.of_mem_zip hx).1)
  have h3:(e.idx.zip ds).length≤e.idx.length:=by simp;omega
  omega
 clear O hU g
 have pf:=gY hI e.name
 rw[hJ]at pf
 have G:=λl hl=>((h.1.2 e (jG e)).2 l hl:bq l∧l.2.length≤1000)
 have Q:ds.length=e.idx.length:=z.symm
 have u: ∀k,r<nx+k:=λk=>by omega
 have Z:mz F (nx+2)=F:=hF.del (.inr (by omega))
 refine au.ofZ (ress:= [.c (.ref nx)]) oz (by simp) λ_=>aa ?_
 simp only[kX]
 repeat' first|simp(disch:=omega)only[go_sem, *,aD,aE,o,k3]|(with_reducible apply ab)<;>intro h<;>try omega|refine cg pf rfl rfl ?_
 refine dR 16 46 3 rfl (by decide) ?_
 have P: ∀(f x:bY),bl 3 ((eP f x).map cP):=λf x=>av λ_=>rfl
 refine an (λi:Nat=>⟨[(1,I d),(3,bT cs),(4,.c (.ref r)),(5,I R.length),(6,.c (.ptr nx 0)),(8,.c (.ptr (nx+1) 0)),(14,md ds),(16,.c (.ref (nx+2))),(17,I i)],(nx+2,.arr 46 3 ((((e.idx.zip ds).take i).flatMap λq=>BJ p q.1 q.2).map cP))::(nx,eV p)::(nx+1,Ul 3 e)::(r,Lj R d l)::F,nx+3,nx⟩) (λi=>i≤e.idx.length) (λi=>e.idx.length-i) ⟨0, [(nx+2,nx+3)],by omega, ?_⟩ ?_
 ·simp only[List.take_zero,List.flatMap_nil,List.map_nil]
  refine aq (by simp(disch:=omega) [aD,u,j]) ?_ rfl (by simp;try omega) (by simp[eg];try omega)
  repeat' first|exact hF.wkA|refine ar ?_ ?_ ?_ ?_ ?_|(simp(disch:=omega) [aD,u,j]<;>omega)|omega
 intro i hi
 refine aa ?_
 clear pf
 by_cases D:i<e.idx.length
 ·have hA:i<ds.length:=by omega
  have hm:=List.getElem_mem D
  have g1:=ah (f:=eQ) D
  have g2:=ah (f:=cd) hA
  have gd:=hV _ (List.getElem_mem hA)
  have hK:=hW _ hm
  have T:=G _ (List.mem_cons_of_mem _ (List.mem_flatMap.2 ⟨e.idx[i],hm,List.mem_cons_self⟩))
  have hB: ∀l∈e.idx[i].2.2,bq l∧l.2.length≤1000:=λl hl=>G _ (List.mem_cons_of_mem _ (List.mem_flatMap.2 ⟨e.idx[i],hm,List.mem_cons_of_mem _ hl⟩))
  have h6:=Y _ hm
  have H:=Bm (f:=λq:Ix×bY=>BJ p q.1 q.2) D hA
  have HM:(((e.idx.zip ds).take i).flatMap λq=>BJ p q.1 q.2).length≤60:=by
   have:=E5 (f:=λq:Ix×bY=>BJ p q.1 q.2) (n:=12) (l:=(e.idx.zip ds).take i) λx hx=>E6 (Y _ (List.of_mem_zip (List.mem_of_mem_take hx)).1)
   have h3:((e.idx.zip ds).take i).length≤i:=by simp;omega
   omega
  clear hW G hV Y h hm hJ he
  obtain⟨R1,hX⟩: ∃R1,R1=((e.idx.zip ds).take (i+1)).flatMap (λq=>BJ p q.1 q.2):=⟨_,rfl⟩
  rw[←hX]at H
  have HR1:=Lib.hid hX
  clear hX
  generalize ((e.idx.zip ds).take i).flatMap (λq=>BJ p q.1 q.2)=R0 at*
  generalize ds[i]=dl at*
  generalize e.idx[i]=x at*
  obtain⟨⟨K,L⟩,s,at'⟩:=x
  obtain⟨K2,L2⟩:=dl
  simp only[eQ,cd]at g1 g2 T gd hK hB h6 H
  by_cases hs:s=⟨⟨[]⟩⟩
  ·subst hs
   rw[BJ,if_pos rfl]at H
   have pn:=vG (f:=(K,L)) (x:=(K2,L2)) T.1 gd.1 (by have:=T.2;simp only at this ⊢;omega) (by have:=gd.2;simp only at this ⊢;omega)
   have ok1:=P (K,L) (K2,L2)
   have HB:((eP (K,L) (K2,L2)).map cP).length=2:=rfl
   have hP:R0.map cP++(eP (K,L) (K2,L2)).map cP=R1.map cP:=by rw[H,List.map_append]
   have HT:=Lib.hid hP
   clear H hP hK T hB gd z P
   simp only at pn
   generalize eP (K,L) (K2,L2)=nd at*
   repeat' first|simp(disch:=omega)only[go_sem, *,g1,g2,Q,aD,aE,o,wrap_i64]|(with_reducible apply ab)<;>intro h<;>try omega|with_reducible apply ag|with_reducible refine aj (λh=> ?_) ?_|refine cg pn rfl rfl ?_|refine aJ (by simp(disch:=omega)only[am,al,aD,eq_self,↓reduceIte,Option.map_some]<;>rfl) (by intro h;cases h) ok1 (by simp only[List.length_map]at*;omega) (by simp only[List.length_map]at*;omega) ?_
   rw[HT.out]
   try rw[Z]
   refine⟨i+1, [(nx+2,nx+3)],by omega,by omega, ?_⟩
   rw[←HR1.out]
   refine aq (by simp(disch:=omega) [aD,u,j]) ?_ rfl (by simp;try omega) (by simp[eg];try omega)
   repeat' first|exact hF.wkA|refine ar ?_ ?_ ?_ ?_ ?_|(simp(disch:=omega) [aD,u,j]<;>omega)|omega
  ·obtain⟨t',ds',hC,M,hD⟩:=hK hs
   have pf2:=gY hI s
   rw[hC]at pf2
   rw[BJ,if_neg hs,uW,hC]at H
   clear hK T gd z g2 hC
   simp only at H M
   have hY:ds'.length=at'.length:=M.symm
   repeat' first|simp(disch:=omega)only[go_sem, *,g1,Q,aD,aE,o,hs]|(with_reducible apply ab)<;>intro h<;>try omega|with_reducible apply ag|with_reducible refine aj (λh=> ?_) ?_|refine cg pf2 rfl rfl ?_
   refine an (λk:Nat=>⟨[(1,I d),(3,bT cs),(4,.c (.ref r)),(5,I R.length),(6,.c (.ptr nx 0)),(8,.c (.ptr (nx+1) 0)),(14,md ds),(16,.c (.ref (nx+2))),(17,I i),(19,md ds'),(21,I k)],(nx+2,.arr 46 3 ((R0++((at'.zip ds').take k).flatMap λq=>eP q.1 q.2).map cP))::(nx,eV p)::(nx+1,Ul 3 e)::(r,Lj R d l)::F,nx+3,nx⟩) (λk=>k≤at'.length) (λk=>at'.length-k) ⟨0, [],by omega, ?_⟩ ?_
   ·simp only[List.take_zero,List.flatMap_nil,List.append_nil]
    refine aq (by simp(disch:=omega) [aD,u,j]) ?_ rfl (by simp;try omega) (by simp[eg];try omega)
    repeat' first|exact hF.wkA|refine ar ?_ ?_ ?_ ?_ ?_|(simp(disch:=omega) [aD,u,j]<;>omega)|omega
   clear pf2
   intro k hk
   refine aa ?_
   by_cases V:k<at'.length
   ·have hE:k<ds'.length:=by omega
    have g3:=ah (f:=cd) V
    have g4:=ah (f:=cd) hE
    have b1:=hB _ (List.getElem_mem V)
    have b2:=hD _ (List.getElem_mem hE)
    have hQ:=Bm (f:=λq:bY×bY=>eP q.1 q.2) V hE
    have hG:(((at'.zip ds').take k).flatMap λq=>eP q.1 q.2).length≤12:=by
     rw[Mo]
     have:((at'.zip ds').take k).length≤at'.length:=by simp;omega
     omega
    have pn:=vG (f:=at'[k]) (x:=ds'[k]) b1.1 b2.1 (by have:=b1.2;omega) (by have:=b2.2;omega)
    have ok1:=P at'[k] ds'[k]
    have HB:(eP at'[k] ds'[k]).length=2:=rfl
    have HN:(R0++((at'.zip ds').take k).flatMap λq=>eP q.1 q.2).length≤72:=by rw[List.length_append];omega
    have hS:(R0++((at'.zip ds').take k).flatMap λq=>eP q.1 q.2).map cP++(eP at'[k] ds'[k]).map cP=(R0++((at'.zip ds').take (k+1)).flatMap λq=>eP q.1 q.2).map cP:=by rw[hQ,←List.append_assoc,List.map_append (l₁:=R0++_)]
    have HT:=Lib.hid hS
    clear hQ hS b1 b2 H hB hD M hG P
    simp only[cd]at g3 g4
    generalize eP at'[k] ds'[k]=nd at*
    generalize (R0++((at'.zip ds').take k).flatMap λq=>eP q.1 q.2)=R2 at*
    repeat' first|simp(disch:=omega)only[go_sem, *,g1,g3,g4,hY,aD,aE,o,wrap_i64]|(with_reducible apply ab)<;>intro h<;>try omega|with_reducible apply ag|with_reducible refine aj (λh=> ?_) ?_|refine cg pn rfl rfl ?_|refine aJ (by simp(disch:=omega)only[am,al,aD,eq_self,↓reduceIte,Option.map_some]<;>rfl) (by intro h;cases h) ok1 (by simp only[List.length_map];omega) (by simp only[List.length_map];omega) ?_
    rw[HT.out]
    try rw[Z]
    refine⟨k+1, [(nx+2,nx+3)],by omega,by omega, ?_⟩
    refine aq (by simp(disch:=omega) [aD,u,j]) ?_ rfl (by simp;try omega) (by simp[eg];try omega)
    repeat' first|exact hF.wkA|refine ar ?_ ?_ ?_ ?_ ?_|(simp(disch:=omega) [aD,u,j]<;>omega)|omega
   ·obtain rfl:k=at'.length:=by omega
    rw[List.take_of_length_le (l:=at'.zip ds') (by simp;omega),←H]
    clear H hB hD M
    repeat' first|simp(disch:=omega)only[go_sem, *,g1,aD,aE,o,wrap_i64]|(with_reducible apply ab)<;>intro h<;>try omega|with_reducible apply ag|with_reducible refine aj (λh=> ?_) ?_
    refine⟨i+1, [],by omega,by omega, ?_⟩
    rw[←HR1.out]
    refine aq (by simp(disch:=omega) [aD,u,j]) ?_ rfl (by simp;try omega) (by simp[eg];try omega)
    repeat' first|exact hF.wkA|refine ar ?_ ?_ ?_ ?_ ?_|(simp(disch:=omega) [aD,u,j]<;>omega)|omega
 ·obtain rfl:i=e.idx.length:=by omega
  rw[List.take_of_length_le (l:=e.idx.zip ds) (by simp;omega)]
  generalize (e.idx.zip ds).flatMap (λq=>BJ p q.1 q.2)=C at*
  clear hW G hV Y h hJ P z Q
  repeat' first|simp(disch:=omega)only[go_sem, *,aD,aE,o]|(with_reducible apply ab)<;>intro h<;>try omega
  refine an (λk:Nat=>⟨[(1,I d),(3,bT cs),(4,.c (.ref nx)),(5,I R.length),(16,.c (.ref (nx+1))),(22,I k)],(nx,Lj R d (l++sk cs (C.take k)))::(nx+1,.arr 46 3 (C.map cP))::F,nx+2,nx⟩) (λk=>k≤C.length) (λk=>C.length-k) ⟨0, [(nx,r),(nx+1,nx+2)],by omega, ?_⟩ ?_
  ·simp only[List.take_zero,sk,List.map_nil,List.append_nil]
   refine aq (by simp(disch:=omega) [aD,u,j]) ?_ rfl (by simp;try omega) (by simp[eg];try omega)
   repeat' first|exact hF.wkA|refine ar ?_ ?_ ?_ ?_ ?_|(simp(disch:=omega) [aD,u,j]<;>omega)|omega
  clear hi D Z
  have Z:mz F nx=F:=hF.del (.inr (by omega))
  intro k hk
  refine aa ?_
  by_cases V:k<C.length
  ·have g1:(C.map cP)[k]? =some [pI C[k].1.1,aw C[k].1.2,pB C[k].2]:=ah (f:=cP) V
   have HP:(l++sk cs (C.take k)).length≤100000072:=by simp[sk];omega
   have ho:l++sk cs (C.take (k+1))=l++sk cs (C.take k)++ [(C[k],cs)]:=by
    rw[List.take_succ_eq_append_getElem V,sk,List.map_append,List.append_assoc]
    rfl
   have hM:=JV d (l++sk cs (C.take k)) (C[k],cs)
   rw[←ho]at hM
   have hj:=KS d (l++sk cs (C.take k))
   obtain⟨l2,hG⟩: ∃l2,l2=l++sk cs (C.take (k+1)):=⟨_,rfl⟩
   rw[←hG]at hM
   have HL:=Lib.hid hG
   clear hG ho
   generalize l++sk cs (C.take k)=l1 at*
   have hp:(R++jz d l1)++ [[pI d,pI l1.length,pI C[k].1.1,aw C[k].1.2,pB C[k].2,du cP cs]]=R++jz d l2:=by rw[hM,List.append_assoc]
   have hq:((R++jz d l1).length:Int)=R.length+l1.length:=by rw[List.length_append,hj];omega
   have hw:IntKind.wrap .i64 (((R++jz d l1).length:Int)-(R.length:Int))=l1.length:=by rw[wrap_i64 (by omega)];omega
   have HS:(R++jz d l1).length≤2100000100:=by omega
   have HR:=Lib.hid hp
   clear hM hp hq hj
   repeat' first|simp(disch:=omega)only[go_sem, *,g1,hw,aD,aE,o,wrap_i64]|(with_reducible apply ab)<;>intro h<;>try omega|refine aJ (by simp(disch:=omega)only[am,al,aD,eq_self,↓reduceIte,Option.map_some]<;>rfl) (by intro h;cases h) (aB rfl) (by simp only[List.length_cons,List.length_nil];omega) (by simp only[List.length_cons,List.length_nil];omega) ?_
   rw[HR.out]
   try rw[Z]
   refine⟨k+1, [(nx,nx+2)],by omega,by omega, ?_⟩
   rw[←HL.out]
   refine aq (by simp(disch:=omega) [aD,u,j]) ?_ rfl (by simp;try omega) (by simp[eg];try omega)
   repeat' first|exact hF.wkA|refine ar ?_ ?_ ?_ ?_ ?_|(simp(disch:=omega) [aD,u,j]<;>omega)|omega
  ·obtain rfl:k=C.length:=by omega
   rw[List.take_of_length_le (Nat.le_refl _)]
   repeat' first|simp(disch:=omega)only[go_sem, *,aD,aE,o]|(with_reducible apply ab)<;>intro h<;>try omega
   refine⟨[], [], ?_⟩
   simp(disch:=omega)only[go_sem,aR,aD,aE]
   refine aq (by simp(disch:=omega) [aD]) ?_ rfl (by simp;try omega) (by simp[eg];try omega)
   repeat' first|exact hF.wkA|refine ar ?_ ?_ ?_ ?_ ?_|(simp(disch:=omega) [aD]<;>omega)|omega
set_option maxHeartbeats 8000000 in
theorem FU {p:bI} {d:Nat} {e:Ex} (h:zz p e) (k11:e.op=11) (IH: ∀a∈e.args,Z6 p d a):Z6 p d e:=by
 intro cs R l r nx F hT hR hl j hF
 have ha:=(dY h.1.1).1
 rw[k11]at ha
 obtain⟨a,b,c,g⟩:=Zz (l:=e.args) ha
 have ma:a∈e.args:=by rw[g];simp
 have mb:b∈e.args:=by rw[g];simp
 have mc:c∈e.args:=by rw[g];simp
 have hz:=Ex.sz_eq e
 rw[g]at hz
 simp only[Ex.szs]at hz
 have oa:=iC h ma
 have on:=AZ oa.1
 have HC:(fh a).sz=1+a.sz:=by rw[Ex.sz_eq];simp[fh,Ex.args,Ex.szs]
 have fa:=(mw a oa.1).1
 have fn:(bA (fh a)).1.length≤a.sz:=by
  have e1:bA (fh a)=Bt (bA a):=Bh rfl rfl
  have:=Ex.sz_pos a
  rw[e1]
  unfold Bt
  split
  ·split
   ·rename_i hh
    show(fp _).1.length≤_
    omega
   ·simp
  ·simp
 have O:kF p e cs=kF p a cs++kF p b (cs++(bA a).1)++kF p c (cs++(bA (fh a)).1):=by
  rw[pV,if_neg (by omega),if_pos k11,g,List.nil_append]
  rfl
 have l1:=y8 p a oa.1.1 cs
 have l2:=y8 p b (iC h mb).1.1 (cs++(bA a).1)
 have pf:=tB a oa.1 (by omega)
 have pn:=tB (fh a) on (by omega)
 have hO:Go.Abs.dk (nx+3) [nx] ((nx+2,Ul 11 e)::(nx+1,eV p)::F):=CM (N:=nx+2) (r:=nx) (CM (N':=nx+2) (r':=nx) hF (by omega) (by omega) rfl (.inr (Nat.le_refl _)) (by omega)) (by omega) (by omega) rfl (.inl rfl) (by omega)
 have o: ∀n,nx≤n→am F n=none:=λn h=>ni hF h
 have u: ∀k,r<nx+k:=λk=>by omega
 have W:bl 3 (cs.map cP):=av λ_=>rfl
 have ht:bl 3 ((bA a).1.map cP):=av λ_=>rfl
 have hu:bl 3 ((bA (fh a)).1.map cP):=av λ_=>rfl
 have hg:(e.args.map Ex.row)[0]? =some a.row:=by rw[g];rfl
 have A:(e.args.map Ex.row)[1]? =some b.row:=by rw[g];rfl
 have hv:(e.args.map Ex.row)[2]? =some c.row:=by rw[g];rfl
 have w:e.args.length=3:=by rw[g];rfl
 have lf:(bA a).1.length≤20000:=by omega
 have ln:(bA (fh a)).1.length≤20000:=by omega
 have lc:cs.length≤20000:=by omega
 have p1:=IH a ma cs R l nx (nx+3) ((nx+2,Ul 11 e)::(nx+1,eV p)::F) (by omega) hR (by omega) (by omega) hO
 have p2:=IH b mb (cs++(bA a).1) R (l++kF p a cs) nx (nx+6) ((nx+4,ZP a)::(nx+2,Ul 11 e)::(nx+1,eV p)::F) (by simp only[List.length_append];omega) hR (by simp only[List.length_append];omega) (by omega) (CM hO (by omega) (by omega) rfl (.inl rfl) (by omega))
 have p3:=IH c mc (cs++(bA (fh a)).1) R (l++kF p a cs++kF p b (cs++(bA a).1)) nx (nx+6) ((nx+4,acw a)::(nx+2,Ul 11 e)::(nx+1,eV p)::F) (by simp only[List.length_append];omega) hR (by simp only[List.length_append];omega) (by omega) (CM hO (by omega) (by omega) rfl (.inl rfl) (by omega))
 have h4:mz F (nx+3)=F:=hF.del (.inr (by omega))
 have T:nH (nx+3+1+1) (cs.map cP++(bA a).1.map cP) F=F:=hF.frz (.inr (by omega))
 have HD:nH (nx+3+1+1) (cs.map cP++(bA (fh a)).1.map cP) F=F:=hF.frz (.inr (by omega))
 rw[O,←List.append_assoc,←List.append_assoc]
 rw[Ex.row_eq]at hg A hv
 rw[show fJ (fh a)= .agg [.pure (pI 18),.pure (pS ⟨⟨[]⟩⟩),.pure (pI 0),.pure (pI 0),.pure (pI 0),.pure (pI 0),.pure (pI 0),.pure (pI 0),.pure (pI 0),.pure (pI 0),.pure (aw []),.pure (du eQ []),.pure (.slice [a.row])]from rfl,Ex.row_eq]at pn
 rw[show bT (cs++(bA a).1)= .c (.pure (.slice (cs.map cP++(bA a).1.map cP))) by show AV.c (.pure (.slice (List.map cP (_++_))))=_;rw[List.map_append]]at p2
 rw[show bT (cs++(bA (fh a)).1)= .c (.pure (.slice (cs.map cP++(bA (fh a)).1.map cP))) by show AV.c (.pure (.slice (List.map cP (_++_))))=_;rw[List.map_append]]at p3
 clear IH h ha g ma mb mc hz oa on HC fa fn O l1 l2 hT hl hO
 refine au.ofZ (ress:= [.c (.ref nx)]) oz (by simp) λ_=>aa ?_
 simp only[kX]
 generalize kF p a cs=o1 at*
 generalize kF p b (cs++(bA a).1)=o2 at*
 generalize kF p c (cs++(bA (fh a)).1)=o3 at*
 repeat' first|simp(disch:=omega)only[go_sem, *,aD,aE,k11,o]|(with_reducible apply ab)<;>intro h<;>try omega
 refine an (λk:Nat=>⟨[(1,I d),(3,bT cs),(4,.c (.ref nx)),(5,I R.length),(6,.c (.ptr (nx+1) 0)),(8,.c (.ptr (nx+2) 0)),(23,I k)],(nx,Lj R d (l++([o1,o2,o3].take k).flatten))::(nx+1,eV p)::(nx+2,Ul 11 e)::F,nx+3,nx⟩) (λk=>k≤3) (λk=>3-k) ⟨0, [(nx,r),(nx+1,nx),(nx+2,nx+1)],by omega, ?_⟩ ?_
 ·simp only[List.take_zero,List.flatten_nil,List.append_nil]
  refine aq (by simp(disch:=omega) [aD,u,j]) ?_ rfl (by simp;try omega) (by simp[eg];try omega)
  repeat' first|exact hF.wkA|refine ar ?_ ?_ ?_ ?_ ?_|(simp(disch:=omega) [aD,u,j]<;>omega)|omega
 intro k hk
 have HE:k=0∨k=1∨k=2∨k=3:=by omega
 rcases HE with rfl|rfl|rfl|rfl
 ·refine aa ?_
  rw[show l++([o1,o2,o3].take 0).flatten=l by simp]
  repeat' first|simp(disch:=omega)only[go_sem, *,hg,w,aD,aE,o,wrap_i64]|(with_reducible apply ab)<;>intro h<;>try omega|with_reducible apply ag|with_reducible refine aj (λh=> ?_) ?_|refine Abs.Fd W (by simp only[List.length_map];omega) (by simp only[List.length_map];omega) ?_|refine ap (p1.perm (λnm=>by first|rfl|(simp only[am,al];done)|(simp only[am,al];(repeat' split)<;>first|rfl|omega))) ?_
  refine⟨1, [(nx,nx+3)],by omega,by omega, ?_⟩
  rw[show l++([o1,o2,o3].take 1).flatten=l++o1 by simp]
  refine aq (by simp(disch:=omega) [aD,u,j]) ?_ rfl (by simp;try omega) (by simp[eg];try omega)
  repeat' first|exact hF.wkA|refine ar ?_ ?_ ?_ ?_ ?_|(simp(disch:=omega) [aD,u,j]<;>omega)|omega
 ·rw[show l++([o1,o2,o3].take 1).flatten=l++o1 by simp]
  refine bN (bN (aa ?_))
  repeat' first|simp(disch:=omega)only[go_sem, *,w,aD,aE,o]|(with_reducible apply ab)<;>intro h<;>try omega
  refine eR (t:=true) rfl (λ_=>kU ?_) (λe=>by cases e)
  change AW _ _ _ _ _
  refine bN (uy (bN (aa ?_)))
  repeat' first|simp(disch:=omega)only[go_sem, *]|(with_reducible apply ab)<;>intro h<;>try omega
  refine bN (aa ?_)
  repeat' first|simp(disch:=omega)only[go_sem, *,aD,aE]|(with_reducible apply ab)<;>intro h<;>try omega|refine kR W (by simp only[List.length_map];omega) (by simp only[List.length_map];omega) ?_
  refine bN (bN (aa ?_))
  repeat' first|simp(disch:=omega)only[go_sem, *,w,aD,aE,o]|(with_reducible apply ab)<;>intro h<;>try omega
  refine eR (t:=true) rfl (λ_=> ?_) (λe=>by cases e)
  refine aa ?_
  repeat' first|simp(disch:=omega)only[go_sem, *,hg,w,aD,aE,o,Int.toNat_zero]|(with_reducible apply ab)<;>intro h<;>try omega|with_reducible apply ag|with_reducible refine aj (λh=> ?_) ?_|refine cg pf rfl rfl ?_|refine aJ (by simp(disch:=omega)only[am,al,aD,eq_self,↓reduceIte,Option.map_some]<;>rfl) (by intro h;cases h) ht (by simp only[List.length_map];omega) (by simp only[List.length_map];omega) ?_
  try rw[h4]
  refine EY (nx+3+1+1) 46 3 (cs.map cP++(bA a).1.map cP) (by simp(disch:=omega)only[am,al,aD,eq_self,↓reduceIte,Option.map_some]<;>rfl) ?_
  simp(disch:=omega)only[Ch,sH,iw,nH,BG,List.map_cons,List.map_nil,aD,T,↓reduceIte]
  refine aa ?_
  repeat' first|simp(disch:=omega)only[go_sem, *,A,w,aD,aE,o,Int.toNat_one]|(with_reducible apply ab)<;>intro h<;>try omega|with_reducible apply ag|with_reducible refine aj (λh=> ?_) ?_|refine ap (p2.perm (λnm=>by first|rfl|(simp only[am,al];done)|(simp only[am,al];(repeat' split)<;>first|rfl|omega))) ?_
  change AW _ _ _ _ _
  refine aa ?_
  repeat' first|simp(disch:=omega)only[go_sem, *,wrap_i64]|(with_reducible apply ab)<;>intro h<;>try omega
  refine⟨2, [(nx,nx+6)],by omega,by omega, ?_⟩
  rw[show l++([o1,o2,o3].take 2).flatten=l++o1++o2 by simp]
  refine aq (by simp(disch:=omega) [aD,u,j]) ?_ rfl (by simp;try omega) (by simp[eg];try omega)
  repeat' first|exact hF.wkA|refine ar ?_ ?_ ?_ ?_ ?_|(simp(disch:=omega) [aD,u,j]<;>omega)|omega
 ·rw[show l++([o1,o2,o3].take 2).flatten=l++o1++o2 by simp]
  refine bN (bN (aa ?_))
  repeat' first|simp(disch:=omega)only[go_sem, *,w,aD,aE,o]|(with_reducible apply ab)<;>intro h<;>try omega
  refine eR (t:=true) rfl (λ_=>kU ?_) (λe=>by cases e)
  change AW _ _ _ _ _
  refine bN (uy (bN (aa ?_)))
  repeat' first|simp(disch:=omega)only[go_sem, *]|(with_reducible apply ab)<;>intro h<;>try omega
  refine bN (aa ?_)
  repeat' first|simp(disch:=omega)only[go_sem, *,aD,aE]|(with_reducible apply ab)<;>intro h<;>try omega|refine kR W (by simp only[List.length_map];omega) (by simp only[List.length_map];omega) ?_
  refine bN (bN (aa ?_))
  repeat' first|simp(disch:=omega)only[go_sem, *,w,aD,aE,o]|(with_reducible apply ab)<;>intro h<;>try omega
  refine eR (t:=true) rfl (λ_=> ?_) (λe=>by cases e)
  refine aa ?_
  repeat' first|simp(disch:=omega)only[go_sem, *,hg,w,aD,aE,o,Int.toNat_zero]|(with_reducible apply ab)<;>intro h<;>try omega|with_reducible apply ag|with_reducible refine aj (λh=> ?_) ?_|refine cg pn rfl rfl ?_|refine aJ (by simp(disch:=omega)only[am,al,aD,eq_self,↓reduceIte,Option.map_some]<;>rfl) (by intro h;cases h) hu (by simp only[List.length_map];omega) (by simp only[List.length_map];omega) ?_
  try rw[h4]
  refine EY (nx+3+1+1) 46 3 (cs.map cP++(bA (fh a)).1.map cP) (by simp(disch:=omega)only[am,al,aD,eq_self,↓reduceIte,Option.map_some]<;>rfl) ?_
  simp(disch:=omega)only[Ch,sH,iw,nH,BG,List.map_cons,List.map_nil,aD,HD,↓reduceIte]
  refine aa ?_
  repeat' first|simp(disch:=omega)only[go_sem, *,hv,w,aD,aE,o,Int.reduceToNat]|(with_reducible apply ab)<;>intro h<;>try omega|with_reducible apply ag|with_reducible refine aj (λh=> ?_) ?_|refine ap (p3.perm (λnm=>by first|rfl|(simp only[am,al];done)|(simp only[am,al];(repeat' split)<;>first|rfl|omega))) ?_
  change AW _ _ _ _ _
  refine aa ?_
  repeat' first|simp(disch:=omega)only[go_sem, *,wrap_i64]|(with_reducible apply ab)<;>intro h<;>try omega
  refine⟨3, [(nx,nx+6)],by omega,by omega, ?_⟩
  rw[show l++([o1,o2,o3].take 3).flatten=l++o1++o2++o3 by simp]
  refine aq (by simp(disch:=omega) [aD,u,j]) ?_ rfl (by simp;try omega) (by simp[eg];try omega)
  repeat' first|exact hF.wkA|refine ar ?_ ?_ ?_ ?_ ?_|(simp(disch:=omega) [aD,u,j]<;>omega)|omega
 ·rw[show l++([o1,o2,o3].take 3).flatten=l++o1++o2++o3 by simp]
  refine aa ?_
  repeat' first|simp(disch:=omega)only[go_sem, *,w,aD,aE,o]|(with_reducible apply ab)<;>intro h<;>try omega
  refine⟨[], [], ?_⟩
  simp(disch:=omega)only[go_sem,aR,aD,aE]
  refine aq (by simp(disch:=omega) [aD]) ?_ rfl (by simp;try omega) (by simp[eg];try omega)
  repeat' first|exact hF.wkA|refine ar ?_ ?_ ?_ ?_ ?_|(simp(disch:=omega) [aD]<;>omega)|omega
theorem Ju {p:bI} {d:Nat} (hI:j0 p) (e:Ex):zz p e→Z6 p d e:=by
 refine Ex.ind (p:=λe=>zz p e→Z6 p d e) (λe ih h=> ?_) e
 by_cases k3:e.op=3
 ·exact CV hI h k3
 ·by_cases k11:e.op=11
  ·exact FU h k11 λa ha=>ih a ha (iC h ha)
  ·exact BN h k3 k11 λa ha=>ih a ha (iC h ha)
theorem EK {p:bI} (hf:j0 p) (hH:pR p) (w:(bQ p).2=0→Qb p):ac Tryz.prog x6 [fO p] (j5 a6 (X4 p)):=by
 refine ac.of Ip (by simp) λhb=>aa ?_
 conv in xV=>cbv
 have pv:=iN hf hH
 by_cases h0:(bQ p).2=0
 ·have h:=w h0
  have HW:=h.1
  rw[X4,if_neg (not_not_intro h0)]
  rw[h0]at pv
  clear w h0
  repeat' first|simp(disch:=omega)only[go_sem, *]|(with_reducible apply ab)<;>intro h<;>try omega|refine aF pv rfl rfl ?_
  refine dR 3 50 6 rfl (by decide) ?_
  refine an (λk:Nat=>⟨[(1,.c (.ptr 0 0)),(3,.c (.ref 1)),(6,I k)], [(1,.arr 50 6 ((ll p k).map a6)),(0,eV p)],2,0⟩) (λk=>k≤p.defs.length) (λk=>p.defs.length-k) ⟨0, [],by omega,by simp[ll]⟩ ?_
  clear pv
  intro k hk
  refine aa ?_
  by_cases D:k<p.defs.length
  ·have hd:=h.2 _ (List.getElem_mem D)
   have hL:=Ga h k
   have pe:=Ju (d:=k) hf p.defs[k].body hd.1 [] ((ll p k).map a6) [] 1 2 [(0,eV p)] (by have:=hd.2;simp;omega) (by simp;omega) (by have:=hd.2;simp;omega) (by omega) ⟨by omega,rfl,by simp[ju],trivial⟩
   have h5:=KR p p.defs[k] k
   have hs:=BY D
   have e0:((ll p k).map a6)++jz k []=(ll p k).map a6:=List.append_nil _
   have e1:((ll p k).map a6)++jz k ([]++kF p p.defs[k].body [])=(ll p (k+1)).map a6:=by rw[List.nil_append,←h5,hs,List.map_append]
   rw[Lj,Lj,e0,e1,List.length_map]at pe
   have pc:=au.nil4 pe
   have g1:=ah (f:=da) D
   clear pe h5 hs e0 e1 hd
   repeat' first|simp(disch:=omega)only[go_sem, *,g1,da,wrap_i64]|(with_reducible apply ab)<;>intro h<;>try omega|with_reducible apply ag|with_reducible refine aj (λh=> ?_) ?_|refine ap (pc.perm (λnm=>by first|rfl|(simp only[am,al];done)|(simp only[am,al];(repeat' split)<;>first|rfl|omega))) ?_
   exact⟨k+1, [(1,2)],by omega,by omega,by simp⟩
  ·obtain rfl:k=p.defs.length:=by omega
   rw[show ll p p.defs.length=qM p by unfold ll qM;rw[List.take_of_length_le (Nat.le_refl _)]]
   repeat' first|simp(disch:=omega)only[go_sem, *]|(with_reducible apply ab)<;>intro h<;>try omega
   all_goals rfl
 ·rw[X4,if_pos h0]
  clear w
  repeat' first|simp(disch:=omega)only[go_sem, *,h0]|(with_reducible apply ab)<;>intro h<;>try omega|refine aF pv rfl rfl ?_
  all_goals rfl
abbrev abm (x:Jp):AV:= .agg [.pure (pI x.1),.pure (pI x.2.1),.pure (pI x.2.2.1.1.1),.pure (aw x.2.2.1.1.2),.pure (pB x.2.2.1.2)]
theorem FK (x:Jp):ac Tryz.prog nO [abm x,abm x] (Go.Abs.B true):=by
 refine ac.of wR (by simp) λhb=>aa ?_
 conv in oA=>cbv
 have pc:=Lm x.2.2.1 x.2.2.1
 rw[decide_eq_true rfl]at pc
 repeat' first|simp(disch:=omega)only[go_sem, *]|(with_reducible apply ab)<;>intro h<;>try omega|with_reducible apply ag|with_reducible refine aj (λh=> ?_) ?_|refine cg pc rfl rfl ?_|refine aF pc rfl rfl ?_
 all_goals rfl
