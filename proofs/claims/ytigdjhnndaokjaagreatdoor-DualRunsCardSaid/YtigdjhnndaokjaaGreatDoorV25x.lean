import Derived.Test.YtigdjhnndaokjaaGreatDoorV25w
set_option linter.unusedVariables false
set_option linter.unusedSimpArgs false
set_option maxHeartbeats 4000000
set_option maxRecDepth 1000000
open Go.Proofs.Tryz renaming prog→Pa0
namespace Go.Proofs.YtigdjhnndaokjaaGreatDoor
open Go.Abs Go.RowKit
def TA (P:Program) (f:FuncId) (args:List AV) (x:Bool×Int):Prop:= ∃b,ac P f args (.tup [Go.Abs.B b,I x.2])∧(x.2=0→x.1=b)
variable {P:Program}{f:FuncId}{args:List AV}
theorem TA.of {b:Bool} {e:Int} (h:ac P f args (.tup [Go.Abs.B b,I e])):TA P f args (b,e):=⟨b,h,λ_=>rfl⟩
theorem TA.err {b b':Bool} {e:Int} (h:ac P f args (.tup [Go.Abs.B b,I e])) (he:e≠0):TA P f args (b',e):=⟨b,h,λh0=>absurd h0 he⟩
variable {e:Ex}
theorem TB.arg {a:Ex} (h:TB e) (ha:a∈e.args):TB a:= λb hb=>h b (acb ha b hb)
theorem TB.ix (h:TB e) {x:Ix} (hx:x∈e.idx):d8 x.1∧ ∀f∈x.2.2,d8 f:=by
 have h1:=(h e (ZC e)).2
 have hm: ∀l,l∈x.1::x.2.2→l∈e.forms:= λl hl=>zC3 _ (zM9.2 ⟨x,hx,hl⟩)
 exact⟨h1 _ (hm _ zC5),λf hf=>h1 _ (hm _ (zC3 _ hf))⟩
theorem TB.lin (h:TB e):d8 e.lin:=(h e (ZC e)).2 _ zC5
variable {vars:List ByteArray}
theorem Vi {p:bu} {M A:List Nm} (hM:wR p M A) (hi:TB e) (hz: ∀x∈e.idx,jj p vars x=0): ∀x∈e.idx,T8 M x:= λx hx=>by
 refine⟨hi.ix hx,λhn=> ?_⟩
 obtain⟨t,ds,f1,f2,f3⟩:=Qv (hz x hx) hn
 obtain⟨T,t1,t2,t3,t4,_⟩:=hM _ _ _ f1
 exact⟨T,t1,t4,by omega,by rw[t2];exact f2⟩
def opV (p:bu) (vars:List ByteArray) (M A:List Nm) (env:List aG) (f:FuncId) (pre:List AV) (a:Ex):Prop:= ∃t v er,ac Pa0 f (pre++ [fp a]) (.tup [Ve t v,I er])∧(jr M A env a).2=er∧(er=0→(jr M A env a).1=(t,v)∧t=tyE p vars a∧jZ t v)
theorem opV.of {p:bu} {M A:List Nm} {env:List aG} {pre:List AV} {a:Ex} (hM:wR p M A) (hw:W6 p vars a) (hc: ¬aM a.op) (h:Ih Pa0 f (pre++ [fp a]) (jr M A env a)):opV p vars M A env f pre a:=by
 obtain⟨t,v,h1,h2⟩:=h
 refine⟨t,v,_,h1,rfl,λh0=> ?_⟩
 have hv:=h2 h0
 obtain⟨o1,o2⟩:=JI hM a hw hc h0
 rw[hv]at o1 o2
 simp only at o1 o2
 rw[←o1]at o2
 exact⟨hv,o1,o2⟩
abbrev tQ:Int.toNat 2=2:=rfl
section
variable {p : bu} {vars : List ByteArray} {M A : List Nm} {env : List aG}
set_option maxHeartbeats 8000000 in
theorem SW (hM:wR p M A) (he: ∀m∈env,aH m.2) (e:Ex):W6 p vars e→TB e→(¬aM e.op→Ih Pa0 dN [.agg [Xi M A env],fp e] (jr M A env e))∧(aM e.op→TA Pa0 dM [.agg [Xi M A env],fp e] (Ar M A env e)):=by
 refine Ex.ind (p:= λe=>W6 p vars e→TB e→(¬aM e.op→Ih Pa0 dN [.agg [Xi M A env],fp e] (jr M A env e))∧(aM e.op→TA Pa0 dM [.agg [Xi M A env],fp e] (Ar M A env e))) (λe ih hw hi=> ?_) e
 have d: ∀a,a∈e.args→ ¬aM a.op→opV p vars M A env dN [.agg [Xi M A env]] a:= λa ha hc=>opV.of hM (hw.arg ha) hc ((ih a ha (hw.arg ha) (hi.arg ha)).1 hc)
 have j: ∀a,a∈e.args→aM a.op→TA Pa0 dM [.agg [Xi M A env],fp a] (Ar M A env a):= λa ha hc=>(ih a ha (hw.arg ha) (hi.arg ha)).2 hc
 clear ih
 have k:=hw.node
 rcases hw.kinds with⟨g|g|g,ha⟩|⟨g|g|g,a,ha⟩|⟨g,c,a,b,ha⟩|⟨g,a,b,ha⟩|⟨g,a,b,ha⟩|⟨g,a,b,ha⟩
 ·refine⟨λ_=> ?_,λhc=>absurd hc zS6⟩
  rw[XG g]
  refine Ih.of (ac.of aO zR6 λ_=>aa ?_)
  clear hw hi d j k hM ha
  conv in aN=>reduce;simp only[Int.reduceOfNat,Int.reduceNegSucc]
  repeat' first|simp(disch:=omega)only[go_sem, *,g]|apply ab<;>intro h<;>try omega|refine ak bG ?_
 ·refine⟨λ_=> ?_,λhc=>absurd hc zS6⟩
  rw[YH g]
  have p1:=iM hi.lin.1 hi.lin.2 he
  generalize io e.lin.1 e.lin.2 env=R at*
  obtain⟨n,r⟩:=R
  refine Ih.of (ac.of aO zR6 λ_=>aa ?_)
  clear hw hi d j k hM ha
  conv in aN=>reduce;simp only[Int.reduceOfNat,Int.reduceNegSucc]
  simp only at p1 ⊢
  by_cases h0:r=0
  ·subst h0
   by_cases h1:2147483647<n
   ·rw[if_pos ⟨rfl,.inl h1⟩]
    repeat' first|simp(disch:=omega)only[go_sem, *,g,h1]|apply zA1<;>intro h<;>try omega|refine ak p1 ?_|refine ak bG ?_
   ·by_cases h2:n< -2147483647
    ·rw[if_pos ⟨rfl,.inr h2⟩]
     exact yB1
    ·rw[if_neg zV4]
     exact yB1
  ·rw[if_neg (λh=>h0 h.1)]
   repeat' first|simp(disch:=omega)only[go_sem, *,g,h0]|apply zA1<;>intro h<;>try omega|refine ak p1 ?_|refine ak bG ?_
 ·refine⟨λ_=> ?_,λhc=>absurd hc zS6⟩
  rw[YG g]
  obtain⟨ds,f1,f2,f3⟩:=hw.rd g
  obtain⟨⟨t1,t2,t3,t4,t5⟩,⟨⟨v1,v2⟩,v3,v4⟩,p1,hv⟩:=Nj hM f1 f2 (Vi hM hi f3) he
  refine⟨_,_,ac.of aO zR6 λ_=>aa ?_,hv⟩
  clear hw hi d j k hM ha hv f1 f2 f3 he
  generalize (rdD M A env e.name e.idx).2=r at*
  conv in aN=>reduce;simp only[Int.reduceOfNat,Int.reduceNegSucc]
  repeat' first|simp(disch:=omega)only[go_sem, *,g]|apply ab<;>intro h<;>try omega|refine ak p1 ?_
 ·refine⟨λ_=> ?_,λhc=>absurd hc zS6⟩
  rw[aag g ha]
  obtain⟨t,v,er,p1,h1,h2⟩:=d a zS4 (λhh=>by
   have:=(hw.cond (i:=0) zS3).1 hh
   unfold b6 at this
   omega)
  rw[h1]
  by_cases h0:er=0
  ·subst h0
   obtain⟨e1,e2,e3⟩:=h2 rfl
   rw[if_neg zR6,e1]
   obtain⟨⟨u1,u2,u3,u4,u5⟩,⟨⟨w1,w2⟩,w3,w4⟩,p2,hv⟩:=yO (op:=8) zR5 e3 e3
   refine⟨_,_,ac.of aO zR6 λ_=>aa ?_,hv⟩
   clear hw hi d j k hM hv h1 h2 e1 e2 e3 he
   generalize (C6 8 (t,v) (t,v)).2=r at*
   obtain⟨t1,t2,t3,t4,t5⟩:=t
   obtain⟨⟨v1,v2⟩,v3,v4⟩:=v
   simp only[zD2,zD4]at p1
   conv in aN=>reduce;simp only[Int.reduceOfNat,Int.reduceNegSucc]
   repeat' first|simp(disch:=omega)only[go_sem, *,g,ha,zB8,zC9,zB3,zB0,Ex.row_eq]|apply ab<;>intro h<;>try omega|refine ak p1 ?_|refine ak p2 ?_
  ·rw[if_pos h0]
   refine Ih.of (t:=(0,0,0,0,0)) (v:=((0,0),(0,0))) (ac.of aO zR6 λ_=>aa ?_)
   clear hw hi d j k hM h1 h2 he
   obtain⟨t1,t2,t3,t4,t5⟩:=t
   obtain⟨⟨v1,v2⟩,v3,v4⟩:=v
   simp only[zD2,zD4]at p1
   conv in aN=>reduce;simp only[Int.reduceOfNat,Int.reduceNegSucc]
   repeat' first|simp(disch:=omega)only[go_sem, *,g,ha,h0,zB8,zC9,zB3,zB0,Ex.row_eq]|apply ab<;>intro h<;>try omega|refine ak p1 ?_
 ·refine⟨λ_=> ?_,λhc=>absurd hc zS6⟩
  rw[UH g ha]
  obtain⟨ta,va,era,pa,o,s⟩:=d a zS4 (λhh=>by
   have:=(hw.cond (i:=0) zS3).1 hh
   unfold b6 at this
   omega)
  rw[o]
  by_cases h0:era=0
  ·subst h0
   obtain⟨e1,e2,e3⟩:=s rfl
   rw[if_neg zR6,e1]
   have p2:=M2 e3 (k.2.2.2.1.1 (.inr g))
   clear o s e1 e2 e3
   clear hw hi d j k hM he
   generalize Bi (ta,va) e.ty=r at*
   obtain⟨⟨u1,u2,u3,u4,u5⟩,⟨w1,w2⟩,w3,w4⟩:=r
   refine Ih.of (ac.of aO zR6 λ_=>aa ?_)
   obtain⟨sa1,sa2,sa3,sa4,sa5⟩:=ta
   obtain⟨⟨va1,va2⟩,va3,va4⟩:=va
   simp only[zD2,zD4]at pa
   conv in aN=>reduce;simp only[Int.reduceOfNat,Int.reduceNegSucc]
   repeat' first|simp(disch:=omega)only[go_sem, *,g,ha,zB8,zC9,zB3,nY,tQ,zB0,zB4,Ex.row_eq]|apply ab<;>intro h<;>try omega|refine ak pa ?_|refine ak p2 ?_
  ·rw[if_pos h0]
   refine Ih.of (t:=(0,0,0,0,0)) (v:=((0,0),(0,0))) (ac.of aO zR6 λ_=>aa ?_)
   clear o s
   clear hw hi d j k hM he
   obtain⟨sa1,sa2,sa3,sa4,sa5⟩:=ta
   obtain⟨⟨va1,va2⟩,va3,va4⟩:=va
   simp only[zD2,zD4]at pa
   conv in aN=>reduce;simp only[Int.reduceOfNat,Int.reduceNegSucc]
   exact zX4
 ·refine⟨λhc=>absurd (show aM e.op by unfold aM;omega) hc,λ_=> ?_⟩
  rw[ZT g ha]
  obtain⟨ba,pa,ha_⟩:=j a zS4 ((hw.cond (i:=0) zS3).2 zT1)
  obtain⟨⟨x,r⟩,hx⟩: ∃y,y=Ar M A env a:=⟨_,rfl⟩
  rw[←hx]at pa ha_ ⊢
  simp only at pa ha_ ⊢
  refine⟨!ba,ac.of cM zR6 λ_=>aa ?_,λh=>by rw[ha_ h]⟩
  clear ha_ hx
  clear hw hi d j k hM he
  conv in b9=>reduce;simp only[Int.reduceOfNat,Int.reduceNegSucc]
  repeat' first|simp(disch:=omega)only[go_sem, *,g,ha,zB8,zC9,zB3,nY,tQ,zB0,zB4,Ex.row_eq]|apply ab<;>intro h<;>try omega|refine ak pa ?_
 ·refine⟨λ_=> ?_,λhc=>absurd hc zS6⟩
  rw[TZ g ha]
  obtain⟨bc,pc,hc_⟩:=j c zS4 ((hw.cond (i:=0) zS3).2 zT1)
  obtain⟨ta,va,era,pa,o,s⟩:=d a zS4 (λhh=>by
   have:=(hw.cond (i:=1) zS3).1 hh
   unfold b6 at this
   omega)
  obtain⟨tb,vb,erb,pb,u,w⟩:=d b zS4 (λhh=>by
   have:=(hw.cond (i:=2) zS3).1 hh
   unfold b6 at this
   omega)
  obtain⟨⟨x,r⟩,hx⟩: ∃y,y=Ar M A env c:=⟨_,rfl⟩
  rw[←hx]at pc hc_ ⊢
  simp only at pc hc_ ⊢
  by_cases h0:r=0
  ·subst h0
   obtain rfl:=hc_ rfl
   rw[if_neg zR6]
   clear hc_ hx
   cases x
   ·rw[if_neg zR6]
    refine⟨tb,vb, ?_,λh=>(w (u▸h)).1⟩
    rw[u]
    refine ac.of aO zR6 λ_=>aa ?_
    clear o s u w pa
    clear hw hi d j k hM he
    obtain⟨sb1,sb2,sb3,sb4,sb5⟩:=tb
    obtain⟨⟨vb1,vb2⟩,vb3,vb4⟩:=vb
    simp only[zD2,zD4]at pb
    conv in aN=>reduce;simp only[Int.reduceOfNat,Int.reduceNegSucc]
    repeat' first|simp(disch:=omega)only[go_sem, *,g,ha,zB8,zC9,zB3,nY,tQ,zB0,zB4,Ex.row_eq]|apply ab<;>intro h<;>try omega|refine ak pc ?_|refine ak pb ?_
   ·rw[if_pos rfl]
    refine⟨ta,va, ?_,λh=>(s (o▸h)).1⟩
    rw[o]
    refine ac.of aO zR6 λ_=>aa ?_
    clear o s u w pb
    clear hw hi d j k hM he
    obtain⟨sa1,sa2,sa3,sa4,sa5⟩:=ta
    obtain⟨⟨va1,va2⟩,va3,va4⟩:=va
    simp only[zD2,zD4]at pa
    conv in aN=>reduce;simp only[Int.reduceOfNat,Int.reduceNegSucc]
    repeat' first|simp(disch:=omega)only[go_sem, *,g,ha,zB8,zC9,zB3,nY,tQ,zB0,zB4,Ex.row_eq]|apply ab<;>intro h<;>try omega|refine ak pc ?_|refine ak pa ?_
  ·rw[if_pos h0]
   refine Ih.of (t:=(0,0,0,0,0)) (v:=((0,0),(0,0))) (ac.of aO zR6 λ_=>aa ?_)
   clear o s u w pa pb hc_ hx
   clear hw hi d j k hM he
   conv in aN=>reduce;simp only[Int.reduceOfNat,Int.reduceNegSucc]
   repeat' first|simp(disch:=omega)only[go_sem, *,g,ha,h0,zB8,zC9,zB3,nY,tQ,zB0,zB4,Ex.row_eq]|apply ab<;>intro h<;>try omega|refine ak pc ?_
 ·refine⟨λhc=>absurd (show aM e.op by unfold aM;omega) hc,λ_=> ?_⟩
  rw[acg zR5 ha]
  have q:=(hw.same (.inr zR5) ha).1
  obtain⟨ta,va,era,pa,o,s⟩:=d a zS4 (λhh=>by
   have:=(hw.cond (i:=0) zS3).1 hh
   unfold b6 at this
   omega)
  obtain⟨tb,vb,erb,pb,u,w⟩:=d b zS4 (λhh=>by
   have:=(hw.cond (i:=1) zS3).1 hh
   unfold b6 at this
   omega)
  rw[o,u]
  by_cases h0:era=0
  ·subst h0
   obtain⟨e1,e2,e3⟩:=s rfl
   rw[if_neg zR6,e1]
   by_cases h1:erb=0
   ·subst h1
    obtain⟨f1,f2,f3⟩:=w rfl
    rw[if_neg zR6,f1]
    obtain rfl:ta=tb:=by rw[e2,f2];exact q
    have p2:=uo e3.1 e3.2.1 f3.2.1 (dt e3.1 e3.2.1) (dt e3.1 f3.2.1)
    refine TA.of (ac.of cM zR6 λ_=>aa ?_)
    simp only
    generalize rL ta va.1 vb.1=n at*
    clear o s u w e1 e2 e3 f1 f2 f3 q
    clear hw hi d j k hM he
    obtain⟨⟨v1,v2⟩,v3,v4⟩:=vb
    obtain⟨sa1,sa2,sa3,sa4,sa5⟩:=ta
    obtain⟨⟨va1,va2⟩,va3,va4⟩:=va
    simp only[zD2,zD4]at pa
    simp only[zD2,zD4]at pb
    conv in b9=>reduce;simp only[Int.reduceOfNat,Int.reduceNegSucc]
    rcases g with g|g|g
    ·rw[g,show Sy 13 n=decide (n<0)from rfl]
     exact zX3
    ·rw[g,show Sy 14 n=decide (n≤0)from rfl]
     exact zX3
    ·rw[g,show Sy 15 n=decide (n=0)from rfl]
     exact zX3
   ·rw[if_pos h1]
    refine TA.of (ac.of cM zR6 λ_=>aa ?_)
    clear o s u w e1 e2 e3 q
    clear hw hi d j k hM he
    obtain⟨sa1,sa2,sa3,sa4,sa5⟩:=ta
    obtain⟨⟨va1,va2⟩,va3,va4⟩:=va
    simp only[zD2,zD4]at pa
    obtain⟨sb1,sb2,sb3,sb4,sb5⟩:=tb
    obtain⟨⟨vb1,vb2⟩,vb3,vb4⟩:=vb
    simp only[zD2,zD4]at pb
    conv in b9=>reduce;simp only[Int.reduceOfNat,Int.reduceNegSucc]
    rcases g with g|g|g
    all_goals
     repeat' first|simp(disch:=omega)only[go_sem, *,g,ha,h1,zB8,zC9,zB3,nY,tQ,zB0,zB4,Ex.row_eq]|apply ab<;>intro h<;>try omega|refine ak pa ?_|refine ak pb ?_
  ·rw[if_pos h0]
   refine TA.of (ac.of cM zR6 λ_=>aa ?_)
   clear o s u w pb q
   clear hw hi d j k hM he
   obtain⟨sa1,sa2,sa3,sa4,sa5⟩:=ta
   obtain⟨⟨va1,va2⟩,va3,va4⟩:=va
   simp only[zD2,zD4]at pa
   conv in b9=>reduce;simp only[Int.reduceOfNat,Int.reduceNegSucc]
   rcases g with g|g|g
   all_goals
    exact zX4
 ·refine⟨λhc=>absurd (show aM e.op by unfold aM;omega) hc,λ_=> ?_⟩
  rw[acx g ha]
  obtain⟨ba,pa,ha_⟩:=j a zS4 ((hw.cond (i:=0) zS3).2 zT1)
  obtain⟨bb,pb,hb_⟩:=j b zS4 ((hw.cond (i:=1) zS3).2 zT1)
  obtain⟨⟨x,r⟩,hx⟩: ∃y,y=Ar M A env a:=⟨_,rfl⟩
  rw[←hx]at pa ha_ ⊢
  obtain⟨⟨x',r'⟩,z⟩: ∃y,y=Ar M A env b:=⟨_,rfl⟩
  rw[←z]at pb hb_ ⊢
  simp only at pa ha_ pb hb_ ⊢
  by_cases h0:r=0
  ·subst h0
   obtain rfl:=ha_ rfl
   rw[if_neg zR6]
   refine⟨if e.op=16 then x&&bb else x||bb,ac.of cM zR6 λ_=>aa ?_,λh=>by rw[hb_ h]⟩
   clear ha_ hb_ hx z
   clear hw hi d j k hM he
   conv in b9=>reduce;simp only[Int.reduceOfNat,Int.reduceNegSucc]
   rcases g with g|g
   ·rw[if_pos g]
    cases x
    ·repeat' first|simp(disch:=omega)only[go_sem, *,g,ha,zB8,zC9,zB3,nY,tQ,zB0,zB4,Ex.row_eq]|apply ab<;>intro h<;>try omega|refine ak pa ?_|refine ak pb ?_
     all_goals rfl
    ·repeat' first|simp(disch:=omega)only[go_sem, *,g,ha,zB8,zC9,zB3,nY,tQ,zB0,zB4,Ex.row_eq]|apply ab<;>intro h<;>try omega|refine ak pa ?_|refine ak pb ?_
     all_goals rfl
   ·rw[if_neg zR5]
    cases x
    ·repeat' first|simp(disch:=omega)only[go_sem, *,g,ha,zB8,zC9,zB3,nY,tQ,zB0,zB4,Ex.row_eq]|apply ab<;>intro h<;>try omega|refine ak pa ?_|refine ak pb ?_
     all_goals rfl
    ·repeat' first|simp(disch:=omega)only[go_sem, *,g,ha,zB8,zC9,zB3,nY,tQ,zB0,zB4,Ex.row_eq]|apply ab<;>intro h<;>try omega|refine ak pa ?_|refine ak pb ?_
     all_goals rfl
  ·rw[if_pos h0]
   refine TA.of (ac.of cM zR6 λ_=>aa ?_)
   clear ha_ hb_ hx z pb
   clear hw hi d j k hM he
   conv in b9=>reduce;simp only[Int.reduceOfNat,Int.reduceNegSucc]
   rcases g with g|g
   all_goals
    exact zX4
 ·refine⟨λ_=> ?_,λhc=>absurd hc zS6⟩
  rw[Yb ⟨⟨g.1,g.2.1⟩,g.2.2⟩ ha]
  have q:=(hw.same (.inl g) ha).1
  obtain⟨ta,va,era,pa,o,s⟩:=d a zS4 (λhh=>by
   have:=(hw.cond (i:=0) zS3).1 hh
   unfold b6 at this
   omega)
  obtain⟨tb,vb,erb,pb,u,w⟩:=d b zS4 (λhh=>by
   have:=(hw.cond (i:=1) zS3).1 hh
   unfold b6 at this
   omega)
  rw[o,u]
  have g1: ¬e.op=1∧ ¬e.op=2∧ ¬e.op=3∧ ¬e.op=11∧ ¬e.op=12∧ ¬e.op=8:=by omega
  obtain⟨g1,g2,g3,g4,g5,g6⟩:=g1
  by_cases h0:era=0
  ·subst h0
   obtain⟨e1,e2,e3⟩:=s rfl
   rw[if_neg zR6,e1]
   by_cases h1:erb=0
   ·subst h1
    obtain⟨f1,f2,f3⟩:=w rfl
    rw[if_neg zR6,f1]
    obtain rfl:ta=tb:=by rw[e2,f2];exact q
    obtain⟨⟨u1,u2,u3,u4,u5⟩,⟨⟨w1,w2⟩,w3,w4⟩,p2,hv⟩:=yO (op:=e.op) ⟨g.1,g.2.1⟩ e3 f3
    refine⟨_,_,ac.of aO zR6 λ_=>aa ?_,hv⟩
    generalize (C6 e.op (ta,va) (ta,vb)).2=r at*
    clear o s u w e1 e2 e3 f1 f2 f3 q hv g
    clear hw hi d j k hM he
    obtain⟨⟨v1,v2⟩,v3,v4⟩:=vb
    obtain⟨sa1,sa2,sa3,sa4,sa5⟩:=ta
    obtain⟨⟨va1,va2⟩,va3,va4⟩:=va
    simp only[zD2,zD4]at pa
    simp only[zD2,zD4]at pb
    conv in aN=>reduce;simp only[Int.reduceOfNat,Int.reduceNegSucc]
    repeat' first|simp(disch:=omega)only[go_sem, *,g1,g2,g3,g4,g5,g6,ha,zB8,zC9,zB3,nY,tQ,zB0,zB4,Ex.row_eq]|apply ab<;>intro h<;>try omega|refine ak pa ?_|refine ak pb ?_|refine ak p2 ?_
   ·rw[if_pos h1]
    refine Ih.of (t:=(0,0,0,0,0)) (v:=((0,0),(0,0))) (ac.of aO zR6 λ_=>aa ?_)
    clear o s u w e1 e2 e3 q g
    clear hw hi d j k hM he
    obtain⟨sa1,sa2,sa3,sa4,sa5⟩:=ta
    obtain⟨⟨va1,va2⟩,va3,va4⟩:=va
    simp only[zD2,zD4]at pa
    obtain⟨sb1,sb2,sb3,sb4,sb5⟩:=tb
    obtain⟨⟨vb1,vb2⟩,vb3,vb4⟩:=vb
    simp only[zD2,zD4]at pb
    conv in aN=>reduce;simp only[Int.reduceOfNat,Int.reduceNegSucc]
    repeat' first|simp(disch:=omega)only[go_sem, *,g1,g2,g3,g4,g5,g6,ha,h1,zB8,zC9,zB3,nY,tQ,zB0,zB4,Ex.row_eq]|apply ab<;>intro h<;>try omega|refine ak pa ?_|refine ak pb ?_
  ·rw[if_pos h0]
   refine Ih.of (t:=(0,0,0,0,0)) (v:=((0,0),(0,0))) (ac.of aO zR6 λ_=>aa ?_)
   clear o s u w pb q g
   clear hw hi d j k hM he
   obtain⟨sa1,sa2,sa3,sa4,sa5⟩:=ta
   obtain⟨⟨va1,va2⟩,va3,va4⟩:=va
   simp only[zD2,zD4]at pa
   conv in aN=>reduce;simp only[Int.reduceOfNat,Int.reduceNegSucc]
   repeat' first|simp(disch:=omega)only[go_sem, *,g1,g2,g3,g4,g5,g6,ha,h0,zB8,zC9,zB3,nY,tQ,zB0,zB4,Ex.row_eq]|apply ab<;>intro h<;>try omega|refine ak pa ?_
end
end Go.Proofs.YtigdjhnndaokjaaGreatDoor
