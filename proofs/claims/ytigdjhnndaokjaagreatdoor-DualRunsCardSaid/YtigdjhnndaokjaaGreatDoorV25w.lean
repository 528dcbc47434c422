import Derived.Test.YtigdjhnndaokjaaGreatDoorVGrowI
import Derived.Test.YtigdjhnndaokjaaGreatDoorVRnp
set_option linter.unusedVariables false
set_option linter.unusedSimpArgs false
set_option maxHeartbeats 4000000
set_option maxRecDepth 1000000
open Go.Proofs.Tryz renaming prog→Pa0
namespace Go.Proofs.YtigdjhnndaokjaaGreatDoor
open Go.Abs Go.RowKit
abbrev Ve (t:Ty) (v:Du):AV:= .agg [.pure (pI t.1),.pure (pI t.2.1),.pure (pI t.2.2.1),.pure (pI t.2.2.2.1),.pure (pI t.2.2.2.2),.pure (pI v.1.1),.pure (pI v.1.2),.pure (pI v.2.1),.pure (pI v.2.2)]
def Ih (P:Program) (f:FuncId) (args:List AV) (x:Nb×Int):Prop:= ∃t v,ac P f args (.tup [Ve t v,I x.2])∧(x.2=0→x.1=(t,v))
variable {P:Program}{f:FuncId}{args:List AV}{t:Ty}
theorem Ih.of {v:Du} {e:Int} (h:ac P f args (.tup [Ve t v,I e])):Ih P f args ((t,v),e):=⟨t,v,h,λ_=>rfl⟩
theorem Ih.err {v:Du} {x:Nb} {e:Int} (h:ac P f args (.tup [Ve t v,I e])) (he:e≠0):Ih P f args (x,e):=⟨t,v,h,λh0=>absurd h0 he⟩
theorem M2 {s:Ty} {a:Du} (ha:jZ s a) (ht:cj t):ac Pa0 y8 [Ve s a,mj t] (.tup [Ve (Bi (s,a) t).1 (Bi (s,a) t).2,I 0]):=by
 refine ac.of Qp zR6 λ_=>aa ?_
 have p1:=NF ha.1 ht ha.2.1
 unfold Bi
 conv in G3=>cbv
 clear ha ht
 obtain⟨⟨a1,a2⟩,a3,a4⟩:=a
 generalize wD s t (a1,a2)=v at*
 obtain⟨v1,v2⟩:=v
 obtain⟨s1,s2,s3,s4,s5⟩:=s
 obtain⟨t1,t2,t3,t4,t5⟩:=t
 by_cases h1:s1=1
 ·subst h1
  by_cases h2:t1=1
  ·subst h2
   clear p1
   rw[if_pos ⟨rfl,rfl⟩]
   exact zW1
  ·rw[if_neg (λh=>h2 h.2)]
   repeat' first|simp(disch:=omega)only[go_sem,h2]|((with_reducible refine ab ?_ ?_)<;>intro h<;>try first|omega|simp(disch:=omega)only[go_sem, *,h2])|refine ak p1 ?_|refine ak bG ?_
 ·rw[if_neg (λh=>h1 h.1)]
  repeat' first|simp(disch:=omega)only[go_sem,h1]|((with_reducible refine ab ?_ ?_)<;>intro h<;>try first|omega|simp(disch:=omega)only[go_sem, *,h1])|refine ak p1 ?_|refine ak bG ?_
theorem yO {op:Int} {a b:Du} (ho:4≤op∧op≤10) (ha:jZ t a) (hb:jZ t b):Ih Pa0 vB [I op,Ve t a,Ve t b] (C6 op (t,a) (t,b)):=by
 have ia:=ha.in
 have ib:=hb.in
 have p1:=kB (op:=op) ia ib
 have p2:=yJ ho ha.1 ha.2.1 hb.2.1
 unfold C6
 clear ha hb ia ib
 by_cases h1:t.1=1
 ·rw[if_pos h1]
  refine Ih.of (ac.of BP zR6 λ_=>aa ?_)
  clear p2
  simp only
  generalize bi op a b=v at*
  obtain⟨⟨⟨v1,v2⟩,v3,v4⟩,e⟩:=v
  obtain⟨t1,t2,t3,t4,t5⟩:=t
  obtain rfl:t1=1:=h1
  obtain⟨⟨a1,a2⟩,a3,a4⟩:=a
  obtain⟨⟨b1,b2⟩,b3,b4⟩:=b
  conv in vQ=>cbv
  exact zY8
 ·rw[if_neg h1]
  refine Ih.of (ac.of BP zR6 λ_=>aa ?_)
  clear p1
  simp only
  generalize gp op t a.1 b.1=v at*
  obtain⟨⟨v1,v2⟩,e⟩:=v
  obtain⟨t1,t2,t3,t4,t5⟩:=t
  have h1: ¬t1=1:=h1
  obtain⟨⟨a1,a2⟩,a3,a4⟩:=a
  obtain⟨⟨b1,b2⟩,b3,b4⟩:=b
  conv in vQ=>cbv
  exact zX1
theorem By {fold:Int} {a b:Du} (hf:1≤fold∧fold≤5) (ha:jZ t a) (hb:jZ t b):Ih Pa0 qY [I fold,Ve t a,Ve t b] (fa fold (t,a) (t,b)):=by
 have ia:=ha.in
 have ib:=hb.in
 have p1:=IF (fold:=fold) (l:= [a,b]) (λx hx=>by
  rcases zD7.1 hx with rfl|hx
  ·exact ia
  ·rw[zG1.1 hx]
   exact ib)
 have p2:=F8 hf ha.1 ha.2.1 hb.2.1
 unfold fa
 clear ha hb ia ib
 by_cases h1:t.1=1
 ·rw[if_pos h1]
  refine Ih.of (ac.of uG zR6 λ_=>aa ?_)
  clear p2
  simp only
  generalize hZ fold [a,b]=v at*
  obtain⟨⟨⟨v1,v2⟩,v3,v4⟩,e⟩:=v
  obtain⟨t1,t2,t3,t4,t5⟩:=t
  obtain rfl:t1=1:=h1
  obtain⟨⟨a1,a2⟩,a3,a4⟩:=a
  obtain⟨⟨b1,b2⟩,b3,b4⟩:=b
  conv in qW=>cbv
  exact zY8
 ·rw[if_neg h1]
  clear p1
  simp only
  generalize gp (OA fold) t a.1 b.1=v at*
  obtain⟨⟨v1,v2⟩,e⟩:=v
  obtain⟨t1,t2,t3,t4,t5⟩:=t
  have h1: ¬t1=1:=h1
  obtain⟨⟨a1,a2⟩,a3,a4⟩:=a
  obtain⟨⟨b1,b2⟩,b3,b4⟩:=b
  by_cases he:e=0
  ·subst he
   rw[if_neg zR6]at p2
   refine Ih.of (ac.of uG zR6 λ_=>aa ?_)
   conv in qW=>cbv
   exact zX1
  ·rw[if_pos he]at p2
   refine Ih.err (t:=(t1,t2,t3,t4,t5)) (v:=((0,0),(0,1))) (ac.of uG zR6 λ_=>aa ?_) he
   conv in qW=>cbv
   exact zX1
variable {acc:List Int}
theorem OT {n k:Nat} {v:Int} (hl:acc.length=k) (hk:k<n):(((acc++List.replicate (n-k) 0).map λn:Int=> [pI n]).set k [pI v])=((acc++ [v])++List.replicate (n-(k+1)) 0).map λn=> [pI n]:=by
 have e:n-k=(n-(k+1))+1:=by omega
 rw[←zQ9 (f:= λn:Int=> [pI n]) (a:=v),List.set_append_right _ _ zR5,hl,zR0,e,List.replicate_succ,List.set_cons_zero,zE4]
 rfl
theorem O7 {n k:Nat} (hl:acc.length=k) (hk:k<n):((acc++List.replicate (n-k) 0).map λn:Int=> [pI n])[k]? =some [pI 0]:=by
 rw[zC7,zD9 zR5,hl,zR0,zO4,if_pos zR5]
 rfl
abbrev bTn (T:Tn):bP:= .var [.pure (pI T.1.1),.pure (pI T.1.2.1),.pure (pI T.1.2.2.1),.pure (pI T.1.2.2.2.1),.pure (pI T.1.2.2.2.2),.pure (c6 T.2.1),.pure (dp ln T.2.2)]
def T8 (M:List Nm) (x:Ix):Prop:=(d8 x.1∧ ∀f∈x.2.2,d8 f)∧(x.2.1≠nul→ ∃T,bm M x.2.1=some T∧d9 T=0∧x.2.2.length=T.2.1.length∧T.1.1=3)
variable {env:List aG}
theorem ZS {k:Int} {l:List aG} {v:Int} (h:io k l env=(v,0)):aH v:=by
 unfold io at h
 split at h
 ·cases h
 ·split at h
  ·cases h
  ·split at h
   ·rename_i h1
    cases h
    exact h1
   ·cases h
variable {M A:List Nm}
theorem KR {x:Ix} {n:Int} (hx:T8 M x) (hn:1≤n∧n≤4096) (he: ∀m∈env,aH m.2): ∃v,ac Pa0 gv [.c (Xi M A env),aIx x,I n] (.tup [I v,I (Rl M env x n).2])∧((Rl M env x n).2=0→(Rl M env x n).1=v∧aH v):=by
 obtain⟨⟨W,J⟩,hT⟩:=hx
 by_cases u:x.2.1=nul
 ·have p1:=iM W.1 W.2 he
  unfold Rl
  rw[if_pos u]
  clear hT J
  obtain⟨⟨v,e⟩,G⟩: ∃y,y=io x.1.1 x.1.2 env:=⟨_,rfl⟩
  rw[←G]at p1 ⊢
  refine⟨v,ac.of nZ zR6 λ_=>aa ?_,λh=>⟨rfl,ZS (k:=x.1.1) (l:=x.1.2) (env:=env) (by rw[←G];exact zL0 rfl h)⟩⟩
  clear G
  conv in jW=>cbv
  repeat' first|simp(disch:=omega)only[go_sem,u]|((with_reducible refine ab ?_ ?_)<;>intro h<;>try first|omega|simp(disch:=omega)only[go_sem, *,u])|refine ak p1 ?_
 ·obtain⟨T,t1,t2,t3,_⟩:=hT u
  have pe: ∀f∈x.2.2,ac Pa0 lQ [iK f.1 f.2,bF mP env] (.tup [I (io f.1 f.2 env).1,I (io f.1 f.2 env).2]):= λf hf=>iM (J f hf).1 (J f hf).2 he
  have w:=vX x.2.1 M
  rw[t1,zE1,←LE]at w
  unfold Rl
  rw[if_neg u,t1,zA8]
  obtain⟨v1,v2,v3,v4⟩:=fY t2
  have hg:=b8 v2
  have hC:=hg.len
  obtain⟨R,hR⟩: ∃R,R=OK env x.2.2 T.2.1:=⟨_,rfl⟩
  rw[←hR]
  have HR:Hid (MX [] (OK env (x.2.2.drop 0) (T.2.1.drop 0))=R):=Lib.hid (by rw[hR];exact Jc λh=>Vy h)
  have hF:x.2.2.length≤6:=by omega
  clear hR hT W J v1 v4 hg he
  have key: ∀v e,(R.2≠0→e=R.2∧v=0)→(R.2=0→e=0∧v=min (max (T.2.2[(qD T.2.1 R.1).toNat]?.getD (0,0)).1 0) (n-1))→ac Pa0 gv [.c (Xi M A env),aIx x,I n] (.tup [I v,I e]):=by
   intro v e Z hA
   refine ac.of nZ zR6 λ_=>aa ?_
   have HR1:=Lib.hid Z
   have HR2:=Lib.hid hA
   have HT2:=Lib.hid t2
   have HT3:=Lib.hid t3
   have HV2:=Lib.hid v2
   clear Z hA v3 t2 t3 v2
   conv in jW=>cbv
   repeat' first|simp(disch:=omega)only[go_sem,u,w,]|((with_reducible refine ab ?_ ?_)<;>intro h<;>try first|omega|simp(disch:=omega)only[go_sem, *,u,w,])|apply af|(with_reducible refine ag (λh=> ?_) ?_)
   clear w u
   refine al (λs:Nat×List Int=>⟨[(42,I s.1),(41,I x.2.2.length),(40,bF bT x.2.2),(9,.c (.ref 2)),(8,.c (.ptr 1 0)),(2,I n),(0,.c (Xi M A env))], [(2,.arr 3 1 ((s.2++List.replicate (x.2.2.length-s.1) 0).map λn=> [pI n])),(1,bTn T)],3,0⟩) (λs=>s.1≤x.2.2.length∧s.2.length=s.1∧Hid (Vx T.2.1 s.2)∧Hid (MX s.2 (OK env (x.2.2.drop s.1) (T.2.1.drop s.1))=R)) (λs=>x.2.2.length-s.1) ⟨(0, []), [],⟨by omega,rfl,Vx.nil _,HR⟩,by simp[List.map_replicate]⟩ ?_
   clear HR
   rintro⟨k,acc⟩ ⟨hk,C,i,hr⟩
   refine aa ?_
   simp only at hk C
   have hd:=hr.out
   simp only at hd
   clear hr
   by_cases d:k<x.2.2.length
   ·have g:k<T.2.1.length:=by rw[←HT3.out];exact d
    have p1:=pe _ (zA6 d)
    obtain⟨⟨v0,e0⟩,G⟩: ∃y,y=io x.2.2[k].1 x.2.2[k].2 env:=⟨_,rfl⟩
    rw[ZX d G.symm,zA7 g,zA8]at hd
    rw[←G]at p1
    simp only at p1
    clear G pe
    by_cases h0:e0=0
    ·subst h0
     rw[if_neg zR6]at hd
     by_cases hb:v0<0∨T.2.1[k]≤v0
     ·rw[if_pos hb]at hd
      subst hd
      obtain⟨rfl,rfl⟩:=HR1.out zR6
      clear HR1 HR2
      by_cases o:v0<0
      ·repeat' first|simp(disch:=omega)only[go_sem,ae d,bT,o]|((with_reducible refine ab ?_ ?_)<;>intro h<;>try first|omega|simp(disch:=omega)only[go_sem, *,ae d,bT,o])|apply af|(with_reducible refine ag (λh=> ?_) ?_)|refine ak p1 ?_
      ·have D:T.2.1[k]≤v0:=by omega
       clear hb
       repeat' first|simp(disch:=omega)only[go_sem,ae d,bT,o,ae g,D]|((with_reducible refine ab ?_ ?_)<;>intro h<;>try first|omega|simp(disch:=omega)only[go_sem, *,ae d,bT,o,ae g,D])|apply af|(with_reducible refine ag (λh=> ?_) ?_)|refine ak p1 ?_
     ·rw[if_neg hb]at hd
      have HD:=Lib.hid hd
      have HI:Hid (Vx T.2.1 (acc++ [v0])):=i.out.snoc (by show acc.length<_;omega) (by show ¬(v0<0∨T.2.1[acc.length]?.getD 0≤v0);rw[C,zA7 g,zA8];exact hb)
      have o: ¬v0<0:=by omega
      have D: ¬T.2.1[k]≤v0:=by omega
      have hg:=O7 (n:=x.2.2.length) C d
      have HS:=Lib.hid (OT (n:=x.2.2.length) (v:=v0) C d)
      have hL:(acc++List.replicate (x.2.2.length-k) 0).length=x.2.2.length:=by simp;omega
      clear hb hd i HR1 HR2
      repeat' first|simp(disch:=omega)only[go_sem,ae d,bT,o,ae g,D,hg,hL,wrap_i64]|((with_reducible refine ab ?_ ?_)<;>intro h<;>try first|omega|simp(disch:=omega)only[go_sem, *,ae d,bT,o,ae g,D,hg,hL,wrap_i64])|apply af|(with_reducible refine ag (λh=> ?_) ?_)|refine ak p1 ?_
      all_goals
       rw[HS.out]
       exact⟨(k+1,acc++ [v0]), [],⟨by show k+1≤_;omega,by simp[C],HI,HD⟩,by show _-_<_-_;omega,by simp⟩
    ·rw[if_pos h0]at hd
     subst hd
     obtain⟨rfl,rfl⟩:=HR1.out h0
     clear HR1 HR2
     repeat' first|simp(disch:=omega)only[go_sem,ae d,bT,h0]|((with_reducible refine ab ?_ ?_)<;>intro h<;>try first|omega|simp(disch:=omega)only[go_sem, *,ae d,bT,h0])|apply af|(with_reducible refine ag (λh=> ?_) ?_)|refine ak p1 ?_
   ·rw[VV zR5]at hd
    subst hd
    obtain⟨rfl,rfl⟩:=HR2.out rfl
    obtain⟨q,N⟩:=i.out.full (by show acc.length=_;have:=HT3.out;omega)
    simp only at q N
    have pO:=tY T.2.1 acc
    rw[FJ HV2.out q]at pO
    obtain⟨K,E⟩:=m5 HT2.out q
    obtain⟨r,hr⟩: ∃r:Nat,(qD T.2.1 acc).toNat=r:=⟨_,rfl⟩
    rw[hr]at K E
    rw[←E]at pO
    simp only[hr,zA7 K,zA8]
    have e0:acc++List.replicate (x.2.2.length-k) 0=acc:=by rw[show x.2.2.length-k=0 by omega];simp
    rw[e0]
    have w1:IntKind.wrap .i64 (n-1)=n-1:=wrap_i64 zR5
    have hD: ¬(k:Int)<x.2.2.length:=by omega
    clear HR1 HR2 HT2 HT3 HV2 i q N pe hr E d e0
    repeat' first|simp(disch:=omega)only[go_sem,ae K,w1]|((with_reducible refine ab ?_ ?_)<;>intro h<;>try first|omega|simp(disch:=omega)only[go_sem, *,ae K,w1])|apply af|(with_reducible refine ag (λh=> ?_) ?_)|refine ak pO ?_
  by_cases O:R.2=0
  ·rw[if_neg (zA5 O)]
   refine⟨_,key _ _ (λh=>absurd O h) (λ_=>⟨rfl,rfl⟩),λ_=>⟨rfl, ?_⟩⟩
   unfold aH
   omega
  ·rw[if_pos O]
   exact⟨0,key _ _ (λ_=>⟨rfl,rfl⟩) (λh=>absurd h O),λh=>absurd h O⟩
variable {idx:List Ix}
theorem Ie {T:Tn} (hT:d9 T=0) (hl:idx.length=T.2.1.length) (hx: ∀x∈idx,T8 M x) (he: ∀m∈env,aH m.2):
  ac Pa0 i5 [.c (Xi M A env),Nh T,.c (.pure (dp gS idx))] (.tup [I (if(qS M env idx T.2.1).2=0 then qD T.2.1 (qS M env idx T.2.1).1 else 0),I (qS M env idx T.2.1).2]):=by
 refine ac.of zH zR6 λ_=>aa ?_
 obtain⟨v1,v2,v3,v4⟩:=fY hT
 have hg:=b8 v2
 have hC:=hg.len
 have hd: ∀k (h:k<T.2.1.length),1≤T.2.1[k]∧T.2.1[k]≤4096:= λk h=>by
  have:=hg.get h
  rwa [zA7 h,zA8]at this
 obtain⟨R,hR⟩: ∃R,R=qS M env idx T.2.1:=⟨_,rfl⟩
 rw[←hR]
 have HR:Hid (MX [] (qS M env (idx.drop 0) (T.2.1.drop 0))=R):=Lib.hid (by rw[hR];exact Jc λh=>Vp h)
 have hG:idx.length≤6:=by omega
 have HL:=Lib.hid hl
 have HV:=Lib.hid v2
 clear hR v1 v2 v3 v4 hg hT hl
 conv in ol=>cbv
 repeat' first|simp(disch:=omega)only[go_sem]|((with_reducible refine ab ?_ ?_)<;>intro h<;>try first|omega|simp(disch:=omega)only[go_sem, *])|apply af|(with_reducible refine ag (λh=> ?_) ?_)
 refine al (λs:Nat×List Int=>⟨[(20,I s.1),(19,I idx.length),(18,bF gS idx),(8,.c (.ref 1)),(4,.c (.ptr 0 0)),(0,.c (Xi M A env))], [(1,.arr 3 1 ((s.2++List.replicate (idx.length-s.1) 0).map λn=> [pI n])),(0,bTn T)],2,0⟩) (λs=>s.1≤idx.length∧s.2.length=s.1∧Hid (Vx T.2.1 s.2)∧Hid (MX s.2 (qS M env (idx.drop s.1) (T.2.1.drop s.1))=R)) (λs=>idx.length-s.1) ⟨(0, []), [],⟨by omega,rfl,Vx.nil _,HR⟩,by simp[List.map_replicate]⟩ ?_
 clear HR
 rintro⟨k,acc⟩ ⟨hk,C,i,hr⟩
 refine aa ?_
 simp only at hk C
 have z:=hr.out
 simp only at z
 clear hr
 by_cases d:k<idx.length
 ·have g:k<T.2.1.length:=by rw[←HL.out];exact d
  obtain⟨v0,p1,Q⟩:=KR (A:=A) (hx _ (zA6 d)) (hd k g) he
  obtain⟨⟨w0,e0⟩,X⟩: ∃y,y=Rl M env idx[k] T.2.1[k]:=⟨_,rfl⟩
  rw[XK d (v:=w0) (e:=e0) (by rw[zA7 g,zA8];exact X.symm),zA7 g,zA8]at z
  rw[←X]at p1 Q
  simp only at p1 Q
  clear X hx he hd
  by_cases h0:e0=0
  ·subst h0
   obtain⟨rfl,hB⟩:=Q rfl
   clear Q hB
   rw[if_neg zR6]at z
   by_cases hb:w0<0∨T.2.1[k]≤w0
   ·rw[if_pos hb]at z
    subst z
    rw[if_neg zR6]
    by_cases o:w0<0
    ·repeat' first|simp(disch:=omega)only[go_sem,ae d,gS,o,ae g]|((with_reducible refine ab ?_ ?_)<;>intro h<;>try first|omega|simp(disch:=omega)only[go_sem, *,ae d,gS,o,ae g])|apply af|(with_reducible refine ag (λh=> ?_) ?_)|refine ak p1 ?_
    ·have D:T.2.1[k]≤w0:=by omega
     clear hb
     repeat' first|simp(disch:=omega)only[go_sem,ae d,gS,o,ae g,D]|((with_reducible refine ab ?_ ?_)<;>intro h<;>try first|omega|simp(disch:=omega)only[go_sem, *,ae d,gS,o,ae g,D])|apply af|(with_reducible refine ag (λh=> ?_) ?_)|refine ak p1 ?_
   ·rw[if_neg hb]at z
    have HD:=Lib.hid z
    have HI:Hid (Vx T.2.1 (acc++ [w0])):=i.out.snoc (by show acc.length<_;omega) (by show ¬(w0<0∨T.2.1[acc.length]?.getD 0≤w0);rw[C,zA7 g,zA8];exact hb)
    have o: ¬w0<0:=by omega
    have D: ¬T.2.1[k]≤w0:=by omega
    have hg:=O7 (n:=idx.length) C d
    have HS:=Lib.hid (OT (n:=idx.length) (v:=w0) C d)
    have hL:(acc++List.replicate (idx.length-k) 0).length=idx.length:=by simp;omega
    clear hb z i
    repeat' first|simp(disch:=omega)only[go_sem,ae d,gS,o,ae g,D,hg,hL,wrap_i64]|((with_reducible refine ab ?_ ?_)<;>intro h<;>try first|omega|simp(disch:=omega)only[go_sem, *,ae d,gS,o,ae g,D,hg,hL,wrap_i64])|apply af|(with_reducible refine ag (λh=> ?_) ?_)|refine ak p1 ?_
    all_goals
     rw[HS.out]
     exact⟨(k+1,acc++ [w0]), [],⟨by show k+1≤_;omega,by simp[C],HI,HD⟩,by show _-_<_-_;omega,by simp⟩
  ·rw[if_pos h0]at z
   subst z
   rw[if_neg h0]
   clear Q
   repeat' first|simp(disch:=omega)only[go_sem,ae d,gS,h0,ae g]|((with_reducible refine ab ?_ ?_)<;>intro h<;>try first|omega|simp(disch:=omega)only[go_sem, *,ae d,gS,h0,ae g])|apply af|(with_reducible refine ag (λh=> ?_) ?_)|refine ak p1 ?_
 ·rw[Vd zR5]at z
  subst z
  rw[if_pos rfl]
  obtain⟨q,N⟩:=i.out.full (by show acc.length=_;have:=HL.out;omega)
  simp only at q N
  have pO:=tY T.2.1 acc
  rw[FJ HV.out q]at pO
  have e0:acc++List.replicate (idx.length-k) 0=acc:=by rw[show idx.length-k=0 by omega];simp
  rw[e0]
  have hD: ¬(k:Int)<idx.length:=by omega
  clear hx he hd i q N d e0
  generalize qD T.2.1 acc=r at*
  repeat' first|simp(disch:=omega)only[go_sem]|((with_reducible refine ab ?_ ?_)<;>intro h<;>try first|omega|simp(disch:=omega)only[go_sem, *])|apply af|(with_reducible refine ag (λh=> ?_) ?_)|refine ak pO ?_
theorem Nj {p:bu} {s:ByteArray} {fs:List iB} (hM:wR p M A) (hf:cY p s=some (t,fs)) (hl:idx.length=fs.length) (hx: ∀x∈idx,T8 M x) (he: ∀m∈env,aH m.2):
  Ih Pa0 kP [.c (Xi M A env),S s,.c (.pure (dp gS idx))] (rdD M A env s idx):=by
 obtain⟨T,h1,rfl,h3,h4,h5,h6⟩:=hM s t fs hf
 have pO:=Ie (A:=A) h4 (hl.trans h3.symm) hx he
 have w:=vX s M
 rw[h1,zE1,←LE]at w
 have F:=vX s A
 rw[←LE]at F
 unfold rdD
 rw[h1,zA8]
 have i:(qS M env idx T.2.1).2=0→T3 T.2.1 (qS M env idx T.2.1).1:= λh=>by
  have:=JP h
  exact⟨by omega,λk hk=>this.2 k zR5⟩
 clear hM hf hx he h1
 generalize qS M env idx T.2.1=R at*
 obtain⟨ps,e⟩:=R
 simp only at pO i ⊢
 by_cases h0:e=0
 ·subst h0
  rw[if_pos rfl]at pO
  rw[if_neg zR6]
  have q:=i rfl
  obtain⟨d,E⟩:=m5 h4 q
  obtain⟨r,hr⟩: ∃r:Nat,(qD T.2.1 ps).toNat=r:=⟨_,rfl⟩
  rw[hr]at d E
  rw[←E]at pO
  simp only[hr,zA7 d,zA8]
  refine Ih.of (ac.of pH zR6 λ_=>aa ?_)
  conv in kO=>cbv
  cases H:bm A s with
  |none=>
   rw[H,zG9]at F
   clear h3 hl i h4 h5 h6 q E hr H
   repeat' first|simp(disch:=omega)only[go_sem,w,F,ae d,zG9,zE1]|((with_reducible refine ab ?_ ?_)<;>intro h<;>try first|omega|simp(disch:=omega)only[go_sem, *,w,F,ae d,zG9,zE1])|apply af|(with_reducible refine ag (λh=> ?_) ?_)|refine ak pO ?_|refine ak bG ?_
  |some U=>
   rw[H,zE1]at F
   have h1:T.1.1=1:=zD5 λh=>by rw[h6 h]at H;cases H
   obtain⟨U',u1,u2,u3,u4⟩:=h5 h1
   rw[H]at u1
   obtain rfl:U=U':=Option.some.inj u1
   obtain⟨L,_⟩:=m5 (ps:=ps) u4 (by rw[u3];exact q)
   rw[u3,hr]at L
   simp only[zA7 L,zA8]
   clear h3 hl i h4 h5 h6 q E hr H u1 u2 u3 u4 h1
   repeat' first|simp(disch:=omega)only[go_sem,w,F,ae d,ae L,zG9,zE1]|((with_reducible refine ab ?_ ?_)<;>intro h<;>try first|omega|simp(disch:=omega)only[go_sem, *,w,F,ae d,ae L,zG9,zE1])|apply af|(with_reducible refine ag (λh=> ?_) ?_)|refine ak pO ?_|refine ak bG ?_
 ·rw[if_pos h0]
  rw[if_neg h0]at pO
  refine Ih.of (t:=(0,0,0,0,0)) (v:=((0,0),(0,0))) (ac.of pH zR6 λ_=>aa ?_)
  conv in kO=>cbv
  clear h3 hl i h4 h5 h6 F
  repeat' first|simp(disch:=omega)only[go_sem,w,h0,zG9,zE1]|((with_reducible refine ab ?_ ?_)<;>intro h<;>try first|omega|simp(disch:=omega)only[go_sem, *,w,h0,zG9,zE1])|apply af|(with_reducible refine ag (λh=> ?_) ?_)|refine ak pO ?_
theorem Bu {l:List iF} {pt:List Int} {rest:List aG} (hl:pt.length=l.length) (h6:l.length≤1000) (hr:rest.length≤1000):ac Pa0 xP [bF gw l,aF pt,bF mP rest] (bF mP (dl l pt++rest)):=by
 refine ac.of Rd zR6 λ_=>aa ?_
 have hI:=z6 hl
 have V: ∀j (h:j<l.length) (hp:j<pt.length),((dl l pt).take j).map mP++ [[pS l[j].1,pI pt[j]]]=((dl l pt).take (j+1)).map mP:= λj h hp=>OQ h hp
 have HM:=Lib.hid (zC8 (f:=mP) (l₁:=dl l pt) (l₂:=rest)).symm
 have hE:dO 2 (rest.map mP):=aD λx=>rfl
 generalize dl l pt=bp at*
 conv in Gy=>cbv
 repeat' first|simp(disch:=omega)only[go_sem]|((with_reducible refine ab ?_ ?_)<;>intro h<;>try first|omega|simp(disch:=omega)only[go_sem, *])
 refine dc 7 98 2 rfl zR9 ?_
 refine al (λj:Nat=>⟨[(1,aF pt),(2,bF mP rest),(7,.c (.ref 0)),(10,bF gw l),(11,I l.length),(12,I j)], [(0,.arr 98 2 ((bp.take j).map mP))],1,0⟩) (λj=>j≤l.length) (λj=>l.length-j) ⟨0, [],by omega,by simp⟩ ?_
 intro j hj
 refine aa ?_
 by_cases d:j<l.length
 ·have Y:j<pt.length:=by omega
  have HT:=Lib.hid (V j d Y)
  clear V
  repeat' first|simp(disch:=omega)only[go_sem,ae d,gw,ae Y,wrap_i64]|((with_reducible refine ab ?_ ?_)<;>intro h<;>try first|omega|simp(disch:=omega)only[go_sem, *,ae d,gw,ae Y,wrap_i64])|apply af|(with_reducible refine ag (λh=> ?_) ?_)|refine aP rfl zS0 (aE rfl) zR8 zR8 ?_
  rw[HT.out]
  exact⟨j+1, [(0,2)],by omega,by omega,by simp⟩
 ·have ht:bp.take j=bp:=zB6 zR5
  rw[ht]
  clear V
  repeat' first|simp(disch:=omega)only[go_sem]|((with_reducible refine ab ?_ ?_)<;>intro h<;>try first|omega|simp(disch:=omega)only[go_sem, *])|apply af|(with_reducible refine ag (λh=> ?_) ?_)|refine aP rfl zS0 hE zR8 zR8 ?_
  all_goals rw[HM.out]
end Go.Proofs.YtigdjhnndaokjaaGreatDoor
