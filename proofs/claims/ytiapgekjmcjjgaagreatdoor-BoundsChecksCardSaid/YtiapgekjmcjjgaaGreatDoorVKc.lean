import Derived.Test.YtiapgekjmcjjgaaGreatDoorV07x
set_option maxHeartbeats 4000000
set_option linter.unusedVariables false
set_option linter.unusedSimpArgs false
open Go.Proofs.Tryz renaming prog→Ya
namespace Go.Proofs.YtiapgekjmcjjgaaGreatDoor
open Go.Abs Go.RowKit
noncomputable section
theorem lZ {p q:aU} {x y:Int} (hp:aI p.1.2) (hq:aI q.1.2) (hx:0≤x) (hy:0≤y):aD [p,q] [x,y]=ep (0, []) true [(p,x),(q,y)]:=by
 rw[aD,if_neg (by simp),if_neg]
 ·rfl
 ·rintro⟨z,hz,h⟩
  simp only[List.zip_cons_cons,List.zip_nil_right,List.mem_cons,List.not_mem_nil,or_false]at hz
  rcases hz with rfl|rfl
  ·rcases h with h|h
   ·exact h hp
   ·simp only at h;omega
  ·rcases h with h|h
   ·exact h hq
   ·simp only at h;omega
theorem fe {out:bW} {eq:Bool} {p:aU×Int} {r:List (aU×Int)} (h1:bY p.1.1 p.2) (h2:e7 out (bq p.1.1 p.2)):ep out eq (p::r)=ep (gz out (bq p.1.1 p.2)) (eq&&(p.1.2||decide (p.2=0))) r:=by
 rw[ep,if_neg (by rintro(h|h);exact h (.inr h1);exact h h2)]
theorem A6 {l:List aU} {T:List aU}: ∀{N:Nat} {rows:List cH} {fuel:Int},(∀r∈rows,c6 T r)→ ∀x∈(dh l N rows fuel).1,am x
 |0,rows,fuel,_,x,hx=>by rw[dh]at hx;cases hx
 |N+1,rows,fuel,h,x,hx=>by
  rw[dh]at hx
  cases hb:dz rows with
  |some b=>
   obtain⟨r,hr,h1,rfl⟩:=mG hb
   rw[hb]at hx
   simp only at hx
   split at hx
   ·cases hx
   ·exact(h r hr).r64.2 x hx
  |none=>
   rw[hb]at hx
   simp only at hx
   split at hx
   ·cases hx
   ·rename_i hc
    split at hx
    ·cases hx
    ·exact A6 (uM (fuel:=fuel) h (by simpa using hc)).1.all x hx
theorem Q5 {l:List aU} {fuel:Int} (o: ∀c∈l,br c): ∀x∈(fQ l fuel).1,am x:=by
 intro x hx
 unfold fQ at hx
 split at hx
 ·cases hx
 ·rename_i h0
  split at hx
  ·cases hx
  ·split at hx
   ·cases hx
   ·rename_i h1
    have ht:be l=((be l).1,0):=Prod.ext rfl (Classical.not_not.1 h0)
    have hT:=lg ht o
    have A:=(j7 ht).1
    obtain⟨i1,i2⟩:=HX hT (k:=0) (rows:= []) (by simp) (by simp) (Nat.zero_le _)
    rw[A,List.drop_zero]at i1 i2
    exact A6 (i2 (Classical.not_not.1 h1)).1 x hx
def kG (f:bW):aU:=((-1-f.1,f.2.map λm=>(m.1,-m.2)),false)
def Sk (f:bW):aU:=((f.1-1,f.2),false)
def kB (l:List aR):Prop:= ∃m∈l,m.2= -9223372036854775808
instance (l:List aR):Decidable (kB l):=Classical.propDecidable _
def eT (c:aU):List aU×Int:=
 if ¬aI c.1.2 then([],1)else if kB c.1.2 then([],3)else if c.2=false then([kG c.1],0)
 else if c.1.1= -9223372036854775808 then([],3)else([Sk c.1,kG c.1],0)
def Jx (l:List aU):Prop:= ∀c∈l,aI c.1.2
instance (l:List aU):Decidable (Jx l):=Classical.propDecidable _
def d9 (l:List aU) (c:aU):List aU×Int:=if ¬Jx l∨ ¬aI c.1.2 then([],1)else eT c
def iJ (l:List aU) (fuel:Int):List aU→List Int→List Int×Bool×Int
 | [],acc=>(acc,true,0)
 |p::r,acc=>if(fQ (l++ [p]) fuel).2.2≠0 then([],false,(fQ (l++ [p]) fuel).2.2)else if(fQ (l++ [p]) fuel).2.1=false then([],false,0)else iJ l fuel r (acc++(fQ (l++ [p]) fuel).1)
def fS (l:List aU) (c:aU) (fuel:Int):List Int×Bool×Int:=if(d9 l c).2≠0 then([],false,(d9 l c).2)else iJ l fuel (d9 l c).1 []
def t6 (l:List aU) (b:List Int):Nat→List aU→Int
 |_, []=>0
 |i,p::r=>if d4 (l++ [p]) ((b.take ((i+1)*(l.length+1))).drop (i*(l.length+1)))≠0 then d4 (l++ [p]) ((b.take ((i+1)*(l.length+1))).drop (i*(l.length+1)))else t6 l b (i+1) r
def uR (l:List aU) (c:aU) (b:List Int):Int:=if(d9 l c).2≠0 then(d9 l c).2 else if b.length≠(d9 l c).1.length*(l.length+1)then 17 else t6 l b 0 (d9 l c).1
theorem z8 {f:bW} (h:bl f) (hm: ¬kB f.2):br (kG f):=by
 refine⟨?_,λm hH=> ?_⟩
 ·have:=h.1
  show am (-1-f.1)
  unfold am at*
  omega
 ·obtain⟨z,hz,rfl⟩:=List.mem_map.1 hH
  have h1:=h.2 z hz
  have h2:z.2≠ -9223372036854775808:= λe=>hm ⟨z,hz,e⟩
  show am (-z.2)
  unfold am at*
  omega
theorem P2 {f:bW} (h:bl f) (hm:f.1≠ -9223372036854775808):br (Sk f):=by
 refine⟨?_,h.2⟩
 have:=h.1
 show am (f.1-1)
 unfold am at*
 omega
theorem Q4 {c:aU} (h:br c): ∀d∈(eT c).1,br d:=by
 unfold eT
 (repeat' split)<;>intro d hd
 ·cases hd
 ·cases hd
 ·rename_i h1 h2
  rw[List.mem_singleton.1 hd]
  exact z8 h h1
 ·cases hd
 ·rename_i h1 h2 h3
  rcases List.mem_cons.1 hd with rfl|hd
  ·exact P2 h h3
  ·rw[List.mem_singleton.1 hd]
   exact z8 h h1
theorem qH {l:List aU} {c:aU} (h:br c): ∀d∈(d9 l c).1,br d:=by
 unfold d9
 split
 ·intro d hd;cases hd
 ·exact Q4 h
theorem IK {c d:aU} (h:d∈(eT c).1):d.1.2.length=c.1.2.length:=by
 unfold eT at h
 (repeat' split at h)
 ·cases h
 ·cases h
 ·rw[List.mem_singleton.1 h]
  simp[kG]
 ·cases h
 ·rcases List.mem_cons.1 h with rfl|h
  ·rfl
  ·rw[List.mem_singleton.1 h]
   simp[kG]
theorem vV {l:List aU} {c d:aU} (h:d∈(d9 l c).1):d.1.2.length=c.1.2.length:=by
 unfold d9 at h
 split at h
 ·cases h
 ·exact IK h
theorem G0 (c:aU):(eT c).1.length≤2:=by
 unfold eT
 (repeat' split)<;>simp
theorem sq (l:List aU) (c:aU):(d9 l c).1.length≤2:=by
 unfold d9
 split
 ·simp
 ·exact G0 c
theorem AJ {l:List aU} {b:List Int} (h:d4 l b=0):b.length=l.length:=by
 unfold d4 at h
 split at h
 ·exact absurd h ‹_›
 ·rename_i h0
  split at h
  ·exact absurd h ‹_›
  ·rename_i h1
   have ht:be l=((be l).1,0):=Prod.ext rfl (Classical.not_not.1 h0)
   have hc:aD (be l).1 b=((aD (be l).1 b).1,0):=Prod.ext rfl (Classical.not_not.1 h1)
   rw[←(kr hc).1,(j7 ht).1]
theorem Ed {l:List aU} {fuel:Int} (o: ∀c∈l,br c) (h:(fQ l fuel).2.1=true):d4 l (fQ l fuel).1=0:=by
 obtain⟨h1,h2⟩:=Gf (fuel:=fuel) o
 by_cases h0:wh l fuel=0
 ·exact(h2 h0).2.1 h
 ·rw[h1 h0]at h
  cases h
theorem RE {l:List aU} {fuel:Int} (o: ∀c∈l,br c) (h:(fQ l fuel).2.1=false):(fQ l fuel).1= []:=by
 obtain⟨h1,h2⟩:=Gf (fuel:=fuel) o
 by_cases h0:wh l fuel=0
 ·exact(h2 h0).2.2 h
 ·rw[h1 h0]
theorem OS {l:List aU} {fuel:Int} (o: ∀c∈l,br c):(fQ l fuel).1.length≤l.length:=by
 cases h:(fQ l fuel).2.1 with
 |false=>rw[RE o h];simp
 |true=>exact Nat.le_of_eq (AJ (Ed o h))
theorem xf {l:List aU} {p:aU} (h: ∀c∈l,br c) (hp:br p): ∀c∈l++ [p],br c:= λc hc=>by
 rcases List.mem_append.1 hc with hc|hc
 ·exact h c hc
 ·rw[List.mem_singleton.1 hc];exact hp
theorem zh {l:List aU} {fuel:Int} (o: ∀c∈l,br c): ∀{P:List aU} {acc b:List Int} {i:Nat},(∀p∈P,br p)→acc.length=i*(l.length+1)→iJ l fuel P acc=(b,true,0)→
  (∃r,b=acc++r)∧b.length=(i+P.length)*(l.length+1)∧t6 l b i P=0∧ ∀p∈P,(fQ (l++ [p]) fuel).2.1=true
 |[],acc,b,i,_,ha,h=>by
  rw[iJ]at h
  cases h
  exact⟨⟨[],by simp⟩,by simpa using ha,rfl,by simp⟩
 |p::P,acc,b,i,hP,ha,h=>by
  have hp:=xf o (hP p List.mem_cons_self)
  rw[iJ]at h
  split at h
  ·cases h
  ·split at h
   ·cases h
   ·rename_i h1 h2
    have h2:(fQ (l++ [p]) fuel).2.1=true:=by simpa using h2
    have hc:=Ed hp h2
    have hl:=AJ hc
    rw[List.length_append,List.length_singleton]at hl
    have hs:(i+1)*(l.length+1)=i*(l.length+1)+(l.length+1):=Nat.succ_mul _ _
    obtain⟨⟨r,g1⟩,g2,g3,g4⟩:=zh o (i:=i+1) (λq hq=>hP q (List.mem_cons_of_mem _ hq)) (by rw[List.length_append,ha,hl,hs]) h
    generalize (fQ (l++ [p]) fuel).1=B at*
    have hw:(b.take ((i+1)*(l.length+1))).drop (i*(l.length+1))=B:=by
     have e1:(i+1)*(l.length+1)=(acc++B).length:=by rw[List.length_append,ha,hl,hs]
     rw[g1,e1,List.take_left,←ha,List.drop_left]
    refine⟨⟨B++r,by rw[g1,List.append_assoc]⟩,by rw[g2,List.length_cons];congr 1;omega, ?_,λq hq=> ?_⟩
    ·rw[t6,hw,if_neg (not_not_intro hc),g3]
    ·rcases List.mem_cons.1 hq with rfl|hq
     ·exact h2
     ·exact g4 q hq
theorem xM {l:List aU} {c:aU} {fuel:Int} {b:List Int} (o: ∀c∈l,br c) (hc:br c) (h:fS l c fuel=(b,true,0)):uR l c b=0:=by
 unfold fS at h
 split at h
 ·cases h
 ·rename_i h0
  obtain⟨g1,g2,g3,g4⟩:=zh o (i:=0) (qH hc) (by simp) h
  unfold uR
  rw[if_neg h0,if_neg (by rw[g2];simp),g3]
def EM (l:List aU) (c:aU):List (List aU)×Int:=if(d9 l c).2≠0 then([],(d9 l c).2)else((d9 l c).1.map λp=>l++ [p],0)
set_option maxRecDepth 1000000
theorem xc {l:List aU} (o: ∀c∈l,br c) (hs: ∀c∈l,c.1.2.length≤1000000000):ac Ya 101 [bB l] (AN (be l)):=by
 refine ac.of yy (by simp) λ_=>aa ?_
 conv in bh _ _=>cbv
 unfold be
 by_cases hl:256<l.length
 ·rw[if_pos hl]
  repeat' first|simp(disch:=omega)only[go_sem, *]|apply ab<;>intro h<;>try omega
  all_goals rfl
 ·rw[if_neg hl]
  obtain⟨R,hR⟩: ∃R,R=fD [] (l.drop 0):=⟨_,rfl⟩
  have D:fD [] l=R:=hR.symm
  rw[D]
  have HR:=Lib.hid hR
  clear hR D
  repeat' first|simp(disch:=omega)only[go_sem, *]|apply ab<;>intro h<;>try omega
  refine dv 4 64 3 rfl (by decide) ?_
  refine ai (λs:Nat×List aU=>⟨[(0,bB l),(4,.c (.ref 0)),(5,I s.1)], [(0,.arr 64 3 (s.2.map cP))],1,0⟩) (λs=>s.1≤l.length∧s.2.length≤s.1∧Hid (R=fD s.2 (l.drop s.1))) (λs=>l.length-s.1) ⟨(0, []), [],⟨Nat.zero_le _,Nat.le_refl _,HR⟩,by simp⟩ ?_
  clear HR
  rintro⟨j,acc⟩ ⟨hj,hE,HR⟩
  refine aa ?_
  simp only at hj hE HR
  by_cases g:j<l.length
  ·have g1:=ah (f:=cP) g
   have pT:=yk (o _ (List.getElem_mem g)) (hs _ (List.getElem_mem g))
   have h2:=HR.out
   rw[List.drop_eq_getElem_cons g,fD]at h2
   clear HR
   generalize cG l[j]=T at*
   generalize l[j]=c at*
   obtain⟨⟨ck,cl⟩,q⟩:=c
   obtain⟨⟨⟨tk,tl⟩,tq⟩,tt,te⟩:=T
   simp only[cP]at g1
   simp only at h2 pT
   by_cases he:te=0
   ·subst he
    rw[if_neg (by simp)]at h2
    have HR:=Lib.hid h2
    clear h2
    repeat' first|simp(disch:=omega)only[go_sem, *,g1,wrap_i64]|apply ab<;>intro h<;>try omega|refine aW pT rfl rfl ?_|refine aA rfl (by intro h;cases h) (an rfl) (by simp;omega) (by simp;omega) ?_
    exact⟨(j+1,acc++ [((tk,tl),tq)]), [(0,2)],⟨g,by simp;omega,HR⟩,by show _-_<_-_;omega,by simp[cP]⟩
   ·rw[if_pos he]at h2
    subst h2
    repeat' first|simp(disch:=omega)only[go_sem, *,g1,he,wrap_i64]|apply ab<;>intro h<;>try omega|refine aW pT rfl rfl ?_
    all_goals rfl
  ·have h2:=HR.out
   rw[List.drop_eq_nil_of_le (by omega),fD]at h2
   clear HR
   subst h2
   repeat' first|simp(disch:=omega)only[go_sem, *]|apply ab<;>intro h<;>try omega
   all_goals rfl
theorem FN (a b:bW):ac Ya 97 [da a.1 a.2,da b.1 b.2] (Go.Abs.B (decide (a=b))):=by
 refine ac.of HO (by simp) λhb=>aa ?_
 obtain⟨ka,a⟩:=a
 obtain⟨kb,b⟩:=b
 have hJ:a.length≤9223372036854775807:=by have:=hb.1;simpa[gw,gT,nc]using this
 clear hb
 conv in bh _ _=>cbv
 by_cases hk:ka=kb
 ·subst hk
  have e0:decide ((ka,a)=(ka,b))=decide (a=b):=by
   rw[Bool.eq_iff_iff]
   simp
  rw[e0]
  clear e0
  by_cases hl:a.length=b.length
  ·have M:(a.length:Int)=(b.length:Int):=by omega
   obtain⟨R,hR⟩: ∃R,R=decide (a=b):=⟨_,rfl⟩
   rw[←hR]
   have HR:=Lib.hid hR
   clear hR
   have HL:=Lib.hid hl
   clear hl
   repeat' first|simp(disch:=omega)only[go_sem, *,M]|apply ab<;>intro h<;>try omega
   refine ai (λk:Nat=>⟨[(2,.c (.ptr 0 0)),(3,.c (.ptr 1 0)),(5,I k)], [(1,.var [.pure (pI ka),.pure (ay b)]),(0,.var [.pure (pI ka),.pure (ay a)])],2,0⟩) (λk=>k≤b.length∧Hid (a.take k=b.take k)) (λk=>b.length-k) ⟨0, [],⟨Nat.zero_le _,Lib.hid rfl⟩,by simp⟩ ?_
   rintro k ⟨hk,HT⟩
   refine aa ?_
   have hl:=HL.out
   by_cases g:k<b.length
   ·have hB:k<a.length:=by omega
    have g1:=ah (f:=mP) hB
    have g2:=ah (f:=mP) g
    by_cases he:a[k]=b[k]
    ·have HT':Hid (a.take (k+1)=b.take (k+1)):=Lib.hid (by rw[List.take_succ_eq_append_getElem hB,List.take_succ_eq_append_getElem g,HT.out,he])
     rw[he]at g1
     clear HT he hl
     generalize b[k]=m at*
     obtain⟨n,x⟩:=m
     simp only[mP]at g1 g2
     repeat' first|simp(disch:=omega)only[go_sem, *,M,g1,g2,wY,I4,and_self,Sy,wrap_i64]|apply ab<;>intro h<;>try omega
     exact⟨k+1, [],⟨g,HT'⟩,by omega,by simp⟩
    ·have hR:R=false:=by
      rw[HR.out]
      exact decide_eq_false λh=>he (by subst h;rfl)
     subst hR
     have hF: ¬(a[k].1=b[k].1∧a[k].2=b[k].2):= λh=>he (Prod.ext h.1 h.2)
     clear HT he hl HR HL
     generalize a[k]=m at*
     generalize b[k]=m' at*
     obtain⟨n,x⟩:=m
     obtain⟨n',x'⟩:=m'
     simp only[mP]at g1 g2 hF
     repeat' first|simp(disch:=omega)only[go_sem, *,M,g1,g2,wY,I4,and_true,hF,SQ,wrap_i64]|apply ab<;>intro h<;>try omega
     all_goals rfl
   ·have hR:R=true:=by
     rw[HR.out]
     have h:=HT.out
     rw[List.take_of_length_le (by omega),List.take_of_length_le (by omega)]at h
     exact decide_eq_true h
    subst hR
    clear HT HL HR hl
    repeat' first|simp(disch:=omega)only[go_sem, *,M]|apply ab<;>intro h<;>try omega
    all_goals rfl
  ·have e:decide (a=b)=false:=decide_eq_false λh=>hl (by rw[h])
   rw[e]
   have M: ¬(a.length:Int)=(b.length:Int):=by omega
   repeat' first|simp(disch:=omega)only[go_sem, *,M]|apply ab<;>intro h<;>try omega
   all_goals rfl
 ·have e:decide ((ka,a)=(kb,b))=false:=decide_eq_false λh=>hk (congrArg Prod.fst h)
  rw[e]
  clear e
  repeat' first|simp(disch:=omega)only[go_sem, *,hk]|apply ab<;>intro h<;>try omega
  all_goals rfl
theorem FH (a b:aU):ac Ya 51 [iS a,iS b] (Go.Abs.B (decide (a=b))):=by
 refine ac.of I2 (by simp) λhb=>aa ?_
 obtain⟨⟨ka,a⟩,qa⟩:=a
 obtain⟨⟨kb,b⟩,qb⟩:=b
 have pl:=FN (ka,a) (kb,b)
 simp only at pl
 conv in bh _ _=>cbv
 have e:decide (((ka,a),qa)=((kb,b),qb))=(if qa=qb then decide ((ka,a)=(kb,b))else false):=by
  cases qa<;>cases qb<;>simp
 rw[e]
 clear e
 generalize decide ((ka,a)=(kb,b))=d at*
 cases qa
 all_goals
  cases qb
  all_goals
   repeat' first|simp(disch:=omega)only[go_sem, *]|apply ab<;>intro h<;>try omega|refine aq pl rfl rfl ?_
   all_goals rfl
set_option maxRecDepth 20000
set_option maxRecDepth 1000000
theorem lI {l:List aU} {b:List Int} (o: ∀c∈l,br c) (hs:gE l≤400000000) (hb: ∀x∈b,am x):ac Ya 53 [bB l,iE b] (I (d4 l b)):=by
 refine ac.of ml (by simp) λ_=>aa ?_
 conv in bh _ _=>cbv
 have pt:=xc o (λc hc=>by have:=Fj hc;omega)
 unfold d4
 by_cases h0:(be l).2=0
 ·have ht:be l=((be l).1,0):=Prod.ext rfl h0
  have pc:=tK (l:=(be l).1) (b:=b) (λc hc=>(lg ht o c hc).2) hb (by have:=uq ht;omega)
  rw[G9 (λc hc=>(lg ht o c hc).1)]at pc
  rw[if_neg (not_not_intro h0)]
  clear ht o hs
  generalize be l=X at*
  obtain⟨t,e⟩:=X
  simp only at h0 pc ⊢
  subst h0
  have pb:=nS (aD t b).1
  generalize aD t b=C at*
  obtain⟨⟨⟨K,m⟩,q⟩,ce⟩:=C
  simp only at pb ⊢
  by_cases hC:ce=0
  ·subst hC
   rw[if_neg (by simp)]
   by_cases H:dM ((K,m),q)
   ·rw[if_pos H]
    rw[decide_eq_true H]at pb
    clear H
    repeat' first|simp(disch:=omega)only[go_sem, *]|apply ab<;>intro h<;>try omega|refine aW pt rfl rfl ?_|refine aW pc rfl rfl ?_|refine aq pb rfl rfl ?_
    all_goals rfl
   ·rw[if_neg H]
    rw[decide_eq_false H]at pb
    clear H
    repeat' first|simp(disch:=omega)only[go_sem, *]|apply ab<;>intro h<;>try omega|refine aW pt rfl rfl ?_|refine aW pc rfl rfl ?_|refine aq pb rfl rfl ?_
    all_goals rfl
  ·rw[if_pos hC]
   clear pb
   repeat' first|simp(disch:=omega)only[go_sem, *,hC]|apply ab<;>intro h<;>try omega|refine aW pt rfl rfl ?_|refine aW pc rfl rfl ?_
   all_goals rfl
 ·rw[if_pos h0]
  clear o hs
  generalize be l=X at*
  obtain⟨t,e⟩:=X
  simp only at h0 ⊢
  repeat' first|simp(disch:=omega)only[go_sem, *,h0]|apply ab<;>intro h<;>try omega|refine aW pt rfl rfl ?_
  all_goals rfl
set_option maxRecDepth 20000
set_option maxRecDepth 1000000
def mI:Nat→List aU→Int
 |_, []=> -1
 |k,c::l=>if aI c.1.2 then mI (k+1) l else k
theorem Dx: ∀{l:List aU} {k:Nat},0≤mI k l↔ ¬Jx l
 | [],k=>by simp[mI,Jx]
 |c::l,k=>by
  rw[mI]
  have ih:=Dx (l:=l) (k:=k+1)
  by_cases h:aI c.1.2
  ·rw[if_pos h,ih]
   simp only[Jx,List.mem_cons,forall_eq_or_imp]
   constructor
   ·exact λh1 h2=>h1 h2.2
   ·exact λh1 h2=>h1 ⟨h,h2⟩
  ·rw[if_neg h]
   exact⟨λ_ h2=>h (h2 c List.mem_cons_self),λ_=>by omega⟩
theorem J1 {l:List aU} {k:Nat} (h:k<l.length):mI k (l.drop k)=if aI l[k].1.2 then mI (k+1) (l.drop (k+1))else k:=by
 rw[List.drop_eq_getElem_cons h,mI]
theorem tp (c:aU):ac Ya 124 [iS c] (Go.Abs.B (decide (¬aI c.1.2))):=by
 refine ac.of uB (by simp) λ_=>aa ?_
 conv in bh _ _=>cbv
 have pv:=b6 c
 obtain⟨⟨k,l⟩,q⟩:=c
 simp only at pv ⊢
 by_cases h:aI l
 ·rw[if_pos h]at pv
  rw[decide_eq_false (not_not_intro h)]
  clear h
  repeat' first|simp(disch:=omega)only[go_sem, *]|apply ab<;>intro h<;>try omega|refine aq pv rfl rfl ?_
  all_goals rfl
 ·rw[if_neg h]at pv
  rw[decide_eq_true h]
  clear h
  repeat' first|simp(disch:=omega)only[go_sem, *]|apply ab<;>intro h<;>try omega|refine aq pv rfl rfl ?_
  all_goals rfl
theorem oM (l:List aU):ac Ya 162 [bB l,.c (.clo 124 [])] (I (mI 0 l)):=by
 refine ac.of eS (by simp) λhb=>aa ?_
 have hD:l.length≤9223372036854775807:=by have:=hb.1;simpa[gw,gT]using this
 clear hb
 conv in bh _ _=>cbv
 obtain⟨R,hR⟩: ∃R,R=mI 0 (l.drop 0):=⟨_,rfl⟩
 have D:mI 0 l=R:=hR.symm
 rw[D]
 have HR:=Lib.hid hR
 clear hR D
 repeat' first|simp(disch:=omega)only[go_sem, *]|apply ab<;>intro h<;>try omega
 refine ai (λk:Nat=>⟨[(0,bB l),(1,.c (.clo 124 [])),(7,I l.length),(8,I k)], [],0,0⟩) (λk=>k≤l.length∧Hid (R=mI k (l.drop k))) (λk=>l.length-k) ⟨0, [],⟨Nat.zero_le _,HR⟩,by simp⟩ ?_
 clear HR
 rintro k ⟨hk,HR⟩
 refine aa ?_
 by_cases g:k<l.length
 ·have g1:=ah (f:=cP) g
  have h2:=HR.out
  rw[J1 g]at h2
  have p1:=tp l[k]
  clear HR
  generalize l[k]=c at*
  obtain⟨⟨ck,cl⟩,q⟩:=c
  simp only[cP]at g1
  simp only at h2 p1
  by_cases hc:aI cl
  ·rw[if_pos hc]at h2
   rw[decide_eq_false (not_not_intro hc)]at p1
   have HR:=Lib.hid h2
   clear h2 hc
   repeat' first|simp(disch:=omega)only[go_sem, *,g1,wrap_i64]|apply ab<;>intro h<;>try omega|refine aq p1 rfl rfl ?_
   exact⟨k+1, [],⟨g,HR⟩,by omega,by simp⟩
  ·rw[if_neg hc]at h2
   rw[decide_eq_true hc]at p1
   subst h2
   clear hc
   repeat' first|simp(disch:=omega)only[go_sem, *,g1,wrap_i64]|apply ab<;>intro h<;>try omega|refine aq p1 rfl rfl ?_
   all_goals rfl
 ·have h2:=HR.out
  rw[List.drop_eq_nil_of_le (by omega),mI]at h2
  subst h2
  clear HR
  repeat' first|simp(disch:=omega)only[go_sem, *]|apply ab<;>intro h<;>try omega
  all_goals rfl
theorem mn (l:List aU):ac Ya 123 [bB l,.c (.clo 124 [])] (Go.Abs.B (decide (¬Jx l))):=by
 refine ac.of ej (by simp) λhb=>aa ?_
 conv in bh _ _=>cbv
 have p1:=oM l
 have e:=Dx (l:=l) (k:=0)
 have e2:decide (¬Jx l)=decide (0≤mI 0 l):=by
  by_cases h:Jx l
  ·rw[decide_eq_false (not_not_intro h),decide_eq_false (λh'=>e.1 h' h)]
  ·rw[decide_eq_true h,decide_eq_true (e.2 h)]
 rw[e2]
 clear e e2
 generalize mI 0 l=R at*
 by_cases h0:0≤R
 ·rw[decide_eq_true h0]
  repeat' first|simp(disch:=omega)only[go_sem, *,h0]|apply ab<;>intro h<;>try omega|refine aq p1 rfl rfl ?_
  all_goals first|rfl|simp[h0]
 ·rw[decide_eq_false h0]
  repeat' first|simp(disch:=omega)only[go_sem, *,h0]|apply ab<;>intro h<;>try omega|refine aq p1 rfl rfl ?_
  all_goals first|rfl|simp[h0]
theorem wi (l:List aU):ac Ya 72 [bB l] (Go.Abs.B (decide (Jx l))):=by
 refine ac.of yg (by simp) λhb=>aa ?_
 conv in bh _ _=>cbv
 have p1:=mn l
 by_cases h:Jx l
 ·rw[decide_eq_false (not_not_intro h)]at p1
  rw[decide_eq_true h]
  clear h
  repeat' first|simp(disch:=omega)only[go_sem, *]|apply ab<;>intro h<;>try omega|refine aq p1 rfl rfl ?_
  all_goals rfl
 ·rw[decide_eq_true h]at p1
  rw[decide_eq_false h]
  clear h
  repeat' first|simp(disch:=omega)only[go_sem, *]|apply ab<;>intro h<;>try omega|refine aq p1 rfl rfl ?_
  all_goals rfl
def rp (l:List aR):List aR:=l.map λm=>(m.1,-m.2)
def vS (f:bW):bW×Int:=if kB f.2 then((0, []),3)else((-1-f.1,rp f.2),0)
theorem Dl {l:List aR} {k:Nat} (h:k<l.length):(rp (l.take (k+1))).map mP=(rp (l.take k)).map mP++ [[pS l[k].1,pI (-l[k].2)]]:=by
 rw[List.take_succ_eq_append_getElem h]
 show((l.take k++ [l[k]]).map _).map mP=_
 rw[List.map_append,List.map_append]
 rfl
theorem Au {l:List aR} {k:Nat} (h:k<l.length) (h0: ¬kB (l.take k)) (h1:l[k].2≠ -9223372036854775808): ¬kB (l.take (k+1)):=by
 rw[List.take_succ_eq_append_getElem h]
 rintro⟨m,hm,e⟩
 rcases List.mem_append.1 hm with hm|hm
 ·exact h0 ⟨m,hm,e⟩
 ·rw[List.mem_singleton.1 hm]at e;exact h1 e
theorem iD {f:bW} (o:bl f) (hs:short f.2):ac Ya 125 [da f.1 f.2] (GE (vS f)):=by
 refine ac.of ow (by simp) λ_=>aa ?_
 conv in bh _ _=>cbv
 obtain⟨K,l⟩:=f
 obtain⟨hK,hl⟩:=o
 unfold short at hs
 simp only at hK hl hs ⊢
 have wk:IntKind.wrap .i64 (-1-K)= -1-K:=wrap_i64 (by unfold am at hK;omega)
 obtain⟨R,hR⟩: ∃R,R=vS (K,l):=⟨_,rfl⟩
 rw[←hR]
 have HR:=Lib.hid hR
 clear hR hK
 repeat' first|simp(disch:=omega)only[go_sem, *,wk]|apply ab<;>intro h<;>try omega
 refine ci 2 1 85 2 _ rfl rfl (by decide) ?_
 refine ai (λj:Nat=>⟨[(2,.c (.ptr 1 0)),(4,.c (.ptr 2 0)),(12,.c (.pure (ay l))),(13,I l.length),(14,I j)],
  [(0,.var [.pure (pI K),.pure (ay l)]),(1,.var [.pure (pI 0),.nils]),(2,.var [.pure (pI (-1-K)),.ref 3]),(3,.arr 85 2 ((rp (l.take j)).map mP))],4,0⟩) (λj=>j≤l.length∧Hid (¬kB (l.take j))) (λj=>l.length-j) ⟨0, [],⟨Nat.zero_le _,Lib.hid (by simp[kB])⟩,by simp[rp]⟩ ?_
 rintro j ⟨hj,HM⟩
 refine aa ?_
 by_cases g:j<l.length
 ·have e1:=Dl g
  have g1:=ah (f:=mP) g
  have A:(rp (l.take j)).length≤1000000000:=by simp[rp];omega
  have hx:=hl _ (List.getElem_mem g)
  by_cases hm:l[j].2= -9223372036854775808
  ·have h2:R=((0, []),3):=by rw[HR.out,vS,if_pos ⟨_,List.getElem_mem g,hm⟩]
   subst h2
   clear HR HM
   generalize l[j]=m at*
   obtain⟨n,x⟩:=m
   simp only[mP]at g1 e1
   simp only at hm hx
   subst hm
   repeat' first|simp(disch:=omega)only[go_sem, *,g1,wrap_i64]|apply ab<;>intro h<;>try omega
   all_goals rfl
  ·have HM':Hid (¬kB (l.take (j+1))):=Lib.hid (Au g HM.out hm)
   clear HM
   generalize l[j]=m at*
   obtain⟨n,x⟩:=m
   simp only[mP]at g1 e1
   simp only at hm hx
   have wx:IntKind.wrap .i64 (-x)= -x:=wrap_i64 (by unfold am at hx;omega)
   generalize rp (l.take j)=D0 at*
   repeat' first|simp(disch:=omega)only[go_sem, *,g1,wrap_i64,hm,wx]|apply ab<;>intro h<;>try omega|refine aA rfl (by intro h;cases h) (an rfl) (by simp;omega) (by simp;omega) ?_
   exact⟨j+1, [(3,5)],⟨g,HM'⟩,by omega,by simp[e1,wx]⟩
 ·obtain rfl:j=l.length:=by omega
  have hM:=HM.out
  rw[List.take_of_length_le (Nat.le_refl _)]at hM
  have h2:R=((-1-K,rp l),0):=by rw[HR.out,vS,if_neg hM]
  subst h2
  clear HR HM hM
  rw[List.take_of_length_le (Nat.le_refl _)]
  repeat' first|simp(disch:=omega)only[go_sem, *]|apply ab<;>intro h<;>try omega
  all_goals rfl
theorem Gz {c:aU} (v:aI c.1.2):eT c=if(vS c.1).2≠0 then([],(vS c.1).2)else if c.2=false then([((vS c.1).1,false)],0)else if c.1.1= -9223372036854775808 then([],3)else([((c.1.1-1,c.1.2),false),((vS c.1).1,false)],0):=by
 unfold eT vS
 rw[if_neg (not_not_intro v)]
 by_cases h:kB c.1.2
 ·rw[if_pos h,if_pos h,if_pos (by decide)]
 ·rw[if_neg h,if_neg h]
  simp only[ne_eq,not_true_eq_false,if_false]
  rfl
theorem jr {c:aU} (o:br c) (hs:short c.1.2):ac Ya 73 [iS c] (AN (eT c)):=by
 refine ac.of ke (by simp) λ_=>aa ?_
 conv in bh _ _=>cbv
 have pv:=b6 c
 by_cases v:aI c.1.2
 ·have po:=iD (f:=c.1) o hs
  rw[Gz v]
  rw[if_pos v]at pv
  have hK:=o.1
  generalize vS c.1=O at*
  obtain⟨⟨OK,OL⟩,oe⟩:=O
  obtain⟨⟨K,l⟩,q⟩:=c
  unfold short at hs
  try simp only at po pv hs hK ⊢
  clear v o
  unfold am at hK
  by_cases h0:oe=0
  ·subst h0
   rw[if_neg (by simp)]
   cases q
   ·rw[if_pos rfl]
    repeat' first|simp(disch:=omega)only[go_sem, *]|apply ab<;>intro h<;>try omega|refine aq pv rfl rfl ?_|refine aW po rfl rfl ?_
    all_goals rfl
   ·rw[if_neg (by simp)]
    by_cases h1:K= -9223372036854775808
    ·rw[if_pos h1]
     subst h1
     repeat' first|simp(disch:=omega)only[go_sem, *]|apply ab<;>intro h<;>try omega|refine aq pv rfl rfl ?_|refine aW po rfl rfl ?_
     all_goals rfl
    ·rw[if_neg h1]
     have wk:IntKind.wrap .i64 (K-1)=K-1:=wrap_i64 (by omega)
     have J:aK 2 (l.map mP):=ar λ_=>rfl
     repeat' first|simp(disch:=omega)only[go_sem, *,h1,wk]|apply ab<;>intro h<;>try omega|apply af|(with_reducible refine ag (λh=> ?_) ?_)|refine aq pv rfl rfl ?_|refine aW po rfl rfl ?_|refine vq J (by simp;omega) (by simp;omega) ?_
     all_goals rfl
  ·rw[if_pos h0]
   repeat' first|simp(disch:=omega)only[go_sem, *,h0]|apply ab<;>intro h<;>try omega|refine aq pv rfl rfl ?_|refine aW po rfl rfl ?_
   all_goals rfl
 ·rw[if_neg v]at pv
  rw[eT,if_pos v]
  obtain⟨⟨K,l⟩,q⟩:=c
  try simp only at pv ⊢
  clear v
  repeat' first|simp(disch:=omega)only[go_sem, *]|apply ab<;>intro h<;>try omega|refine aq pv rfl rfl ?_
  all_goals rfl
theorem kE {l:List aU} {c:aU} (o:br c) (hs:short c.1.2):ac Ya 37 [bB l,iS c] (AN (d9 l c)):=by
 refine ac.of tM (by simp) λ_=>aa ?_
 conv in bh _ _=>cbv
 have p1:=wi l
 have p2:=b6 c
 have p3:=jr o hs
 unfold d9
 by_cases h1:Jx l
 ·rw[decide_eq_true h1]at p1
  by_cases h2:aI c.1.2
  ·rw[if_pos h2]at p2
   rw[if_neg (by rintro(h|h);exact h h1;exact h h2)]
   clear h1 h2 o hs
   obtain⟨⟨K,m⟩,q⟩:=c
   try simp only at p2 p3
   generalize eT ((K,m),q)=X at*
   obtain⟨xs,e⟩:=X
   try simp only at p3
   repeat' first|simp(disch:=omega)only[go_sem, *]|apply ab<;>intro h<;>try omega|refine aq p1 rfl rfl ?_|refine aq p2 rfl rfl ?_|refine aW p3 rfl rfl ?_
   all_goals rfl
  ·rw[if_neg h2]at p2
   rw[if_pos (.inr h2)]
   clear h1 h2 o hs p3
   obtain⟨⟨K,m⟩,q⟩:=c
   try simp only at p2
   repeat' first|simp(disch:=omega)only[go_sem, *]|apply ab<;>intro h<;>try omega|refine aq p1 rfl rfl ?_|refine aq p2 rfl rfl ?_
   all_goals rfl
 ·rw[decide_eq_false h1]at p1
  rw[if_pos (.inl h1)]
  clear h1 o hs p3 p2
  obtain⟨⟨K,m⟩,q⟩:=c
  repeat' first|simp(disch:=omega)only[go_sem, *]|apply ab<;>intro h<;>try omega|refine aq p1 rfl rfl ?_
  all_goals rfl
theorem Mz (B:bk):aw Ya 80 [bB []] [(0,B)] 1 (.c (.tsl [])) [(0,B)] 1:=by
 refine aw.of dk (by simp) λ_=> ?_
 conv in bh _ _=>cbv
 refine bU (aa ?_)
 repeat' first|simp(disch:=omega)only[go_sem, *]|apply ab<;>intro h<;>try omega
 refine bU (bU (aa ?_))
 repeat' first|simp(disch:=omega)only[go_sem, *]|apply ab<;>intro h<;>try omega|apply af|(with_reducible refine ag (λh=> ?_) ?_)
 ·refine fw (t:=true) rfl (λ_=> ?_) (λe=>by cases e)
  refine bU (aa ?_)
  repeat' first|simp(disch:=omega)only[go_sem, *]|apply ab<;>intro h<;>try omega
  refine vT 2 rfl (lV ?_)
  repeat' first|simp(disch:=omega)only[go_sem, *,yu]|apply ab<;>intro h<;>try omega
  all_goals first|rfl|trace_state
 ·refine fw (t:=false) rfl (λe=>by cases e) (λ_=>kK ?_)
  change AW _ _ _ _ _
  refine bU (aa ?_)
  repeat' first|simp(disch:=omega)only[go_sem, *]|apply ab<;>intro h<;>try omega|refine dy (by intro r hr;cases hr) ?_
  refine lV ?_
  repeat' first|simp(disch:=omega)only[go_sem, *,yu]|apply ab<;>intro h<;>try omega
  all_goals first|rfl|trace_state
theorem JS (B:bk) (x:aU) (l:List aU) (hl:l.length+1≤1000000000):aw Ya 80 [bB (x::l)] [(0,B)] 1 (.c (.ref 1)) [(1,.arr 64 3 ((x::l).map cP)),(0,B)] 2:=by
 refine aw.of dk (by simp) λ_=>aa ?_
 conv in bh _ _=>cbv
 have v:aK 3 ((x::l).map cP):=by
  intro r hr
  obtain⟨y,_,rfl⟩:=List.mem_map.1 hr
  rfl
 repeat' first|simp(disch:=omega)only[go_sem, *]|apply ab<;>intro h<;>try omega|apply af|(with_reducible refine ag (λh=> ?_) ?_)|refine c8 (by intro r hr;cases hr) v (by simp) (by simp;omega) (by simp;omega) ?_
 all_goals first|rfl|(exfalso;have:=h (cP x) List.mem_cons_self;cases this)
set_option maxRecDepth 20000
set_option maxRecDepth 1000000
theorem px {l:List aU} (c:aU) (hl:l.length≤1000000000):ac Ya 39 [bB l,iS c] (bB (l++ [c])):=by
 refine ac.of AL (by simp) λ_=>aa ?_
 conv in bh _ _=>cbv
 obtain⟨⟨K,m⟩,q⟩:=c
 cases l with
 |nil=>
  repeat' first|simp(disch:=omega)only[go_sem, *]|apply ab<;>intro h<;>try omega|apply af|(with_reducible refine ag (λh=> ?_) ?_)|refine ap (Mz _) ?_|refine c8 (by intro r hr;cases hr) (an rfl) (by simp) (by simp) (by simp) ?_
  all_goals rfl
 |cons x l=>
  simp only[List.length_cons]at hl
  repeat' first|simp(disch:=omega)only[go_sem, *]|apply ab<;>intro h<;>try omega|apply af|(with_reducible refine ag (λh=> ?_) ?_)|refine ap (JS _ x l (by omega)) ?_|refine aA rfl (by intro h;cases h) (an rfl) (by simp;omega) (by simp;omega) ?_
  all_goals simp[cP]
theorem Jt {l P:List aU} {fuel:Int} {acc:List Int} {i:Nat} (h:i<P.length):iJ l fuel (P.drop i) acc=if(fQ (l++ [P[i]]) fuel).2.2≠0 then([],false,(fQ (l++ [P[i]]) fuel).2.2)else if(fQ (l++ [P[i]]) fuel).2.1=false then([],false,0)else iJ l fuel (P.drop (i+1)) (acc++(fQ (l++ [P[i]]) fuel).1):=by
 rw[List.drop_eq_getElem_cons h,iJ]
theorem Ej {l:List aU} {p:aU}:gE (l++ [p])=gE l+p.1.2.length:=by rw[iu];simp[gE]
theorem tw {l:List aU} {c:aU} {fuel:Int} (o: ∀d∈l,br d) (hc:br c) (hl:l.length≤10000) (ht:gE l+c.1.2.length≤1000000) (hf:am fuel):
  ac Ya 15 [bB l,iS c,I fuel] (SH (fS l c fuel)):=by
 refine ac.of ux (by simp) λ_=>aa ?_
 conv in bh _ _=>cbv
 have pn:=kE (l:=l) hc (by unfold short;omega)
 have w:=qH (l:=l) hc
 have u:= λd (hd:d∈(d9 l c).1)=>vV hd
 have G:=sq l c
 unfold fS
 generalize d9 l c=X at*
 obtain⟨P,e⟩:=X
 obtain⟨⟨K,m⟩,q⟩:=c
 simp only at pn w u G ht ⊢
 by_cases h0:e=0
 ·subst h0
  rw[if_neg (by simp)]
  obtain⟨R,hR⟩: ∃R,R=iJ l fuel (P.drop 0) []:=⟨_,rfl⟩
  have D:iJ l fuel P []=R:=hR.symm
  rw[D]
  have HR:=Lib.hid hR
  clear hR D
  repeat' first|simp(disch:=omega)only[go_sem, *]|apply ab<;>intro h<;>try omega|refine aW pn rfl rfl ?_
  refine dv 11 2 1 rfl (by decide) ?_
  refine ai (λs:Nat×List Int=>⟨[(0,bB l),(2,I fuel),(11,.c (.ref 1)),(26,bB P),(27,I P.length),(28,I s.1)], [(1,.arr 2 1 (s.2.map λn=> [pI n]))],2,0⟩)
   (λs=>s.1≤P.length∧s.2.length≤s.1*10001∧Hid (R=iJ l fuel (P.drop s.1) s.2)) (λs=>P.length-s.1) ⟨(0, []), [],⟨Nat.zero_le _,by simp,HR⟩,by simp⟩ ?_
  clear HR pn
  rintro⟨i,acc⟩ ⟨hi,ha,HR⟩
  simp only at hi ha HR
  refine aa ?_
  by_cases g:i<P.length
  ·have g1:=ah (f:=cP) g
   have h2:=HR.out
   rw[Jt g]at h2
   have hp:=w _ (List.getElem_mem g)
   have Q:=u _ (List.getElem_mem g)
   have pw:=px (l:=l) P[i] (by omega)
   have pi:=su (l:=l++ [P[i]]) (fuel:=fuel) (xf o hp) (by rw[Ej];omega) hf
   have A:=OS (l:=l++ [P[i]]) (fuel:=fuel) (xf o hp)
   rw[List.length_append,List.length_singleton]at A
   clear HR hp Q w u
   generalize fQ (l++ [P[i]]) fuel=Y at*
   obtain⟨by',ok,e⟩:=Y
   generalize P[i]=p at*
   obtain⟨⟨pk,pl⟩,pq⟩:=p
   simp only[cP]at g1
   simp only at h2 pw pi A
   have v:=ar (f:= λn:Int=> [pI n]) (sz:=1) (xs:=by') λ_=>rfl
   by_cases he:e=0
   ·subst he
    rw[if_neg (by simp)]at h2
    cases ok
    ·rw[if_pos rfl]at h2
     subst h2
     clear v
     repeat' first|simp(disch:=omega)only[go_sem, *,g1,wrap_i64]|apply ab<;>intro h<;>try omega|refine aW pw rfl rfl ?_|refine aW pi rfl rfl ?_
     all_goals rfl
    ·rw[if_neg (by simp)]at h2
     have HR:=Lib.hid h2
     clear h2
     repeat' first|simp(disch:=omega)only[go_sem, *,g1,wrap_i64]|apply ab<;>intro h<;>try omega|refine aW pw rfl rfl ?_|refine aW pi rfl rfl ?_|refine aA rfl (by intro h;cases h) v (by simp;omega) (by simp;omega) ?_
     exact⟨(i+1,acc++by'), [(1,3)],⟨g,by simp;omega,HR⟩,by show _-_<_-_;omega,by simp⟩
   ·rw[if_pos he]at h2
    subst h2
    clear v
    repeat' first|simp(disch:=omega)only[go_sem, *,g1,he,wrap_i64]|apply ab<;>intro h<;>try omega|refine aW pw rfl rfl ?_|refine aW pi rfl rfl ?_
    all_goals rfl
  ·have h2:=HR.out
   rw[List.drop_eq_nil_of_le (by omega),iJ]at h2
   subst h2
   clear HR w u
   repeat' first|simp(disch:=omega)only[go_sem, *]|apply ab<;>intro h<;>try omega
   all_goals rfl
 ·rw[if_pos h0]
  repeat' first|simp(disch:=omega)only[go_sem, *,h0]|apply ab<;>intro h<;>try omega|refine aW pn rfl rfl ?_
  all_goals rfl
theorem DI {l P:List aU} {b:List Int} {i:Nat} (h:i<P.length):t6 l b i (P.drop i)=if d4 (l++ [P[i]]) ((b.take ((i+1)*(l.length+1))).drop (i*(l.length+1)))≠0 then d4 (l++ [P[i]]) ((b.take ((i+1)*(l.length+1))).drop (i*(l.length+1)))else t6 l b (i+1) (P.drop (i+1)):=by
 rw[List.drop_eq_getElem_cons h,t6]
set_option maxRecDepth 20000
set_option maxRecDepth 1000000
theorem ir (c:aU):ac Ya 99 [iS c] (I (if aI c.1.2 then 0 else 1)):=by
 refine ac.of uW (by simp) λ_=>aa ?_
 conv in bh _ _=>cbv
 have pv:=dA c.1.1 c.1.2
 obtain⟨⟨k,l⟩,q⟩:=c
 try simp only at pv ⊢
 by_cases h:aI l
 ·rw[decide_eq_true h]at pv
  rw[if_pos h]
  clear h
  repeat' first|simp(disch:=omega)only[go_sem, *]|apply ab<;>intro h<;>try omega|refine aq pv rfl rfl ?_
  all_goals rfl
 ·rw[decide_eq_false h]at pv
  rw[if_neg h]
  clear h
  repeat' first|simp(disch:=omega)only[go_sem, *]|apply ab<;>intro h<;>try omega|refine aq pv rfl rfl ?_
  all_goals rfl
theorem yq (l:List aU):ac Ya 98 [bB l] (Go.Abs.B (decide (Jx l))):=by
 refine ac.of zw (by simp) λhb=>aa ?_
 have hD:l.length≤9223372036854775807:=by have:=hb.1;simpa[gw,gT]using this
 clear hb
 conv in bh _ _=>cbv
 obtain⟨R,hR⟩: ∃R,R=decide (Jx l):=⟨_,rfl⟩
 rw[←hR]
 have HR:=Lib.hid hR
 clear hR
 repeat' first|simp(disch:=omega)only[go_sem, *]|apply ab<;>intro h<;>try omega
 refine ai (λk:Nat=>⟨[(0,bB l),(3,I k)], [],0,0⟩) (λk=>k≤l.length∧Hid (∀c∈l.take k,aI c.1.2)) (λk=>l.length-k) ⟨0, [],⟨Nat.zero_le _,Lib.hid (by simp)⟩,by simp⟩ ?_
 rintro k ⟨hk,HT⟩
 refine aa ?_
 by_cases g:k<l.length
 ·have g1:=ah (f:=cP) g
  have pv:=ir l[k]
  by_cases hc:aI l[k].1.2
  ·have HT':Hid (∀c∈l.take (k+1),aI c.1.2):=Lib.hid (by
    rw[List.take_succ_eq_append_getElem g]
    intro c hI
    rcases List.mem_append.1 hI with h|h
    ·exact HT.out c h
    ·rw[List.mem_singleton.1 h];exact hc)
   rw[if_pos hc]at pv
   clear HT hc
   generalize l[k]=c at*
   obtain⟨⟨ck,cl⟩,q⟩:=c
   simp only[cP]at g1
   try simp only at pv
   repeat' first|simp(disch:=omega)only[go_sem, *,g1,wrap_i64]|apply ab<;>intro h<;>try omega|refine aq pv rfl rfl ?_
   exact⟨k+1, [],⟨g,HT'⟩,by omega,by simp⟩
  ·have hR:R=false:=by
    rw[HR.out]
    exact decide_eq_false λh=>hc (h _ (List.getElem_mem g))
   subst hR
   rw[if_neg hc]at pv
   clear HT HR hc
   generalize l[k]=c at*
   obtain⟨⟨ck,cl⟩,q⟩:=c
   simp only[cP]at g1
   try simp only at pv
   repeat' first|simp(disch:=omega)only[go_sem, *,g1,wrap_i64]|apply ab<;>intro h<;>try omega|refine aq pv rfl rfl ?_
   all_goals rfl
 ·have hR:R=true:=by
   rw[HR.out]
   have h:=HT.out
   rw[List.take_of_length_le (by omega)]at h
   exact decide_eq_true h
  subst hR
  clear HT HR
  repeat' first|simp(disch:=omega)only[go_sem, *]|apply ab<;>intro h<;>try omega
  all_goals rfl
set_option maxRecDepth 20000
set_option maxRecDepth 1000000
theorem Qf {K:Int} (h:am K):IntKind.wrap .i64 (((BitVec.ofInt 64 (if IntKind.signed .i64=true then-1 else 9223372036854775807)^^^BitVec.ofInt 64 K).toNat:Nat):Int)= -1-K:=by
 have e:BitVec.ofInt 64 (if IntKind.signed .i64=true then(-1)else 9223372036854775807)=BitVec.allOnes 64:=by decide
 rw[e,BitVec.allOnes_xor,BitVec.toNat_not,BitVec.toNat_ofInt,IntKind.wrap_i64]
 unfold am at h
 have h1:((2^64:Nat):Int)=18446744073709551616:=by decide
 have h2:(2^64:Nat)=18446744073709551616:=by decide
 rw[h1,h2]
 omega
theorem nv {c:aU} (o:br c) (hs:short c.1.2):ac Ya 100 [iS c] (AN (eT c)):=by
 refine ac.of yM (by simp) λ_=>aa ?_
 simp only[rg]
 have pv:=ir c
 by_cases v:aI c.1.2
 ·rw[Gz v]
  rw[if_pos v]at pv
  obtain⟨hK,hl⟩:=o
  obtain⟨⟨K,l⟩,q⟩:=c
  unfold short at hs
  try simp only at pv hs hK hl ⊢
  clear v
  have wk:=Qf hK
  obtain⟨R,hR⟩: ∃R,R=vS (K,l):=⟨_,rfl⟩
  rw[←hR]
  have HR:=Lib.hid hR
  clear hR
  repeat' first|simp(disch:=omega)only[go_sem, *,wk]|apply ab<;>intro h<;>try omega|refine aq pv rfl rfl ?_
  refine ci 1 1 85 2 _ rfl rfl (by decide) ?_
  refine ai (λj:Nat=>⟨[(1,.c (.ptr 0 0)),(5,.c (.ptr 1 0)),(6,I j)],
   [(0,.var [.pure (pI K),.pure (ay l),.pure (pB q)]),(1,.var [.pure (pI (-1-K)),.ref 2,.pure (pB false)]),(2,.arr 85 2 ((rp (l.take j)).map mP))],3,0⟩) (λj=>j≤l.length∧Hid (¬kB (l.take j))) (λj=>l.length-j) ⟨0, [],⟨Nat.zero_le _,Lib.hid (by simp[kB])⟩,by(simp[rp];exact wk)⟩ ?_
  rintro j ⟨hj,HM⟩
  refine aa ?_
  by_cases g:j<l.length
  ·have e1:=Dl g
   have g1:=ah (f:=mP) g
   have A:(rp (l.take j)).length≤1000000000:=by simp[rp];omega
   have hx:=hl _ (List.getElem_mem g)
   by_cases hm:l[j].2= -9223372036854775808
   ·have h2:R=((0, []),3):=by rw[HR.out,vS,if_pos ⟨_,List.getElem_mem g,hm⟩]
    subst h2
    rw[if_pos (by decide)]
    clear HR HM
    generalize l[j]=m at*
    obtain⟨n,x⟩:=m
    simp only[mP]at g1 e1
    simp only at hm hx
    subst hm
    repeat' first|simp(disch:=omega)only[go_sem, *,g1,wrap_i64]|apply ab<;>intro h<;>try omega
    all_goals rfl
   ·have HM':Hid (¬kB (l.take (j+1))):=Lib.hid (Au g HM.out hm)
    clear HM
    generalize l[j]=m at*
    obtain⟨n,x⟩:=m
    simp only[mP]at g1 e1
    simp only at hm hx
    have wx:IntKind.wrap .i64 (-x)= -x:=wrap_i64 (by unfold am at hx;omega)
    generalize rp (l.take j)=D0 at*
    repeat' first|simp(disch:=omega)only[go_sem, *,g1,wrap_i64,hm,wx]|apply ab<;>intro h<;>try omega|refine aA rfl (by intro h;cases h) (an rfl) (by simp;omega) (by simp;omega) ?_
    exact⟨j+1, [(2,3)],⟨g,HM'⟩,by omega,by simp[e1,wx]⟩
  ·obtain rfl:j=l.length:=by omega
   have hM:=HM.out
   rw[List.take_of_length_le (Nat.le_refl _)]at hM
   have h2:R=((-1-K,rp l),0):=by rw[HR.out,vS,if_neg hM]
   subst h2
   rw[if_neg (by simp)]
   clear HR HM hM
   rw[List.take_of_length_le (Nat.le_refl _)]
   cases q
   ·rw[if_pos rfl]
    repeat' first|simp(disch:=omega)only[go_sem, *]|apply ab<;>intro h<;>try omega
    all_goals rfl
   ·rw[if_neg (by simp)]
    by_cases h1:K= -9223372036854775808
    ·rw[if_pos h1]
     subst h1
     repeat' first|simp(disch:=omega)only[go_sem, *]|apply ab<;>intro h<;>try omega
     all_goals rfl
    ·rw[if_neg h1]
     have wk2:IntKind.wrap .i64 (K-1)=K-1:=wrap_i64 (by unfold am at hK;omega)
     repeat' first|simp(disch:=omega)only[go_sem, *,h1,wk2]|apply ab<;>intro h<;>try omega
     refine ci 3 1 85 2 _ rfl rfl (by decide) ?_
     refine ai (λj:Nat=>⟨[(1,.c (.ptr 0 0)),(5,.c (.ptr 1 0)),(7,.c (.ptr 3 0)),(8,I j)],
      [(0,.var [.pure (pI K),.pure (ay l),.pure (pB true)]),(1,.var [.pure (pI (-1-K)),.ref 2,.pure (pB false)]),(2,.arr 85 2 ((rp l).map mP)),(3,.var [.pure (pI (K-1)),.ref 4,.pure (pB false)]),(4,.arr 85 2 ((l.take j).map mP))],5,0⟩) (λj=>j≤l.length) (λj=>l.length-j) ⟨0, [],Nat.zero_le _,by simp⟩ ?_
     intro j hj
     refine aa ?_
     by_cases g:j<l.length
     ·have g1:=ah (f:=mP) g
      have e1:(l.take (j+1)).map mP=(l.take j).map mP++ [mP l[j]]:=by rw[List.take_succ_eq_append_getElem g,List.map_append];rfl
      have A:(l.take j).length≤1000000000:=by simp;omega
      generalize l[j]=m at*
      obtain⟨n,x⟩:=m
      simp only[mP]at g1 e1
      generalize l.take j=D0 at*
      repeat' first|simp(disch:=omega)only[go_sem, *,g1,wrap_i64]|apply ab<;>intro h<;>try omega|refine aA rfl (by intro h;cases h) (an rfl) (by simp;omega) (by simp;omega) ?_
      exact⟨j+1, [(4,5)],g,by omega,by simp[e1]⟩
     ·obtain rfl:j=l.length:=by omega
      rw[List.take_of_length_le (Nat.le_refl _)]
      repeat' first|simp(disch:=omega)only[go_sem, *]|apply ab<;>intro h<;>try omega
      all_goals rfl
 ·rw[if_neg v]at pv
  rw[eT,if_pos v]
  obtain⟨⟨K,l⟩,q⟩:=c
  try simp only at pv ⊢
  clear v
  repeat' first|simp(disch:=omega)only[go_sem, *]|apply ab<;>intro h<;>try omega|refine aq pv rfl rfl ?_
  all_goals rfl
abbrev Wg (l:List (List aU)):AV:=i6 (λq=> [dp cP q]) l
def Rd (l P:List aU):List (List PC):=(P.map λp=>l++ [p]).map λq=> [dp cP q]
theorem sG {l:List aU} {c:aU} (o:br c) (hs:short c.1.2) (hl:l.length≤10000):ac Ya 52 [bB l,iS c] (.tup [Wg (EM l c).1,I (EM l c).2]):=by
 refine ac.of tO (by simp) λ_=>aa ?_
 conv in bh _ _=>cbv
 have p1:=yq l
 have p2:=ir c
 have p3:=nv o hs
 have G:=G0 c
 rw[EM]
 by_cases h1:Jx l
 ·rw[decide_eq_true h1]at p1
  by_cases h2:aI c.1.2
  ·rw[if_pos h2]at p2
   have en:d9 l c=eT c:=by rw[d9,if_neg (by rintro(h|h);exact h h1;exact h h2)]
   rw[en]
   clear en
   clear h1 h2 o hs
   obtain⟨⟨K,m⟩,q⟩:=c
   try simp only at p2 p3 G
   generalize eT ((K,m),q)=X at*
   obtain⟨P,e⟩:=X
   try simp only at p3 G ⊢
   by_cases h0:e=0
   ·subst h0
    rw[if_neg (by simp)]
    have v:=ar (f:=cP) (sz:=3) (xs:=l) λ_=>rfl
    repeat' first|simp(disch:=omega)only[go_sem, *]|apply ab<;>intro h<;>try omega|refine aq p1 rfl rfl ?_|refine aq p2 rfl rfl ?_|refine aW p3 rfl rfl ?_
    refine dv 8 23 1 rfl (by decide) ?_
    refine ai (λi:Nat=>⟨[(0,bB l),(6,bB P),(8,.c (.ref 1)),(9,I i)], [(1,.arr 23 1 (Rd l (P.take i)))],2,0⟩)
     (λi=>i≤P.length) (λi=>P.length-i) ⟨0, [],Nat.zero_le _,by simp[Rd]⟩ ?_
    clear p1 p2 p3
    intro i hi
    refine aa ?_
    by_cases g:i<P.length
    ·have g1:=ah (f:=cP) g
     have e1:Rd l (P.take (i+1))=Rd l (P.take i)++ [[dp cP (l++ [P[i]])]]:=by
      rw[List.take_succ_eq_append_getElem g,Rd,Rd,List.map_append,List.map_append];rfl
     have A:(Rd l (P.take i)).length≤2:=by simp[Rd];omega
     generalize P[i]=p at*
     obtain⟨⟨pk,pl⟩,pq⟩:=p
     simp only[cP]at g1
     rw[dp,List.map_append]at e1
     generalize Rd l (P.take i)=D0 at*
     repeat' first|simp(disch:=omega)only[go_sem, *,g1,wrap_i64]|apply ab<;>intro h<;>try omega|refine ia v (by simp;omega) (by simp;omega) ?_|refine aA rfl (by intro h;cases h) (an rfl) (by simp;omega) (by simp;omega) ?_
     exact⟨i+1, [(1,4)],g,by omega,by simp[e1,cP]⟩
    ·obtain rfl:i=P.length:=by omega
     rw[List.take_of_length_le (Nat.le_refl _)]
     repeat' first|simp(disch:=omega)only[go_sem, *]|apply ab<;>intro h<;>try omega
     all_goals rfl
   ·rw[if_pos h0]
    repeat' first|simp(disch:=omega)only[go_sem, *,h0]|apply ab<;>intro h<;>try omega|refine aq p1 rfl rfl ?_|refine aq p2 rfl rfl ?_|refine aW p3 rfl rfl ?_
    all_goals rfl
  ·rw[if_neg h2]at p2
   have en:d9 l c=([],1):=by rw[d9,if_pos (.inr h2)]
   rw[en,if_pos (show(1:Int)≠0 by decide)]
   clear en
   clear h1 h2 o hs p3 G
   obtain⟨⟨K,m⟩,q⟩:=c
   try simp only at p2
   repeat' first|simp(disch:=omega)only[go_sem, *]|apply ab<;>intro h<;>try omega|refine aq p1 rfl rfl ?_|refine aq p2 rfl rfl ?_
   all_goals rfl
 ·rw[decide_eq_false h1]at p1
  have en:d9 l c=([],1):=by rw[d9,if_pos (.inl h1)]
  rw[en,if_pos (show(1:Int)≠0 by decide)]
  clear en
  clear h1 o hs p3 p2 G
  obtain⟨⟨K,m⟩,q⟩:=c
  repeat' first|simp(disch:=omega)only[go_sem, *]|apply ab<;>intro h<;>try omega|refine aq p1 rfl rfl ?_
  all_goals rfl
set_option maxRecDepth 20000
set_option maxRecDepth 1000000
def V5 (l:List aR):Prop:=l.length≤40∧ ∀m∈l,m.1.size≤40
instance (l:List aR):Decidable (V5 l):=Classical.propDecidable _
def Wc (l:List aU) (n:Int):Prop:=(l.length:Int)≤n∧ ∀c∈l,c.1.2.length≤20∧V5 c.1.2
instance (l:List aU) (n:Int):Decidable (Wc l n):=Classical.propDecidable _
def VL (l:List aU) (n fuel:Int):Prop:=Wc l n∧fuel≤3000
instance (l:List aU) (n fuel:Int):Decidable (VL l n fuel):=Classical.propDecidable _
theorem kQ {l:List aU} {c:aU} {b:List Int} (o: ∀d∈l,br d) (hc:br c) (hl:l.length≤10000) (ht:gE l+c.1.2.length≤1000000) (hb: ∀x∈b,am x):
  ac Ya 18 [bB l,iS c,iE b] (I (uR l c b)):=by
 refine ac.of mi (by simp) λV=>aa ?_
 have hD:b.length≤9223372036854775807:=by have:=V.2.2.1;simpa[gw,gT]using this
 clear V
 conv in bh _ _=>cbv
 have pn:=kE (l:=l) hc (by unfold short;omega)
 have w:=qH (l:=l) hc
 have u:= λd (hd:d∈(d9 l c).1)=>vV hd
 have G:=sq l c
 unfold uR
 generalize d9 l c=X at*
 obtain⟨P,e⟩:=X
 obtain⟨⟨K,m⟩,q⟩:=c
 simp only at pn w u G ht ⊢
 by_cases h0:e=0
 ·subst h0
  rw[if_neg (by simp)]
  have hp:P.length=0∨P.length=1∨P.length=2:=by omega
  have wl:IntKind.wrap .i64 ((l.length:Int)+1)=(l.length:Int)+1:=wrap_i64 (by omega)
  have wm:IntKind.wrap .i64 ((P.length:Int)*((l.length:Int)+1))=(P.length:Int)*((l.length:Int)+1):=by
   rcases hp with h|h|h<;>rw[h]<;>exact wrap_i64 (by omega)
  by_cases E:b.length=P.length*(l.length+1)
  ·rw[if_neg (not_not_intro E)]
   have F:(b.length:Int)=(P.length:Int)*((l.length:Int)+1):=by rw[E,Int.natCast_mul,Int.natCast_add];rfl
   obtain⟨R,hR⟩: ∃R,R=t6 l b 0 (P.drop 0):=⟨_,rfl⟩
   have D:t6 l b 0 P=R:=hR.symm
   rw[D]
   have HR:=Lib.hid hR
   clear hR D
   repeat' first|simp(disch:=omega)only[go_sem,wl,wm,F]|((with_reducible refine ab ?_ ?_)<;>intro h<;>try first|omega|simp(disch:=omega)only[go_sem, *,wl,wm,F])|refine aW pn rfl rfl ?_
   refine ai (λi:Nat=>⟨[(0,bB l),(2,iE b),(9,I (l.length+1)),(32,bB P),(33,I P.length),(34,I i)], [],0,0⟩)
    (λi=>i≤P.length∧Hid (R=t6 l b i (P.drop i))) (λi=>P.length-i) ⟨0, [],⟨Nat.zero_le _,HR⟩,by simp[wl]⟩ ?_
   clear HR pn wm wl
   rintro i ⟨hi,HR⟩
   refine aa ?_
   by_cases g:i<P.length
   ·have g1:=ah (f:=cP) g
    have h2:=HR.out
    rw[DI g]at h2
    have W:=w _ (List.getElem_mem g)
    have Q:=u _ (List.getElem_mem g)
    have pw:=px (l:=l) P[i] (by omega)
    have L:i=0∨i=1:=by omega
    have A:(i+1)*(l.length+1)≤b.length:=by
     rw[E];exact Nat.mul_le_mul_right _ g
    have Z:(i+1)*(l.length+1)=i*(l.length+1)+(l.length+1):=Nat.succ_mul _ _
    have hG:((b.take ((i+1)*(l.length+1))).drop (i*(l.length+1))).length≤1000000000:=by
     rw[List.length_drop,List.length_take];omega
    have pcl:=mD hG
    have pk:=gP (l:=l++ [P[i]]) (b:=(b.take ((i+1)*(l.length+1))).drop (i*(l.length+1))) (xf o W) (by rw[Ej];omega) (λx hx=>hb x (List.mem_of_mem_take (List.mem_of_mem_drop hx)))
    have w1:IntKind.wrap .i64 ((i:Int)*((l.length:Int)+1))=((i*(l.length+1):Nat):Int):=by
     rcases L with h|h<;>subst h
     ·rw[wrap_i64 (by omega)];omega
     ·rw[wrap_i64 (by omega)];omega
    have w2:IntKind.wrap .i64 (((i:Int)+1)*((l.length:Int)+1))=(((i+1)*(l.length+1):Nat):Int):=by
     rcases L with h|h<;>subst h
     ·rw[wrap_i64 (by omega)];omega
     ·rw[wrap_i64 (by omega)];omega
    clear HR W Q w u E F hG
    generalize d4 (l++ [P[i]]) ((b.take ((i+1)*(l.length+1))).drop (i*(l.length+1)))=CK at*
    generalize (i+1)*(l.length+1)=HI at*
    generalize i*(l.length+1)=LO at*
    generalize P[i]=p at*
    obtain⟨⟨pk',pl⟩,pq⟩:=p
    simp only[cP]at g1
    try simp only at pw pk
    have ew:((b.map λn=> [pI n]).take HI).drop LO=((b.take HI).drop LO).map λn=> [pI n]:=by rw[List.map_drop,List.map_take]
    have J:aK 1 (b.map λn=> [pI n]):=ar λ_=>rfl
    have tk:(b.map λn=> [pI n]).take b.length=b.map λn=> [pI n]:=List.take_of_length_le (by simp)
    by_cases he:CK=0
    ·subst he
     rw[if_neg (by simp)]at h2
     have HR:=Lib.hid h2
     clear h2
     repeat' first|simp(disch:=omega)only[go_sem,g1,w1,w2,wrap_i64,J,ew,tk,Int.toNat_natCast,Option.getD_some,Option.getD_none,List.length_map]|((with_reducible refine ab ?_ ?_)<;>intro h<;>try first|omega|simp(disch:=omega)only[go_sem, *,g1,w1,w2,wrap_i64,J,ew,tk,Int.toNat_natCast,Option.getD_some,Option.getD_none,List.length_map])|apply af|(with_reducible refine ag (λh=> ?_) ?_)|refine aW pw rfl rfl ?_|refine aW pcl rfl rfl ?_|refine aW pk rfl rfl ?_
     all_goals exact⟨i+1, [],⟨g,HR⟩,by omega,by simp⟩
    ·rw[if_pos he]at h2
     subst h2
     repeat' first|simp(disch:=omega)only[go_sem,g1,w1,w2,he,wrap_i64,J,ew,tk,Int.toNat_natCast,Option.getD_some,Option.getD_none,List.length_map]|((with_reducible refine ab ?_ ?_)<;>intro h<;>try first|omega|simp(disch:=omega)only[go_sem, *,g1,w1,w2,he,wrap_i64,J,ew,tk,Int.toNat_natCast,Option.getD_some,Option.getD_none,List.length_map])|apply af|(with_reducible refine ag (λh=> ?_) ?_)|refine aW pw rfl rfl ?_|refine aW pcl rfl rfl ?_|refine aW pk rfl rfl ?_
     all_goals rfl
   ·have h2:=HR.out
    rw[List.drop_eq_nil_of_le (by omega),t6]at h2
    subst h2
    clear HR w u
    repeat' first|simp(disch:=omega)only[go_sem]|((with_reducible refine ab ?_ ?_)<;>intro h<;>try first|omega|simp(disch:=omega)only[go_sem, *])
    all_goals rfl
  ·rw[if_pos E]
   have F: ¬(b.length:Int)=(P.length:Int)*((l.length:Int)+1):= λh=>E (by
    have h3:((P.length*(l.length+1):Nat):Int)=(P.length:Int)*((l.length:Int)+1):=by rw[Int.natCast_mul,Int.natCast_add];rfl
    omega)
   repeat' first|simp(disch:=omega)only[go_sem,wl,wm,F]|((with_reducible refine ab ?_ ?_)<;>intro h<;>try first|omega|simp(disch:=omega)only[go_sem, *,wl,wm,F])|refine aW pn rfl rfl ?_
   all_goals rfl
 ·rw[if_pos h0]
  repeat' first|simp(disch:=omega)only[go_sem,h0]|((with_reducible refine ab ?_ ?_)<;>intro h<;>try first|omega|simp(disch:=omega)only[go_sem, *,h0])|refine aW pn rfl rfl ?_
  all_goals rfl
set_option maxRecDepth 20000
set_option maxRecDepth 1000000
theorem lH {l:List aU} {c:aU} {b:List Int} (o: ∀d∈l,br d) (hc:br c) (hl:l.length≤10000) (ht:gE l+c.1.2.length≤1000000) (hb: ∀x∈b,am x):
  ac Ya 22 [bB l,iS c,iE b] (I (uR l c b)):=by
 refine ac.of ms (by simp) λV=>aa ?_
 have hD:b.length≤9223372036854775807:=by have:=V.2.2.1;simpa[gw,gT]using this
 clear V
 conv in bh _ _=>cbv
 have pn:=sG (l:=l) hc (by unfold short;omega) hl
 have w:=qH (l:=l) hc
 have u:= λd (hd:d∈(d9 l c).1)=>vV hd
 have G:=sq l c
 unfold EM at pn
 unfold uR
 generalize d9 l c=X at*
 obtain⟨P,e⟩:=X
 obtain⟨⟨K,m⟩,q⟩:=c
 simp only at pn w u G ht ⊢
 by_cases h0:e=0
 ·subst h0
  rw[if_neg (by simp)]at pn ⊢
  have hp:P.length=0∨P.length=1∨P.length=2:=by omega
  have hA:(P.map λp=>l++ [p]).length=P.length:=by simp
  have wl:IntKind.wrap .i64 ((l.length:Int)+1)=(l.length:Int)+1:=wrap_i64 (by omega)
  have wm:IntKind.wrap .i64 ((P.length:Int)*((l.length:Int)+1))=(P.length:Int)*((l.length:Int)+1):=by
   rcases hp with h|h|h<;>rw[h]<;>exact wrap_i64 (by omega)
  by_cases E:b.length=P.length*(l.length+1)
  ·rw[if_neg (not_not_intro E)]
   have F:(b.length:Int)=(P.length:Int)*((l.length:Int)+1):=by rw[E,Int.natCast_mul,Int.natCast_add];rfl
   obtain⟨R,hR⟩: ∃R,R=t6 l b 0 (P.drop 0):=⟨_,rfl⟩
   have D:t6 l b 0 P=R:=hR.symm
   rw[D]
   have HR:=Lib.hid hR
   clear hR D
   repeat' first|simp(disch:=omega)only[go_sem, *,wl,wm,hA,F]|apply ab<;>intro h<;>try omega|refine aW pn rfl rfl ?_
   refine ai (λi:Nat=>⟨[(2,iE b),(7,Wg (P.map λp=>l++ [p])),(9,I (l.length+1)),(10,I i)], [],0,0⟩)
    (λi=>i≤P.length∧Hid (R=t6 l b i (P.drop i))) (λi=>P.length-i) ⟨0, [],⟨Nat.zero_le _,HR⟩,by simp[wl]⟩ ?_
   clear HR pn wm wl
   rintro i ⟨hi,HR⟩
   refine aa ?_
   by_cases g:i<P.length
   ·have g1:((P.map λp=>l++ [p]).map λq=> [dp cP q])[i]? =some [dp cP (l++ [P[i]])]:=by simp[g]
    have h2:=HR.out
    rw[DI g]at h2
    have W:=w _ (List.getElem_mem g)
    have Q:=u _ (List.getElem_mem g)
    have L:i=0∨i=1:=by omega
    have A:(i+1)*(l.length+1)≤b.length:=by
     rw[E];exact Nat.mul_le_mul_right _ g
    have Z:(i+1)*(l.length+1)=i*(l.length+1)+(l.length+1):=Nat.succ_mul _ _
    have pk:=lI (l:=l++ [P[i]]) (b:=(b.take ((i+1)*(l.length+1))).drop (i*(l.length+1))) (xf o W) (by rw[Ej];omega) (λx hx=>hb x (List.mem_of_mem_take (List.mem_of_mem_drop hx)))
    have w1:IntKind.wrap .i64 ((i:Int)*((l.length:Int)+1))=((i*(l.length+1):Nat):Int):=by
     rcases L with h|h<;>subst h
     ·rw[wrap_i64 (by omega)];omega
     ·rw[wrap_i64 (by omega)];omega
    have w2:IntKind.wrap .i64 (((i*(l.length+1):Nat):Int)+((l.length:Int)+1))=(((i+1)*(l.length+1):Nat):Int):=by
     rw[Z,wrap_i64 (by rcases L with h|h<;>subst h<;>omega)]
     omega
    clear HR W Q w u E F
    generalize d4 (l++ [P[i]]) ((b.take ((i+1)*(l.length+1))).drop (i*(l.length+1)))=CK at*
    generalize (i+1)*(l.length+1)=HI at*
    generalize i*(l.length+1)=LO at*
    have hL:LO≤HI:=by omega
    clear Z
    have ew:((b.map λn=> [pI n]).take HI).drop LO=((b.take HI).drop LO).map λn=> [pI n]:=by rw[List.map_drop,List.map_take]
    have J:aK 1 (b.map λn=> [pI n]):=ar λ_=>rfl
    have tk:(b.map λn=> [pI n]).take b.length=b.map λn=> [pI n]:=List.take_of_length_le (by simp)
    by_cases he:CK=0
    ·subst he
     rw[if_neg (by simp)]at h2
     have HR:=Lib.hid h2
     clear h2
     repeat' first|simp(disch:=omega)only[go_sem, *,g1,hA,w1,w2,wrap_i64,J,ew,tk,Int.toNat_natCast,Option.getD_some,Option.getD_none,List.length_map,Option.isSome_none,Bool.false_eq_true,false_and,and_false]|apply ab<;>intro h<;>try omega|apply af|(with_reducible refine ag (λh=> ?_) ?_)|refine aq pk rfl rfl ?_
     all_goals exact⟨i+1, [],⟨g,HR⟩,by omega,by simp⟩
    ·rw[if_pos he]at h2
     subst h2
     repeat' first|simp(disch:=omega)only[go_sem, *,g1,hA,w1,w2,he,wrap_i64,J,ew,tk,Int.toNat_natCast,Option.getD_some,Option.getD_none,List.length_map,Option.isSome_none,Bool.false_eq_true,false_and,and_false]|apply ab<;>intro h<;>try omega|apply af|(with_reducible refine ag (λh=> ?_) ?_)|refine aq pk rfl rfl ?_
     all_goals rfl
   ·have h2:=HR.out
    rw[List.drop_eq_nil_of_le (by omega),t6]at h2
    subst h2
    clear HR w u
    repeat' first|simp(disch:=omega)only[go_sem, *,hA]|apply ab<;>intro h<;>try omega
    all_goals rfl
  ·rw[if_pos E]
   have F: ¬(b.length:Int)=(P.length:Int)*((l.length:Int)+1):= λh=>E (by
    have h3:((P.length*(l.length+1):Nat):Int)=(P.length:Int)*((l.length:Int)+1):=by rw[Int.natCast_mul,Int.natCast_add];rfl
    omega)
   repeat' first|simp(disch:=omega)only[go_sem, *,wl,wm,hA,F]|apply ab<;>intro h<;>try omega|refine aW pn rfl rfl ?_
   all_goals rfl
 ·rw[if_pos h0]at pn ⊢
  repeat' first|simp(disch:=omega)only[go_sem, *,h0]|apply ab<;>intro h<;>try omega|refine aW pn rfl rfl ?_
  all_goals rfl
end
