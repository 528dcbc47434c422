import Derived.Test.YthbcbaembicdbaaGreatDoorV07x
set_option maxHeartbeats 4000000
set_option linter.unusedVariables false
set_option linter.unusedSimpArgs false
namespace Go.Proofs.YthbcbaembicdbaaGreatDoor
open Go.Abs Go.RowKit
noncomputable section
theorem F7 {l:List aR} {T:List aR}: ∀{N:Nat} {rows:List dh} {fuel:Int},(∀r∈rows,cM T r)→ ∀x∈(d9 l N rows fuel).1,ar x
 |0,rows,fuel,_,x,hx=>by rw[d9]at hx;cases hx
 |N+1,rows,fuel,h,x,hx=>by
  rw[d9]at hx
  cases hb:hZ rows with
  |some b=>
   obtain⟨r,hr,h1,rfl⟩:=ot hb
   rw[hb]at hx
   simp only at hx
   split at hx
   ·cases hx
   ·exact(h r hr).r64.2 x hx
  |none=>
   rw[hb]at hx
   simp only at hx
   split at hx
   ·cases hx
   ·rename_i hc
    split at hx
    ·cases hx
    ·exact F7 (zd (fuel:=fuel) h (by simpa using hc)).1.all x hx
theorem WS {l:List aR} {fuel:Int} (h64: ∀c∈l,bk c): ∀x∈(gO l fuel).1,ar x:=by
 intro x hx
 unfold gO at hx
 split at hx
 ·cases hx
 ·rename_i h0
  split at hx
  ·cases hx
  ·split at hx
   ·cases hx
   ·rename_i h1
    have ht:bj l=((bj l).1,0):=Prod.ext rfl (Classical.not_not.1 h0)
    have hT:=vW ht h64
    have hlen:=(jb ht).1
    obtain⟨i1,i2⟩:=Ld hT (k:=0) (rows:= []) (by simp) (by simp) (Nat.zero_le _)
    rw[hlen,List.drop_zero]at i1 i2
    exact F7 (i2 (Classical.not_not.1 h1)).1 x hx
def oS (f:bU):aR:=((-1-f.1,f.2.map λm=>(m.1,-m.2)),false)
def UP (f:bU):aR:=((f.1-1,f.2),false)
def sL (l:List aD):Prop:= ∃m∈l,m.2= -9223372036854775808
instance (l:List aD):Decidable (sL l):=Classical.propDecidable _
def fT (c:aR):List aR×Int:=
 if ¬bn c.1.2 then([],1)else if sL c.1.2 then([],3)else if c.2=false then([oS c.1],0)
 else if c.1.1= -9223372036854775808 then([],3)else([UP c.1,oS c.1],0)
def VB (l:List aR):Prop:= ∀c∈l,bn c.1.2
instance (l:List aR):Decidable (VB l):=Classical.propDecidable _
def iv (l:List aR) (c:aR):List aR×Int:=if ¬VB l∨ ¬bn c.1.2 then([],1)else fT c
def nk (l:List aR) (fuel:Int):List aR→List Int→List Int×Bool×Int
 | [],acc=>(acc,true,0)
 |p::r,acc=>if(gO (l++ [p]) fuel).2.2≠0 then([],false,(gO (l++ [p]) fuel).2.2)else if(gO (l++ [p]) fuel).2.1=false then([],false,0)else nk l fuel r (acc++(gO (l++ [p]) fuel).1)
def iZ (l:List aR) (c:aR) (fuel:Int):List Int×Bool×Int:=if(iv l c).2≠0 then([],false,(iv l c).2)else nk l fuel (iv l c).1 []
def Fk (l:List aR) (b:List Int):Nat→List aR→Int
 |_, []=>0
 |i,p::r=>if fk (l++ [p]) ((b.take ((i+1)*(l.length+1))).drop (i*(l.length+1)))≠0 then fk (l++ [p]) ((b.take ((i+1)*(l.length+1))).drop (i*(l.length+1)))else Fk l b (i+1) r
def IM (l:List aR) (c:aR) (b:List Int):Int:=if(iv l c).2≠0 then(iv l c).2 else if b.length≠(iv l c).1.length*(l.length+1)then 17 else Fk l b 0 (iv l c).1
theorem EI {f:bU} (h:br f) (hm: ¬sL f.2):bk (oS f):=by
 refine⟨?_,λm hm'=> ?_⟩
 ·have:=h.1
  show ar (-1-f.1)
  unfold ar at*
  omega
 ·obtain⟨z,hz,rfl⟩:=List.mem_map.1 hm'
  have h1:=h.2 z hz
  have h2:z.2≠ -9223372036854775808:= λe=>hm ⟨z,hz,e⟩
  show ar (-z.2)
  unfold ar at*
  omega
theorem UT {f:bU} (h:br f) (hm:f.1≠ -9223372036854775808):bk (UP f):=by
 refine⟨?_,h.2⟩
 have:=h.1
 show ar (f.1-1)
 unfold ar at*
 omega
theorem XM {c:aR} (h:bk c): ∀d∈(fT c).1,bk d:=by
 unfold fT
 (repeat' split)<;>intro d hd
 ·cases hd
 ·cases hd
 ·rename_i h1 h2
  rw[List.mem_singleton.1 hd]
  exact EI h h1
 ·cases hd
 ·rename_i h1 h2 h3
  rcases List.mem_cons.1 hd with rfl|hd
  ·exact UT h h3
  ·rw[List.mem_singleton.1 hd]
   exact EI h h1
theorem pQ {l:List aR} {c:aR} (h:bk c): ∀d∈(iv l c).1,bk d:=by
 unfold iv
 split
 ·intro d hd;cases hd
 ·exact XM h
theorem Mi {c d:aR} (h:d∈(fT c).1):d.1.2.length=c.1.2.length:=by
 unfold fT at h
 (repeat' split at h)
 ·cases h
 ·cases h
 ·rw[List.mem_singleton.1 h]
  simp[oS]
 ·cases h
 ·rcases List.mem_cons.1 h with rfl|h
  ·rfl
  ·rw[List.mem_singleton.1 h]
   simp[oS]
theorem Ir {l:List aR} {c d:aR} (h:d∈(iv l c).1):d.1.2.length=c.1.2.length:=by
 unfold iv at h
 split at h
 ·cases h
 ·exact Mi h
theorem VW (c:aR):(fT c).1.length≤2:=by
 unfold fT
 (repeat' split)<;>simp
theorem Hy (l:List aR) (c:aR):(iv l c).1.length≤2:=by
 unfold iv
 split
 ·simp
 ·exact VW c
theorem DF {l:List aR} {b:List Int} (h:fk l b=0):b.length=l.length:=by
 unfold fk at h
 split at h
 ·exact absurd h ‹_›
 ·rename_i h0
  split at h
  ·exact absurd h ‹_›
  ·rename_i h1
   have ht:bj l=((bj l).1,0):=Prod.ext rfl (Classical.not_not.1 h0)
   have hc:aL (bj l).1 b=((aL (bj l).1 b).1,0):=Prod.ext rfl (Classical.not_not.1 h1)
   rw[←(iA hc).1,(jb ht).1]
theorem Ha {l:List aR} {fuel:Int} (h64: ∀c∈l,bk c) (h:(gO l fuel).2.1=true):fk l (gO l fuel).1=0:=by
 obtain⟨h1,h2⟩:=ED (fuel:=fuel) h64
 by_cases h0:yh l fuel=0
 ·exact(h2 h0).2.1 h
 ·rw[h1 h0]at h
  cases h
theorem W7 {l:List aR} {fuel:Int} (h64: ∀c∈l,bk c) (h:(gO l fuel).2.1=false):(gO l fuel).1= []:=by
 obtain⟨h1,h2⟩:=ED (fuel:=fuel) h64
 by_cases h0:yh l fuel=0
 ·exact(h2 h0).2.2 h
 ·rw[h1 h0]
theorem T7 {l:List aR} {fuel:Int} (h64: ∀c∈l,bk c):(gO l fuel).1.length≤l.length:=by
 cases h:(gO l fuel).2.1 with
 |false=>rw[W7 h64 h];simp
 |true=>exact Nat.le_of_eq (DF (Ha h64 h))
theorem A5 {l:List aR} {p:aR} (h: ∀c∈l,bk c) (hp:bk p): ∀c∈l++ [p],bk c:= λc hc=>by
 rcases List.mem_append.1 hc with hc|hc
 ·exact h c hc
 ·rw[List.mem_singleton.1 hc];exact hp
theorem yp {l:List aR} {fuel:Int} (h64: ∀c∈l,bk c): ∀{P:List aR} {acc b:List Int} {i:Nat},(∀p∈P,bk p)→acc.length=i*(l.length+1)→nk l fuel P acc=(b,true,0)→
  (∃r,b=acc++r)∧b.length=(i+P.length)*(l.length+1)∧Fk l b i P=0∧ ∀p∈P,(gO (l++ [p]) fuel).2.1=true
 |[],acc,b,i,_,ha,h=>by
  rw[nk]at h
  cases h
  exact⟨⟨[],by simp⟩,by simpa using ha,rfl,by simp⟩
 |p::P,acc,b,i,hP,ha,h=>by
  have hp:=A5 h64 (hP p List.mem_cons_self)
  rw[nk]at h
  split at h
  ·cases h
  ·split at h
   ·cases h
   ·rename_i h1 h2
    have h2:(gO (l++ [p]) fuel).2.1=true:=by simpa using h2
    have hc:=Ha hp h2
    have hl:=DF hc
    rw[List.length_append,List.length_singleton]at hl
    have hs:(i+1)*(l.length+1)=i*(l.length+1)+(l.length+1):=Nat.succ_mul _ _
    obtain⟨⟨r,g1⟩,g2,g3,g4⟩:=yp h64 (i:=i+1) (λq hq=>hP q (List.mem_cons_of_mem _ hq)) (by rw[List.length_append,ha,hl,hs]) h
    generalize (gO (l++ [p]) fuel).1=B at*
    have hw:(b.take ((i+1)*(l.length+1))).drop (i*(l.length+1))=B:=by
     have e1:(i+1)*(l.length+1)=(acc++B).length:=by rw[List.length_append,ha,hl,hs]
     rw[g1,e1,List.take_left,←ha,List.drop_left]
    refine⟨⟨B++r,by rw[g1,List.append_assoc]⟩,by rw[g2,List.length_cons];congr 1;omega, ?_,λq hq=> ?_⟩
    ·rw[Fk,hw,if_neg (not_not_intro hc),g3]
    ·rcases List.mem_cons.1 hq with rfl|hq
     ·exact h2
     ·exact g4 q hq
theorem LJ {l:List aR} {c:aR} {fuel:Int} {b:List Int} (h64: ∀c∈l,bk c) (hc:bk c) (h:iZ l c fuel=(b,true,0)):IM l c b=0:=by
 unfold iZ at h
 split at h
 ·cases h
 ·rename_i h0
  obtain⟨g1,g2,g3,g4⟩:=yp h64 (i:=0) (pQ hc) (by simp) h
  unfold IM
  rw[if_neg h0,if_neg (by rw[g2];simp),g3]
theorem Rn {x:ByteArray→Int} {f:bU}:xq x (oS f).1.2= -xq x f.2:=JF
theorem L8 {x:ByteArray→Int} {l:List aR} {c:aR} {fuel:Int} {b:List Int} (h64: ∀c∈l,bk c) (hc:bk c) (h:iZ l c fuel=(b,true,0)) (hl: ∀d∈l,holds (lR x) d):holds (lR x) c:=by
 unfold iZ at h
 split at h
 ·cases h
 ·rename_i h0
  obtain⟨_,_,_,g4⟩:=yp h64 (i:=0) (pQ hc) (by simp) h
  have key: ∀p∈(iv l c).1,¬holds (lR x) p:= λp hp hh=>by
   have h1:=g4 p hp
   rw[Nc (x:=x) (A5 h64 (pQ hc p hp)) (λd hd=>by
    rcases List.mem_append.1 hd with hd|hd
    ·exact hl d hd
    ·rw[List.mem_singleton.1 hd];exact hh)]at h1
   cases h1
  unfold iv at h0 key
  split at h0
  ·exact absurd (show(1:Int)≠0 by decide) h0
  ·rename_i hok
   rw[if_neg hok]at key
   unfold fT at h0 key
   split at h0
   ·exact absurd (show(1:Int)≠0 by decide) h0
   ·rename_i h1
    rw[if_neg h1]at key
    split at h0
    ·exact absurd (show(3:Int)≠0 by decide) h0
    ·rename_i h2
     rw[if_neg h2]at key
     have e:=Rn (x:=x) (f:=c.1)
     rw[eU]
     split at h0
     ·rename_i h3
      rw[if_pos h3]at key
      have k1:=key _ (List.mem_singleton.2 rfl)
      rw[eU,e]at k1
      rw[h3]
      refine⟨?_,λh=>by cases h⟩
      apply Classical.byContradiction
      intro hn
      refine k1 ⟨?_,λh=>by cases h⟩
      show 0≤ -1-c.1.1+ -xq x c.1.2
      omega
     ·rename_i h3
      rw[if_neg h3]at key
      split at h0
      ·exact absurd (show(3:Int)≠0 by decide) h0
      ·rename_i h4
       rw[if_neg h4]at key
       have k1:=key (oS c.1) (by simp)
       have k2:=key (UP c.1) (by simp)
       rw[eU,e]at k1
       rw[eU]at k2
       have k1: ¬0≤ -1-c.1.1+ -xq x c.1.2:= λh=>k1 ⟨h,λh=>by cases h⟩
       have k2: ¬0≤c.1.1-1+xq x c.1.2:= λh=>k2 ⟨h,λh=>by cases h⟩
       omega
set_option maxRecDepth 1000000
def oW:Nat→List aR→Int
 |_, []=> -1
 |k,c::l=>if bn c.1.2 then oW (k+1) l else k
theorem Ia: ∀{l:List aR} {k:Nat},0≤oW k l↔ ¬VB l
 | [],k=>by simp[oW,VB]
 |c::l,k=>by
  rw[oW]
  have ih:=Ia (l:=l) (k:=k+1)
  by_cases h:bn c.1.2
  ·rw[if_pos h,ih]
   simp only[VB,List.mem_cons,forall_eq_or_imp]
   constructor
   ·exact λh1 h2=>h1 h2.2
   ·exact λh1 h2=>h1 ⟨h,h2⟩
  ·rw[if_neg h]
   exact⟨λ_ h2=>h (h2 c List.mem_cons_self),λ_=>by omega⟩
theorem NE {l:List aR} {k:Nat} (h:k<l.length):oW k (l.drop k)=if bn l[k].1.2 then oW (k+1) (l.drop (k+1))else k:=by
 rw[List.drop_eq_getElem_cons h,oW]
theorem yy (c:aR):af Tryz.prog fl [iG c] (Go.Abs.B (decide (¬bn c.1.2))):=by
 refine af.of zV (by simp) λ_=>aa ?_
 conv in pW=>cbv
 have pv:=bP c
 obtain⟨⟨k,l⟩,q⟩:=c
 simp only at pv ⊢
 by_cases h:bn l
 ·rw[if_pos h]at pv
  rw[decide_eq_false (not_not_intro h)]
  clear h
  repeat' first|simp(disch:=omega) only[go_sem, *]|((with_reducible apply ab)<;>intro h<;>try omega)|(refine aY pv rfl rfl ?_)
  all_goals rfl
 ·rw[if_neg h]at pv
  rw[decide_eq_true h]
  clear h
  repeat' first|simp(disch:=omega) only[go_sem, *]|((with_reducible apply ab)<;>intro h<;>try omega)|(refine aY pv rfl rfl ?_)
  all_goals rfl
theorem rg (l:List aR):af Tryz.prog cJ [bR l,.c (.clo fl [])] (I (oW 0 l)):=by
 refine af.of eg (by simp) λhb=>aa ?_
 have hbl:l.length≤9223372036854775807:=by have:=hb.1;simpa[iI,jt]using this
 clear hb
 simp only[cH]
 obtain⟨R,hR⟩: ∃R,R=oW 0 (l.drop 0):=⟨_,rfl⟩
 have hR0:oW 0 l=R:=hR.symm
 rw[hR0]
 have HR:=Lib.hid hR
 clear hR hR0
 repeat' first|simp(disch:=omega) only[go_sem, *]|((with_reducible apply ab)<;>intro h<;>try omega)
 refine ap (λk:Nat=>⟨[(0,bR l),(1,.c (.clo fl [])),(7,I l.length),(8,I k)], [],0,0⟩) (λk=>k≤l.length∧Hid (R=oW k (l.drop k))) (λk=>l.length-k) ⟨0, [],⟨Nat.zero_le _,HR⟩,by simp⟩ ?_
 clear HR
 rintro k ⟨hk,HR⟩
 refine aa ?_
 by_cases hlt:k<l.length
 ·have g1:=ai (f:=cP) hlt
  have h2:=HR.out
  rw[NE hlt]at h2
  have p1:=yy l[k]
  clear HR
  generalize l[k]=c at*
  obtain⟨⟨ck,cl⟩,q⟩:=c
  simp only[cP]at g1
  simp only at h2 p1
  by_cases hc:bn cl
  ·rw[if_pos hc]at h2
   rw[decide_eq_false (not_not_intro hc)]at p1
   have HR:=Lib.hid h2
   clear h2 hc
   repeat' first|simp(disch:=omega) only[go_sem, *,g1,wrap_i64]|((with_reducible apply ab)<;>intro h<;>try omega)|(refine aY p1 rfl rfl ?_)
   exact⟨k+1, [],⟨hlt,HR⟩,by omega,by simp⟩
  ·rw[if_neg hc]at h2
   rw[decide_eq_true hc]at p1
   subst h2
   clear hc
   repeat' first|simp(disch:=omega) only[go_sem, *,g1,wrap_i64]|((with_reducible apply ab)<;>intro h<;>try omega)|(refine aY p1 rfl rfl ?_)
   all_goals rfl
 ·have h2:=HR.out
  rw[List.drop_eq_nil_of_le (by omega),oW]at h2
  subst h2
  clear HR
  repeat' first|simp(disch:=omega) only[go_sem, *]|((with_reducible apply ab)<;>intro h<;>try omega)
  all_goals rfl
theorem oh (l:List aR):af Tryz.prog ci [bR l,.c (.clo fl [])] (Go.Abs.B (decide (¬VB l))):=by
 refine af.of dS (by simp) λhb=>aa ?_
 simp only[cd]
 have p1:=rg l
 have e:=Ia (l:=l) (k:=0)
 have e2:decide (¬VB l)=decide (0≤oW 0 l):=by
  by_cases h:VB l
  ·rw[decide_eq_false (not_not_intro h),decide_eq_false (λh'=>e.1 h' h)]
  ·rw[decide_eq_true h,decide_eq_true (e.2 h)]
 rw[e2]
 clear e e2
 generalize oW 0 l=R at*
 by_cases h0:0≤R
 ·rw[decide_eq_true h0]
  repeat' first|simp(disch:=omega) only[go_sem, *,h0]|((with_reducible apply ab)<;>intro h<;>try omega)|(refine aY p1 rfl rfl ?_)
  all_goals first|rfl|simp[h0]
 ·rw[decide_eq_false h0]
  repeat' first|simp(disch:=omega) only[go_sem, *,h0]|((with_reducible apply ab)<;>intro h<;>try omega)|(refine aY p1 rfl rfl ?_)
  all_goals first|rfl|simp[h0]
theorem AM (l:List aR):af Tryz.prog uN [bR l] (Go.Abs.B (decide (VB l))):=by
 refine af.of Cx (by simp) λhb=>aa ?_
 conv in uE=>cbv
 have p1:=oh l
 by_cases h:VB l
 ·rw[decide_eq_false (not_not_intro h)]at p1
  rw[decide_eq_true h]
  clear h
  repeat' first|simp(disch:=omega) only[go_sem, *]|((with_reducible apply ab)<;>intro h<;>try omega)|(refine aY p1 rfl rfl ?_)
  all_goals rfl
 ·rw[decide_eq_true h]at p1
  rw[decide_eq_false h]
  clear h
  repeat' first|simp(disch:=omega) only[go_sem, *]|((with_reducible apply ab)<;>intro h<;>try omega)|(refine aY p1 rfl rfl ?_)
  all_goals rfl
def GP (l:List aD):List aD:=l.map λm=>(m.1,-m.2)
def E4 (f:bU):bU×Int:=if sL f.2 then((0, []),3)else((-1-f.1,GP f.2),0)
theorem P8 {l:List aD} {k:Nat} (h:k<l.length):(GP (l.take (k+1))).map mP=(GP (l.take k)).map mP++ [[pS l[k].1,pI (-l[k].2)]]:=by
 rw[List.take_succ_eq_append_getElem h]
 show((l.take k++ [l[k]]).map _).map mP=_
 rw[List.map_append,List.map_append]
 rfl
theorem MI {l:List aD} {k:Nat} (h:k<l.length) (h0: ¬sL (l.take k)) (h1:l[k].2≠ -9223372036854775808): ¬sL (l.take (k+1)):=by
 rw[List.take_succ_eq_append_getElem h]
 rintro⟨m,hm,e⟩
 rcases List.mem_append.1 hm with hm|hm
 ·exact h0 ⟨m,hm,e⟩
 ·rw[List.mem_singleton.1 hm]at e;exact h1 e
theorem jc {f:bU} (h64:br f) (hs:short f.2):af Tryz.prog kj [dR f.1 f.2] (Sv (E4 f)):=by
 refine af.of rh (by simp) λ_=>aa ?_
 simp only[kp]
 obtain⟨K,l⟩:=f
 obtain⟨hK,hl⟩:=h64
 unfold short at hs
 simp only at hK hl hs ⊢
 have wk:IntKind.wrap .i64 (-1-K)= -1-K:=wrap_i64 (by unfold ar at hK;omega)
 obtain⟨R,hR⟩: ∃R,R=E4 (K,l):=⟨_,rfl⟩
 rw[←hR]
 have HR:=Lib.hid hR
 clear hR hK
 repeat' first|simp(disch:=omega) only[go_sem, *,wk]|((with_reducible apply ab)<;>intro h<;>try omega)
 refine dD 2 1 114 2 _ rfl rfl (by decide) ?_
 refine ap (λj:Nat=>⟨[(2,.c (.ptr 1 0)),(4,.c (.ptr 2 0)),(12,.c (.pure (aw l))),(13,I l.length),(14,I j)],
  [(0,.var [.pure (pI K),.pure (aw l)]),(1,.var [.pure (pI 0),.nils]),(2,.var [.pure (pI (-1-K)),.ref 3]),(3,.arr 114 2 ((GP (l.take j)).map mP))],4,0⟩) (λj=>j≤l.length∧Hid (¬sL (l.take j))) (λj=>l.length-j) ⟨0, [],⟨Nat.zero_le _,Lib.hid (by simp[sL])⟩,by simp[GP]⟩ ?_
 rintro j ⟨hj,HM⟩
 refine aa ?_
 by_cases hlt:j<l.length
 ·have e1:=P8 hlt
  have g1:=ai (f:=mP) hlt
  have hlen:(GP (l.take j)).length≤1000000000:=by simp[GP];omega
  have hx:=hl _ (List.getElem_mem hlt)
  by_cases hm:l[j].2= -9223372036854775808
  ·have h2:R=((0, []),3):=by rw[HR.out,E4,if_pos ⟨_,List.getElem_mem hlt,hm⟩]
   subst h2
   clear HR HM
   generalize l[j]=m at*
   obtain⟨n,x⟩:=m
   simp only[mP]at g1 e1
   simp only at hm hx
   subst hm
   repeat' first|simp(disch:=omega) only[go_sem, *,g1,wrap_i64]|((with_reducible apply ab)<;>intro h<;>try omega)
   all_goals rfl
  ·have HM':Hid (¬sL (l.take (j+1))):=Lib.hid (MI hlt HM.out hm)
   clear HM
   generalize l[j]=m at*
   obtain⟨n,x⟩:=m
   simp only[mP]at g1 e1
   simp only at hm hx
   have wx:IntKind.wrap .i64 (-x)= -x:=wrap_i64 (by unfold ar at hx;omega)
   generalize GP (l.take j)=D0 at*
   repeat' first|simp(disch:=omega) only[go_sem, *,g1,wrap_i64,hm,wx]|((with_reducible apply ab)<;>intro h<;>try omega)|(refine bf rfl (by intro h;cases h) (aO rfl) (by simp;omega) (by simp;omega) ?_)
   exact⟨j+1, [(3,5)],⟨hlt,HM'⟩,by omega,by simp[e1,wx]⟩
 ·obtain rfl:j=l.length:=by omega
  have hM:=HM.out
  rw[List.take_of_length_le (Nat.le_refl _)]at hM
  have h2:R=((-1-K,GP l),0):=by rw[HR.out,E4,if_neg hM]
  subst h2
  clear HR HM hM
  rw[List.take_of_length_le (Nat.le_refl _)]
  repeat' first|simp(disch:=omega) only[go_sem, *]|((with_reducible apply ab)<;>intro h<;>try omega)
  all_goals rfl
theorem T8 {c:aR} (hok:bn c.1.2):fT c=if(E4 c.1).2≠0 then([],(E4 c.1).2)else if c.2=false then([((E4 c.1).1,false)],0)else if c.1.1= -9223372036854775808 then([],3)else([((c.1.1-1,c.1.2),false),((E4 c.1).1,false)],0):=by
 unfold fT E4
 rw[if_neg (not_not_intro hok)]
 by_cases h:sL c.1.2
 ·rw[if_pos h,if_pos h,if_pos (by decide)]
 ·rw[if_neg h,if_neg h]
  simp only[ne_eq,not_true_eq_false,if_false]
  rfl
theorem jZ {c:aR} (h64:bk c) (hs:short c.1.2):af Tryz.prog ii [iG c] (ML (fT c)):=by
 refine af.of lH (by simp) λ_=>aa ?_
 simp only[ie]
 have pv:=bP c
 by_cases hok:bn c.1.2
 ·have po:=jc (f:=c.1) h64 hs
  rw[T8 hok]
  rw[if_pos hok]at pv
  have hK:=h64.1
  generalize E4 c.1=O at*
  obtain⟨⟨OK,OL⟩,oe⟩:=O
  obtain⟨⟨K,l⟩,q⟩:=c
  unfold short at hs
  try simp only at po pv hs hK ⊢
  clear hok h64
  unfold ar at hK
  by_cases h0:oe=0
  ·subst h0
   rw[if_neg (by simp)]
   cases q
   ·rw[if_pos rfl]
    repeat' first|simp(disch:=omega) only[go_sem, *]|((with_reducible apply ab)<;>intro h<;>try omega)|(refine aY pv rfl rfl ?_)|(refine el po rfl rfl ?_)
    all_goals rfl
   ·rw[if_neg (by simp)]
    by_cases h1:K= -9223372036854775808
    ·rw[if_pos h1]
     subst h1
     repeat' first|simp(disch:=omega) only[go_sem, *]|((with_reducible apply ab)<;>intro h<;>try omega)|(refine aY pv rfl rfl ?_)|(refine el po rfl rfl ?_)
     all_goals rfl
    ·rw[if_neg h1]
     have wk:IntKind.wrap .i64 (K-1)=K-1:=wrap_i64 (by omega)
     have hro:bC 2 (l.map mP):=aQ λ_=>rfl
     repeat' first|simp(disch:=omega) only[go_sem, *,h1,wk]|((with_reducible apply ab)<;>intro h<;>try omega)|(with_reducible apply ah)|(with_reducible refine aj (λh=> ?_) ?_)|(refine aY pv rfl rfl ?_)|(refine el po rfl rfl ?_)|(refine U9 hro (by simp;omega) (by simp;omega) ?_)
     all_goals rfl
  ·rw[if_pos h0]
   repeat' first|simp(disch:=omega) only[go_sem, *,h0]|((with_reducible apply ab)<;>intro h<;>try omega)|(refine aY pv rfl rfl ?_)|(refine el po rfl rfl ?_)
   all_goals rfl
 ·rw[if_neg hok]at pv
  rw[fT,if_pos hok]
  obtain⟨⟨K,l⟩,q⟩:=c
  try simp only at pv ⊢
  clear hok
  repeat' first|simp(disch:=omega) only[go_sem, *]|((with_reducible apply ab)<;>intro h<;>try omega)|(refine aY pv rfl rfl ?_)
  all_goals rfl
theorem mr {l:List aR} {c:aR} (h64:bk c) (hs:short c.1.2):af Tryz.prog oz [bR l,iG c] (ML (iv l c)):=by
 refine af.of xX (by simp) λ_=>aa ?_
 conv in oE=>cbv
 have p1:=AM l
 have p2:=bP c
 have p3:=jZ h64 hs
 unfold iv
 by_cases h1:VB l
 ·rw[decide_eq_true h1]at p1
  by_cases h2:bn c.1.2
  ·rw[if_pos h2]at p2
   rw[if_neg (by rintro(h|h);exact h h1;exact h h2)]
   clear h1 h2 h64 hs
   obtain⟨⟨K,m⟩,q⟩:=c
   try simp only at p2 p3
   generalize fT ((K,m),q)=X at*
   obtain⟨xs,e⟩:=X
   try simp only at p3
   repeat' first|simp(disch:=omega) only[go_sem, *]|((with_reducible apply ab)<;>intro h<;>try omega)|(refine aY p1 rfl rfl ?_)|(refine aY p2 rfl rfl ?_)|(refine el p3 rfl rfl ?_)
   all_goals rfl
  ·rw[if_neg h2]at p2
   rw[if_pos (.inr h2)]
   clear h1 h2 h64 hs p3
   obtain⟨⟨K,m⟩,q⟩:=c
   try simp only at p2
   repeat' first|simp(disch:=omega) only[go_sem, *]|((with_reducible apply ab)<;>intro h<;>try omega)|(refine aY p1 rfl rfl ?_)|(refine aY p2 rfl rfl ?_)
   all_goals rfl
 ·rw[decide_eq_false h1]at p1
  rw[if_pos (.inl h1)]
  clear h1 h64 hs p3 p2
  obtain⟨⟨K,m⟩,q⟩:=c
  repeat' first|simp(disch:=omega) only[go_sem, *]|((with_reducible apply ab)<;>intro h<;>try omega)|(refine aY p1 rfl rfl ?_)
  all_goals rfl
theorem Ro (B:aU):aq Tryz.prog bl [bR []] [(0,B)] 1 (.c (.tsl [])) [(0,B)] 1:=by
 refine aq.of c6 (by simp) λ_=> ?_
 simp only[bM]
 refine cZ (aa ?_)
 repeat' first|simp(disch:=omega) only[go_sem, *]|((with_reducible apply ab)<;>intro h<;>try omega)
 refine cZ (cZ (aa ?_))
 repeat' first|simp(disch:=omega) only[go_sem, *]|((with_reducible apply ab)<;>intro h<;>try omega)|(with_reducible apply ah)|(with_reducible refine aj (λh=> ?_) ?_)
 ·refine f7 (t:=true) rfl (λ_=> ?_) (λe=>by cases e)
  refine cZ (aa ?_)
  repeat' first|simp(disch:=omega) only[go_sem, *]|((with_reducible apply ab)<;>intro h<;>try omega)
  refine z8 2 rfl (lZ ?_)
  repeat' first|simp(disch:=omega) only[go_sem, *,zm]|((with_reducible apply ab)<;>intro h<;>try omega)
  all_goals first|rfl|trace_state
 ·refine f7 (t:=false) rfl (λe=>by cases e) (λ_=>oM ?_)
  change AW _ _ _ _ _
  refine cZ (aa ?_)
  repeat' first|simp(disch:=omega) only[go_sem, *]|((with_reducible apply ab)<;>intro h<;>try omega)|(refine gj (by intro r hr;cases hr) ?_)
  refine lZ ?_
  repeat' first|simp(disch:=omega) only[go_sem, *,zm]|((with_reducible apply ab)<;>intro h<;>try omega)
  all_goals first|rfl|trace_state
theorem N7 (B:aU) (x:aR) (l:List aR) (hl:l.length+1≤1000000000):aq Tryz.prog bl [bR (x::l)] [(0,B)] 1 (.c (.ref 1)) [(1,.arr 46 3 ((x::l).map cP)),(0,B)] 2:=by
 refine aq.of c6 (by simp) λ_=>aa ?_
 simp only[bM]
 have hok:bC 3 ((x::l).map cP):=by
  intro r hr
  obtain⟨y,_,rfl⟩:=List.mem_map.1 hr
  rfl
 repeat' first|simp(disch:=omega) only[go_sem, *]|((with_reducible apply ab)<;>intro h<;>try omega)|(with_reducible apply ah)|(with_reducible refine aj (λh=> ?_) ?_)|(refine iD (by intro r hr;cases hr) hok (by simp) (by simp;omega) (by simp;omega) ?_)
 all_goals first|rfl|(exfalso;have:=h (cP x) List.mem_cons_self;cases this)
set_option maxRecDepth 20000
set_option maxRecDepth 1000000
theorem sq {l:List aR} (c:aR) (hl:l.length≤1000000000):af Tryz.prog wP [bR l,iG c] (bR (l++ [c])):=by
 refine af.of FW (by simp) λ_=>aa ?_
 conv in wU=>cbv
 obtain⟨⟨K,m⟩,q⟩:=c
 cases l with
 |nil=>
  repeat' first|simp(disch:=omega) only[go_sem, *]|((with_reducible apply ab)<;>intro h<;>try omega)|(with_reducible apply ah)|(with_reducible refine aj (λh=> ?_) ?_)|(refine an (Ro _) ?_)|(refine iD (by intro r hr;cases hr) (aO rfl) (by simp) (by simp) (by simp) ?_)
  all_goals rfl
 |cons x l=>
  simp only[List.length_cons]at hl
  repeat' first|simp(disch:=omega) only[go_sem, *]|((with_reducible apply ab)<;>intro h<;>try omega)|(with_reducible apply ah)|(with_reducible refine aj (λh=> ?_) ?_)|(refine an (N7 _ x l (by omega)) ?_)|(refine bf rfl (by intro h;cases h) (aO rfl) (by simp;omega) (by simp;omega) ?_)
  all_goals simp[cP]
theorem Nv {l P:List aR} {fuel:Int} {acc:List Int} {i:Nat} (h:i<P.length):nk l fuel (P.drop i) acc=if(gO (l++ [P[i]]) fuel).2.2≠0 then([],false,(gO (l++ [P[i]]) fuel).2.2)else if(gO (l++ [P[i]]) fuel).2.1=false then([],false,0)else nk l fuel (P.drop (i+1)) (acc++(gO (l++ [P[i]]) fuel).1):=by
 rw[List.drop_eq_getElem_cons h,nk]
theorem Pt {l:List aR} {p:aR}:iH (l++ [p])=iH l+p.1.2.length:=by rw[iK];simp[iH]
theorem yw {l:List aR} {c:aR} {fuel:Int} (h64: ∀d∈l,bk d) (hc:bk c) (hl:l.length≤10000) (ht:iH l+c.1.2.length≤1000000) (hf:ar fuel):
  af Tryz.prog ky [bR l,iG c,I fuel] (Zz (iZ l c fuel)):=by
 refine af.of zJ (by simp) λ_=>aa ?_
 conv in qJ=>cbv
 have pn:=mr (l:=l) hc (by unfold short;omega)
 have hn64:=pQ (l:=l) hc
 have hntot:= λd (hd:d∈(iv l c).1)=>Ir hd
 have hn2:=Hy l c
 unfold iZ
 generalize iv l c=X at*
 obtain⟨P,e⟩:=X
 obtain⟨⟨K,m⟩,q⟩:=c
 simp only at pn hn64 hntot hn2 ht ⊢
 by_cases h0:e=0
 ·subst h0
  rw[if_neg (by simp)]
  obtain⟨R,hR⟩: ∃R,R=nk l fuel (P.drop 0) []:=⟨_,rfl⟩
  have hR0:nk l fuel P []=R:=hR.symm
  rw[hR0]
  have HR:=Lib.hid hR
  clear hR hR0
  repeat' first|simp(disch:=omega) only[go_sem, *]|((with_reducible apply ab)<;>intro h<;>try omega)|(refine el pn rfl rfl ?_)
  refine fj 11 2 1 rfl (by decide) ?_
  refine ap (λs:Nat×List Int=>⟨[(0,bR l),(2,I fuel),(11,.c (.ref 1)),(26,bR P),(27,I P.length),(28,I s.1)], [(1,.arr 2 1 (s.2.map λn=> [pI n]))],2,0⟩)
   (λs=>s.1≤P.length∧s.2.length≤s.1*10001∧Hid (R=nk l fuel (P.drop s.1) s.2)) (λs=>P.length-s.1) ⟨(0, []), [],⟨Nat.zero_le _,by simp,HR⟩,by simp⟩ ?_
  clear HR pn
  rintro⟨i,acc⟩ ⟨hi,ha,HR⟩
  simp only at hi ha HR
  refine aa ?_
  by_cases hlt:i<P.length
  ·have g1:=ai (f:=cP) hlt
   have h2:=HR.out
   rw[Nv hlt]at h2
   have hp:=hn64 _ (List.getElem_mem hlt)
   have hpt:=hntot _ (List.getElem_mem hlt)
   have pw:=sq (l:=l) P[i] (by omega)
   have pi:=wy (l:=l++ [P[i]]) (fuel:=fuel) (A5 h64 hp) (by rw[Pt];omega) hf
   have hlen:=T7 (l:=l++ [P[i]]) (fuel:=fuel) (A5 h64 hp)
   rw[List.length_append,List.length_singleton]at hlen
   clear HR hp hpt hn64 hntot
   generalize gO (l++ [P[i]]) fuel=Y at*
   obtain⟨by',ok,e⟩:=Y
   generalize P[i]=p at*
   obtain⟨⟨pk,pl⟩,pq⟩:=p
   simp only[cP]at g1
   simp only at h2 pw pi hlen
   have hok:=aQ (f:= λn:Int=> [pI n]) (sz:=1) (xs:=by') λ_=>rfl
   by_cases he:e=0
   ·subst he
    rw[if_neg (by simp)]at h2
    cases ok
    ·rw[if_pos rfl]at h2
     subst h2
     clear hok
     repeat' first|simp(disch:=omega) only[go_sem, *,g1,wrap_i64]|((with_reducible apply ab)<;>intro h<;>try omega)|(refine el pw rfl rfl ?_)|(refine el pi rfl rfl ?_)
     all_goals rfl
    ·rw[if_neg (by simp)]at h2
     have HR:=Lib.hid h2
     clear h2
     repeat' first|simp(disch:=omega) only[go_sem, *,g1,wrap_i64]|((with_reducible apply ab)<;>intro h<;>try omega)|(refine el pw rfl rfl ?_)|(refine el pi rfl rfl ?_)|(refine bf rfl (by intro h;cases h) hok (by simp;omega) (by simp;omega) ?_)
     exact⟨(i+1,acc++by'), [(1,3)],⟨hlt,by simp;omega,HR⟩,by show _-_<_-_;omega,by simp⟩
   ·rw[if_pos he]at h2
    subst h2
    clear hok
    repeat' first|simp(disch:=omega) only[go_sem, *,g1,he,wrap_i64]|((with_reducible apply ab)<;>intro h<;>try omega)|(refine el pw rfl rfl ?_)|(refine el pi rfl rfl ?_)
    all_goals rfl
  ·have h2:=HR.out
   rw[List.drop_eq_nil_of_le (by omega),nk]at h2
   subst h2
   clear HR hn64 hntot
   repeat' first|simp(disch:=omega) only[go_sem, *]|((with_reducible apply ab)<;>intro h<;>try omega)
   all_goals rfl
 ·rw[if_pos h0]
  repeat' first|simp(disch:=omega) only[go_sem, *,h0]|((with_reducible apply ab)<;>intro h<;>try omega)|(refine el pn rfl rfl ?_)
  all_goals rfl
theorem RM {l P:List aR} {b:List Int} {i:Nat} (h:i<P.length):Fk l b i (P.drop i)=if fk (l++ [P[i]]) ((b.take ((i+1)*(l.length+1))).drop (i*(l.length+1)))≠0 then fk (l++ [P[i]]) ((b.take ((i+1)*(l.length+1))).drop (i*(l.length+1)))else Fk l b (i+1) (P.drop (i+1)):=by
 rw[List.drop_eq_getElem_cons h,Fk]
set_option maxRecDepth 20000
set_option maxRecDepth 1000000
def smF (l:List aD):Prop:=l.length≤40∧ ∀m∈l,m.1.size≤40
instance (l:List aD):Decidable (smF l):=Classical.propDecidable _
def smL (l:List aR) (n:Int):Prop:=(l.length:Int)≤n∧ ∀c∈l,c.1.2.length≤20∧smF c.1.2
instance (l:List aR) (n:Int):Decidable (smL l n):=Classical.propDecidable _
def abz (l:List aR) (n fuel:Int):Prop:=smL l n∧fuel≤3000
instance (l:List aR) (n fuel:Int):Decidable (abz l n fuel):=Classical.propDecidable _
theorem mX {l:List aR} {c:aR} {b:List Int} (h64: ∀d∈l,bk d) (hc:bk c) (hl:l.length≤10000) (ht:iH l+c.1.2.length≤1000000) (hb: ∀x∈b,ar x):
  af Tryz.prog eB [bR l,iG c,dc b] (I (IM l c b)):=by
 refine af.of nA (by simp) λhbd=>aa ?_
 have hbl:b.length≤9223372036854775807:=by have:=hbd.2.2.1;simpa[iI,jt]using this
 clear hbd
 conv in gY=>cbv
 have pn:=mr (l:=l) hc (by unfold short;omega)
 have hn64:=pQ (l:=l) hc
 have hntot:= λd (hd:d∈(iv l c).1)=>Ir hd
 have hn2:=Hy l c
 unfold IM
 generalize iv l c=X at*
 obtain⟨P,e⟩:=X
 obtain⟨⟨K,m⟩,q⟩:=c
 simp only at pn hn64 hntot hn2 ht ⊢
 by_cases h0:e=0
 ·subst h0
  rw[if_neg (by simp)]
  have hp:P.length=0∨P.length=1∨P.length=2:=by omega
  have wl:IntKind.wrap .i64 ((l.length:Int)+1)=(l.length:Int)+1:=wrap_i64 (by omega)
  have wm:IntKind.wrap .i64 ((P.length:Int)*((l.length:Int)+1))=(P.length:Int)*((l.length:Int)+1):=by
   rcases hp with h|h|h<;>rw[h]<;>exact wrap_i64 (by omega)
  by_cases hbn:b.length=P.length*(l.length+1)
  ·rw[if_neg (not_not_intro hbn)]
   have hbi:(b.length:Int)=(P.length:Int)*((l.length:Int)+1):=by rw[hbn,Int.natCast_mul,Int.natCast_add];rfl
   obtain⟨R,hR⟩: ∃R,R=Fk l b 0 (P.drop 0):=⟨_,rfl⟩
   have hR0:Fk l b 0 P=R:=hR.symm
   rw[hR0]
   have HR:=Lib.hid hR
   clear hR hR0
   repeat' first|simp(disch:=omega) only[go_sem,wl,wm,hbi]|((with_reducible refine ab ?_ ?_)<;>intro h<;>try first|omega|simp(disch:=omega) only[go_sem, *,wl,wm,hbi])|(refine el pn rfl rfl ?_)
   refine ap (λi:Nat=>⟨[(0,bR l),(2,dc b),(9,I (l.length+1)),(32,bR P),(33,I P.length),(34,I i)], [],0,0⟩)
    (λi=>i≤P.length∧Hid (R=Fk l b i (P.drop i))) (λi=>P.length-i) ⟨0, [],⟨Nat.zero_le _,HR⟩,by simp[wl]⟩ ?_
   clear HR pn wm wl
   rintro i ⟨hi,HR⟩
   refine aa ?_
   by_cases hlt:i<P.length
   ·have g1:=ai (f:=cP) hlt
    have h2:=HR.out
    rw[RM hlt]at h2
    have hp2:=hn64 _ (List.getElem_mem hlt)
    have hpt:=hntot _ (List.getElem_mem hlt)
    have pw:=sq (l:=l) P[i] (by omega)
    have hi01:i=0∨i=1:=by omega
    have hlen:(i+1)*(l.length+1)≤b.length:=by
     rw[hbn];exact Nat.mul_le_mul_right _ hlt
    have hsub:(i+1)*(l.length+1)=i*(l.length+1)+(l.length+1):=Nat.succ_mul _ _
    have hwl:((b.take ((i+1)*(l.length+1))).drop (i*(l.length+1))).length≤1000000000:=by
     rw[List.length_drop,List.length_take];omega
    have pcl:=oA hwl
    have pk:=gX (l:=l++ [P[i]]) (b:=(b.take ((i+1)*(l.length+1))).drop (i*(l.length+1))) (A5 h64 hp2) (by rw[Pt];omega) (λx hx=>hb x (List.mem_of_mem_take (List.mem_of_mem_drop hx)))
    have w1:IntKind.wrap .i64 ((i:Int)*((l.length:Int)+1))=((i*(l.length+1):Nat):Int):=by
     rcases hi01 with h|h<;>subst h
     ·rw[wrap_i64 (by omega)];omega
     ·rw[wrap_i64 (by omega)];omega
    have w2:IntKind.wrap .i64 (((i:Int)+1)*((l.length:Int)+1))=(((i+1)*(l.length+1):Nat):Int):=by
     rcases hi01 with h|h<;>subst h
     ·rw[wrap_i64 (by omega)];omega
     ·rw[wrap_i64 (by omega)];omega
    clear HR hp2 hpt hn64 hntot hbn hbi hwl
    generalize fk (l++ [P[i]]) ((b.take ((i+1)*(l.length+1))).drop (i*(l.length+1)))=CK at*
    generalize (i+1)*(l.length+1)=HI at*
    generalize i*(l.length+1)=LO at*
    generalize P[i]=p at*
    obtain⟨⟨pk',pl⟩,pq⟩:=p
    simp only[cP]at g1
    try simp only at pw pk
    have ew:((b.map λn=> [pI n]).take HI).drop LO=((b.take HI).drop LO).map λn=> [pI n]:=by rw[List.map_drop,List.map_take]
    have hro:bC 1 (b.map λn=> [pI n]):=aQ λ_=>rfl
    have tk:(b.map λn=> [pI n]).take b.length=b.map λn=> [pI n]:=List.take_of_length_le (by simp)
    by_cases he:CK=0
    ·subst he
     rw[if_neg (by simp)]at h2
     have HR:=Lib.hid h2
     clear h2
     repeat' first|simp(disch:=omega) only[go_sem,g1,w1,w2,wrap_i64,hro,ew,tk,Int.toNat_natCast,Option.getD_some,Option.getD_none,List.length_map]|((with_reducible refine ab ?_ ?_)<;>intro h<;>try first|omega|simp(disch:=omega) only[go_sem, *,g1,w1,w2,wrap_i64,hro,ew,tk,Int.toNat_natCast,Option.getD_some,Option.getD_none,List.length_map])|(with_reducible apply ah)|(with_reducible refine aj (λh=> ?_) ?_)|(refine el pw rfl rfl ?_)|(refine el pcl rfl rfl ?_)|(refine el pk rfl rfl ?_)
     all_goals exact⟨i+1, [],⟨hlt,HR⟩,by omega,by simp⟩
    ·rw[if_pos he]at h2
     subst h2
     repeat' first|simp(disch:=omega) only[go_sem,g1,w1,w2,he,wrap_i64,hro,ew,tk,Int.toNat_natCast,Option.getD_some,Option.getD_none,List.length_map]|((with_reducible refine ab ?_ ?_)<;>intro h<;>try first|omega|simp(disch:=omega) only[go_sem, *,g1,w1,w2,he,wrap_i64,hro,ew,tk,Int.toNat_natCast,Option.getD_some,Option.getD_none,List.length_map])|(with_reducible apply ah)|(with_reducible refine aj (λh=> ?_) ?_)|(refine el pw rfl rfl ?_)|(refine el pcl rfl rfl ?_)|(refine el pk rfl rfl ?_)
     all_goals rfl
   ·have h2:=HR.out
    rw[List.drop_eq_nil_of_le (by omega),Fk]at h2
    subst h2
    clear HR hn64 hntot
    repeat' first|simp(disch:=omega) only[go_sem]|((with_reducible refine ab ?_ ?_)<;>intro h<;>try first|omega|simp(disch:=omega) only[go_sem, *])
    all_goals rfl
  ·rw[if_pos hbn]
   have hbi: ¬(b.length:Int)=(P.length:Int)*((l.length:Int)+1):= λh=>hbn (by
    have h3:((P.length*(l.length+1):Nat):Int)=(P.length:Int)*((l.length:Int)+1):=by rw[Int.natCast_mul,Int.natCast_add];rfl
    omega)
   repeat' first|simp(disch:=omega) only[go_sem,wl,wm,hbi]|((with_reducible refine ab ?_ ?_)<;>intro h<;>try first|omega|simp(disch:=omega) only[go_sem, *,wl,wm,hbi])|(refine el pn rfl rfl ?_)
   all_goals rfl
 ·rw[if_pos h0]
  repeat' first|simp(disch:=omega) only[go_sem,h0]|((with_reducible refine ab ?_ ?_)<;>intro h<;>try first|omega|simp(disch:=omega) only[go_sem, *,h0])|(refine el pn rfl rfl ?_)
  all_goals rfl
end
end Go.Proofs.YthbcbaembicdbaaGreatDoor
