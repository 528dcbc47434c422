import Derived.Test.YthbcbaembicdbaaGreatDoorV07x
set_option linter.unusedVariables false
set_option linter.unusedSimpArgs false
namespace Go.Proofs.YthbcbaembicdbaaGreatDoor
open Go.Abs Go.RowKit
noncomputable section
def tC (f:bY):bt:=((-1-f.1,f.2.map λm=>(m.1,-m.2)),false)
def Zx (f:bY):bt:=((f.1-1,f.2),false)
def oo (l:List bJ):Prop:= ∃m∈l,m.2= -9223372036854775808
instance (l:List bJ):Decidable (oo l):=Classical.propDecidable _
def fp (c:bt):List bt×Int:=
 if ¬bi c.1.2 then([],1)else if oo c.1.2 then([],3)else if c.2=false then([tC c.1],0)
 else if c.1.1= -9223372036854775808 then([],3)else([Zx c.1,tC c.1],0)
def Vl (l:List bt):Prop:= ∀c∈l,bi c.1.2
instance (l:List bt):Decidable (Vl l):=Classical.propDecidable _
def qS (l:List bt) (c:bt):List bt×Int:=if ¬Vl l∨ ¬bi c.1.2 then([],1)else fp c
def By (l:List bt) (fuel:Int):List bt→List Int→List Int×Bool×Int
 | [],acc=>(acc,true,0)
 |p::r,acc=>if(kK (l++ [p]) fuel).2.2≠0 then([],false,(kK (l++ [p]) fuel).2.2)else if(kK (l++ [p]) fuel).2.1=false then([],false,0)else By l fuel r (acc++(kK (l++ [p]) fuel).1)
def uc (l:List bt) (c:bt) (fuel:Int):List Int×Bool×Int:=if(qS l c).2≠0 then([],false,(qS l c).2)else By l fuel (qS l c).1 []
theorem Id {f:bY} (h:bq f) (hm: ¬oo f.2):bX (tC f):=by
 refine⟨?_,λm hm'=> ?_⟩
 ·have:=h.1
  show ay (-1-f.1)
  unfold ay at*
  omega
 ·obtain⟨z,hz,rfl⟩:=List.mem_map.1 hm'
  have h1:=h.2 z hz
  have h2:z.2≠ -9223372036854775808:=λe=>hm ⟨z,hz,e⟩
  show ay (-z.2)
  unfold ay at*
  omega
theorem Xg {f:bY} (h:bq f) (hm:f.1≠ -9223372036854775808):bX (Zx f):=by
 refine⟨?_,h.2⟩
 have:=h.1
 show ay (f.1-1)
 unfold ay at*
 omega
theorem YD {c:bt} (h:bX c): ∀d∈(fp c).1,bX d:=by
 unfold fp
 (repeat' split)<;>intro d hd
 ·cases hd
 ·cases hd
 ·rename_i h1 h2
  rw[List.mem_singleton.1 hd]
  exact Id h h1
 ·cases hd
 ·rename_i h1 h2 h3
  rcases List.mem_cons.1 hd with rfl|hd
  ·exact Xg h h3
  ·rw[List.mem_singleton.1 hd]
   exact Id h h1
theorem VW {l:List bt} {c:bt} (h:bX c): ∀d∈(qS l c).1,bX d:=by
 unfold qS
 split
 ·intro d hd;cases hd
 ·exact YD h
theorem OS {c d:bt} (h:d∈(fp c).1):d.1.2.length=c.1.2.length:=by
 unfold fp at h
 (repeat' split at h)
 ·cases h
 ·cases h
 ·rw[List.mem_singleton.1 h]
  simp[tC]
 ·cases h
 ·rcases List.mem_cons.1 h with rfl|h
  ·rfl
  ·rw[List.mem_singleton.1 h]
   simp[tC]
theorem Tz {l:List bt} {c d:bt} (h:d∈(qS l c).1):d.1.2.length=c.1.2.length:=by
 unfold qS at h
 split at h
 ·cases h
 ·exact OS h
theorem Ut (c:bt):(fp c).1.length≤2:=by
 unfold fp
 (repeat' split)<;>simp
theorem SQ (l:List bt) (c:bt):(qS l c).1.length≤2:=by
 unfold qS
 split
 ·simp
 ·exact Ut c
theorem P2 {l:List bt} {b:List Int} (h:kH l b=0):b.length=l.length:=by
 unfold kH at h
 split at h
 ·exact absurd h ‹_›
 ·rename_i h0
  split at h
  ·exact absurd h ‹_›
  ·rename_i h1
   have ht:bL l=((bL l).1,0):=Prod.ext rfl (Classical.not_not.1 h0)
   have hc:aX (bL l).1 b=((aX (bL l).1 b).1,0):=Prod.ext rfl (Classical.not_not.1 h1)
   rw[←(mh hc).1,(o9 ht).1]
theorem Tu {l:List bt} {fuel:Int} (h64: ∀c∈l,bX c) (h:(kK l fuel).2.1=true):kH l (kK l fuel).1=0:=by
 obtain⟨h1,h2⟩:=Pf (fuel:=fuel) h64
 by_cases h0:CN l fuel=0
 ·exact(h2 h0).2.1 h
 ·rw[h1 h0]at h
  cases h
theorem Ym {l:List bt} {fuel:Int} (h64: ∀c∈l,bX c) (h:(kK l fuel).2.1=false):(kK l fuel).1= []:=by
 obtain⟨h1,h2⟩:=Pf (fuel:=fuel) h64
 by_cases h0:CN l fuel=0
 ·exact(h2 h0).2.2 h
 ·rw[h1 h0]
theorem UE {l:List bt} {fuel:Int} (h64: ∀c∈l,bX c):(kK l fuel).1.length≤l.length:=by
 cases h:(kK l fuel).2.1 with
 |false=>rw[Ym h64 h];simp
 |true=>exact Nat.le_of_eq (P2 (Tu h64 h))
theorem UC {l:List bt} {p:bt} (h: ∀c∈l,bX c) (hp:bX p): ∀c∈l++ [p],bX c:=λc hc=>by
 rcases List.mem_append.1 hc with hc|hc
 ·exact h c hc
 ·rw[List.mem_singleton.1 hc];exact hp
set_option maxHeartbeats 4000000
set_option maxRecDepth 1000000
theorem Ms (a b:bY):ac Tryz.prog F7 [dm a.1 a.2,dm b.1 b.2] (Go.Abs.B (decide (a=b))):=by
 refine ac.of Ns (by simp) λhb=>aa ?_
 obtain⟨ka,a⟩:=a
 obtain⟨kb,b⟩:=b
 have hba:a.length≤9223372036854775807:=by have:=hb.1;simpa[i5,jS,rF]using this
 clear hb
 conv in Gw=>cbv
 by_cases hk:ka=kb
 ·subst hk
  have e0:decide ((ka,a)=(ka,b))=decide (a=b):=by
   rw[Bool.eq_iff_iff]
   simp
  rw[e0]
  clear e0
  by_cases hl:a.length=b.length
  ·have hli:(a.length:Int)=(b.length:Int):=by omega
   obtain⟨R,hR⟩: ∃R,R=decide (a=b):=⟨_,rfl⟩
   rw[←hR]
   have HR:=Lib.hid hR
   clear hR
   have HL:=Lib.hid hl
   clear hl
   repeat' first|simp(disch:=omega) only[go_sem, *,hli]|((with_reducible apply ab)<;>intro h<;>try omega)
   refine an (λk:Nat=>⟨[(2,.c (.ptr 0 0)),(3,.c (.ptr 1 0)),(5,I k)], [(1,.var [.pure (pI ka),.pure (aw b)]),(0,.var [.pure (pI ka),.pure (aw a)])],2,0⟩) (λk=>k≤b.length∧Hid (a.take k=b.take k)) (λk=>b.length-k) ⟨0, [],⟨Nat.zero_le _,Lib.hid rfl⟩,by simp⟩ ?_
   rintro k ⟨hk,HT⟩
   refine aa ?_
   have hl:=HL.out
   by_cases hlt:k<b.length
   ·have hlta:k<a.length:=by omega
    have g1:=ah (f:=mP) hlta
    have g2:=ah (f:=mP) hlt
    by_cases he:a[k]=b[k]
    ·have HT':Hid (a.take (k+1)=b.take (k+1)):=Lib.hid (by rw[List.take_succ_eq_append_getElem hlta,List.take_succ_eq_append_getElem hlt,HT.out,he])
     rw[he]at g1
     clear HT he hl
     generalize b[k]=m at*
     obtain⟨n,x⟩:=m
     simp only[mP]at g1 g2
     repeat' first|simp(disch:=omega) only[go_sem, *,hli,g1,g2,sr,Dw,and_self,W8,wrap_i64]|((with_reducible apply ab)<;>intro h<;>try omega)
     exact⟨k+1, [],⟨hlt,HT'⟩,by omega,by simp⟩
    ·have hR:R=false:=by
      rw[HR.out]
      exact decide_eq_false λh=>he (by subst h;rfl)
     subst hR
     have hne: ¬(a[k].1=b[k].1∧a[k].2=b[k].2):=λh=>he (Prod.ext h.1 h.2)
     clear HT he hl HR HL
     generalize a[k]=m at*
     generalize b[k]=m' at*
     obtain⟨n,x⟩:=m
     obtain⟨n',x'⟩:=m'
     simp only[mP]at g1 g2 hne
     repeat' first|simp(disch:=omega) only[go_sem, *,hli,g1,g2,sr,Dw,and_true,hne,VU,wrap_i64]|((with_reducible apply ab)<;>intro h<;>try omega)
     all_goals rfl
   ·have hR:R=true:=by
     rw[HR.out]
     have h:=HT.out
     rw[List.take_of_length_le (by omega),List.take_of_length_le (by omega)]at h
     exact decide_eq_true h
    subst hR
    clear HT HL HR hl
    repeat' first|simp(disch:=omega) only[go_sem, *,hli]|((with_reducible apply ab)<;>intro h<;>try omega)
    all_goals rfl
  ·have e:decide (a=b)=false:=decide_eq_false λh=>hl (by rw[h])
   rw[e]
   have hli: ¬(a.length:Int)=(b.length:Int):=by omega
   repeat' first|simp(disch:=omega) only[go_sem, *,hli]|((with_reducible apply ab)<;>intro h<;>try omega)
   all_goals rfl
 ·have e:decide ((ka,a)=(kb,b))=false:=decide_eq_false λh=>hk (congrArg Prod.fst h)
  rw[e]
  clear e
  repeat' first|simp(disch:=omega) only[go_sem, *,hk]|((with_reducible apply ab)<;>intro h<;>try omega)
  all_goals rfl
theorem Lm (a b:bt):ac Tryz.prog HO [jM a,jM b] (Go.Abs.B (decide (a=b))):=by
 refine ac.of O4 (by simp) λhb=>aa ?_
 obtain⟨⟨ka,a⟩,qa⟩:=a
 obtain⟨⟨kb,b⟩,qb⟩:=b
 have pl:=Ms (ka,a) (kb,b)
 simp only at pl
 conv in GV=>cbv
 have e:decide (((ka,a),qa)=((kb,b),qb))=(if qa=qb then decide ((ka,a)=(kb,b))else false):=by
  cases qa<;>cases qb<;>simp
 rw[e]
 clear e
 generalize decide ((ka,a)=(kb,b))=d at*
 cases qa
 all_goals
  cases qb
  all_goals
   repeat' first|simp(disch:=omega) only[go_sem, *]|((with_reducible apply ab)<;>intro h<;>try omega)|(refine aF pl rfl rfl ?_)
   all_goals rfl
set_option maxRecDepth 1000000
def pM:Nat→List bt→Int
 |_, []=> -1
 |k,c::l=>if bi c.1.2 then pM (k+1) l else k
theorem Kv: ∀{l:List bt} {k:Nat},0≤pM k l↔ ¬Vl l
 | [],k=>by simp[pM,Vl]
 |c::l,k=>by
  rw[pM]
  have ih:=Kv (l:=l) (k:=k+1)
  by_cases h:bi c.1.2
  ·rw[if_pos h,ih]
   simp only[Vl,List.mem_cons,forall_eq_or_imp]
   constructor
   ·exact λh1 h2=>h1 h2.2
   ·exact λh1 h2=>h1 ⟨h,h2⟩
  ·rw[if_neg h]
   exact⟨λ_ h2=>h (h2 c List.mem_cons_self),λ_=>by omega⟩
theorem PS {l:List bt} {k:Nat} (h:k<l.length):pM k (l.drop k)=if bi l[k].1.2 then pM (k+1) (l.drop (k+1))else k:=by
 rw[List.drop_eq_getElem_cons h,pM]
theorem zm (c:bt):ac Tryz.prog fF [jM c] (Go.Abs.B (decide (¬bi c.1.2))):=by
 refine ac.of zX (by simp) λ_=>aa ?_
 conv in qT=>cbv
 have pv:=b8 c
 obtain⟨⟨k,l⟩,q⟩:=c
 simp only at pv ⊢
 by_cases h:bi l
 ·rw[if_pos h]at pv
  rw[decide_eq_false (not_not_intro h)]
  clear h
  repeat' first|simp(disch:=omega) only[go_sem, *]|((with_reducible apply ab)<;>intro h<;>try omega)|(refine aF pv rfl rfl ?_)
  all_goals rfl
 ·rw[if_neg h]at pv
  rw[decide_eq_true h]
  clear h
  repeat' first|simp(disch:=omega) only[go_sem, *]|((with_reducible apply ab)<;>intro h<;>try omega)|(refine aF pv rfl rfl ?_)
  all_goals rfl
theorem sG (l:List bt):ac Tryz.prog c6 [bT l,.c (.clo fF [])] (I (pM 0 l)):=by
 refine ac.of eW (by simp) λhb=>aa ?_
 have hbl:l.length≤9223372036854775807:=by have:=hb.1;simpa[i5,jS]using this
 clear hb
 conv in cZ=>cbv
 obtain⟨R,hR⟩: ∃R,R=pM 0 (l.drop 0):=⟨_,rfl⟩
 have hR0:pM 0 l=R:=hR.symm
 rw[hR0]
 have HR:=Lib.hid hR
 clear hR hR0
 repeat' first|simp(disch:=omega) only[go_sem, *]|((with_reducible apply ab)<;>intro h<;>try omega)
 refine an (λk:Nat=>⟨[(0,bT l),(1,.c (.clo fF [])),(7,I l.length),(8,I k)], [],0,0⟩) (λk=>k≤l.length∧Hid (R=pM k (l.drop k))) (λk=>l.length-k) ⟨0, [],⟨Nat.zero_le _,HR⟩,by simp⟩ ?_
 clear HR
 rintro k ⟨hk,HR⟩
 refine aa ?_
 by_cases hlt:k<l.length
 ·have g1:=ah (f:=cP) hlt
  have h2:=HR.out
  rw[PS hlt]at h2
  have p1:=zm l[k]
  clear HR
  generalize l[k]=c at*
  obtain⟨⟨ck,cl⟩,q⟩:=c
  simp only[cP]at g1
  simp only at h2 p1
  by_cases hc:bi cl
  ·rw[if_pos hc]at h2
   rw[decide_eq_false (not_not_intro hc)]at p1
   have HR:=Lib.hid h2
   clear h2 hc
   repeat' first|simp(disch:=omega) only[go_sem, *,g1,wrap_i64]|((with_reducible apply ab)<;>intro h<;>try omega)|(refine aF p1 rfl rfl ?_)
   exact⟨k+1, [],⟨hlt,HR⟩,by omega,by simp⟩
  ·rw[if_neg hc]at h2
   rw[decide_eq_true hc]at p1
   subst h2
   clear hc
   repeat' first|simp(disch:=omega) only[go_sem, *,g1,wrap_i64]|((with_reducible apply ab)<;>intro h<;>try omega)|(refine aF p1 rfl rfl ?_)
   all_goals rfl
 ·have h2:=HR.out
  rw[List.drop_eq_nil_of_le (by omega),pM]at h2
  subst h2
  clear HR
  repeat' first|simp(disch:=omega) only[go_sem, *]|((with_reducible apply ab)<;>intro h<;>try omega)
  all_goals rfl
theorem oO (l:List bt):ac Tryz.prog cK [bT l,.c (.clo fF [])] (Go.Abs.B (decide (¬Vl l))):=by
 refine ac.of eo (by simp) λhb=>aa ?_
 conv in cH=>cbv
 have p1:=sG l
 have e:=Kv (l:=l) (k:=0)
 have e2:decide (¬Vl l)=decide (0≤pM 0 l):=by
  by_cases h:Vl l
  ·rw[decide_eq_false (not_not_intro h),decide_eq_false (λh'=>e.1 h' h)]
  ·rw[decide_eq_true h,decide_eq_true (e.2 h)]
 rw[e2]
 clear e e2
 generalize pM 0 l=R at*
 by_cases h0:0≤R
 ·rw[decide_eq_true h0]
  repeat' first|simp(disch:=omega) only[go_sem, *,h0]|((with_reducible apply ab)<;>intro h<;>try omega)|(refine aF p1 rfl rfl ?_)
  all_goals first|rfl|simp[h0]
 ·rw[decide_eq_false h0]
  repeat' first|simp(disch:=omega) only[go_sem, *,h0]|((with_reducible apply ab)<;>intro h<;>try omega)|(refine aF p1 rfl rfl ?_)
  all_goals first|rfl|simp[h0]
theorem CA (l:List bt):ac Tryz.prog wd [bT l] (Go.Abs.B (decide (Vl l))):=by
 refine ac.of D3 (by simp) λhb=>aa ?_
 conv in vM=>cbv
 have p1:=oO l
 by_cases h:Vl l
 ·rw[decide_eq_false (not_not_intro h)]at p1
  rw[decide_eq_true h]
  clear h
  repeat' first|simp(disch:=omega) only[go_sem, *]|((with_reducible apply ab)<;>intro h<;>try omega)|(refine aF p1 rfl rfl ?_)
  all_goals rfl
 ·rw[decide_eq_true h]at p1
  rw[decide_eq_false h]
  clear h
  repeat' first|simp(disch:=omega) only[go_sem, *]|((with_reducible apply ab)<;>intro h<;>try omega)|(refine aF p1 rfl rfl ?_)
  all_goals rfl
def uQ (l:List bJ):List bJ:=l.map λm=>(m.1,-m.2)
def Bv (f:bY):bY×Int:=if oo f.2 then((0, []),3)else((-1-f.1,uQ f.2),0)
theorem J6 {l:List bJ} {k:Nat} (h:k<l.length):(uQ (l.take (k+1))).map mP=(uQ (l.take k)).map mP++ [[pS l[k].1,pI (-l[k].2)]]:=by
 rw[List.take_succ_eq_append_getElem h]
 show((l.take k++ [l[k]]).map _).map mP=_
 rw[List.map_append,List.map_append]
 rfl
theorem Ff {l:List bJ} {k:Nat} (h:k<l.length) (h0: ¬oo (l.take k)) (h1:l[k].2≠ -9223372036854775808): ¬oo (l.take (k+1)):=by
 rw[List.take_succ_eq_append_getElem h]
 rintro⟨m,hm,e⟩
 rcases List.mem_append.1 hm with hm|hm
 ·exact h0 ⟨m,hm,e⟩
 ·rw[List.mem_singleton.1 hm]at e;exact h1 e
theorem jr {f:bY} (h64:bq f) (hs:short f.2):ac Tryz.prog kq [dm f.1 f.2] (NY (Bv f)):=by
 refine ac.of rU (by simp) λ_=>aa ?_
 conv in ki=>cbv
 obtain⟨K,l⟩:=f
 obtain⟨hK,hl⟩:=h64
 unfold short at hs
 simp only at hK hl hs ⊢
 have wk:IntKind.wrap .i64 (-1-K)= -1-K:=wrap_i64 (by unfold ay at hK;omega)
 obtain⟨R,hR⟩: ∃R,R=Bv (K,l):=⟨_,rfl⟩
 rw[←hR]
 have HR:=Lib.hid hR
 clear hR hK
 repeat' first|simp(disch:=omega) only[go_sem, *,wk]|((with_reducible apply ab)<;>intro h<;>try omega)
 refine cQ 2 1 114 2 _ rfl rfl (by decide) ?_
 refine an (λj:Nat=>⟨[(2,.c (.ptr 1 0)),(4,.c (.ptr 2 0)),(12,.c (.pure (aw l))),(13,I l.length),(14,I j)],
  [(0,.var [.pure (pI K),.pure (aw l)]),(1,.var [.pure (pI 0),.nils]),(2,.var [.pure (pI (-1-K)),.ref 3]),(3,.arr 114 2 ((uQ (l.take j)).map mP))],4,0⟩) (λj=>j≤l.length∧Hid (¬oo (l.take j))) (λj=>l.length-j) ⟨0, [],⟨Nat.zero_le _,Lib.hid (by simp[oo])⟩,by simp[uQ]⟩ ?_
 rintro j ⟨hj,HM⟩
 refine aa ?_
 by_cases hlt:j<l.length
 ·have e1:=J6 hlt
  have g1:=ah (f:=mP) hlt
  have hlen:(uQ (l.take j)).length≤1000000000:=by simp[uQ];omega
  have hx:=hl _ (List.getElem_mem hlt)
  by_cases hm:l[j].2= -9223372036854775808
  ·have h2:R=((0, []),3):=by rw[HR.out,Bv,if_pos ⟨_,List.getElem_mem hlt,hm⟩]
   subst h2
   clear HR HM
   generalize l[j]=m at*
   obtain⟨n,x⟩:=m
   simp only[mP]at g1 e1
   simp only at hm hx
   subst hm
   repeat' first|simp(disch:=omega) only[go_sem, *,g1,wrap_i64]|((with_reducible apply ab)<;>intro h<;>try omega)
   all_goals rfl
  ·have HM':Hid (¬oo (l.take (j+1))):=Lib.hid (Ff hlt HM.out hm)
   clear HM
   generalize l[j]=m at*
   obtain⟨n,x⟩:=m
   simp only[mP]at g1 e1
   simp only at hm hx
   have wx:IntKind.wrap .i64 (-x)= -x:=wrap_i64 (by unfold ay at hx;omega)
   generalize uQ (l.take j)=D0 at*
   repeat' first|simp(disch:=omega) only[go_sem, *,g1,wrap_i64,hm,wx]|((with_reducible apply ab)<;>intro h<;>try omega)|(refine aJ rfl (by intro h;cases h) (aB rfl) (by simp;omega) (by simp;omega) ?_)
   exact⟨j+1, [(3,5)],⟨hlt,HM'⟩,by omega,by simp[e1,wx]⟩
 ·obtain rfl:j=l.length:=by omega
  have hM:=HM.out
  rw[List.take_of_length_le (Nat.le_refl _)]at hM
  have h2:R=((-1-K,uQ l),0):=by rw[HR.out,Bv,if_neg hM]
  subst h2
  clear HR HM hM
  rw[List.take_of_length_le (Nat.le_refl _)]
  repeat' first|simp(disch:=omega) only[go_sem, *]|((with_reducible apply ab)<;>intro h<;>try omega)
  all_goals rfl
theorem O2 {c:bt} (hok:bi c.1.2):fp c=if(Bv c.1).2≠0 then([],(Bv c.1).2)else if c.2=false then([((Bv c.1).1,false)],0)else if c.1.1= -9223372036854775808 then([],3)else([((c.1.1-1,c.1.2),false),((Bv c.1).1,false)],0):=by
 unfold fp Bv
 rw[if_neg (not_not_intro hok)]
 by_cases h:oo c.1.2
 ·rw[if_pos h,if_pos h,if_pos (by decide)]
 ·rw[if_neg h,if_neg h]
  simp only[ne_eq,not_true_eq_false,if_false]
  rfl
theorem ke {c:bt} (h64:bX c) (hs:short c.1.2):ac Tryz.prog ir [jM c] (Mp (fp c)):=by
 refine ac.of lG (by simp) λ_=>aa ?_
 conv in iv=>cbv
 have pv:=b8 c
 by_cases hok:bi c.1.2
 ·have po:=jr (f:=c.1) h64 hs
  rw[O2 hok]
  rw[if_pos hok]at pv
  have hK:=h64.1
  generalize Bv c.1=O at*
  obtain⟨⟨OK,OL⟩,oe⟩:=O
  obtain⟨⟨K,l⟩,q⟩:=c
  unfold short at hs
  try simp only at po pv hs hK ⊢
  clear hok h64
  unfold ay at hK
  by_cases h0:oe=0
  ·subst h0
   rw[if_neg (by simp)]
   cases q
   ·rw[if_pos rfl]
    repeat' first|simp(disch:=omega) only[go_sem, *]|((with_reducible apply ab)<;>intro h<;>try omega)|(refine aF pv rfl rfl ?_)|(refine cg po rfl rfl ?_)
    all_goals rfl
   ·rw[if_neg (by simp)]
    by_cases h1:K= -9223372036854775808
    ·rw[if_pos h1]
     subst h1
     repeat' first|simp(disch:=omega) only[go_sem, *]|((with_reducible apply ab)<;>intro h<;>try omega)|(refine aF pv rfl rfl ?_)|(refine cg po rfl rfl ?_)
     all_goals rfl
    ·rw[if_neg h1]
     have wk:IntKind.wrap .i64 (K-1)=K-1:=wrap_i64 (by omega)
     have hro:bl 2 (l.map mP):=av λ_=>rfl
     repeat' first|simp(disch:=omega) only[go_sem, *,h1,wk]|((with_reducible apply ab)<;>intro h<;>try omega)|(with_reducible apply ag)|(with_reducible refine aj (λh=> ?_) ?_)|(refine aF pv rfl rfl ?_)|(refine cg po rfl rfl ?_)|(refine Abs.Fd hro (by simp;omega) (by simp;omega) ?_)
     all_goals rfl
  ·rw[if_pos h0]
   repeat' first|simp(disch:=omega) only[go_sem, *,h0]|((with_reducible apply ab)<;>intro h<;>try omega)|(refine aF pv rfl rfl ?_)|(refine cg po rfl rfl ?_)
   all_goals rfl
 ·rw[if_neg hok]at pv
  rw[fp,if_pos hok]
  obtain⟨⟨K,l⟩,q⟩:=c
  try simp only at pv ⊢
  clear hok
  repeat' first|simp(disch:=omega) only[go_sem, *]|((with_reducible apply ab)<;>intro h<;>try omega)|(refine aF pv rfl rfl ?_)
  all_goals rfl
theorem wU {l:List bt} {c:bt} (h64:bX c) (hs:short c.1.2):ac Tryz.prog o6 [bT l,jM c] (Mp (qS l c)):=by
 refine ac.of zq (by simp) λ_=>aa ?_
 conv in pP=>cbv
 have p1:=CA l
 have p2:=b8 c
 have p3:=ke h64 hs
 unfold qS
 by_cases h1:Vl l
 ·rw[decide_eq_true h1]at p1
  by_cases h2:bi c.1.2
  ·rw[if_pos h2]at p2
   rw[if_neg (by rintro(h|h);exact h h1;exact h h2)]
   clear h1 h2 h64 hs
   obtain⟨⟨K,m⟩,q⟩:=c
   try simp only at p2 p3
   generalize fp ((K,m),q)=X at*
   obtain⟨xs,e⟩:=X
   try simp only at p3
   repeat' first|simp(disch:=omega) only[go_sem, *]|((with_reducible apply ab)<;>intro h<;>try omega)|(refine aF p1 rfl rfl ?_)|(refine aF p2 rfl rfl ?_)|(refine cg p3 rfl rfl ?_)
   all_goals rfl
  ·rw[if_neg h2]at p2
   rw[if_pos (.inr h2)]
   clear h1 h2 h64 hs p3
   obtain⟨⟨K,m⟩,q⟩:=c
   try simp only at p2
   repeat' first|simp(disch:=omega) only[go_sem, *]|((with_reducible apply ab)<;>intro h<;>try omega)|(refine aF p1 rfl rfl ?_)|(refine aF p2 rfl rfl ?_)
   all_goals rfl
 ·rw[decide_eq_false h1]at p1
  rw[if_pos (.inl h1)]
  clear h1 h64 hs p3 p2
  obtain⟨⟨K,m⟩,q⟩:=c
  repeat' first|simp(disch:=omega) only[go_sem, *]|((with_reducible apply ab)<;>intro h<;>try omega)|(refine aF p1 rfl rfl ?_)
  all_goals rfl
theorem SC (B:bc):au Tryz.prog bv [bT []] [(0,B)] 1 (.c (.tsl [])) [(0,B)] 1:=by
 refine au.of dg (by simp) λ_=> ?_
 conv in b9=>cbv
 refine bN (aa ?_)
 repeat' first|simp(disch:=omega) only[go_sem, *]|((with_reducible apply ab)<;>intro h<;>try omega)
 refine bN (bN (aa ?_))
 repeat' first|simp(disch:=omega) only[go_sem, *]|((with_reducible apply ab)<;>intro h<;>try omega)|(with_reducible apply ag)|(with_reducible refine aj (λh=> ?_) ?_)
 ·refine eR (t:=true) rfl (λ_=> ?_) (λe=>by cases e)
  refine bN (aa ?_)
  repeat' first|simp(disch:=omega) only[go_sem, *]|((with_reducible apply ab)<;>intro h<;>try omega)
  refine z8 2 rfl (mj ?_)
  repeat' first|simp(disch:=omega) only[go_sem, *,Bq]|((with_reducible apply ab)<;>intro h<;>try omega)
  all_goals first|rfl|trace_state
 ·refine eR (t:=false) rfl (λe=>by cases e) (λ_=>kU ?_)
  change AW _ _ _ _ _
  refine bN (aa ?_)
  repeat' first|simp(disch:=omega) only[go_sem, *]|((with_reducible apply ab)<;>intro h<;>try omega)|(refine dI (by intro r hr;cases hr) ?_)
  refine mj ?_
  repeat' first|simp(disch:=omega) only[go_sem, *,Bq]|((with_reducible apply ab)<;>intro h<;>try omega)
  all_goals first|rfl|trace_state
theorem Rd (B:bc) (x:bt) (l:List bt) (hl:l.length+1≤1000000000):au Tryz.prog bv [bT (x::l)] [(0,B)] 1 (.c (.ref 1)) [(1,.arr 46 3 ((x::l).map cP)),(0,B)] 2:=by
 refine au.of dg (by simp) λ_=>aa ?_
 conv in b9=>cbv
 have hok:bl 3 ((x::l).map cP):=by
  intro r hr
  obtain⟨y,_,rfl⟩:=List.mem_map.1 hr
  rfl
 repeat' first|simp(disch:=omega) only[go_sem, *]|((with_reducible apply ab)<;>intro h<;>try omega)|(with_reducible apply ag)|(with_reducible refine aj (λh=> ?_) ?_)|(refine dv (by intro r hr;cases hr) hok (by simp) (by simp;omega) (by simp;omega) ?_)
 all_goals first|rfl|(exfalso;have:=h (cP x) List.mem_cons_self;cases this)
set_option maxRecDepth 1000000
theorem Ez {l:List bt} (c:bt) (hl:l.length≤1000000000):ac Tryz.prog xh [bT l,jM c] (bT (l++ [c])):=by
 refine ac.of Hs (by simp) λ_=>aa ?_
 conv in yx=>cbv
 obtain⟨⟨K,m⟩,q⟩:=c
 cases l with
 |nil=>
  repeat' first|simp(disch:=omega) only[go_sem, *]|((with_reducible apply ab)<;>intro h<;>try omega)|(with_reducible apply ag)|(with_reducible refine aj (λh=> ?_) ?_)|(refine ap (SC _) ?_)|(refine dv (by intro r hr;cases hr) (aB rfl) (by simp) (by simp) (by simp) ?_)
  all_goals rfl
 |cons x l=>
  simp only[List.length_cons]at hl
  repeat' first|simp(disch:=omega) only[go_sem, *]|((with_reducible apply ab)<;>intro h<;>try omega)|(with_reducible apply ag)|(with_reducible refine aj (λh=> ?_) ?_)|(refine ap (Rd _ x l (by omega)) ?_)|(refine aJ rfl (by intro h;cases h) (aB rfl) (by simp;omega) (by simp;omega) ?_)
  all_goals simp[cP]
theorem PY {l P:List bt} {fuel:Int} {acc:List Int} {i:Nat} (h:i<P.length):By l fuel (P.drop i) acc=if(kK (l++ [P[i]]) fuel).2.2≠0 then([],false,(kK (l++ [P[i]]) fuel).2.2)else if(kK (l++ [P[i]]) fuel).2.1=false then([],false,0)else By l fuel (P.drop (i+1)) (acc++(kK (l++ [P[i]]) fuel).1):=by
 rw[List.drop_eq_getElem_cons h,By]
theorem Ys {l:List bt} {p:bt}:jo (l++ [p])=jo l+p.1.2.length:=by rw[iV];simp[jo]
theorem oD {l:List bt} {c:bt} {fuel:Int} (h64: ∀d∈l,bX d) (hc:bX c) (hl:l.length≤10000) (ht:jo l+c.1.2.length≤1000000) (hf:ay fuel):
  ac Tryz.prog il [bT l,jM c,I fuel] (Zb (uc l c fuel)):=by
 refine ac.of AS (by simp) λ_=>aa ?_
 conv in qx=>cbv
 have pn:=wU (l:=l) hc (by unfold short;omega)
 have hn64:=VW (l:=l) hc
 have hntot:=λd (hd:d∈(qS l c).1)=>Tz hd
 have hn2:=SQ l c
 unfold uc
 generalize qS l c=X at*
 obtain⟨P,e⟩:=X
 obtain⟨⟨K,m⟩,q⟩:=c
 simp only at pn hn64 hntot hn2 ht ⊢
 by_cases h0:e=0
 ·subst h0
  rw[if_neg (by simp)]
  obtain⟨R,hR⟩: ∃R,R=By l fuel (P.drop 0) []:=⟨_,rfl⟩
  have hR0:By l fuel P []=R:=hR.symm
  rw[hR0]
  have HR:=Lib.hid hR
  clear hR hR0
  repeat' first|simp(disch:=omega) only[go_sem, *]|((with_reducible apply ab)<;>intro h<;>try omega)|(refine cg pn rfl rfl ?_)
  refine dR 11 2 1 rfl (by decide) ?_
  refine an (λs:Nat×List Int=>⟨[(0,bT l),(2,I fuel),(11,.c (.ref 1)),(26,bT P),(27,I P.length),(28,I s.1)], [(1,.arr 2 1 (s.2.map λn=> [pI n]))],2,0⟩)
   (λs=>s.1≤P.length∧s.2.length≤s.1*10001∧Hid (R=By l fuel (P.drop s.1) s.2)) (λs=>P.length-s.1) ⟨(0, []), [],⟨Nat.zero_le _,by simp,HR⟩,by simp⟩ ?_
  clear HR pn
  rintro⟨i,acc⟩ ⟨hi,ha,HR⟩
  simp only at hi ha HR
  refine aa ?_
  by_cases hlt:i<P.length
  ·have g1:=ah (f:=cP) hlt
   have h2:=HR.out
   rw[PY hlt]at h2
   have hp:=hn64 _ (List.getElem_mem hlt)
   have hpt:=hntot _ (List.getElem_mem hlt)
   have pw:=Ez (l:=l) P[i] (by omega)
   have pi:=wP (l:=l++ [P[i]]) (fuel:=fuel) (UC h64 hp) (by rw[Ys];omega) hf
   have hlen:=UE (l:=l++ [P[i]]) (fuel:=fuel) (UC h64 hp)
   rw[List.length_append,List.length_singleton]at hlen
   clear HR hp hpt hn64 hntot
   generalize kK (l++ [P[i]]) fuel=Y at*
   obtain⟨by',ok,e⟩:=Y
   generalize P[i]=p at*
   obtain⟨⟨pk,pl⟩,pq⟩:=p
   simp only[cP]at g1
   simp only at h2 pw pi hlen
   have hok:=av (f:=λn:Int=> [pI n]) (sz:=1) (xs:=by') λ_=>rfl
   by_cases he:e=0
   ·subst he
    rw[if_neg (by simp)]at h2
    cases ok
    ·rw[if_pos rfl]at h2
     subst h2
     clear hok
     repeat' first|simp(disch:=omega) only[go_sem, *,g1,wrap_i64]|((with_reducible apply ab)<;>intro h<;>try omega)|(refine cg pw rfl rfl ?_)|(refine cg pi rfl rfl ?_)
     all_goals rfl
    ·rw[if_neg (by simp)]at h2
     have HR:=Lib.hid h2
     clear h2
     repeat' first|simp(disch:=omega) only[go_sem, *,g1,wrap_i64]|((with_reducible apply ab)<;>intro h<;>try omega)|(refine cg pw rfl rfl ?_)|(refine cg pi rfl rfl ?_)|(refine aJ rfl (by intro h;cases h) hok (by simp;omega) (by simp;omega) ?_)
     exact⟨(i+1,acc++by'), [(1,3)],⟨hlt,by simp;omega,HR⟩,by show _-_<_-_;omega,by simp⟩
   ·rw[if_pos he]at h2
    subst h2
    clear hok
    repeat' first|simp(disch:=omega) only[go_sem, *,g1,he,wrap_i64]|((with_reducible apply ab)<;>intro h<;>try omega)|(refine cg pw rfl rfl ?_)|(refine cg pi rfl rfl ?_)
    all_goals rfl
  ·have h2:=HR.out
   rw[List.drop_eq_nil_of_le (by omega),By]at h2
   subst h2
   clear HR hn64 hntot
   repeat' first|simp(disch:=omega) only[go_sem, *]|((with_reducible apply ab)<;>intro h<;>try omega)
   all_goals rfl
 ·rw[if_pos h0]
  repeat' first|simp(disch:=omega) only[go_sem, *,h0]|((with_reducible apply ab)<;>intro h<;>try omega)|(refine cg pn rfl rfl ?_)
  all_goals rfl
set_option maxRecDepth 1000000
theorem zf (c:bt):ac Tryz.prog qo [jM c] (I (if bi c.1.2 then 0 else 1)):=by
 refine ac.of A5 (by simp) λ_=>aa ?_
 conv in qU=>cbv
 have pv:=d9 c.1.1 c.1.2
 obtain⟨⟨k,l⟩,q⟩:=c
 try simp only at pv ⊢
 by_cases h:bi l
 ·rw[decide_eq_true h]at pv
  rw[if_pos h]
  clear h
  repeat' first|simp(disch:=omega) only[go_sem, *]|((with_reducible apply ab)<;>intro h<;>try omega)|(refine aF pv rfl rfl ?_)
  all_goals rfl
 ·rw[decide_eq_false h]at pv
  rw[if_neg h]
  clear h
  repeat' first|simp(disch:=omega) only[go_sem, *]|((with_reducible apply ab)<;>intro h<;>try omega)|(refine aF pv rfl rfl ?_)
  all_goals rfl
theorem UL {K:Int} (h:ay K):IntKind.wrap .i64 (((BitVec.ofInt 64 (if IntKind.signed .i64=true then-1 else 9223372036854775807)^^^BitVec.ofInt 64 K).toNat:Nat):Int)= -1-K:=by
 have e:BitVec.ofInt 64 (if IntKind.signed .i64=true then(-1)else 9223372036854775807)=BitVec.allOnes 64:=by decide
 rw[e,BitVec.allOnes_xor,BitVec.toNat_not,BitVec.toNat_ofInt,IntKind.wrap_i64]
 unfold ay at h
 have h1:((2^64:Nat):Int)=18446744073709551616:=by decide
 have h2:(2^64:Nat)=18446744073709551616:=by decide
 rw[h1,h2]
 omega
theorem CR {c:bt} (h64:bX c) (hs:short c.1.2):ac Tryz.prog vJ [jM c] (Mp (fp c)):=by
 refine ac.of Ev (by simp) λ_=>aa ?_
 simp only[vA]
 have pv:=zf c
 by_cases hok:bi c.1.2
 ·rw[O2 hok]
  rw[if_pos hok]at pv
  obtain⟨hK,hl⟩:=h64
  obtain⟨⟨K,l⟩,q⟩:=c
  unfold short at hs
  try simp only at pv hs hK hl ⊢
  clear hok
  have wk:=UL hK
  obtain⟨R,hR⟩: ∃R,R=Bv (K,l):=⟨_,rfl⟩
  rw[←hR]
  have HR:=Lib.hid hR
  clear hR
  repeat' first|simp(disch:=omega) only[go_sem, *,wk]|((with_reducible apply ab)<;>intro h<;>try omega)|(refine aF pv rfl rfl ?_)
  refine cQ 1 1 114 2 _ rfl rfl (by decide) ?_
  refine an (λj:Nat=>⟨[(1,.c (.ptr 0 0)),(5,.c (.ptr 1 0)),(6,I j)],
   [(0,.var [.pure (pI K),.pure (aw l),.pure (pB q)]),(1,.var [.pure (pI (-1-K)),.ref 2,.pure (pB false)]),(2,.arr 114 2 ((uQ (l.take j)).map mP))],3,0⟩) (λj=>j≤l.length∧Hid (¬oo (l.take j))) (λj=>l.length-j) ⟨0, [],⟨Nat.zero_le _,Lib.hid (by simp[oo])⟩,by(simp[uQ];exact wk)⟩ ?_
  rintro j ⟨hj,HM⟩
  refine aa ?_
  by_cases hlt:j<l.length
  ·have e1:=J6 hlt
   have g1:=ah (f:=mP) hlt
   have hlen:(uQ (l.take j)).length≤1000000000:=by simp[uQ];omega
   have hx:=hl _ (List.getElem_mem hlt)
   by_cases hm:l[j].2= -9223372036854775808
   ·have h2:R=((0, []),3):=by rw[HR.out,Bv,if_pos ⟨_,List.getElem_mem hlt,hm⟩]
    subst h2
    rw[if_pos (by decide)]
    clear HR HM
    generalize l[j]=m at*
    obtain⟨n,x⟩:=m
    simp only[mP]at g1 e1
    simp only at hm hx
    subst hm
    repeat' first|simp(disch:=omega) only[go_sem, *,g1,wrap_i64]|((with_reducible apply ab)<;>intro h<;>try omega)
    all_goals rfl
   ·have HM':Hid (¬oo (l.take (j+1))):=Lib.hid (Ff hlt HM.out hm)
    clear HM
    generalize l[j]=m at*
    obtain⟨n,x⟩:=m
    simp only[mP]at g1 e1
    simp only at hm hx
    have wx:IntKind.wrap .i64 (-x)= -x:=wrap_i64 (by unfold ay at hx;omega)
    generalize uQ (l.take j)=D0 at*
    repeat' first|simp(disch:=omega) only[go_sem, *,g1,wrap_i64,hm,wx]|((with_reducible apply ab)<;>intro h<;>try omega)|(refine aJ rfl (by intro h;cases h) (aB rfl) (by simp;omega) (by simp;omega) ?_)
    exact⟨j+1, [(2,3)],⟨hlt,HM'⟩,by omega,by simp[e1,wx]⟩
  ·obtain rfl:j=l.length:=by omega
   have hM:=HM.out
   rw[List.take_of_length_le (Nat.le_refl _)]at hM
   have h2:R=((-1-K,uQ l),0):=by rw[HR.out,Bv,if_neg hM]
   subst h2
   rw[if_neg (by simp)]
   clear HR HM hM
   rw[List.take_of_length_le (Nat.le_refl _)]
   cases q
   ·rw[if_pos rfl]
    repeat' first|simp(disch:=omega) only[go_sem, *]|((with_reducible apply ab)<;>intro h<;>try omega)
    all_goals rfl
   ·rw[if_neg (by simp)]
    by_cases h1:K= -9223372036854775808
    ·rw[if_pos h1]
     subst h1
     repeat' first|simp(disch:=omega) only[go_sem, *]|((with_reducible apply ab)<;>intro h<;>try omega)
     all_goals rfl
    ·rw[if_neg h1]
     have wk2:IntKind.wrap .i64 (K-1)=K-1:=wrap_i64 (by unfold ay at hK;omega)
     repeat' first|simp(disch:=omega) only[go_sem, *,h1,wk2]|((with_reducible apply ab)<;>intro h<;>try omega)
     refine cQ 3 1 114 2 _ rfl rfl (by decide) ?_
     refine an (λj:Nat=>⟨[(1,.c (.ptr 0 0)),(5,.c (.ptr 1 0)),(7,.c (.ptr 3 0)),(8,I j)],
      [(0,.var [.pure (pI K),.pure (aw l),.pure (pB true)]),(1,.var [.pure (pI (-1-K)),.ref 2,.pure (pB false)]),(2,.arr 114 2 ((uQ l).map mP)),(3,.var [.pure (pI (K-1)),.ref 4,.pure (pB false)]),(4,.arr 114 2 ((l.take j).map mP))],5,0⟩) (λj=>j≤l.length) (λj=>l.length-j) ⟨0, [],Nat.zero_le _,by simp⟩ ?_
     intro j hj
     refine aa ?_
     by_cases hlt:j<l.length
     ·have g1:=ah (f:=mP) hlt
      have e1:(l.take (j+1)).map mP=(l.take j).map mP++ [mP l[j]]:=by rw[List.take_succ_eq_append_getElem hlt,List.map_append];rfl
      have hlen:(l.take j).length≤1000000000:=by simp;omega
      generalize l[j]=m at*
      obtain⟨n,x⟩:=m
      simp only[mP]at g1 e1
      generalize l.take j=D0 at*
      repeat' first|simp(disch:=omega) only[go_sem, *,g1,wrap_i64]|((with_reducible apply ab)<;>intro h<;>try omega)|(refine aJ rfl (by intro h;cases h) (aB rfl) (by simp;omega) (by simp;omega) ?_)
      exact⟨j+1, [(4,5)],hlt,by omega,by simp[e1]⟩
     ·obtain rfl:j=l.length:=by omega
      rw[List.take_of_length_le (Nat.le_refl _)]
      repeat' first|simp(disch:=omega) only[go_sem, *]|((with_reducible apply ab)<;>intro h<;>try omega)
      all_goals rfl
 ·rw[if_neg hok]at pv
  rw[fp,if_pos hok]
  obtain⟨⟨K,l⟩,q⟩:=c
  try simp only at pv ⊢
  clear hok
  repeat' first|simp(disch:=omega) only[go_sem, *]|((with_reducible apply ab)<;>intro h<;>try omega)|(refine aF pv rfl rfl ?_)
  all_goals rfl
set_option maxRecDepth 1000000
theorem ES (a b:List Int):ac Tryz.prog xD [pG a,pG b] (Go.Abs.B (decide (a=b))):=by
 refine ac.of Fm (by simp) λhb=>aa ?_
 have hba:a.length≤9223372036854775807:=by have:=hb.1;simpa[i5,jS]using this
 clear hb
 conv in xB=>cbv
 by_cases hl:a.length=b.length
 ·have hli:(a.length:Int)=(b.length:Int):=by omega
  obtain⟨R,hR⟩: ∃R,R=decide (a=b):=⟨_,rfl⟩
  rw[←hR]
  have HR:=Lib.hid hR
  clear hR
  have HL:=Lib.hid hl
  clear hl
  repeat' first|simp(disch:=omega) only[go_sem, *,hli]|((with_reducible apply ab)<;>intro h<;>try omega)
  refine an (λk:Nat=>⟨[(0,pG a),(1,pG b),(5,I k)], [],0,0⟩) (λk=>k≤b.length∧Hid (a.take k=b.take k)) (λk=>b.length-k) ⟨0, [],⟨Nat.zero_le _,Lib.hid rfl⟩,by simp⟩ ?_
  rintro k ⟨hk,HT⟩
  refine aa ?_
  have hl:=HL.out
  by_cases hlt:k<b.length
  ·have hlta:k<a.length:=by omega
   have g1:=ah (f:=λn=> [pI n]) hlta
   have g2:=ah (f:=λn=> [pI n]) hlt
   by_cases he:a[k]=b[k]
   ·have HT':Hid (a.take (k+1)=b.take (k+1)):=Lib.hid (by rw[List.take_succ_eq_append_getElem hlta,List.take_succ_eq_append_getElem hlt,HT.out,he])
    rw[he]at g1
    clear HT he hl
    generalize b[k]=x at*
    repeat' first|simp(disch:=omega) only[go_sem, *,hli,g1,g2,wrap_i64]|((with_reducible apply ab)<;>intro h<;>try omega)
    exact⟨k+1, [],⟨hlt,HT'⟩,by omega,by simp⟩
   ·have hR:R=false:=by
     rw[HR.out]
     exact decide_eq_false λh=>he (by subst h;rfl)
    subst hR
    clear HT hl HR HL
    generalize a[k]=x at*
    generalize b[k]=y at*
    repeat' first|simp(disch:=omega) only[go_sem, *,hli,g1,g2,he,wrap_i64]|((with_reducible apply ab)<;>intro h<;>try omega)
    all_goals rfl
  ·have hR:R=true:=by
    rw[HR.out]
    have h:=HT.out
    rw[List.take_of_length_le (by omega),List.take_of_length_le (by omega)]at h
    exact decide_eq_true h
   subst hR
   clear HT HL HR hl
   repeat' first|simp(disch:=omega) only[go_sem, *,hli]|((with_reducible apply ab)<;>intro h<;>try omega)
   all_goals rfl
 ·have e:decide (a=b)=false:=decide_eq_false λh=>hl (by rw[h])
  rw[e]
  have hli: ¬(a.length:Int)=(b.length:Int):=by omega
  repeat' first|simp(disch:=omega) only[go_sem, *,hli]|((with_reducible apply ab)<;>intro h<;>try omega)
  all_goals rfl
def smF (l:List bJ):Prop:=l.length≤40∧ ∀m∈l,m.1.size≤40
instance (l:List bJ):Decidable (smF l):=Classical.propDecidable _
def smL (l:List bt) (n:Int):Prop:=(l.length:Int)≤n∧ ∀c∈l,c.1.2.length≤20∧smF c.1.2
instance (l:List bt) (n:Int):Decidable (smL l n):=Classical.propDecidable _
def acA (l:List bt) (n fuel:Int):Prop:=smL l n∧fuel≤3000
instance (l:List bt) (n fuel:Int):Decidable (acA l n fuel):=Classical.propDecidable _
end
end Go.Proofs.YthbcbaembicdbaaGreatDoor
