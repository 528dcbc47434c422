import Derived.Test.YthbcbaembicdbaaGreatDoorV01a
set_option maxHeartbeats 4000000
set_option linter.unusedVariables false
set_option linter.unusedSimpArgs false
set_option maxRecDepth 1000000
namespace Go.Proofs.YthbcbaembicdbaaGreatDoor
open Go.Abs Go.RowKit
noncomputable section
def xz:List ByteArray:= [⟨⟨[115,105,122,101]⟩⟩,⟨⟨[119,104,101,114,101]⟩⟩,⟨⟨[105,110]⟩⟩,⟨⟨[100,101,102]⟩⟩,⟨⟨[111,117,116]⟩⟩,⟨⟨[115,117,109]⟩⟩,⟨⟨[112,114,111,100]⟩⟩,⟨⟨[109,105,110]⟩⟩,⟨⟨[109,97,120]⟩⟩,⟨⟨[115,99,97,110]⟩⟩,⟨⟨[111,118,101,114]⟩⟩,⟨⟨[105,102]⟩⟩,⟨⟨[99,97,115,116]⟩⟩,⟨⟨[102,114,97,99]⟩⟩,⟨⟨[105,110,116]⟩⟩,⟨⟨[102,105,120]⟩⟩,⟨⟨[99,101,105,108]⟩⟩,⟨⟨[102,108,111,111,114]⟩⟩,⟨⟨[122,101,114,111]⟩⟩,⟨⟨[101,118,101,110]⟩⟩,⟨⟨[115,97,116]⟩⟩,⟨⟨[119,114,97,112]⟩⟩]
theorem En:af Tryz.prog yC [] (om xz):=by
 refine af.of Gj (by simp) λ_=>aa ?_
 conv in zU=>cbv
 repeat' first|simp(disch:=omega) only[go_sem, *]|((with_reducible apply ab)<;>intro h<;>try omega)
 rfl
theorem JM (xs:List ByteArray) (s:ByteArray):af Tryz.prog Ec [om xs,S s] (Go.Abs.B (decide (s∈xs))):=by
 refine af.of KG (by simp) λhb=>aa ?_
 have hx:xs.length≤9223372036854775807:=by simpa[ol,iI,jt]using hb.1
 conv in EH=>cbv
 repeat' first|simp(disch:=omega) only[go_sem, *]|((with_reducible apply ab)<;>intro h<;>try omega)
 refine ap (λk:Nat=>⟨[(5,I k),(0,om xs),(1,S s)], [],0,0⟩) (λk=>k≤xs.length∧ ∀j (h:j<xs.length),j<k→xs[j]≠s) (λk=>xs.length-k) ⟨0, [],⟨by omega,λj h h'=>by omega⟩,by simp⟩ ?_
 rintro k ⟨hk,hall⟩
 refine aa ?_
 by_cases hlt:k<xs.length
 ·repeat' first|simp(disch:=omega) only[go_sem, *,ai hlt,Option.map_some,wrap_i64]|((with_reducible apply ab)<;>intro h<;>try omega)
  ·have:s∈xs:=by subst h;exact List.getElem_mem hlt
   simp[this]
  ·refine⟨k+1, [],⟨by omega,λj hj hj'=> ?_⟩,by omega,by simp⟩
   by_cases e:j=k
   ·subst e;exact h
   ·exact hall j hj (by omega)
 ·repeat' first|simp(disch:=omega) only[go_sem, *]|((with_reducible apply ab)<;>intro h<;>try omega)
  have: ¬s∈xs:= λhm=>by
   obtain⟨j,hj,e⟩:=List.mem_iff_getElem.1 hm
   exact hall j hj (by omega) e
  simp[this]
theorem Ao (s:ByteArray):af Tryz.prog uC [S s] (Go.Abs.B (decide (s∈xz))):=by
 refine af.of CL (by simp) λ_=>aa ?_
 simp only[vB]
 repeat' first|simp(disch:=omega) only[go_sem, *]|((with_reducible apply ab)<;>intro h<;>try omega)
 all_goals simp[xz, *]
set_option maxRecDepth 20000
set_option maxRecDepth 1000000
def wB (i:Nat) (c:UInt8):Prop:=(97≤c.toNat∧c.toNat≤122)∨(0<i∧((48≤c.toNat∧c.toNat≤57)∨c.toNat=95))
instance (i:Nat) (c:UInt8):Decidable (wB i c):=by unfold wB;infer_instance
def gk (s:ByteArray):Prop:=1≤s.size∧s.size≤16∧ ¬s∈xz∧ ∀i (h:i<s.size),wB i s[i]
instance (s:ByteArray):Decidable (gk s):=Classical.propDecidable _
theorem xp (s:ByteArray):af Tryz.prog BO [S s] (Go.Abs.B (decide (gk s))):=by
 refine af.of J0 (by simp) λhb=>aa ?_
 conv in Cb=>cbv
 repeat' first|simp(disch:=omega) only[go_sem, *]|((with_reducible apply ab)<;>intro h<;>try omega)|(refine el En rfl rfl ?_)|(refine aY (JM _ _) rfl rfl ?_)
 ·rw[decide_eq_false];rintro⟨h1,_⟩;omega
 ·rw[decide_eq_false];rintro⟨_,h1,_⟩;omega
 ·rw[decide_eq_false];rintro⟨_,_,h1,_⟩;exact h1 h
 ·refine ap (λk:Nat=>⟨[(3,I k),(0,S s)], [],0,0⟩) (λk=>k≤s.size∧fY (λj=> ∀h:j<s.size,wB j s[j]) k) (λk=>s.size-k) ⟨0, [],⟨by omega,.zero⟩,by simp⟩ ?_
  rintro k ⟨hk,hall⟩
  refine aa ?_
  by_cases hlt:k<s.size
  ·repeat' first|simp(disch:=omega) only[go_sem, *,getElem?_pos s k hlt,wrap_i64]|((with_reducible apply ab)<;>intro h<;>try omega)
   all_goals first
    |(refine⟨k+1, [],⟨by omega,hall.succ λ_=> ?_⟩,by omega,by simp⟩;unfold wB;omega)
    |(rw[decide_eq_false];rintro⟨_,_,_,h4⟩;have:=h4 k hlt;unfold wB at this;omega)
  ·repeat' first|simp(disch:=omega) only[go_sem, *]|((with_reducible apply ab)<;>intro h<;>try omega)
   rw[decide_eq_true]
   exact⟨by omega,by omega,‹_›,λi hi=>hall i (by omega) hi⟩
theorem iJ (s:ByteArray):af Tryz.prog rb [S s] (Go.Abs.B (decide (gk s))):=by
 refine af.of yP (by simp) λhb=>aa ?_
 simp only[qh]
 by_cases h0:s.size<1
 ·repeat' first|simp(disch:=omega) only[go_sem, *]|((with_reducible apply ab)<;>intro h<;>try omega)
  rw[decide_eq_false];rintro⟨h1,_⟩;omega
 have hpos:0<s.size:=by omega
 repeat' first|simp(disch:=omega) only[go_sem, *,getElem?_pos s 0 hpos,Int.toNat_zero]|((with_reducible apply ab)<;>intro h<;>try omega)|(refine aY (Ao _) rfl rfl ?_)
 ·rw[decide_eq_false];rintro⟨_,h1,_⟩;omega
 ·rw[decide_eq_false];rintro⟨_,_,h1,_⟩;exact h1 h
 ·rw[decide_eq_false];rintro⟨_,_,_,h4⟩;have:=h4 0 hpos;unfold wB at this;omega
 ·rw[decide_eq_false];rintro⟨_,_,_,h4⟩;have:=h4 0 hpos;unfold wB at this;omega
 ·refine ap (λk:Nat=>⟨[(29,I k),(28,I s.size),(0,S s)], [],0,0⟩) (λk=>k≤s.size∧fY (λj=> ∀h:j<s.size,wB (j+1) s[j]) k) (λk=>s.size-k) ⟨0, [],⟨by omega,.zero⟩,by simp⟩ ?_
  rintro k ⟨hk,hall⟩
  refine aa ?_
  by_cases hlt:k<s.size
  ·repeat' first|simp(disch:=omega) only[go_sem, *,getElem?_pos s k hlt,wrap_i64]|((with_reducible apply ab)<;>intro h<;>try omega)
   all_goals first
    |(refine⟨k+1, [],⟨by omega,hall.succ λ_=> ?_⟩,by omega,by simp⟩;unfold wB;omega)
    |(rw[decide_eq_false];rintro⟨_,_,_,h4⟩;have:=h4 k hlt;unfold wB at this;omega)
  ·repeat' first|simp(disch:=omega) only[go_sem, *]|((with_reducible apply ab)<;>intro h<;>try omega)
   rw[decide_eq_true]
   refine⟨by omega,by omega,‹_›,λi hi=> ?_⟩
   have h5:=hall i (by omega) hi
   by_cases e:i=0
   ·subst e;unfold wB;omega
   ·unfold wB at h5 ⊢;omega
abbrev aD:=ByteArray×Int
def mP (m:aD):List PC:= [pS m.1,pI m.2]
abbrev aw (l:List aD):PC:=dg mP l
abbrev bU:=Int×List aD
abbrev aR:=bU×Bool
abbrev dR (k:Int) (l:List aD):AV:= .agg [.pure (pI k),.pure (aw l)]
def eW (a b:ByteArray):Bool:=Op.bytesLess a.toList b.toList
def Nd (l:List aD) (i:Nat):Prop:= ∀h:i<l.length,gk l[i].1∧l[i].2≠0∧(0<i→eW l[i-1].1 l[i].1=true)
def bn (l:List aD):Prop:=fY (Nd l) l.length
instance (l:List aD):Decidable (bn l):=Classical.propDecidable _
theorem vT {k:Int} {l:List aD} (h:iI (dR k l)):l.length≤9223372036854775807:=by simpa[iI,sR,jt]using h
set_option maxRecDepth 20000 in
theorem Pg (c:Int) (l:List aD):af Tryz.prog sP [dR c l] (Go.Abs.B (decide (bn l))):=by
 refine af.of Ac (by simp) λhb=>aa ?_
 have hl:=vT hb.1
 simp only[sF]
 repeat' first|simp(disch:=omega) only[go_sem, *]|((with_reducible apply ab)<;>intro h<;>try omega)
 refine ap (λk:Nat=>⟨[(3,I k),(1,.c (.ptr 0 0))], [(0,.var [.pure (pI c),.pure (aw l)])],1,0⟩) (λk=>k≤l.length∧fY (Nd l) k) (λk=>l.length-k) ⟨0, [],⟨by omega,.zero⟩,by simp⟩ ?_
 rintro k ⟨hk,hall⟩
 refine aa ?_
 by_cases hlt:k<l.length
 ·by_cases h0:0<k
  ·have hl1:k-1<l.length:=by omega
   have e1:((k:Int)-1).toNat=k-1:=by omega
   repeat' first|simp(disch:=omega) only[go_sem, *,List.drop_succ_cons,List.drop_zero,ai hlt,ai hl1,mP,wrap_i64,e1]|((with_reducible apply ab)<;>intro h<;>try omega)|(refine aY (xp _) rfl rfl ?_)
   ·rw[decide_eq_false]
    intro hc
    exact(hc k hlt hlt).2.1 h
   ·refine⟨k+1, [],⟨by omega,hall.succ λ_=>⟨‹_›,‹_›,λ_=>h⟩⟩,by omega,by simp⟩
   ·rw[decide_eq_false]
    intro hc
    have:=(hc k hlt hlt).2.2 h0
    rw[eW,h]at this
    cases this
   ·rw[decide_eq_false]
    intro hc
    exact h (hc k hlt hlt).1
  ·repeat' first|simp(disch:=omega) only[go_sem, *,List.drop_succ_cons,List.drop_zero,ai hlt,mP,wrap_i64]|((with_reducible apply ab)<;>intro h<;>try omega)|(refine aY (xp _) rfl rfl ?_)
   ·rw[decide_eq_false]
    intro hc
    exact(hc k hlt hlt).2.1 h
   ·refine⟨k+1, [],⟨by omega,hall.succ λ_=>⟨‹_›,‹_›,λ_=>by omega⟩⟩,by omega,by simp⟩
   ·rw[decide_eq_false]
    intro hc
    exact h (hc k hlt hlt).1
 ·repeat' first|simp(disch:=omega) only[go_sem, *,List.drop_succ_cons,List.drop_zero]|((with_reducible apply ab)<;>intro h<;>try omega)
  rw[decide_eq_true]
  have:k=l.length:=by omega
  rw[this]at hall
  exact hall
set_option maxRecDepth 20000 in
theorem bG (c:Int) (l:List aD):af Tryz.prog uk [dR c l] (I (if bn l then 0 else 1)):=by
 refine af.of Cq (by simp) λhb=>aa ?_
 have hl:=vT hb.1
 simp only[vt]
 repeat' first|simp(disch:=omega) only[go_sem, *,List.drop_succ_cons,List.drop_zero]|((with_reducible apply ab)<;>intro h<;>try omega)
 refine ap (λk:Nat=>⟨[(8,I k),(7,I l.length),(6,.c (.pure (aw l))),(1,.c (.ptr 0 0))], [(0,.var [.pure (pI c),.pure (aw l)])],1,0⟩) (λk=>k≤l.length∧fY (Nd l) k) (λk=>l.length-k) ⟨0, [],⟨by omega,.zero⟩,by simp⟩ ?_
 rintro k ⟨hk,hall⟩
 refine aa ?_
 by_cases hlt:k<l.length
 ·by_cases h0:0<k
  ·have hl1:k-1<l.length:=by omega
   have e1:((k:Int)-1).toNat=k-1:=by omega
   repeat' first|simp(disch:=omega) only[go_sem, *,List.drop_succ_cons,List.drop_zero,List.take_succ_cons,List.take_zero,ai hlt,ai hl1,mP,wrap_i64,e1]|((with_reducible apply ab)<;>intro h<;>try omega)|(refine aY (iJ _) rfl rfl ?_)
   ·rw[if_neg λhc=>(hc k hlt hlt).2.1 h]
   ·refine⟨k+1, [],⟨by omega,hall.succ λ_=>⟨‹_›,‹_›,λ_=>h⟩⟩,by omega,by simp⟩
   ·rw[if_neg λhc=> ?_]
    have:=(hc k hlt hlt).2.2 h0
    rw[eW,h]at this
    cases this
   ·rw[if_neg λhc=>h (hc k hlt hlt).1]
  ·repeat' first|simp(disch:=omega) only[go_sem, *,ai hlt,mP,wrap_i64]|((with_reducible apply ab)<;>intro h<;>try omega)|(refine aY (iJ _) rfl rfl ?_)
   ·rw[if_neg λhc=>(hc k hlt hlt).2.1 h]
   ·refine⟨k+1, [],⟨by omega,hall.succ λ_=>⟨‹_›,‹_›,λ_=>by omega⟩⟩,by omega,by simp⟩
   ·rw[if_neg λhc=>h (hc k hlt hlt).1]
 ·repeat' first|simp(disch:=omega) only[go_sem, *]|((with_reducible apply ab)<;>intro h<;>try omega)
  rw[if_pos]
  have:k=l.length:=by omega
  rw[this]at hall
  exact hall
set_option maxRecDepth 20000
theorem nJ {e sz bytes:Nat} {y:AV} {rows ys:List (List PC)} {σ:St} {K:nV (AV→St→Prop)} (h0:bC sz rows) (hok:bC sz ys) (h1:(rows.length+ys.length)*bytes≤140737488355328) (h2:rows.length+ys.length≤140737488355328)
  (hk:K.out (.c (.pure (.slice (rows++ys)))) σ): @Fy e sz bytes (.c (.tsl rows)) y ys σ K:=⟨hok,.inr (.inr ⟨rows,rfl,h0,.inr (.inl ⟨h1,h2,hk⟩)⟩)⟩
theorem gj {e sz bytes:Nat} {y:AV} {rows:List (List PC)} {σ:St} {K:nV (AV→St→Prop)} (h0:bC sz rows) (hk:K.out (.c (.tsl rows)) σ): @Fy e sz bytes (.c (.tsl rows)) y [] σ K:=⟨(by intro r hr;cases hr),.inr (.inr ⟨rows,rfl,h0,.inr (.inr ⟨rfl,hk⟩)⟩)⟩
theorem iD {e sz bytes:Nat} {y:AV} {rows ys:List (List PC)} {σ:St} {K:nV (AV→St→Prop)} (h0:bC sz rows) (hok:bC sz ys) (hne:ys≠ []) (h1:(rows.length+ys.length)*bytes≤140737488355328) (h2:rows.length+ys.length≤140737488355328)
  (hk:K.out (.c (.ref σ.nx)) {σ with mem:=(σ.nx,.arr e sz (rows++ys))::σ.mem,nx:=σ.nx+1}): @Fy e sz bytes (.c (.tsl rows)) y ys σ K:=⟨hok,.inr (.inr ⟨rows,rfl,h0,.inl ⟨hne,h1,h2,hk⟩⟩)⟩
def cP (c:aR):List PC:= [pI c.1.1,aw c.1.2,pB c.2]
abbrev iG (c:aR):AV:= .agg [.pure (pI c.1.1),.pure (aw c.1.2),.pure (pB c.2)]
abbrev abo (x:aR×Int):AV:= .tup [iG x.1,I x.2]
abbrev bR (l:List aR):AV:=gG cP l
theorem bP (c:aR):af Tryz.prog ke [iG c] (I (if bn c.1.2 then 0 else 1)):=by
 refine af.of rS (by simp) λ_=>aa ?_
 simp only[kf]
 repeat' first|simp(disch:=omega) only[go_sem, *]|((with_reducible apply ab)<;>intro h<;>try omega)|(refine aY (bG _ _) rfl rfl ?_)
set_option maxRecDepth 1000000
abbrev Ty:=Int×Int×Int×Int×Int
abbrev tyP (t:Ty):List PC:= [pI t.1,pI t.2.1,pI t.2.2.1,pI t.2.2.2.1,pI t.2.2.2.2]
abbrev Z0 (t:Ty):AV:= .agg [.pure (pI t.1),.pure (pI t.2.1),.pure (pI t.2.2.1),.pure (pI t.2.2.2.1),.pure (pI t.2.2.2.2)]
def zI (b f r o:Int):Prop:=2≤b∧b≤31∧0≤f∧f≤30∧1≤r∧r≤4∧(o=1∨o=2)
def uz (t:Ty):Prop:=((t.1=1∨t.1=3)∧t.2.1=0∧t.2.2.1=0∧t.2.2.2.1=0∧t.2.2.2.2=0)∨(t.1=2∧zI t.2.1 t.2.2.1 t.2.2.2.1 t.2.2.2.2)
instance (b f r o:Int):Decidable (zI b f r o):=by unfold zI;infer_instance
instance (t:Ty):Decidable (uz t):=Classical.propDecidable _
def jH (b:Int):Int:=2^(b-1).toNat
def qV (t:Ty) (a:Fr):Prop:=if t.1=2 then a.2=1∧ -jH t.2.1≤a.1∧a.1<jH t.2.1 else if t.1=3 then a.2=1∧ -2147483647≤a.1∧a.1≤2147483647 else dO a
instance (t:Ty) (a:Fr):Decidable (qV t a):=Classical.propDecidable _
theorem OS {b:Int} (h1:2≤b) (h2:b≤31):1≤jH b∧jH b≤1073741824:=by
 obtain⟨n,rfl⟩: ∃n:Nat,b=n:=⟨b.toNat,by omega⟩
 have h3:n≤31:=by omega
 have h4:2≤n:=by omega
 clear h1 h2
 have key: ∀m:Fin 32,2≤m.val→(1:Int)≤jH (m.val:Int)∧jH (m.val:Int)≤1073741824:=by decide+kernel
 exact key ⟨n,by omega⟩ h4
theorem PE {b:Int} (h1:2≤b) (h2:b≤31):(2:Int)^(min (b-1).toNat 64)=jH b:=by
 rw[jH,Nat.min_eq_left (by omega)]
theorem DP (t:Ty):af Tryz.prog w6 [Z0 t] (Go.Abs.B (decide (t.2.1=0∧t.2.2.1=0∧t.2.2.2.1=0∧t.2.2.2.2=0))):=by
 refine af.of El (by simp) λ_=>aa ?_
 simp only[wH]
 repeat' first|simp(disch:=omega) only[go_sem, *]|((with_reducible apply ab)<;>intro h<;>try omega)
 refine congrArg (λb=>Go.Abs.B b) ?_
 rw[Bool.eq_iff_iff]
 simp[re]
theorem j0 (t:Ty):af Tryz.prog kR [Z0 t] (I (if t.1=2∧zI t.2.1 t.2.2.1 t.2.2.2.1 t.2.2.2.2 then 0 else 10)):=by
 refine af.of tj (by simp) λ_=>aa ?_
 simp only[lT]
 obtain⟨k,b,f,r,o⟩:=t
 simp only
 repeat' first|simp(disch:=omega) only[go_sem, *]|((with_reducible apply ab)<;>intro h<;>try omega)
 all_goals first
  |(rw[if_neg];unfold zI;omega)
  |(rw[if_pos];unfold zI;omega)
  |(simp;done)
theorem ee (t:Ty):af Tryz.prog lu [Z0 t] (I (if uz t then 0 else 10)):=by
 refine af.of ta (by simp) λ_=>aa ?_
 have p1:=DP t
 have p2:=j0 t
 obtain⟨k,b,f,r,o⟩:=t
 simp only at p1 p2
 simp only[lS]
 by_cases g1:b=0∧f=0∧r=0∧o=0
 ·rw[decide_eq_true g1]at p1
  by_cases g2:k=2∧zI b f r o
  ·exfalso;have:=g2.2.1;omega
  ·rw[if_neg g2]at p2
   by_cases g3:k=1∨k=3
   ·rw[if_pos (show uz (k,b,f,r,o)from .inl ⟨g3,g1⟩)]
    clear g1 g2
    rcases g3 with rfl|rfl
    ·repeat' first|simp(disch:=omega) only[go_sem, *]|((with_reducible apply ab)<;>intro h<;>try omega)|(refine aY p1 rfl rfl ?_)|(refine aY p2 rfl rfl ?_)
    ·repeat' first|simp(disch:=omega) only[go_sem, *]|((with_reducible apply ab)<;>intro h<;>try omega)|(refine aY p1 rfl rfl ?_)|(refine aY p2 rfl rfl ?_)
   ·rw[if_neg (show ¬uz (k,b,f,r,o)from λh=>h.elim (λh=>g3 h.1) g2)]
    clear g1 g2
    by_cases hk:k=2
    ·subst hk
     repeat' first|simp(disch:=omega) only[go_sem, *]|((with_reducible apply ab)<;>intro h<;>try omega)|(refine aY p1 rfl rfl ?_)|(refine aY p2 rfl rfl ?_)
    ·repeat' first|simp(disch:=omega) only[go_sem, *,hk]|((with_reducible apply ab)<;>intro h<;>try omega)|(refine aY p1 rfl rfl ?_)|(refine aY p2 rfl rfl ?_)
 ·rw[decide_eq_false g1]at p1
  by_cases g2:k=2∧zI b f r o
  ·rw[if_pos g2]at p2
   rw[if_pos (show uz (k,b,f,r,o)from .inr g2)]
   obtain⟨rfl,_⟩:=g2
   clear g1
   repeat' first|simp(disch:=omega) only[go_sem, *]|((with_reducible apply ab)<;>intro h<;>try omega)|(refine aY p1 rfl rfl ?_)|(refine aY p2 rfl rfl ?_)
  ·rw[if_neg g2]at p2
   rw[if_neg (show ¬uz (k,b,f,r,o)from λh=>h.elim (λh=>g1 h.2) g2)]
   clear g1 g2
   by_cases hk:k=2
   ·subst hk
    repeat' first|simp(disch:=omega) only[go_sem, *]|((with_reducible apply ab)<;>intro h<;>try omega)|(refine aY p1 rfl rfl ?_)|(refine aY p2 rfl rfl ?_)
   ·by_cases h1:k=1
    ·subst h1
     repeat' first|simp(disch:=omega) only[go_sem, *]|((with_reducible apply ab)<;>intro h<;>try omega)|(refine aY p1 rfl rfl ?_)|(refine aY p2 rfl rfl ?_)
    ·by_cases h3:k=3
     ·subst h3
      repeat' first|simp(disch:=omega) only[go_sem, *]|((with_reducible apply ab)<;>intro h<;>try omega)|(refine aY p1 rfl rfl ?_)|(refine aY p2 rfl rfl ?_)
     ·repeat' first|simp(disch:=omega) only[go_sem, *,hk,h1,h3]|((with_reducible apply ab)<;>intro h<;>try omega)|(refine aY p1 rfl rfl ?_)|(refine aY p2 rfl rfl ?_)
theorem tT {b:Int} (h1:2≤b) (h2:b≤31):af Tryz.prog wZ [I b] (Go.Abs.B true):=by
 refine af.of Dq (by simp) λ_=>aa ?_
 simp only[wX]
 repeat' first|simp(disch:=omega) only[go_sem, *]|((with_reducible apply ab)<;>intro h<;>try omega)
theorem C5 {b:Int} (h1:2≤b) (h2:b≤31):af Tryz.prog tY [I b] (I (-jH b)):=by
 refine af.of CV (by simp) λ_=>aa ?_
 have h3:=OS h1 h2
 have h4:=PE h1 h2
 have hu:IntKind.wrap .u64 (b-1)=b-1:=by rw[IntKind.wrap_u64];omega
 have hm1:IntKind.wrap .i64 (b-1)=b-1:=wrap_i64 (by omega)
 have v1:IntKind.wrap .i64 (jH b)=jH b:=wrap_i64 (by omega)
 have v2:IntKind.wrap .i64 (0-jH b)= -jH b:=by rw[Int.zero_sub];exact wrap_i64 (by omega)
 have v3:IntKind.wrap .i64 (jH b-1)=jH b-1:=wrap_i64 (by omega)
 simp only[tG]
 repeat' first|simp(disch:=omega) only[go_sem, *,hm1,hu,h4,Int.one_mul,v1,v2,v3]|((with_reducible apply ab)<;>intro h<;>try omega)|(refine aY (tT h1 h2) rfl rfl ?_)
theorem Cz {b:Int} (h1:2≤b) (h2:b≤31):af Tryz.prog ve [I b] (I (jH b-1)):=by
 refine af.of CD (by simp) λ_=>aa ?_
 have h3:=OS h1 h2
 have h4:=PE h1 h2
 have hu:IntKind.wrap .u64 (b-1)=b-1:=by rw[IntKind.wrap_u64];omega
 have hm1:IntKind.wrap .i64 (b-1)=b-1:=wrap_i64 (by omega)
 have v1:IntKind.wrap .i64 (jH b)=jH b:=wrap_i64 (by omega)
 have v2:IntKind.wrap .i64 (0-jH b)= -jH b:=by rw[Int.zero_sub];exact wrap_i64 (by omega)
 have v3:IntKind.wrap .i64 (jH b-1)=jH b-1:=wrap_i64 (by omega)
 simp only[vl]
 repeat' first|simp(disch:=omega) only[go_sem, *,hm1,hu,h4,Int.one_mul,v1,v2,v3]|((with_reducible apply ab)<;>intro h<;>try omega)|(refine aY (tT h1 h2) rfl rfl ?_)
theorem DV {t:Ty} {a:Fr} (h0:t.1=2) (ht:zI t.2.1 t.2.2.1 t.2.2.2.1 t.2.2.2.2):af Tryz.prog pN [Z0 t,aFr a] (Go.Abs.B (decide (a.2=1∧ -jH t.2.1≤a.1∧a.1<jH t.2.1))):=by
 refine af.of Fb (by simp) λ_=>aa ?_
 have p1:=j0 t
 rw[if_pos ⟨h0,ht⟩]at p1
 have p2:=C5 ht.1 ht.2.1
 have p3:=Cz ht.1 ht.2.1
 obtain⟨k,b,f,r,o⟩:=t
 obtain⟨n,d⟩:=a
 simp only at h0 p1 p2 p3 ⊢
 clear ht
 conv in xm=>cbv
 by_cases h:d=1∧ -jH b≤n∧n<jH b
 ·rw[decide_eq_true h]
  obtain⟨rfl,g1,g2⟩:=h
  have g3:n≤jH b-1:=by omega
  clear g2
  repeat' first|simp(disch:=omega) only[go_sem]|((with_reducible refine ab ?_ ?_)<;>intro h<;>try first|omega|simp(disch:=omega) only[go_sem, *])|(refine aY p1 rfl rfl ?_)|(refine aY p2 rfl rfl ?_)|(refine aY p3 rfl rfl ?_)
  all_goals(simp[*];done)
 ·rw[decide_eq_false h]
  have H:=Lib.hid h
  clear h
  repeat' first|simp(disch:=omega) only[go_sem]|((with_reducible refine ab ?_ ?_)<;>intro h<;>try first|omega|simp(disch:=omega) only[go_sem, *])|(refine aY p1 rfl rfl ?_)|(refine aY p2 rfl rfl ?_)|(refine aY p3 rfl rfl ?_)
  all_goals(refine congrArg (λb=>Go.Abs.B b) ?_;rw[decide_eq_false];have:=H.out;omega)
theorem EU (n:Int):af Tryz.prog wK [I n] (Go.Abs.B (decide (-2147483647≤n∧n≤2147483647))):=by
 refine af.of F4 (by simp) λ_=>aa ?_
 simp only[xh]
 repeat' first|simp(disch:=omega) only[go_sem, *]|((with_reducible apply ab)<;>intro h<;>try omega)
 all_goals(simp<;>omega)
theorem F6 {t:Ty} {a:Fr} (ht:uz t) (ha:GC a):af Tryz.prog wV [Z0 t,aFr a] (Go.Abs.B (decide (qV t a))):=by
 refine af.of EW (by simp) λ_=>aa ?_
 have p1:=ee t
 rw[if_pos ht]at p1
 have p2:=F1 ha
 have p3:=EU a.1
 have p4:t.1=2→af Tryz.prog pN [Z0 t,aFr a] (Go.Abs.B (decide (qV t a))):= λh=>by
  have:=DV (a:=a) h (ht.elim (λh'=>by omega) λh'=>h'.2)
  rwa [show decide (a.2=1∧ -jH t.2.1≤a.1∧a.1<jH t.2.1)=decide (qV t a)from decide_eq_decide.2 (by unfold qV;rw[if_pos h])]at this
 have hk:t.1=1∨t.1=2∨t.1=3:=by rcases ht with⟨h,_⟩|⟨h,_⟩<;>omega
 obtain⟨k,b,f,r,o⟩:=t
 clear ht
 simp only[xa]
 simp only at hk
 rcases hk with rfl|rfl|rfl
 ·rw[show decide (qV (1,b,f,r,o) a)=decide (dO a)from decide_eq_decide.2 (by unfold qV;simp)]
  repeat' first|simp(disch:=omega) only[go_sem, *]|((with_reducible apply ab)<;>intro h<;>try omega)|(refine aY p1 rfl rfl ?_)|(refine aY p2 rfl rfl ?_)
 ·have p4:=p4 rfl
  repeat' first|simp(disch:=omega) only[go_sem, *]|((with_reducible apply ab)<;>intro h<;>try omega)|(refine aY p1 rfl rfl ?_)|(refine aY p4 rfl rfl ?_)
 ·obtain⟨n,d⟩:=a
  simp only at p3
  rw[show decide (qV (3,b,f,r,o) (n,d))=decide (d=1∧ -2147483647≤n∧n≤2147483647)from decide_eq_decide.2 (by unfold qV;simp)]
  clear p4 p2
  by_cases h:d=1
  ·subst h
   repeat' first|simp(disch:=omega) only[go_sem, *]|((with_reducible apply ab)<;>intro h<;>try omega)|(refine aY p1 rfl rfl ?_)|(refine aY p3 rfl rfl ?_)
   all_goals simp
  ·repeat' first|simp(disch:=omega) only[go_sem, *,h]|((with_reducible apply ab)<;>intro h<;>try omega)|(refine aY p1 rfl rfl ?_)|(refine aY p3 rfl rfl ?_)
   all_goals simp[h]
end
end Go.Proofs.YthbcbaembicdbaaGreatDoor
