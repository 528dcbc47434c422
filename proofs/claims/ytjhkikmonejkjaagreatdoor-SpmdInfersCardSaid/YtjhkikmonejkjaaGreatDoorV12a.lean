import Derived.Test.YtjhkikmonejkjaaGreatDoorV01b
set_option linter.unusedVariables false
set_option linter.unusedSimpArgs false
set_option maxRecDepth 20000
open Go.Proofs.Tryz renaming prog→Ya
namespace Go.Proofs.YtjhkikmonejkjaaGreatDoor
open Go.Abs Go.RowKit
noncomputable section
def vz:List ByteArray:= [⟨⟨[115,105,122,101]⟩⟩,⟨⟨[119,104,101,114,101]⟩⟩,⟨⟨[105,110]⟩⟩,⟨⟨[100,101,102]⟩⟩,⟨⟨[111,117,116]⟩⟩,⟨⟨[115,117,109]⟩⟩,⟨⟨[112,114,111,100]⟩⟩,⟨⟨[109,105,110]⟩⟩,⟨⟨[109,97,120]⟩⟩,⟨⟨[115,99,97,110]⟩⟩,⟨⟨[111,118,101,114]⟩⟩,⟨⟨[105,102]⟩⟩,⟨⟨[99,97,115,116]⟩⟩,⟨⟨[102,114,97,99]⟩⟩,⟨⟨[105,110,116]⟩⟩,⟨⟨[102,105,120]⟩⟩,⟨⟨[99,101,105,108]⟩⟩,⟨⟨[102,108,111,111,114]⟩⟩,⟨⟨[122,101,114,111]⟩⟩,⟨⟨[101,118,101,110]⟩⟩,⟨⟨[115,97,116]⟩⟩,⟨⟨[119,114,97,112]⟩⟩]
theorem Do:af Ya xC [] (iA vz):=by
 refine af.of EV (by simp) λ_=>aa ?_
 simp only[wX]
 repeat' first|simp(disch:=omega)only[go_sem, *]|apply ab<;>intro h<;>try omega
 rfl
theorem k9 (xs:List ByteArray) (s:ByteArray):af Ya Di [iA xs,S s] (Go.Abs.B (decide (s∈xs))):=by
 refine af.of Jj (by simp) λhb=>aa ?_
 have hx:xs.length≤9223372036854775807:=by simpa[fL,eW,ft]using hb.1
 simp only[Ef]
 repeat' first|simp(disch:=omega)only[go_sem, *]|apply ab<;>intro h<;>try omega
 refine ai (λk:Nat=>⟨[(5,I k),(0,iA xs),(1,S s)], [],0,0⟩) (λk=>k≤xs.length∧ ∀j (h:j<xs.length),j<k→xs[j]≠s) (λk=>xs.length-k) ⟨0, [],⟨by omega,λj h h'=>by omega⟩,by simp⟩ ?_
 rintro k ⟨hk,q⟩
 refine aa ?_
 by_cases p:k<xs.length
 ·repeat' first|simp(disch:=omega)only[go_sem, *,ac p,Option.map_some,wrap_i64]|apply ab<;>intro h<;>try omega
  ·have:s∈xs:=by subst h;exact List.getElem_mem p
   simp[this]
  ·refine⟨k+1, [],⟨by omega,λj hj M=> ?_⟩,by omega,by simp⟩
   by_cases e:j=k
   ·subst e;exact h
   ·exact q j hj (by omega)
 ·repeat' first|simp(disch:=omega)only[go_sem, *]|apply ab<;>intro h<;>try omega
  have: ¬s∈xs:= λhm=>by
   obtain⟨j,hj,e⟩:=List.mem_iff_getElem.1 hm
   exact q j hj (by omega) e
  simp[this]
theorem z1 (s:ByteArray):af Ya rK [S s] (Go.Abs.B (decide (s∈vz))):=by
 refine af.of A9 (by simp) λ_=>aa ?_
 simp only[rI]
 repeat' first|simp(disch:=omega)only[go_sem, *]|apply ab<;>intro h<;>try omega
 all_goals simp[vz, *]
def uc (i:Nat) (c:UInt8):Prop:=(97≤c.toNat∧c.toNat≤122)∨(0<i∧((48≤c.toNat∧c.toNat≤57)∨c.toNat=95))
instance (i:Nat) (c:UInt8):Decidable (uc i c):=by unfold uc;infer_instance
def eI (s:ByteArray):Prop:=1≤s.size∧s.size≤16∧ ¬s∈vz∧ ∀i (h:i<s.size),uc i s[i]
instance (s:ByteArray):Decidable (eI s):=Classical.propDecidable _
theorem gw (s:ByteArray):af Ya Ab [S s] (Go.Abs.B (decide (eI s))):=by
 refine af.of Ij (by simp) λhb=>aa ?_
 simp only[Ar]
 repeat' first|simp(disch:=omega)only[go_sem, *]|apply ab<;>intro h<;>try omega|refine o5 Do rfl rfl ?_|refine av (k9 _ _) rfl rfl ?_
 ·rw[decide_eq_false];rintro⟨h1,_⟩;omega
 ·rw[decide_eq_false];rintro⟨_,h1,_⟩;omega
 ·rw[decide_eq_false];rintro⟨_,_,h1,_⟩;exact h1 h
 ·refine ai (λk:Nat=>⟨[(3,I k),(0,S s)], [],0,0⟩) (λk=>k≤s.size∧bI (λj=> ∀h:j<s.size,uc j s[j]) k) (λk=>s.size-k) ⟨0, [],⟨by omega,.zero⟩,by simp⟩ ?_
  rintro k ⟨hk,q⟩
  refine aa ?_
  by_cases p:k<s.size
  ·repeat' first|simp(disch:=omega)only[go_sem, *,getElem?_pos s k p,wrap_i64]|apply ab<;>intro h<;>try omega
   all_goals first
    |(refine⟨k+1, [],⟨by omega,q.succ λ_=> ?_⟩,by omega,by simp⟩;unfold uc;omega)
    |(rw[decide_eq_false];rintro⟨_,_,_,h4⟩;have:=h4 k p;unfold uc at this;omega)
  ·repeat' first|simp(disch:=omega)only[go_sem, *]|apply ab<;>intro h<;>try omega
   rw[decide_eq_true]
   exact⟨by omega,by omega,‹_›,λi hi=>q i (by omega) hi⟩
theorem mi (s:ByteArray):af Ya oQ [S s] (Go.Abs.B (decide (eI s))):=by
 refine af.of wV (by simp) λhb=>aa ?_
 simp only[oO]
 by_cases h0:s.size<1
 ·repeat' first|simp(disch:=omega)only[go_sem, *]|apply ab<;>intro h<;>try omega
  rw[decide_eq_false];rintro⟨h1,_⟩;omega
 have w:0<s.size:=by omega
 repeat' first|simp(disch:=omega)only[go_sem, *,getElem?_pos s 0 w,Int.toNat_zero]|apply ab<;>intro h<;>try omega|refine av (z1 _) rfl rfl ?_
 ·rw[decide_eq_false];rintro⟨_,h1,_⟩;omega
 ·rw[decide_eq_false];rintro⟨_,_,h1,_⟩;exact h1 h
 ·rw[decide_eq_false];rintro⟨_,_,_,h4⟩;have:=h4 0 w;unfold uc at this;omega
 ·rw[decide_eq_false];rintro⟨_,_,_,h4⟩;have:=h4 0 w;unfold uc at this;omega
 ·refine ai (λk:Nat=>⟨[(29,I k),(28,I s.size),(0,S s)], [],0,0⟩) (λk=>k≤s.size∧bI (λj=> ∀h:j<s.size,uc (j+1) s[j]) k) (λk=>s.size-k) ⟨0, [],⟨by omega,.zero⟩,by simp⟩ ?_
  rintro k ⟨hk,q⟩
  refine aa ?_
  by_cases p:k<s.size
  ·repeat' first|simp(disch:=omega)only[go_sem, *,getElem?_pos s k p,wrap_i64]|apply ab<;>intro h<;>try omega
   all_goals first
    |(refine⟨k+1, [],⟨by omega,q.succ λ_=> ?_⟩,by omega,by simp⟩;unfold uc;omega)
    |(rw[decide_eq_false];rintro⟨_,_,_,h4⟩;have:=h4 k p;unfold uc at this;omega)
  ·repeat' first|simp(disch:=omega)only[go_sem, *]|apply ab<;>intro h<;>try omega
   rw[decide_eq_true]
   refine⟨by omega,by omega,‹_›,λi hi=> ?_⟩
   have h5:=q i (by omega) hi
   by_cases e:i=0
   ·subst e;unfold uc;omega
   ·unfold uc at h5 ⊢;omega
abbrev aH:=ByteArray×Int
def mP (m:aH):List PC:= [pS m.1,pI m.2]
abbrev bp (l:List aH):PC:=cZ mP l
abbrev fc:=Int×List aH
abbrev Ey:=fc×Bool
abbrev f9 (k:Int) (l:List aH):AV:= .agg [.pure (pI k),.pure (bp l)]
def cH (a b:ByteArray):Bool:=Op.bytesLess a.toList b.toList
def KQ (l:List aH) (i:Nat):Prop:= ∀h:i<l.length,eI l[i].1∧l[i].2≠0∧(0<i→cH l[i-1].1 l[i].1=true)
def dZ (l:List aH):Prop:=bI (KQ l) l.length
instance (l:List aH):Decidable (dZ l):=Classical.propDecidable _
theorem m7 {k:Int} {l:List aH} (h:eW (f9 k l)):l.length≤9223372036854775807:=by simpa[eW,jP,ft]using h
set_option maxRecDepth 20000 in
theorem dX (c:Int) (l:List aH):af Ya qd [f9 c l] (Go.Abs.B (decide (dZ l))):=by
 refine af.of zK (by simp) λhb=>aa ?_
 have hl:=m7 hb.1
 simp only[ql]
 repeat' first|simp(disch:=omega)only[go_sem, *]|apply ab<;>intro h<;>try omega
 refine ai (λk:Nat=>⟨[(3,I k),(1,.c (.ptr 0 0))], [(0,.var [.pure (pI c),.pure (bp l)])],1,0⟩) (λk=>k≤l.length∧bI (KQ l) k) (λk=>l.length-k) ⟨0, [],⟨by omega,.zero⟩,by simp⟩ ?_
 rintro k ⟨hk,q⟩
 refine aa ?_
 by_cases p:k<l.length
 ·by_cases h0:0<k
  ·have x:k-1<l.length:=by omega
   have e1:((k:Int)-1).toNat=k-1:=by omega
   repeat' first|simp(disch:=omega)only[go_sem, *,List.drop_succ_cons,List.drop_zero,ac p,ac x,mP,wrap_i64,e1]|apply ab<;>intro h<;>try omega|refine av (gw _) rfl rfl ?_
   ·rw[decide_eq_false]
    intro hc
    exact(hc k p p).2.1 h
   ·refine⟨k+1, [],⟨by omega,q.succ λ_=>⟨‹_›,‹_›,λ_=>h⟩⟩,by omega,by simp⟩
   ·rw[decide_eq_false]
    intro hc
    have:=(hc k p p).2.2 h0
    rw[cH,h]at this
    cases this
   ·rw[decide_eq_false]
    intro hc
    exact h (hc k p p).1
  ·repeat' first|simp(disch:=omega)only[go_sem, *,List.drop_succ_cons,List.drop_zero,ac p,mP,wrap_i64]|apply ab<;>intro h<;>try omega|refine av (gw _) rfl rfl ?_
   ·rw[decide_eq_false]
    intro hc
    exact(hc k p p).2.1 h
   ·refine⟨k+1, [],⟨by omega,q.succ λ_=>⟨‹_›,‹_›,λ_=>by omega⟩⟩,by omega,by simp⟩
   ·rw[decide_eq_false]
    intro hc
    exact h (hc k p p).1
 ·repeat' first|simp(disch:=omega)only[go_sem, *,List.drop_succ_cons,List.drop_zero]|apply ab<;>intro h<;>try omega
  rw[decide_eq_true]
  have:k=l.length:=by omega
  rw[this]at q
  exact q
theorem gH (c:Int) (l:List aH):af Ya oM [f9 c l] (I (if dZ l then 0 else 1)):=by
 refine af.of x7 (by simp) λhb=>aa ?_
 simp only[ov]
 repeat' first|simp(disch:=omega)only[go_sem, *,↓List.drop_zero,↓List.take_succ_cons,↓List.take_zero]|apply ab<;>intro h<;>try omega|refine av (dX c l) rfl rfl ?_
 all_goals simp[*]
set_option maxRecDepth 20000 in
theorem bS (c:Int) (l:List aH):af Ya ta [f9 c l] (I (if dZ l then 0 else 1)):=by
 refine af.of Bi (by simp) λhb=>aa ?_
 have hl:=m7 hb.1
 simp only[tr]
 repeat' first|simp(disch:=omega)only[go_sem, *,List.drop_succ_cons,List.drop_zero]|apply ab<;>intro h<;>try omega
 refine ai (λk:Nat=>⟨[(8,I k),(7,I l.length),(6,.c (.pure (bp l))),(1,.c (.ptr 0 0))], [(0,.var [.pure (pI c),.pure (bp l)])],1,0⟩) (λk=>k≤l.length∧bI (KQ l) k) (λk=>l.length-k) ⟨0, [],⟨by omega,.zero⟩,by simp⟩ ?_
 rintro k ⟨hk,q⟩
 refine aa ?_
 by_cases p:k<l.length
 ·by_cases h0:0<k
  ·have x:k-1<l.length:=by omega
   have e1:((k:Int)-1).toNat=k-1:=by omega
   repeat' first|simp(disch:=omega)only[go_sem, *,List.drop_succ_cons,List.drop_zero,List.take_succ_cons,List.take_zero,ac p,ac x,mP,wrap_i64,e1]|apply ab<;>intro h<;>try omega|refine av (mi _) rfl rfl ?_
   ·rw[if_neg λhc=>(hc k p p).2.1 h]
   ·refine⟨k+1, [],⟨by omega,q.succ λ_=>⟨‹_›,‹_›,λ_=>h⟩⟩,by omega,by simp⟩
   ·rw[if_neg λhc=> ?_]
    have:=(hc k p p).2.2 h0
    rw[cH,h]at this
    cases this
   ·rw[if_neg λhc=>h (hc k p p).1]
  ·repeat' first|simp(disch:=omega)only[go_sem, *,ac p,mP,wrap_i64]|apply ab<;>intro h<;>try omega|refine av (mi _) rfl rfl ?_
   ·rw[if_neg λhc=>(hc k p p).2.1 h]
   ·refine⟨k+1, [],⟨by omega,q.succ λ_=>⟨‹_›,‹_›,λ_=>by omega⟩⟩,by omega,by simp⟩
   ·rw[if_neg λhc=>h (hc k p p).1]
 ·repeat' first|simp(disch:=omega)only[go_sem, *]|apply ab<;>intro h<;>try omega
  rw[if_pos]
  have:k=l.length:=by omega
  rw[this]at q
  exact q
theorem gl {e sz bytes:Nat} {y:AV} {rows ys:List (List PC)} {σ:St} {K:qD (AV→St→Prop)} (h0:bV sz rows) (z:bV sz ys) (h1:(rows.length+ys.length)*bytes≤140737488355328) (h2:rows.length+ys.length≤140737488355328)
  (hk:K.out (.c (.pure (.slice (rows++ys)))) σ): @Fu e sz bytes (.c (.tsl rows)) y ys σ K:=⟨z,.inr (.inr ⟨rows,rfl,h0,.inr (.inl ⟨h1,h2,hk⟩)⟩)⟩
theorem fu {e sz bytes:Nat} {y:AV} {rows:List (List PC)} {σ:St} {K:qD (AV→St→Prop)} (h0:bV sz rows) (hk:K.out (.c (.tsl rows)) σ): @Fu e sz bytes (.c (.tsl rows)) y [] σ K:=⟨(by intro r hr;cases hr),.inr (.inr ⟨rows,rfl,h0,.inr (.inr ⟨rfl,hk⟩)⟩)⟩
theorem cQ {e sz bytes:Nat} {y:AV} {rows ys:List (List PC)} {σ:St} {K:qD (AV→St→Prop)} (h0:bV sz rows) (z:bV sz ys) (E:ys≠ []) (h1:(rows.length+ys.length)*bytes≤140737488355328) (h2:rows.length+ys.length≤140737488355328)
  (hk:K.out (.c (.ref σ.nx)) {σ with mem:=(σ.nx,.arr e sz (rows++ys))::σ.mem,nx:=σ.nx+1}): @Fu e sz bytes (.c (.tsl rows)) y ys σ K:=⟨z,.inr (.inr ⟨rows,rfl,h0,.inl ⟨E,h1,h2,hk⟩⟩)⟩
def cP (c:Ey):List PC:= [pI c.1.1,bp c.1.2,pB c.2]
abbrev MS (c:Ey):AV:= .agg [.pure (pI c.1.1),.pure (bp c.1.2),.pure (pB c.2)]
abbrev U3 (l:List Ey):AV:=bZ cP l
theorem nZ (c:Ey):af Ya jc [MS c] (I (if dZ c.1.2 then 0 else 1)):=by
 refine af.of pE (by simp) λ_=>aa ?_
 simp only[i6]
 repeat' first|simp(disch:=omega)only[go_sem, *]|apply ab<;>intro h<;>try omega|refine av (bS _ _) rfl rfl ?_
abbrev Ty:=Int×Int×Int×Int×Int
abbrev QM (t:Ty):List PC:= [pI t.1,pI t.2.1,pI t.2.2.1,pI t.2.2.2.1,pI t.2.2.2.2]
abbrev Ss (t:Ty):AV:= .agg [.pure (pI t.1),.pure (pI t.2.1),.pure (pI t.2.2.1),.pure (pI t.2.2.2.1),.pure (pI t.2.2.2.2)]
def uw (b f r o:Int):Prop:=2≤b∧b≤31∧0≤f∧f≤30∧1≤r∧r≤4∧(o=1∨o=2)
def ju (t:Ty):Prop:=((t.1=1∨t.1=3)∧t.2.1=0∧t.2.2.1=0∧t.2.2.2.1=0∧t.2.2.2.2=0)∨(t.1=2∧uw t.2.1 t.2.2.1 t.2.2.2.1 t.2.2.2.2)
instance (b f r o:Int):Decidable (uw b f r o):=by unfold uw;infer_instance
instance (t:Ty):Decidable (ju t):=Classical.propDecidable _
def fg (b:Int):Int:=2^(b-1).toNat
def e7 (t:Ty) (a:Fr):Prop:=if t.1=2 then a.2=1∧ -fg t.2.1≤a.1∧a.1<fg t.2.1 else if t.1=3 then a.2=1∧ -2147483647≤a.1∧a.1≤2147483647 else qT a
instance (t:Ty) (a:Fr):Decidable (e7 t a):=Classical.propDecidable _
theorem Hc {b:Int} (h1:2≤b) (h2:b≤31):1≤fg b∧fg b≤1073741824:=by
 obtain⟨n,rfl⟩: ∃n:Nat,b=n:=⟨b.toNat,by omega⟩
 have h3:n≤31:=by omega
 have h4:2≤n:=by omega
 clear h1 h2
 have key: ∀m:Fin 32,2≤m.val→(1:Int)≤fg (m.val:Int)∧fg (m.val:Int)≤1073741824:=by decide+kernel
 exact key ⟨n,by omega⟩ h4
theorem Ik {b:Int} (h1:2≤b) (h2:b≤31):(2:Int)^(min (b-1).toNat 64)=fg b:=by
 rw[fg,Nat.min_eq_left (by omega)]
theorem Cj (t:Ty):af Ya uX [Ss t] (Go.Abs.B (decide (t.2.1=0∧t.2.2.1=0∧t.2.2.2.1=0∧t.2.2.2.2=0))):=by
 refine af.of CE (by simp) λ_=>aa ?_
 simp only[uN]
 repeat' first|simp(disch:=omega)only[go_sem, *]|apply ab<;>intro h<;>try omega
 refine congrArg (λb=>Go.Abs.B b) ?_
 rw[Bool.eq_iff_iff]
 simp[ni]
theorem i9 (t:Ty):af Ya jG [Ss t] (I (if t.1=2∧uw t.2.1 t.2.2.1 t.2.2.2.1 t.2.2.2.2 then 0 else 10)):=by
 refine af.of qP (by simp) λ_=>aa ?_
 simp only[jM]
 obtain⟨k,b,f,r,o⟩:=t
 simp only
 repeat' first|simp(disch:=omega)only[go_sem, *]|apply ab<;>intro h<;>try omega
 all_goals first
  |(rw[if_neg];unfold uw;omega)
  |(rw[if_pos];unfold uw;omega)
  |(simp;done)
theorem c7 (t:Ty):af Ya jQ [Ss t] (I (if ju t then 0 else 10)):=by
 refine af.of qH (by simp) λ_=>aa ?_
 have p1:=Cj t
 have p2:=i9 t
 obtain⟨k,b,f,r,o⟩:=t
 simp only at p1 p2
 simp only[jN]
 by_cases g1:b=0∧f=0∧r=0∧o=0
 ·rw[decide_eq_true g1]at p1
  by_cases g2:k=2∧uw b f r o
  ·exfalso;have:=g2.2.1;omega
  ·rw[if_neg g2]at p2
   by_cases g3:k=1∨k=3
   ·rw[if_pos (show ju (k,b,f,r,o)from .inl ⟨g3,g1⟩)]
    clear g1 g2
    rcases g3 with rfl|rfl
    ·repeat' first|simp(disch:=omega)only[go_sem, *]|apply ab<;>intro h<;>try omega|refine av p1 rfl rfl ?_|refine av p2 rfl rfl ?_
    ·repeat' first|simp(disch:=omega)only[go_sem, *]|apply ab<;>intro h<;>try omega|refine av p1 rfl rfl ?_|refine av p2 rfl rfl ?_
   ·rw[if_neg (show ¬ju (k,b,f,r,o)from λh=>h.elim (λh=>g3 h.1) g2)]
    clear g1 g2
    by_cases hk:k=2
    ·subst hk
     repeat' first|simp(disch:=omega)only[go_sem, *]|apply ab<;>intro h<;>try omega|refine av p1 rfl rfl ?_|refine av p2 rfl rfl ?_
    ·repeat' first|simp(disch:=omega)only[go_sem, *,hk]|apply ab<;>intro h<;>try omega|refine av p1 rfl rfl ?_|refine av p2 rfl rfl ?_
 ·rw[decide_eq_false g1]at p1
  by_cases g2:k=2∧uw b f r o
  ·rw[if_pos g2]at p2
   rw[if_pos (show ju (k,b,f,r,o)from .inr g2)]
   obtain⟨rfl,_⟩:=g2
   clear g1
   repeat' first|simp(disch:=omega)only[go_sem, *]|apply ab<;>intro h<;>try omega|refine av p1 rfl rfl ?_|refine av p2 rfl rfl ?_
  ·rw[if_neg g2]at p2
   rw[if_neg (show ¬ju (k,b,f,r,o)from λh=>h.elim (λh=>g1 h.2) g2)]
   clear g1 g2
   by_cases hk:k=2
   ·subst hk
    repeat' first|simp(disch:=omega)only[go_sem, *]|apply ab<;>intro h<;>try omega|refine av p1 rfl rfl ?_|refine av p2 rfl rfl ?_
   ·by_cases h1:k=1
    ·subst h1
     repeat' first|simp(disch:=omega)only[go_sem, *]|apply ab<;>intro h<;>try omega|refine av p1 rfl rfl ?_|refine av p2 rfl rfl ?_
    ·by_cases h3:k=3
     ·subst h3
      repeat' first|simp(disch:=omega)only[go_sem, *]|apply ab<;>intro h<;>try omega|refine av p1 rfl rfl ?_|refine av p2 rfl rfl ?_
     ·repeat' first|simp(disch:=omega)only[go_sem, *,hk,h1,h3]|apply ab<;>intro h<;>try omega|refine av p1 rfl rfl ?_|refine av p2 rfl rfl ?_
theorem bj (t:Ty):af Ya Aa [Ss t] (Go.Abs.B (decide (ju t))):=by
 refine af.of Hf (by simp) λ_=>aa ?_
 obtain⟨k,b,f,r,o⟩:=t
 simp only[Ai]
 by_cases h:ju (k,b,f,r,o)
 ·rw[decide_eq_true h]
  rcases h with⟨h,rfl,rfl,rfl,rfl⟩|⟨h,g1,g2,g3,g4,g5,g6,g7⟩
  ·simp only at h
   rcases h with rfl|rfl
   ·repeat' first|simp(disch:=omega)only[go_sem, *]|apply ab<;>intro h<;>try omega
   ·repeat' first|simp(disch:=omega)only[go_sem, *]|apply ab<;>intro h<;>try omega
  ·simp only at h g1 g2 g3 g4 g5 g6 g7
   subst h
   rcases g7 with rfl|rfl
   ·repeat' first|simp(disch:=omega)only[go_sem, *]|apply ab<;>intro h<;>try omega
   ·repeat' first|simp(disch:=omega)only[go_sem, *]|apply ab<;>intro h<;>try omega
 ·rw[decide_eq_false h]
  have h': ¬((k=1∨k=3)∧b=0∧f=0∧r=0∧o=0):= λg=>h (.inl g)
  have h2: ¬(k=2∧2≤b∧b≤31∧0≤f∧f≤30∧1≤r∧r≤4∧(o=1∨o=2)):= λg=>h (.inr g)
  clear h
  have H1:=Lib.hid h'
  have H2:=Lib.hid h2
  clear h' h2
  repeat' first|simp(disch:=omega)only[go_sem, *]|apply ab<;>intro h<;>try omega
  all_goals first
   |(refine congrArg (λb=>Go.Abs.B b) ?_;rw[decide_eq_false];have:=H1.out;have:=H2.out;omega)
   |(exfalso;have:=H1.out;have:=H2.out;omega)
theorem rS {b:Int} (h1:2≤b) (h2:b≤31):af Ya vk [I b] (Go.Abs.B true):=by
 refine af.of CJ (by simp) λ_=>aa ?_
 simp only[vD]
 repeat' first|simp(disch:=omega)only[go_sem, *]|apply ab<;>intro h<;>try omega
theorem A5 {b:Int} (h1:2≤b) (h2:b≤31):af Ya ro [I b] (I (-fg b)):=by
 refine af.of BG (by simp) λ_=>aa ?_
 have h3:=Hc h1 h2
 have h4:=Ik h1 h2
 have hu:IntKind.wrap .u64 (b-1)=b-1:=by rw[IntKind.wrap_u64];omega
 have v:IntKind.wrap .i64 (b-1)=b-1:=wrap_i64 (by omega)
 have v1:IntKind.wrap .i64 (fg b)=fg b:=wrap_i64 (by omega)
 have v2:IntKind.wrap .i64 (0-fg b)= -fg b:=by rw[Int.zero_sub];exact wrap_i64 (by omega)
 have v3:IntKind.wrap .i64 (fg b-1)=fg b-1:=wrap_i64 (by omega)
 simp only[rV]
 repeat' first|simp(disch:=omega)only[go_sem, *,v,hu,h4,Int.one_mul,v1,v2,v3]|apply ab<;>intro h<;>try omega|refine av (rS h1 h2) rfl rfl ?_
theorem Bv {b:Int} (h1:2≤b) (h2:b≤31):af Ya sd [I b] (I (fg b-1)):=by
 refine af.of Bz (by simp) λ_=>aa ?_
 have h3:=Hc h1 h2
 have h4:=Ik h1 h2
 have hu:IntKind.wrap .u64 (b-1)=b-1:=by rw[IntKind.wrap_u64];omega
 have v:IntKind.wrap .i64 (b-1)=b-1:=wrap_i64 (by omega)
 have v1:IntKind.wrap .i64 (fg b)=fg b:=wrap_i64 (by omega)
 have v2:IntKind.wrap .i64 (0-fg b)= -fg b:=by rw[Int.zero_sub];exact wrap_i64 (by omega)
 have v3:IntKind.wrap .i64 (fg b-1)=fg b-1:=wrap_i64 (by omega)
 simp only[rq]
 repeat' first|simp(disch:=omega)only[go_sem, *,v,hu,h4,Int.one_mul,v1,v2,v3]|apply ab<;>intro h<;>try omega|refine av (rS h1 h2) rfl rfl ?_
theorem Ew {t:Ty} {a:Fr} (h0:t.1=2) (ht:uw t.2.1 t.2.2.1 t.2.2.2.1 t.2.2.2.2):af Ya nl [Ss t,UY a] (Go.Abs.B (decide (a.2=1∧ -fg t.2.1≤a.1∧a.1<fg t.2.1))):=by
 refine af.of Ct (by simp) λ_=>aa ?_
 have p1:=i9 t
 rw[if_pos ⟨h0,ht⟩]at p1
 have p2:=A5 ht.1 ht.2.1
 have p3:=Bv ht.1 ht.2.1
 obtain⟨k,b,f,r,o⟩:=t
 obtain⟨n,d⟩:=a
 simp only at h0 p1 p2 p3 ⊢
 clear ht
 simp only[vg]
 by_cases h:d=1∧ -fg b≤n∧n<fg b
 ·rw[decide_eq_true h]
  obtain⟨rfl,g1,g2⟩:=h
  have g3:n≤fg b-1:=by omega
  clear g2
  repeat' first|simp(disch:=omega)only[go_sem]|((with_reducible refine ab ?_ ?_)<;>intro h<;>try first|omega|simp(disch:=omega)only[go_sem, *])|refine av p1 rfl rfl ?_|refine av p2 rfl rfl ?_|refine av p3 rfl rfl ?_
  all_goals(simp[*];done)
 ·rw[decide_eq_false h]
  have H:=Lib.hid h
  clear h
  repeat' first|simp(disch:=omega)only[go_sem]|((with_reducible refine ab ?_ ?_)<;>intro h<;>try first|omega|simp(disch:=omega)only[go_sem, *])|refine av p1 rfl rfl ?_|refine av p2 rfl rfl ?_|refine av p3 rfl rfl ?_
  all_goals(refine congrArg (λb=>Go.Abs.B b) ?_;rw[decide_eq_false];have:=H.out;omega)
theorem Cn (n:Int):af Ya uT [I n] (Go.Abs.B (decide (-2147483647≤n∧n≤2147483647))):=by
 refine af.of CY (by simp) λ_=>aa ?_
 simp only[vv]
 repeat' first|simp(disch:=omega)only[go_sem, *]|apply ab<;>intro h<;>try omega
 all_goals(simp<;>omega)
theorem Dk {t:Ty} {a:Fr} (ht:ju t) (ha:o9 a):af Ya u7 [Ss t,UY a] (Go.Abs.B (decide (e7 t a))):=by
 refine af.of Ed (by simp) λ_=>aa ?_
 have p1:=c7 t
 rw[if_pos ht]at p1
 have p2:=B1 ha
 have p3:=Cn a.1
 have p4:t.1=2→af Ya nl [Ss t,UY a] (Go.Abs.B (decide (e7 t a))):= λh=>by
  have:=Ew (a:=a) h (ht.elim (λh'=>by omega) λh'=>h'.2)
  rwa [show decide (a.2=1∧ -fg t.2.1≤a.1∧a.1<fg t.2.1)=decide (e7 t a)from decide_eq_decide.2 (by unfold e7;rw[if_pos h])]at this
 have hk:t.1=1∨t.1=2∨t.1=3:=by rcases ht with⟨h,_⟩|⟨h,_⟩<;>omega
 obtain⟨k,b,f,r,o⟩:=t
 clear ht
 simp only[vr]
 simp only at hk
 rcases hk with rfl|rfl|rfl
 ·rw[show decide (e7 (1,b,f,r,o) a)=decide (qT a)from decide_eq_decide.2 (by unfold e7;simp)]
  repeat' first|simp(disch:=omega)only[go_sem, *]|apply ab<;>intro h<;>try omega|refine av p1 rfl rfl ?_|refine av p2 rfl rfl ?_
 ·have p4:=p4 rfl
  repeat' first|simp(disch:=omega)only[go_sem, *]|apply ab<;>intro h<;>try omega|refine av p1 rfl rfl ?_|refine av p4 rfl rfl ?_
 ·obtain⟨n,d⟩:=a
  simp only at p3
  rw[show decide (e7 (3,b,f,r,o) (n,d))=decide (d=1∧ -2147483647≤n∧n≤2147483647)from decide_eq_decide.2 (by unfold e7;simp)]
  clear p4 p2
  by_cases h:d=1
  ·subst h
   repeat' first|simp(disch:=omega)only[go_sem, *]|apply ab<;>intro h<;>try omega|refine av p1 rfl rfl ?_|refine av p3 rfl rfl ?_
   all_goals simp
  ·repeat' first|simp(disch:=omega)only[go_sem, *,h]|apply ab<;>intro h<;>try omega|refine av p1 rfl rfl ?_|refine av p3 rfl rfl ?_
   all_goals simp[h]
theorem Kw {t:Ty} {a:Fr} (ht:ju t) (ha:o9 a):af Ya DQ [Ss t,UY a] (Go.Abs.B (decide (e7 t a))):=by
 refine af.of IU (by simp) λ_=>aa ?_
 obtain⟨k,b,f,r,o⟩:=t
 obtain⟨n,d⟩:=a
 obtain⟨⟨F,G⟩,J,L⟩:=ha
 simp only at F G J L
 simp only[Ek]
 by_cases hk:k=2
 ·subst hk
  have u:uw b f r o:=ht.elim (λh'=>absurd h'.1 (by simp)) λh'=>h'.2
  have h3:=Hc u.1 u.2.1
  have h4:=Ik u.1 u.2.1
  have N:=u.1
  have O:=u.2.1
  have v:IntKind.wrap .i64 (b-1)=b-1:=wrap_i64 (by omega)
  have C:IntKind.wrap .i64 (fg b)=fg b:=wrap_i64 (by omega)
  have D:IntKind.wrap .i64 (0-fg b)= -fg b:=by rw[Int.zero_sub];exact wrap_i64 (by omega)
  clear ht u
  rw[show decide (e7 (2,b,f,r,o) (n,d))=decide (d=1∧ -fg b≤n∧n<fg b)from decide_eq_decide.2 (by unfold e7;simp)]
  by_cases h:d=1∧ -fg b≤n∧n<fg b
  ·rw[decide_eq_true h]
   obtain⟨rfl,g1,g2⟩:=h
   repeat' first|simp(disch:=omega)only[go_sem, *,wrap_i64,h4,v,Int.one_mul,C,D]|apply ab<;>intro h<;>try omega
  ·rw[decide_eq_false h]
   have H:=Lib.hid h
   clear h
   repeat' first|simp(disch:=omega)only[go_sem, *,wrap_i64,h4,v,Int.one_mul,C,D]|apply ab<;>intro h<;>try omega
   all_goals(refine congrArg (λb=>Go.Abs.B b) ?_;rw[decide_eq_false];have:=H.out;omega)
 ·have hv:e7 (k,b,f,r,o) (n,d)↔(if k=3 then d=1∧ -2147483647≤n∧n≤2147483647 else qT (n,d)):=by unfold e7;simp only;rw[if_neg hk]
  by_cases h1:1≤d
  ·by_cases h2:d≤2147483647
   ·by_cases h3: -2147483647≤n∧n≤2147483647
    ·have e:max n (0-n)=(n.natAbs:Int):=by omega
     have e2:d=(d.natAbs:Int):=by omega
     have p2:=Io n.natAbs d.natAbs
     rw[←e2]at p2
     clear e2
     by_cases A:k=3
     ·subst A
      rw[show decide (e7 (3,b,f,r,o) (n,d))=decide (d=1)from decide_eq_decide.2 (by rw[hv,if_pos rfl];simp[h3])]
      clear hv ht p2 e
      repeat' first|simp(disch:=omega)only[go_sem, *,wrap_i64]|apply ab<;>intro h<;>try omega
     ·rw[show decide (e7 (k,b,f,r,o) (n,d))=decide (qT (n,d))from decide_eq_decide.2 (by rw[hv,if_neg A])]
      clear hv ht
      repeat' first|simp(disch:=omega)only[go_sem, *,e,wrap_i64,hk,A,↓reduceIte]|apply ab<;>intro h<;>try omega|refine av p2 rfl rfl ?_
      rw[show decide (((n.natAbs.gcd d.natAbs:Nat):Int)=1)=decide (qT (n,d)) by rw[decide_eq_decide];simp only[qT];omega]
    ·rw[decide_eq_false (show ¬e7 (k,b,f,r,o) (n,d) by rw[hv];unfold qT;simp only;split<;>omega)]
     clear hv ht
     repeat' first|simp(disch:=omega)only[go_sem, *,hk]|apply ab<;>intro h<;>try omega
   ·rw[decide_eq_false (show ¬e7 (k,b,f,r,o) (n,d) by rw[hv];unfold qT;simp only;split<;>omega)]
    clear hv ht
    repeat' first|simp(disch:=omega)only[go_sem, *,hk]|apply ab<;>intro h<;>try omega
  ·rw[decide_eq_false (show ¬e7 (k,b,f,r,o) (n,d) by rw[hv];unfold qT;simp only;split<;>omega)]
   clear hv ht
   repeat' first|simp(disch:=omega)only[go_sem, *,hk]|apply ab<;>intro h<;>try omega
end
end Go.Proofs.YtjhkikmonejkjaaGreatDoor
