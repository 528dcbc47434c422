import Derived.Test.YtiapgekjmcjjgaaGreatDoorV01b
set_option maxHeartbeats 4000000
set_option linter.unusedVariables false
set_option linter.unusedSimpArgs false
set_option maxRecDepth 1000000
open Go.Proofs.Tryz renaming prog→Ya
namespace Go.Proofs.YtiapgekjmcjjgaaGreatDoor
open Go.Abs Go.RowKit
noncomputable section
theorem jH {a b:Int} (ha:am a) (hb:am b):ac Ya 189 [I a,I b] (Ts (dg (a+b))):=by
 refine ac.of EZ (by simp) λ_=>aa ?_
 obtain⟨z,A⟩:=ha
 obtain⟨F,G⟩:=hb
 conv in bh _ _=>cbv
 repeat' first|simp(disch:=omega)only[go_sem, *,wrap_i64]|apply ab<;>intro h<;>try omega
 all_goals first
  |omega
  |rw[el (by unfold am;omega)]
  |rw[i9 (by unfold am;omega)]
theorem je {a b:Int} (ha:am a) (hb:am b):ac Ya 188 [I a,I b] (Ts (dg (a*b))):=by
 refine ac.of CI (by simp) λ_=>aa ?_
 obtain⟨z,A⟩:=ha
 obtain⟨F,G⟩:=hb
 conv in bh _ _=>cbv
 repeat' first|simp(disch:=omega)only[go_sem, *]|apply ab<;>intro h<;>try omega
 all_goals first
  |(simp[dg,am];done)
  |(rw[el (by unfold am;omega)];done)
  |(rw[i9 (by unfold am;omega)];done)
  |rw[i9 (λhc=>h ((we (by unfold am;omega) (by unfold am;omega) (by omega) (by omega)).2 hc))]
  |(have hc:=(we (by unfold am;omega) (by unfold am;omega) (by omega) (by omega)).1 h;rw[el hc,wrap_i64 hc])
def s9:List ByteArray:= [⟨⟨[115,105,122,101]⟩⟩,⟨⟨[119,104,101,114,101]⟩⟩,⟨⟨[105,110]⟩⟩,⟨⟨[100,101,102]⟩⟩,⟨⟨[111,117,116]⟩⟩,⟨⟨[115,117,109]⟩⟩,⟨⟨[112,114,111,100]⟩⟩,⟨⟨[109,105,110]⟩⟩,⟨⟨[109,97,120]⟩⟩,⟨⟨[115,99,97,110]⟩⟩,⟨⟨[111,118,101,114]⟩⟩,⟨⟨[105,102]⟩⟩,⟨⟨[99,97,115,116]⟩⟩,⟨⟨[102,114,97,99]⟩⟩,⟨⟨[105,110,116]⟩⟩,⟨⟨[102,105,120]⟩⟩,⟨⟨[99,101,105,108]⟩⟩,⟨⟨[102,108,111,111,114]⟩⟩,⟨⟨[122,101,114,111]⟩⟩,⟨⟨[101,118,101,110]⟩⟩,⟨⟨[115,97,116]⟩⟩,⟨⟨[119,114,97,112]⟩⟩]
theorem zL:ac Ya 179 [] (lO s9):=by
 refine ac.of Cz (by simp) λ_=>aa ?_
 conv in bh _ _=>cbv
 repeat' first|simp(disch:=omega)only[go_sem, *]|apply ab<;>intro h<;>try omega
 rfl
theorem gM (xs:List ByteArray) (s:ByteArray):ac Ya 49 [lO xs,S s] (Go.Abs.B (decide (s∈xs))):=by
 refine ac.of Gd (by simp) λhb=>aa ?_
 have hx:xs.length≤9223372036854775807:=by simpa[qq,gw,gT]using hb.1
 conv in bh _ _=>cbv
 repeat' first|simp(disch:=omega)only[go_sem, *]|apply ab<;>intro h<;>try omega
 refine ai (λk:Nat=>⟨[(5,I k),(0,lO xs),(1,S s)], [],0,0⟩) (λk=>k≤xs.length∧ ∀j (h:j<xs.length),j<k→xs[j]≠s) (λk=>xs.length-k) ⟨0, [],⟨by omega,λj h h'=>by omega⟩,by simp⟩ ?_
 rintro k ⟨hk,q⟩
 refine aa ?_
 by_cases p:k<xs.length
 ·repeat' first|simp(disch:=omega)only[go_sem, *,ah p,Option.map_some,wrap_i64]|apply ab<;>intro h<;>try omega
  ·have:s∈xs:=by subst h;exact List.getElem_mem p
   simp[this]
  ·refine⟨k+1, [],⟨by omega,λj hj P=> ?_⟩,by omega,by simp⟩
   by_cases e:j=k
   ·subst e;exact h
   ·exact q j hj (by omega)
 ·repeat' first|simp(disch:=omega)only[go_sem, *]|apply ab<;>intro h<;>try omega
  have: ¬s∈xs:= λhm=>by
   obtain⟨j,hj,e⟩:=List.mem_iff_getElem.1 hm
   exact q j hj (by omega) e
  simp[this]
theorem wu (s:ByteArray):ac Ya 174 [S s] (Go.Abs.B (decide (s∈s9))):=by
 refine ac.of yo (by simp) λ_=>aa ?_
 conv in bh _ _=>cbv
 repeat' first|simp(disch:=omega)only[go_sem, *]|apply ab<;>intro h<;>try omega
 all_goals simp[s9, *]
set_option maxRecDepth 20000
set_option maxRecDepth 1000000
def sx (i:Nat) (c:UInt8):Prop:=(97≤c.toNat∧c.toNat≤122)∨(0<i∧((48≤c.toNat∧c.toNat≤57)∨c.toNat=95))
instance (i:Nat) (c:UInt8):Decidable (sx i c):=by unfold sx;infer_instance
def fW (s:ByteArray):Prop:=1≤s.size∧s.size≤16∧ ¬s∈s9∧ ∀i (h:i<s.size),sx i s[i]
instance (s:ByteArray):Decidable (fW s):=Classical.propDecidable _
theorem fX (s:ByteArray):ac Ya 136 [S s] (Go.Abs.B (decide (fW s))):=by
 refine ac.of FL (by simp) λhb=>aa ?_
 conv in bh _ _=>cbv
 repeat' first|simp(disch:=omega)only[go_sem, *]|apply ab<;>intro h<;>try omega|refine aW zL rfl rfl ?_|refine aq (gM _ _) rfl rfl ?_
 ·rw[decide_eq_false];rintro⟨h1,_⟩;omega
 ·rw[decide_eq_false];rintro⟨_,h1,_⟩;omega
 ·rw[decide_eq_false];rintro⟨_,_,h1,_⟩;exact h1 h
 ·refine ai (λk:Nat=>⟨[(3,I k),(0,S s)], [],0,0⟩) (λk=>k≤s.size∧dZ (λj=> ∀h:j<s.size,sx j s[j]) k) (λk=>s.size-k) ⟨0, [],⟨by omega,.zero⟩,by simp⟩ ?_
  rintro k ⟨hk,q⟩
  refine aa ?_
  by_cases p:k<s.size
  ·repeat' first|simp(disch:=omega)only[go_sem, *,getElem?_pos s k p,wrap_i64]|apply ab<;>intro h<;>try omega
   all_goals first
    |(refine⟨k+1, [],⟨by omega,q.succ λ_=> ?_⟩,by omega,by simp⟩;unfold sx;omega)
    |(rw[decide_eq_false];rintro⟨_,_,_,h4⟩;have:=h4 k p;unfold sx at this;omega)
  ·repeat' first|simp(disch:=omega)only[go_sem, *]|apply ab<;>intro h<;>try omega
   rw[decide_eq_true]
   exact⟨by omega,by omega,‹_›,λi hi=>q i (by omega) hi⟩
theorem iv (s:ByteArray):ac Ya 132 [S s] (Go.Abs.B (decide (fW s))):=by
 refine ac.of uS (by simp) λhb=>aa ?_
 conv in bh _ _=>cbv
 by_cases h0:s.size<1
 ·repeat' first|simp(disch:=omega)only[go_sem, *]|apply ab<;>intro h<;>try omega
  rw[decide_eq_false];rintro⟨h1,_⟩;omega
 have w:0<s.size:=by omega
 repeat' first|simp(disch:=omega)only[go_sem, *,getElem?_pos s 0 w,Int.toNat_zero]|apply ab<;>intro h<;>try omega|refine aq (wu _) rfl rfl ?_
 ·rw[decide_eq_false];rintro⟨_,h1,_⟩;omega
 ·rw[decide_eq_false];rintro⟨_,_,h1,_⟩;exact h1 h
 ·rw[decide_eq_false];rintro⟨_,_,_,h4⟩;have:=h4 0 w;unfold sx at this;omega
 ·rw[decide_eq_false];rintro⟨_,_,_,h4⟩;have:=h4 0 w;unfold sx at this;omega
 ·refine ai (λk:Nat=>⟨[(29,I k),(28,I s.size),(0,S s)], [],0,0⟩) (λk=>k≤s.size∧dZ (λj=> ∀h:j<s.size,sx (j+1) s[j]) k) (λk=>s.size-k) ⟨0, [],⟨by omega,.zero⟩,by simp⟩ ?_
  rintro k ⟨hk,q⟩
  refine aa ?_
  by_cases p:k<s.size
  ·repeat' first|simp(disch:=omega)only[go_sem, *,getElem?_pos s k p,wrap_i64]|apply ab<;>intro h<;>try omega
   all_goals first
    |(refine⟨k+1, [],⟨by omega,q.succ λ_=> ?_⟩,by omega,by simp⟩;unfold sx;omega)
    |(rw[decide_eq_false];rintro⟨_,_,_,h4⟩;have:=h4 k p;unfold sx at this;omega)
  ·repeat' first|simp(disch:=omega)only[go_sem, *]|apply ab<;>intro h<;>try omega
   rw[decide_eq_true]
   refine⟨by omega,by omega,‹_›,λi hi=> ?_⟩
   have h5:=q i (by omega) hi
   by_cases e:i=0
   ·subst e;unfold sx;omega
   ·unfold sx at h5 ⊢;omega
abbrev aR:=ByteArray×Int
def mP (m:aR):List PC:= [pS m.1,pI m.2]
abbrev ay (l:List aR):PC:=dp mP l
abbrev bW:=Int×List aR
abbrev aU:=bW×Bool
abbrev da (k:Int) (l:List aR):AV:= .agg [.pure (pI k),.pure (ay l)]
def bC (a b:ByteArray):Bool:=Op.bytesLess a.toList b.toList
def Kr (l:List aR) (i:Nat):Prop:= ∀h:i<l.length,fW l[i].1∧l[i].2≠0∧(0<i→bC l[i-1].1 l[i].1=true)
def aI (l:List aR):Prop:=dZ (Kr l) l.length
instance (l:List aR):Decidable (aI l):=Classical.propDecidable _
theorem rJ {k:Int} {l:List aR} (h:gw (da k l)):l.length≤9223372036854775807:=by simpa[gw,nc,gT]using h
set_option maxRecDepth 20000 in
theorem dA (c:Int) (l:List aR):ac Ya 88 [da c l] (Go.Abs.B (decide (aI l))):=by
 refine ac.of wK (by simp) λhb=>aa ?_
 have hl:=rJ hb.1
 simp only[o6]
 repeat' first|simp(disch:=omega)only[go_sem, *]|apply ab<;>intro h<;>try omega
 refine ai (λk:Nat=>⟨[(3,I k),(1,.c (.ptr 0 0))], [(0,.var [.pure (pI c),.pure (ay l)])],1,0⟩) (λk=>k≤l.length∧dZ (Kr l) k) (λk=>l.length-k) ⟨0, [],⟨by omega,.zero⟩,by simp⟩ ?_
 rintro k ⟨hk,q⟩
 refine aa ?_
 by_cases p:k<l.length
 ·by_cases h0:0<k
  ·have C:k-1<l.length:=by omega
   have e1:((k:Int)-1).toNat=k-1:=by omega
   repeat' first|simp(disch:=omega)only[go_sem, *,List.drop_succ_cons,List.drop_zero,ah p,ah C,mP,wrap_i64,e1]|apply ab<;>intro h<;>try omega|refine aq (fX _) rfl rfl ?_
   ·rw[decide_eq_false]
    intro hc
    exact(hc k p p).2.1 h
   ·refine⟨k+1, [],⟨by omega,q.succ λ_=>⟨‹_›,‹_›,λ_=>h⟩⟩,by omega,by simp⟩
   ·rw[decide_eq_false]
    intro hc
    have:=(hc k p p).2.2 h0
    rw[bC,h]at this
    cases this
   ·rw[decide_eq_false]
    intro hc
    exact h (hc k p p).1
  ·repeat' first|simp(disch:=omega)only[go_sem, *,List.drop_succ_cons,List.drop_zero,ah p,mP,wrap_i64]|apply ab<;>intro h<;>try omega|refine aq (fX _) rfl rfl ?_
   ·rw[decide_eq_false]
    intro hc
    exact(hc k p p).2.1 h
   ·refine⟨k+1, [],⟨by omega,q.succ λ_=>⟨‹_›,‹_›,λ_=>by omega⟩⟩,by omega,by simp⟩
   ·rw[decide_eq_false]
    intro hc
    exact h (hc k p p).1
 ·repeat' first|simp(disch:=omega)only[go_sem, *,List.drop_succ_cons,List.drop_zero]|apply ab<;>intro h<;>try omega
  rw[decide_eq_true]
  have:k=l.length:=by omega
  rw[this]at q
  exact q
theorem ik (c:Int) (l:List aR):ac Ya 190 [da c l] (I (if aI l then 0 else 1)):=by
 refine ac.of uv (by simp) λhb=>aa ?_
 conv in bh _ _=>cbv
 repeat' first|simp(disch:=omega)only[go_sem, *,↓List.drop_zero,↓List.take_succ_cons,↓List.take_zero]|apply ab<;>intro h<;>try omega|refine aq (dA c l) rfl rfl ?_
 all_goals simp[*]
set_option maxRecDepth 20000 in
theorem cw (c:Int) (l:List aR):ac Ya 110 [da c l] (I (if aI l then 0 else 1)):=by
 refine ac.of xN (by simp) λhb=>aa ?_
 have hl:=rJ hb.1
 conv in bh _ _=>cbv
 repeat' first|simp(disch:=omega)only[go_sem, *,List.drop_succ_cons,List.drop_zero]|apply ab<;>intro h<;>try omega
 refine ai (λk:Nat=>⟨[(8,I k),(7,I l.length),(6,.c (.pure (ay l))),(1,.c (.ptr 0 0))], [(0,.var [.pure (pI c),.pure (ay l)])],1,0⟩) (λk=>k≤l.length∧dZ (Kr l) k) (λk=>l.length-k) ⟨0, [],⟨by omega,.zero⟩,by simp⟩ ?_
 rintro k ⟨hk,q⟩
 refine aa ?_
 by_cases p:k<l.length
 ·by_cases h0:0<k
  ·have C:k-1<l.length:=by omega
   have e1:((k:Int)-1).toNat=k-1:=by omega
   repeat' first|simp(disch:=omega)only[go_sem, *,List.drop_succ_cons,List.drop_zero,List.take_succ_cons,List.take_zero,ah p,ah C,mP,wrap_i64,e1]|apply ab<;>intro h<;>try omega|refine aq (iv _) rfl rfl ?_
   ·rw[if_neg λhc=>(hc k p p).2.1 h]
   ·refine⟨k+1, [],⟨by omega,q.succ λ_=>⟨‹_›,‹_›,λ_=>h⟩⟩,by omega,by simp⟩
   ·rw[if_neg λhc=> ?_]
    have:=(hc k p p).2.2 h0
    rw[bC,h]at this
    cases this
   ·rw[if_neg λhc=>h (hc k p p).1]
  ·repeat' first|simp(disch:=omega)only[go_sem, *,ah p,mP,wrap_i64]|apply ab<;>intro h<;>try omega|refine aq (iv _) rfl rfl ?_
   ·rw[if_neg λhc=>(hc k p p).2.1 h]
   ·refine⟨k+1, [],⟨by omega,q.succ λ_=>⟨‹_›,‹_›,λ_=>by omega⟩⟩,by omega,by simp⟩
   ·rw[if_neg λhc=>h (hc k p p).1]
 ·repeat' first|simp(disch:=omega)only[go_sem, *]|apply ab<;>intro h<;>try omega
  rw[if_pos]
  have:k=l.length:=by omega
  rw[this]at q
  exact q
set_option maxRecDepth 20000
set_option maxRecDepth 1000000
theorem cN {e sz bytes:Nat} {y:AV} {rows ys:List (List PC)} {σ:St} {K:mZ (AV→St→Prop)} (h0:aK sz rows) (D:aK sz ys) (h1:(rows.length+ys.length)*bytes≤140737488355328) (h2:rows.length+ys.length≤140737488355328)
  (hk:K.out (.c (.pure (.slice (rows++ys)))) σ): @zS e sz bytes (.c (.tsl rows)) y ys σ K:=⟨D,.inr (.inr ⟨rows,rfl,h0,.inr (.inl ⟨h1,h2,hk⟩)⟩)⟩
theorem dy {e sz bytes:Nat} {y:AV} {rows:List (List PC)} {σ:St} {K:mZ (AV→St→Prop)} (h0:aK sz rows) (hk:K.out (.c (.tsl rows)) σ): @zS e sz bytes (.c (.tsl rows)) y [] σ K:=⟨(by intro r hr;cases hr),.inr (.inr ⟨rows,rfl,h0,.inr (.inr ⟨rfl,hk⟩)⟩)⟩
theorem c8 {e sz bytes:Nat} {y:AV} {rows ys:List (List PC)} {σ:St} {K:mZ (AV→St→Prop)} (h0:aK sz rows) (D:aK sz ys) (M:ys≠ []) (h1:(rows.length+ys.length)*bytes≤140737488355328) (h2:rows.length+ys.length≤140737488355328)
  (hk:K.out (.c (.ref σ.nx)) {σ with mem:=(σ.nx,.arr e sz (rows++ys))::σ.mem,nx:=σ.nx+1}): @zS e sz bytes (.c (.tsl rows)) y ys σ K:=⟨D,.inr (.inr ⟨rows,rfl,h0,.inl ⟨M,h1,h2,hk⟩⟩)⟩
def cP (c:aU):List PC:= [pI c.1.1,ay c.1.2,pB c.2]
abbrev iS (c:aU):AV:= .agg [.pure (pI c.1.1),.pure (ay c.1.2),.pure (pB c.2)]
abbrev R9 (x:aU×Int):AV:= .tup [iS x.1,I x.2]
abbrev bB (l:List aU):AV:=i6 cP l
theorem b6 (c:aU):ac Ya 58 [iS c] (I (if aI c.1.2 then 0 else 1)):=by
 refine ac.of og (by simp) λ_=>aa ?_
 conv in bh _ _=>cbv
 repeat' first|simp(disch:=omega)only[go_sem, *]|apply ab<;>intro h<;>try omega|refine aq (cw _ _) rfl rfl ?_
set_option maxRecDepth 20000
set_option maxRecDepth 1000000
abbrev Ty:=Int×Int×Int×Int×Int
abbrev Qo (t:Ty):List PC:= [pI t.1,pI t.2.1,pI t.2.2.1,pI t.2.2.2.1,pI t.2.2.2.2]
abbrev Sl (t:Ty):AV:= .agg [.pure (pI t.1),.pure (pI t.2.1),.pure (pI t.2.2.1),.pure (pI t.2.2.2.1),.pure (pI t.2.2.2.2)]
def sW (b f r o:Int):Prop:=2≤b∧b≤31∧0≤f∧f≤30∧1≤r∧r≤4∧(o=1∨o=2)
def kU (t:Ty):Prop:=((t.1=1∨t.1=3)∧t.2.1=0∧t.2.2.1=0∧t.2.2.2.1=0∧t.2.2.2.2=0)∨(t.1=2∧sW t.2.1 t.2.2.1 t.2.2.2.1 t.2.2.2.2)
instance (b f r o:Int):Decidable (sW b f r o):=by unfold sW;infer_instance
instance (t:Ty):Decidable (kU t):=Classical.propDecidable _
def fZ (b:Int):Int:=2^(b-1).toNat
def fR (t:Ty) (a:Fr):Prop:=if t.1=2 then a.2=1∧ -fZ t.2.1≤a.1∧a.1<fZ t.2.1 else if t.1=3 then a.2=1∧ -2147483647≤a.1∧a.1≤2147483647 else dq a
instance (t:Ty) (a:Fr):Decidable (fR t a):=Classical.propDecidable _
theorem Eg {b:Int} (h1:2≤b) (h2:b≤31):1≤fZ b∧fZ b≤1073741824:=by
 obtain⟨n,rfl⟩: ∃n:Nat,b=n:=⟨b.toNat,by omega⟩
 have h3:n≤31:=by omega
 have h4:2≤n:=by omega
 clear h1 h2
 have key: ∀m:Fin 32,2≤m.val→(1:Int)≤fZ (m.val:Int)∧fZ (m.val:Int)≤1073741824:=by decide+kernel
 exact key ⟨n,by omega⟩ h4
theorem FP {b:Int} (h1:2≤b) (h2:b≤31):(2:Int)^(min (b-1).toNat 64)=fZ b:=by
 rw[fZ,Nat.min_eq_left (by omega)]
theorem y9 (t:Ty):ac Ya 149 [Sl t] (Go.Abs.B (decide (t.2.1=0∧t.2.2.1=0∧t.2.2.2.1=0∧t.2.2.2.2=0))):=by
 refine ac.of Al (by simp) λ_=>aa ?_
 conv in bh _ _=>cbv
 repeat' first|simp(disch:=omega)only[go_sem, *]|apply ab<;>intro h<;>try omega
 refine congrArg (λb=>Go.Abs.B b) ?_
 rw[Bool.eq_iff_iff]
 simp[wA]
theorem jw (t:Ty):ac Ya 150 [Sl t] (I (if t.1=2∧sW t.2.1 t.2.2.1 t.2.2.2.1 t.2.2.2.2 then 0 else 10)):=by
 refine ac.of pD (by simp) λ_=>aa ?_
 conv in bh _ _=>cbv
 obtain⟨k,b,f,r,o⟩:=t
 simp only
 repeat' first|simp(disch:=omega)only[go_sem, *]|apply ab<;>intro h<;>try omega
 all_goals first
  |(rw[if_neg];unfold sW;omega)
  |(rw[if_pos];unfold sW;omega)
  |(simp;done)
theorem eO (t:Ty):ac Ya 111 [Sl t] (I (if kU t then 0 else 10)):=by
 refine ac.of pL (by simp) λ_=>aa ?_
 have p1:=y9 t
 have p2:=jw t
 obtain⟨k,b,f,r,o⟩:=t
 simp only at p1 p2
 conv in bh _ _=>cbv
 by_cases g1:b=0∧f=0∧r=0∧o=0
 ·rw[decide_eq_true g1]at p1
  by_cases g2:k=2∧sW b f r o
  ·exfalso;have:=g2.2.1;omega
  ·rw[if_neg g2]at p2
   by_cases g3:k=1∨k=3
   ·rw[if_pos (show kU (k,b,f,r,o)from .inl ⟨g3,g1⟩)]
    clear g1 g2
    rcases g3 with rfl|rfl
    ·repeat' first|simp(disch:=omega)only[go_sem, *]|apply ab<;>intro h<;>try omega|refine aq p1 rfl rfl ?_|refine aq p2 rfl rfl ?_
    ·repeat' first|simp(disch:=omega)only[go_sem, *]|apply ab<;>intro h<;>try omega|refine aq p1 rfl rfl ?_|refine aq p2 rfl rfl ?_
   ·rw[if_neg (show ¬kU (k,b,f,r,o)from λh=>h.elim (λh=>g3 h.1) g2)]
    clear g1 g2
    by_cases hk:k=2
    ·subst hk
     repeat' first|simp(disch:=omega)only[go_sem, *]|apply ab<;>intro h<;>try omega|refine aq p1 rfl rfl ?_|refine aq p2 rfl rfl ?_
    ·repeat' first|simp(disch:=omega)only[go_sem, *,hk]|apply ab<;>intro h<;>try omega|refine aq p1 rfl rfl ?_|refine aq p2 rfl rfl ?_
 ·rw[decide_eq_false g1]at p1
  by_cases g2:k=2∧sW b f r o
  ·rw[if_pos g2]at p2
   rw[if_pos (show kU (k,b,f,r,o)from .inr g2)]
   obtain⟨rfl,_⟩:=g2
   clear g1
   repeat' first|simp(disch:=omega)only[go_sem, *]|apply ab<;>intro h<;>try omega|refine aq p1 rfl rfl ?_|refine aq p2 rfl rfl ?_
  ·rw[if_neg g2]at p2
   rw[if_neg (show ¬kU (k,b,f,r,o)from λh=>h.elim (λh=>g1 h.2) g2)]
   clear g1 g2
   by_cases hk:k=2
   ·subst hk
    repeat' first|simp(disch:=omega)only[go_sem, *]|apply ab<;>intro h<;>try omega|refine aq p1 rfl rfl ?_|refine aq p2 rfl rfl ?_
   ·by_cases h1:k=1
    ·subst h1
     repeat' first|simp(disch:=omega)only[go_sem, *]|apply ab<;>intro h<;>try omega|refine aq p1 rfl rfl ?_|refine aq p2 rfl rfl ?_
    ·by_cases h3:k=3
     ·subst h3
      repeat' first|simp(disch:=omega)only[go_sem, *]|apply ab<;>intro h<;>try omega|refine aq p1 rfl rfl ?_|refine aq p2 rfl rfl ?_
     ·repeat' first|simp(disch:=omega)only[go_sem, *,hk,h1,h3]|apply ab<;>intro h<;>try omega|refine aq p1 rfl rfl ?_|refine aq p2 rfl rfl ?_
theorem bX (t:Ty):ac Ya 90 [Sl t] (Go.Abs.B (decide (kU t))):=by
 refine ac.of EI (by simp) λ_=>aa ?_
 obtain⟨k,b,f,r,o⟩:=t
 conv in bh _ _=>cbv
 by_cases h:kU (k,b,f,r,o)
 ·rw[decide_eq_true h]
  rcases h with⟨h,rfl,rfl,rfl,rfl⟩|⟨h,g1,g2,g3,g4,g5,g6,g7⟩
  ·simp only at h
   rcases h with rfl|rfl
   ·repeat' first|simp(disch:=omega)only[go_sem, *]|apply ab<;>intro h<;>try omega
   ·repeat' first|simp(disch:=omega)only[go_sem, *]|apply ab<;>intro h<;>try omega
  ·simp only at h g1 g2 g3 g4 g5 g6 g7
   subst h
   rcases g7 with rfl|rfl
   ·repeat' first|simp(disch:=omega)only[go_sem, *]|apply ab<;>intro h<;>try omega
   ·repeat' first|simp(disch:=omega)only[go_sem, *]|apply ab<;>intro h<;>try omega
 ·rw[decide_eq_false h]
  have h': ¬((k=1∨k=3)∧b=0∧f=0∧r=0∧o=0):= λg=>h (.inl g)
  have h2: ¬(k=2∧2≤b∧b≤31∧0≤f∧f≤30∧1≤r∧r≤4∧(o=1∨o=2)):= λg=>h (.inr g)
  clear h
  have H1:=Lib.hid h'
  have H2:=Lib.hid h2
  clear h' h2
  repeat' first|simp(disch:=omega)only[go_sem, *]|apply ab<;>intro h<;>try omega
  all_goals first
   |(refine congrArg (λb=>Go.Abs.B b) ?_;rw[decide_eq_false];have:=H1.out;have:=H2.out;omega)
   |(exfalso;have:=H1.out;have:=H2.out;omega)
theorem qX {b:Int} (h1:2≤b) (h2:b≤31):ac Ya 259 [I b] (Go.Abs.B true):=by
 refine ac.of Ba (by simp) λ_=>aa ?_
 conv in bh _ _=>cbv
 repeat' first|simp(disch:=omega)only[go_sem, *]|apply ab<;>intro h<;>try omega
theorem yI {b:Int} (h1:2≤b) (h2:b≤31):ac Ya 240 [I b] (I (-fZ b)):=by
 refine ac.of xX (by simp) λ_=>aa ?_
 have h3:=Eg h1 h2
 have h4:=FP h1 h2
 have hu:IntKind.wrap .u64 (b-1)=b-1:=by rw[IntKind.wrap_u64];omega
 have v:IntKind.wrap .i64 (b-1)=b-1:=wrap_i64 (by omega)
 have v1:IntKind.wrap .i64 (fZ b)=fZ b:=wrap_i64 (by omega)
 have v2:IntKind.wrap .i64 (0-fZ b)= -fZ b:=by rw[Int.zero_sub];exact wrap_i64 (by omega)
 have v3:IntKind.wrap .i64 (fZ b-1)=fZ b-1:=wrap_i64 (by omega)
 conv in bh _ _=>cbv
 repeat' first|simp(disch:=omega)only[go_sem, *,v,hu,h4,Int.one_mul,v1,v2,v3]|apply ab<;>intro h<;>try omega|refine aq (qX h1 h2) rfl rfl ?_
theorem yG {b:Int} (h1:2≤b) (h2:b≤31):ac Ya 241 [I b] (I (fZ b-1)):=by
 refine ac.of yN (by simp) λ_=>aa ?_
 have h3:=Eg h1 h2
 have h4:=FP h1 h2
 have hu:IntKind.wrap .u64 (b-1)=b-1:=by rw[IntKind.wrap_u64];omega
 have v:IntKind.wrap .i64 (b-1)=b-1:=wrap_i64 (by omega)
 have v1:IntKind.wrap .i64 (fZ b)=fZ b:=wrap_i64 (by omega)
 have v2:IntKind.wrap .i64 (0-fZ b)= -fZ b:=by rw[Int.zero_sub];exact wrap_i64 (by omega)
 have v3:IntKind.wrap .i64 (fZ b-1)=fZ b-1:=wrap_i64 (by omega)
 conv in bh _ _=>cbv
 repeat' first|simp(disch:=omega)only[go_sem, *,v,hu,h4,Int.one_mul,v1,v2,v3]|apply ab<;>intro h<;>try omega|refine aq (qX h1 h2) rfl rfl ?_
theorem BB {t:Ty} {a:Fr} (h0:t.1=2) (ht:sW t.2.1 t.2.2.1 t.2.2.2.1 t.2.2.2.2):ac Ya 229 [Sl t,Un a] (Go.Abs.B (decide (a.2=1∧ -fZ t.2.1≤a.1∧a.1<fZ t.2.1))):=by
 refine ac.of BK (by simp) λ_=>aa ?_
 have p1:=jw t
 rw[if_pos ⟨h0,ht⟩]at p1
 have p2:=yI ht.1 ht.2.1
 have p3:=yG ht.1 ht.2.1
 obtain⟨k,b,f,r,o⟩:=t
 obtain⟨n,d⟩:=a
 simp only at h0 p1 p2 p3 ⊢
 clear ht
 conv in bh _ _=>cbv
 by_cases h:d=1∧ -fZ b≤n∧n<fZ b
 ·rw[decide_eq_true h]
  obtain⟨rfl,g1,g2⟩:=h
  have g3:n≤fZ b-1:=by omega
  clear g2
  repeat' first|simp(disch:=omega)only[go_sem]|((with_reducible refine ab ?_ ?_)<;>intro h<;>try first|omega|simp(disch:=omega)only[go_sem, *])|refine aq p1 rfl rfl ?_|refine aq p2 rfl rfl ?_|refine aq p3 rfl rfl ?_
  all_goals(simp[*];done)
 ·rw[decide_eq_false h]
  have H:=Lib.hid h
  clear h
  repeat' first|simp(disch:=omega)only[go_sem]|((with_reducible refine ab ?_ ?_)<;>intro h<;>try first|omega|simp(disch:=omega)only[go_sem, *])|refine aq p1 rfl rfl ?_|refine aq p2 rfl rfl ?_|refine aq p3 rfl rfl ?_
  all_goals(refine congrArg (λb=>Go.Abs.B b) ?_;rw[decide_eq_false];have:=H.out;omega)
theorem AM (n:Int):ac Ya 230 [I n] (Go.Abs.B (decide (-2147483647≤n∧n≤2147483647))):=by
 refine ac.of zZ (by simp) λ_=>aa ?_
 conv in bh _ _=>cbv
 repeat' first|simp(disch:=omega)only[go_sem, *]|apply ab<;>intro h<;>try omega
 all_goals(simp<;>omega)
theorem Bt {t:Ty} {a:Fr} (ht:kU t) (ha:pE a):ac Ya 201 [Sl t,Un a] (Go.Abs.B (decide (fR t a))):=by
 refine ac.of AU (by simp) λ_=>aa ?_
 have p1:=eO t
 rw[if_pos ht]at p1
 have p2:=AQ ha
 have p3:=AM a.1
 have p4:t.1=2→ac Ya 229 [Sl t,Un a] (Go.Abs.B (decide (fR t a))):= λh=>by
  have:=BB (a:=a) h (ht.elim (λh'=>by omega) λh'=>h'.2)
  rwa [show decide (a.2=1∧ -fZ t.2.1≤a.1∧a.1<fZ t.2.1)=decide (fR t a)from decide_eq_decide.2 (by unfold fR;rw[if_pos h])]at this
 have hk:t.1=1∨t.1=2∨t.1=3:=by rcases ht with⟨h,_⟩|⟨h,_⟩<;>omega
 obtain⟨k,b,f,r,o⟩:=t
 clear ht
 conv in bh _ _=>cbv
 simp only at hk
 rcases hk with rfl|rfl|rfl
 ·rw[show decide (fR (1,b,f,r,o) a)=decide (dq a)from decide_eq_decide.2 (by unfold fR;simp)]
  repeat' first|simp(disch:=omega)only[go_sem, *]|apply ab<;>intro h<;>try omega|refine aq p1 rfl rfl ?_|refine aq p2 rfl rfl ?_
 ·have p4:=p4 rfl
  repeat' first|simp(disch:=omega)only[go_sem, *]|apply ab<;>intro h<;>try omega|refine aq p1 rfl rfl ?_|refine aq p4 rfl rfl ?_
 ·obtain⟨n,d⟩:=a
  simp only at p3
  rw[show decide (fR (3,b,f,r,o) (n,d))=decide (d=1∧ -2147483647≤n∧n≤2147483647)from decide_eq_decide.2 (by unfold fR;simp)]
  clear p4 p2
  by_cases h:d=1
  ·subst h
   repeat' first|simp(disch:=omega)only[go_sem, *]|apply ab<;>intro h<;>try omega|refine aq p1 rfl rfl ?_|refine aq p3 rfl rfl ?_
   all_goals simp
  ·repeat' first|simp(disch:=omega)only[go_sem, *,h]|apply ab<;>intro h<;>try omega|refine aq p1 rfl rfl ?_|refine aq p3 rfl rfl ?_
   all_goals simp[h]
theorem H4 {t:Ty} {a:Fr} (ht:kU t) (ha:pE a):ac Ya 237 [Sl t,Un a] (Go.Abs.B (decide (fR t a))):=by
 refine ac.of Gg (by simp) λ_=>aa ?_
 obtain⟨k,b,f,r,o⟩:=t
 obtain⟨n,d⟩:=a
 obtain⟨⟨z,A⟩,N,O⟩:=ha
 simp only at z A N O
 conv in bh _ _=>cbv
 by_cases hk:k=2
 ·subst hk
  have u:sW b f r o:=ht.elim (λh'=>absurd h'.1 (by simp)) λh'=>h'.2
  have h3:=Eg u.1 u.2.1
  have h4:=FP u.1 u.2.1
  have F:=u.1
  have G:=u.2.1
  have v:IntKind.wrap .i64 (b-1)=b-1:=wrap_i64 (by omega)
  have J:IntKind.wrap .i64 (fZ b)=fZ b:=wrap_i64 (by omega)
  have L:IntKind.wrap .i64 (0-fZ b)= -fZ b:=by rw[Int.zero_sub];exact wrap_i64 (by omega)
  clear ht u
  rw[show decide (fR (2,b,f,r,o) (n,d))=decide (d=1∧ -fZ b≤n∧n<fZ b)from decide_eq_decide.2 (by unfold fR;simp)]
  by_cases h:d=1∧ -fZ b≤n∧n<fZ b
  ·rw[decide_eq_true h]
   obtain⟨rfl,g1,g2⟩:=h
   repeat' first|simp(disch:=omega)only[go_sem, *,wrap_i64,h4,v,Int.one_mul,J,L]|apply ab<;>intro h<;>try omega
  ·rw[decide_eq_false h]
   have H:=Lib.hid h
   clear h
   repeat' first|simp(disch:=omega)only[go_sem, *,wrap_i64,h4,v,Int.one_mul,J,L]|apply ab<;>intro h<;>try omega
   all_goals(refine congrArg (λb=>Go.Abs.B b) ?_;rw[decide_eq_false];have:=H.out;omega)
 ·have hv:fR (k,b,f,r,o) (n,d)↔(if k=3 then d=1∧ -2147483647≤n∧n≤2147483647 else dq (n,d)):=by unfold fR;simp only;rw[if_neg hk]
  by_cases h1:1≤d
  ·by_cases h2:d≤2147483647
   ·by_cases h3: -2147483647≤n∧n≤2147483647
    ·have e:max n (0-n)=(n.natAbs:Int):=by omega
     have e2:d=(d.natAbs:Int):=by omega
     have p2:=Fb n.natAbs d.natAbs
     rw[←e2]at p2
     clear e2
     by_cases E:k=3
     ·subst E
      rw[show decide (fR (3,b,f,r,o) (n,d))=decide (d=1)from decide_eq_decide.2 (by rw[hv,if_pos rfl];simp[h3])]
      clear hv ht p2 e
      repeat' first|simp(disch:=omega)only[go_sem, *,wrap_i64]|apply ab<;>intro h<;>try omega
     ·rw[show decide (fR (k,b,f,r,o) (n,d))=decide (dq (n,d))from decide_eq_decide.2 (by rw[hv,if_neg E])]
      clear hv ht
      repeat' first|simp(disch:=omega)only[go_sem, *,e,wrap_i64,hk,E,↓reduceIte]|apply ab<;>intro h<;>try omega|refine aq p2 rfl rfl ?_
      rw[show decide (((n.natAbs.gcd d.natAbs:Nat):Int)=1)=decide (dq (n,d)) by rw[decide_eq_decide];simp only[dq];omega]
    ·rw[decide_eq_false (show ¬fR (k,b,f,r,o) (n,d) by rw[hv];unfold dq;simp only;split<;>omega)]
     clear hv ht
     repeat' first|simp(disch:=omega)only[go_sem, *,hk]|apply ab<;>intro h<;>try omega
   ·rw[decide_eq_false (show ¬fR (k,b,f,r,o) (n,d) by rw[hv];unfold dq;simp only;split<;>omega)]
    clear hv ht
    repeat' first|simp(disch:=omega)only[go_sem, *,hk]|apply ab<;>intro h<;>try omega
  ·rw[decide_eq_false (show ¬fR (k,b,f,r,o) (n,d) by rw[hv];unfold dq;simp only;split<;>omega)]
   clear hv ht
   repeat' first|simp(disch:=omega)only[go_sem, *,hk]|apply ab<;>intro h<;>try omega
end
end Go.Proofs.YtiapgekjmcjjgaaGreatDoor
