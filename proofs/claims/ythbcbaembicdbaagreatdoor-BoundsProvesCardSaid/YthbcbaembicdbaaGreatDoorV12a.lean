import Derived.Test.YthbcbaembicdbaaGreatDoorV01b
set_option linter.unusedVariables false
set_option linter.unusedSimpArgs false
set_option maxRecDepth 20000
set_option maxHeartbeats 4000000
set_option maxRecDepth 1000000
namespace Go.Proofs.YthbcbaembicdbaaGreatDoor
open Go.Abs Go.RowKit
noncomputable section
theorem yF {a b:Int} (ha:ay a) (hb:ay b):ac Tryz.prog DX [I a,I b] (aOk (gC (a+b))):=by
 refine ac.of LP (by simp) fun _=>aa ?_
 obtain⟨ha1,ha2⟩:=ha
 obtain⟨hb1,hb2⟩:=hb
 conv in C6=>cbv
 repeat' first|simp(disch:=omega) only[go_sem, *,wrap_i64]|((with_reducible apply ab)<;>intro h<;>try omega)
 all_goals first
  |omega
  |rw[sQ (by unfold ay;omega)]
  |rw[zV (by unfold ay;omega)]
theorem vO {a b:Int} (ha:ay a) (hb:ay b):ac Tryz.prog AK [I a,I b] (aOk (gC (a*b))):=by
 refine ac.of Jt (by simp) fun _=>aa ?_
 obtain⟨ha1,ha2⟩:=ha
 obtain⟨hb1,hb2⟩:=hb
 conv in AF=>cbv
 repeat' first|simp(disch:=omega) only[go_sem, *]|((with_reducible apply ab)<;>intro h<;>try omega)
 all_goals first
  |(simp[gC,ay];done)
  |(rw[sQ (by unfold ay;omega)];done)
  |(rw[zV (by unfold ay;omega)];done)
  |rw[zV (fun hc=>h ((Cq (by unfold ay;omega) (by unfold ay;omega) (by omega) (by omega)).2 hc))]
  |(have hc:=(Cq (by unfold ay;omega) (by unfold ay;omega) (by omega) (by omega)).1 h;rw[sQ hc,wrap_i64 hc])
def yg:List ByteArray:= [⟨⟨[115,105,122,101]⟩⟩,⟨⟨[119,104,101,114,101]⟩⟩,⟨⟨[105,110]⟩⟩,⟨⟨[100,101,102]⟩⟩,⟨⟨[111,117,116]⟩⟩,⟨⟨[115,117,109]⟩⟩,⟨⟨[112,114,111,100]⟩⟩,⟨⟨[109,105,110]⟩⟩,⟨⟨[109,97,120]⟩⟩,⟨⟨[115,99,97,110]⟩⟩,⟨⟨[111,118,101,114]⟩⟩,⟨⟨[105,102]⟩⟩,⟨⟨[99,97,115,116]⟩⟩,⟨⟨[102,114,97,99]⟩⟩,⟨⟨[105,110,116]⟩⟩,⟨⟨[102,105,120]⟩⟩,⟨⟨[99,101,105,108]⟩⟩,⟨⟨[102,108,111,111,114]⟩⟩,⟨⟨[122,101,114,111]⟩⟩,⟨⟨[101,118,101,110]⟩⟩,⟨⟨[115,97,116]⟩⟩,⟨⟨[119,114,97,112]⟩⟩]
theorem FB:ac Tryz.prog AI [] (mO yg):=by
 refine ac.of Jf (by simp) fun _=>aa ?_
 conv in zM=>cbv
 repeat' first|simp(disch:=omega) only[go_sem, *]|((with_reducible apply ab)<;>intro h<;>try omega)
 rfl
theorem ij (xs:List ByteArray) (s:ByteArray):ac Tryz.prog Fi [mO xs,S s] (Go.Abs.B (decide (s∈xs))):=by
 refine ac.of NS (by simp) fun hb=>aa ?_
 have hx:xs.length≤9223372036854775807:=by simpa[tp,i5,jS]using hb.1
 conv in GU=>cbv
 repeat' first|simp(disch:=omega) only[go_sem, *]|((with_reducible apply ab)<;>intro h<;>try omega)
 refine an (fun k:Nat=>⟨[(5,I k),(0,mO xs),(1,S s)], [],0,0⟩) (fun k=>k≤xs.length∧ ∀j (h:j<xs.length),j<k→xs[j]≠s) (fun k=>xs.length-k) ⟨0, [],⟨by omega,fun j h h'=>by omega⟩,by simp⟩ ?_
 rintro k ⟨hk,hall⟩
 refine aa ?_
 by_cases hlt:k<xs.length
 ·repeat' first|simp(disch:=omega) only[go_sem, *,ah hlt,Option.map_some,wrap_i64]|((with_reducible apply ab)<;>intro h<;>try omega)
  ·have:s∈xs:=by subst h;exact List.getElem_mem hlt
   simp[this]
  ·refine⟨k+1, [],⟨by omega,fun j hj hj'=> ?_⟩,by omega,by simp⟩
   by_cases e:j=k
   ·subst e;exact h
   ·exact hall j hj (by omega)
 ·repeat' first|simp(disch:=omega) only[go_sem, *]|((with_reducible apply ab)<;>intro h<;>try omega)
  have: ¬s∈xs:=fun hm=>by
   obtain⟨j,hj,e⟩:=List.mem_iff_getElem.1 hm
   exact hall j hj (by omega) e
  simp[this]
theorem B6 (s:ByteArray):ac Tryz.prog v8 [S s] (Go.Abs.B (decide (s∈yg))):=by
 refine ac.of EQ (by simp) fun _=>aa ?_
 conv in vU=>cbv
 repeat' first|simp(disch:=omega) only[go_sem, *]|((with_reducible apply ab)<;>intro h<;>try omega)
 all_goals simp[yg, *]
set_option maxRecDepth 20000
set_option maxRecDepth 1000000
def w3 (i:Nat) (c:UInt8):Prop:=(97≤c.toNat∧c.toNat≤122)∨(0<i∧((48≤c.toNat∧c.toNat≤57)∨c.toNat=95))
instance (i:Nat) (c:UInt8):Decidable (w3 i c):=by unfold w3;infer_instance
def gc (s:ByteArray):Prop:=1≤s.size∧s.size≤16∧ ¬s∈yg∧ ∀i (h:i<s.size),w3 i s[i]
instance (s:ByteArray):Decidable (gc s):=Classical.propDecidable _
theorem gn (s:ByteArray):ac Tryz.prog DU [S s] (Go.Abs.B (decide (gc s))):=by
 refine ac.of LA (by simp) fun hb=>aa ?_
 conv in DH=>cbv
 repeat' first|simp(disch:=omega) only[go_sem, *]|((with_reducible apply ab)<;>intro h<;>try omega)|(refine cg FB rfl rfl ?_)|(refine aF (ij _ _) rfl rfl ?_)
 ·rw[decide_eq_false];rintro⟨h1,_⟩;omega
 ·rw[decide_eq_false];rintro⟨_,h1,_⟩;omega
 ·rw[decide_eq_false];rintro⟨_,_,h1,_⟩;exact h1 h
 ·refine an (fun k:Nat=>⟨[(3,I k),(0,S s)], [],0,0⟩) (fun k=>k≤s.size∧el (fun j=> ∀h:j<s.size,w3 j s[j]) k) (fun k=>s.size-k) ⟨0, [],⟨by omega,.zero⟩,by simp⟩ ?_
  rintro k ⟨hk,hall⟩
  refine aa ?_
  by_cases hlt:k<s.size
  ·repeat' first|simp(disch:=omega) only[go_sem, *,getElem?_pos s k hlt,wrap_i64]|((with_reducible apply ab)<;>intro h<;>try omega)
   all_goals first
    |(refine⟨k+1, [],⟨by omega,hall.succ fun _=> ?_⟩,by omega,by simp⟩;unfold w3;omega)
    |(rw[decide_eq_false];rintro⟨_,_,_,h4⟩;have:=h4 k hlt;unfold w3 at this;omega)
  ·repeat' first|simp(disch:=omega) only[go_sem, *]|((with_reducible apply ab)<;>intro h<;>try omega)
   rw[decide_eq_true]
   exact⟨by omega,by omega,‹_›,fun i hi=>hall i (by omega) hi⟩
theorem iX (s:ByteArray):ac Tryz.prog qy [S s] (Go.Abs.B (decide (gc s))):=by
 refine ac.of zW (by simp) fun hb=>aa ?_
 conv in qD=>cbv
 by_cases h0:s.size<1
 ·repeat' first|simp(disch:=omega) only[go_sem, *]|((with_reducible apply ab)<;>intro h<;>try omega)
  rw[decide_eq_false];rintro⟨h1,_⟩;omega
 have hpos:0<s.size:=by omega
 repeat' first|simp(disch:=omega) only[go_sem, *,getElem?_pos s 0 hpos,Int.toNat_zero]|((with_reducible apply ab)<;>intro h<;>try omega)|(refine aF (B6 _) rfl rfl ?_)
 ·rw[decide_eq_false];rintro⟨_,h1,_⟩;omega
 ·rw[decide_eq_false];rintro⟨_,_,h1,_⟩;exact h1 h
 ·rw[decide_eq_false];rintro⟨_,_,_,h4⟩;have:=h4 0 hpos;unfold w3 at this;omega
 ·rw[decide_eq_false];rintro⟨_,_,_,h4⟩;have:=h4 0 hpos;unfold w3 at this;omega
 ·refine an (fun k:Nat=>⟨[(29,I k),(28,I s.size),(0,S s)], [],0,0⟩) (fun k=>k≤s.size∧el (fun j=> ∀h:j<s.size,w3 (j+1) s[j]) k) (fun k=>s.size-k) ⟨0, [],⟨by omega,.zero⟩,by simp⟩ ?_
  rintro k ⟨hk,hall⟩
  refine aa ?_
  by_cases hlt:k<s.size
  ·repeat' first|simp(disch:=omega) only[go_sem, *,getElem?_pos s k hlt,wrap_i64]|((with_reducible apply ab)<;>intro h<;>try omega)
   all_goals first
    |(refine⟨k+1, [],⟨by omega,hall.succ fun _=> ?_⟩,by omega,by simp⟩;unfold w3;omega)
    |(rw[decide_eq_false];rintro⟨_,_,_,h4⟩;have:=h4 k hlt;unfold w3 at this;omega)
  ·repeat' first|simp(disch:=omega) only[go_sem, *]|((with_reducible apply ab)<;>intro h<;>try omega)
   rw[decide_eq_true]
   refine⟨by omega,by omega,‹_›,fun i hi=> ?_⟩
   have h5:=hall i (by omega) hi
   by_cases e:i=0
   ·subst e;unfold w3;omega
   ·unfold w3 at h5 ⊢;omega
abbrev bJ:=ByteArray×Int
def mP (m:bJ):List PC:= [pS m.1,pI m.2]
abbrev aw (l:List bJ):PC:=du mP l
abbrev bY:=Int×List bJ
abbrev bt:=bY×Bool
abbrev dm (k:Int) (l:List bJ):AV:= .agg [.pure (pI k),.pure (aw l)]
def cn (a b:ByteArray):Bool:=Op.bytesLess a.toList b.toList
def Rf (l:List bJ) (i:Nat):Prop:= ∀h:i<l.length,gc l[i].1∧l[i].2≠0∧(0<i→cn l[i-1].1 l[i].1=true)
def bi (l:List bJ):Prop:=el (Rf l) l.length
instance (l:List bJ):Decidable (bi l):=Classical.propDecidable _
theorem wN {k:Int} {l:List bJ} (h:i5 (dm k l)):l.length≤9223372036854775807:=by simpa[i5,rF,jS]using h
set_option maxRecDepth 20000 in
theorem d9 (c:Int) (l:List bJ):ac Tryz.prog s7 [dm c l] (Go.Abs.B (decide (bi l))):=by
 refine ac.of Cy (by simp) fun hb=>aa ?_
 have hl:=wN hb.1
 simp only[s9]
 repeat' first|simp(disch:=omega) only[go_sem, *]|((with_reducible apply ab)<;>intro h<;>try omega)
 refine an (fun k:Nat=>⟨[(3,I k),(1,.c (.ptr 0 0))], [(0,.var [.pure (pI c),.pure (aw l)])],1,0⟩) (fun k=>k≤l.length∧el (Rf l) k) (fun k=>l.length-k) ⟨0, [],⟨by omega,.zero⟩,by simp⟩ ?_
 rintro k ⟨hk,hall⟩
 refine aa ?_
 by_cases hlt:k<l.length
 ·by_cases h0:0<k
  ·have hl1:k-1<l.length:=by omega
   have e1:((k:Int)-1).toNat=k-1:=by omega
   repeat' first|simp(disch:=omega) only[go_sem, *,List.drop_succ_cons,List.drop_zero,ah hlt,ah hl1,mP,wrap_i64,e1]|((with_reducible apply ab)<;>intro h<;>try omega)|(refine aF (gn _) rfl rfl ?_)
   ·rw[decide_eq_false]
    intro hc
    exact(hc k hlt hlt).2.1 h
   ·refine⟨k+1, [],⟨by omega,hall.succ fun _=>⟨‹_›,‹_›,fun _=>h⟩⟩,by omega,by simp⟩
   ·rw[decide_eq_false]
    intro hc
    have:=(hc k hlt hlt).2.2 h0
    rw[cn,h]at this
    cases this
   ·rw[decide_eq_false]
    intro hc
    exact h (hc k hlt hlt).1
  ·repeat' first|simp(disch:=omega) only[go_sem, *,List.drop_succ_cons,List.drop_zero,ah hlt,mP,wrap_i64]|((with_reducible apply ab)<;>intro h<;>try omega)|(refine aF (gn _) rfl rfl ?_)
   ·rw[decide_eq_false]
    intro hc
    exact(hc k hlt hlt).2.1 h
   ·refine⟨k+1, [],⟨by omega,hall.succ fun _=>⟨‹_›,‹_›,fun _=>by omega⟩⟩,by omega,by simp⟩
   ·rw[decide_eq_false]
    intro hc
    exact h (hc k hlt hlt).1
 ·repeat' first|simp(disch:=omega) only[go_sem, *,List.drop_succ_cons,List.drop_zero]|((with_reducible apply ab)<;>intro h<;>try omega)
  rw[decide_eq_true]
  have:k=l.length:=by omega
  rw[this]at hall
  exact hall
theorem iM (c:Int) (l:List bJ):ac Tryz.prog rL [dm c l] (I (if bi l then 0 else 1)):=by
 refine ac.of zU (by simp) fun hb=>aa ?_
 conv in qO=>cbv
 repeat' first|simp(disch:=omega) only[go_sem, *,↓List.drop_zero,↓List.take_succ_cons,↓List.take_zero]|((with_reducible apply ab)<;>intro h<;>try omega)|(refine aF (d9 c l) rfl rfl ?_)
 all_goals simp[*]
set_option maxRecDepth 20000 in
theorem cE (c:Int) (l:List bJ):ac Tryz.prog ui [dm c l] (I (if bi l then 0 else 1)):=by
 refine ac.of EL (by simp) fun hb=>aa ?_
 have hl:=wN hb.1
 conv in uE=>cbv
 repeat' first|simp(disch:=omega) only[go_sem, *,List.drop_succ_cons,List.drop_zero]|((with_reducible apply ab)<;>intro h<;>try omega)
 refine an (fun k:Nat=>⟨[(8,I k),(7,I l.length),(6,.c (.pure (aw l))),(1,.c (.ptr 0 0))], [(0,.var [.pure (pI c),.pure (aw l)])],1,0⟩) (fun k=>k≤l.length∧el (Rf l) k) (fun k=>l.length-k) ⟨0, [],⟨by omega,.zero⟩,by simp⟩ ?_
 rintro k ⟨hk,hall⟩
 refine aa ?_
 by_cases hlt:k<l.length
 ·by_cases h0:0<k
  ·have hl1:k-1<l.length:=by omega
   have e1:((k:Int)-1).toNat=k-1:=by omega
   repeat' first|simp(disch:=omega) only[go_sem, *,List.drop_succ_cons,List.drop_zero,List.take_succ_cons,List.take_zero,ah hlt,ah hl1,mP,wrap_i64,e1]|((with_reducible apply ab)<;>intro h<;>try omega)|(refine aF (iX _) rfl rfl ?_)
   ·rw[if_neg fun hc=>(hc k hlt hlt).2.1 h]
   ·refine⟨k+1, [],⟨by omega,hall.succ fun _=>⟨‹_›,‹_›,fun _=>h⟩⟩,by omega,by simp⟩
   ·rw[if_neg fun hc=> ?_]
    have:=(hc k hlt hlt).2.2 h0
    rw[cn,h]at this
    cases this
   ·rw[if_neg fun hc=>h (hc k hlt hlt).1]
  ·repeat' first|simp(disch:=omega) only[go_sem, *,ah hlt,mP,wrap_i64]|((with_reducible apply ab)<;>intro h<;>try omega)|(refine aF (iX _) rfl rfl ?_)
   ·rw[if_neg fun hc=>(hc k hlt hlt).2.1 h]
   ·refine⟨k+1, [],⟨by omega,hall.succ fun _=>⟨‹_›,‹_›,fun _=>by omega⟩⟩,by omega,by simp⟩
   ·rw[if_neg fun hc=>h (hc k hlt hlt).1]
 ·repeat' first|simp(disch:=omega) only[go_sem, *]|((with_reducible apply ab)<;>intro h<;>try omega)
  rw[if_pos]
  have:k=l.length:=by omega
  rw[this]at hall
  exact hall
set_option maxRecDepth 20000
set_option maxRecDepth 1000000
theorem fZ {e sz bytes:Nat} {y:AV} {rows ys:List (List PC)} {σ:St} {K:nR (AV→St→Prop)} (h0:bl sz rows) (hok:bl sz ys) (h1:(rows.length+ys.length)*bytes≤140737488355328) (h2:rows.length+ys.length≤140737488355328)
  (hk:K.out (.c (.pure (.slice (rows++ys)))) σ): @Eb e sz bytes (.c (.tsl rows)) y ys σ K:=⟨hok,.inr (.inr ⟨rows,rfl,h0,.inr (.inl ⟨h1,h2,hk⟩)⟩)⟩
theorem dI {e sz bytes:Nat} {y:AV} {rows:List (List PC)} {σ:St} {K:nR (AV→St→Prop)} (h0:bl sz rows) (hk:K.out (.c (.tsl rows)) σ): @Eb e sz bytes (.c (.tsl rows)) y [] σ K:=⟨(by intro r hr;cases hr),.inr (.inr ⟨rows,rfl,h0,.inr (.inr ⟨rfl,hk⟩)⟩)⟩
theorem dv {e sz bytes:Nat} {y:AV} {rows ys:List (List PC)} {σ:St} {K:nR (AV→St→Prop)} (h0:bl sz rows) (hok:bl sz ys) (hne:ys≠ []) (h1:(rows.length+ys.length)*bytes≤140737488355328) (h2:rows.length+ys.length≤140737488355328)
  (hk:K.out (.c (.ref σ.nx)) {σ with mem:=(σ.nx,.arr e sz (rows++ys))::σ.mem,nx:=σ.nx+1}): @Eb e sz bytes (.c (.tsl rows)) y ys σ K:=⟨hok,.inr (.inr ⟨rows,rfl,h0,.inl ⟨hne,h1,h2,hk⟩⟩)⟩
def cP (c:bt):List PC:= [pI c.1.1,aw c.1.2,pB c.2]
abbrev jM (c:bt):AV:= .agg [.pure (pI c.1.1),.pure (aw c.1.2),.pure (pB c.2)]
abbrev abL (x:bt×Int):AV:= .tup [jM x.1,I x.2]
abbrev bT (l:List bt):AV:=j5 cP l
theorem b8 (c:bt):ac Tryz.prog kk [jM c] (I (if bi c.1.2 then 0 else 1)):=by
 refine ac.of sA (by simp) fun _=>aa ?_
 conv in kc=>cbv
 repeat' first|simp(disch:=omega) only[go_sem, *]|((with_reducible apply ab)<;>intro h<;>try omega)|(refine aF (cE _ _) rfl rfl ?_)
set_option maxRecDepth 20000
set_option maxRecDepth 1000000
abbrev Ty:=Int×Int×Int×Int×Int
abbrev XM (t:Ty):List PC:= [pI t.1,pI t.2.1,pI t.2.2.1,pI t.2.2.2.1,pI t.2.2.2.2]
abbrev ZS (t:Ty):AV:= .agg [.pure (pI t.1),.pure (pI t.2.1),.pure (pI t.2.2.1),.pure (pI t.2.2.2.1),.pure (pI t.2.2.2.2)]
def xC (b f r o:Int):Prop:=2≤b∧b≤31∧0≤f∧f≤30∧1≤r∧r≤4∧(o=1∨o=2)
def nb (t:Ty):Prop:=((t.1=1∨t.1=3)∧t.2.1=0∧t.2.2.1=0∧t.2.2.2.1=0∧t.2.2.2.2=0)∨(t.1=2∧xC t.2.1 t.2.2.1 t.2.2.2.1 t.2.2.2.2)
instance (b f r o:Int):Decidable (xC b f r o):=by unfold xC;infer_instance
instance (t:Ty):Decidable (nb t):=Classical.propDecidable _
def gr (b:Int):Int:=2^(b-1).toNat
def fY (t:Ty) (a:Fr):Prop:=if t.1=2 then a.2=1∧ -gr t.2.1≤a.1∧a.1<gr t.2.1 else if t.1=3 then a.2=1∧ -2147483647≤a.1∧a.1≤2147483647 else dk a
instance (t:Ty) (a:Fr):Decidable (fY t a):=Classical.propDecidable _
theorem My {b:Int} (h1:2≤b) (h2:b≤31):1≤gr b∧gr b≤1073741824:=by
 obtain⟨n,rfl⟩: ∃n:Nat,b=n:=⟨b.toNat,by omega⟩
 have h3:n≤31:=by omega
 have h4:2≤n:=by omega
 clear h1 h2
 have key: ∀m:Fin 32,2≤m.val→(1:Int)≤gr (m.val:Int)∧gr (m.val:Int)≤1073741824:=by decide+kernel
 exact key ⟨n,by omega⟩ h4
theorem MB {b:Int} (h1:2≤b) (h2:b≤31):(2:Int)^(min (b-1).toNat 64)=gr b:=by
 rw[gr,Nat.min_eq_left (by omega)]
theorem Iq (t:Ty):ac Tryz.prog yw [ZS t] (Go.Abs.B (decide (t.2.1=0∧t.2.2.1=0∧t.2.2.2.1=0∧t.2.2.2.2=0))):=by
 refine ac.of He (by simp) fun _=>aa ?_
 conv in yo=>cbv
 repeat' first|simp(disch:=omega) only[go_sem, *]|((with_reducible apply ab)<;>intro h<;>try omega)
 refine congrArg (fun b=>Go.Abs.B b) ?_
 rw[Bool.eq_iff_iff]
 simp[BI]
theorem kg (t:Ty):ac Tryz.prog lZ [ZS t] (I (if t.1=2∧xC t.2.1 t.2.2.1 t.2.2.2.1 t.2.2.2.2 then 0 else 10)):=by
 refine ac.of tK (by simp) fun _=>aa ?_
 conv in lI=>cbv
 obtain⟨k,b,f,r,o⟩:=t
 simp only
 repeat' first|simp(disch:=omega) only[go_sem, *]|((with_reducible apply ab)<;>intro h<;>try omega)
 all_goals first
  |(rw[if_neg];unfold xC;omega)
  |(rw[if_pos];unfold xC;omega)
  |(simp;done)
theorem eU (t:Ty):ac Tryz.prog lk [ZS t] (I (if nb t then 0 else 10)):=by
 refine ac.of tJ (by simp) fun _=>aa ?_
 have p1:=Iq t
 have p2:=kg t
 obtain⟨k,b,f,r,o⟩:=t
 simp only at p1 p2
 conv in lF=>cbv
 by_cases g1:b=0∧f=0∧r=0∧o=0
 ·rw[decide_eq_true g1]at p1
  by_cases g2:k=2∧xC b f r o
  ·exfalso;have:=g2.2.1;omega
  ·rw[if_neg g2]at p2
   by_cases g3:k=1∨k=3
   ·rw[if_pos (show nb (k,b,f,r,o)from .inl ⟨g3,g1⟩)]
    clear g1 g2
    rcases g3 with rfl|rfl
    ·repeat' first|simp(disch:=omega) only[go_sem, *]|((with_reducible apply ab)<;>intro h<;>try omega)|(refine aF p1 rfl rfl ?_)|(refine aF p2 rfl rfl ?_)
    ·repeat' first|simp(disch:=omega) only[go_sem, *]|((with_reducible apply ab)<;>intro h<;>try omega)|(refine aF p1 rfl rfl ?_)|(refine aF p2 rfl rfl ?_)
   ·rw[if_neg (show ¬nb (k,b,f,r,o)from fun h=>h.elim (fun h=>g3 h.1) g2)]
    clear g1 g2
    by_cases hk:k=2
    ·subst hk
     repeat' first|simp(disch:=omega) only[go_sem, *]|((with_reducible apply ab)<;>intro h<;>try omega)|(refine aF p1 rfl rfl ?_)|(refine aF p2 rfl rfl ?_)
    ·repeat' first|simp(disch:=omega) only[go_sem, *,hk]|((with_reducible apply ab)<;>intro h<;>try omega)|(refine aF p1 rfl rfl ?_)|(refine aF p2 rfl rfl ?_)
 ·rw[decide_eq_false g1]at p1
  by_cases g2:k=2∧xC b f r o
  ·rw[if_pos g2]at p2
   rw[if_pos (show nb (k,b,f,r,o)from .inr g2)]
   obtain⟨rfl,_⟩:=g2
   clear g1
   repeat' first|simp(disch:=omega) only[go_sem, *]|((with_reducible apply ab)<;>intro h<;>try omega)|(refine aF p1 rfl rfl ?_)|(refine aF p2 rfl rfl ?_)
  ·rw[if_neg g2]at p2
   rw[if_neg (show ¬nb (k,b,f,r,o)from fun h=>h.elim (fun h=>g1 h.2) g2)]
   clear g1 g2
   by_cases hk:k=2
   ·subst hk
    repeat' first|simp(disch:=omega) only[go_sem, *]|((with_reducible apply ab)<;>intro h<;>try omega)|(refine aF p1 rfl rfl ?_)|(refine aF p2 rfl rfl ?_)
   ·by_cases h1:k=1
    ·subst h1
     repeat' first|simp(disch:=omega) only[go_sem, *]|((with_reducible apply ab)<;>intro h<;>try omega)|(refine aF p1 rfl rfl ?_)|(refine aF p2 rfl rfl ?_)
    ·by_cases h3:k=3
     ·subst h3
      repeat' first|simp(disch:=omega) only[go_sem, *]|((with_reducible apply ab)<;>intro h<;>try omega)|(refine aF p1 rfl rfl ?_)|(refine aF p2 rfl rfl ?_)
     ·repeat' first|simp(disch:=omega) only[go_sem, *,hk,h1,h3]|((with_reducible apply ab)<;>intro h<;>try omega)|(refine aF p1 rfl rfl ?_)|(refine aF p2 rfl rfl ?_)
theorem bW (t:Ty):ac Tryz.prog Dm [ZS t] (Go.Abs.B (decide (nb t))):=by
 refine ac.of Lh (by simp) fun _=>aa ?_
 obtain⟨k,b,f,r,o⟩:=t
 conv in DW=>cbv
 by_cases h:nb (k,b,f,r,o)
 ·rw[decide_eq_true h]
  rcases h with⟨h,rfl,rfl,rfl,rfl⟩|⟨h,g1,g2,g3,g4,g5,g6,g7⟩
  ·simp only at h
   rcases h with rfl|rfl
   ·repeat' first|simp(disch:=omega) only[go_sem, *]|((with_reducible apply ab)<;>intro h<;>try omega)
   ·repeat' first|simp(disch:=omega) only[go_sem, *]|((with_reducible apply ab)<;>intro h<;>try omega)
  ·simp only at h g1 g2 g3 g4 g5 g6 g7
   subst h
   rcases g7 with rfl|rfl
   ·repeat' first|simp(disch:=omega) only[go_sem, *]|((with_reducible apply ab)<;>intro h<;>try omega)
   ·repeat' first|simp(disch:=omega) only[go_sem, *]|((with_reducible apply ab)<;>intro h<;>try omega)
 ·rw[decide_eq_false h]
  have h': ¬((k=1∨k=3)∧b=0∧f=0∧r=0∧o=0):=fun g=>h (.inl g)
  have h2: ¬(k=2∧2≤b∧b≤31∧0≤f∧f≤30∧1≤r∧r≤4∧(o=1∨o=2)):=fun g=>h (.inr g)
  clear h
  have H1:=Lib.hid h'
  have H2:=Lib.hid h2
  clear h' h2
  repeat' first|simp(disch:=omega) only[go_sem, *]|((with_reducible apply ab)<;>intro h<;>try omega)
  all_goals first
   |(refine congrArg (fun b=>Go.Abs.B b) ?_;rw[decide_eq_false];have:=H1.out;have:=H2.out;omega)
   |(exfalso;have:=H1.out;have:=H2.out;omega)
theorem vD {b:Int} (h1:2≤b) (h2:b≤31):ac Tryz.prog yA [I b] (Go.Abs.B true):=by
 refine ac.of Gl (by simp) fun _=>aa ?_
 conv in yt=>cbv
 repeat' first|simp(disch:=omega) only[go_sem, *]|((with_reducible apply ab)<;>intro h<;>try omega)
theorem EA {b:Int} (h1:2≤b) (h2:b≤31):ac Tryz.prog vd [I b] (I (-gr b)):=by
 refine ac.of ED (by simp) fun _=>aa ?_
 have h3:=My h1 h2
 have h4:=MB h1 h2
 have hu:IntKind.wrap .u64 (b-1)=b-1:=by rw[IntKind.wrap_u64];omega
 have hm1:IntKind.wrap .i64 (b-1)=b-1:=wrap_i64 (by omega)
 have v1:IntKind.wrap .i64 (gr b)=gr b:=wrap_i64 (by omega)
 have v2:IntKind.wrap .i64 (0-gr b)= -gr b:=by rw[Int.zero_sub];exact wrap_i64 (by omega)
 have v3:IntKind.wrap .i64 (gr b-1)=gr b-1:=wrap_i64 (by omega)
 conv in vg=>cbv
 repeat' first|simp(disch:=omega) only[go_sem, *,hm1,hu,h4,Int.one_mul,v1,v2,v3]|((with_reducible apply ab)<;>intro h<;>try omega)|(refine aF (vD h1 h2) rfl rfl ?_)
theorem Et {b:Int} (h1:2≤b) (h2:b≤31):ac Tryz.prog uF [I b] (I (gr b-1)):=by
 refine ac.of EN (by simp) fun _=>aa ?_
 have h3:=My h1 h2
 have h4:=MB h1 h2
 have hu:IntKind.wrap .u64 (b-1)=b-1:=by rw[IntKind.wrap_u64];omega
 have hm1:IntKind.wrap .i64 (b-1)=b-1:=wrap_i64 (by omega)
 have v1:IntKind.wrap .i64 (gr b)=gr b:=wrap_i64 (by omega)
 have v2:IntKind.wrap .i64 (0-gr b)= -gr b:=by rw[Int.zero_sub];exact wrap_i64 (by omega)
 have v3:IntKind.wrap .i64 (gr b-1)=gr b-1:=wrap_i64 (by omega)
 conv in wg=>cbv
 repeat' first|simp(disch:=omega) only[go_sem, *,hm1,hu,h4,Int.one_mul,v1,v2,v3]|((with_reducible apply ab)<;>intro h<;>try omega)|(refine aF (vD h1 h2) rfl rfl ?_)
theorem GZ {t:Ty} {a:Fr} (h0:t.1=2) (ht:xC t.2.1 t.2.2.1 t.2.2.2.1 t.2.2.2.2):ac Tryz.prog qe [ZS t,aFr a] (Go.Abs.B (decide (a.2=1∧ -gr t.2.1≤a.1∧a.1<gr t.2.1))):=by
 refine ac.of G5 (by simp) fun _=>aa ?_
 have p1:=kg t
 rw[if_pos ⟨h0,ht⟩]at p1
 have p2:=EA ht.1 ht.2.1
 have p3:=Et ht.1 ht.2.1
 obtain⟨k,b,f,r,o⟩:=t
 obtain⟨n,d⟩:=a
 simp only at h0 p1 p2 p3 ⊢
 clear ht
 conv in xv=>cbv
 by_cases h:d=1∧ -gr b≤n∧n<gr b
 ·rw[decide_eq_true h]
  obtain⟨rfl,g1,g2⟩:=h
  have g3:n≤gr b-1:=by omega
  clear g2
  repeat' first|simp(disch:=omega) only[go_sem]|((with_reducible refine ab ?_ ?_)<;>intro h<;>try first|omega|simp(disch:=omega) only[go_sem, *])|(refine aF p1 rfl rfl ?_)|(refine aF p2 rfl rfl ?_)|(refine aF p3 rfl rfl ?_)
  all_goals(simp[*];done)
 ·rw[decide_eq_false h]
  have H:=Lib.hid h
  clear h
  repeat' first|simp(disch:=omega) only[go_sem]|((with_reducible refine ab ?_ ?_)<;>intro h<;>try first|omega|simp(disch:=omega) only[go_sem, *])|(refine aF p1 rfl rfl ?_)|(refine aF p2 rfl rfl ?_)|(refine aF p3 rfl rfl ?_)
  all_goals(refine congrArg (fun b=>Go.Abs.B b) ?_;rw[decide_eq_false];have:=H.out;omega)
theorem Fy (n:Int):ac Tryz.prog yh [I n] (Go.Abs.B (decide (-2147483647≤n∧n≤2147483647))):=by
 refine ac.of FQ (by simp) fun _=>aa ?_
 conv in xe=>cbv
 repeat' first|simp(disch:=omega) only[go_sem, *]|((with_reducible apply ab)<;>intro h<;>try omega)
 all_goals(simp<;>omega)
theorem Hf {t:Ty} {a:Fr} (ht:nb t) (ha:tL a):ac Tryz.prog yn [ZS t,aFr a] (Go.Abs.B (decide (fY t a))):=by
 refine ac.of It (by simp) fun _=>aa ?_
 have p1:=eU t
 rw[if_pos ht]at p1
 have p2:=Gt ha
 have p3:=Fy a.1
 have p4:t.1=2→ac Tryz.prog qe [ZS t,aFr a] (Go.Abs.B (decide (fY t a))):=fun h=>by
  have:=GZ (a:=a) h (ht.elim (fun h'=>by omega) fun h'=>h'.2)
  rwa [show decide (a.2=1∧ -gr t.2.1≤a.1∧a.1<gr t.2.1)=decide (fY t a)from decide_eq_decide.2 (by unfold fY;rw[if_pos h])]at this
 have hk:t.1=1∨t.1=2∨t.1=3:=by rcases ht with⟨h,_⟩|⟨h,_⟩<;>omega
 obtain⟨k,b,f,r,o⟩:=t
 clear ht
 conv in xg=>cbv
 simp only at hk
 rcases hk with rfl|rfl|rfl
 ·rw[show decide (fY (1,b,f,r,o) a)=decide (dk a)from decide_eq_decide.2 (by unfold fY;simp)]
  repeat' first|simp(disch:=omega) only[go_sem, *]|((with_reducible apply ab)<;>intro h<;>try omega)|(refine aF p1 rfl rfl ?_)|(refine aF p2 rfl rfl ?_)
 ·have p4:=p4 rfl
  repeat' first|simp(disch:=omega) only[go_sem, *]|((with_reducible apply ab)<;>intro h<;>try omega)|(refine aF p1 rfl rfl ?_)|(refine aF p4 rfl rfl ?_)
 ·obtain⟨n,d⟩:=a
  simp only at p3
  rw[show decide (fY (3,b,f,r,o) (n,d))=decide (d=1∧ -2147483647≤n∧n≤2147483647)from decide_eq_decide.2 (by unfold fY;simp)]
  clear p4 p2
  by_cases h:d=1
  ·subst h
   repeat' first|simp(disch:=omega) only[go_sem, *]|((with_reducible apply ab)<;>intro h<;>try omega)|(refine aF p1 rfl rfl ?_)|(refine aF p3 rfl rfl ?_)
   all_goals simp
  ·repeat' first|simp(disch:=omega) only[go_sem, *,h]|((with_reducible apply ab)<;>intro h<;>try omega)|(refine aF p1 rfl rfl ?_)|(refine aF p3 rfl rfl ?_)
   all_goals simp[h]
theorem MZ {t:Ty} {a:Fr} (ht:nb t) (ha:tL a):ac Tryz.prog Fx [ZS t,aFr a] (Go.Abs.B (decide (fY t a))):=by
 refine ac.of NO (by simp) fun _=>aa ?_
 obtain⟨k,b,f,r,o⟩:=t
 obtain⟨n,d⟩:=a
 obtain⟨⟨ha1,ha2⟩,ha3,ha4⟩:=ha
 simp only at ha1 ha2 ha3 ha4
 conv in GR=>cbv
 by_cases hk:k=2
 ·subst hk
  have ht2:xC b f r o:=ht.elim (fun h'=>absurd h'.1 (by simp)) fun h'=>h'.2
  have h3:=My ht2.1 ht2.2.1
  have h4:=MB ht2.1 ht2.2.1
  have hb1:=ht2.1
  have hb2:=ht2.2.1
  have hm1:IntKind.wrap .i64 (b-1)=b-1:=wrap_i64 (by omega)
  have hv1:IntKind.wrap .i64 (gr b)=gr b:=wrap_i64 (by omega)
  have hv2:IntKind.wrap .i64 (0-gr b)= -gr b:=by rw[Int.zero_sub];exact wrap_i64 (by omega)
  clear ht ht2
  rw[show decide (fY (2,b,f,r,o) (n,d))=decide (d=1∧ -gr b≤n∧n<gr b)from decide_eq_decide.2 (by unfold fY;simp)]
  by_cases h:d=1∧ -gr b≤n∧n<gr b
  ·rw[decide_eq_true h]
   obtain⟨rfl,g1,g2⟩:=h
   repeat' first|simp(disch:=omega) only[go_sem, *,wrap_i64,h4,hm1,Int.one_mul,hv1,hv2]|((with_reducible apply ab)<;>intro h<;>try omega)
  ·rw[decide_eq_false h]
   have H:=Lib.hid h
   clear h
   repeat' first|simp(disch:=omega) only[go_sem, *,wrap_i64,h4,hm1,Int.one_mul,hv1,hv2]|((with_reducible apply ab)<;>intro h<;>try omega)
   all_goals(refine congrArg (fun b=>Go.Abs.B b) ?_;rw[decide_eq_false];have:=H.out;omega)
 ·have hv:fY (k,b,f,r,o) (n,d)↔(if k=3 then d=1∧ -2147483647≤n∧n≤2147483647 else dk (n,d)):=by unfold fY;simp only;rw[if_neg hk]
  by_cases h1:1≤d
  ·by_cases h2:d≤2147483647
   ·by_cases h3: -2147483647≤n∧n≤2147483647
    ·have e:max n (0-n)=(n.natAbs:Int):=by omega
     have e2:d=(d.natAbs:Int):=by omega
     have p2:=Mw n.natAbs d.natAbs
     rw[←e2]at p2
     clear e2
     by_cases hk3:k=3
     ·subst hk3
      rw[show decide (fY (3,b,f,r,o) (n,d))=decide (d=1)from decide_eq_decide.2 (by rw[hv,if_pos rfl];simp[h3])]
      clear hv ht p2 e
      repeat' first|simp(disch:=omega) only[go_sem, *,wrap_i64]|((with_reducible apply ab)<;>intro h<;>try omega)
     ·rw[show decide (fY (k,b,f,r,o) (n,d))=decide (dk (n,d))from decide_eq_decide.2 (by rw[hv,if_neg hk3])]
      clear hv ht
      repeat' first|simp(disch:=omega) only[go_sem, *,e,wrap_i64,hk,hk3,↓reduceIte]|((with_reducible apply ab)<;>intro h<;>try omega)|(refine aF p2 rfl rfl ?_)
      rw[show decide (((n.natAbs.gcd d.natAbs:Nat):Int)=1)=decide (dk (n,d)) by rw[decide_eq_decide];simp only[dk];omega]
    ·rw[decide_eq_false (show ¬fY (k,b,f,r,o) (n,d) by rw[hv];unfold dk;simp only;split<;>omega)]
     clear hv ht
     repeat' first|simp(disch:=omega) only[go_sem, *,hk]|((with_reducible apply ab)<;>intro h<;>try omega)
   ·rw[decide_eq_false (show ¬fY (k,b,f,r,o) (n,d) by rw[hv];unfold dk;simp only;split<;>omega)]
    clear hv ht
    repeat' first|simp(disch:=omega) only[go_sem, *,hk]|((with_reducible apply ab)<;>intro h<;>try omega)
  ·rw[decide_eq_false (show ¬fY (k,b,f,r,o) (n,d) by rw[hv];unfold dk;simp only;split<;>omega)]
   clear hv ht
   repeat' first|simp(disch:=omega) only[go_sem, *,hk]|((with_reducible apply ab)<;>intro h<;>try omega)
end
end Go.Proofs.YthbcbaembicdbaaGreatDoor
