import Derived.Test.YthkaaahphlneiaaGreatDoorLaw
import Derived.Test.YthkaaahphlneiaaGreatDoorV01b
set_option linter.unusedVariables false
set_option linter.unusedSimpArgs false
set_option maxRecDepth 20000
set_option maxHeartbeats 4000000
set_option maxRecDepth 1000000
namespace Go.Proofs.YthkaaahphlneiaaGreatDoor
open Go.Abs Go.RowKit
theorem wI {a b:Int} (ha:aA a) (hb:aA b):ac Tryz.prog tI [I a,I b] (Y0 (f9 (a+b))):=by
 refine ac.of Jp (by simp) fun _=>aa ?_
 obtain⟨ha1,ha2⟩:=ha
 obtain⟨hb1,hb2⟩:=hb
 conv in Bh=>cbv
 repeat' first|simp(disch:=omega) only[go_sem, *,wrap_i64]|((with_reducible refine ab ?_ ?_)<;>intro h<;>try omega)
 all_goals first
  |omega
  |rw[rg (by unfold aA;omega)]
  |rw[zp (by unfold aA;omega)]
theorem uf {a b:Int} (ha:aA a) (hb:aA b):ac Tryz.prog ro [I a,I b] (Y0 (f9 (a*b))):=by
 refine ac.of GF (by simp) fun _=>aa ?_
 obtain⟨ha1,ha2⟩:=ha
 obtain⟨hb1,hb2⟩:=hb
 conv in yr=>cbv
 repeat' first|simp(disch:=omega) only[go_sem, *]|((with_reducible refine ab ?_ ?_)<;>intro h<;>try omega)
 all_goals first
  |(simp[f9,aA];done)
  |(rw[rg (by unfold aA;omega)];done)
  |(rw[zp (by unfold aA;omega)];done)
  |rw[zp (fun hc=>h ((He (by unfold aA;omega) (by unfold aA;omega) (by omega) (by omega)).2 hc))]
  |(have hc:=(He (by unfold aA;omega) (by unfold aA;omega) (by omega) (by omega)).1 h;rw[rg hc,wrap_i64 hc])
def wm:List ByteArray:= [⟨⟨[115,105,122,101]⟩⟩,⟨⟨[119,104,101,114,101]⟩⟩,⟨⟨[105,110]⟩⟩,⟨⟨[100,101,102]⟩⟩,⟨⟨[111,117,116]⟩⟩,⟨⟨[115,117,109]⟩⟩,⟨⟨[112,114,111,100]⟩⟩,⟨⟨[109,105,110]⟩⟩,⟨⟨[109,97,120]⟩⟩,⟨⟨[115,99,97,110]⟩⟩,⟨⟨[111,118,101,114]⟩⟩,⟨⟨[105,102]⟩⟩,⟨⟨[99,97,115,116]⟩⟩,⟨⟨[102,114,97,99]⟩⟩,⟨⟨[105,110,116]⟩⟩,⟨⟨[102,105,120]⟩⟩,⟨⟨[99,101,105,108]⟩⟩,⟨⟨[102,108,111,111,114]⟩⟩,⟨⟨[122,101,114,111]⟩⟩,⟨⟨[101,118,101,110]⟩⟩,⟨⟨[115,97,116]⟩⟩,⟨⟨[119,114,97,112]⟩⟩]
theorem Dj:ac Tryz.prog qK [] (pT wm):=by
 refine ac.of GO (by simp) fun _=>aa ?_
 conv in yD=>cbv
 repeat' first|simp(disch:=omega) only[go_sem, *]|((with_reducible refine ab ?_ ?_)<;>intro h<;>try omega)
 rfl
theorem gQ (xs:List ByteArray) (s:ByteArray):ac Tryz.prog xt [pT xs,S s] (Go.Abs.B (decide (s∈xs))):=by
 refine ac.of KH (by simp) fun hb=>aa ?_
 have hx:xs.length≤9223372036854775807:=by simpa[lW,ie,iz]using hb.1
 conv in DP=>cbv
 repeat' first|simp(disch:=omega) only[go_sem, *]|((with_reducible refine ab ?_ ?_)<;>intro h<;>try omega)
 refine aj (fun k:Nat=>⟨[(5,I k),(0,pT xs),(1,S s)], [],0,0⟩) (fun k=>k≤xs.length∧ ∀j (h:j<xs.length),j<k→xs[j]≠s) (fun k=>xs.length-k) ⟨0, [],⟨by omega,fun j h h'=>by omega⟩,by simp⟩ ?_
 rintro k ⟨hk,hall⟩
 refine aa ?_
 by_cases hlt:k<xs.length
 ·repeat' first|simp(disch:=omega) only[go_sem, *,ae hlt,Option.map_some,wrap_i64]|((with_reducible refine ab ?_ ?_)<;>intro h<;>try omega)
  ·have:s∈xs:=by subst h;exact List.getElem_mem hlt
   simp[this]
  ·refine⟨k+1, [],⟨by omega,fun j hj hj'=> ?_⟩,by omega,by simp⟩
   by_cases e:j=k
   ·subst e;exact h
   ·exact hall j hj (by omega)
 ·repeat' first|simp(disch:=omega) only[go_sem, *]|((with_reducible refine ab ?_ ?_)<;>intro h<;>try omega)
  have: ¬s∈xs:=fun hm=>by
   obtain⟨j,hj,e⟩:=List.mem_iff_getElem.1 hm
   exact hall j hj (by omega) e
  simp[this]
theorem AQ (s:ByteArray):ac Tryz.prog tr [S s] (Go.Abs.B (decide (s∈wm))):=by
 refine ac.of Cf (by simp) fun _=>aa ?_
 simp only[tz]
 repeat' first|simp(disch:=omega) only[go_sem, *]|((with_reducible refine ab ?_ ?_)<;>intro h<;>try omega)
 all_goals simp[wm, *]
set_option maxRecDepth 20000
set_option maxRecDepth 1000000
def vw (i:Nat) (c:UInt8):Prop:=(97≤c.toNat∧c.toNat≤122)∨(0<i∧((48≤c.toNat∧c.toNat≤57)∨c.toNat=95))
instance (i:Nat) (c:UInt8):Decidable (vw i c):=by unfold vw;infer_instance
def fp (s:ByteArray):Prop:=1≤s.size∧s.size≤16∧ ¬s∈wm∧ ∀i (h:i<s.size),vw i s[i]
noncomputable instance (s:ByteArray):Decidable (fp s):=Classical.propDecidable _
theorem fT (s:ByteArray):ac Tryz.prog um [S s] (Go.Abs.B (decide (fp s))):=by
 refine ac.of JM (by simp) fun hb=>aa ?_
 conv in By=>cbv
 repeat' first|simp(disch:=omega) only[go_sem, *]|((with_reducible refine ab ?_ ?_)<;>intro h<;>try omega)|(refine bS Dj rfl rfl ?_)|(refine av (gQ _ _) rfl rfl ?_)
 ·rw[decide_eq_false];rintro⟨h1,_⟩;omega
 ·rw[decide_eq_false];rintro⟨_,h1,_⟩;omega
 ·rw[decide_eq_false];rintro⟨_,_,h1,_⟩;exact h1 h
 ·refine aj (fun k:Nat=>⟨[(3,I k),(0,S s)], [],0,0⟩) (fun k=>k≤s.size∧dW (fun j=> ∀h:j<s.size,vw j s[j]) k) (fun k=>s.size-k) ⟨0, [],⟨by omega,.zero⟩,by simp⟩ ?_
  rintro k ⟨hk,hall⟩
  refine aa ?_
  by_cases hlt:k<s.size
  ·repeat' first|simp(disch:=omega) only[go_sem, *,getElem?_pos s k hlt,wrap_i64]|((with_reducible refine ab ?_ ?_)<;>intro h<;>try omega)
   all_goals first
    |(refine⟨k+1, [],⟨by omega,hall.succ fun _=> ?_⟩,by omega,by simp⟩;unfold vw;omega)
    |(rw[decide_eq_false];rintro⟨_,_,_,h4⟩;have:=h4 k hlt;unfold vw at this;omega)
  ·repeat' first|simp(disch:=omega) only[go_sem, *]|((with_reducible refine ab ?_ ?_)<;>intro h<;>try omega)
   rw[decide_eq_true]
   exact⟨by omega,by omega,‹_›,fun i hi=>hall i (by omega) hi⟩
theorem iB (s:ByteArray):ac Tryz.prog qx [S s] (Go.Abs.B (decide (fp s))):=by
 refine ac.of yx (by simp) fun hb=>aa ?_
 simp only[qe]
 by_cases h0:s.size<1
 ·repeat' first|simp(disch:=omega) only[go_sem, *]|((with_reducible refine ab ?_ ?_)<;>intro h<;>try omega)
  rw[decide_eq_false];rintro⟨h1,_⟩;omega
 have hpos:0<s.size:=by omega
 repeat' first|simp(disch:=omega) only[go_sem, *,getElem?_pos s 0 hpos,Int.toNat_zero]|((with_reducible refine ab ?_ ?_)<;>intro h<;>try omega)|(refine av (AQ _) rfl rfl ?_)
 ·rw[decide_eq_false];rintro⟨_,h1,_⟩;omega
 ·rw[decide_eq_false];rintro⟨_,_,h1,_⟩;exact h1 h
 ·rw[decide_eq_false];rintro⟨_,_,_,h4⟩;have:=h4 0 hpos;unfold vw at this;omega
 ·rw[decide_eq_false];rintro⟨_,_,_,h4⟩;have:=h4 0 hpos;unfold vw at this;omega
 ·refine aj (fun k:Nat=>⟨[(29,I k),(28,I s.size),(0,S s)], [],0,0⟩) (fun k=>k≤s.size∧dW (fun j=> ∀h:j<s.size,vw (j+1) s[j]) k) (fun k=>s.size-k) ⟨0, [],⟨by omega,.zero⟩,by simp⟩ ?_
  rintro k ⟨hk,hall⟩
  refine aa ?_
  by_cases hlt:k<s.size
  ·repeat' first|simp(disch:=omega) only[go_sem, *,getElem?_pos s k hlt,wrap_i64]|((with_reducible refine ab ?_ ?_)<;>intro h<;>try omega)
   all_goals first
    |(refine⟨k+1, [],⟨by omega,hall.succ fun _=> ?_⟩,by omega,by simp⟩;unfold vw;omega)
    |(rw[decide_eq_false];rintro⟨_,_,_,h4⟩;have:=h4 k hlt;unfold vw at this;omega)
  ·repeat' first|simp(disch:=omega) only[go_sem, *]|((with_reducible refine ab ?_ ?_)<;>intro h<;>try omega)
   rw[decide_eq_true]
   refine⟨by omega,by omega,‹_›,fun i hi=> ?_⟩
   have h5:=hall i (by omega) hi
   by_cases e:i=0
   ·subst e;unfold vw;omega
   ·unfold vw at h5 ⊢;omega
abbrev aP:=ByteArray×Int
def mP (m:aP):List PC:= [pS m.1,pI m.2]
abbrev aE (l:List aP):PC:=c9 mP l
abbrev ca:=Int×List aP
abbrev gf:=ca×Bool
abbrev dj (k:Int) (l:List aP):AV:= .agg [.pure (pI k),.pure (aE l)]
def b7 (a b:ByteArray):Bool:=Op.bytesLess a.toList b.toList
def MH (l:List aP) (i:Nat):Prop:= ∀h:i<l.length,fp l[i].1∧l[i].2≠0∧(0<i→b7 l[i-1].1 l[i].1=true)
def cd (l:List aP):Prop:=dW (MH l) l.length
noncomputable instance (l:List aP):Decidable (cd l):=Classical.propDecidable _
theorem nY {k:Int} {l:List aP} (h:ie (dj k l)):l.length≤9223372036854775807:=by simpa[ie,lO,iz]using h
set_option maxRecDepth 20000 in
theorem dT (c:Int) (l:List aP):ac Tryz.prog rZ [dj c l] (Go.Abs.B (decide (cd l))):=by
 refine ac.of AK (by simp) fun hb=>aa ?_
 have hl:=nY hb.1
 simp only[sr]
 repeat' first|simp(disch:=omega) only[go_sem, *]|((with_reducible refine ab ?_ ?_)<;>intro h<;>try omega)
 refine aj (fun k:Nat=>⟨[(3,I k),(1,.c (.ptr 0 0))], [(0,.var [.pure (pI c),.pure (aE l)])],1,0⟩) (fun k=>k≤l.length∧dW (MH l) k) (fun k=>l.length-k) ⟨0, [],⟨by omega,.zero⟩,by simp⟩ ?_
 rintro k ⟨hk,hall⟩
 refine aa ?_
 by_cases hlt:k<l.length
 ·by_cases h0:0<k
  ·have hl1:k-1<l.length:=by omega
   have e1:((k:Int)-1).toNat=k-1:=by omega
   repeat' first|simp(disch:=omega) only[go_sem, *,List.drop_succ_cons,List.drop_zero,ae hlt,ae hl1,mP,wrap_i64,e1]|((with_reducible refine ab ?_ ?_)<;>intro h<;>try omega)|(refine av (fT _) rfl rfl ?_)
   ·rw[decide_eq_false]
    intro hc
    exact(hc k hlt hlt).2.1 h
   ·refine⟨k+1, [],⟨by omega,hall.succ fun _=>⟨‹_›,‹_›,fun _=>h⟩⟩,by omega,by simp⟩
   ·rw[decide_eq_false]
    intro hc
    have:=(hc k hlt hlt).2.2 h0
    rw[b7,h]at this
    cases this
   ·rw[decide_eq_false]
    intro hc
    exact h (hc k hlt hlt).1
  ·repeat' first|simp(disch:=omega) only[go_sem, *,List.drop_succ_cons,List.drop_zero,ae hlt,mP,wrap_i64]|((with_reducible refine ab ?_ ?_)<;>intro h<;>try omega)|(refine av (fT _) rfl rfl ?_)
   ·rw[decide_eq_false]
    intro hc
    exact(hc k hlt hlt).2.1 h
   ·refine⟨k+1, [],⟨by omega,hall.succ fun _=>⟨‹_›,‹_›,fun _=>by omega⟩⟩,by omega,by simp⟩
   ·rw[decide_eq_false]
    intro hc
    exact h (hc k hlt hlt).1
 ·repeat' first|simp(disch:=omega) only[go_sem, *,List.drop_succ_cons,List.drop_zero]|((with_reducible refine ab ?_ ?_)<;>intro h<;>try omega)
  rw[decide_eq_true]
  have:k=l.length:=by omega
  rw[this]at hall
  exact hall
theorem dB (c:Int) (l:List aP):ac Tryz.prog j6 [dj c l] (I (if cd l then 0 else 1)):=by
 refine ac.of yz (by simp) fun hb=>aa ?_
 conv in qj=>cbv
 repeat' first|simp(disch:=omega) only[go_sem, *,↓List.drop_zero,↓List.take_succ_cons,↓List.take_zero]|((with_reducible refine ab ?_ ?_)<;>intro h<;>try omega)|(refine av (dT c l) rfl rfl ?_)
 all_goals simp[*]
set_option maxRecDepth 20000 in
theorem bD (c:Int) (l:List aP):ac Tryz.prog th [dj c l] (I (if cd l then 0 else 1)):=by
 refine ac.of Ch (by simp) fun hb=>aa ?_
 have hl:=nY hb.1
 simp only[uA]
 repeat' first|simp(disch:=omega) only[go_sem, *,List.drop_succ_cons,List.drop_zero]|((with_reducible refine ab ?_ ?_)<;>intro h<;>try omega)
 refine aj (fun k:Nat=>⟨[(8,I k),(7,I l.length),(6,.c (.pure (aE l))),(1,.c (.ptr 0 0))], [(0,.var [.pure (pI c),.pure (aE l)])],1,0⟩) (fun k=>k≤l.length∧dW (MH l) k) (fun k=>l.length-k) ⟨0, [],⟨by omega,.zero⟩,by simp⟩ ?_
 rintro k ⟨hk,hall⟩
 refine aa ?_
 by_cases hlt:k<l.length
 ·by_cases h0:0<k
  ·have hl1:k-1<l.length:=by omega
   have e1:((k:Int)-1).toNat=k-1:=by omega
   repeat' first|simp(disch:=omega) only[go_sem, *,List.drop_succ_cons,List.drop_zero,List.take_succ_cons,List.take_zero,ae hlt,ae hl1,mP,wrap_i64,e1]|((with_reducible refine ab ?_ ?_)<;>intro h<;>try omega)|(refine av (iB _) rfl rfl ?_)
   ·rw[if_neg fun hc=>(hc k hlt hlt).2.1 h]
   ·refine⟨k+1, [],⟨by omega,hall.succ fun _=>⟨‹_›,‹_›,fun _=>h⟩⟩,by omega,by simp⟩
   ·rw[if_neg fun hc=> ?_]
    have:=(hc k hlt hlt).2.2 h0
    rw[b7,h]at this
    cases this
   ·rw[if_neg fun hc=>h (hc k hlt hlt).1]
  ·repeat' first|simp(disch:=omega) only[go_sem, *,ae hlt,mP,wrap_i64]|((with_reducible refine ab ?_ ?_)<;>intro h<;>try omega)|(refine av (iB _) rfl rfl ?_)
   ·rw[if_neg fun hc=>(hc k hlt hlt).2.1 h]
   ·refine⟨k+1, [],⟨by omega,hall.succ fun _=>⟨‹_›,‹_›,fun _=>by omega⟩⟩,by omega,by simp⟩
   ·rw[if_neg fun hc=>h (hc k hlt hlt).1]
 ·repeat' first|simp(disch:=omega) only[go_sem, *]|((with_reducible refine ab ?_ ?_)<;>intro h<;>try omega)
  rw[if_pos]
  have:k=l.length:=by omega
  rw[this]at hall
  exact hall
set_option maxRecDepth 20000
theorem im {e sz bytes:Nat} {y:AV} {rows ys:List (List PC)} {σ:St} {K:nF (AV→St→Prop)} (h0:bl sz rows) (hok:bl sz ys) (h1:(rows.length+ys.length)*bytes≤140737488355328) (h2:rows.length+ys.length≤140737488355328)
  (hk:K.out (.c (.pure (.slice (rows++ys)))) σ): @Cp e sz bytes (.c (.tsl rows)) y ys σ K:=⟨hok,.inr (.inr ⟨rows,rfl,h0,.inr (.inl ⟨h1,h2,hk⟩)⟩)⟩
theorem dN {e sz bytes:Nat} {y:AV} {rows:List (List PC)} {σ:St} {K:nF (AV→St→Prop)} (h0:bl sz rows) (hk:K.out (.c (.tsl rows)) σ): @Cp e sz bytes (.c (.tsl rows)) y [] σ K:=⟨(by intro r hr;cases hr),.inr (.inr ⟨rows,rfl,h0,.inr (.inr ⟨rfl,hk⟩)⟩)⟩
theorem dI {e sz bytes:Nat} {y:AV} {rows ys:List (List PC)} {σ:St} {K:nF (AV→St→Prop)} (h0:bl sz rows) (hok:bl sz ys) (hne:ys≠ []) (h1:(rows.length+ys.length)*bytes≤140737488355328) (h2:rows.length+ys.length≤140737488355328)
  (hk:K.out (.c (.ref σ.nx)) {σ with mem:=(σ.nx,.arr e sz (rows++ys))::σ.mem,nx:=σ.nx+1}): @Cp e sz bytes (.c (.tsl rows)) y ys σ K:=⟨hok,.inr (.inr ⟨rows,rfl,h0,.inl ⟨hne,h1,h2,hk⟩⟩)⟩
def cP (c:gf):List PC:= [pI c.1.1,aE c.1.2,pB c.2]
abbrev nI (c:gf):AV:= .agg [.pure (pI c.1.1),.pure (aE c.1.2),.pure (pB c.2)]
abbrev ej (l:List gf):AV:=d8 cP l
theorem ff (c:gf):ac Tryz.prog jW [nI c] (I (if cd c.1.2 then 0 else 1)):=by
 refine ac.of rt (by simp) fun _=>aa ?_
 simp only[jS]
 repeat' first|simp(disch:=omega) only[go_sem, *]|((with_reducible refine ab ?_ ?_)<;>intro h<;>try omega)|(refine av (bD _ _) rfl rfl ?_)
set_option maxRecDepth 1000000
abbrev Ty:=Int×Int×Int×Int×Int
abbrev TR (t:Ty):List PC:= [pI t.1,pI t.2.1,pI t.2.2.1,pI t.2.2.2.1,pI t.2.2.2.2]
abbrev Vt (t:Ty):AV:= .agg [.pure (pI t.1),.pure (pI t.2.1),.pure (pI t.2.2.1),.pure (pI t.2.2.2.1),.pure (pI t.2.2.2.2)]
def wd (b f r o:Int):Prop:=2≤b∧b≤31∧0≤f∧f≤30∧1≤r∧r≤4∧(o=1∨o=2)
def l8 (t:Ty):Prop:=((t.1=1∨t.1=3)∧t.2.1=0∧t.2.2.1=0∧t.2.2.2.1=0∧t.2.2.2.2=0)∨(t.1=2∧wd t.2.1 t.2.2.1 t.2.2.2.1 t.2.2.2.2)
instance (b f r o:Int):Decidable (wd b f r o):=by unfold wd;infer_instance
noncomputable instance (t:Ty):Decidable (l8 t):=Classical.propDecidable _
def fW (b:Int):Int:=2^(b-1).toNat
def fI (t:Ty) (a:Fr):Prop:=if t.1=2 then a.2=1∧ -fW t.2.1≤a.1∧a.1<fW t.2.1 else if t.1=3 then a.2=1∧ -2147483647≤a.1∧a.1≤2147483647 else dU a
noncomputable instance (t:Ty) (a:Fr):Decidable (fI t a):=Classical.propDecidable _
theorem JO {b:Int} (h1:2≤b) (h2:b≤31):1≤fW b∧fW b≤1073741824:=by
 obtain⟨n,rfl⟩: ∃n:Nat,b=n:=⟨b.toNat,by omega⟩
 have h3:n≤31:=by omega
 have h4:2≤n:=by omega
 clear h1 h2
 have key: ∀m:Fin 32,2≤m.val→(1:Int)≤fW (m.val:Int)∧fW (m.val:Int)≤1073741824:=by decide+kernel
 exact key ⟨n,by omega⟩ h4
theorem IG {b:Int} (h1:2≤b) (h2:b≤31):(2:Int)^(min (b-1).toNat 64)=fW b:=by
 rw[fW,Nat.min_eq_left (by omega)]
theorem E6 (t:Ty):ac Tryz.prog wN [Vt t] (Go.Abs.B (decide (t.2.1=0∧t.2.2.1=0∧t.2.2.2.1=0∧t.2.2.2.2=0))):=by
 refine ac.of CY (by simp) fun _=>aa ?_
 simp only[wJ]
 repeat' first|simp(disch:=omega) only[go_sem, *]|((with_reducible refine ab ?_ ?_)<;>intro h<;>try omega)
 refine congrArg (fun b=>Go.Abs.B b) ?_
 rw[Bool.eq_iff_iff]
 simp[qD]
theorem jV (t:Ty):ac Tryz.prog kG [Vt t] (I (if t.1=2∧wd t.2.1 t.2.2.1 t.2.2.2.1 t.2.2.2.2 then 0 else 10)):=by
 refine ac.of sG (by simp) fun _=>aa ?_
 simp only[kT]
 obtain⟨k,b,f,r,o⟩:=t
 simp only
 repeat' first|simp(disch:=omega) only[go_sem, *]|((with_reducible refine ab ?_ ?_)<;>intro h<;>try omega)
 all_goals first
  |(rw[if_neg];unfold wd;omega)
  |(rw[if_pos];unfold wd;omega)
  |(simp;done)
theorem ew (t:Ty):ac Tryz.prog lm [Vt t] (I (if l8 t then 0 else 10)):=by
 refine ac.of sC (by simp) fun _=>aa ?_
 have p1:=E6 t
 have p2:=jV t
 obtain⟨k,b,f,r,o⟩:=t
 simp only at p1 p2
 simp only[kO]
 by_cases g1:b=0∧f=0∧r=0∧o=0
 ·rw[decide_eq_true g1]at p1
  by_cases g2:k=2∧wd b f r o
  ·exfalso;have:=g2.2.1;omega
  ·rw[if_neg g2]at p2
   by_cases g3:k=1∨k=3
   ·rw[if_pos (show l8 (k,b,f,r,o)from .inl ⟨g3,g1⟩)]
    clear g1 g2
    rcases g3 with rfl|rfl
    ·repeat' first|simp(disch:=omega) only[go_sem, *]|((with_reducible refine ab ?_ ?_)<;>intro h<;>try omega)|(refine av p1 rfl rfl ?_)|(refine av p2 rfl rfl ?_)
    ·repeat' first|simp(disch:=omega) only[go_sem, *]|((with_reducible refine ab ?_ ?_)<;>intro h<;>try omega)|(refine av p1 rfl rfl ?_)|(refine av p2 rfl rfl ?_)
   ·rw[if_neg (show ¬l8 (k,b,f,r,o)from fun h=>h.elim (fun h=>g3 h.1) g2)]
    clear g1 g2
    by_cases hk:k=2
    ·subst hk
     repeat' first|simp(disch:=omega) only[go_sem, *]|((with_reducible refine ab ?_ ?_)<;>intro h<;>try omega)|(refine av p1 rfl rfl ?_)|(refine av p2 rfl rfl ?_)
    ·repeat' first|simp(disch:=omega) only[go_sem, *,hk]|((with_reducible refine ab ?_ ?_)<;>intro h<;>try omega)|(refine av p1 rfl rfl ?_)|(refine av p2 rfl rfl ?_)
 ·rw[decide_eq_false g1]at p1
  by_cases g2:k=2∧wd b f r o
  ·rw[if_pos g2]at p2
   rw[if_pos (show l8 (k,b,f,r,o)from .inr g2)]
   obtain⟨rfl,_⟩:=g2
   clear g1
   repeat' first|simp(disch:=omega) only[go_sem, *]|((with_reducible refine ab ?_ ?_)<;>intro h<;>try omega)|(refine av p1 rfl rfl ?_)|(refine av p2 rfl rfl ?_)
  ·rw[if_neg g2]at p2
   rw[if_neg (show ¬l8 (k,b,f,r,o)from fun h=>h.elim (fun h=>g1 h.2) g2)]
   clear g1 g2
   by_cases hk:k=2
   ·subst hk
    repeat' first|simp(disch:=omega) only[go_sem, *]|((with_reducible refine ab ?_ ?_)<;>intro h<;>try omega)|(refine av p1 rfl rfl ?_)|(refine av p2 rfl rfl ?_)
   ·by_cases h1:k=1
    ·subst h1
     repeat' first|simp(disch:=omega) only[go_sem, *]|((with_reducible refine ab ?_ ?_)<;>intro h<;>try omega)|(refine av p1 rfl rfl ?_)|(refine av p2 rfl rfl ?_)
    ·by_cases h3:k=3
     ·subst h3
      repeat' first|simp(disch:=omega) only[go_sem, *]|((with_reducible refine ab ?_ ?_)<;>intro h<;>try omega)|(refine av p1 rfl rfl ?_)|(refine av p2 rfl rfl ?_)
     ·repeat' first|simp(disch:=omega) only[go_sem, *,hk,h1,h3]|((with_reducible refine ab ?_ ?_)<;>intro h<;>try omega)|(refine av p1 rfl rfl ?_)|(refine av p2 rfl rfl ?_)
theorem bH (t:Ty):ac Tryz.prog uw [Vt t] (Go.Abs.B (decide (l8 t))):=by
 refine ac.of JP (by simp) fun _=>aa ?_
 obtain⟨k,b,f,r,o⟩:=t
 conv in A3=>cbv
 by_cases h:l8 (k,b,f,r,o)
 ·rw[decide_eq_true h]
  rcases h with⟨h,rfl,rfl,rfl,rfl⟩|⟨h,g1,g2,g3,g4,g5,g6,g7⟩
  ·simp only at h
   rcases h with rfl|rfl
   ·repeat' first|simp(disch:=omega) only[go_sem, *]|((with_reducible refine ab ?_ ?_)<;>intro h<;>try omega)
   ·repeat' first|simp(disch:=omega) only[go_sem, *]|((with_reducible refine ab ?_ ?_)<;>intro h<;>try omega)
  ·simp only at h g1 g2 g3 g4 g5 g6 g7
   subst h
   rcases g7 with rfl|rfl
   ·repeat' first|simp(disch:=omega) only[go_sem, *]|((with_reducible refine ab ?_ ?_)<;>intro h<;>try omega)
   ·repeat' first|simp(disch:=omega) only[go_sem, *]|((with_reducible refine ab ?_ ?_)<;>intro h<;>try omega)
 ·rw[decide_eq_false h]
  have h': ¬((k=1∨k=3)∧b=0∧f=0∧r=0∧o=0):=fun g=>h (.inl g)
  have h2: ¬(k=2∧2≤b∧b≤31∧0≤f∧f≤30∧1≤r∧r≤4∧(o=1∨o=2)):=fun g=>h (.inr g)
  clear h
  have H1:=Lib.hid h'
  have H2:=Lib.hid h2
  clear h' h2
  repeat' first|simp(disch:=omega) only[go_sem, *]|((with_reducible refine ab ?_ ?_)<;>intro h<;>try omega)
  all_goals first
   |(refine congrArg (fun b=>Go.Abs.B b) ?_;rw[decide_eq_false];have:=H1.out;have:=H2.out;omega)
   |(exfalso;have:=H1.out;have:=H2.out;omega)
theorem tU {b:Int} (h1:2≤b) (h2:b≤31):ac Tryz.prog vV [I b] (Go.Abs.B true):=by
 refine ac.of Dq (by simp) fun _=>aa ?_
 simp only[wy]
 repeat' first|simp(disch:=omega) only[go_sem, *]|((with_reducible refine ab ?_ ?_)<;>intro h<;>try omega)
theorem BR {b:Int} (h1:2≤b) (h2:b≤31):ac Tryz.prog ut [I b] (I (-fW b)):=by
 refine ac.of BV (by simp) fun _=>aa ?_
 have h3:=JO h1 h2
 have h4:=IG h1 h2
 have hu:IntKind.wrap .u64 (b-1)=b-1:=by rw[IntKind.wrap_u64];omega
 have hm1:IntKind.wrap .i64 (b-1)=b-1:=wrap_i64 (by omega)
 have v1:IntKind.wrap .i64 (fW b)=fW b:=wrap_i64 (by omega)
 have v2:IntKind.wrap .i64 (0-fW b)= -fW b:=by rw[Int.zero_sub];exact wrap_i64 (by omega)
 have v3:IntKind.wrap .i64 (fW b-1)=fW b-1:=wrap_i64 (by omega)
 simp only[t8]
 repeat' first|simp(disch:=omega) only[go_sem, *,hm1,hu,h4,Int.one_mul,v1,v2,v3]|((with_reducible refine ab ?_ ?_)<;>intro h<;>try omega)|(refine av (tU h1 h2) rfl rfl ?_)
theorem Cs {b:Int} (h1:2≤b) (h2:b≤31):ac Tryz.prog u0 [I b] (I (fW b-1)):=by
 refine ac.of CD (by simp) fun _=>aa ?_
 have h3:=JO h1 h2
 have h4:=IG h1 h2
 have hu:IntKind.wrap .u64 (b-1)=b-1:=by rw[IntKind.wrap_u64];omega
 have hm1:IntKind.wrap .i64 (b-1)=b-1:=wrap_i64 (by omega)
 have v1:IntKind.wrap .i64 (fW b)=fW b:=wrap_i64 (by omega)
 have v2:IntKind.wrap .i64 (0-fW b)= -fW b:=by rw[Int.zero_sub];exact wrap_i64 (by omega)
 have v3:IntKind.wrap .i64 (fW b-1)=fW b-1:=wrap_i64 (by omega)
 simp only[tV]
 repeat' first|simp(disch:=omega) only[go_sem, *,hm1,hu,h4,Int.one_mul,v1,v2,v3]|((with_reducible refine ab ?_ ?_)<;>intro h<;>try omega)|(refine av (tU h1 h2) rfl rfl ?_)
theorem ED {t:Ty} {a:Fr} (h0:t.1=2) (ht:wd t.2.1 t.2.2.1 t.2.2.2.1 t.2.2.2.2):ac Tryz.prog kB [Vt t,Yk a] (Go.Abs.B (decide (a.2=1∧ -fW t.2.1≤a.1∧a.1<fW t.2.1))):=by
 refine ac.of Db (by simp) fun _=>aa ?_
 have p1:=jV t
 rw[if_pos ⟨h0,ht⟩]at p1
 have p2:=BR ht.1 ht.2.1
 have p3:=Cs ht.1 ht.2.1
 obtain⟨k,b,f,r,o⟩:=t
 obtain⟨n,d⟩:=a
 simp only at h0 p1 p2 p3 ⊢
 clear ht
 conv in vQ=>cbv
 by_cases h:d=1∧ -fW b≤n∧n<fW b
 ·rw[decide_eq_true h]
  obtain⟨rfl,g1,g2⟩:=h
  have g3:n≤fW b-1:=by omega
  clear g2
  repeat' first|simp(disch:=omega) only[go_sem]|((with_reducible refine ab ?_ ?_)<;>intro h<;>try first|omega|simp(disch:=omega) only[go_sem, *])|(refine av p1 rfl rfl ?_)|(refine av p2 rfl rfl ?_)|(refine av p3 rfl rfl ?_)
  all_goals(simp[*];done)
 ·rw[decide_eq_false h]
  have H:=Lib.hid h
  clear h
  repeat' first|simp(disch:=omega) only[go_sem]|((with_reducible refine ab ?_ ?_)<;>intro h<;>try first|omega|simp(disch:=omega) only[go_sem, *])|(refine av p1 rfl rfl ?_)|(refine av p2 rfl rfl ?_)|(refine av p3 rfl rfl ?_)
  all_goals(refine congrArg (fun b=>Go.Abs.B b) ?_;rw[decide_eq_false];have:=H.out;omega)
theorem Em (n:Int):ac Tryz.prog vR [I n] (Go.Abs.B (decide (-2147483647≤n∧n≤2147483647))):=by
 refine ac.of Dm (by simp) fun _=>aa ?_
 simp only[wQ]
 repeat' first|simp(disch:=omega) only[go_sem, *]|((with_reducible refine ab ?_ ?_)<;>intro h<;>try omega)
 all_goals(simp<;>omega)
theorem Ev {t:Ty} {a:Fr} (ht:l8 t) (ha:sS a):ac Tryz.prog wB [Vt t,Yk a] (Go.Abs.B (decide (fI t a))):=by
 refine ac.of FM (by simp) fun _=>aa ?_
 have p1:=ew t
 rw[if_pos ht]at p1
 have p2:=C7 ha
 have p3:=Em a.1
 have p4:t.1=2→ac Tryz.prog kB [Vt t,Yk a] (Go.Abs.B (decide (fI t a))):=fun h=>by
  have:=ED (a:=a) h (ht.elim (fun h'=>by omega) fun h'=>h'.2)
  rwa [show decide (a.2=1∧ -fW t.2.1≤a.1∧a.1<fW t.2.1)=decide (fI t a)from decide_eq_decide.2 (by unfold fI;rw[if_pos h])]at this
 have hk:t.1=1∨t.1=2∨t.1=3:=by rcases ht with⟨h,_⟩|⟨h,_⟩<;>omega
 obtain⟨k,b,f,r,o⟩:=t
 clear ht
 simp only[wv]
 simp only at hk
 rcases hk with rfl|rfl|rfl
 ·rw[show decide (fI (1,b,f,r,o) a)=decide (dU a)from decide_eq_decide.2 (by unfold fI;simp)]
  repeat' first|simp(disch:=omega) only[go_sem, *]|((with_reducible refine ab ?_ ?_)<;>intro h<;>try omega)|(refine av p1 rfl rfl ?_)|(refine av p2 rfl rfl ?_)
 ·have p4:=p4 rfl
  repeat' first|simp(disch:=omega) only[go_sem, *]|((with_reducible refine ab ?_ ?_)<;>intro h<;>try omega)|(refine av p1 rfl rfl ?_)|(refine av p4 rfl rfl ?_)
 ·obtain⟨n,d⟩:=a
  simp only at p3
  rw[show decide (fI (3,b,f,r,o) (n,d))=decide (d=1∧ -2147483647≤n∧n≤2147483647)from decide_eq_decide.2 (by unfold fI;simp)]
  clear p4 p2
  by_cases h:d=1
  ·subst h
   repeat' first|simp(disch:=omega) only[go_sem, *]|((with_reducible refine ab ?_ ?_)<;>intro h<;>try omega)|(refine av p1 rfl rfl ?_)|(refine av p3 rfl rfl ?_)
   all_goals simp
  ·repeat' first|simp(disch:=omega) only[go_sem, *,h]|((with_reducible refine ab ?_ ?_)<;>intro h<;>try omega)|(refine av p1 rfl rfl ?_)|(refine av p3 rfl rfl ?_)
   all_goals simp[h]
theorem J8 {t:Ty} {a:Fr} (ht:l8 t) (ha:sS a):ac Tryz.prog xi [Vt t,Yk a] (Go.Abs.B (decide (fI t a))):=by
 refine ac.of Ml (by simp) fun _=>aa ?_
 obtain⟨k,b,f,r,o⟩:=t
 obtain⟨n,d⟩:=a
 obtain⟨⟨ha1,ha2⟩,ha3,ha4⟩:=ha
 simp only at ha1 ha2 ha3 ha4
 conv in E0=>cbv
 by_cases hk:k=2
 ·subst hk
  have ht2:wd b f r o:=ht.elim (fun h'=>absurd h'.1 (by simp)) fun h'=>h'.2
  have h3:=JO ht2.1 ht2.2.1
  have h4:=IG ht2.1 ht2.2.1
  have hb1:=ht2.1
  have hb2:=ht2.2.1
  have hm1:IntKind.wrap .i64 (b-1)=b-1:=wrap_i64 (by omega)
  have hv1:IntKind.wrap .i64 (fW b)=fW b:=wrap_i64 (by omega)
  have hv2:IntKind.wrap .i64 (0-fW b)= -fW b:=by rw[Int.zero_sub];exact wrap_i64 (by omega)
  clear ht ht2
  rw[show decide (fI (2,b,f,r,o) (n,d))=decide (d=1∧ -fW b≤n∧n<fW b)from decide_eq_decide.2 (by unfold fI;simp)]
  by_cases h:d=1∧ -fW b≤n∧n<fW b
  ·rw[decide_eq_true h]
   obtain⟨rfl,g1,g2⟩:=h
   repeat' first|simp(disch:=omega) only[go_sem, *,wrap_i64,h4,hm1,Int.one_mul,hv1,hv2]|((with_reducible refine ab ?_ ?_)<;>intro h<;>try omega)
  ·rw[decide_eq_false h]
   have H:=Lib.hid h
   clear h
   repeat' first|simp(disch:=omega) only[go_sem, *,wrap_i64,h4,hm1,Int.one_mul,hv1,hv2]|((with_reducible refine ab ?_ ?_)<;>intro h<;>try omega)
   all_goals(refine congrArg (fun b=>Go.Abs.B b) ?_;rw[decide_eq_false];have:=H.out;omega)
 ·have hv:fI (k,b,f,r,o) (n,d)↔(if k=3 then d=1∧ -2147483647≤n∧n≤2147483647 else dU (n,d)):=by unfold fI;simp only;rw[if_neg hk]
  by_cases h1:1≤d
  ·by_cases h2:d≤2147483647
   ·by_cases h3: -2147483647≤n∧n≤2147483647
    ·have e:max n (0-n)=(n.natAbs:Int):=by omega
     have e2:d=(d.natAbs:Int):=by omega
     have p2:=Je n.natAbs d.natAbs
     rw[←e2]at p2
     clear e2
     by_cases hk3:k=3
     ·subst hk3
      rw[show decide (fI (3,b,f,r,o) (n,d))=decide (d=1)from decide_eq_decide.2 (by rw[hv,if_pos rfl];simp[h3])]
      clear hv ht p2 e
      repeat' first|simp(disch:=omega) only[go_sem, *,wrap_i64]|((with_reducible refine ab ?_ ?_)<;>intro h<;>try omega)
     ·rw[show decide (fI (k,b,f,r,o) (n,d))=decide (dU (n,d))from decide_eq_decide.2 (by rw[hv,if_neg hk3])]
      clear hv ht
      repeat' first|simp(disch:=omega) only[go_sem, *,e,wrap_i64,hk,hk3,↓reduceIte]|((with_reducible refine ab ?_ ?_)<;>intro h<;>try omega)|(refine av p2 rfl rfl ?_)
      rw[show decide (((n.natAbs.gcd d.natAbs:Nat):Int)=1)=decide (dU (n,d)) by rw[decide_eq_decide];simp only[dU];omega]
    ·rw[decide_eq_false (show ¬fI (k,b,f,r,o) (n,d) by rw[hv];unfold dU;simp only;split<;>omega)]
     clear hv ht
     repeat' first|simp(disch:=omega) only[go_sem, *,hk]|((with_reducible refine ab ?_ ?_)<;>intro h<;>try omega)
   ·rw[decide_eq_false (show ¬fI (k,b,f,r,o) (n,d) by rw[hv];unfold dU;simp only;split<;>omega)]
    clear hv ht
    repeat' first|simp(disch:=omega) only[go_sem, *,hk]|((with_reducible refine ab ?_ ?_)<;>intro h<;>try omega)
  ·rw[decide_eq_false (show ¬fI (k,b,f,r,o) (n,d) by rw[hv];unfold dU;simp only;split<;>omega)]
   clear hv ht
   repeat' first|simp(disch:=omega) only[go_sem, *,hk]|((with_reducible refine ab ?_ ?_)<;>intro h<;>try omega)
end Go.Proofs.YthkaaahphlneiaaGreatDoor
