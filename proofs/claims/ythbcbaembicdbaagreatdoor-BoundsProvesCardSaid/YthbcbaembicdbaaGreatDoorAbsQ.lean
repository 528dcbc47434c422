import Derived.Test.YthbcbaembicdbaaGreatDoorAbsP
import Derived.LoopN
import Derived.RangeFuncLeaves
import Derived.RangeFuncNested
import Derived.OrdersIn
import Derived.LoopNIn
import Derived.ChangeArms
import Derived.WideShapes
set_option linter.unusedVariables false
set_option linter.unusedSimpArgs false
namespace Go.Abs
open Go.RowKit
section
variable {P : Program} {o : Oper} {a : Act} {w w' w0 : World} {U : Gh} {ι : Pl} {σ : St} {next : Act → World → Prop} {Q : Exit → Act → World → Prop} {K : AV → St → Prop}
theorem y5 {α:Type} {x:Option α} {p:α→Bool} (h:x.map p=some true): ∃z,x=some z∧p z=true:=by
 cases x with
 |none=>cases h
 |some z=>exact⟨z,rfl,by simpa using h⟩
theorem RE {op:BinOp} {t t':TypeId} {x y:Operand} {p q:AX} {neg:Bool} (hop:(op= .eql∧neg=false)∨(op= .neq∧neg=true)) (ht:R6 P t=true) (hq:Mc q=true) (ho:o.op= .binOp op t x y t') (hx:aO x=some p) (hy:aO y=some q)
  (h:bD P (.snil neg p) σ K) (hs:bP w0 U σ ι a w) (hn:fW w0 U a o K next):o.wp P a w next Q:=by
 have r1:=aC hx hs
 have r2:=aC hy hs
 unfold Mc at hq
 split at hq
 ·have e2:a.eval y= .slice none 0 0:=wK r2
  unfold R6 at ht
  split at ht
  ·rename_i et hT
   have key: ∀(ad:Option Addr) (n c:Nat),a.eval x= .slice ad n c→K (.c (.pure (.val (.bool (ad.isNone !=neg))))) σ→o.wp P a w next Q:=by
    intro ad n c hu hk
    have hr:(Op.equal t (.slice ad n c) (.slice none 0 0)).run P w= .ok ad.isNone w:=by
     show(Op.equalIn (9999+1) t (.slice ad n c) (.slice none 0 0)).run P w= .ok ad.isNone w
     unfold Op.equalIn
     cases ad<;>simp[run_underlying hT]
    have hg:(eqGuard op t x y (.slice ad n c) (.slice none 0 0)).run P w= .ok () w:=by unfold eqGuard;cases op<;>simp
    refine aK (u:= .bool (ad.isNone !=neg)) (w':=w) ?_ (hn _ σ ι _ w hk hs (jj _))
    simp only[execOp,ho,hu,e2]
    rw[Sem.run_bind,Sem.run_bind,hg]
    rcases hop with⟨rfl,rfl⟩|⟨rfl,rfl⟩<;>simp[binOp,hr]
   have rows: ∀{V:Nat→Prop} {rs:List (List PC)} {ad:Option Addr} {n c:Nat},a.eval x= .slice ad n c→cp w V (.slice rs) (.slice ad n c)→ @IP rs ⟨K (.c (.pure (.val (.bool (!neg))))) σ⟩ ⟨K (.c (.pure (.val (.bool neg)))) σ⟩→o.wp P a w next Q:=by
    intro V rs ad n c hu hr hnil
    cases ad with
    |some ad=>exact key _ _ _ hu (by have:=hnil.2;cases neg<;>exact this)
    |none=>
     refine key _ _ _ hu ?_
     have:=hnil.1 (fun r hr0=>by
      cases hr with
      | @slice sz _ _ _ _ g hn hc hm hr hcell hp=>
       obtain⟨k,hk⟩:=List.mem_iff_getElem?.1 hr0
       cases r with
       |nil=>rfl
       |cons p0 r=>
        obtain⟨b,off,e,_⟩:=hcell k _ 0 p0 hk rfl
        cases e)
     cases neg<;>exact this
   simp only[bD]at h
   split at h
   ·rename_i e
    rw[e]at r1
    generalize hu:a.eval x=u at r1
    cases r1 with
    |c r1=>
     cases r1
     exact key _ _ _ hu (by cases neg<;>exact h)
   ·rename_i rs e
    rw[e]at r1
    generalize hu:a.eval x=u at r1
    cases r1 with
    |c r1=>
     cases r1 with
     |pure r1=>
      have r1':=r1
      cases r1
      exact rows hu r1' h
   ·rename_i rs e
    rw[e]at r1
    generalize hu:a.eval x=u at r1
    cases r1 with
    |c r1=>
     cases r1 with
     |tsl r1=>exact rows hu r1 h
   ·rename_i nm e
    rw[e]at r1
    split at h
    ·rename_i rs hf
     have hv:=vE r1
     obtain⟨cells,k0,k1,k2,k3⟩:=hs.box _ _ hf
     rcases k1.2 with⟨e0,e1⟩|⟨g,cap,cur,e0,_⟩
     ·rw[e0]at hv
      refine key _ _ _ hv ?_
      have hz:rs= []:=List.eq_nil_of_length_eq_zero (by simpa using e1)
      subst hz
      have:=h.1 (by simp)
      cases neg<;>exact this
     ·rw[e0]at hv
      refine key _ _ _ hv ?_
      have:=h.2
      cases neg<;>exact this
    ·exact h.elim
   ·exact h.elim
  ·cases ht
 ·cases hq
set_option maxHeartbeats 1000000 in
theorem NM {dr:Bool} {ao:fc} (hc:b7 P dr o.op=some ao) (h:bD P ao σ K) (hs:bP w0 U σ ι a w) (hn:fW w0 U a o K next):o.wp P a w next Q:=by
 cases hop:o.op with
 |move x=>
  rw[hop]at hc
  simp only[b7,Option.map_eq_some_iff]at hc
  obtain⟨y,hy,rfl⟩:=hc
  exact Zr (.inl hop) hy h hs hn
 |assign x=>
  rw[hop]at hc
  simp only[b7,Option.map_eq_some_iff]at hc
  obtain⟨y,hy,rfl⟩:=hc
  exact Zr (.inr hop) hy h hs hn
 |pick c x y=>
  rw[hop]at hc
  simp only[b7]at hc
  split at hc
  ·cases hc
   exact YN hop ‹_› ‹_› ‹_› h hs hn
  ·cases hc
 |alloc t=>
  rw[hop]at hc
  simp only[b7,Option.map_eq_some_iff,Option.bind_eq_some_iff]at hc
  obtain⟨v,⟨z,h1,h2⟩,rfl⟩:=hc
  exact Um hop h1 h2 h hs hn
 |box t x=>
  rw[hop]at hc
  simp only[b7,Option.map_eq_some_iff]at hc
  obtain⟨y,hy,rfl⟩:=hc
  exact aaY hop hy h hs hn
 |build t parts=>
  rw[hop]at hc
  simp only[b7]at hc
  split at hc
  ·cases hc
   exact UN hop ‹_› ‹_› h hs hn
  ·cases hc
 |buildSlice t n parts=>
  rw[hop]at hc
  simp only[b7]at hc
  split at hc
  ·split at hc
   ·rename_i hcond
    obtain⟨h1,h2,h3,h4⟩:=hcond
    obtain⟨z,hz,hzs⟩:=y5 h4
    cases hc
    split at h
    ·exact Q0 hop ‹_› ‹_› h1 h2 h3 hz (of_decide_eq_true hzs) h hs hn
    ·exact Ud hop ‹_› ‹_› h1 h2 h3 hz (of_decide_eq_true hzs) h hs hn
   ·cases hc
  ·cases hc
 |load t p=>
  rw[hop]at hc
  simp only[b7]at hc
  split at hc
  ·cases hc
   exact Yw hop ‹_› ‹_› h hs hn
  ·cases hc
 |store t p v=>
  rw[hop]at hc
  simp only[b7]at hc
  split at hc
  ·cases hc
   exact W7 hop ‹_› ‹_› ‹_› h hs hn
  ·cases hc
 |binOp op t x y t'=>
  rw[hop]at hc
  simp only[b7]at hc
  split at hc
  ·rename_i p q h1 h2
   split at hc
   ·split at hc
    ·cases hc
     rename_i hb
     unfold LT at hb
     split at hb
     ·exact Un (.inl ⟨rfl,rfl⟩) ‹_› hop h1 h2 h hs hn
     ·cases hb
    ·split at hc
     ·simp only[Option.map_eq_some_iff]at hc
      obtain⟨l,hl,rfl⟩:=hc
      exact XF (.inl ⟨rfl,rfl⟩) ‹_› hl hop h1 h2 h hs hn
     split at hc
     ·split at hc
      ·cases hc
       exact Rl (.inl ⟨rfl,rfl⟩) ‹_› ‹_› hop h1 h2 h hs hn
      ·cases hc
     split at hc
     ·split at hc
      ·cases hc
       exact RE (.inl ⟨rfl,rfl⟩) ‹_› ‹_› hop h1 h2 h hs hn
      ·cases hc
     ·cases hc
      exact Qz hop h1 h2 h hs hn
   ·split at hc
    ·cases hc
     rename_i hb
     unfold LT at hb
     split at hb
     ·exact Un (.inr ⟨rfl,rfl⟩) ‹_› hop h1 h2 h hs hn
     ·cases hb
    ·split at hc
     ·simp only[Option.map_eq_some_iff]at hc
      obtain⟨l,hl,rfl⟩:=hc
      exact XF (.inr ⟨rfl,rfl⟩) ‹_› hl hop h1 h2 h hs hn
     split at hc
     ·split at hc
      ·cases hc
       exact Rl (.inr ⟨rfl,rfl⟩) ‹_› ‹_› hop h1 h2 h hs hn
      ·cases hc
     split at hc
     ·split at hc
      ·cases hc
       exact RE (.inr ⟨rfl,rfl⟩) ‹_› ‹_› hop h1 h2 h hs hn
      ·cases hc
     ·cases hc
      exact Qz hop h1 h2 h hs hn
   ·cases hc
    exact Qz hop h1 h2 h hs hn
  ·cases hc
 |unOp op t x=>
  rw[hop]at hc
  simp only[b7,Option.map_eq_some_iff]at hc
  obtain⟨y,hy,rfl⟩:=hc
  exact abR hop hy h hs hn
 |convert s d x=>
  rw[hop]at hc
  simp only[b7]at hc
  split at hc
  ·cases hc
   exact Y1 hop ‹_› ‹_› ‹_› h hs hn
  ·cases hc
 |nilCheck x=>
  rw[hop]at hc
  simp only[b7,Option.map_eq_some_iff]at hc
  obtain⟨y,hy,rfl⟩:=hc
  exact Y8 hop hy h hs hn
 |slice t x lo hi mx=>
  rw[hop]at hc
  simp only[b7]at hc
  split at hc
  ·rename_i e0 _ _ _ _ g0 g1 g2 g3 g4
   split at hc
   ·rename_i hel
    split at hc
    ·rename_i hcond
     cases hc
     exact aaS hop hel ‹_› ‹_› ‹_› ‹_› hcond.2 h hs hn
    ·cases hc
   ·cases hc
  ·rename_i e0 _ _ _ g0 g1 g2 g3 g4
   cases hc
   cases mx with
   |none=>exact Yv hop ‹_› ‹_› ‹_› ‹_› h hs hn
   |some m=>simp[nK]at g4
  ·cases hc
 |fieldAddr s x f=>
  rw[hop]at hc
  simp only[b7]at hc
  split at hc
  ·split at hc
   ·cases hc
   ·cases hc
    exact S3 hop ‹_› ‹_› ‹_› h hs hn
  ·cases hc
 |field s x f=>
  rw[hop]at hc
  simp only[b7]at hc
  split at hc
  ·simp only[Option.map_eq_some_iff]at hc
   obtain⟨n,h1,rfl⟩:=hc
   exact Wr hop ‹_› h1 ‹_› h hs hn
  ·cases hc
 |indexAddr t x i=>
  rw[hop]at hc
  simp only[b7]at hc
  split at hc
  ·cases hc
   exact Yk hop ‹_› ‹_› ‹_› h hs hn
  ·split at hc
   ·simp only[Option.map_eq_some_iff]at hc
    obtain⟨n,h1,rfl⟩:=hc
    exact YE hop ‹_› h1 ‹_› ‹_› h hs hn
   ·cases hc
  ·cases hc
 |index t x i=>
  rw[hop]at hc
  simp only[b7]at hc
  split at hc
  ·split at hc
   ·cases hc
    exact Ze hop ‹_› ‹_› ‹_› h hs hn
   ·cases hc
  ·cases hc
 |makeSlice t l c=>
  rw[hop]at hc
  simp only[b7]at hc
  split at hc
  ·rename_i e sz bytes p q h1 h2 h3
   split at hc
   ·rename_i hcond
    obtain⟨rfl,h0,h4⟩:=hcond
    obtain⟨z,hz,hzs⟩:=y5 h4
    simp only[Option.map_eq_some_iff,Option.bind_eq_some_iff]at hc
    obtain⟨zs,⟨z',hz',hpz⟩,rfl⟩:=hc
    rw[hz]at hz'
    cases hz'
    have hl:l= .tmp p:=by cases l<;>simp[aO]at h2;rw[h2]
    have hcc:c= .tmp p:=by cases c<;>simp[aO]at h3;rw[h3]
    subst hl
    subst hcc
    exact Qc hop h1 h0 hz (of_decide_eq_true hzs) hpz h hs hn
   ·cases hc
  ·cases hc
 |makeMap t r=>
  rw[hop]at hc
  cases r with
  |none=>
   simp only[b7]at hc
   split at hc
   ·cases hc
    exact Uv hop h hs hn
   ·cases hc
  |some r=>simp[b7]at hc
 |lookup t m k ok=>
  rw[hop]at hc
  simp only[b7]at hc
  split at hc
  ·simp only[Option.map_eq_some_iff,Option.bind_eq_some_iff]at hc
   obtain⟨zs,⟨z,hz,hzs⟩,rfl⟩:=hc
   exact YB hop ‹_› hz hzs ‹_› ‹_› h hs hn
  ·cases hc
 |mapUpdate t m k v=>
  rw[hop]at hc
  simp only[b7]at hc
  split at hc
  ·cases hc
   exact Se (.inl hop) ‹_› ‹_› ‹_› ‹_› h hs hn
  ·cases hc
 |insert t m k v=>
  rw[hop]at hc
  simp only[b7]at hc
  split at hc
  ·cases hc
   exact Se (.inr hop) ‹_› ‹_› ‹_› ‹_› h hs hn
  ·cases hc
 |extract x i=>
  rw[hop]at hc
  simp only[b7,Option.map_eq_some_iff]at hc
  obtain⟨y,hy,rfl⟩:=hc
  exact aan hop hy h hs hn
 |makeFunc fn first caps=>
  rw[hop]at hc
  cases fn with
  |func f=>
   simp only[b7]at hc
   split at hc
   ·simp only[Option.map_eq_some_iff]at hc
    obtain⟨y,hy,rfl⟩:=hc
    exact YY hop ‹_› hy h hs hn
   ·cases hc
  |_=>simp[b7]at hc
 |call c=>
  rw[hop]at hc
  obtain⟨callee,args,argTypes⟩:=c
  cases callee with
  |value f=>
   simp only[b7]at hc
   split at hc
   ·cases hc
    exact X6 rfl rfl hop ‹_› ‹_› h hs hn
   ·cases hc
  |invoke r m=>simp[b7]at hc
  |builtin b=>
   cases b with
   |len=>
    simp only[b7]at hc
    split at hc
    ·split at hc
     ·cases hc
      exact aap rfl ‹_› ‹_› hop ‹_› ‹_› h hs hn
     ·cases hc
      exact Yu rfl ‹_› ‹_› hop ‹_› ‹_› h hs hn
     ·cases hc
    ·cases hc
   |min=>
    simp only[b7]at hc
    split at hc
    ·split at hc
     ·cases hc
      exact Zq (.inl ⟨rfl,rfl⟩) ‹_› hop ‹_› ‹_› h hs hn
     ·cases hc
    ·cases hc
   |max=>
    simp only[b7]at hc
    split at hc
    ·split at hc
     ·cases hc
      exact Zq (.inr ⟨rfl,rfl⟩) ‹_› hop ‹_› ‹_› h hs hn
     ·cases hc
    ·split at hc
     ·cases hc
      exact aaD rfl ‹_› hop ‹_› ‹_› ‹_› ‹_› h hs hn
     ·cases hc
    ·cases hc
   |append=>
    simp only[b7]at hc
    split at hc
    ·split at hc
     ·rename_i htu
      subst htu
      split at hc
      ·split at hc
       ·rename_i hcond
        obtain⟨h0,h4⟩:=hcond
        obtain⟨z,hz,hzs⟩:=y5 h4
        cases hc
        exact aaX rfl ‹_› ‹_› hop ‹_› h0 hz (of_decide_eq_true hzs) ‹_› ‹_› h hs hn
       ·cases hc
      ·cases hc
     ·cases hc
    ·cases hc
   |_=>simp[b7]at hc
 |makeInterface t x=>
  rw[hop]at hc
  cases hc
  exact h.elim
 |panic x=>
  rw[hop]at hc
  cases hc
  exact h.elim
 |_=>rw[hop]at hc;simp[b7]at hc
end
open Go.RowKit
def zR (F:(AV→St→Prop)→Prop):Prop:= ∀K,F K→ ∃v σ',F (fun v' τ=>v'=v∧τ=σ')∧K v σ'
theorem OH {α:Type} {o:Option α} {F:α→(AV→St→Prop)→Prop} {G:(AV→St→Prop)→Prop} (h: ∀x,zR (F x)) (h':zR G):zR fun K=> @t6 _ o ⟨fun x=>F x K⟩ ⟨G K⟩:=fun K hK=>by
 cases o with
 |none=>
  obtain⟨v,s,h1,h2⟩:=h' K (hK.2 rfl)
  exact⟨v,s,⟨(fun x e=>by cases e),fun _=>h1⟩,h2⟩
 |some x=>
  obtain⟨v,s,h1,h2⟩:=h x K (hK.1 x rfl)
  exact⟨v,s,⟨fun y e=>by cases e;exact h1,(fun e=>by cases e)⟩,h2⟩
theorem co {v:AV} {σ:St}:zR fun K=>K v σ:=fun K h=>⟨v,σ,⟨rfl,rfl⟩,h⟩
theorem aL:zR fun _=>False:=fun K h=>h.elim
theorem cY {p:Prop} {F:(AV→St→Prop)→Prop} (h:zR F):zR fun K=> @c7 p ⟨F K⟩:=fun K hK=>by
 obtain⟨v,s,h1,h2⟩:=h K hK.2
 exact⟨v,s,⟨hK.1,h1⟩,h2⟩
theorem ff {α:Type} {o:Option α} {F:α→(AV→St→Prop)→Prop} (h: ∀x,zR (F x)):zR fun K=> @f6 _ o ⟨fun x=>F x K⟩:=fun K hK=>by
 obtain⟨x,e,hK⟩:=hK
 obtain⟨v,s,h1,h2⟩:=h x K hK
 exact⟨v,s,⟨x,e,h1⟩,h2⟩
theorem VE {t:Bool} {F G:(AV→St→Prop)→Prop} (h:zR F) (h':zR G):zR fun K=> @jc t ⟨F K⟩ ⟨G K⟩:=fun K hK=>by
 cases t with
 |true=>
  obtain⟨v,s,h1,h2⟩:=h K (hK.1 rfl)
  exact⟨v,s,⟨fun _=>h1,(fun e=>by cases e)⟩,h2⟩
 |false=>
  obtain⟨v,s,h1,h2⟩:=h' K (hK.2 rfl)
  exact⟨v,s,⟨(fun e=>by cases e),fun _=>h1⟩,h2⟩
theorem Xn {op:BinOp} {k:IntKind} {a b:Int} {σ:St}:zR fun K=>nP op k a b fun v=>K (.c (.pure (.val v))) σ:=by
 cases op<;>simp only[nP]<;>first|exact aL|exact cY co|exact co
theorem XE {op:BinOp} {a b:ByteArray} {σ:St}:zR fun K=>zy op a b fun v=>K (.c (.pure (.val v))) σ:=by
 cases op<;>simp only[zy]<;>first|exact aL|exact cY co|exact co
theorem Up {op:BinOp} {x y:Value} {σ:St}:zR fun K=>CK op x y fun v=>K (.c (.pure (.val v))) σ:=by
 unfold CK
 split
 ·exact cY Xn
 ·exact XE
 ·exact aL
theorem F0 {op:BinOp} {x y:Value} {σ:St}:zR fun K=>nS op x y fun v=>K (.c (.pure (.val v))) σ:=by
 unfold nS
 split
 ·refine cY ?_
  cases op<;>simp only[u5]<;>first|exact aL|exact co
 ·exact aL
theorem Jz {σ:St} {F:List AC→(AV→St→Prop)→Prop} (hF: ∀x,zR (F x)): ∀{ps:List (Nat×Nat×AX)} {acc:List AC},zR fun K=>bD.buildW σ ps acc fun xs=>F xs K
 | [],acc=>hF acc
 |(off,n,x)::ps,acc=>by
  simp only[bD.buildW]
  split
  ·exact cY (Jz hF)
  ·exact aL
theorem Fl {σ:St} {sz:Nat} {F:List (List PC)→(AV→St→Prop)→Prop} (hF: ∀x,zR (F x)): ∀{ps:List AX} {acc:List (List PC)},zR fun K=>bD.bsliceW σ sz ps acc fun xs=>F xs K
 | [],acc=>hF acc
 |x::ps,acc=>by
  simp only[bD.bsliceW]
  split
  ·exact ff fun z=>cY (Fl hF)
  ·exact aL
theorem DA {σ:St} {sz:Nat} {F:List (List PC)→List (Nat×bc)→(AV→St→Prop)→Prop} (hF: ∀x m,zR (F x m)): ∀{ps:List AX} {mem:List (Nat×bc)} {acc:List (List PC)},zR fun K=>bD.bsliceFW σ sz ps mem acc fun xs m=>F xs m K
 | [],mem,acc=>hF acc mem
 |x::ps,mem,acc=>by
  simp only[bD.bsliceFW]
  split
  ·exact ff fun z=>cY (DA hF)
  ·exact aL
theorem MJ {σ:St} {F:List AC→(AV→St→Prop)→Prop} (hF: ∀x,zR (F x)): ∀{ps:List AX} {acc:List AC},zR fun K=>bD.mkfnW σ ps acc fun xs=>F xs K
 | [],acc=>hF acc
 |x::ps,acc=>by
  simp only[bD.mkfnW]
  split
  ·exact MJ hF
  ·exact aL
theorem Wj {P:Program} {g z:Bool} {f:FuncId} {args:List AV} {σ:St}:zR fun K=> @sU P g z f args σ ⟨K⟩:=by
 rintro K ⟨l,σ',args',hg,hz,(⟨pargs,h1,res,h2,h4⟩|⟨h1,res,m,n,h2,h4⟩)⟩
 ·exact⟨res,σ',⟨l,σ',args',hg,hz,.inl ⟨pargs,h1,res,h2,rfl,rfl⟩⟩,h4⟩
 ·exact⟨res,_,⟨l,σ',args',hg,hz,.inr ⟨h1,res,m,n,h2,rfl,rfl⟩⟩,h4⟩
theorem Yp {e sz bytes:Nat} {x y:AV} {ys:List (List PC)} {σ:St}:zR fun K=> @Eb e sz bytes x y ys σ ⟨K⟩:=by
 rintro K ⟨hok,h⟩
 rcases h with⟨nm,h1,h2,rows,h3,h4,h5,h6⟩|⟨h1,h|h⟩|⟨rows,h1,h2,⟨h3,h⟩|h|h⟩
 ·exact⟨_,_,⟨hok,.inl ⟨nm,h1,h2,rows,h3,h4,h5,rfl,rfl⟩⟩,h6⟩
 ·exact⟨_,_,⟨hok,.inr (.inl ⟨h1,.inl ⟨h.1,h.2.1,rfl,rfl⟩⟩)⟩,h.2.2⟩
 ·exact⟨_,_,⟨hok,.inr (.inl ⟨h1,.inr ⟨h.1,h.2.1,rfl,rfl⟩⟩)⟩,h.2.2⟩
 ·exact⟨_,_,⟨hok,.inr (.inr ⟨rows,h1,h2,.inl ⟨h3,h.1,h.2.1,rfl,rfl⟩⟩)⟩,h.2.2⟩
 ·exact⟨_,_,⟨hok,.inr (.inr ⟨rows,h1,h2,.inr (.inl ⟨h.1,h.2.1,rfl,rfl⟩)⟩)⟩,h.2.2⟩
 ·exact⟨_,_,⟨hok,.inr (.inr ⟨rows,h1,h2,.inr (.inr ⟨h.1,rfl,rfl⟩)⟩)⟩,h.2⟩
theorem L8 {P:Program} {op:fc} {σ:St} (hgc:op.gcall=false):zR (bD P op σ):=by
 have eta: ∀{F:(AV→St→Prop)→Prop},zR (fun K=>F K)→zR F:=fun h=>h
 apply eta
 cases op<;>simp only[bD]
 case mv=>exact co
 case pick=>split;exact VE co co;exact aL
 case box=>split;exact co;exact aL
 case load=>
  split
  ·split
   ·split
    ·split
     ·exact co
     ·exact aL
    ·exact cY co
   ·exact aL
  ·exact aL
 case store=>
  split
  ·split
   ·exact cY co
   ·exact aL
  ·split
   ·exact cY (ff fun z=>ff fun r=>co)
   ·exact cY (ff fun r=>co)
   ·exact aL
  ·exact aL
 case bin=>
  split
  ·split
   ·exact F0
   ·exact F0
   ·exact Up
  ·exact aL
 case eqb=>split;exact co;exact aL
 case eqs=>split;exact cY co;exact aL
 case un=>split<;>first|exact co|exact aL
 case conv=>split;exact co;exact aL
 case fieldA=>split<;>first|exact co|exact aL
 case field=>
  split
  ·split
   ·split
    ·exact co
    ·exact aL
   ·exact cY co
  ·exact aL
 case idxA=>
  split
  ·exact cY (ff fun r=>cY co)
  ·exact cY (ff fun r=>cY co)
  ·split
   ·exact cY co
   ·exact cY co
   ·exact aL
  ·exact aL
 case idxR=>split<;>first|exact cY co|exact aL
 case idxS=>split;exact cY (ff fun b=>co);exact aL
 case nilc=>split<;>first|exact co|exact aL
 case build=>exact Jz fun x=>co
 case bslice=>exact Fl fun x=>co
 case mkslice=>split;exact cY co;exact aL
 case slc=>
  split
  ·exact aL
  ·exact ff fun rows=>ff fun lo=>ff fun hi=>ff fun mx=>cY co
 case slcS=>split;exact cY co;exact aL
 case ext=>split;exact ff fun v=>co;exact aL
 case len=>
  split
  ·exact co
  ·exact co
  ·exact co
  ·split
   ·exact co
   ·exact co
   ·exact aL
  ·exact aL
 case lenS=>split;exact co;exact aL
 case mm=>split;exact co;exact aL
 case mm4=>split;exact co;exact aL
 case dead=>exact aL
 case fnil=>split;exact co;exact co;exact aL
 case snil=>cases hgc
 case app=>exact ff fun ys=>Yp
 case mkfn=>exact MJ fun x=>co
 case call=>split;exact Wj;exact aL
 case bsliceF=>exact DA fun x m=>co
 case mkmap=>exact co
 case mget=>
  split
  ·refine ff fun mk=> ?_
   split
   ·split
    ·exact cY (OH (fun ps=>co) co)
    ·exact aL
   ·exact cY (OH (fun ps=>co) co)
   ·exact aL
  ·exact aL
 case mput=>
  split
  ·refine ff fun mk=> ?_
   split
   ·refine ff fun ys=> ?_
    split
    ·exact cY co
    ·exact aL
   ·exact aL
  ·exact aL
theorem ci {fr fr2:List (Nat×AV)} {x:AX} (h: ∀t∈x.tmps,aN fr2 t=aN fr t):x.ev fr2=x.ev fr:=by
 cases x with
 |t n=>exact h n (by simp[AX.tmps])
 |k v=>rfl
def jw (s s2:St) (F F2:(AV→St→Prop)→Prop):Prop:= ∀K K2,(∀v,K v s→K2 v s2)→F K→F2 K2
section
variable {s s2 : St}
theorem ct {v:AV}:jw s s2 (fun K=>K v s) (fun K=>K v s2):=fun K K2 hk h=>hk v h
theorem aQ {F2:(AV→St→Prop)→Prop}:jw s s2 (fun _=>False) F2:=fun K K2 hk h=>h.elim
theorem dP {p:Prop} {F F2:(AV→St→Prop)→Prop} (h:jw s s2 F F2):jw s s2 (fun K=> @c7 p ⟨F K⟩) (fun K=> @c7 p ⟨F2 K⟩):=fun K K2 hk hK=>⟨hK.1,h K K2 hk hK.2⟩
theorem mY {α:Type} {o:Option α} {F F2:α→(AV→St→Prop)→Prop} (h: ∀x,jw s s2 (F x) (F2 x)):jw s s2 (fun K=> @f6 _ o ⟨fun x=>F x K⟩) (fun K=> @f6 _ o ⟨fun x=>F2 x K⟩):=fun K K2 hk hK=>by
 obtain⟨x,e,hK⟩:=hK
 exact⟨x,e,h x K K2 hk hK⟩
theorem U5 {α:Type} {o o2:Option α} (ho: ∀x,o=some x→o2=some x) {F F2:α→(AV→St→Prop)→Prop} (h: ∀x,jw s s2 (F x) (F2 x)):jw s s2 (fun K=> @f6 _ o ⟨fun x=>F x K⟩) (fun K=> @f6 _ o2 ⟨fun x=>F2 x K⟩):=fun K K2 hk hK=>by
 obtain⟨x,e,hK⟩:=hK
 exact⟨x,ho x e,h x K K2 hk hK⟩
theorem UZ {t:Bool} {F G F2 G2:(AV→St→Prop)→Prop} (h:jw s s2 F F2) (h':jw s s2 G G2):jw s s2 (fun K=> @jc t ⟨F K⟩ ⟨G K⟩) (fun K=> @jc t ⟨F2 K⟩ ⟨G2 K⟩):=fun K K2 hk hK=>
 ⟨fun e=>h K K2 hk (hK.1 e),fun e=>h' K K2 hk (hK.2 e)⟩
theorem LY {rows:List (List PC)} {F G F2 G2:(AV→St→Prop)→Prop} (h:jw s s2 F F2) (h':jw s s2 G G2):jw s s2 (fun K=> @IP rows ⟨F K⟩ ⟨G K⟩) (fun K=> @IP rows ⟨F2 K⟩ ⟨G2 K⟩):=fun K K2 hk hK=>
 ⟨fun e=>h K K2 hk (hK.1 e),h' K K2 hk hK.2⟩
theorem M1 {α:Type} {o:Option α} {F F2:α→(AV→St→Prop)→Prop} {G G2:(AV→St→Prop)→Prop} (h: ∀x,jw s s2 (F x) (F2 x)) (h':jw s s2 G G2):jw s s2 (fun K=> @t6 _ o ⟨fun x=>F x K⟩ ⟨G K⟩) (fun K=> @t6 _ o ⟨fun x=>F2 x K⟩ ⟨G2 K⟩):=fun K K2 hk hK=>
 ⟨fun x e=>h x K K2 hk (hK.1 x e),fun e=>h' K K2 hk (hK.2 e)⟩
theorem V7 {op:BinOp} {k:IntKind} {a b:Int}:jw s s2 (fun K=>nP op k a b fun v=>K (.c (.pure (.val v))) s) (fun K=>nP op k a b fun v=>K (.c (.pure (.val v))) s2):=by
 cases op<;>simp only[nP]<;>first|exact aQ|exact dP ct|exact ct
theorem VO {op:BinOp} {a b:ByteArray}:jw s s2 (fun K=>zy op a b fun v=>K (.c (.pure (.val v))) s) (fun K=>zy op a b fun v=>K (.c (.pure (.val v))) s2):=by
 cases op<;>simp only[zy]<;>first|exact aQ|exact dP ct|exact ct
theorem Vn {op:BinOp} {x y:Value}:jw s s2 (fun K=>CK op x y fun v=>K (.c (.pure (.val v))) s) (fun K=>CK op x y fun v=>K (.c (.pure (.val v))) s2):=by
 unfold CK
 split
 ·exact dP V7
 ·exact VO
 ·exact aQ
theorem FC {op:BinOp} {x y:Value}:jw s s2 (fun K=>nS op x y fun v=>K (.c (.pure (.val v))) s) (fun K=>nS op x y fun v=>K (.c (.pure (.val v))) s2):=by
 unfold nS
 split
 ·refine dP ?_
  cases op<;>simp only[u5]<;>first|exact aQ|exact ct
 ·exact aQ
theorem Ku {F F2:List AC→(AV→St→Prop)→Prop} (hF: ∀x,jw s s2 (F x) (F2 x)): ∀{ps:List (Nat×Nat×AX)} {acc:List AC},(∀t∈Gc ps,aN s2.fr t=aN s.fr t)→jw s s2 (fun K=>bD.buildW s ps acc fun xs=>F xs K) (fun K=>bD.buildW s2 ps acc fun xs=>F2 xs K)
 | [],acc,h=>hF acc
 |(off,n,x)::ps,acc,h=>by
  simp only[bD.buildW]
  rw[ci fun t ht=>h t (by simp[Gc,ht])]
  split
  ·exact dP (Ku hF fun t ht=>h t (by simp[Gc,ht]))
  ·exact aQ
theorem Hb {sz:Nat} {F F2:List (List PC)→(AV→St→Prop)→Prop} (hF: ∀x,jw s s2 (F x) (F2 x)): ∀{ps:List AX} {acc:List (List PC)},(∀t∈iq ps,aN s2.fr t=aN s.fr t)→jw s s2 (fun K=>bD.bsliceW s sz ps acc fun xs=>F xs K) (fun K=>bD.bsliceW s2 sz ps acc fun xs=>F2 xs K)
 | [],acc,h=>hF acc
 |x::ps,acc,h=>by
  simp only[bD.bsliceW]
  rw[ci fun t ht=>h t (by simp[iq,ht])]
  split
  ·exact mY fun z=>dP (Hb hF fun t ht=>h t (by simp[iq,ht]))
  ·exact aQ
theorem OG {F F2:List AC→(AV→St→Prop)→Prop} (hF: ∀x,jw s s2 (F x) (F2 x)): ∀{ps:List AX} {acc:List AC},(∀t∈iq ps,aN s2.fr t=aN s.fr t)→jw s s2 (fun K=>bD.mkfnW s ps acc fun xs=>F xs K) (fun K=>bD.mkfnW s2 ps acc fun xs=>F2 xs K)
 | [],acc,h=>hF acc
 |x::ps,acc,h=>by
  simp only[bD.mkfnW]
  rw[ci fun t ht=>h t (by simp[iq,ht])]
  split
  ·exact OG hF fun t ht=>h t (by simp[iq,ht])
  ·exact aQ
theorem vj {y:Option AX} (h: ∀t∈Ky y,aN s2.fr t=aN s.fr t):bD.boundOf s2 y=bD.boundOf s y:=by
 cases y with
 |none=>rfl
 |some x=>simp only[bD.boundOf,ci (x:=x) h]
theorem P6 {fr fr2:List (Nat×AV)}: ∀{xs:List AX},(∀t∈iq xs,aN fr2 t=aN fr t)→xs.map (·.ev fr2)=xs.map (·.ev fr)
 | [],_=>rfl
 |x::xs,h=>by
  rw[List.map_cons,List.map_cons,ci fun t ht=>h t (by simp[iq,ht]),P6 fun t ht=>h t (by simp[iq,ht])]
end
theorem Wn {m m':List (Nat×bc)} (hm:lC m m') {q:AC} {xs:List AC} (h:bR m q=some xs):bR m' q=some xs:=by
 unfold bR at h ⊢
 split at h
 ·rename_i nm off
  split at h
  ·rename_i hf;rw[hm _ _ hf];exact h
  ·cases h
 ·exact h
 ·rename_i nm sz row off
  split at h
  ·rename_i hf;rw[hm _ _ hf];exact h
  ·rename_i hf;rw[hm _ _ hf];exact h
  ·cases h
 ·cases h
theorem UB {m m':List (Nat×bc)} (hm:lC m m') {x:AV} {rows:List (List PC)} (h:fe m x=some rows):fe m' x=some rows:=by
 unfold fe at h ⊢
 split at h
 ·exact h
 ·exact h
 ·exact h
 ·rename_i nm
  split at h
  ·rename_i hf;rw[hm _ _ hf];exact h
  ·cases h
 ·cases h
theorem Ge {m m':List (Nat×bc)} (hm:lC m m') {x:AC} {p:PC} (h:dS m x=some p):dS m' x=some p:=by
 unfold dS at h ⊢
 split at h
 ·exact h
 ·exact h
 ·exact h
 ·rename_i nm
  split at h
  ·rename_i hf;rw[hm _ _ hf];exact h
  ·cases h
 ·cases h
theorem Kp {m m':List (Nat×bc)} (hm:lC m m'): ∀{xs:List AC} {ps:List PC},xp m xs=some ps→xp m' xs=some ps
 | [],ps,h=>h
 |x::xs,ps,h=>by
  unfold xp at h ⊢
  split at h
  ·rename_i h1 h2
   rw[Ge hm h1,Kp hm h2]
   exact h
  ·cases h
theorem QE {m m':List (Nat×bc)} (hm:lC m m') {n:Option Nat} {xs:List AC} {ps:List PC} (h:qn m n xs=some ps):qn m' n xs=some ps:=by
 unfold qn at h ⊢
 split at h
 ·split at h
  ·rename_i h1;rw[Ge hm h1];exact h
  ·cases h
 ·cases h
 ·exact Kp hm h
theorem B8 {m m':List (Nat×bc)} (hm:lC m m') {n:Option Nat}: ∀{xs:List (MK×List AC)} {ps:List (MK×List PC)},mG m n xs=some ps→mG m' n xs=some ps
 | [],ps,h=>h
 |x::xs,ps,h=>by
  unfold mG at h ⊢
  split at h
  ·rename_i h1 h2
   rw[QE hm h1,B8 hm h2]
   exact h
  ·cases h
theorem XG {m m':List (Nat×bc)} (hm:lC m m') {x:AC} {p:PC} (h:eL m x=some p):eL m' x=some p:=by
 unfold eL at h ⊢
 split at h
 ·rename_i nm
  split at h
  ·rename_i hf
   rw[hm _ _ hf]
   simp only
   split at h
   ·rename_i h1;rw[B8 hm h1];exact h
   ·cases h
  ·cases h
 ·exact Ge hm h
theorem JE {m m':List (Nat×bc)} (hm:lC m m'): ∀{xs:List AC} {ps:List PC},cJ m xs=some ps→cJ m' xs=some ps
 | [],ps,h=>h
 |x::xs,ps,h=>by
  unfold cJ at h ⊢
  split at h
  ·rename_i h1 h2
   rw[XG hm h1,JE hm h2]
   exact h
  ·cases h
theorem OI {m m':List (Nat×bc)} (hm:lC m m') {x y:AC} (h:d6 m x=some y):d6 m' x=some y:=by
 unfold d6 at h ⊢
 split at h
 ·exact h
 ·exact h
 ·exact h
 ·rename_i nm
  split at h
  ·rename_i hf;rw[hm _ _ hf];exact h
  ·cases h
 ·exact h
 ·rename_i nm off
  split at h
  ·rename_i hf
   rw[hm _ _ hf]
   simp only
   split at h
   ·rename_i h1;rw[JE hm h1];exact h
   ·cases h
  ·cases h
 ·rename_i nm
  split at h
  ·rename_i hf
   rw[hm _ _ hf]
   simp only
   split at h
   ·rename_i h1;rw[B8 hm h1];exact h
   ·cases h
  ·cases h
 ·cases h
theorem KW {m m':List (Nat×bc)} (hm:lC m m'): ∀{xs ys:List AC},DM m xs=some ys→DM m' xs=some ys
 | [],ps,h=>h
 |x::xs,ps,h=>by
  unfold DM at h ⊢
  split at h
  ·rename_i h1 h2
   rw[OI hm h1,KW hm h2]
   exact h
  ·cases h
theorem NF {m m':List (Nat×bc)} (hm:lC m m') {x y:AC} (h:ej m x=some y):ej m' x=some y:=by
 unfold ej at h ⊢
 split at h
 ·split at h
  ·rename_i h1;rw[KW hm h1];exact h
  ·cases h
 ·exact OI hm h
theorem J8 {m m':List (Nat×bc)} (hm:lC m m'): ∀{xs ys:List AC},xo m xs=some ys→xo m' xs=some ys
 | [],ps,h=>h
 |x::xs,ps,h=>by
  unfold xo at h ⊢
  split at h
  ·rename_i h1 h2
   rw[NF hm h1,J8 hm h2]
   exact h
  ·cases h
theorem WT {m m':List (Nat×bc)} (hm:lC m m') {x y:AV} (h:dQ m x=some y):dQ m' x=some y:=by
 unfold dQ at h ⊢
 split at h
 ·split at h
  ·rename_i h1;rw[NF hm h1];exact h
  ·cases h
 ·split at h
  ·rename_i h1;rw[J8 hm h1];exact h
  ·cases h
 ·cases h
theorem KJ {m m':List (Nat×bc)} (hm:lC m m'): ∀{xs ys:List AV},bG m xs=some ys→bG m' xs=some ys
 | [],ps,h=>h
 |x::xs,ps,h=>by
  unfold bG at h ⊢
  split at h
  ·rename_i h1 h2
   rw[WT hm h1,KJ hm h2]
   exact h
  ·cases h
section
variable {P : Program} {op : fc}
theorem Rx {s s2:St} (he:op.eff=false) (hm:op.sens=true→lC s.mem s2.mem) (hf: ∀t∈op.tmps,aN s2.fr t=aN s.fr t):jw s s2 (bD P op s) (bD P op s2):=by
 have eta: ∀{F F2:(AV→St→Prop)→Prop},jw s s2 (fun K=>F K) (fun K=>F2 K)→jw s s2 F F2:=fun h=>h
 apply eta
 cases op<;>simp only[bD]<;>simp[fc.eff]at he
 case mv=>rw[ci hf];exact ct
 case pick c a b=>
  rw[ci (x:=c) fun t ht=>hf t (by simp[fc.tmps,ht]),ci (x:=a) fun t ht=>hf t (by simp[fc.tmps,ht]),ci (x:=b) fun t ht=>hf t (by simp[fc.tmps,ht])]
  split;exact UZ ct ct;exact aQ
 case load n p=>
  rw[ci (x:=p) fun t ht=>hf t (by simp[fc.tmps,ht])]
  split
  ·split
   ·rename_i hl
    rw[Wn (hm rfl) hl]
    simp only
    split
    ·split
     ·exact ct
     ·exact aQ
    ·exact dP ct
   ·exact aQ
  ·exact aQ
 case bin op x y=>
  rw[ci (x:=x) fun t ht=>hf t (by simp[fc.tmps,ht]),ci (x:=y) fun t ht=>hf t (by simp[fc.tmps,ht])]
  split
  ·split
   ·exact FC
   ·exact FC
   ·exact Vn
  ·exact aQ
 case eqb n x y=>
  rw[ci (x:=x) fun t ht=>hf t (by simp[fc.tmps,ht]),ci (x:=y) fun t ht=>hf t (by simp[fc.tmps,ht])]
  split;exact ct;exact aQ
 case eqs n l x y=>
  rw[ci (x:=x) fun t ht=>hf t (by simp[fc.tmps,ht]),ci (x:=y) fun t ht=>hf t (by simp[fc.tmps,ht])]
  split;exact dP ct;exact aQ
 case un=>rw[ci hf];split<;>first|exact ct|exact aQ
 case conv=>rw[ci hf];split;exact ct;exact aQ
 case fieldA=>rw[ci hf];split<;>first|exact ct|exact aQ
 case field=>
  rw[ci hf]
  split
  ·split
   ·split
    ·exact ct
    ·exact aQ
   ·exact dP ct
  ·exact aQ
 case idxA sz x y=>
  rw[ci (x:=x) fun t ht=>hf t (by simp[fc.tmps,ht]),ci (x:=y) fun t ht=>hf t (by simp[fc.tmps,ht])]
  split
  ·exact dP (mY fun r=>dP ct)
  ·exact dP (mY fun r=>dP ct)
  ·split
   ·rename_i hl
    rw[hm rfl _ _ hl]
    exact dP ct
   ·rename_i hl
    rw[hm rfl _ _ hl]
    exact dP ct
   ·exact aQ
  ·exact aQ
 case idxR l sz x y=>
  rw[ci (x:=x) fun t ht=>hf t (by simp[fc.tmps,ht]),ci (x:=y) fun t ht=>hf t (by simp[fc.tmps,ht])]
  split<;>first|exact dP ct|exact aQ
 case idxS x y=>
  rw[ci (x:=x) fun t ht=>hf t (by simp[fc.tmps,ht]),ci (x:=y) fun t ht=>hf t (by simp[fc.tmps,ht])]
  split;exact dP (mY fun b=>ct);exact aQ
 case nilc=>rw[ci hf];split<;>first|exact ct|exact aQ
 case build=>exact Ku (fun x=>ct) hf
 case bslice=>exact Hb (fun x=>ct) hf
 case slc sz x l h m=>
  rw[ci (x:=x) fun t ht=>hf t (by simp[fc.tmps,ht]),vj (y:=l) fun t ht=>hf t (by simp[fc.tmps,ht]),vj (y:=h) fun t ht=>hf t (by simp[fc.tmps,ht]),vj (y:=m) fun t ht=>hf t (by simp[fc.tmps,ht])]
  split
  ·exact aQ
  ·exact U5 (fun rows hr=>UB (hm rfl) hr) fun rows=>mY fun lo=>mY fun hi=>mY fun mx=>dP ct
 case slcS x l h=>
  rw[ci (x:=x) fun t ht=>hf t (by simp[fc.tmps,ht]),vj (y:=l) fun t ht=>hf t (by simp[fc.tmps,ht]),vj (y:=h) fun t ht=>hf t (by simp[fc.tmps,ht])]
  split;exact dP ct;exact aQ
 case ext=>rw[ci hf];split;exact mY fun v=>ct;exact aQ
 case len=>
  rw[ci hf]
  split
  ·exact ct
  ·exact ct
  ·exact ct
  ·split
   ·rename_i hl
    rw[hm rfl _ _ hl]
    exact ct
   ·rename_i hl
    rw[hm rfl _ _ hl]
    exact ct
   ·exact aQ
  ·exact aQ
 case lenS=>rw[ci hf];split;exact ct;exact aQ
 case mm4 x y z t=>
  rw[ci (x:=x) fun u hu=>hf u (by simp[fc.tmps,hu]),ci (x:=y) fun u hu=>hf u (by simp[fc.tmps,hu]),ci (x:=z) fun u hu=>hf u (by simp[fc.tmps,hu]),ci (x:=t) fun u hu=>hf u (by simp[fc.tmps,hu])]
  split;exact ct;exact aQ
 case dead=>exact aQ
 case mm m x y=>
  rw[ci (x:=x) fun t ht=>hf t (by simp[fc.tmps,ht]),ci (x:=y) fun t ht=>hf t (by simp[fc.tmps,ht])]
  split;exact ct;exact aQ
 case fnil=>rw[ci hf];split;exact ct;exact ct;exact aQ
 case snil=>
  rw[ci hf]
  split
  ·exact ct
  ·exact LY ct ct
  ·exact LY ct ct
  ·split
   ·rename_i hl
    rw[hm rfl _ _ hl]
    exact LY ct ct
   ·exact aQ
  ·exact aQ
 case mkfn=>exact OG (fun x=>ct) hf
 case call g z f xs=>
  obtain⟨rfl,rfl⟩:=he
  rw[ci (x:=f) fun t ht=>hf t (by simp[fc.tmps,ht]),P6 (xs:=xs) fun t ht=>hf t (by simp[fc.tmps,ht])]
  split
  ·rintro K K2 hk ⟨l,σ',args',hl,hz,(⟨pargs,h1,res,h2,h4⟩|⟨h1,_⟩)⟩
   ·rcases hl with rfl|hl
    ·cases hz
     exact⟨[],_,_,.inl rfl,rfl,.inl ⟨pargs,KJ (hm rfl) h1,res,h2,hk _ h4⟩⟩
    ·cases hl
   ·cases h1
  ·exact aQ
 case mget kt n z ok m k=>
  rw[ci (x:=m) fun t ht=>hf t (by simp[fc.tmps,ht]),ci (x:=k) fun t ht=>hf t (by simp[fc.tmps,ht])]
  split
  ·refine mY fun mk=> ?_
   split
   ·split
    ·rename_i hl
     rw[hm rfl _ _ hl]
     exact dP (M1 (fun ps=>ct) ct)
    ·exact aQ
   ·exact dP (M1 (fun ps=>ct) ct)
   ·exact aQ
  ·exact aQ
theorem Dq {s s2:St} {sz:Nat} {F F2:List (List PC)→List (Nat×bc)→Prop} (hF: ∀x m,F x m→F2 x m): ∀{ps:List AX} {mem:List (Nat×bc)} {acc:List (List PC)},(∀t∈iq ps,aN s2.fr t=aN s.fr t)→bD.bsliceFW s sz ps mem acc F→bD.bsliceFW s2 sz ps mem acc F2
 | [],mem,acc,h,h1=>hF _ _ h1
 |x::ps,mem,acc,h,h1=>by
  simp only[bD.bsliceFW]at h1 ⊢
  rw[ci fun t ht=>h t (by simp[iq,ht])]
  split at h1
  ·obtain⟨z,e,h2,h3⟩:=h1
   exact⟨z,e,h2,Dq hF (fun t ht=>h t (by simp[iq,ht])) h3⟩
  ·exact h1.elim
theorem Sl {fr fr2:List (Nat×AV)} {mem:List (Nat×bc)} {nx b:Nat} {K K2:AV→St→Prop} (he:op.eff=true) (hgc:op.gcall=false) (hf: ∀t∈op.tmps,aN fr2 t=aN fr t) (hk: ∀v m n,K v ⟨fr,m,n,b⟩→K2 v ⟨fr2,m,n,b⟩) (h:bD P op ⟨fr,mem,nx,b⟩ K):bD P op ⟨fr2,mem,nx,b⟩ K2:=by
 cases op<;>simp[fc.eff]at he<;>simp only[bD]at h ⊢
 case box x=>
  rw[ci (x:=x) hf]
  split at h
  ·exact hk _ _ _ h
  ·exact h.elim
 case store n x y=>
  rw[ci (x:=x) fun t ht=>hf t (by simp[fc.tmps,ht]),ci (x:=y) fun t ht=>hf t (by simp[fc.tmps,ht])]
  split at h
  ·split at h
   ·exact⟨h.1,hk _ _ _ h.2⟩
   ·exact h.elim
  ·split at h
   ·obtain⟨h1,zs,h2,r,h3,h4⟩:=h
    exact⟨h1,zs,h2,r,h3,hk _ _ _ h4⟩
   ·obtain⟨h1,r,h3,h4⟩:=h
    exact⟨h1,r,h3,hk _ _ _ h4⟩
   ·exact h.elim
  ·exact h.elim
 case mkslice e sz b z x=>
  rw[ci (x:=x) hf]
  split at h
  ·exact⟨h.1,hk _ _ _ h.2⟩
  ·exact h.elim
 case call g z f xs=>
  simp only[fc.gcall]at hgc
  subst hgc
  rw[ci (x:=f) fun t ht=>hf t (by simp[fc.tmps,ht]),P6 (xs:=xs) fun t ht=>hf t (by simp[fc.tmps,ht])]
  split at h
  ·obtain⟨l,σ',args',hl,hz,h⟩:=h
   rcases hl with rfl|hl
   ·cases hz
    rcases h with⟨pargs,h1,res,h2,h4⟩|⟨h1,res,m,n,h2,h4⟩
    ·exact⟨[],_,_,.inl rfl,rfl,.inl ⟨pargs,h1,res,h2,hk _ _ _ h4⟩⟩
    ·exact⟨[],_,_,.inl rfl,rfl,.inr ⟨h1,res,m,n,h2,hk _ _ _ h4⟩⟩
   ·cases hl
  ·exact h.elim
 case bsliceF sz xs=>exact Dq (s:=⟨fr,mem,nx,b⟩) (s2:=⟨fr2,mem,nx,b⟩) (fun x m h=>hk _ _ _ h) hf h
 case mkmap kt n=>exact hk _ _ _ h
 case mput kt n m k v=>
  rw[ci (x:=m) fun t ht=>hf t (by simp[fc.tmps,ht]),ci (x:=k) fun t ht=>hf t (by simp[fc.tmps,ht]),ci (x:=v) fun t ht=>hf t (by simp[fc.tmps,ht])]
  split at h
  ·obtain⟨mk,hmk,h⟩:=h
   refine⟨mk,hmk, ?_⟩
   simp only at h ⊢
   split at h
   ·obtain⟨ys,hys,h⟩:=h
    refine⟨ys,hys, ?_⟩
    simp only at h ⊢
    split at h
    ·exact⟨h.1,hk _ _ _ h.2⟩
    ·exact h.elim
   ·exact h.elim
  ·exact h.elim
 case app e sz b x y=>
  rw[ci (x:=x) fun t ht=>hf t (by simp[fc.tmps,ht]),ci (x:=y) fun t ht=>hf t (by simp[fc.tmps,ht])]
  obtain⟨ys,hys,hok,h⟩:=h
  refine⟨ys,hys,hok, ?_⟩
  rcases h with⟨nm,h1,h2,rows,h3,h4,h5,h6⟩|⟨h1,h|h⟩|⟨rows,h1,h2,⟨h3,h⟩|h|h⟩
  ·exact .inl ⟨nm,h1,h2,rows,h3,h4,h5,hk _ _ _ h6⟩
  ·exact .inr (.inl ⟨h1,.inl ⟨h.1,h.2.1,hk _ _ _ h.2.2⟩⟩)
  ·exact .inr (.inl ⟨h1,.inr ⟨h.1,h.2.1,hk _ _ _ h.2.2⟩⟩)
  ·exact .inr (.inr ⟨rows,h1,h2,.inl ⟨h3,h.1,h.2.1,hk _ _ _ h.2.2⟩⟩)
  ·exact .inr (.inr ⟨rows,h1,h2,.inr (.inl ⟨h.1,h.2.1,hk _ _ _ h.2.2⟩)⟩)
  ·exact .inr (.inr ⟨rows,h1,h2,.inr (.inr ⟨h.1,hk _ _ _ h.2⟩)⟩)
end
open Go.RowKit
theorem qr {P:Program} {op:fc} {σ:St} {v:AV} {τ:St} (hgc:op.gcall=false) (h:bD P op σ fun v' τ'=>v'=v∧τ'=τ):τ.fr=σ.fr∧τ.base=σ.base∧(op.eff=false→τ=σ):=by
 by_cases he:op.eff=true
 ·obtain⟨fr,mem,nx,b⟩:=σ
  have h2:=Sl (fr2:=fr) (K2:=fun v' τ'=>(v'=v∧τ'=τ)∧τ'.fr=fr∧τ'.base=b) he hgc (fun _ _=>rfl) (fun v m n hk=>⟨hk,rfl,rfl⟩) h
  obtain⟨v2,s2,_,⟨_,h4⟩,h5⟩:=L8 hgc _ h2
  rw[←h4];exact⟨h5.1,h5.2,fun e=>by rw[he]at e;cases e⟩
 ·have he':op.eff=false:=by simpa using he
  have h2:=Rx (s2:=σ) he' (fun _ _ _ h=>h) (fun _ _=>rfl) (fun v' τ'=>v'=v∧τ'=τ) (fun v' τ'=>(v'=v∧τ'=τ)∧τ'=σ) (fun v' hk=>⟨hk,rfl⟩) h
  obtain⟨v2,s2,_,⟨_,h4⟩,h5⟩:=L8 hgc _ h2
  subst h4
  subst h5
  exact⟨rfl,rfl,fun _=>rfl⟩
def mL (P:Program) (g:AG) (σ:St) (v:AV) (σ':St):Prop:=
 ((g.op.gcall=false∧(g.guard=none∨ ∃t want,g.guard=some (t,want)∧aN σ.fr t= .c (.pure (.val (.bool want)))))∧ ∃τ,(bD P g.op σ fun v' τ'=>v'=v∧τ'=τ)∧σ'=τ.put g.dst v)∨
 (∃t want,g.guard=some (t,want)∧(aN σ.fr t= .tup []∨aN σ.fr t= .c (.pure (.val (.bool (!want)))))∧v= .tup []∧σ'=σ.put g.dst (.tup []))
theorem Iw {P:Program} {K:St→Prop}: ∀{gs:List (Bool×AG)} {σ:St},(gs.all fun y=> !y.2.op.gcall)=true→jy P gs σ K→ ∃(v:Nat→AV) (s:Nat→St),s 0=σ∧(∀k y,gs[k]? =some y→mL P y.2 (s k) (v k) (s (k+1))∧(y.1=true→lC (s k).mem (s (k+1)).mem))∧K (s gs.length)
 | [],σ,_,h=>⟨fun _=> .top,fun _=>σ,rfl,(fun k g hk=>by simp at hk),h⟩
 |(x,g)::gs,σ,hall,h=>by
  simp only[List.all_cons,Bool.and_eq_true,Bool.not_eq_true']at hall
  have pmem: ∀{τ:St} {v:AV},(τ.put g.dst v).mem=τ.mem:=fun{τ v}=>by cases g.dst<;>rfl
  have one: ∃v σ',(mL P g σ v σ'∧(x=true→lC σ.mem σ'.mem))∧jy P gs σ' K:=by
   have run:(g.guard=none∨ ∃t want,g.guard=some (t,want)∧aN σ.fr t= .c (.pure (.val (.bool want))))→(bD P g.op σ fun v σ'=> @c7 (x=true→Mk σ.mem σ'.mem) ⟨jy P gs (σ'.put g.dst v) K⟩)→ ∃v σ',(mL P g σ v σ'∧(x=true→lC σ.mem σ'.mem))∧jy P gs σ' K:=by
    intro hg h
    obtain⟨v,τ,h1,h2,h3⟩:=L8 hall.1 _ h
    exact⟨v,_,⟨.inl ⟨⟨hall.1,hg⟩,τ,h1,rfl⟩,by rw[pmem];exact fun e=>XU (h2 e)⟩,h3⟩
   simp only[jy]at h
   split at h
   ·rename_i hg
    exact run (.inl hg) h
   ·rename_i t want hg
    split at h
    ·rename_i b hb
     by_cases e:b=want
     ·subst e
      exact run (.inr ⟨t,b,hg,hb⟩) (h.1 (by simp))
     ·refine⟨.tup [],_,⟨.inr ⟨t,want,hg,.inr ?_,rfl,rfl⟩,fun _=>by rw[pmem];exact fun _ _ h=>h⟩,h.2 (by simp[e])⟩
      rw[hb]
      cases b<;>cases want<;>simp_all
    ·rename_i hb
     exact⟨.tup [],_,⟨.inr ⟨t,want,hg,.inl hb,rfl,rfl⟩,fun _=>by rw[pmem];exact fun _ _ h=>h⟩,h⟩
    ·exact h.elim
  obtain⟨v0,σ1,h1,h2⟩:=one
  obtain⟨v,s,g1,g2,g3⟩:=Iw hall.2 h2
  refine⟨fun k=>match k with|0=>v0|k+1=>v k,fun k=>match k with|0=>σ|k+1=>s k,rfl,fun k g' hk=> ?_,g3⟩
  cases k with
  |zero=>
   simp at hk
   subst hk
   show mL P g σ v0 (s 0)∧(x=true→lC σ.mem (s 0).mem)
   rw[g1]
   exact h1
  |succ k=>exact g2 k g' (by simpa using hk)
theorem Gb: ∀{ops:List Oper} {k j:Nat} {o:Oper},ws k ops=true→ops[j]? =some o→ ∀e∈o.after.toList,Region.binds .any e=true→e.on<k+j
 | [],k,j,o,h,hj=>by simp at hj
 |x::ops,k,j,o,h,hj=>by
  simp only[ws,Bool.and_eq_true,List.all_eq_true,decide_eq_true_eq,Bool.or_eq_true,Bool.not_eq_true']at h
  cases j with
  |zero=>
   simp at hj
   subst hj
   intro e he hb
   rcases h.1 e he with h|h
   ·rw[hb]at h;cases h
   ·exact h
  |succ j=>
   simp at hj
   intro e he hb
   have:=Gb h.2 hj e he hb
   omega
theorem EX {acc:List (Nat×Nat)} {i:Nat}: ∀{ks:List Nat},(orX acc ks).testBit i=true→ ∃k∈ks,k=i∨(ug acc k).testBit i=true
 | [],h=>by simp[orX]at h
 |k::r,h=>by
  simp only[orX]at h
  rw[Nat.testBit_or,Nat.testBit_or]at h
  simp only[Bool.or_eq_true]at h
  rcases h with(h|h)|h
  ·refine⟨k,List.mem_cons_self,.inl ?_⟩
   rw[Nat.testBit_two_pow]at h
   simpa using h
  ·exact⟨k,List.mem_cons_self,.inr h⟩
  ·obtain⟨k',h1,h2⟩:=EX h
   exact⟨k',List.mem_cons_of_mem _ h1,h2⟩
def Mq (ops:List Oper) (E:List (Nat×Nat)) (S:Nat→Bool):Prop:= ∀(j:Nat) o,ops[j]? =some o→S j=true→ ∀k∈Cf E j o,S k=true
theorem nf {ops:List Oper} {E:List (Nat×Nat)} {S:Nat→Bool} (hcl:Mq ops E S): ∀{ord:List Nat} {acc:List (Nat×Nat)},
  (∀k i,(ug acc k).testBit i=true→S k=true→S i=true)→ ∀k i,(ug (Br ops E ord acc) k).testBit i=true→S k=true→S i=true
 | [],acc,hacc,k,i,h,hk=>hacc k i h hk
 |j::r,acc,hacc,k,i,h,hk=>by
  simp only[Br]at h
  refine nf hcl (fun k i h hk=> ?_) k i h hk
  simp only[ug]at h
  split at h
  ·rename_i e
   subst e
   split at h
   ·rename_i o ho
    obtain⟨k',h1,h2⟩:=EX h
    have hk':=hcl j o ho hk k' h1
    rcases h2 with rfl|h2
    ·exact hk'
    ·exact hacc _ _ h2 hk'
   ·simp at h
  ·exact hacc k i h hk
theorem Gr {ops:List Oper} {E:List (Nat×Nat)} {S:Nat→Bool} (hcl:Mq ops E S) {j:Nat} {o:Oper} (ho:ops[j]? =some o) (hp: ∀k∈Cf E j o,S k=true):
  ∀{ord:List Nat} {acc:List (Nat×Nat)},(∀k i,(ug acc k).testBit i=true→S k=true→S i=true)→(∀i,(ug acc j).testBit i=true→S i=true)→ ∀i,(ug (Br ops E ord acc) j).testBit i=true→S i=true
 | [],acc,hacc,hj,i,h=>hj i h
 |k::r,acc,hacc,hj,i,h=>by
  simp only[Br]at h
  refine Gr hcl ho hp (fun k' i g hk=> ?_) (fun i g=> ?_) i h
  ·clear h
   simp only[ug]at g
   split at g
   ·rename_i e
    subst e
    split at g
    ·rename_i o' ho'
     obtain⟨k'',h1,h2⟩:=EX g
     have hk':=hcl _ o' ho' hk k'' h1
     rcases h2 with rfl|h2
     ·exact hk'
     ·exact hacc _ _ h2 hk'
    ·simp at g
   ·exact hacc k' i g hk
  ·clear h
   simp only[ug]at g
   split at g
   ·rename_i e
    subst e
    rw[ho]at g
    obtain⟨k'',h1,h2⟩:=EX g
    have hk':=hp k'' h1
    rcases h2 with rfl|h2
    ·exact hk'
    ·exact hacc _ _ h2 hk'
   ·exact hj i g
theorem vn (a:Act) (d:Option Nat) (v:Value):(a.put d v).tmps.size=a.tmps.size:=by
 cases d<;>simp[Act.put]
theorem uH {a:Act} {t:Nat} {v:Value} (h:a.tmps.getD t undef=v) (hv:v≠undef):a.tmps[t]? =some v:=by
 simp only[Array.getD_eq_getD_getElem?]at h
 cases e:a.tmps[t]? with
 |none=>rw[e]at h;exact absurd h.symm hv
 |some u=>rw[e]at h;simp at h;rw[h]
def u7 (gs:List AG) (k:Nat):Option Nat:=(gs[k]?).bind (·.dst)
def jZ (gs:List AG) (k:Nat):Bool:=match gs[k]? with|some g=>g.op.eff|none=>false
def ng (gs:List AG) (v:Nat→AV) (fr0:List (Nat×AV)) (S:Nat→Bool):Nat→List (Nat×AV)
 |0=>fr0
 |k+1=>if S k=true then(match u7 gs k with|some d=>(d,v k)::ng gs v fr0 S k|none=>ng gs v fr0 S k)else ng gs v fr0 S k
def io (gs:List AG) (s:Nat→St) (S:Nat→Bool):Nat→List (Nat×bc)×Nat
 |0=>((s 0).mem,(s 0).nx)
 |k+1=>if S k=true∧jZ gs k=true then((s (k+1)).mem,(s (k+1)).nx)else io gs s S k
section
variable {P : Program} {gs : List AG} {v : Nat → AV} {s : Nat → St}
theorem GS {σ:St} {d:Option Nat} {x:AV} {t:Nat}:aN (σ.put d x).fr t=if d=some t then x else aN σ.fr t:=by
 cases d with
 |none=>simp[St.put]
 |some d=>
  show(if d=t then x else aN σ.fr t)=_
  by_cases e:d=t<;>simp[e]
theorem ig {σ:St} {d:Option Nat} {x:AV}:(σ.put d x).mem=σ.mem∧(σ.put d x).nx=σ.nx:=by cases d<;>exact⟨rfl,rfl⟩
theorem Yi {g:AG} {σ σ':St} {x:AV} (h:mL P g σ x σ') (t:Nat):aN σ'.fr t=if g.dst=some t then x else aN σ.fr t:=by
 rcases h with⟨hg0,τ,h1,rfl⟩|⟨_,_,_,_,rfl,rfl⟩
 ·rw[GS,(qr hg0.1 h1).1]
 ·rw[GS]
theorem MY {g:AG} {σ σ':St} {x:AV} (h:mL P g σ x σ') (he:g.op.eff=false):σ'.mem=σ.mem∧σ'.nx=σ.nx:=by
 rcases h with⟨hg0,τ,h1,rfl⟩|⟨_,_,_,_,rfl,rfl⟩
 ·rw[ig.1,ig.2,(qr hg0.1 h1).2.2 he]
  exact⟨rfl,rfl⟩
 ·exact ig
theorem vl {σ:St} {d:Option Nat} {x:AV}:(σ.put d x).base=σ.base:=by cases d<;>rfl
theorem SJ {g:AG} {σ σ':St} {x:AV} (h:mL P g σ x σ'):σ'.base=σ.base:=by
 rcases h with⟨hg0,τ,h1,rfl⟩|⟨_,_,_,_,rfl,rfl⟩
 ·rw[vl,(qr hg0.1 h1).2.1]
 ·exact vl
theorem zt (hch: ∀k g,gs[k]? =some g→mL P g (s k) (v k) (s (k+1))): ∀{i:Nat},i≤gs.length→(s i).base=(s 0).base
 |0,_=>rfl
 |i+1,h=>(SJ (hch i _ (List.getElem?_eq_getElem (show i<gs.length by omega)))).trans (zt hch (by omega))
theorem rD (hch: ∀k g,gs[k]? =some g→mL P g (s k) (v k) (s (k+1))) {S:Nat→Bool} {t i:Nat}: ∀{n:Nat},n≤gs.length→i≤n→(∀k,k<n→u7 gs k=some t→(S k=true↔k<i))→aN (ng gs v (s 0).fr S n) t=aN (s i).fr t
 |0,_,hi,_=>by
  obtain rfl:i=0:=by omega
  rfl
 |n+1,hn,hi,h=>by
  have hg:=List.getElem?_eq_getElem (show n<gs.length by omega)
  by_cases e:i=n+1
  ·subst e
   have ih:=rD hch (S:=S) (t:=t) (i:=n) (n:=n) (by omega) (Nat.le_refl _) (fun k hk hd=>⟨fun _=>hk,fun _=>(h k (by omega) hd).2 (by omega)⟩)
   rw[Yi (hch n _ hg) t]
   simp only[ng]
   by_cases hd:u7 gs n=some t
   ·rw[if_pos ((h n (by omega) hd).2 (by omega)),hd]
    have hd':gs[n].dst=some t:=by simpa[u7,hg]using hd
    rw[if_pos hd',fH,if_pos rfl]
   ·have hd': ¬gs[n].dst=some t:=by simpa[u7,hg]using hd
    rw[if_neg hd']
    split
    ·split
     ·rename_i d hd2
      rw[fH,if_neg (fun e=>hd (by rw[hd2,e]))]
      exact ih
     ·exact ih
    ·exact ih
  ·have ih:=rD hch (S:=S) (t:=t) (i:=i) (n:=n) (by omega) (by omega) (fun k hk hd=>h k (by omega) hd)
   simp only[ng]
   by_cases hd:u7 gs n=some t
   ·rw[if_neg (fun hs=>by have:=(h n (by omega) hd).1 hs;omega)]
    exact ih
   ·split
    ·split
     ·rename_i d hd2
      rw[fH,if_neg (fun e=>hd (by rw[hd2,e]))]
      exact ih
     ·exact ih
    ·exact ih
theorem qE (hch: ∀k g,gs[k]? =some g→mL P g (s k) (v k) (s (k+1))) {S:Nat→Bool} {i:Nat}: ∀{n:Nat},n≤gs.length→i≤n→(∀k,k<n→jZ gs k=true→(S k=true↔k<i))→io gs s S n=((s i).mem,(s i).nx)
 |0,_,hi,_=>by
  obtain rfl:i=0:=by omega
  rfl
 |n+1,hn,hi,h=>by
  have hg:=List.getElem?_eq_getElem (show n<gs.length by omega)
  by_cases e:i=n+1
  ·subst e
   have ih:=qE hch (S:=S) (i:=n) (n:=n) (by omega) (Nat.le_refl _) (fun k hk hd=>⟨fun _=>hk,fun _=>(h k (by omega) hd).2 (by omega)⟩)
   simp only[io]
   by_cases he:jZ gs n=true
   ·rw[if_pos ⟨(h n (by omega) he).2 (by omega),he⟩]
   ·rw[if_neg (fun hh=>he hh.2),ih]
    have he':gs[n].op.eff=false:=by simpa[jZ,hg]using he
    have:=MY (hch n _ hg) he'
    rw[this.1,this.2]
  ·have ih:=qE hch (S:=S) (i:=i) (n:=n) (by omega) (by omega) (fun k hk hd=>h k (by omega) hd)
   simp only[io]
   rw[if_neg (fun hh=>by have:=(h n (by omega) hh.2).1 hh.1;omega)]
   exact ih
theorem JA (hch: ∀k g,gs[k]? =some g→mL P g (s k) (v k) (s (k+1))) {S:Nat→Bool} {p:Nat} (h1: ∀k,k<p→jZ gs k=true→S k=true) (h2: ∀k,p≤k→k<gs.length→jZ gs k=true→S k=true→lC (s k).mem (s (k+1)).mem)
  (h3: ∀k q,k<q→q<gs.length→jZ gs k=true→jZ gs q=true→S q=true→S k=true): ∀{n:Nat},n≤gs.length→p≤n→lC (s p).mem (io gs s S n).1
 |0,hn,hp=>by
  obtain rfl:p=0:=by omega
  exact fun _ _ h=>h
 |n+1,hn,hp=>by
  by_cases e:p=n+1
  ·subst e
   have:=qE hch (S:=fun k=>decide (k<n+1)) (i:=n+1) (n:=n+1) hn (Nat.le_refl _) (fun k hk _=>by simp)
   have same: ∀m,m≤n+1→io gs s S m=io gs s (fun k=>decide (k<n+1)) m:=by
    intro m
    induction m with
    |zero=>intro _;rfl
    |succ m ih=>
     intro hm
     simp only[io]
     rw[ih (by omega)]
     by_cases he:jZ gs m=true
     ·rw[if_pos ⟨h1 m (by omega) he,he⟩,if_pos ⟨by simp;omega,he⟩]
     ·rw[if_neg (fun hh=>he hh.2),if_neg (fun hh=>he hh.2)]
   rw[same _ (Nat.le_refl _),this]
   exact fun _ _ h=>h
  ·have ih:=JA hch h1 h2 h3 (n:=n) (by omega) (by omega)
   simp only[io]
   by_cases hs:S n=true∧jZ gs n=true
   ·rw[if_pos hs]
    have key: ∀m,p≤m→m≤n+1→lC (s p).mem (s m).mem:=by
     intro m
     induction m with
     |zero=>
      intro hp _
      obtain rfl:p=0:=by omega
      exact fun _ _ h=>h
     |succ m ih=>
      intro hpm hm
      by_cases e:p=m+1
      ·subst e;exact fun _ _ h=>h
      ·have hk:=ih (by omega) (by omega)
       by_cases he:jZ gs m=true
       ·have hS:S m=true:=by
         by_cases e2:m=n
         ·subst e2;exact hs.1
         ·exact h3 m n (by omega) (by omega) he hs.2 hs.1
        exact fun nm bx hf=>h2 m (by omega) (by omega) he hS nm bx (hk nm bx hf)
       ·have hg:=List.getElem?_eq_getElem (show m<gs.length by omega)
        have he':gs[m].op.eff=false:=by simpa[jZ,hg]using he
        rw[(MY (hch m _ hg) he').1]
        exact hk
    exact key (n+1) (by omega) (Nat.le_refl _)
   ·rw[if_neg hs]
    exact ih
def gu (S:Nat→Bool) (i:Nat):Nat→Bool:=fun k=>if k=i then true else S k
theorem M6 {S:Nat→Bool} {i t:Nat} {fr0:List (Nat×AV)} (hi:S i=false): ∀{n:Nat},i<n→(u7 gs i=some t→ ∀k,i<k→u7 gs k=some t→S k=false)→aN (ng gs v fr0 (gu S i) n) t=if u7 gs i=some t then v i else aN (ng gs v fr0 S n) t
 |0,hn,_=>by omega
 |n+1,hn,h=>by
  have same: ∀{m:Nat},m≤i→ng gs v fr0 (gu S i) m=ng gs v fr0 S m:=by
   intro m
   induction m with
   |zero=>intro _;rfl
   |succ m ih=>
    intro hm
    simp only[ng]
    rw[ih (by omega)]
    have:gu S i m=S m:=if_neg (by omega)
    rw[this]
  by_cases e:i=n
  ·subst e
   simp only[ng]
   rw[if_pos (show gu S i i=true from if_pos rfl),hi,if_neg (show ¬false=true from fun e=>by cases e),same (Nat.le_refl _)]
   cases hd:u7 gs i with
   |none=>simp
   |some d=>
    show aN ((d,v i)::ng gs v fr0 S i) t=if some d=some t then v i else aN (ng gs v fr0 S i) t
    rw[fH]
    by_cases e:d=t<;>simp[e]
  ·have ih:=M6 (fr0:=fr0) (t:=t) hi (n:=n) (by omega) h
   have hn':gu S i n=S n:=if_neg (by omega)
   simp only[ng]
   rw[hn']
   by_cases hs:S n=true
   ·rw[if_pos hs,if_pos hs]
    split
    ·rename_i d hd
     rw[fH,fH]
     by_cases e2:d=t
     ·subst e2
      rw[if_pos rfl,if_pos rfl]
      by_cases e3:u7 gs i=some d
      ·have:=h e3 n (by omega) hd
       rw[hs]at this
       cases this
      ·rw[if_neg e3]
     ·rw[if_neg e2,if_neg e2]
      exact ih
    ·exact ih
   ·rw[if_neg hs,if_neg hs]
    exact ih
theorem J3 {S:Nat→Bool} {i:Nat} (hi:S i=false): ∀{n:Nat},i<n→(jZ gs i=true→ ∀k,i<k→jZ gs k=true→S k=false)→io gs s (gu S i) n=if jZ gs i=true then((s (i+1)).mem,(s (i+1)).nx)else io gs s S n
 |0,hn,_=>by omega
 |n+1,hn,h=>by
  have same: ∀{m:Nat},m≤i→io gs s (gu S i) m=io gs s S m:=by
   intro m
   induction m with
   |zero=>intro _;rfl
   |succ m ih=>
    intro hm
    simp only[io]
    rw[ih (by omega)]
    have:gu S i m=S m:=if_neg (by omega)
    rw[this]
  by_cases e:i=n
  ·subst e
   simp only[io]
   have h1:gu S i i=true:=if_pos rfl
   rw[same (Nat.le_refl _)]
   by_cases he:jZ gs i=true
   ·rw[if_pos ⟨h1,he⟩,if_pos he]
   ·rw[if_neg (fun hh=>he hh.2),if_neg he,if_neg (fun hh=>he hh.2)]
  ·have ih:=J3 hi (n:=n) (by omega) h
   have hn':gu S i n=S n:=if_neg (by omega)
   simp only[io]
   rw[hn']
   by_cases hs:S n=true∧jZ gs n=true
   ·rw[if_pos hs,if_pos hs]
    by_cases he:jZ gs i=true
    ·have:=h he n (by omega) hs.2
     rw[hs.1]at this
     cases this
    ·rw[if_neg he]
   ·rw[if_neg hs,if_neg hs]
    exact ih
end
theorem bP.fr {w0:World} {U:Gh} {σ:St} {ι:Pl} {a:Act} {w:World} (hs:bP w0 U σ ι a w) {fr:List (Nat×AV)} (h: ∀t,aN fr t=aN σ.fr t):bP w0 U ⟨fr,σ.mem,σ.nx,σ.base⟩ ι a w:=
 ⟨fun t=>by have:=hs.val t;rw[←h t]at this;exact this,hs.defers,hs.names,hs.box,hs.apart,hs.below,hs.keep,hs.base⟩
open Go.RowKit
def RT (S:Nat→Bool):Nat→Nat
 |0=>0
 |n+1=>RT S n+if S n=true then 1 else 0
theorem Xr (S:Nat→Bool): ∀n,RT S n≤n
 |0=>Nat.le_refl _
 |n+1=>by have:=Xr S n;simp only[RT];split<;>omega
theorem Rs {S:Nat→Bool}: ∀{n:Nat},RT S n=n→ ∀k,k<n→S k=true
 |0,_,k,hk=>by omega
 |n+1,h,k,hk=>by
  have hle:=Xr S n
  simp only[RT]at h
  split at h
  ·rename_i hn
   by_cases e:k=n
   ·rw[e];exact hn
   ·exact Rs (n:=n) (by omega) k (by omega)
  ·omega
theorem RG {S:Nat→Bool} {i:Nat} (hi:S i=false): ∀{n:Nat},i<n→RT (gu S i) n=RT S n+1
 |0,h=>by omega
 |n+1,h=>by
  have same: ∀{m:Nat},m≤i→RT (gu S i) m=RT S m:=by
   intro m
   induction m with
   |zero=>intro _;rfl
   |succ m ih=>
    intro hm
    simp only[RT]
    rw[ih (by omega)]
    have:gu S i m=S m:=if_neg (by omega)
    rw[this]
  simp only[RT]
  by_cases e:i=n
  ·subst e
   rw[same (Nat.le_refl _),hi,show gu S i i=true from if_pos rfl]
   simp
  ·have:gu S i n=S n:=if_neg (by omega)
   rw[this,RG hi (by omega)]
   omega
theorem RO {P:Program} {dr:Bool} {nt:Nat} {ops:Array Oper}: ∀{l:List Oper} {gs:List AG},gI P dr nt ops l=some gs→l.length=gs.length∧ ∀(i:Nat) o,l[i]? =some o→ ∃g,gs[i]? =some g∧x8 P dr nt ops o=some g
 | [],gs,h=>by cases h;exact⟨rfl,fun i o hi=>by simp at hi⟩
 |o::l,gs,h=>by
  unfold gI at h
  split at h
  ·rename_i g gs' h1 h2
   cases h
   obtain⟨g1,g2⟩:=RO h2
   refine⟨by simp[g1],fun i o' hi=> ?_⟩
   cases i with
   |zero=>simp at hi;subst hi;exact⟨g,rfl,h1⟩
   |succ i=>exact g2 i o' (by simpa using hi)
  ·cases h
theorem NC {P:Program} {dr:Bool} {nt:Nat} {ops:Array Oper} {o:Oper} {g:AG} (h:x8 P dr nt ops o=some g):g.dst=o.dst∧(∀t,o.dst=some t→t<nt)∧b7 P dr o.op=some g.op∧
  ((o.guard=none∧g.guard=none)∨ ∃j want t,o.guard=some (j,want)∧(ops[j]?).bind (·.dst)=some t∧g.guard=some (t,want)):=by
 unfold x8 at h
 by_cases hdst:Qh nt o.dst=false
 ·rw[if_pos hdst]at h;cases h
 ·rw[if_neg hdst]at h
  have hd: ∀t,o.dst=some t→t<nt:=by
   intro t ht
   rw[ht]at hdst
   simpa[Qh]using hdst
  split at h
  ·rename_i ao hao
   split at h
   ·rename_i hg
    cases h
    exact⟨rfl,hd,hao,.inl ⟨hg,rfl⟩⟩
   ·rename_i j want hg
    split at h
    ·rename_i t ht
     cases h
     exact⟨rfl,hd,hao,.inr ⟨j,want,t,hg,ht,rfl⟩⟩
    ·cases h
  ·cases h
section
variable {P : Program} {a : Act} {w w' w0 : World} {U : Gh} {ι : Pl} {σ : St} {nt : Nat} {dr : Bool}
theorem LM {V:Nat→Prop} {N:Nat} {u:Value} (h:aU w V ι N (.tup []) u):u=undef:=by
 cases h with
 | @tup _ vs hl _=>
  have:vs= #[]:=Array.eq_empty_of_size_eq_zero (by simpa using hl.symm)
  rw[this]
  rfl
theorem P4 {ops:Array Oper} {Q:Exit→Act→World→Prop} {i:Nat} {o:Oper} {g:AG} {v:AV} {σ σ':St} {next:Act→World→Prop} (ho:ops[i]? =some o) (hg:x8 P dr nt ops o=some g) (hst:mL P g σ v σ') (hs:bP w0 U σ ι a w) (hz:a.tmps.size=nt)
  (hn: ∀ι' a' w',bP w0 U σ' ι' a' w'→a'.tmps.size=nt→next a' w'):wpOp P ops Q i next a w:=by
 obtain⟨h1,h2,h3,h4⟩:=NC hg
 have hd: ∀t,o.dst=some t→t<a.tmps.size:=fun t ht=>by rw[hz];exact h2 t ht
 unfold wpOp
 rw[ho]
 have run:Region.wanted o (yielded ops a.tmps)=true→(∃τ,(bD P g.op σ fun v' τ'=>v'=v∧τ'=τ)∧σ'=τ.put g.dst v)→(if Region.wanted o (yielded ops a.tmps)=true then o.wp P a w next Q∨(o.asks P a w∧LetsOut Q)else next (a.put o.dst undef) w):=by
  rintro hw ⟨τ,k1,rfl⟩
  rw[if_pos hw]
  left
  refine NM h3 k1 hs ?_
  rintro v' σ2 ι' u w' ⟨rfl,rfl⟩ hs' hr
  refine hn ι' _ w' ?_ (by rw[vn];exact hz)
  rw[h1]
  exact hs'.put hd hr
 rcases h4 with⟨k1,k2⟩|⟨j,want,t,k1,k2,k3⟩
 ·rcases hst with⟨_,hx⟩|⟨t,want,e,_⟩
  ·exact run (by simp[Region.wanted,k1]) hx
  ·rw[k2]at e;cases e
 ·have hval:=hs.val t
  rcases hst with⟨⟨_,hg'⟩,hx⟩|⟨t',want',e,hg',rfl,rfl⟩
  ·rcases hg' with e|⟨t',want',e,hb⟩
   ·rw[k3]at e;cases e
   ·rw[k3]at e
    cases e
    rw[hb]at hval
    have hb':=uH (bp hval).1 (by intro e;cases e)
    exact run (by simp[Region.wanted,k1,yielded,k2,hb']) hx
  ·rw[k3]at e
   cases e
   have hw: ¬Region.wanted o (yielded ops a.tmps)=true:=by
    rcases hg' with hb|hb
    ·rw[hb]at hval
     have hu:=LM hval
     have hy:yielded ops a.tmps j=none:=by
      unfold yielded
      simp only[k2,Option.bind_some]
      simp only[Array.getD_eq_getD_getElem?]at hu
      cases e':a.tmps[t]? with
      |none=>rfl
      |some z=>
       rw[e']at hu
       simp at hu
       subst hu
       rfl
     simp[Region.wanted,k1,hy]
    ·rw[hb]at hval
     have hb':=uH (bp hval).1 (by intro e;cases e)
     simp[Region.wanted,k1,yielded,k2,hb']
   show(if Region.wanted o (yielded ops a.tmps)=true then _ else next (a.put o.dst undef) w)
   rw[if_neg hw]
   refine hn ι _ w ?_ (by rw[vn];exact hz)
   rw[h1]
   exact hs.put hd iO
theorem mL.congr {g:AG} {v:AV} {σ σ' σ2:St} (h:mL P g σ v σ') (hf: ∀t∈g.looks,aN σ2.fr t=aN σ.fr t) (hm:g.op.eff=true→σ2.mem=σ.mem∧σ2.nx=σ.nx) (hms:g.op.eff=false→g.op.sens=true→lC σ.mem σ2.mem) (hbase:σ2.base=σ.base):
  ∃τ,mL P g σ2 v τ∧(∀t,aN τ.fr t=if g.dst=some t then v else aN σ2.fr t)∧(τ.mem,τ.nx)=(if g.op.eff=true then(σ'.mem,σ'.nx)else(σ2.mem,σ2.nx))∧τ.base=σ2.base:=by
 have hf': ∀t∈g.op.tmps,aN σ2.fr t=aN σ.fr t:=fun t ht=>hf t (by simp[AG.looks,ht])
 rcases h with⟨⟨hgc,hg⟩,τ,h1,rfl⟩|⟨t,want,hg,hb,rfl,rfl⟩
 ·have hg2:g.guard=none∨ ∃t want,g.guard=some (t,want)∧aN σ2.fr t= .c (.pure (.val (.bool want))):=by
   rcases hg with e|⟨t,want,e,hb⟩
   ·exact .inl e
   ·exact .inr ⟨t,want,e,by rw[hf t (by simp[AG.looks,e])];exact hb⟩
  by_cases he:g.op.eff=true
  ·obtain⟨m1,m2⟩:=hm he
   have k1:=(qr hgc h1).1
   have k2:=(qr hgc h1).2.1
   obtain⟨fr,mem,nx,b⟩:=σ
   obtain⟨fr2,mem2,nx2,b2⟩:=σ2
   simp only at m1 m2 hf' k1 k2 hbase
   subst hbase
   subst m1
   subst m2
   have h2:=Sl (fr2:=fr2) (K2:=fun v' τ'=>v'=v∧τ'=⟨fr2,τ.mem,τ.nx,τ.base⟩) he hgc hf' (fun v' m n hk=>by obtain⟨e1,e2⟩:=hk;subst e2;exact⟨e1,rfl⟩) h1
   refine⟨_,.inl ⟨⟨hgc,hg2⟩,_,h2,rfl⟩,fun t=>GS, ?_,by rw[vl];exact k2⟩
   rw[if_pos he,ig.1,ig.2,ig.1,ig.2]
  ·have he':g.op.eff=false:=by simpa using he
   have k1:=(qr hgc h1).2.2 he'
   subst k1
   have h2:=Rx (s2:=σ2) he' (hms he') hf' (fun v' τ'=>v'=v∧τ'=τ) (fun v' τ'=>v'=v∧τ'=σ2) (fun v' hk=>⟨hk.1,rfl⟩) h1
   refine⟨_,.inl ⟨⟨hgc,hg2⟩,_,h2,rfl⟩,fun t=>GS, ?_,vl⟩
   rw[if_neg he,ig.1,ig.2]
 ·refine⟨_,.inr ⟨t,want,hg, ?_,rfl,rfl⟩,fun t=>GS, ?_,vl⟩
  ·rw[hf t (by simp[AG.looks,hg])]
   exact hb
  ·rw[ig.1,ig.2,ig.1,ig.2]
   split
   ·rename_i he
    rw[(hm he).1,(hm he).2]
   ·rfl
theorem JZ {g h:AG} {d:Nat} (hc:jg g h=false) (hd:g.dst=some d):d∉h.looks∧h.dst≠some d:=by
 simp only[jg,hd,Bool.or_eq_false_iff]at hc
 refine⟨fun hm=> ?_,fun e=> ?_⟩
 ·have:=hc.1.1.1.1
  simp[hm]at this
 ·have:=hc.1.1.1.2
  simp[e]at this
theorem P9 {g h:AG} {d:Nat} (hc:jg g h=false) (hd:h.dst=some d):d∉g.looks:=by
 simp only[jg,hd,Bool.or_eq_false_iff]at hc
 intro hm
 have:=hc.1.1.2
 simp[hm]at this
theorem qz {g h:AG} (hc:jg g h=false):(g.op.eff=true→h.op.eff=false∧h.op.sens=false):=by
 simp only[jg,Bool.or_eq_false_iff]at hc
 have h1:=hc.1.2
 intro e
 rw[e]at h1
 simpa using h1
def S2 (ops:Array Oper):List Nat→Array Bool→Prop
 | [],L=>Region.ready .any ops L= []
 |i::r,L=>i∈Region.ready .any ops L∧S2 ops r (L.setIfInBounds i true)
theorem Vy {ops:Array Oper}: ∀(fuel t:Nat) (L:Array Bool),L.size=ops.size→RT (fun k=>L.getD k false) ops.size+fuel=ops.size→S2 ops (Region.linearise.go .any ops fuel t L []) L
 |0,t,L,hL,hcn=>by
  show Region.ready .any ops L= []
  unfold Region.ready
  rw[List.filter_eq_nil_iff]
  intro k hk
  have hk':k<ops.size:=by simpa using hk
  have h1:=Rs (S:=fun k=>L.getD k false) (n:=ops.size) (by omega) k hk'
  have h2:L.getD k true=true:=by
   have:k<L.size:=by omega
   simp only[Array.getD_eq_getD_getElem?,Array.getElem?_eq_getElem this,Option.getD_some]at h1 ⊢
   exact h1
  rw[h2]
  simp
 |fuel+1,t,L,hL,hcn=>by
  simp only[Region.linearise.go]
  change S2 ops (match (Region.ready .any ops L)[t%(Region.ready .any ops L).length]? with
   |some i=>Region.linearise.go .any ops fuel (t/(Region.ready .any ops L).length) (L.setIfInBounds i true) [i]
   |none=> [].reverse) L
  cases hi:(Region.ready .any ops L)[t%(Region.ready .any ops L).length]? with
  |none=>
   cases hr:Region.ready .any ops L with
   |nil=>exact hr
   |cons x xs=>
    rw[hr]at hi
    have hlt:t%(x::xs).length<(x::xs).length:=Nat.mod_lt _ (by simp)
    simp at hi
    simp at hlt
    omega
  |some i=>
   simp only[]
   rw[linearise_go_acc,List.reverse_singleton,List.singleton_append]
   have hmem:=List.mem_of_getElem? hi
   refine⟨hmem,Vy _ _ _ (by simpa using hL) ?_⟩
   unfold Region.ready at hmem
   rw[List.mem_filter]at hmem
   obtain⟨h1,h2⟩:=hmem
   have hio:i<ops.size:=by simpa using h1
   have hiL:i<L.size:=by omega
   simp only[Bool.and_eq_true,Bool.not_eq_true']at h2
   have hf:L.getD i false=false:=by
    have:=h2.1
    simp only[Array.getD_eq_getD_getElem?,Array.getElem?_eq_getElem hiL,Option.getD_some]at this ⊢
    exact this
   have hS:(fun k=>(L.setIfInBounds i true).getD k false)=gu (fun k=>L.getD k false) i:=by
    funext k
    simp only[gu,Array.getD_eq_getD_getElem?]
    by_cases e:k=i
    ·subst e;simp[hiL]
    ·rw[if_neg e,Array.getElem?_setIfInBounds_ne (Ne.symm e)]
   rw[hS,RG hf hio]
   omega
def XO (E:List (Nat×Nat)):List Nat→(Nat→Bool)→Prop
 | [],_=>True
 |i::r,S=>(∀p∈E,p.2=i→S p.1=true)∧XO E r (gu S i)
theorem Sf: ∀{r:List Nat} {S:Nat→Bool},XO [] r S
 | [],S=>trivial
 |i::r,S=>⟨(fun p hp=>by cases hp),Sf⟩
theorem Hh {E:List (Nat×Nat)} {x y:Nat}: ∀{r:List Nat} {S:Nat→Bool},S x=true→XO E r S→XO ((x,y)::E) r S
 | [],S,_,_=>trivial
 |i::r,S,hx,h=>⟨fun p hp e=>by
   rcases List.mem_cons.1 hp with rfl|hp
   ·exact hx
   ·exact h.1 p hp e,Hh (by simp only[gu];split<;>simp_all) h.2⟩
theorem K5 {E:List (Nat×Nat)} {x y:Nat} (hxy:x≠y): ∀{r:List Nat} {S:Nat→Bool},XO E r S→XO ((x,y)::E) r S∨XO ((y,x)::E) r S
 | [],S,_=> .inl trivial
 |i::r,S,h=>by
  by_cases e1:i=x
  ·subst e1
   refine .inl ⟨fun p hp e=> ?_,Hh (by simp[gu]) h.2⟩
   rcases List.mem_cons.1 hp with rfl|hp
   ·exact absurd e.symm hxy
   ·exact h.1 p hp e
  ·by_cases e2:i=y
   ·subst e2
    refine .inr ⟨fun p hp e=> ?_,Hh (by simp[gu]) h.2⟩
    rcases List.mem_cons.1 hp with rfl|hp
    ·exact absurd e hxy
    ·exact h.1 p hp e
   ·rcases K5 hxy h.2 with h'|h'
    ·refine .inl ⟨fun p hp e=> ?_,h'⟩
     rcases List.mem_cons.1 hp with rfl|hp
     ·exact absurd e.symm e2
     ·exact h.1 p hp e
    ·refine .inr ⟨fun p hp e=> ?_,h'⟩
     rcases List.mem_cons.1 hp with rfl|hp
     ·exact absurd e.symm e1
     ·exact h.1 p hp e
theorem qv {M:List (Nat×Nat)}: ∀{leaf:List (Nat×Bool×AG)},ID M leaf=true→ ∀(p q:Nat) y z,p<q→leaf[p]? =some y→leaf[q]? =some z→Hk M y.1 y.2.2 z.1 z.2.1 z.2.2=true
 | [],_,p,q,y,z,_,hy,_=>by simp at hy
 |(i,x,g)::r,h,p,q,y,z,hpq,hy,hz=>by
  simp only[ID,Bool.and_eq_true,List.all_eq_true]at h
  cases q with
  |zero=>omega
  |succ q=>
   have hz':r[q]? =some z:=by simpa using hz
   cases p with
   |zero=>
    simp at hy
    subst hy
    exact h.1 z (List.mem_of_getElem? hz')
   |succ p=>exact qv h.2 p q y z (by omega) (by simpa using hy) hz'
theorem JB: ∀{l:List Nat},G0 l=true→ ∀(p q:Nat) i,l[p]? =some i→l[q]? =some i→p=q
 | [],_,p,q,i,hp,_=>by simp at hp
 |x::r,h,p,q,i,hp,hq=>by
  simp only[G0,Bool.and_eq_true,Bool.not_eq_true']at h
  have hx: ∀k,r[k]? =some x→False:=fun k hk=>by
   have:=h.1
   rw[List.contains_iff_mem.2 (List.mem_of_getElem? hk)]at this
   cases this
  cases p with
  |zero=>
   simp at hp
   subst hp
   cases q with
   |zero=>rfl
   |succ q=>exact(hx q (by simpa using hq)).elim
  |succ p=>
   cases q with
   |zero=>
    simp at hq
    subst hq
    exact(hx p (by simpa using hp)).elim
   |succ q=>rw[JB h.2 p q i (by simpa using hp) (by simpa using hq)]
theorem P0 {ops:Array Oper} {gs:List AG} {leaf:List (Nat×Bool×AG)} {E:List (Nat×Nat)} {ord:List Nat} {K:St→Prop} {Q:Exit→Act→World→Prop}
  (hc:gI P dr nt ops ops.toList=some gs) (hedge:ws 0 ops.toList=true) (hgc:(gs.all fun g=> !g.op.gcall)=true) (hleaf:ID (Br ops.toList E ord []) leaf=true) (hidx:leaf.map (·.1)=ord) (hget: ∀y∈leaf,gs[y.1]? =some y.2.2)
  (hnd:G0 ord=true) (hall: ∀i,i<gs.length→i∈ord) (h:jy P (uJ leaf) σ K) (hs:bP w0 U σ ι a w) (hz:a.tmps.size=nt)
  (hq: ∀σ' ι' a' w',K σ'→bP w0 U σ' ι' a' w'→a'.tmps.size=nt→Q .normal a' w') {sched:List Nat} (hlin:S2 ops sched (Array.replicate ops.size false)) (hok:XO E sched (fun _=>false)):wpOps P ops Q sched a w:=by
 have hgc':((uJ leaf).all fun y=> !y.2.op.gcall)=true:=by
  rw[List.all_eq_true]
  intro y hy
  obtain⟨z,hz1,rfl⟩:=List.mem_map.1 hy
  exact List.all_eq_true.1 hgc _ (List.mem_of_getElem? (hget z hz1))
 obtain⟨v,s,hs0,hch0,hK⟩:=Iw hgc' h
 obtain⟨hlen,hat⟩:=RO hc
 have hn:ops.size=gs.length:=by rw[←hlen,Array.length_toList]
 let gs':List AG:=leaf.map (·.2.2)
 have hl':gs'.length=leaf.length:=by simp[gs']
 have hls:(uJ leaf).length=gs'.length:=by simp[uJ,gs']
 rw[hls]at hK
 have hg': ∀{p:Nat} {g:AG},gs'[p]? =some g→ ∃y,leaf[p]? =some y∧y.2.2=g:=by
  intro p g hp
  simp only[gs',List.getElem?_map,Option.map_eq_some_iff]at hp
  exact hp
 have hch: ∀k g,gs'[k]? =some g→mL P g (s k) (v k) (s (k+1)):=by
  intro k g hk
  obtain⟨y,hy,rfl⟩:=hg' hk
  exact(hch0 k y.2 (by simp[uJ,hy])).1
 have hflag: ∀k y,leaf[k]? =some y→y.2.1=true→lC (s k).mem (s (k+1)).mem:=fun k y hy=>(hch0 k y.2 (by simp[uJ,hy])).2
 have hord: ∀{p:Nat} {y:Nat×Bool×AG},leaf[p]? =some y→ord[p]? =some y.1:=by
  intro p y hp
  rw[←hidx,List.getElem?_map,hp]
  rfl
 let SS (L:Array Bool):Nat→Bool:=fun p=>L.getD ((ord[p]?).getD 0) false
 let LL (L:Array Bool):Nat→Bool:=fun i=>L.getD i false
 have hSS: ∀(L:Array Bool) {p:Nat} {y:Nat×Bool×AG},leaf[p]? =some y→SS L p=LL L y.1:=by
  intro L p y hp
  simp only[SS,LL,hord hp,Option.getD_some]
 let stOf (L:Array Bool):St:=⟨ng gs' v (s 0).fr (SS L) gs'.length,(io gs' s (SS L) gs'.length).1,(io gs' s (SS L) gs'.length).2,(s 0).base⟩
 have main: ∀(sched:List Nat) (L:Array Bool) (ι:Pl) (a:Act) (w:World),L.size=gs.length→Mq ops.toList E (LL L)→S2 ops sched L→XO E sched (LL L)→bP w0 U (stOf L) ι a w→a.tmps.size=nt→wpOps P ops Q sched a w:=by
  intro sched
  induction sched with
  |nil=>
   intro L ι a w hL hcl hlin hok hsim hz
   have hr:Region.ready .any ops L= []:=hlin
   have all: ∀k,k<gs.length→LL L k=true:=by
    intro k
    induction k using Nat.strongRecOn with
    |_ k ih=>
     intro hk
     cases hS:LL L k with
     |true=>rfl
     |false=>
      exfalso
      have hko:k<ops.size:=by omega
      have hmem:k∈Region.ready .any ops L:=by
       unfold Region.ready
       rw[List.mem_filter]
       refine⟨by simpa using hko, ?_⟩
       have h1:L.getD k true=false:=by
        have:k<L.size:=by omega
        simp only[LL,Array.getD_eq_getD_getElem?,Array.getElem?_eq_getElem this,Option.getD_some]at hS ⊢
        exact hS
       rw[h1]
       simp only[Bool.not_false,Bool.true_and,Array.getElem?_eq_getElem hko,Option.map_some,Option.getD_some,Array.all_eq_true]
       intro j hj
       simp only[Bool.or_eq_true,Bool.not_eq_true']
       cases hbi:Region.binds .any ops[k].after[j]with
       |false=>exact .inl rfl
       |true=>
        have:=Gb hedge (j:=k) (o:=ops[k]) (by simp[hko]) ops[k].after[j] (by simp) hbi
        right
        exact ih ops[k].after[j].on (by omega) (by omega)
      rw[hr]at hmem
      cases hmem
   have allS: ∀p,p<gs'.length→SS L p=true:=by
    intro p hp
    have hy:=List.getElem?_eq_getElem (show p<leaf.length by omega)
    rw[hSS L hy]
    exact all _ (List.getElem?_eq_some_iff.1 (hget _ (List.mem_of_getElem? hy))).1
   have hfr: ∀t,aN (ng gs' v (s 0).fr (SS L) gs'.length) t=aN (s gs'.length).fr t:=fun t=>
    rD hch (Nat.le_refl _) (Nat.le_refl _) fun k hk _=>⟨fun _=>hk,fun _=>allS k hk⟩
   have hmm:=qE hch (S:=SS L) (i:=gs'.length) (Nat.le_refl _) (Nat.le_refl _) fun k hk _=>⟨fun _=>hk,fun _=>allS k hk⟩
   show Q .normal a w
   refine hq (s gs'.length) ι a w hK ?_ hz
   have:=hsim.fr (fr:=(s gs'.length).fr) fun t=>(hfr t).symm
   simp only[stOf,hmm]at this
   rw[←zt hch (Nat.le_refl _)]at this
   exact this
  |cons i r ih=>
   intro L ι a w hL hcl hlin hok hsim hz
   obtain⟨hi,hlin⟩:=hlin
   obtain⟨hoki,hok⟩:=hok
   rw[wpOps_cons]
   unfold Region.ready at hi
   rw[List.mem_filter]at hi
   obtain⟨hi1,hi2⟩:=hi
   have hio:i<ops.size:=by simpa using hi1
   have hig:i<gs.length:=by omega
   have ho:ops[i]? =some ops[i]:=Array.getElem?_eq_getElem hio
   simp only[Bool.and_eq_true,Bool.not_eq_true',ho,Option.map_some,Option.getD_some,Array.all_eq_true]at hi2
   obtain⟨hi2,hi3⟩:=hi2
   have hSi:LL L i=false:=by
    have:i<L.size:=by omega
    simp only[LL,Array.getD_eq_getD_getElem?,Array.getElem?_eq_getElem this,Option.getD_some]at hi2 ⊢
    exact hi2
   have hol:ops.toList[i]? =some ops[i]:=by simp[hio]
   have hpred: ∀k∈Cf E i ops[i],LL L k=true:=by
    intro k hk
    simp only[Cf,List.mem_append,List.mem_filterMap]at hk
    rcases hk with⟨e,he,hk⟩|⟨p,hp,hk⟩
    ·split at hk
     ·rename_i hb
      cases hk
      obtain⟨j,hj,rfl⟩:=List.mem_iff_getElem.1 he
      have:=hi3 j (by simpa using hj)
      simp only[Bool.or_eq_true,Bool.not_eq_true']at this
      rcases this with h|h
      ·simp at hb
       rw[hb]at h
       cases h
      ·show L.getD _ false=true
       simpa[Array.getD_eq_getD_getElem?]using h
     ·cases hk
    ·split at hk
     ·rename_i e
      cases hk
      exact hoki p hp e
     ·cases hk
   obtain⟨g,hg,hcg⟩:=hat i ops[i] hol
   obtain⟨p,hp⟩: ∃p,ord[p]? =some i:=List.mem_iff_getElem?.1 (hall i hig)
   have hpl:p<leaf.length:=by
    have:=(List.getElem?_eq_some_iff.1 hp).1
    rw[←hidx,List.length_map]at this
    exact this
   have hyp:=List.getElem?_eq_getElem hpl
   have hy1:leaf[p].1=i:=by
    have:=hord hyp
    rw[hp]at this
    cases this
    rfl
   have hy2:leaf[p].2.2=g:=by
    have:=hget _ (List.mem_of_getElem? hyp)
    rw[hy1,hg]at this
    cases this
    rfl
   have hgp:gs'[p]? =some g:=by simp only[gs',List.getElem?_map,hyp,Option.map_some,hy2]
   have hpg:p<gs'.length:=by omega
   have hSp:SS L p=false:=by rw[hSS L hyp,hy1];exact hSi
   have bit0: ∀k i,(ug ([]:List (Nat×Nat)) k).testBit i=true→LL L k=true→LL L i=true:=fun k i h _=>by simp[ug]at h
   have bit1: ∀i',(ug ([]:List (Nat×Nat)) i).testBit i'=true→LL L i'=true:=fun i' h=>by simp[ug]at h
   have cM: ∀q y,leaf[q]? =some y→q<p→jg y.2.2 g=true→SS L q=true:=by
    intro q y hq hlt hcl'
    have hpx:=qv hleaf q p y _ hlt hq hyp
    rw[hy1,hy2]at hpx
    simp only[Hk,hcl',Bool.not_true,Bool.false_and,Bool.or_false]at hpx
    rw[hSS L hq]
    exact Gr hcl hol hpred bit0 bit1 _ hpx
   have after: ∀q y,leaf[q]? =some y→p<q→jg g y.2.2=true→SS L q=false:=by
    intro q y hq hlt hcl'
    cases hS:SS L q with
    |false=>rfl
    |true=>
     exfalso
     have hpx:=qv hleaf p q _ y hlt hyp hq
     rw[hy1,hy2]at hpx
     simp only[Hk,hcl',Bool.not_true,Bool.false_and,Bool.or_false]at hpx
     rw[hSS L hq]at hS
     have:=nf hcl bit0 _ _ hpx hS
     rw[hSi]at this
     cases this
   have yes: ∀{k:Nat},k<gs'.length→ ∃y,leaf[k]? =some y∧gs'[k]? =some y.2.2:=by
    intro k hk
    have hy:=List.getElem?_eq_getElem (show k<leaf.length by omega)
    exact⟨_,hy,by simp only[gs',List.getElem?_map,hy,Option.map_some]⟩
   have hfr: ∀t∈g.looks,aN (stOf L).fr t=aN (s p).fr t:=by
    intro t ht
    refine rD hch (Nat.le_refl _) (by omega) fun k hk hd=> ?_
    obtain⟨y,hy,hgk⟩:=yes hk
    have hd':y.2.2.dst=some t:=by simpa[u7,hgk]using hd
    rcases Nat.lt_trichotomy k p with hlt|e|hgt
    ·refine⟨fun _=>hlt,fun _=>cM k _ hy hlt ?_⟩
     cases hx:jg y.2.2 g with
     |true=>rfl
     |false=>exact absurd ht (JZ hx hd').1
    ·subst e
     rw[hSp]
     exact⟨(fun e=>by cases e),(fun e=>by omega)⟩
    ·refine⟨fun hS=> ?_,fun e=>by omega⟩
     have:jg g y.2.2=true:=by
      cases hx:jg g y.2.2 with
      |true=>rfl
      |false=>exact absurd ht (P9 hx hd')
     rw[after k _ hy hgt this]at hS
     cases hS
   have hmm:g.op.eff=true→(stOf L).mem=(s p).mem∧(stOf L).nx=(s p).nx:=by
    intro he
    have:=qE hch (S:=SS L) (i:=p) (n:=gs'.length) (Nat.le_refl _) (by omega) fun k hk hd=>by
     obtain⟨y,hy,hgk⟩:=yes hk
     have hd':y.2.2.op.eff=true:=by simpa[jZ,hgk]using hd
     rcases Nat.lt_trichotomy k p with hlt|e|hgt
     ·refine⟨fun _=>hlt,fun _=>cM k _ hy hlt ?_⟩
      cases hx:jg y.2.2 g with
      |true=>rfl
      |false=>
       have:=(qz hx hd').1
       rw[he]at this;cases this
     ·subst e
      rw[hSp]
      exact⟨(fun e=>by cases e),(fun e=>by omega)⟩
     ·refine⟨fun hS=> ?_,fun e=>by omega⟩
      have:jg g y.2.2=true:=by
       cases hx:jg g y.2.2 with
       |true=>rfl
       |false=>
        have:=(qz hx he).1
        rw[hd']at this;cases this
      rw[after k _ hy hgt this]at hS
      cases hS
    simp only[stOf,this]
    exact⟨trivial,trivial⟩
   have hms:g.op.eff=false→g.op.sens=true→lC (s p).mem (stOf L).mem:=by
    intro hne hsn
    refine JA hch (S:=SS L) (p:=p) (fun k hk hd=> ?_) (fun k hpk hk hd hS=> ?_) (fun k q hkq hq hd hd2 hS=> ?_) (Nat.le_refl _) (by omega)
    ·obtain⟨y,hy,hgk⟩:=yes (show k<gs'.length by omega)
     have hd':y.2.2.op.eff=true:=by simpa[jZ,hgk]using hd
     refine cM k _ hy hk ?_
     cases hx:jg y.2.2 g with
     |true=>rfl
     |false=>
      have:=(qz hx hd').2
      rw[hsn]at this;cases this
    ·obtain⟨y,hy,hgk⟩:=yes hk
     have hd':y.2.2.op.eff=true:=by simpa[jZ,hgk]using hd
     have hne':p≠k:=by
      rintro rfl
      rw[hSp]at hS
      cases hS
     have hpx:=qv hleaf p k _ y (by omega) hyp hy
     rw[hy1,hy2]at hpx
     simp only[Hk,Bool.or_eq_true,Bool.and_eq_true,hsn,hd']at hpx
     rcases hpx with hpx|⟨_,hpx⟩
     ·exfalso
      rw[hSS L hy]at hS
      have:=nf hcl bit0 _ _ hpx hS
      rw[hSi]at this
      cases this
     ·simp at hpx
      exact hflag k y hy hpx
    ·obtain⟨y,hy,hgk⟩:=yes (show k<gs'.length by omega)
     obtain⟨z,hz',hgq⟩:=yes hq
     have hd':y.2.2.op.eff=true:=by simpa[jZ,hgk]using hd
     have hd2':z.2.2.op.eff=true:=by simpa[jZ,hgq]using hd2
     have hpx:=qv hleaf k q y z hkq hy hz'
     have hcx:jg y.2.2 z.2.2=true:=by
      cases hx:jg y.2.2 z.2.2 with
      |true=>rfl
      |false=>
       have:=(qz hx hd').1
       rw[hd2']at this;cases this
     simp only[Hk,hcx,Bool.not_true,Bool.false_and,Bool.or_false]at hpx
     rw[hSS L hz']at hS
     rw[hSS L hy]
     exact nf hcl bit0 _ _ hpx hS
   obtain⟨τ,k1,k2,k3,k4⟩:=(hch p g hgp).congr (σ2:=stOf L) hfr hmm hms (zt hch (by omega)).symm
   refine P4 ho hcg k1 hsim hz fun ι' a' w' hsim' hz'=> ?_
   have hL':LL (L.setIfInBounds i true)=gu (LL L) i:=by
    funext k
    simp only[LL,gu,Array.getD_eq_getD_getElem?]
    by_cases e:k=i
    ·subst e
     simp[show k<L.size by omega]
    ·rw[if_neg e,Array.getElem?_setIfInBounds_ne (Ne.symm e)]
   have hS': ∀q,q<gs'.length→SS (L.setIfInBounds i true) q=gu (SS L) p q:=by
    intro q hq
    obtain⟨y,hy,_⟩:=yes hq
    rw[hSS _ hy,hL']
    simp only[gu]
    by_cases e:q=p
    ·subst e
     rw[hyp]at hy
     cases hy
     rw[if_pos hy1,if_pos rfl]
    ·rw[if_neg e,hSS L hy,if_neg]
     intro e2
     have h1:=hord hy
     rw[e2]at h1
     exact e (JB hnd q p i h1 hp)
   have frS: ∀(S S':Nat→Bool) n,(∀q,q<n→S q=S' q)→ng gs' v (s 0).fr S n=ng gs' v (s 0).fr S' n:=by
    intro S S' n
    induction n with
    |zero=>intro _;rfl
    |succ n ih=>intro hq;simp only[ng];rw[ih fun q hq'=>hq q (by omega),hq n (by omega)]
   have memS: ∀(S S':Nat→Bool) n,(∀q,q<n→S q=S' q)→io gs' s S n=io gs' s S' n:=by
    intro S S' n
    induction n with
    |zero=>intro _;rfl
    |succ n ih=>intro hq;simp only[io];rw[ih fun q hq'=>hq q (by omega),hq n (by omega)]
   refine ih _ ι' a' w' (by simpa using hL) ?_ hlin (by rw[hL'];exact hok) ?_ hz'
   ·intro j o hj hSj k hk
    rw[hL']at hSj ⊢
    simp only[gu]at hSj ⊢
    split
    ·rfl
    ·split at hSj
     ·rename_i e1
      subst e1
      rw[hol]at hj
      cases hj
      exact hpred k hk
     ·exact hcl j o hj hSj k hk
   ·have hfr': ∀t,aN (ng gs' v (s 0).fr (SS (L.setIfInBounds i true)) gs'.length) t=aN τ.fr t:=by
     intro t
     rw[frS _ _ _ hS',M6 hSp hpg fun hd k hlt hdk=> ?_,k2 t]
     ·have e:u7 gs' p=g.dst:=by simp[u7,hgp]
      rw[e]
     ·have hd':g.dst=some t:=by simpa[u7,hgp]using hd
      have hkg:k<gs'.length:=by
       unfold u7 at hdk
       cases hh:gs'[k]? with
       |none=>rw[hh]at hdk;cases hdk
       |some x=>exact(List.getElem?_eq_some_iff.1 hh).1
      obtain⟨y,hy,hgk⟩:=yes hkg
      refine after k _ hy hlt ?_
      cases hx:jg g y.2.2 with
      |true=>rfl
      |false=>exact absurd (by simpa[u7,hgk]using hdk) (JZ hx hd').2
    have hm':io gs' s (SS (L.setIfInBounds i true)) gs'.length=(τ.mem,τ.nx):=by
     rw[memS _ _ _ hS',J3 hSp hpg fun hd k hlt hdk=> ?_,k3]
     ·have e:jZ gs' p=g.op.eff:=by simp[jZ,hgp]
      rw[e]
     ·have hd':g.op.eff=true:=by simpa[jZ,hgp]using hd
      have hkg:k<gs'.length:=by
       unfold jZ at hdk
       cases hh:gs'[k]? with
       |none=>rw[hh]at hdk;cases hdk
       |some x=>exact(List.getElem?_eq_some_iff.1 hh).1
      obtain⟨y,hy,hgk⟩:=yes hkg
      refine after k _ hy hlt ?_
      cases hx:jg g y.2.2 with
      |true=>rfl
      |false=>
       have h5:=(qz hx hd').1
       have h6:y.2.2.op.eff=true:=by simpa[jZ,hgk]using hdk
       rw[h6]at h5
       cases h5
    have:=hsim'.fr (fr:=ng gs' v (s 0).fr (SS (L.setIfInBounds i true)) gs'.length) hfr'
    rw[k4]at this
    simp only[stOf,hm']at this ⊢
    exact this
 have none: ∀k,LL (Array.replicate ops.size false) k=false:=by
  intro k
  simp only[LL,Array.getD_eq_getD_getElem?,Array.getElem?_replicate]
  split<;>simp
 have noneS: ∀k,SS (Array.replicate ops.size false) k=false:=fun k=>none _
 refine main sched _ ι a w (by simp[hn]) (fun j o hj hSj=> ?_) hlin ?_ ?_ hz
 ·rw[none]at hSj;cases hSj
 ·have:LL (Array.replicate ops.size false)=fun _=>false:=funext none
  rw[this];exact hok
 ·have hfr: ∀t,aN (ng gs' v (s 0).fr (SS (Array.replicate ops.size false)) gs'.length) t=aN σ.fr t:=by
   intro t
   rw[←hs0]
   exact rD hch (i:=0) (Nat.le_refl _) (by omega) fun k hk _=>by rw[noneS k];exact⟨(fun e=>by cases e),(fun e=>by omega)⟩
  have hmm:=qE hch (S:=SS (Array.replicate ops.size false)) (i:=0) (n:=gs'.length) (Nat.le_refl _) (by omega) fun k hk _=>by rw[noneS k];exact⟨(fun e=>by cases e),(fun e=>by omega)⟩
  have:=hs.fr (fr:=ng gs' v (s 0).fr (SS (Array.replicate ops.size false)) gs'.length) hfr
  simp only[stOf,hmm]
  simp only[hs0]at this ⊢
  exact this
theorem Bw {gs:List AG} {M:List (Nat×Nat)}: ∀{ord:List Nat} {prev:List (Nat×AG)} {leaf:List (Nat×Bool×AG)},Me gs M prev ord=some leaf→leaf.map (·.1)=ord∧ ∀y∈leaf,gs[y.1]? =some y.2.2
 | [],prev,leaf,h=>by cases h;exact⟨rfl,fun y hy=>by cases hy⟩
 |k::r,prev,leaf,h=>by
  unfold Me at h
  split at h
  ·rename_i g hg
   split at h
   ·rename_i l hl
    cases h
    obtain⟨h1,h2⟩:=Bw hl
    refine⟨by rw[List.map_cons,h1],fun y hy=> ?_⟩
    rcases List.mem_cons.1 hy with rfl|hy
    ·exact hg
    ·exact h2 y hy
   ·cases h
  ·cases h
theorem ud {ops:Array Oper} {gs:List AG} {K:St→Prop} {Q:Exit→Act→World→Prop}
  (hc:gI P dr nt ops ops.toList=some gs) (hedge:ws 0 ops.toList=true) (hgc:(gs.all fun g=> !g.op.gcall)=true) (hs:bP w0 U σ ι a w) (hz:a.tmps.size=nt)
  (hq: ∀σ' ι' a' w',K σ'→bP w0 U σ' ι' a' w'→a'.tmps.size=nt→Q .normal a' w') {sched:List Nat} (hlin:S2 ops sched (Array.replicate ops.size false)):
  ∀{f:Nat} {E:List (Nat×Nat)} {gss:List (List (Nat×Bool×AG))},Ig ops.toList gs f E=some gss→(∀leaf∈gss,jy P (uJ leaf) σ K)→XO E sched (fun _=>false)→wpOps P ops Q sched a w
 |0,E,gss,h,_,_=>by cases h
 |f+1,E,gss,h,hall,hok=>by
  unfold Ig at h
  split at h
  ·cases h
  ·rename_i ord _
   split at h
   ·cases h
   ·rename_i leaf hb
    split at h
    ·split at h
     ·rename_i hchk
      cases h
      simp only[Bool.and_eq_true,List.all_eq_true,List.mem_range]at hchk
      obtain⟨⟨⟨h1,h2⟩,h3⟩,h4⟩:=hchk
      obtain⟨k1,k2⟩:=Bw hb
      exact P0 hc hedge hgc h1 k1 k2 h2 (fun i hi=>List.contains_iff_mem.1 (h3 i hi)) (hall leaf List.mem_cons_self) hs hz hq hlin hok
     ·cases h
    ·rename_i i k _
     split at h
     ·cases h
     ·rename_i hne
      split at h
      ·rename_i ga gb ha hb'
       cases h
       rcases K5 hne hok with h'|h'
       ·exact ud hc hedge hgc hs hz hq hlin ha (fun leaf hl=>hall leaf (List.mem_append_left _ hl)) h'
       ·exact ud hc hedge hgc hs hz hq hlin hb' (fun leaf hl=>hall leaf (List.mem_append_right _ hl)) h'
      ·cases h
theorem QO {ops:Array Oper} {gs:List AG} {gss:List (List (Bool×AG))} {K:St→Prop} {Q:Exit→Act→World→Prop} (hc:gI P dr nt ops ops.toList=some gs) (hd:rz P ops.toList gs= .draw gss) (h:xY P gss σ K) (hs:bP w0 U σ ι a w) (hz:a.tmps.size=nt)
  (hq: ∀σ' ι' a' w',K σ'→bP w0 U σ' ι' a' w'→a'.tmps.size=nt→Q .normal a' w'): ∀t,wpOps P ops Q (Region.schedule (P.follows .mixedOrders) ops t) a {w with drawn:=w.drawn+1}:=by
 unfold rz at hd
 split at hd
 ·rename_i hcond
  simp only[Bool.and_eq_true]at hcond
  obtain⟨⟨hmix,hedge⟩,hgc⟩:=hcond
  split at hd
  ·rename_i l hl
   cases hd
   have hs':bP w0 U σ ι a {w with drawn:=w.drawn+1}:=hs.grow ⟨rfl,rfl,rfl,Nat.le_refl _,fun _ _=>rfl⟩
   intro t
   simp only[Region.schedule,hmix,Bool.true_or,if_true]
   refine ud hc hedge hgc hs' hz hq (Vy _ _ _ (by simp) ?_) hl (fun leaf hlf=>Jy h _ (List.mem_map_of_mem hlf)) Sf
   have h0: ∀n,RT (fun k=>(Array.replicate ops.size false).getD k false) n=0:=by
    intro n
    induction n with
    |zero=>rfl
    |succ n ih=>
     simp only[RT,ih]
     rw[if_neg]
     simp only[Array.getD_eq_getD_getElem?,Array.getElem?_replicate]
     split<;>simp
   rw[h0]
   omega
  ·cases hd
 ·cases hd
end
open Go.RowKit
section
variable {P : Program} {a : Act} {w w' w0 : World} {U : Gh} {ι : Pl} {σ : St} {nt : Nat} {dr : Bool}
theorem np {ops:Array Oper} {Q:Exit→Act→World→Prop} {K:St→Prop}: ∀{l:List Oper} {gs:List AG} {σ:St} {ι:Pl} {a:Act} {w:World},gI P dr nt ops l=some gs→my P gs σ K→bP w0 U σ ι a w→a.tmps.size=nt→
  (∀σ' ι' a' w',K σ'→bP w0 U σ' ι' a' w'→a'.tmps.size=nt→Q .normal a' w')→wpList P ops Q l a w
 |[],gs,σ,ι,a,w,hc,h,hs,hsz,hq=>by
  cases hc
  exact hq σ ι a w h hs hsz
 |o::l,gs,σ,ι,a,w,hc,h,hs,hsz,hq=>by
  unfold gI at hc
  split at hc
  ·rename_i g gs' h1 h2
   cases hc
   unfold x8 at h1
   by_cases hdst:Qh nt o.dst=false
   ·rw[if_pos hdst]at h1;cases h1
   ·rw[if_neg hdst]at h1
    have hd: ∀t,o.dst=some t→t<a.tmps.size:=by
     intro t ht
     rw[ht]at hdst
     have h5:t<nt:=by simpa[Qh]using hdst
     rw[hsz]
     exact h5
    split at h1
    ·rename_i ao hao
     have run: ∀{K':AV→St→Prop},bD P ao σ K'→(∀v σ',K' v σ'→my P gs' (σ'.put o.dst v) K)→o.wp P a w (wpList P ops Q l) Q:=by
      intro K' hop hk
      refine NM hao hop hs ?_
      intro v σ' ι' u w' hv hs' hr
      exact np h2 (hk v σ' hv) (hs'.put hd hr) (by rw[vn];exact hsz) hq
     have skip:my P gs' (σ.put o.dst (.tup [])) K→wpList P ops Q l (a.put o.dst undef) w:=fun hk=>
      np h2 hk (hs.put hd iO) (by rw[vn];exact hsz) hq
     unfold wpList
     split at h1
     ·rename_i hgd
      cases h1
      simp only[my]at h
      rw[if_pos (by simp[Region.wanted,hgd])]
      exact .inl (run h fun _ _ h=>h)
     ·rename_i j want hgd
      split at h1
      ·rename_i t ht
       cases h1
       simp only[my]at h
       have hval:=hs.val t
       split at h
       ·rename_i b e
        rw[e]at hval
        have hb:=uH (bp hval).1 (by intro e;cases e)
        have hy:yielded ops a.tmps j=some b:=by simp[yielded,ht,hb]
        by_cases hbw:b=want
        ·rw[if_pos (by simp[Region.wanted,hgd,hy,hbw])]
         exact .inl (run (h.1 (by simp[hbw])) fun _ _ h=>h)
        ·rw[if_neg (by simp[Region.wanted,hgd,hy,hbw])]
         exact skip (h.2 (by simp[hbw]))
       ·rename_i e
        rw[e]at hval
        have hu:a.tmps.getD t undef=undef:=by
         generalize a.tmps.getD t undef=z at hval
         cases hval with
         | @tup _ vs hl _=>
          have:vs= #[]:=Array.eq_empty_of_size_eq_zero (by simpa using hl.symm)
          rw[this]
          rfl
        have hy:yielded ops a.tmps j=none:=by
         unfold yielded
         simp only[ht,Option.bind_some]
         simp only[Array.getD_eq_getD_getElem?]at hu
         cases e':a.tmps[t]? with
         |none=>rfl
         |some z=>
          rw[e']at hu
          simp at hu
          subst hu
          rfl
        rw[if_neg (by simp[Region.wanted,hgd,hy])]
        exact skip h
       ·exact h.elim
      ·cases h1
    ·cases h1
  ·cases hc
end
section
variable {P : Program}
theorem jH {ops:List Oper} {gs:List AG}:(∃gss,rz P ops gs= .draw gss)∨rz P ops gs= .region gs true:=by
 unfold rz
 split
 ·split
  ·exact .inl ⟨_,rfl⟩
  ·exact .inr rfl
 ·exact .inr rfl
theorem hZ {dr:Bool} {ops:List Oper} {gs:List AG}:(∃x,rJ P dr ops gs= .draw x)∨(∃x,rJ P dr ops gs= .region gs x):=by
 unfold rJ
 split
 ·rcases jH (P:=P) (ops:=ops) (gs:=gs)with⟨x,e⟩|e
  ·exact .inl ⟨x,e⟩
  ·exact .inr ⟨true,e⟩
 ·exact .inr ⟨false,rfl⟩
@[simp] theorem aa9 {dr:Bool} {ops:List Oper} {gs:List AG}:(rJ P dr ops gs= .skip)=False:=eq_false fun h=>by
 rcases hZ (P:=P) (dr:=dr) (ops:=ops) (gs:=gs)with⟨x,e⟩|⟨x,e⟩<;>rw[e]at h<;>cases h
@[simp] theorem abD {dr:Bool} {ops:List Oper} {gs:List AG}:(rJ P dr ops gs= .ret)=False:=eq_false fun h=>by
 rcases hZ (P:=P) (dr:=dr) (ops:=ops) (gs:=gs)with⟨x,e⟩|⟨x,e⟩<;>rw[e]at h<;>cases h
@[simp] theorem aa4 {dr:Bool} {ops:List Oper} {gs:List AG} {i:Nat}:(rJ P dr ops gs= .exit i)=False:=eq_false fun h=>by
 rcases hZ (P:=P) (dr:=dr) (ops:=ops) (gs:=gs)with⟨x,e⟩|⟨x,e⟩<;>rw[e]at h<;>cases h
@[simp] theorem abt {dr:Bool} {ops:List Oper} {gs:List AG} {x y:ak}:(rJ P dr ops gs= .seq x y)=False:=eq_false fun h=>by
 rcases hZ (P:=P) (dr:=dr) (ops:=ops) (gs:=gs)with⟨x,e⟩|⟨x,e⟩<;>rw[e]at h<;>cases h
@[simp] theorem aa6 {dr:Bool} {ops:List Oper} {gs:List AG} {c:AX} {x y:ak}:(rJ P dr ops gs= .cond c x y)=False:=eq_false fun h=>by
 rcases hZ (P:=P) (dr:=dr) (ops:=ops) (gs:=gs)with⟨x,e⟩|⟨x,e⟩<;>rw[e]at h<;>cases h
@[simp] theorem aaJ {dr:Bool} {ops:List Oper} {gs:List AG} {i:Nat} {x:ak}:(rJ P dr ops gs= .block i x)=False:=eq_false fun h=>by
 rcases hZ (P:=P) (dr:=dr) (ops:=ops) (gs:=gs)with⟨x,e⟩|⟨x,e⟩<;>rw[e]at h<;>cases h
@[simp] theorem abd {dr:Bool} {ops:List Oper} {gs:List AG} {x:ak}:(rJ P dr ops gs= .loop x)=False:=eq_false fun h=>by
 rcases hZ (P:=P) (dr:=dr) (ops:=ops) (gs:=gs)with⟨x,e⟩|⟨x,e⟩<;>rw[e]at h<;>cases h
@[simp] theorem ZL {dr:Bool} {ops:List Oper} {gs:List AG} {f:AX} {ps:List Nat} {x y:ak}:(rJ P dr ops gs= .rangeF f ps x y)=False:=eq_false fun h=>by
 rcases hZ (P:=P) (dr:=dr) (ops:=ops) (gs:=gs)with⟨x,e⟩|⟨x,e⟩<;>rw[e]at h<;>cases h
end
inductive bk where
 |normal
 |exit (id:Nat)
 |ret
def oq:bk→Exit
 | .normal=> .normal
 | .exit id=> .exit id
 | .ret=> .ret
def FR (rd:Option Nat):Fence:={Fence.wide with round:=rd}
def sh (ds:List Deferred) (a:Act):Act:={a with defers:=a.defers++ds}
def Lf (ds:List Deferred) (K:Act→World→Prop):Act→World→Prop:=fun a' w'=> ∃a0,a'=sh ds a0∧K a0 w'
def LfQ (ds:List Deferred) (Q:Exit→Act→World→Prop):Exit→Act→World→Prop:=fun e a' w'=> ∃a0,a'=sh ds a0∧Q e a0 w'
theorem BT {ds:List Deferred} {a:Act} {d:Option Tmp} {v:Value}:(sh ds a).put d v=sh ds (a.put d v):=by cases d<;>rfl
theorem L6 {ds:List Deferred} {a:Act}:(sh ds a).eval=a.eval:=by
 funext x
 cases x<;>rfl
theorem Ls {P:Program} {rd:Option Nat} {n:Nat} {f:FuncId} {args:Array Value} {w:World} {R:Ending→World→Prop} (h:Calls P f args w R):CallsIn (FR rd) n P f args w R:=
 (callsIn_wide (n:=n)).2 h
theorem aaV {P:Program} {rd:Option Nat} {n:Nat} {row:String} {args:Array Value} {w:World} {R:Value→World→Prop} (h:Rows P row args w R):RowsIn (FR rd) n P row args w R:=by
 intro c cs _
 obtain⟨v,w',hr,hs⟩:=h c cs
 exact⟨v,w',hr,stepsIn_wide.2 hs⟩
theorem ZY {P:Program} {rd:Option Nat} {ds:List Deferred} {n:Nat} {o:Oper} {a:Act} {w:World} {next:Act→World→Prop} {Q:Exit→Act→World→Prop}
  (hd: ∀c,o.op≠ .defer c) (hl: ¬LetsOut Q) (h:o.wp P a w next Q):o.wpIn (FR rd) n P (sh ds a) w (Lf ds next) (LfQ ds Q):=by
 refine⟨fun _ _=>trivial, ?_⟩
 rw[Oper.semAt_eq _ _ _ hd,L6]
 unfold Oper.wp at h
 generalize (execOp a.eval o).run P w=r at h
 cases r with
 |ok nx w'=>
  cases nx<;>simp only[Oper.upon,Oper.uponIn]at h ⊢
  case value v=>exact⟨_,BT,h⟩
  case skip=>exact⟨_,BT,h⟩
  case defer d=>
   refine⟨{a with defers:=d::a.defers}.put o.dst undef, ?_,h⟩
   cases o.dst<;>rfl
  case enter f args=>
   refine⟨by simp[FR,Fence.wide],Ls (h.mono fun e w'' h=> ?_)⟩
   cases e with
   |returned v=>exact⟨_,BT,h⟩
   |panicked ch=>exact⟨_,rfl,h⟩
   |outgrown=>exact absurd h hl
  case row row args=>
   exact⟨by simp[FR,Fence.wide],aaV (h.mono fun v w'' h=>⟨_,BT,h⟩)⟩
 |halt hh w'=>
  cases hh<;>simp only[Oper.upon,Oper.uponIn]at h ⊢
  case panic v=>exact⟨_,rfl,h⟩
theorem OY {P:Program} {dr:Bool} {nt:Nat} {ops:Array Oper} {o:Oper} {g:AG} (h:x8 P dr nt ops o=some g): ∀c,o.op≠ .defer c:=by
 intro c e
 unfold x8 at h
 rw[e]at h
 split at h
 ·cases h
 ·simp[b7]at h
theorem kD {P:Program} {dr:Bool} {nt:Nat} {ops:Array Oper}: ∀{l:List Oper} {gs:List AG},gI P dr nt ops l=some gs→ ∀o∈l,∀c,o.op≠ .defer c
 | [],_,_,o,ho=>by cases ho
 |x::l,gs,h,o,ho=>by
  unfold gI at h
  split at h
  ·rename_i g gs' h1 h2
   rcases List.mem_cons.1 ho with rfl|ho
   ·exact OY h1
   ·exact kD h2 o ho
  ·cases h
theorem wz {P:Program} {rd:Option Nat} {ds:List Deferred} {n:Nat} {ops:Array Oper} {Q:Exit→Act→World→Prop} (hl: ¬LetsOut Q): ∀{l:List Oper} {a:Act} {w:World},(∀o∈l,∀c,o.op≠ .defer c)→
  wpList P ops Q l a w→wpListIn (FR rd) n P ops (LfQ ds Q) l (sh ds a) w
 | [],a,w,_,h=>⟨a,rfl,h⟩
 |o::l,a,w,hd,h=>by
  unfold wpList at h
  unfold wpListIn
  by_cases hw:Region.wanted o (yielded ops a.tmps)=true
  ·rw[if_pos hw]at h
   have hw':Region.wanted o (yielded ops (sh ds a).tmps)=true:=hw
   rw[if_pos hw']
   rcases h with h|⟨_,h⟩
   ·have:=ZY (rd:=rd) (ds:=ds) (n:=n) (hd o List.mem_cons_self) hl h
    refine Oper.wpIn_mono (fun a' w' ⟨a0,e,hk⟩=> ?_) this
    subst e
    exact wz hl (fun o ho=>hd o (List.mem_cons_of_mem _ ho)) hk
   ·exact absurd h hl
  ·rw[if_neg hw]at h
   have hw': ¬Region.wanted o (yielded ops (sh ds a).tmps)=true:=hw
   rw[if_neg hw',BT]
   exact⟨fun _ _=>trivial,wz hl (fun o ho=>hd o (List.mem_cons_of_mem _ ho)) h⟩
theorem MA {P:Program} {rd:Option Nat} {ds:List Deferred} {n:Nat} {ops:Array Oper} {Q:Exit→Act→World→Prop} (hl: ¬LetsOut Q) (hd: ∀o∈ops.toList,∀c,o.op≠ .defer c): ∀{l:List Nat} {a:Act} {w:World},
  wpOps P ops Q l a w→wpOpsIn (FR rd) n P ops (LfQ ds Q) l (sh ds a) w
 | [],a,w,h=>⟨a,rfl,h⟩
 |i::l,a,w,h=>by
  unfold wpOps at h
  unfold wpOpsIn
  cases ho:ops[i]? with
  |none=>
   rw[ho]at h
   exact MA hl hd h
  |some o=>
   rw[ho]at h
   have hm:o∈ops.toList:=Array.mem_toList_iff.2 (Array.mem_of_getElem? ho)
   dsimp only at h ⊢
   by_cases hw:Region.wanted o (yielded ops a.tmps)=true
   ·rw[if_pos hw]at h
    have hw':Region.wanted o (yielded ops (sh ds a).tmps)=true:=hw
    rw[if_pos hw']
    rcases h with h|⟨_,h⟩
    ·have:=ZY (rd:=rd) (ds:=ds) (n:=n) (hd o hm) hl h
     refine Oper.wpIn_mono (fun a' w' ⟨a0,e,hk⟩=> ?_) this
     subst e
     exact MA hl hd hk
    ·exact absurd h hl
   ·rw[if_neg hw]at h
    have hw': ¬Region.wanted o (yielded ops (sh ds a).tmps)=true:=hw
    rw[if_neg hw',BT]
    exact⟨fun _ _=>trivial,MA hl hd h⟩
def VY (U:Gh) (rd:Option Nat):Prop:= ∀l,rd=some l→ ∀w V,U.G w V→ ∃r,w.heap[l]? =some (.loop r)
inductive MC (B:Nat) (rd:Option Nat) (U:Gh) (ds:List Deferred):Gh→List Deferred→Prop
 |refl:MC B rd U ds U ds
 |mark {U' U'':Gh} {ds':List Deferred} {D:Nat} (h:MC B rd U ds U' ds') (hr:rd=none) (hD:B≤D) (hp:U''.p=U'.p) (hi:U''.ι0=U'.ι0)
   (hG: ∀w V,U''.G w V→U'.G w V∧V D∧w.heap[D]? =some (.deferred (some []))∧U'.G (w.putObj D (.deferred none)) V):MC B rd U ds U'' ({target:= .collected D,args:= #[]}::ds')
theorem MC.trans {B:Nat} {rd:Option Nat} {U U' U'':Gh} {ds ds' ds'':List Deferred} (h:MC B rd U ds U' ds') (h':MC B rd U' ds' U'' ds''):MC B rd U ds U'' ds'':=by
 induction h' with
 |refl=>exact h
 |mark _ hr hD hp hi hG ih=>exact .mark ih hr hD hp hi hG
theorem MC.le {B:Nat} {rd:Option Nat} {U U':Gh} {ds ds':List Deferred} (h:MC B rd U ds U' ds'):U'.p=U.p∧U'.ι0=U.ι0∧ ∀w V,U'.G w V→U.G w V:=by
 induction h with
 |refl=>exact⟨rfl,rfl,fun _ _ h=>h⟩
 |mark _ _ _ hp hi hG ih=>exact⟨hp.trans ih.1,hi.trans ih.2.1,fun w V h=>ih.2.2 w V (hG w V h).1⟩
theorem MC.inRound {B l:Nat} {U U':Gh} {ds ds':List Deferred} (h:MC B (some l) U ds U' ds'):U'=U∧ds'=ds:=by
 cases h with
 |refl=>exact⟨rfl,rfl⟩
 |mark _ hr=>cases hr
theorem VY.ext {B:Nat} {rd:Option Nat} {U U':Gh} {ds ds':List Deferred} (hr:VY U rd) (h:MC B rd U ds U' ds'):VY U' rd:=fun l e w V hg=>hr l e w V (h.le.2.2 w V hg)
def zh (w0:World) (U:Gh) (rd:Option Nat) (ds:List Deferred) (nt:Nat) (Q:bk→St→Prop):Exit→Act→World→Prop:=fun e a w=>
 ∃e' σ ι U' ds' a0,e=oq e'∧Q e' σ∧bP w0 U' σ ι a0 w∧a0.tmps.size=nt∧a=sh ds' a0∧MC w0.heap.size rd U ds U' ds'
theorem zh.ext {w0:World} {U U':Gh} {rd:Option Nat} {ds ds':List Deferred} {nt:Nat} {Q:bk→St→Prop} {e:Exit} {a:Act} {w:World} (h:zh w0 U' rd ds' nt Q e a w) (hx:MC w0.heap.size rd U ds U' ds'):zh w0 U rd ds nt Q e a w:=by
 obtain⟨e',σ,ι,U2,ds2,a0,h1,h2,h3,h4,h5,h6⟩:=h
 exact⟨e',σ,ι,U2,ds2,a0,h1,h2,h3,h4,h5,hx.trans h6⟩
theorem zh.here {w0:World} {U:Gh} {rd:Option Nat} {ds:List Deferred} {nt:Nat} {Q:bk→St→Prop} {e':bk} {σ:St} {ι:Pl} {a:Act} {w:World} (hq:Q e' σ) (hs:bP w0 U σ ι a w) (hz:a.tmps.size=nt):zh w0 U rd ds nt Q (oq e') (sh ds a) w:=
 ⟨e',σ,ι,U,ds,a,rfl,hq,hs,hz,rfl,.refl⟩
def AW (P:Program) (nt:Nat) (c:ak) (σ:St) (Q:bk→St→Prop):Prop:=
 ∀(c':Code),ed P nt c'=some c→ ∀w0 U rd ds ι a w,VY U rd→bP w0 U σ ι a w→a.tmps.size=nt→c'.wpIn (FR rd) 0 P (zh w0 U rd ds nt Q) (sh ds a) w
def ZO (P:Program) (nt:Nat) (b:ak) (Q:bk→St→Prop):bk→St→Prop
 | .normal,σ=>AW P nt b σ Q
 | .exit i,σ=>Q (.exit i) σ
 | .ret,σ=>Q .ret σ
def P7 (id:Nat) (Q:bk→St→Prop):bk→St→Prop
 | .normal,σ=>Q .normal σ
 | .exit i,σ=>if i=id then Q .normal σ else Q (.exit i) σ
 | .ret,σ=>Q .ret σ
section
variable {P : Program} {nt : Nat} {σ : St} {Q Q' : bk → St → Prop}
theorem AW.mono {c:ak} (h:AW P nt c σ Q) (hq: ∀e σ,Q e σ→Q' e σ):AW P nt c σ Q':=
 fun c' hc w0 U rd ds ι a w hr hs hz=>wpIn_mono (h c' hc w0 U rd ds ι a w hr hs hz) fun e a w ⟨e',σ',ι',U',ds',a0,h1,h2,h3⟩=>⟨e',σ',ι',U',ds',a0,h1,hq _ _ h2,h3⟩
theorem kU (h:Q .normal σ):AW P nt .skip σ Q:=by
 intro c' hc w0 U rd ds ι a w hrd hs hz
 cases c'<;>simp[ed]at hc
 ·exact wpIn_skip (zh.here (e':= .normal) h hs hz)
 all_goals(try(split at hc<;>simp at hc))
theorem mj (h:Q .ret σ):AW P nt .ret σ Q:=by
 intro c' hc w0 U rd ds ι a w hrd hs hz
 cases c'<;>simp[ed]at hc
 all_goals(try(split at hc<;>simp at hc))
 exact wpIn_ret (zh.here (e':= .ret) h hs hz)
theorem R4 {id:Nat} (h:Q (.exit id) σ):AW P nt (.exit id) σ Q:=by
 intro c' hc w0 U rd ds ι a w hrd hs hz
 cases c'<;>simp[ed]at hc
 all_goals(try(split at hc<;>simp at hc))
 subst hc
 exact wpIn_exit (zh.here (e':= .exit _) h hs hz)
theorem bN {x y:ak} (h:AW P nt x σ (ZO P nt y Q)):AW P nt (.seq x y) σ Q:=by
 intro c' hc w0 U rd ds ι a w hrd hs hz
 cases c'<;>simp[ed]at hc
 all_goals(try(split at hc<;>simp at hc))
 rename_i b1 b2 c1 c2 h1 h2
 obtain⟨rfl,rfl⟩:=hc
 refine wpIn_seq (wpIn_mono (h _ h1 w0 U rd ds ι a w hrd hs hz) ?_)
 rintro e a1 w1 ⟨e',σ',ι',U',ds',a0,rfl,hq,hs',hsz,rfl,hx⟩
 cases e' with
 |normal=>exact wpIn_mono (hq _ h2 w0 U' rd ds' ι' a0 w1 (hrd.ext hx) hs' hsz) fun e a w h=>h.ext hx
 |exit id=>exact⟨.exit id,σ',ι',U',ds',a0,rfl,hq,hs',hsz,rfl,hx⟩
 |ret=>exact⟨.ret,σ',ι',U',ds',a0,rfl,hq,hs',hsz,rfl,hx⟩
theorem uy {x:ak} {id:Nat} (h:AW P nt x σ (P7 id Q)):AW P nt (.block id x) σ Q:=by
 intro c' hc w0 U rd ds ι a w hrd hs hz
 cases c'<;>simp[ed]at hc
 all_goals(try(split at hc<;>simp at hc))
 rename_i i1 c1
 obtain⟨rfl,h1⟩:i1=id∧ed P nt c1=some x:=by simp_all
 refine wpIn_block (wpIn_mono (h _ h1 w0 U rd ds ι a w hrd hs hz) ?_)
 rintro e a1 w1 ⟨e',σ',ι',U',ds',a0,rfl,hq,hs',hsz,rfl,hx⟩
 cases e' with
 |normal=>exact⟨.normal,σ',ι',U',ds',a0,rfl,hq,hs',hsz,rfl,hx⟩
 |exit i=>
  simp only[P7]at hq
  by_cases hi:i=i1
  ·rw[if_pos hi]at hq
   simp only[oq,Exit.inBlock,if_pos hi]
   exact⟨.normal,σ',ι',U',ds',a0,rfl,hq,hs',hsz,rfl,hx⟩
  ·rw[if_neg hi]at hq
   simp only[oq,Exit.inBlock,if_neg hi]
   exact⟨.exit i,σ',ι',U',ds',a0,rfl,hq,hs',hsz,rfl,hx⟩
 |ret=>exact⟨.ret,σ',ι',U',ds',a0,rfl,hq,hs',hsz,rfl,hx⟩
theorem eR {c:AX} {x y:ak} {t:Bool} (hc:c.ev σ.fr= .c (.pure (.val (.bool t)))) (h1:t=true→AW P nt x σ Q) (h2:t=false→AW P nt y σ Q):AW P nt (.cond c x y) σ Q:=by
 intro c' hc' w0 U rd ds ι a w hrd hs hz
 cases c'<;>simp[ed]at hc'
 all_goals(try(split at hc'<;>simp at hc'))
 rename_i o b1 b2 _ _ _ x1 x2 x3 g1 g2 g3
 obtain⟨rfl,rfl,rfl⟩:=hc'
 have r1:=aC g1 hs
 rw[hc]at r1
 have ho:=(bp r1).1
 have ho':(sh ds a).eval o= .bool t:=by rw[L6];exact ho
 cases t with
 |true=>exact wpIn_cond_true ho' (h1 rfl _ g2 w0 U rd ds ι a w hrd hs hz)
 |false=>exact wpIn_cond_false ho' (h2 rfl _ g3 w0 U rd ds ι a w hrd hs hz)
theorem Rm {w0:World} {U:Gh} {rd:Option Nat} {ds:List Deferred}: ∀e a w,LfQ ds (fun e a w=> ∃σ ι,e= .normal∧Q .normal σ∧bP w0 U σ ι a w∧a.tmps.size=nt) e a w→zh w0 U rd ds nt Q e a w:=by
 rintro e a w ⟨a0,rfl,σ,ι,rfl,hq,hs,hz⟩
 exact zh.here (e':= .normal) hq hs hz
theorem vN {w0:World} {U:Gh}: ¬LetsOut (fun e a w=> ∃σ ι,e= .normal∧Q .normal σ∧bP w0 U σ ι a w∧a.tmps.size=nt):=by
 rintro⟨_,_,_,_,h,_⟩
 cases h
theorem CS {gs:List AG} (h:my P gs σ (Q .normal)):AW P nt (.region gs false) σ Q:=by
 intro c' hc w0 U rd ds ι a w hrd hs hz
 cases c'<;>simp[ed]at hc
 all_goals(try(split at hc<;>simp at hc))
 rename_i id ops dr
 obtain⟨g1,h1,hg⟩:=hc
 cases dr with
 |false=>
  simp[rJ]at hg
  subst hg
  refine wpIn_mono (wpIn_region_list (wz (ds:=ds) vN (kD h1) (np h1 h hs hz fun σ' ι' a' w' hq hs' hz'=>⟨σ',ι',rfl,hq,hs',hz'⟩))) Rm
 |true=>
  simp only[rJ,if_true]at hg
  rcases jH (P:=P) (ops:=ops.toList) (gs:=g1)with⟨x,e⟩|e<;>rw[e]at hg<;>simp at hg
theorem Sh {gss:List (List (Bool×AG))} (h:xY P gss σ (Q .normal)):AW P nt (.draw gss) σ Q:=by
 intro c' hc w0 U rd ds ι a w hrd hs hz
 cases c'<;>simp[ed]at hc
 all_goals(try(split at hc<;>simp at hc))
 rename_i id ops dr
 obtain⟨g1,h1,hg⟩:=hc
 cases dr with
 |false=>simp[rJ]at hg
 |true=>
  simp only[rJ,if_true]at hg
  refine wpIn_mono (wpIn_region_draw fun t=>MA (ds:=ds) vN (kD h1) (QO h1 hg h hs hz (fun σ' ι' a' w' hq hs' hz'=>⟨σ',ι',rfl,hq,hs',hz'⟩) t)) Rm
end
open Go.RowKit
def k7 (N:Nat):AC→Prop
 | .ptr nm _=>nm<N
 | .eptr nm _ _ _=>nm<N
 | .ref nm=>nm<N
 | .mref nm=>nm<N
 | .clo _ caps=>go caps
 |_=>True
where go:List AC→Prop
 | []=>True
 | .ptr nm _::r=>nm<N∧go r
 | .mref nm::r=>nm<N∧go r
 | .ref nm::r=>nm<N∧go r
 | .pure _::r=>go r
 | .cptr _::r=>go r
 | .nils::r=>go r
 | .tsl _::r=>go r
 | .top::r=>go r
 |_::_=>False
def dU (N:Nat):List AC→Prop
 | []=>True
 |x::r=>k7 N x∧dU N r
def oJ (N:Nat):AV→Prop
 | .c x=>k7 N x
 | .agg xs=>dU N xs
 | .tup []=>True
 | .tup _=>False
 | .top=>True
def TH (N:Nat):List (MK×List AC)→Prop
 | []=>True
 |x::r=>dU N x.2∧TH N r
def Nk (N:Nat):List (List AC)→Prop
 | []=>True
 |x::r=>dU N x∧Nk N r
def clB (N:Nat):bc→Prop
 | .var xs=>dU N xs
 | .map _ _ ents=>TH N ents
 | .arn _ _ rows=>Nk N rows
 |_=>True
def rn:List (Nat×Nat)→Nat→Nat
 | [],n=>n
 |(a,b)::r,n=>if a=n then b else rn r n
def fw (l:List (Nat×Nat)):AC→AC
 | .ptr nm off=> .ptr (rn l nm) off
 | .mref nm=> .mref (rn l nm)
 | .ref nm=> .ref (rn l nm)
 |x=>x
def dB (l:List (Nat×Nat)):AC→AC
 | .ptr nm off=> .ptr (rn l nm) off
 | .eptr nm sz row off=> .eptr (rn l nm) sz row off
 | .ref nm=> .ref (rn l nm)
 | .mref nm=> .mref (rn l nm)
 | .clo f caps=> .clo f (caps.map (fw l))
 |x=>x
def eN (l:List (Nat×Nat)):AV→AV
 | .c x=> .c (dB l x)
 | .agg xs=> .agg (xs.map (dB l))
 |x=>x
def SP (l:List (Nat×Nat)):bc→bc
 | .var xs=> .var (xs.map (dB l))
 | .map kt n ents=> .map kt n (ents.map fun x=>(x.1,x.2.map (dB l)))
 | .arn e sz rows=> .arn e sz (rows.map fun r=>r.map (dB l))
 |b=>b
def m6 (l:List (Nat×Nat)) (fr:List (Nat×AV)) (N:Nat):List (Nat×AV)→Prop
 | []=>True
 |(t,v)::r=>(aN fr t=eN l v∨v= .top)∧oJ N v∧m6 l fr N r
def ju (n:Nat):List Nat→Prop
 | []=>True
 |m::r=>n≠m∧ju n r
def WP (l:List (Nat×Nat)) (mem:List (Nat×bc)) (N:Nat):List Nat→List (Nat×bc)→Prop
 |_, []=>True
 |seen,(nm,b)::r=>am mem (rn l nm)=some (SP l b)∧nm<N∧clB N b∧ju (rn l nm) seen∧WP l mem N (rn l nm::seen) r
def eg (N:Nat):List (Nat×Nat)→Prop
 | []=>True
 |(a,_)::r=>N≤a∧eg N r
theorem Q9 {N:Nat}: ∀{l:List (Nat×Nat)},eg N l→ ∀{n:Nat},n<N→rn l n=n
 | [],_,n,_=>rfl
 |(a,b)::r,h,n,hn=>by
  simp only[rn]
  rw[if_neg (by have:=h.1;omega)]
  exact Q9 h.2 hn
def Wk (l:List (Nat×Nat)) (σ σ':St):Prop:=m6 l σ.fr σ'.nx σ'.fr∧WP l σ.mem σ'.nx [] σ'.mem∧σ'.base=σ.base∧σ.base≤σ'.nx∧eg σ.base l
section
variable {P : Program} {a : Act} {w w' w0 : World} {U : Gh} {ι : Pl} {σ σ' : St} {nt : Nat}
theorem bZ.cl {V V':Nat→Prop} {N N':Nat} {x:AC} {v:Value} {l:List (Nat×Nat)} (h:bZ w V ι N (dB l x) v) (hV: ∀b,V b→V' b) (hc:k7 N' x):bZ w V' (fun n=>ι (rn l n)) N' x v:=by
 have hp: ∀{p:PC} {v:Value},cp w V p v→cp w V' p v:=fun h=>h.mono (fun b _ h=>hV b h) (fun _ _ _=>rfl)
 have hcp: ∀{cells:List PC} {v:Value},bZ w V ι N (.cptr cells) v→bZ w V' (fun n=>ι (rn l n)) N' (.cptr cells) v:=by
  intro cells v h
  cases h with
  |cptr g hc=>
   refine .cptr g fun j p hj=> ?_
   obtain⟨h1,h2,h3⟩:=hc j p hj
   exact⟨hV _ h1,h2,hp h3⟩
 cases x with
 |pure p=>cases h with|pure h=>exact .pure (hp h)
 |nils=>cases h;exact .nils
 |tsl rows=>cases h with|tsl h=>exact .tsl (hp h)
 |ptr nm off=>cases h with|ptr hn h=>exact .ptr hc h
 |eptr nm sz row off=>cases h with|eptr hn h=>exact .eptr hc h
 |cptr cells=>exact hcp h
 |ref nm=>
  have e:v=ι (rn l nm):=by cases h;rfl
  subst e
  cases h with
  |ref hn h=>exact .ref (ι:=fun n=>ι (rn l n)) hc h
 |mref nm=>cases h with|mref hn h=>exact .mref hc h
 |top=>cases h with|top h=>exact .top h
 |clo f caps=>
  cases h with
  | @clo _ _ vs hl h=>
   refine .clo (by simpa using hl) fun i x hi=> ?_
   have key: ∀(l:List AC),k7.go N' l→ ∀(i:Nat) x,l[i]? =some x→(∀nm off,x= .ptr nm off→nm<N')∧(∀nm sz row off,x≠ .eptr nm sz row off)∧(∀nm,x= .ref nm→nm<N')∧(∀f cs,x≠ .clo f cs)∧(∀nm,x= .mref nm→nm<N'):=by
    intro l
    induction l with
    |nil=>intro _ i x hi;simp at hi
    |cons y ys ih=>
     intro hg i x hi
     cases i with
     |zero=>
      simp at hi
      subst hi
      cases y<;>simp_all [k7.go]
     |succ i=>
      simp at hi
      refine ih ?_ i x hi
      cases y<;>simp_all [k7.go]
   obtain⟨k1,k2,k3,k4,k5⟩:=key caps hc i x hi
   have hx:=h i (fw l x) (by rw[List.getElem?_map,hi];rfl)
   generalize vs.toList[i]?.getD undef=z at hx ⊢
   cases x with
   |pure p=>cases hx with|pure h=>exact .pure (hp h)
   |nils=>cases hx;exact .nils
   |tsl rows=>cases hx with|tsl h=>exact .tsl (hp h)
   |ptr nm off=>cases hx with|ptr hn h=>exact .ptr (k1 _ _ rfl) h
   |eptr=>exact absurd rfl (k2 _ _ _ _)
   |cptr cells=>exact hcp hx
   |ref nm=>
    have e:z=ι (rn l nm):=by cases hx;rfl
    subst e
    cases hx with
    |ref hn h=>exact .ref (ι:=fun n=>ι (rn l n)) (k3 _ rfl) h
   |mref nm=>cases hx with|mref hn h=>exact .mref (k5 _ rfl) h
   |top=>cases hx with|top h=>exact .top h
   |clo=>exact absurd rfl (k4 _ _)
theorem Lq {V V':Nat→Prop} {N N':Nat} {l:List (Nat×Nat)}: ∀{xs:List AC} {vs:List Value},aP (bZ w V ι N) (xs.map (dB l)) vs→(∀b,V b→V' b)→dU N' xs→aP (bZ w V' (fun n=>ι (rn l n)) N') xs vs
 | [],vs,h,hV,hc=>by cases h;exact .nil
 |x::xs,vs,h,hV,hc=>by
  cases h with
  |cons h1 h2=>exact .cons (h1.cl hV hc.1) (Lq h2 hV hc.2)
theorem aU.cl {V V':Nat→Prop} {N N':Nat} {x:AV} {v:Value} {l:List (Nat×Nat)} (h:aU w V ι N (eN l x) v) (hV: ∀b,V b→V' b) (hc:oJ N' x):aU w V' (fun n=>ι (rn l n)) N' x v:=by
 cases x with
 |c x=>cases h with|c h=>exact .c (h.cl hV hc)
 |agg xs=>cases h with|agg h=>exact .agg (Lq h hV hc)
 |tup xs=>
  cases xs with
  |nil=>cases h with|tup hl h=>exact .tup hl (by simp)
  |cons=>exact hc.elim
 |top=>exact .top
theorem JU {n:Nat}: ∀{l:List Nat},ju n l→ ¬n∈l
 | [],_=>by simp
 |m::r,h=>by
  intro hm
  rcases List.mem_cons.1 hm with e|e
  ·exact h.1 e
  ·exact JU h.2 e
theorem VP {l:List (Nat×Nat)} {n:Option Nat} {ps:List AC}:ft n (ps.map (dB l))=eN l (ft n ps):=by
 cases n with
 |none=>cases ps<;>rfl
 |some k=>rfl
theorem Zd {N:Nat} {n:Option Nat} {ps:List AC} (h:dU N ps):oJ N (ft n ps):=by
 cases n with
 |none=>
  cases ps with
  |nil=>exact trivial
  |cons p r=>exact h.1
 |some k=>exact h
theorem Rp {V V':Nat→Prop} {N N':Nat} {l:List (Nat×Nat)} {kt:KT} {n:Option Nat}: ∀{xs:List (MK×List AC)} {es:List MapEntry},aP (jF w V ι N kt n) (xs.map fun x=>(x.1,x.2.map (dB l))) es→(∀b,V b→V' b)→TH N' xs→
  aP (jF w V' (fun n=>ι (rn l n)) N' kt n) xs es
 | [],es,h,hV,hc=>by cases h;exact .nil
 |x::xs,es,h,hV,hc=>by
  cases h with
  |cons h1 h2=>
   refine .cons ⟨h1.1, ?_⟩ (Rp h2 hV hc.2)
   have h3:aU _ _ _ _ (ft n (List.map _ _)) _:=h1.2
   rw[VP]at h3
   exact h3.cl hV (Zd hc.1)
theorem nM {l:List (Nat×Nat)} {mem mem':List (Nat×bc)} {N:Nat}: ∀{seen:List Nat},WP l mem N seen mem'→ ∀{nm:Nat} {b:bc},am mem' nm=some b→am mem (rn l nm)=some (SP l b)∧nm<N∧clB N b∧ ¬rn l nm∈seen:=by
 induction mem' with
 |nil=>intro seen h nm b hf;cases hf
 |cons x r ih=>
  obtain⟨k,c⟩:=x
  intro seen h nm b hf
  obtain⟨h1,h2,h3,h4,h5⟩:=h
  rw[bS]at hf
  by_cases e:k=nm
  ·subst e
   rw[if_pos rfl]at hf
   cases hf
   exact⟨h1,h2,h3,JU h4⟩
  ·rw[if_neg e]at hf
   obtain⟨g1,g2,g3,g4⟩:=ih h5 hf
   exact⟨g1,g2,g3,fun hm=>g4 (List.mem_cons_of_mem _ hm)⟩
theorem YG {l:List (Nat×Nat)} {mem mem':List (Nat×bc)} {N:Nat}: ∀{seen:List Nat},WP l mem N seen mem'→ ∀{nm nm':Nat} {b b':bc},am mem' nm=some b→am mem' nm'=some b'→rn l nm=rn l nm'→nm=nm':=by
 induction mem' with
 |nil=>intro seen h nm nm' b b' hf;cases hf
 |cons x r ih=>
  obtain⟨k,c⟩:=x
  intro seen h nm nm' b b' h1 h2 he
  have h5:=h.2.2.2.2
  rw[bS]at h1 h2
  by_cases e:k=nm
  ·by_cases e':k=nm'
   ·omega
   ·rw[if_neg e']at h2
    have:=(nM h5 h2).2.2.2
    subst e
    rw[←he]at this
    exact absurd List.mem_cons_self this
  ·rw[if_neg e]at h1
   by_cases e':k=nm'
   ·have:=(nM h5 h1).2.2.2
    subst e'
    rw[he]at this
    exact absurd List.mem_cons_self this
   ·rw[if_neg e']at h2
    exact ih h5 h1 h2 he
theorem FE {l:List (Nat×Nat)} {fr fr':List (Nat×AV)} {N:Nat} (h:m6 l fr N fr') (t:Nat):(aN fr t=eN l (aN fr' t)∨aN fr' t= .top)∧oJ N (aN fr' t):=by
 induction fr' with
 |nil=>exact⟨.inr rfl,trivial⟩
 |cons x r ih=>
  obtain⟨k,v⟩:=x
  obtain⟨h1,h2,h3⟩:=h
  rw[fH]
  by_cases e:k=t
  ·subst e
   rw[if_pos rfl]
   exact⟨h1,h2⟩
  ·rw[if_neg e]
   exact ih h3
theorem NP {N:Nat}: ∀{xs:List AC},dU N xs→ ∀{j:Nat} {x:AC},xs[j]? =some x→k7 N x
 | [],_,j,x,h=>by cases h
 |y::r,hc,0,x,h=>by cases h;exact hc.1
 |y::r,hc,j+1,x,h=>NP (xs:=r) hc.2 h
theorem Nx {N:Nat}: ∀{xs:List (List AC)},Nk N xs→ ∀{j:Nat} {x:List AC},xs[j]? =some x→dU N x
 | [],_,j,x,h=>by cases h
 |y::r,hc,0,x,h=>by cases h;exact hc.1
 |y::r,hc,j+1,x,h=>Nx (xs:=r) hc.2 h
theorem U9 {V V':Nat→Prop} {N N' sz:Nat} {l:List (Nat×Nat)} {rows:List (List AC)} {cells:List Value} (h:gN w V ι N sz (rows.map fun r=>r.map (dB l)) cells) (hV: ∀b,V b→V' b) (hc:Nk N' rows):gN w V' (fun n=>ι (rn l n)) N' sz rows cells:=by
 refine⟨by have:=h.1;rwa [List.length_map]at this,fun i row hi=> ?_,fun i row j p hi hj=> ?_⟩
 ·have:=h.2.1 i _ (by rw[List.getElem?_map,hi];rfl)
  rwa [List.length_map]at this
 ·obtain⟨v,hv,hp⟩:=h.2.2 i _ j _ (by rw[List.getElem?_map,hi];rfl) (by rw[List.getElem?_map,hj];rfl)
  exact⟨v,hv,hp.cl hV (NP (Nx hc hi) hj)⟩
theorem bP.wk {l:List (Nat×Nat)} (hs:bP w0 U σ ι a w) (h:Wk l σ σ'):bP w0 U σ' (fun n=>ι (rn l n)) a w:=by
 obtain⟨hf,hm,hb1,hb2,hb3⟩:=h
 have hfree: ∀b,aI w0.heap.size U ι σ.mem b→aI w0.heap.size U (fun n=>ι (rn l n)) σ'.mem b:=fun b h=>⟨h.1,fun nm bx hn=>h.2 _ _ (nM hm hn).1⟩
 refine⟨fun t=> ?_,hs.defers,fun nm bx hn=>(nM hm hn).2.1,fun nm bx hn=> ?_,fun nm nm' b1 b2 b h1 h2 h3 h4=> ?_,hs.below,U.mono _ _ _ _ hs.keep (fun b _ h=>hfree b h) (fun _ _ _=>rfl),⟨by rw[hb1];exact hb2,fun nm hn=> ?_⟩⟩
 ·obtain⟨h1,h2⟩:=FE hf t
  have hv:=hs.val t
  rcases h1 with h1|h1
  ·rw[h1]at hv
   exact hv.cl hfree h2
  ·rw[h1];exact .top
 ·obtain⟨h1,h2,h3,_⟩:=nM hm hn
  have hb:=hs.box _ _ h1
  cases bx with
  |var xs=>
   obtain⟨b',vs,T,g1,g2,g3,g4⟩:=hb
   exact⟨b',vs,T,g1,g2,g3,Lq g4 hfree h3⟩
  |arr e sz rows=>
   obtain⟨cells,k0,k1,k2,k3⟩:=hb
   exact⟨cells,k0,k1,k2,k3.mono (fun b _ h=>hfree b h) (fun _ _ _=>rfl)⟩
  |arn e sz rows=>
   obtain⟨cells,k0,k1,k2,k3⟩:=hb
   rw[List.length_map]at k1 k2
   exact⟨cells,k0,k1,k2,U9 k3 hfree h3⟩
  |map kt n ents=>
   obtain⟨b',es,clock,g1,g2,g3,g4⟩:=hb
   exact⟨b',es,clock,g1,g2,g3,Rp g4 hfree h3⟩
 ·exact YG hm h1 h2 (hs.apart _ _ _ _ _ (nM hm h1).1 (nM hm h2).1 h3 h4)
 ·rw[hb1]at hn
  rw[Q9 hb3 hn]
  exact hs.base.2 nm hn
theorem dR {c:ak} {Q:bk→St→Prop} (t e sz:Nat) (ht:aN σ.fr t= .c .nils) (h0:0<sz)
  (h:AW P nt c {σ with fr:=(t,.c (.ref σ.nx))::σ.fr,mem:=(σ.nx,.arr e sz [])::σ.mem,nx:=σ.nx+1} Q):AW P nt c σ Q:=by
 intro c' hc w0 U rd ds ι a w hrd hs hz
 obtain⟨ι',h1,h2,h3,h4⟩:=hs.newBox (w':=w) (pv:= .slice none 0 0) (bx:= .arr e sz []) (Below.refl _ _) (fun b hb=>by simp[bF]at hb) (fun ι' e1 e2 hfree=>⟨[],h0,by rw[e2];exact World.ownsRow_nil _ _ _ _,by simp,bf.nil⟩)
 refine h c' hc w0 U rd ds ι' a w hrd ⟨fun s=> ?_,h1.defers,h1.names,h1.box,h1.apart,h1.below,h1.keep,h1.base⟩ hz
 rw[fH]
 by_cases es:t=s
 ·subst es
  rw[if_pos rfl]
  have hv:=hs.val t
  rw[ht]at hv
  rw[wK hv,←h2]
  exact .c (.ref (Nat.lt_succ_self _) ⟨_,_,_,h2⟩)
 ·rw[if_neg es]
  exact h1.val s
theorem cQ {c:ak} {Q:bk→St→Prop} (nm i e sz:Nat) (xs:List AC) (hf:am σ.mem nm=some (.var xs)) (hi:xs[i]? =some .nils) (h0:0<sz)
  (h:AW P nt c {σ with mem:=(σ.nx,.arr e sz [])::dJ σ.mem nm (.var (xs.set i (.ref σ.nx))),nx:=σ.nx+1} Q):AW P nt c σ Q:=by
 intro c' hc w0 U rd ds ι a w hrd hs hz
 obtain⟨ι',h1,h2,h3,h4⟩:=hs.newBox (w':=w) (pv:= .slice none 0 0) (bx:= .arr e sz []) (Below.refl _ _) (fun b hb=>by simp[bF]at hb) (fun ι' e1 e2 hfree=>⟨[],h0,by rw[e2];exact World.ownsRow_nil _ _ _ _,by simp,bf.nil⟩)
 have hnm:=hs.names _ _ hf
 have hf1:am ((σ.nx,bc.arr e sz [])::σ.mem) nm=some (.var xs):=by rw[bS,if_neg (by omega)];exact hf
 obtain⟨b,vs,T,g1,g2,g3,g4⟩:=h1.box _ _ hf1
 have hset:=h1.setBox (cs:=vs) hf1 (b:=b) (by rw[g1];rfl) (bx:= .var (xs.set i (.ref σ.nx))) ⟨b,vs,T,g1,g2,setRow_heap _ _ _ _ _ _ g3,by
  rw[setRow_self w b vs T _ g3]
  refine aP.of_get (by rw[List.length_set];exact g4.length) fun j x v hj hv=> ?_
  rw[List.getElem?_set]at hj
  by_cases e1:i=j
  ·subst e1
   have hlt:=(List.getElem?_eq_some_iff.1 hi).1
   rw[if_pos rfl,if_pos hlt]at hj
   cases hj
   obtain⟨v',hv',hr⟩:=g4.get hi
   rw[hv']at hv
   cases hv
   have:v= .slice none 0 0:=by cases hr;rfl
   rw[this,←h2]
   exact .ref (Nat.lt_succ_self _) ⟨_,_,_,h2⟩
  ·rw[if_neg e1]at hj
   obtain⟨v',hv',hr⟩:=g4.get hj
   rw[hv']at hv
   cases hv
   exact hr⟩
 rw[setRow_self w b vs T _ g3]at hset
 have e5:dJ ((σ.nx,bc.arr e sz [])::σ.mem) nm (.var (xs.set i (.ref σ.nx)))=(σ.nx,.arr e sz [])::dJ σ.mem nm (.var (xs.set i (.ref σ.nx))):=by
  simp only[dJ]
  rw[if_neg (by omega)]
 simp only[e5]at hset
 exact h c' hc w0 U rd ds ι' a w hrd hset hz
def ZG {τ:Type} (mk:τ→St) (I:τ→Prop) (μ:τ→Nat) (t:τ) (Q:bk→St→Prop):bk→St→Prop
 | .normal,σ=> ∃t' l,I t'∧μ t'<μ t∧Wk l σ (mk t')
 | .exit i,σ=>Q (.exit i) σ
 | .ret,σ=>Q .ret σ
theorem an {τ:Type} {x:ak} {Q:bk→St→Prop} (mk:τ→St) (I:τ→Prop) (μ:τ→Nat) (h0: ∃t l,I t∧Wk l σ (mk t)) (h: ∀t,I t→AW P nt x (mk t) (ZG mk I μ t Q)):AW P nt (.loop x) σ Q:=by
 intro c' hc w0 U rd ds ι a w hrd hs hz
 cases c'<;>simp[ed]at hc
 all_goals(try(split at hc<;>simp at hc))
 rename_i c1
 obtain⟨t,l,ht,hw⟩:=h0
 refine wpIn_loop_rounds (μ t+1) ?_
 have key: ∀n t U1 ds1 ι a w,MC w0.heap.size rd U ds U1 ds1→μ t<n→I t→bP w0 U1 (mk t) ι a w→a.tmps.size=nt→Code.roundsIn (FR rd) 0 P c1 (zh w0 U rd ds nt Q) n (sh ds1 a) w:=by
  intro n
  induction n with
  |zero=>intro t U1 ds1 ι a w hx hm;omega
  |succ n ih=>
   intro t U1 ds1 ι a w hx hm ht hs hz
   rw[roundsIn_succ]
   refine wpIn_mono (h t ht _ hc w0 U1 rd ds1 ι a w (hrd.ext hx) hs hz) ?_
   rintro e a1 w1 ⟨e',σ',ι',U',ds',a0,rfl,hq,hs',hz',rfl,hx'⟩
   cases e' with
   |normal=>
    obtain⟨t',l',ht',hlt,hwk⟩:=hq
    exact ih t' _ _ _ a0 w1 (hx.trans hx') (by omega) ht' (hs'.wk hwk) hz'
   |exit i=>exact⟨.exit i,σ',ι',U',ds',a0,rfl,hq,hs',hz',rfl,hx.trans hx'⟩
   |ret=>exact⟨.ret,σ',ι',U',ds',a0,rfl,hq,hs',hz',rfl,hx.trans hx'⟩
 exact key _ t _ _ _ a w .refl (Nat.lt_succ_self _) ht (hs.wk hw) hz
end
open Go.RowKit
section
variable {P : Program} {a : Act} {w w' w0 : World} {U U2 : Gh} {ι : Pl} {σ : St}
def IZ:Obj→Bool
 | .loop _=>true
 | .deferred _=>true
 |_=>false
theorem Ri {b off:Nat} {v:Value} (h:w.cell? ⟨b,off,none⟩=some v): ¬ ∃o,w.heap[b]? =some o∧IZ o=true:=by
 rintro⟨o,h1,h2⟩
 obtain⟨o',h3,h4⟩:=cells_of_cell h
 rw[h1]at h3
 cases h3
 cases o<;>simp_all [IZ,Obj.isCells]
structure ji (n:Nat) (w w':World):Prop where
 os:w'.os=w.os
 tape:w'.tape=w.tape
 output:w'.output=w.output
 size:w.heap.size≤w'.heap.size
 block: ∀b,b<w.heap.size→w'.heap[b]? =w.heap[b]? ∨(n≤b∧ ∃o,w.heap[b]? =some o∧IZ o=true)
theorem ji.of_below {n:Nat} {A B:World} (h:Below A.heap.size A B):ji n A B:=⟨h.os,h.tape,h.output,h.size,fun b hb=> .inl (h.block b hb)⟩
theorem ji.putObj {n D:Nat} {o:Obj} (o':Obj) (hD:n≤D) (ho:w.heap[D]? =some o) (hl:IZ o=true):ji n w (w.putObj D o'):=by
 refine⟨rfl,rfl,rfl,by simp,fun b hb=> ?_⟩
 by_cases e:b=D
 ·subst e
  exact .inr ⟨hD,o,ho,hl⟩
 ·exact .inl (World.putObj_heap_other e)
theorem ji.old {n:Nat} {A B:World} (h:ji n A B) {b:Nat} (hb:b<n) (hlt:b<A.heap.size):B.heap[b]? =A.heap[b]? :=by
 rcases h.block b hlt with e|⟨e,_⟩
 ·exact e
 ·omega
section
variable {V S : Nat → Prop} {N : Nat} (hS : ∀ b, S b → ∃ o, w.heap[b]? = some o ∧ IZ o = true)
include hS
theorem cp.ne {p:PC} {v:Value} (h:cp w V p v):cp w (fun b=>V b∧ ¬S b) p v:=by
 induction h with
 |val h=>exact .val h
 |slice g hn hcc hm hr hcell hp ih=>
  refine .slice g hn hcc hm hr (fun i row j p h1 h2=> ?_) ih
  obtain⟨b,off,ha,hb,hcl⟩:=hcell i row j p h1 h2
  exact⟨b,off,ha,⟨hb,fun h=>Ri hcl (hS _ h)⟩,hcl⟩
 |fmap hb hm hl hk hp ih=>
  refine .fmap ⟨hb,fun h=> ?_⟩ hm hl hk ih
  obtain⟨o,h1,h2⟩:=hS _ h
  rw[hm]at h1
  cases h1
  cases h2
theorem bZ.ne {x:AC} {v:Value} (h:bZ w V ι N x v):bZ w (fun b=>V b∧ ¬S b) ι N x v:=by
 induction h with
 |pure h=>exact .pure (h.ne hS)
 |nils=>exact .nils
 |tsl h=>exact .tsl (h.ne hS)
 |ptr hn h=>exact .ptr hn h
 |eptr hn h=>exact .eptr hn h
 |cptr g hcell=>
  refine .cptr g fun j p hj=> ?_
  obtain⟨h1,h2,h3⟩:=hcell j p hj
  exact⟨⟨h1,fun h=>Ri h2 (hS _ h)⟩,h2,h3.ne hS⟩
 |ref hn h=>exact .ref hn h
 |clo hl h ih=>exact .clo hl fun i x hx=>ih i x hx
 |mref hn h=>exact .mref hn h
 |top h=>exact .top h
theorem aU.ne {x:AV} {v:Value} (h:aU w V ι N x v):aU w (fun b=>V b∧ ¬S b) ι N x v:=by
 induction h with
 |c h=>exact .c (h.ne hS)
 |agg h=>exact .agg (h.mono fun _ _ h=>h.ne hS)
 |tup hl h ih=>exact .tup hl fun i x hx=>ih i x hx
 |top=>exact .top
end
theorem bP.not_lp (hs:bP w0 U σ ι a w) {nm b:Nat} {bx:bc} (hn:am σ.mem nm=some bx) (hb:bF (ι nm)=some b): ¬ ∃o,w.heap[b]? =some o∧IZ o=true:=by
 rintro⟨o,h1,h2⟩
 have h:=hs.box nm bx hn
 cases bx with
 |var xs=>
  obtain⟨b',vs,T,g1,g2,g3,g4⟩:=h
  rw[g1]at hb
  cases hb
  rw[g3]at h1
  cases h1
  cases h2
 |arr e sz rows=>
  obtain⟨cells,k0,k1,k2⟩:=h
  rcases k1.2 with⟨h,_⟩|⟨g,cap,cur,h,_,hg,_⟩
  ·rw[h]at hb;cases hb
  ·rw[h]at hb
   cases hb
   rw[hg]at h1
   cases h1
   cases h2
 |arn e sz rows=>
  obtain⟨cells,k0,k1,k2⟩:=h
  rcases k1.2 with⟨h,_⟩|⟨g,cap,cur,h,_,hg,_⟩
  ·rw[h]at hb;cases hb
  ·rw[h]at hb
   cases hb
   rw[hg]at h1
   cases h1
   cases h2
 |map kt n ents=>
  obtain⟨b',es,clock,g1,g2,g3,g4⟩:=h
  rw[g1]at hb
  cases hb
  rw[g3]at h1
  cases h1
  cases h2
theorem bP.growL (hs:bP w0 U σ ι a w) {n:Nat} (hn0:w0.heap.size≤n) (hg:ji n w w') (hp:U2.p=U.p) (hi:U2.ι0=U.ι0)
  (hG:U2.G w' (aI w0.heap.size U2 ι σ.mem)):bP w0 U2 σ ι a w':=by
 have hfree:aI w0.heap.size U2 ι σ.mem=aI w0.heap.size U ι σ.mem:=by
  funext b
  unfold aI
  rw[hp]
 have hS: ∀b,(b<w.heap.size∧w'.heap[b]? ≠w.heap[b]?)→ ∃o,w.heap[b]? =some o∧IZ o=true:=by
  rintro b ⟨h1,h2⟩
  rcases hg.block b h1 with e|⟨_,e⟩
  ·exact absurd e h2
  ·exact e
 have hV: ∀b,b<w.heap.size→(aI w0.heap.size U ι σ.mem b∧ ¬(b<w.heap.size∧w'.heap[b]? ≠w.heap[b]?))→aI w0.heap.size U2 ι σ.mem b:=fun b _ h=>by rw[hfree];exact h.1
 have hw: ∀b,b<w.heap.size→(aI w0.heap.size U ι σ.mem b∧ ¬(b<w.heap.size∧w'.heap[b]? ≠w.heap[b]?))→w'.heap[b]? =w.heap[b]? :=fun b hb h=>Classical.byContradiction fun e=>h.2 ⟨hb,e⟩
 refine⟨fun t=>((hs.val t).ne hS).mono hV hw (fun _ _=>rfl) (Nat.le_refl _),hs.defers,hs.names,fun nm bx hn=> ?_,hs.apart,hs.below.trans ⟨hg.os,hg.tape,hg.output,hg.size,fun k hk=>hg.old (by omega) (Nat.lt_of_lt_of_le hk hs.below.size)⟩,hG,by rw[hi];exact hs.base⟩
 have hb:=hs.box nm bx hn
 have hsame: ∀b,bF (ι nm)=some b→b<w.heap.size→w'.heap[b]? =w.heap[b]? :=fun b e hlt=>by
  rcases hg.block b hlt with e2|⟨_,e2⟩
  ·exact e2
  ·exact absurd e2 (hs.not_lp hn e)
 cases bx with
 |var xs=>
  obtain⟨b,vs,T,h1,h2,h3,h4⟩:=hb
  exact⟨b,vs,T,h1,h2,by rw[hsame b (by rw[h1];rfl) (Array.getElem?_eq_some_iff.1 h3).1];exact h3,h4.mono fun _ _ h=>(h.ne hS).mono hV hw (fun _ _=>rfl) (Nat.le_refl _)⟩
 |arr e sz rows=>
  obtain⟨cells,h0,h1,h2,h3,h4,h5⟩:=hb
  refine⟨cells,h0, ?_,h2,h3,h4,fun i row j p hi hj=> ?_⟩
  ·obtain⟨q1,q2⟩:=h1
   refine⟨q1, ?_⟩
   rcases q2 with q2|⟨g,cap,cur,e0,hbase,hgb,hrest⟩
   ·exact .inl q2
   ·exact .inr ⟨g,cap,cur,e0,hbase,(hsame g (by rw[e0];rfl) (Array.getElem?_eq_some_iff.1 hgb).1).trans hgb,hrest⟩
  ·obtain⟨v,hv,hpp⟩:=h5 i row j p hi hj
   exact⟨v,hv,(hpp.ne hS).mono hV hw⟩
 |arn e sz rows=>
  obtain⟨cells,h0,h1,h2,h3,h4,h5⟩:=hb
  refine⟨cells,h0, ?_,h2,h3,h4,fun i row j p hi hj=> ?_⟩
  ·obtain⟨q1,q2⟩:=h1
   refine⟨q1, ?_⟩
   rcases q2 with q2|⟨g,cap,cur,e0,hbase,hgb,hrest⟩
   ·exact .inl q2
   ·exact .inr ⟨g,cap,cur,e0,hbase,(hsame g (by rw[e0];rfl) (Array.getElem?_eq_some_iff.1 hgb).1).trans hgb,hrest⟩
  ·obtain⟨v,hv,hpp⟩:=h5 i row j p hi hj
   exact⟨v,hv,(hpp.ne hS).mono hV hw (fun _ _=>rfl) (Nat.le_refl _)⟩
 |map kt n ents=>
  obtain⟨b,es,clock,h1,h2,h3,h4⟩:=hb
  exact⟨b,es,clock,h1,h2,by rw[hsame b (by rw[h1];rfl) (Array.getElem?_eq_some_iff.1 h3).1];exact h3,h4.mono fun _ _ h=>⟨h.1,(h.2.ne hS).mono hV hw (fun _ _=>rfl) (Nat.le_refl _)⟩⟩
theorem bP.turn (hs:bP w0 U σ ι a w) {D:Nat} {o:Obj} (o':Obj) (ho:w.heap[D]? =some o) (hl:IZ o=true) (hD:w0.heap.size≤D) (hp:U2.p=U.p) (hi:U2.ι0=U.ι0)
  (hG:U2.G (w.putObj D o') (aI w0.heap.size U2 ι σ.mem)):bP w0 U2 σ ι a (w.putObj D o'):=
 hs.growL hD (.putObj o' (Nat.le_refl _) ho hl) hp hi hG
theorem T7 {fn:Func} {tmps:Array Value} {R:Ending→World→Prop} {U':Gh} {ds':List Deferred} (hx:MC w0.heap.size none U [] U' ds'): ∀{w:World},bP w0 U' σ ι a w→
  (∀w',bP w0 U σ ι a w'→ ∃v,(results fn tmps).run P w'= .ok v w'∧R (.returned v) w')→LeavesInM Fence.wide 0 P fn tmps R ds' .returning w:=by
 induction hx with
 |refl=>exact fun hs h=>h _ hs
 | @mark U1 U2 ds1 D h hr hD hp hi hG ih=>
  intro w hs hfin
  obtain⟨_,g2,g3,g4⟩:=hG _ _ hs.keep
  refine⟨by simp,.inl ⟨D,_,rfl,run_takeDeferred g3,ih (hs.turn (.deferred none) g3 rfl hD hp.symm hi.symm ?_) hfin⟩⟩
  have e:aI w0.heap.size U1 ι σ.mem=aI w0.heap.size U2 ι σ.mem:=by
   funext b
   unfold aI
   rw[hp]
  rw[e]
  exact g4
theorem wI {f:FuncId} {fn:Func} {c:Code} {vs:Array Value} {nt:Nat} {Q:bk→St→Prop} {R:Ending→World→Prop} (h1:P.funcs[f]? =some fn) (h2:fn.body=some c)
  (hw:c.wpIn (FR none) 0 P (zh w0 U none [] nt Q) (sh [] {tmps:=vs++Array.replicate (fn.ntmps-vs.size) undef,defers:= []}) w)
  (hx: ∀i σ',¬Q (.exit i) σ') (hfin: ∀{e:bk} {a':Act} {w':World} {σ':St} {ι':Pl},Q e σ'→bP w0 U σ' ι' a' w'→ ∃v,(results fn a'.tmps).run P w'= .ok v w'∧R (.returned v) w'):Calls P f vs w R:=by
 refine(callsIn_wide (n:=0)).1 (callsIn_of_wp_marks h1 h2 trivial (wpIn_mono hw ?_))
 rintro e a' w' ⟨e',σ',ι',U',ds',a0,rfl,hq,hs',hz,rfl,hx'⟩
 have hd:(sh ds' a0).defers=ds':=by
  show a0.defers++ds'=ds'
  rw[hs'.defers.1]
  rfl
 have key:LeavesInM Fence.wide 0 P fn (sh ds' a0).tmps R (sh ds' a0).defers .returning w':=by
  rw[hd]
  exact T7 hx' hs' fun w2 hs2=>hfin (a':=a0) hq hs2
 cases e' with
 |normal=>exact key
 |exit i=>exact absurd hq (hx _ _)
 |ret=>exact key
end
inductive AR where
 |t (n:Nat)
 |cell (n:Option Nat) (a:Nat)
def Zm (P:Program):ResultVar→Option AR
 | .tmp t=>some (.t t)
 | .cell a t=>(mJ P t).map fun n=> .cell n a
def Gg (P:Program):List ResultVar→Option (List AR)
 | []=>some []
 |r::rs=>match Zm P r,Gg P rs with
  |some x,some xs=>some (x::xs)
  |_,_=>none
def GE (n:Option Nat) (xs:List AC) (K:AV→Prop):Prop:=
 match n with
 |none=>match xs with
  |x::_=>K (.c x)
  | []=>False
 |some n=>c7 (n≤xs.length) (K:=⟨K (.agg (xs.take n))⟩)
def zr (σ:St):AR→(AV→Prop)→Prop
 | .t n,K=>K (aN σ.fr n)
 |.cell n a,K=>match aN σ.fr a with
  |.c q=>match bR σ.mem q with
   |some xs=>GE n xs K
   |none=>False
  |_=>False
def kA (σ:St):List AR→List AV→(List AV→Prop)→Prop
 | [],acc,K=>K acc
 |r::rs,acc,K=>zr σ r fun v=>kA σ rs (acc++ [v]) K
def eF:List AV→AV
 | [v]=>v
 |vs=> .tup vs
def O1 (mem:List (Nat×bc)):AV→Option AV
 |.tup xs=>match bG mem xs with
  |some ys=>some (.tup ys)
  |none=>none
 |x=>dQ mem x
def abF (rs:List AR) (res:AV):bk→St→Prop
 | .exit _,_=>False
 | .ret,σ=>kA σ rs [] fun vs=>O1 σ.mem (eF vs)=some res
 | .normal,σ=>kA σ rs [] fun vs=>O1 σ.mem (eF vs)=some res
def bo:List AV→Nat→List (Nat×AV)
 | [],_=> []
 |v::r,k=>(k,v)::bo r (k+1)
def tp:List AV→Prop
 | []=>True
 |v::r=>i5 v∧tp r
structure aA (P:Program) (f:FuncId) (nt:Nat) (body:ak) (rs:List AR):Prop where
 is : ∃ fn c, P.funcs[f]? = some fn ∧ fn.body = some c ∧ (fn.name == "runtime.NumGoroutine") = false ∧ fn.ntmps = nt ∧ ed P nt c = some body ∧ Gg P fn.results.toList = some rs
section
variable {P : Program} {a : Act} {w w' w0 : World} {U : Gh} {ι : Pl} {σ σ' : St} {nt : Nat}
theorem P8 {t:TypeId} {n:Option Nat} {q:AC} {u:Value} {xs:List AC} {K:AV→Prop} (hs:bP w0 U σ ι a w) (ht:mJ P t=some n) (hr:bZ w (aI w0.heap.size U ι σ.mem) ι σ.nx q u) (hx:bR σ.mem q=some xs) (h:GE n xs K):
  ∃ad v u',u= .pointer (some ad)∧(loadVar t ad).run P w= .ok u' w∧aU w (aI w0.heap.size U ι σ.mem) ι σ.nx v u'∧K v:=by
 obtain⟨b,off,e1,hc⟩:=H6 hs hr hx
 cases n with
 |none=>
  simp only[GE]at h
  split at h
  ·rename_i z zs
   obtain⟨v,hv,hr⟩:=hc 0 z rfl
   exact⟨_,_,v,e1,KZ (P:=P) ht (by simpa using hv),.c hr,h⟩
  ·exact h.elim
 |some n=>
  obtain⟨hle,h⟩:=h
  have hg: ∃ys:List Value,ys.length=n∧ ∀(j:Nat) x v,(xs.take n)[j]? =some x→ys[j]? =some v→w.cell? ⟨b,off+j,none⟩=some v∧bZ w (aI w0.heap.size U ι σ.mem) ι σ.nx x v:=by
   refine⟨(List.range n).map fun j=>(w.cell? ⟨b,off+j,none⟩).getD undef,by simp,fun j x v hj hv=> ?_⟩
   have hjn:j<n:=by have:=(List.getElem?_eq_some_iff.1 hj).1;simp at this;omega
   rw[List.getElem?_take_of_lt hjn]at hj
   obtain⟨u,hu,hr⟩:=hc j x hj
   simp[List.getElem?_map,List.getElem?_range hjn,hu]at hv
   subst hv
   exact⟨hu,hr⟩
  obtain⟨ys,hl,hy⟩:=hg
  have hlt:(xs.take n).length=n:=by simp;omega
  refine⟨_,_,.agg ys.toArray,e1,Kr (P:=P) (w:=w) (ad:=⟨b,off,none⟩) ht (vs:=ys) hl fun j v hv=> ?_,.agg (aP.of_get (by rw[hlt];simp[hl]) fun j x v hj hv=>(hy j x v hj (by simpa using hv)).2),h⟩
  have hjn:j<(xs.take n).length:=by rw[hlt,←hl];exact(List.getElem?_eq_some_iff.1 hv).1
  rw[im]
  exact(hy j _ v (List.getElem?_eq_getElem hjn) hv).1
def Lv (tmps:Array Value):ResultVar→Sem Value
 | .tmp t=>pure (tmps.getD t undef)
 | .cell a t=>do loadVar t (←asAddr (tmps.getD a undef))
theorem nj (hs:bP w0 U σ ι a w): ∀{rvs:List ResultVar} {rs:List AR} {acc:List AV} {us:List Value} {K:List AV→Prop},Gg P rvs=some rs→kA σ rs acc K→aP (aU w (aI w0.heap.size U ι σ.mem) ι σ.nx) acc us→
  ∃vs us',aP (aU w (aI w0.heap.size U ι σ.mem) ι σ.nx) vs (us++us')∧(rvs.mapM (Lv a.tmps)).run P w= .ok us' w∧K vs
 |[],rs,acc,us,K,hc,h,hacc=>by
  cases hc
  exact⟨acc, [],by simpa using hacc,rfl,h⟩
 |r::rvs,rs,acc,us,K,hc,h,hacc=>by
  unfold Gg at hc
  split at hc
  ·rename_i x xs h1 h2
   cases hc
   have one: ∃v u,aU w (aI w0.heap.size U ι σ.mem) ι σ.nx v u∧(Lv a.tmps r).run P w= .ok u w∧kA σ xs (acc++ [v]) K:=by
    simp only[kA]at h
    cases r with
    |tmp t=>
     cases h1
     exact⟨_,_,hs.val t,rfl,h⟩
    |cell ad t=>
     simp only[Zm,Option.map_eq_some_iff]at h1
     obtain⟨n,hn,rfl⟩:=h1
     simp only[zr]at h
     split at h
     ·rename_i q e
      have hq:=hs.val ad
      rw[e]at hq
      split at h
      ·rename_i xs' hx
       have hq':bZ w (aI w0.heap.size U ι σ.mem) ι σ.nx q (a.tmps.getD ad undef):=by
        generalize a.tmps.getD ad undef=z at hq
        cases hq with|c hq=>exact hq
       obtain⟨adr,v,u',e1,e2,e3,e4⟩:=P8 (P:=P) hs hn hq' hx h
       exact⟨v,u',e3,by simp only[Lv,Sem.run_bind,e1,asAddr,Sem.run_pure,Result.andThen_ok,e2],e4⟩
      ·exact h.elim
     ·exact h.elim
   obtain⟨v,u,hr,hrun,hk⟩:=one
   obtain⟨vs,us',g1,g2,g3⟩:=nj hs (us:=us++ [u]) h2 hk (hacc.append (.cons hr .nil))
   exact⟨vs,u::us',by simpa using g1,by simp[List.mapM_cons,hrun,g2],g3⟩
  ·cases hc
theorem nv (fn:Func) (tmps:Array Value):results fn tmps=(do let vs←fn.results.mapM (Lv tmps);pure (if h:vs.size=1 then vs[0]else .tuple vs)):=by
 unfold results
 congr 1
theorem Nd {V:Nat→Prop} {x y:AV} {v:Value} (hs:bP w0 U σ ι a w) (h:aU w (aI w0.heap.size U ι σ.mem) ι σ.nx x v) (hp:O1 σ.mem x=some y) (hV: ∀b,aI w0.heap.size U ι σ.mem b→V b) (hN: ∀b,w0.heap.size≤b→V b):aU w V (fun _=>undef) 0 y v:=by
 cases h with
 |c h=>exact Bg hs (.c h) hp hV (.inr hN)
 |agg h=>exact Bg hs (.agg h) hp hV (.inr hN)
 | @tup xs vs hl h=>
  simp only[O1]at hp
  split at hp
  ·cases hp
   have hall:aP (aU w (aI w0.heap.size U ι σ.mem) ι σ.nx) xs vs.toList:=aP.of_get (by simpa using hl) fun i x v hi hv=>by
    have:=h i x hi
    rw[hv]at this
    exact this
   have hr:=nl hs hall hV (.inr hN) ‹_›
   refine .tup (by simpa using hr.length) fun i x hi=> ?_
   obtain⟨v,hv,hx⟩:=hr.get hi
   rw[hv]
   exact hx
  ·cases hp
 |top=>cases hp
theorem kz {vs:List Value} {V:Nat→Prop} {N:Nat}: ∀{args:List AV} {us:List Value} {k:Nat},aP (aU w V ι N) args us→ ∀t,aU w V ι N (aN (bo args k) t) ((us[t-k]?).getD undef)∨aN (bo args k) t= .top
 | [],us,k,h,t=> .inr rfl
 |v::args,us,k,h,t=>by
  cases h with
  | @cons _ u _ us h1 h2=>
   show aU _ _ _ _ (if k=t then v else aN (bo args (k+1)) t) _∨(if k=t then v else aN (bo args (k+1)) t)= .top
   by_cases e:k=t
   ·subst e
    rw[if_pos rfl]
    left
    simpa using h1
   ·rw[if_neg e]
    rcases kz (vs:=vs) (k:=k+1) h2 t with h|h
    ·by_cases hlt:k<t
     ·left
      have:t-k=(t-(k+1))+1:=by omega
      rw[this]
      simpa using h
     ·right
      clear h h1 h2
      have key: ∀(l:List AV) (j:Nat),t<j→aN (bo l j) t= .top:=by
       intro l
       induction l with
       |nil=>intro j _;rfl
       |cons x l ih=>
        intro j hj
        show(if j=t then x else aN (bo l (j+1)) t)=_
        rw[if_neg (by omega)]
        exact ih _ (by omega)
      exact key args (k+1) (by omega)
    ·exact .inr h
theorem vt {V:Nat→Prop} {N:Nat} {args:List AV} {us:List Value} (h:aP (aU w V ι N) args us):tp args:=by
 induction h with
 |nil=>trivial
 |cons h _ ih=>exact⟨NQ h,ih⟩
theorem wa {V:Nat→Prop} {N:Nat} {vs:List AV} {us:List Value} (h:aP (aU w V ι N) vs us):aU w V ι N (eF vs) (if h:us.toArray.size=1 then us.toArray[0]else .tuple us.toArray):=by
 have tupled: ∀{vs:List AV} {us:List Value},aP (aU w V ι N) vs us→aU w V ι N (.tup vs) (.tuple us.toArray):=fun h=>
  .tup (by simpa using h.length) fun i x hi=>by
   obtain⟨v,hv,hx⟩:=h.get hi
   simp only[List.toList_toArray]
   rw[hv]
   exact hx
 cases h with
 |nil=>rw[dif_neg (by simp)];exact tupled .nil
 |cons h1 t=>
  cases t with
  |nil=>rw[dif_pos (by simp)];exact h1
  |cons h2 t=>
   rw[dif_neg (by simp)]
   exact tupled (.cons h1 (.cons h2 t))
theorem ac.of {f:FuncId} {nt:Nat} {body:ak} {rs:List AR} {args:List AV} {res:AV} (hf:aA P f nt body rs) (hlen:args.length≤nt) (h:tp args→AW P nt body ⟨bo args 0, [],0,0⟩ (abF rs res)):ac P f args res:=by
 obtain⟨fn,c,h1,h2,h3,rfl,h5,h6⟩:=hf.is
 refine⟨⟨fn,h1,by rw[h2];rfl,h3⟩,fun w U vs hG hargs=> ?_⟩
 have hsz:vs.size=args.length:=by rw[←Array.length_toList];exact hargs.length.symm
 have hs:bP w (Gh.of U) ⟨bo args 0, [],0,0⟩ (fun _=>undef) {tmps:=vs++Array.replicate (fn.ntmps-vs.size) undef,defers:= []} w:=by
  refine⟨fun t=> ?_,⟨rfl,hG⟩,(fun nm bx hn=>by cases hn),(fun nm bx hn=>by cases hn),(fun nm nm' b1 b2 b hn=>by cases hn),Below.refl _ _,trivial,⟨Nat.le_refl _,fun _ h=>absurd h (Nat.not_lt_zero _)⟩⟩
  have hmono: ∀{x:AV} {v:Value},aU w U (fun _=>undef) 0 x v→aU w (aI w.heap.size (Gh.of U) (fun _=>undef) []) (fun _=>undef) 0 x v:=fun h=>
   h.mono (fun b _ h=>⟨.inl h,fun nm bx hn=>by cases hn⟩) (fun _ _ _=>rfl) (fun _ _=>rfl) (Nat.le_refl _)
  rcases kz (vs:=vs.toList) (k:=0) hargs t with h|h
  ·by_cases hlt:t<vs.size
   ·have e:(vs++Array.replicate (fn.ntmps-vs.size) undef).getD t undef=(vs.toList[t-0]?).getD undef:=by
     simp[Array.getD_eq_getD_getElem?,Array.getElem?_append,hlt]
    rw[e]
    exact hmono h
   ·have:aN (bo args 0) t= .top:=by
     have key: ∀(l:List AV) (j:Nat),j+l.length≤t→aN (bo l j) t= .top:=by
      intro l
      induction l with
      |nil=>intro j _;rfl
      |cons x l ih=>
       intro j hj
       simp only[List.length_cons]at hj
       show(if j=t then x else aN (bo l (j+1)) t)=_
       rw[if_neg (by omega)]
       exact ih _ (by omega)
     exact key args 0 (by omega)
    show aU _ _ _ _ (aN (bo args 0) t) _
    rw[this]
    exact .top
  ·show aU _ _ _ _ (aN (bo args 0) t) _
   rw[h]
   exact .top
 have hsize:(vs++Array.replicate (fn.ntmps-vs.size) undef).size=fn.ntmps:=by simp;omega
 have fin: ∀{a':Act} {w':World} {σ':St} {ι':Pl},kA σ' rs [] (fun vs=>O1 σ'.mem (eF vs)=some res)→bP w (Gh.of U) σ' ι' a' w'→ ∃v,(results fn a'.tmps).run P w'= .ok v w'∧ ∃v',Ending.returned v= .returned v'∧aU w' (fun b=>U b∨w.heap.size≤b) (fun _=>undef) 0 res v'∧Below w.heap.size w w':=by
  intro a' w' σ' ι' hres hs'
  obtain⟨vs',us',g1,g2,g3⟩:=nj hs' (us:= []) h6 hres .nil
  refine⟨_, ?_,_,rfl,Nd hs' (wa (by simpa using g1)) g3 (fun b h=>h.1) (fun b h=> .inr h),hs'.below⟩
  rw[nv,Array.mapM_eq_mapM_toList]
  simp[g2]
 refine wI h1 h2 (h (vt hargs) c h5 w (Gh.of U) none [] _ _ w (fun _ e=>by cases e) hs hsize) (fun i σ' h=>h) ?_
 intro e a' w' σ' ι' hq hs'
 cases e with
 |normal=>exact fin hq hs'
 |exit i=>exact hq.elim
 |ret=>exact fin hq hs'
def Bq (rs:List AR) (res:AV) (mem:List (Nat×bc)) (nx base:Nat):bk→St→Prop
 | .exit _,_=>False
 | .ret,σ=>kA σ rs [] fun vs=>eF vs=res∧σ.mem=mem∧σ.nx=nx∧σ.base=base
 | .normal,σ=>kA σ rs [] fun vs=>eF vs=res∧σ.mem=mem∧σ.nx=nx∧σ.base=base
theorem au.of {f:FuncId} {nt:Nat} {body:ak} {rs:List AR} {args:List AV} {mem mem':List (Nat×bc)} {nx nx':Nat} {res:AV} (hf:aA P f nt body rs) (hlen:args.length≤nt) (h:tp args→AW P nt body ⟨bo args 0,mem,nx,nx⟩ (Bq rs res mem' nx' nx)):au P f args mem nx res mem' nx':=by
 obtain⟨fn,c,h1,h2,h3,rfl,h5,h6⟩:=hf.is
 refine⟨⟨fn,h1,by rw[h2];rfl,h3⟩,fun w0 U ι w vs hs0 hargs=> ?_⟩
 have hsz:vs.size=args.length:=by rw[←Array.length_toList];exact hargs.length.symm
 have hs:bP w0 U ⟨bo args 0,mem,nx,nx⟩ ι {tmps:=vs++Array.replicate (fn.ntmps-vs.size) undef,defers:= []} w:=by
  refine⟨fun t=> ?_,⟨rfl,hs0.defers.2⟩,hs0.names,hs0.box,hs0.apart,hs0.below,hs0.keep,hs0.base⟩
  rcases kz (vs:=vs.toList) (k:=0) hargs t with h|h
  ·by_cases hlt:t<vs.size
   ·have e:(vs++Array.replicate (fn.ntmps-vs.size) undef).getD t undef=(vs.toList[t-0]?).getD undef:=by
     simp[Array.getD_eq_getD_getElem?,Array.getElem?_append,hlt]
    rw[e]
    exact h
   ·have:aN (bo args 0) t= .top:=by
     have key: ∀(l:List AV) (j:Nat),j+l.length≤t→aN (bo l j) t= .top:=by
      intro l
      induction l with
      |nil=>intro j _;rfl
      |cons x l ih=>
       intro j hj
       simp only[List.length_cons]at hj
       show(if j=t then x else aN (bo l (j+1)) t)=_
       rw[if_neg (by omega)]
       exact ih _ (by omega)
     exact key args 0 (by omega)
    show aU _ _ _ _ (aN (bo args 0) t) _
    rw[this]
    exact .top
  ·show aU _ _ _ _ (aN (bo args 0) t) _
   rw[h]
   exact .top
 have hsize:(vs++Array.replicate (fn.ntmps-vs.size) undef).size=fn.ntmps:=by simp;omega
 have fin: ∀{a':Act} {w':World} {σ':St} {ι':Pl},(kA σ' rs [] fun vs=>eF vs=res∧σ'.mem=mem'∧σ'.nx=nx'∧σ'.base=nx)→bP w0 U σ' ι' a' w'→ ∃v,(results fn a'.tmps).run P w'= .ok v w'∧
   ∃v' ι',Ending.returned v= .returned v'∧bP w0 U ⟨[],mem',nx',nx⟩ ι' {tmps:= #[],defers:= []} w'∧aU w' (aI w0.heap.size U ι' mem') ι' nx' res v':=by
  intro a' w' σ' ι' hres hs'
  obtain⟨vs',us',g1,g2,rfl,rfl,rfl,rfl⟩:=nj hs' (us:= []) h6 hres .nil
  refine⟨_, ?_,_,ι',rfl,⟨fun t=> .top,⟨rfl,hs'.defers.2⟩,hs'.names,hs'.box,hs'.apart,hs'.below,hs'.keep,hs'.base⟩,wa (by simpa using g1)⟩
  rw[nv,Array.mapM_eq_mapM_toList]
  simp[g2]
 refine wI h1 h2 (h (vt hargs) c h5 w0 U none [] _ _ w (fun _ e=>by cases e) hs hsize) (fun i σ' h=>h) ?_
 intro e a' w' σ' ι' hq hs'
 cases e with
 |normal=>exact fin hq hs'
 |exit i=>exact hq.elim
 |ret=>exact fin hq hs'
theorem DK: ∀{l:List AV} {k:Nat} (i:Nat),aN (bo l k) (k+i)=(l[i]?).getD .top
 | [],k,i=>by simp[bo,aN]
 |v::l,k,0=>by simp[bo,aN]
 |v::l,k,i+1=>by
  have:=DK (l:=l) (k:=k+1) i
  simp only[bo,aN]
  rw[if_neg (by omega),show k+(i+1)=k+1+i by omega,this]
  simp
def abf (rs:List AR) (ress:List AV) (mem:List (Nat×bc)) (nx base:Nat):bk→St→Prop
 | .exit _,_=>False
 | .ret,σ=> ∃l rl,kA (aR l σ []).1 rs [] fun vs=>ress.length=vs.length∧Wk rl {(aR l σ []).1 with fr:=bo vs 0} ⟨bo ress 0,mem,nx,base⟩
 | .normal,σ=> ∃l rl,kA (aR l σ []).1 rs [] fun vs=>ress.length=vs.length∧Wk rl {(aR l σ []).1 with fr:=bo vs 0} ⟨bo ress 0,mem,nx,base⟩
theorem au.ofZ {f:FuncId} {nt:Nat} {body:ak} {rs:List AR} {args:List AV} {mem mem':List (Nat×bc)} {nx nx':Nat} {ress:List AV} (hf:aA P f nt body rs) (hlen:args.length≤nt) (h:tp args→AW P nt body ⟨bo args 0,mem,nx,nx⟩ (abf rs ress mem' nx' nx)):au P f args mem nx (eF ress) mem' nx':=by
 obtain⟨fn,c,h1,h2,h3,rfl,h5,h6⟩:=hf.is
 refine⟨⟨fn,h1,by rw[h2];rfl,h3⟩,fun w0 U ι w vs hs0 hargs=> ?_⟩
 have hsz:vs.size=args.length:=by rw[←Array.length_toList];exact hargs.length.symm
 have hs:bP w0 U ⟨bo args 0,mem,nx,nx⟩ ι {tmps:=vs++Array.replicate (fn.ntmps-vs.size) undef,defers:= []} w:=by
  refine⟨fun t=> ?_,⟨rfl,hs0.defers.2⟩,hs0.names,hs0.box,hs0.apart,hs0.below,hs0.keep,hs0.base⟩
  rcases kz (vs:=vs.toList) (k:=0) hargs t with h|h
  ·by_cases hlt:t<vs.size
   ·have e:(vs++Array.replicate (fn.ntmps-vs.size) undef).getD t undef=(vs.toList[t-0]?).getD undef:=by
     simp[Array.getD_eq_getD_getElem?,Array.getElem?_append,hlt]
    rw[e]
    exact h
   ·have:aN (bo args 0) t= .top:=by
     have key: ∀(l:List AV) (j:Nat),j+l.length≤t→aN (bo l j) t= .top:=by
      intro l
      induction l with
      |nil=>intro j _;rfl
      |cons x l ih=>
       intro j hj
       simp only[List.length_cons]at hj
       show(if j=t then x else aN (bo l (j+1)) t)=_
       rw[if_neg (by omega)]
       exact ih _ (by omega)
     exact key args 0 (by omega)
    show aU _ _ _ _ (aN (bo args 0) t) _
    rw[this]
    exact .top
  ·show aU _ _ _ _ (aN (bo args 0) t) _
   rw[h]
   exact .top
 have hsize:(vs++Array.replicate (fn.ntmps-vs.size) undef).size=fn.ntmps:=by simp;omega
 have fin: ∀{a':Act} {w':World} {σ':St} {ι':Pl},(∃l rl,kA (aR l σ' []).1 rs [] fun vs=>ress.length=vs.length∧Wk rl {(aR l σ' []).1 with fr:=bo vs 0} ⟨bo ress 0,mem',nx',nx⟩)→bP w0 U σ' ι' a' w'→ ∃v,(results fn a'.tmps).run P w'= .ok v w'∧
   ∃v' ι',Ending.returned v= .returned v'∧bP w0 U ⟨[],mem',nx',nx⟩ ι' {tmps:= #[],defers:= []} w'∧aU w' (aI w0.heap.size U ι' mem') ι' nx' (eF ress) v':=by
  rintro a' w' σ' ι' ⟨l,rl,hres⟩ hs'
  obtain⟨hs2,_⟩:=wu (l:=l) (args:= []) (us:= []) hs' .nil rfl
  obtain⟨vs',us',g1,g2,hlen',hwk⟩:=nj hs2 (us:= []) h6 hres .nil
  have g1:aP (aU w' (aI w0.heap.size U ι' (aR l σ' []).1.mem) ι' (aR l σ' []).1.nx) vs' us':=by simpa using g1
  have hs3:bP w0 U {(aR l σ' []).1 with fr:=bo vs' 0} ι' {tmps:=us'.toArray,defers:= []} w':=by
   refine⟨fun t=> ?_,⟨rfl,hs2.defers.2⟩,hs2.names,hs2.box,hs2.apart,hs2.below,hs2.keep,hs2.base⟩
   rcases kz (vs:= []) (k:=0) g1 t with h|h
   ·have e:us'.toArray.getD t undef=(us'[t-0]?).getD undef:=by simp[Array.getD_eq_getD_getElem?]
    rw[e];exact h
   ·show aU _ _ _ _ (aN (bo vs' 0) t) _
    rw[h];exact .top
  have hs4:=hs3.wk hwk
  have hall:aP (aU w' (aI w0.heap.size U (fun n=>ι' (rn rl n)) mem') (fun n=>ι' (rn rl n)) nx') ress us':=by
   refine aP.of_get (by rw[hlen',g1.length]) fun i x u hx hu=> ?_
   have h:=hs4.val i
   have e1:aN (bo ress 0) i=x:=by
    have:=DK (l:=ress) (k:=0) i
    rw[Nat.zero_add]at this
    rw[this,hx];rfl
   have e2:(us'.toArray).getD i undef=u:=by simp[Array.getD_eq_getD_getElem?,hu]
   simp only[e1,e2]at h
   exact h
  refine⟨_, ?_,_,fun n=>ι' (rn rl n),rfl,⟨fun t=> .top,⟨rfl,hs4.defers.2⟩,hs4.names,hs4.box,hs4.apart,hs4.below,hs4.keep,hs4.base⟩,wa hall⟩
  rw[nv,Array.mapM_eq_mapM_toList]
  simp[g2]
 refine wI h1 h2 (h (vt hargs) c h5 w0 U none [] _ _ w (fun _ e=>by cases e) hs hsize) (fun i σ' h=>h) ?_
 intro e a' w' σ' ι' hq hs'
 cases e with
 |normal=>exact fin hq hs'
 |exit i=>exact hq.elim
 |ret=>exact fin hq hs'
end
open Go.RowKit
def AWb (P:Program) (nt:Nat) (c:ak) (σ:St) [Q:nR (bk→St→Prop)]:Prop:=AW P nt c σ Q.out
def jx (P:Program) (nt:Nat):ak→St→(bk→St→Prop)→Prop
 | .skip,σ,Q=>Q .normal σ
 | .region gs false,σ,Q=>my P gs σ (Q .normal)
 | .region gs true,σ,Q=>AWb P nt (.region gs true) σ (Q:=⟨Q⟩)
 | .draw gss,σ,Q=>xY P gss σ (Q .normal)
 |.seq a b,σ,Q=>jx P nt a σ fun
  | .normal,σ=>jx P nt b σ Q
  | .exit i,σ=>Q (.exit i) σ
  | .ret,σ=>Q .ret σ
 |.cond c a b,σ,Q=>match c.ev σ.fr with
  | .c (.pure (.val (.bool t)))=>jc t (A:=⟨jx P nt a σ Q⟩) (B:=⟨jx P nt b σ Q⟩)
  |_=>False
 |.block id a,σ,Q=>jx P nt a σ fun
  | .normal,σ=>Q .normal σ
  | .exit i,σ=>if i=id then Q .normal σ else Q (.exit i) σ
  | .ret,σ=>Q .ret σ
 | .loop a,σ,Q=>AWb P nt (.loop a) σ (Q:=⟨Q⟩)
 | .rangeF f ps x y,σ,Q=>AWb P nt (.rangeF f ps x y) σ (Q:=⟨Q⟩)
 | .exit i,σ,Q=>Q (.exit i) σ
 | .ret,σ,Q=>Q .ret σ
theorem aa {P:Program} {nt:Nat}: ∀{c:ak} {σ:St} {Q:bk→St→Prop},jx P nt c σ Q→AW P nt c σ Q
 | .skip,σ,Q,h=>kU h
 | .region gs false,σ,Q,h=>CS h
 | .region gs true,σ,Q,h=>h
 | .draw gss,σ,Q,h=>Sh h
 |.seq a b,σ,Q,h=>by
  simp only[jx]at h
  refine bN ((aa (c:=a) h).mono ?_)
  intro e σ h
  cases e with
  |normal=>exact aa (c:=b) h
  |exit i=>exact h
  |ret=>exact h
 |.cond c a b,σ,Q,h=>by
  simp only[jx]at h
  split at h
  ·exact eR ‹_› (fun e=>aa (c:=a) (h.1 e)) (fun e=>aa (c:=b) (h.2 e))
  ·exact h.elim
 |.block id a,σ,Q,h=>by
  simp only[jx]at h
  refine uy ((aa (c:=a) h).mono ?_)
  intro e σ h
  cases e with
  |normal=>exact h
  |exit i=>exact h
  |ret=>exact h
 | .loop a,σ,Q,h=>h
 | .rangeF f ps x y,σ,Q,h=>h
 | .exit i,σ,Q,h=>R4 h
 | .ret,σ,Q,h=>mj h
theorem PX {P:Program} {nt:Nat} {c:ak} {σ:St} {Q:bk→St→Prop} (t:Nat) (h:i5 (aN σ.fr t)→AW P nt c σ Q):AW P nt c σ Q:=
 fun c' hc w0 U rd ds ι a w hrd hs hz=>h (NQ (hs.val t)) c' hc w0 U rd ds ι a w hrd hs hz
theorem af {P:Program} {g z:Bool} {f:FuncId} {args pargs:List AV} {σ:St} {K:nR (AV→St→Prop)} {res:AV} (h:ac P f pargs res) (hp:bG σ.mem args=some pargs) (hs:oS res=true∨args.all fS=true) (hk:K.out res σ): @sU P g z f args σ K:=
 ⟨[],σ,args,.inl rfl,rfl,.inl ⟨pargs,hp,res,.inl ⟨h,hs⟩,hk⟩⟩
theorem cg {P:Program} {g z:Bool} {f:FuncId} {args pargs:List AV} {σ:St} {K:nR (AV→St→Prop)} {res:AV} (h:ac P f pargs res) (hp:bG σ.mem args=some pargs) (hs:args.all fS=true) (hk:K.out res σ): @sU P g z f args σ K:=af h hp (.inr hs) hk
theorem aF {P:Program} {g z:Bool} {f:FuncId} {args pargs:List AV} {σ:St} {K:nR (AV→St→Prop)} {res:AV} (h:ac P f pargs res) (hp:bG σ.mem args=some pargs) (hs:oS res=true) (hk:K.out res σ): @sU P g z f args σ K:=af h hp (.inl hs) hk
theorem ap {P:Program} {z:Bool} {f:FuncId} {args:List AV} {σ:St} {K:nR (AV→St→Prop)} {res:AV} {mem':List (Nat×bc)} {nx':Nat} (h:au P f args σ.mem σ.nx res mem' nx') (hk:K.out res {σ with mem:=mem',nx:=nx'}): @sU P true z f args σ K:=
 ⟨[],σ,args,.inl rfl,rfl,.inr ⟨rfl,res,mem',nx',h,hk⟩⟩
theorem XW (l:List Nat) {P:Program} {g:Bool} {f:FuncId} {args args' pargs:List AV} {σ σ':St} {K:nR (AV→St→Prop)} {res:AV} (h:ac P f pargs res) (hz:aR l σ args=(σ',args')) (hp:bG σ'.mem args'=some pargs) (hs:oS res=true∨args'.all fS=true) (hk:K.out res σ'): @sU P g true f args σ K:=
 ⟨l,σ',args',.inr rfl,hz,.inl ⟨pargs,hp,res,.inl ⟨h,hs⟩,hk⟩⟩
theorem WF (l:List Nat) {P:Program} {f:FuncId} {args args':List AV} {σ σ':St} {K:nR (AV→St→Prop)} {res:AV} {mem':List (Nat×bc)} {nx':Nat} (hz:aR l σ args=(σ',args')) (h:au P f args' σ'.mem σ'.nx res mem' nx') (hk:K.out res {σ' with mem:=mem',nx:=nx'}): @sU P true true f args σ K:=
 ⟨l,σ',args',.inr rfl,hz,.inr ⟨rfl,res,mem',nx',h,hk⟩⟩
theorem sB (l:List Nat) {P:Program} {nt:Nat} {c:ak} {σ:St} {Q:bk→St→Prop} (h:AW P nt c (aR l σ []).1 Q):AW P nt c σ Q:=
 fun c' hc w0 U rd ds ι a w hrd hs hz=>h c' hc w0 U rd ds ι a w hrd (wu (l:=l) (args:= []) (us:= []) hs .nil rfl).1 hz
theorem aao (nm e sz:Nat) (rows:List (List PC)) {P:Program} {nt:Nat} {c:ak} {σ:St} {Q:bk→St→Prop} (hf:am σ.mem nm=some (.arr e sz rows)) (h:AW P nt c {σ with mem:=dJ σ.mem nm (.arn e sz (rows.map fun r=>r.map .pure))} Q):AW P nt c σ Q:=
 fun c' hc w0 U rd ds ι a w hrd hs hz=>h c' hc w0 U rd ds ι a w hrd (hs.rebox hf (by
  obtain⟨cells,g0,g1,g2,g3,g4,g5⟩:=hs.box _ _ hf
  refine⟨cells,g0,by rw[List.length_map];exact g1,by rw[List.length_map];exact g2,by rw[List.length_map];exact g3,fun i row hi=> ?_,fun i row j p hi hj=> ?_⟩
  ·rw[List.getElem?_map,Option.map_eq_some_iff]at hi
   obtain⟨r,hi,rfl⟩:=hi
   rw[List.length_map]
   exact g4 _ _ hi
  ·rw[List.getElem?_map,Option.map_eq_some_iff]at hi
   obtain⟨r,hi,rfl⟩:=hi
   rw[List.getElem?_map,Option.map_eq_some_iff]at hj
   obtain⟨q,hj,rfl⟩:=hj
   obtain⟨v,hv,hp⟩:=g5 _ _ _ _ hi hj
   exact⟨v,hv,.pure hp⟩)) hz
theorem Z2 (nm e sz:Nat) (rows:List (List PC)) {P:Program} {nt:Nat} {c:ak} {σ:St} {Q:bk→St→Prop} (hf:am σ.mem nm=some (.arn e sz (rows.map fun r=>r.map .pure))) (h:AW P nt c {σ with mem:=dJ σ.mem nm (.arr e sz rows)} Q):AW P nt c σ Q:=
 fun c' hc w0 U rd ds ι a w hrd hs hz=>h c' hc w0 U rd ds ι a w hrd (hs.rebox hf (by
  obtain⟨cells,g0,g1,g2,g3,g4,g5⟩:=hs.box _ _ hf
  rw[List.length_map]at g1 g2 g3
  refine⟨cells,g0,g1,g2,g3,fun i row hi=> ?_,fun i row j p hi hj=> ?_⟩
  ·have:=g4 i _ (by rw[List.getElem?_map,hi];rfl)
   rwa [List.length_map]at this
  ·obtain⟨v,hv,hp⟩:=g5 i _ j _ (by rw[List.getElem?_map,hi];rfl) (by rw[List.getElem?_map,hj];rfl)
   cases hp with
   |pure hp=>exact⟨v,hv,hp⟩)) hz
theorem wrap_i64 {x:Int} (h1: -9223372036854775808≤x∧x≤9223372036854775807):IntKind.wrap .i64 x=x:=by
 rw[IntKind.wrap_i64];omega
theorem wrap_u64 {x:Int} (h1:0≤x∧x≤18446744073709551615):IntKind.wrap .u64 x=x:=by
 have:IntKind.wrap .u64 x=x%18446744073709551616:=by simp[IntKind.wrap,IntKind.bits,IntKind.signed]
 rw[this];omega
theorem be {sz:Nat}:bl sz []:=fun r h=>by cases h
theorem aB {sz:Nat} {r:List PC} (h:r.length=sz):bl sz [r]:=fun x hx=>by
 rw[List.mem_singleton]at hx;rw[hx];exact h
theorem av {α:Type} {sz:Nat} {f:α→List PC} {l:List α} (h: ∀x,(f x).length=sz):bl sz (l.map f):=fun r hr=>by
 obtain⟨x,_,rfl⟩:=List.mem_map.1 hr;exact h x
abbrev I (n:Int):AV:= .c (.pure (.val (.int .i64 n)))
abbrev B (b:Bool):AV:= .c (.pure (.val (.bool b)))
abbrev S (s:ByteArray):AV:= .c (.pure (.val (.string s)))
abbrev yy (xs:List Int):PC:= .slice (xs.map fun n=> [.val (.int .i64 n)])
abbrev pG (xs:List Int):AV:= .c (.pure (yy xs))
section
variable {P : Program} {nt : Nat} {σ : St} {Q : bk → St → Prop} {K : St → Prop}
theorem TX:jx P nt .skip σ Q=Q .normal σ:=propext ⟨id,id⟩
theorem Pn {gs:List AG}:jx P nt (.region gs false) σ Q=my P gs σ (Q .normal):=propext ⟨id,id⟩
theorem S4 {gs:List AG}:jx P nt (.region gs true) σ Q=AWb P nt (.region gs true) σ (Q:=⟨Q⟩):=propext ⟨id,id⟩
theorem Qs {gss:List (List (Bool×AG))}:jx P nt (.draw gss) σ Q=xY P gss σ (Q .normal):=propext ⟨id,id⟩
theorem VI {a b:ak}:jx P nt (.seq a b) σ Q=jx P nt a σ (fun e σ=>match e with
  | .normal=>jx P nt b σ Q
  | .exit i=>Q (.exit i) σ
  | .ret=>Q .ret σ):=by
 simp only[jx]
 congr 1
 funext e σ
 cases e<;>rfl
theorem Su {c:AX} {a b:ak}:jx P nt (.cond c a b) σ Q=match c.ev σ.fr with
  | .c (.pure (.val (.bool t)))=>jc t (A:=⟨jx P nt a σ Q⟩) (B:=⟨jx P nt b σ Q⟩)
  |_=>False:=propext ⟨id,id⟩
theorem Ql {id:Nat} {a:ak}:jx P nt (.block id a) σ Q=jx P nt a σ (fun e σ=>match e with
  | .normal=>Q .normal σ
  | .exit i=>if i=id then Q .normal σ else Q (.exit i) σ
  | .ret=>Q .ret σ):=by
 simp only[jx]
 congr 1
 funext e σ
 cases e<;>rfl
theorem N6 {f:AX} {ps:List Nat} {x y:ak}:jx P nt (.rangeF f ps x y) σ Q=AWb P nt (.rangeF f ps x y) σ (Q:=⟨Q⟩):=propext ⟨id,id⟩
theorem Ug {a:ak}:jx P nt (.loop a) σ Q=AWb P nt (.loop a) σ (Q:=⟨Q⟩):=propext ⟨id,id⟩
theorem SZ {i:Nat}:jx P nt (.exit i) σ Q=Q (.exit i) σ:=propext ⟨id,id⟩
theorem Xp:jx P nt .ret σ Q=Q .ret σ:=propext ⟨id,id⟩
theorem VJ:my P [] σ K=K σ:=propext ⟨id,id⟩
theorem TV {d:Option Nat} {op:fc} {r:List AG}:my P (⟨d,none,op⟩::r) σ K=bD P op σ fun v σ'=>my P r (σ'.put d v) K:=propext ⟨id,id⟩
theorem QC {d:Option Nat} {op:fc} {t:Nat} {want:Bool} {r:List AG}:my P (⟨d,some (t,want),op⟩::r) σ K=match aN σ.fr t with
  | .c (.pure (.val (.bool b)))=>jc (b==want) (A:=⟨bD P op σ fun v σ'=>my P r (σ'.put d v) K⟩) (B:=⟨my P r (σ.put d (.tup [])) K⟩)
  | .tup []=>my P r (σ.put d (.tup [])) K
  |_=>False:=propext ⟨id,id⟩
theorem WH:jy P [] σ K=K σ:=propext ⟨id,id⟩
theorem Tx {d:Option Nat} {op:fc} {r:List (Bool×AG)}:jy P ((false,⟨d,none,op⟩)::r) σ K=bD P op σ fun v σ'=>jy P r (σ'.put d v) K:=by
 have e: ∀(p:Prop),(@c7 (false=true→p)=fun K=>K.out):=fun p=>funext fun K=>Lb (fun e=>by cases e)
 simp only[jy,e]
theorem SI {d:Option Nat} {op:fc} {r:List (Bool×AG)}:jy P ((true,⟨d,none,op⟩)::r) σ K=bD P op σ fun v σ'=>c7 (Mk σ.mem σ'.mem) (K:=⟨jy P r (σ'.put d v) K⟩):=by
 simp only[jy,forall_const]
theorem QN {d:Option Nat} {x:Bool} {op:fc} {t:Nat} {want:Bool} {r:List (Bool×AG)}:jy P ((x,⟨d,some (t,want),op⟩)::r) σ K=match aN σ.fr t with
  | .c (.pure (.val (.bool b)))=>jc (b==want) (A:=⟨jy P ((x,⟨d,none,op⟩)::r) σ K⟩) (B:=⟨jy P r (σ.put d (.tup [])) K⟩)
  | .tup []=>jy P r (σ.put d (.tup [])) K
  |_=>False:=propext ⟨id,id⟩
theorem SO {gs:List (Bool×AG)}:xY P [gs] σ K=jy P gs σ K:=propext ⟨id,id⟩
theorem T6 {gs hs:List (Bool×AG)} {r:List (List (Bool×AG))}:xY P (gs::hs::r) σ K=US (A:=⟨jy P gs σ K⟩) (B:=⟨xY P (hs::r) σ K⟩):=propext ⟨id,id⟩
theorem S7 {m:List (Nat×bc)}:Mk m m=True:=eq_true (.inl rfl)
theorem TT {m:List (Nat×bc)} {n:Nat} {b:bc}:Mk m ((n,b)::m)=(am m n=none):=propext ⟨fun h=>by
 rcases h with h|⟨n',b',h1,h2⟩
 ·have:=congrArg List.length h
  simp at this
 ·cases h1
  exact h2,fun h=> .inr ⟨n,b,rfl,h⟩⟩
end
section
variable {P : Program} {σ : St} {K : AV → St → Prop}
theorem aaO {x:AX}:bD P (.mv x) σ K=(K (x.ev σ.fr) σ):=propext ⟨id,id⟩
theorem VM {c:AX} {a:AX} {b:AX}:bD P (.pick c a b) σ K=(match c.ev σ.fr with
  | .c (.pure (.val (.bool t)))=>jc t (A:=⟨K (a.ev σ.fr) σ⟩) (B:=⟨K (b.ev σ.fr) σ⟩)
  |_=>False):=propext ⟨id,id⟩
theorem Za {x:AX}:bD P (.box x) σ K=(match (x.ev σ.fr).cells with
  |some xs=>K (.c (.ptr σ.nx 0)) {σ with mem:=(σ.nx,.var xs)::σ.mem,nx:=σ.nx+1}
  |none=>False):=propext ⟨id,id⟩
theorem Xm {n:Option Nat} {p:AX}:bD P (.load n p) σ K=(match p.ev σ.fr with
  |.c q=>match bR σ.mem q with
   |some xs=>match n with
    |none=>match xs with
     |x::_=>K (.c x) σ
     | []=>False
    |some n=>c7 (n≤xs.length) (K:=⟨K (.agg (xs.take n)) σ⟩)
   |none=>False
  |_=>False):=propext ⟨id,id⟩
theorem TC {n:Nat} {p:AX} {v:AX}:bD P (.store n p v) σ K=(match (v.ev σ.fr).cells,p.ev σ.fr with
  |some ys,.c (.ptr nm off)=>match am σ.mem nm with
   |some (.var xs)=>c7 (ys.length=n∧off+n≤xs.length) (K:=⟨K (.tup []) {σ with mem:=dJ σ.mem nm (.var (over xs off ys))}⟩)
   |_=>False
  |some ys,.c (.eptr nm sz row off)=>match am σ.mem nm with
   |some (.arr e sz' rows)=>c7 (sz=sz'∧ys.length=n∧off+n≤sz) (K:=⟨f6 (IY ys) (K:=⟨fun zs=>f6 rows[row]? (K:=⟨fun r=>
     K (.tup []) {σ with mem:=dJ σ.mem nm (.arr e sz (rows.set row (over r off zs)))}⟩)⟩)⟩)
   |some (.arn e sz' rows)=>c7 (sz=sz'∧ys.length=n∧off+n≤sz) (K:=⟨f6 rows[row]? (K:=⟨fun r=>
     K (.tup []) {σ with mem:=dJ σ.mem nm (.arn e sz (rows.set row (over r off ys)))}⟩)⟩)
   |_=>False
  |_,_=>False):=propext ⟨id,id⟩
theorem X0 {op:BinOp} {x:AX} {y:AX}:bD P (.bin op x y) σ K=(match x.ev σ.fr,y.ev σ.fr with
  |.c (.pure (.val a)),.c (.pure (.val b))=>match op with
   | .shl| .shr=>nS op a b fun v=>K (.c (.pure (.val v))) σ
   |_=>CK op a b fun v=>K (.c (.pure (.val v))) σ
  |_,_=>False):=propext ⟨id,id⟩
theorem YI {neg:Bool} {x:AX} {y:AX}:bD P (.eqb neg x y) σ K=(match x.ev σ.fr,y.ev σ.fr with
  | .c (.pure (.val (.bool a))),.c (.pure (.val (.bool b)))=>K (.c (.pure (.val (.bool ((a==b) !=neg))))) σ
  |_,_=>False):=propext ⟨id,id⟩
theorem Y6 {neg:Bool} {l:List ET} {x:AX} {y:AX}:bD P (.eqs neg l x y) σ K=(match x.ev σ.fr,y.ev σ.fr with
  | .agg xs,.agg ys=>c7 (sr l xs ys) (K:=⟨K (.c (.pure (.val (.bool (BI (Dw xs ys) !=neg))))) σ⟩)
  |_,_=>False):=propext ⟨id,id⟩
theorem Xk {op:UnOp} {x:AX}:bD P (.un op x) σ K=(match op,x.ev σ.fr with
  | .not,.c (.pure (.val (.bool b)))=>K (.c (.pure (.val (.bool (!b))))) σ
  | .neg,.c (.pure (.val (.int k n)))=>K (.c (.pure (.val (.int k (k.wrap (0-n)))))) σ
  | .xor,.c (.pure (.val (.int k n)))=>K (.c (.pure (.val (.int k (k.wrap (BitVec.ofInt k.bits (if k.signed then-1 else k.max)^^^BitVec.ofInt k.bits n).toNat))))) σ
  |_,_=>False):=propext ⟨id,id⟩
theorem Wt {k:IntKind} {x:AX}:bD P (.conv k x) σ K=(match x.ev σ.fr with
  | .c (.pure (.val (.int _ n)))=>K (.c (.pure (.val (.int k (k.wrap n))))) σ
  |_=>False):=propext ⟨id,id⟩
theorem QY {off:Nat} {p:AX}:bD P (.fieldA off p) σ K=(match p.ev σ.fr with
  | .c (.ptr nm o)=>K (.c (.ptr nm (o+off))) σ
  | .c (.cptr cells)=>K (.c (.cptr (cells.drop off))) σ
  | .c (.eptr nm sz row o)=>K (.c (.eptr nm sz row (o+off))) σ
  |_=>False):=propext ⟨id,id⟩
theorem T0 {off:Nat} {n:Option Nat} {x:AX}:bD P (.field off n x) σ K=(match x.ev σ.fr with
  |.agg xs=>match n with
   |none=>match xs.drop off with
    |x::_=>K (.c x) σ
    | []=>False
   |some n=>c7 (off+n≤xs.length) (K:=⟨K (.agg ((xs.drop off).take n)) σ⟩)
  |_=>False):=propext ⟨id,id⟩
theorem Vm {sz:Nat} {x:AX} {i:AX}:bD P (.idxA sz x i) σ K=(match x.ev σ.fr,i.ev σ.fr with
  | .c (.pure (.slice rows)),.c (.pure (.val (.int _ i)))| .c (.tsl rows),.c (.pure (.val (.int _ i)))=>c7 (0≤i) (K:=⟨f6 rows[i.toNat]? (K:=⟨fun r=>c7 (r.length=sz∧0<sz) (K:=⟨K (.c (.cptr r)) σ⟩)⟩)⟩)
  |.c (.ref nm),.c (.pure (.val (.int _ i)))=>match am σ.mem nm with
   |some (.arr _ sz' rows)=>c7 (sz'=sz∧0<sz∧0≤i∧i<rows.length) (K:=⟨K (.c (.eptr nm sz i.toNat 0)) σ⟩)
   |some (.arn _ sz' rows)=>c7 (sz'=sz∧0<sz∧0≤i∧i<rows.length) (K:=⟨K (.c (.eptr nm sz i.toNat 0)) σ⟩)
   |_=>False
  |_,_=>False):=propext ⟨id,id⟩
theorem VZ {len:Nat} {sz:Nat} {x:AX} {i:AX}:bD P (.idxR len sz x i) σ K=(match x.ev σ.fr,i.ev σ.fr with
  | .c (.ptr nm o),.c (.pure (.val (.int _ i)))=>c7 (0≤i∧i<len) (K:=⟨K (.c (.ptr nm (o+i.toNat*sz))) σ⟩)
  | .c (.cptr cells),.c (.pure (.val (.int _ i)))=>c7 (0≤i∧i<len) (K:=⟨K (.c (.cptr (cells.drop (i.toNat*sz)))) σ⟩)
  |_,_=>False):=propext ⟨id,id⟩
theorem Wp {x:AX}:bD P (.nilc x) σ K=(match x.ev σ.fr with
  | .c (.ptr nm o)=>K (.c (.ptr nm o)) σ
  | .c (.cptr cells)=>K (.c (.cptr cells)) σ
  | .c (.eptr nm sz row o)=>K (.c (.eptr nm sz row o)) σ
  | .c (.clo f caps)=>K (.c (.clo f caps)) σ
  |_=>False):=propext ⟨id,id⟩
theorem WO {x:AX} {i:AX}:bD P (.idxS x i) σ K=(match x.ev σ.fr,i.ev σ.fr with
  | .c (.pure (.val (.string s))),.c (.pure (.val (.int _ i)))=>c7 (0≤i) (K:=⟨f6 s[i.toNat]? (K:=⟨fun b=>K (.c (.pure (.val (.int .u8 b.toNat)))) σ⟩)⟩)
  |_,_=>False):=propext ⟨id,id⟩
theorem TA {zero:List AC} {parts:List (Nat×Nat×AX)}:bD P (.build zero parts) σ K=(bD.buildW σ parts zero fun xs=>K (.agg xs) σ):=propext ⟨id,id⟩
theorem QZ {sz:Nat} {rows:List AX}:bD P (.bslice sz rows) σ K=(bD.bsliceW σ sz rows [] fun rs=>K (.c (.tsl rs)) σ):=propext ⟨id,id⟩
theorem NJ {e:Nat} {sz:Nat} {bytes:Nat} {zero:List PC} {l:AX}:bD P (.mkslice e sz bytes zero l) σ K=(match l.ev σ.fr with
  | .c (.pure (.val (.int .i64 n)))=>c7 (0≤n∧n≤281474976710656∧bytes*n≤281474976710656) (K:=⟨
    K (.c (.ref σ.nx)) {σ with mem:=(σ.nx,.arr e sz (List.replicate n.toNat zero))::σ.mem,nx:=σ.nx+1}⟩)
  |_=>False):=propext ⟨id,id⟩
theorem Y7 {sz:Nat} {x:AX} {lo:Option AX} {hi:Option AX} {mx:Option AX}:bD P (.slc sz x lo hi mx) σ K=(match x.ev σ.fr with
  | .c (.ref _)=>False
  |v=>f6 (fe σ.mem v) (K:=⟨fun rows=>f6 (bD.boundOf σ lo) (K:=⟨fun lo=>f6 (bD.boundOf σ hi) (K:=⟨fun hi=>f6 (bD.boundOf σ mx) (K:=⟨fun mx=>
   c7 (bl sz rows∧0≤lo.getD 0∧lo.getD 0≤hi.getD rows.length∧hi.getD rows.length≤mx.getD rows.length∧mx.getD rows.length≤rows.length) (K:=⟨
   K (.c (if mx.isSome=true∧mx=hi then .tsl ((rows.take (hi.getD rows.length).toNat).drop (lo.getD 0).toNat)else .pure (.slice ((rows.take (hi.getD rows.length).toNat).drop (lo.getD 0).toNat)))) σ⟩)⟩)⟩)⟩)⟩)):=propext ⟨id,id⟩
theorem WX {x:AX} {lo:Option AX} {hi:Option AX}:bD P (.slcS x lo hi) σ K=(match x.ev σ.fr,bD.boundOf σ lo,bD.boundOf σ hi with
  |.c (.pure (.val (.string s))),some lo,some hi=>c7 (0≤lo.getD 0∧lo.getD 0≤hi.getD s.size∧hi.getD s.size≤s.size) (K:=⟨
   K (.c (.pure (.val (.string (s.extract (lo.getD 0).toNat (hi.getD s.size).toNat))))) σ⟩)
  |_,_,_=>False):=propext ⟨id,id⟩
theorem Yd {x:AX} {i:Nat}:bD P (.ext x i) σ K=(match x.ev σ.fr with
  | .tup vs=>f6 vs[i]? (K:=⟨fun v=>K v σ⟩)
  |_=>False):=propext ⟨id,id⟩
theorem XX {x:AX}:bD P (.len x) σ K=(match x.ev σ.fr with
  | .c (.pure (.slice rows))| .c (.tsl rows)=>K (.c (.pure (.val (.int .i64 rows.length)))) σ
  | .c .nils=>K (.c (.pure (.val (.int .i64 0)))) σ
  |.c (.ref nm)=>match am σ.mem nm with
   |some (.arr _ _ rows)=>K (.c (.pure (.val (.int .i64 rows.length)))) σ
   |some (.arn _ _ rows)=>K (.c (.pure (.val (.int .i64 rows.length)))) σ
   |_=>False
  |_=>False):=propext ⟨id,id⟩
theorem W4 {x:AX}:bD P (.lenS x) σ K=(match x.ev σ.fr with
  | .c (.pure (.val (.string s)))=>K (.c (.pure (.val (.int .i64 s.size)))) σ
  |_=>False):=propext ⟨id,id⟩
theorem Z9 {mx:Bool} {x:AX} {y:AX}:bD P (.mm mx x y) σ K=(match x.ev σ.fr,y.ev σ.fr with
  | .c (.pure (.val (.int k a))),.c (.pure (.val (.int _ b)))=>K (.c (.pure (.val (.int k (if mx=true then max a b else min a b))))) σ
  |_,_=>False):=propext ⟨id,id⟩
theorem Yb {x y z t:AX}:bD P (.mm4 x y z t) σ K=(match x.ev σ.fr,y.ev σ.fr,z.ev σ.fr,t.ev σ.fr with
  | .c (.pure (.val (.int k a))),.c (.pure (.val (.int _ b))),.c (.pure (.val (.int _ c))),.c (.pure (.val (.int _ d)))=>K (.c (.pure (.val (.int k (max (max (max a b) c) d))))) σ
  |_,_,_,_=>False):=propext ⟨id,id⟩
theorem Wd:bD P .dead σ K=False:=propext ⟨id,id⟩
theorem WA {neg:Bool} {x:AX}:bD P (.fnil neg x) σ K=(match x.ev σ.fr with
  | .c (.clo _ _)=>K (.c (.pure (.val (.bool neg)))) σ
  | .c (.pure (.val .nilFunc))=>K (.c (.pure (.val (.bool (!neg))))) σ
  |_=>False):=propext ⟨id,id⟩
theorem W5 {neg:Bool} {x:AX}:bD P (.snil neg x) σ K=(match x.ev σ.fr with
  | .c .nils=>K (.c (.pure (.val (.bool (!neg))))) σ
  | .c (.pure (.slice rows))| .c (.tsl rows)=>IP rows (A:=⟨K (.c (.pure (.val (.bool (!neg))))) σ⟩) (B:=⟨K (.c (.pure (.val (.bool neg)))) σ⟩)
  |.c (.ref nm)=>match am σ.mem nm with
   |some (.arr _ _ rows)=>IP rows (A:=⟨K (.c (.pure (.val (.bool (!neg))))) σ⟩) (B:=⟨K (.c (.pure (.val (.bool neg)))) σ⟩)
   |_=>False
  |_=>False):=propext ⟨id,id⟩
theorem X7 {e:Nat} {sz:Nat} {bytes:Nat} {x:AX} {y:AX}:bD P (.app e sz bytes x y) σ K=(f6 (fe σ.mem (y.ev σ.fr)) (K:=⟨fun ys=>Eb e sz bytes (x.ev σ.fr) (y.ev σ.fr) ys σ (K:=⟨K⟩)⟩)):=propext ⟨id,id⟩
theorem Xz {f:FuncId} {caps:List AX}:bD P (.mkfn f caps) σ K=(bD.mkfnW σ caps [] fun xs=>K (.c (.clo f xs)) σ):=propext ⟨id,id⟩
theorem U7 {g z:Bool} {f:AX} {args:List AX}:bD P (.call g z f args) σ K=(match f.ev σ.fr with
  | .c (.clo f caps)=>sU P g z f (args.map (·.ev σ.fr)++caps.map .c) σ (K:=⟨K⟩)
  |_=>False):=propext ⟨id,id⟩
theorem NB {sz:Nat} {rows:List AX}:bD P (.bsliceF sz rows) σ K=(bD.bsliceFW σ sz rows σ.mem [] fun rs mem=>K (.c (.tsl rs)) {σ with mem:=mem}):=propext ⟨id,id⟩
theorem Tt {kt:KT} {n:Option Nat}:bD P (.mkmap kt n) σ K=(K (.c (.mref σ.nx)) {σ with mem:=(σ.nx,.map kt n [])::σ.mem,nx:=σ.nx+1}):=propext ⟨id,id⟩
theorem U6 {kt:KT} {n:Option Nat} {zero:List AC} {ok:Bool} {m:AX} {k:AX}:bD P (.mget kt n zero ok m k) σ K=(match k.ev σ.fr with
  |.c (.pure (.val kv))=>f6 (IN kt kv) (K:=⟨fun mk=>match m.ev σ.fr with
   |.c (.mref nm)=>match am σ.mem nm with
    |some (.map kt' n' ents)=>c7 (kt'=kt∧n'=n) (K:=⟨t6 (iD ents mk) (A:=⟨fun ps=>K (if ok=true then .tup [ft n ps,.c (.pure (.val (.bool true)))]else ft n ps) σ⟩)
     (B:=⟨K (if ok=true then .tup [ft n zero,.c (.pure (.val (.bool false)))]else ft n zero) σ⟩)⟩)
    |_=>False
   | .c (.pure (.fmap kt' n' es))=>c7 (kt'=kt∧n'=n) (K:=⟨t6 (iD (qi es) mk) (A:=⟨fun ps=>K (if ok=true then .tup [ft n ps,.c (.pure (.val (.bool true)))]else ft n ps) σ⟩)
     (B:=⟨K (if ok=true then .tup [ft n zero,.c (.pure (.val (.bool false)))]else ft n zero) σ⟩)⟩)
   |_=>False⟩)
  |_=>False):=propext ⟨id,id⟩
theorem UP {kt:KT} {n:Option Nat} {m:AX} {k:AX} {v:AX}:bD P (.mput kt n m k v) σ K=(match k.ev σ.fr with
  |.c (.pure (.val kv))=>f6 (IN kt kv) (K:=⟨fun mk=>match m.ev σ.fr with
   |.c (.mref nm)=>f6 (CE n (v.ev σ.fr)) (K:=⟨fun ys=>match am σ.mem nm with
    |some (.map kt' n' ents)=>c7 (kt'=kt∧n'=n) (K:=⟨K (.tup []) {σ with mem:=dJ σ.mem nm (.map kt n (Ct ents mk ys))}⟩)
    |_=>False⟩)
   |_=>False⟩)
  |_=>False):=propext ⟨id,id⟩
end
section
variable {P : Program} {σ : St}
theorem NG {sz:Nat} {acc:List (List PC)} {K:List (List PC)→Prop}:bD.bsliceW σ sz [] acc K=K acc:=propext ⟨id,id⟩
theorem Lt {sz:Nat} {x:AX} {r:List AX} {acc:List (List PC)} {K:List (List PC)→Prop}:bD.bsliceW σ sz (x::r) acc K=(match (x.ev σ.fr).cells with
   |some ys=>f6 (IY ys) (K:=⟨fun zs=>c7 (ys.length=sz) (K:=⟨bD.bsliceW σ sz r (acc++ [zs]) K⟩)⟩)
   |none=>False):=propext ⟨id,id⟩
theorem LK {sz:Nat} {mem:List (Nat×bc)} {acc:List (List PC)} {K:List (List PC)→List (Nat×bc)→Prop}:bD.bsliceFW σ sz [] mem acc K=K acc mem:=propext ⟨id,id⟩
theorem IS {sz:Nat} {x:AX} {r:List AX} {mem:List (Nat×bc)} {acc:List (List PC)} {K:List (List PC)→List (Nat×bc)→Prop}:bD.bsliceFW σ sz (x::r) mem acc K=(match (x.ev σ.fr).cells with
   |some ys=>f6 (FS mem ys) (K:=⟨fun z=>c7 (ys.length=sz) (K:=⟨bD.bsliceFW σ sz r z.2 (acc++ [z.1]) K⟩)⟩)
   |none=>False):=propext ⟨id,id⟩
theorem PQ {acc:List AC} {K:List AC→Prop}:bD.buildW σ [] acc K=K acc:=propext ⟨id,id⟩
theorem On {off n:Nat} {x:AX} {r:List (Nat×Nat×AX)} {acc:List AC} {K:List AC→Prop}:bD.buildW σ ((off,n,x)::r) acc K=(match (x.ev σ.fr).cells with
   |some ys=>c7 (ys.length=n∧off+n≤acc.length) (K:=⟨bD.buildW σ r (over acc off ys) K⟩)
   |none=>False):=propext ⟨id,id⟩
theorem Tq {acc:List AC} {K:List AC→Prop}:bD.mkfnW σ [] acc K=K acc:=propext ⟨id,id⟩
theorem Rb {x:AX} {r:List AX} {acc:List AC} {K:List AC→Prop}:bD.mkfnW σ (x::r) acc K=(match x.ev σ.fr with
   | .c y=>bD.mkfnW σ r (acc++ [y]) K
   |_=>False):=propext ⟨id,id⟩
end
def aaF (n:Nat) (a b:Int):Int:=(BitVec.ofInt n a&&&BitVec.ofInt n b).toNat
def orI (n:Nat) (a b:Int):Int:=(BitVec.ofInt n a|||BitVec.ofInt n b).toNat
def aci (n:Nat) (a b:Int):Int:=(BitVec.ofInt n a^^^BitVec.ofInt n b).toNat
def abw (n:Nat) (a b:Int):Int:=(BitVec.ofInt n a&&& ~~~BitVec.ofInt n b).toNat
section
variable {k : IntKind} {a b : Int} {s u : ByteArray} {K : Value → Prop}
theorem XD:nP .add k a b K=K (.int k (k.wrap (a+b))):=propext ⟨id,id⟩
theorem VF:nP .sub k a b K=K (.int k (k.wrap (a-b))):=propext ⟨id,id⟩
theorem Wo:nP .mul k a b K=K (.int k (k.wrap (a*b))):=propext ⟨id,id⟩
theorem WM:nP .quo k a b K=c7 (b≠0) (K:=⟨K (.int k (k.wrap (a.tdiv b)))⟩):=propext ⟨id,id⟩
theorem V5:nP .rem k a b K=c7 (b≠0) (K:=⟨K (.int k (a.tmod b))⟩):=propext ⟨id,id⟩
theorem Vw:nP .and k a b K=K (.int k (k.wrap (aaF k.bits a b))):=propext ⟨id,id⟩
theorem Y2:nP .or k a b K=K (.int k (k.wrap (orI k.bits a b))):=propext ⟨id,id⟩
theorem WB:nP .xor k a b K=K (.int k (k.wrap (aci k.bits a b))):=propext ⟨id,id⟩
theorem Nb:nP .andNot k a b K=K (.int k (k.wrap (abw k.bits a b))):=propext ⟨id,id⟩
theorem WR:nP .eql k a b K=K (.bool (a==b)):=propext ⟨id,id⟩
theorem Vf:nP .neq k a b K=K (.bool (a !=b)):=propext ⟨id,id⟩
theorem Vo:nP .lss k a b K=K (.bool (decide (a<b))):=propext ⟨id,id⟩
theorem VQ:nP .leq k a b K=K (.bool (decide (a≤b))):=propext ⟨id,id⟩
theorem WD:nP .gtr k a b K=K (.bool (decide (a>b))):=propext ⟨id,id⟩
theorem Vt:nP .geq k a b K=K (.bool (decide (a≥b))):=propext ⟨id,id⟩
theorem Va:zy .add s u K=c7 (s.size+u.size≤9223372036854775807) (K:=⟨K (.string (s++u))⟩):=propext ⟨id,id⟩
theorem Vg:zy .eql s u K=K (.bool (s.toList==u.toList)):=propext ⟨id,id⟩
theorem We:zy .neq s u K=K (.bool (!(s.toList==u.toList))):=propext ⟨id,id⟩
theorem UY:zy .lss s u K=K (.bool (Op.bytesLess s.toList u.toList)):=propext ⟨id,id⟩
theorem VX:zy .leq s u K=K (.bool (Op.bytesLess s.toList u.toList||s.toList==u.toList)):=propext ⟨id,id⟩
theorem UX:zy .gtr s u K=K (.bool (!(Op.bytesLess s.toList u.toList||s.toList==u.toList))):=propext ⟨id,id⟩
theorem V6:zy .geq s u K=K (.bool (!(Op.bytesLess s.toList u.toList))):=propext ⟨id,id⟩
theorem VH {op:BinOp} {k':IntKind}:CK op (.int k a) (.int k' b) K=c7 (k=k') (K:=⟨nP op k a b K⟩):=propext ⟨id,id⟩
theorem Wz {op:BinOp}:CK op (.string s) (.string u) K=zy op s u K:=propext ⟨id,id⟩
theorem QS:u5 .shl k a b K=K (.int k (k.wrap (a*2^(min b.toNat k.bits)))):=propext ⟨id,id⟩
theorem QX:u5 .shr k a b K=K (.int k (a.fdiv (2^(min b.toNat k.bits)))):=propext ⟨id,id⟩
theorem Qd {op:BinOp} {k':IntKind}:nS op (.int k a) (.int k' b) K=c7 (0≤b) (K:=⟨u5 op k a b K⟩):=propext ⟨id,id⟩
end
section
variable {σ : St} {K : List AV → Prop} {L : AV → Prop}
theorem Xt {acc:List AV}:kA σ [] acc K=K acc:=propext ⟨id,id⟩
theorem TZ {r:AR} {rs:List AR} {acc:List AV}:kA σ (r::rs) acc K=zr σ r fun v=>kA σ rs (acc++ [v]) K:=propext ⟨id,id⟩
theorem Wh {n:Nat}:zr σ (.t n) L=L (aN σ.fr n):=propext ⟨id,id⟩
theorem NA {n:Option Nat} {a:Nat}:zr σ (.cell n a) L=(match aN σ.fr a with
  |.c q=>match bR σ.mem q with
   |some xs=>GE n xs L
   |none=>False
  |_=>False):=propext ⟨id,id⟩
theorem TQ {x:AC} {xs:List AC}:GE none (x::xs) L=L (.c x):=propext ⟨id,id⟩
theorem Sz {n:Nat} {xs:List AC}:GE (some n) xs L=c7 (n≤xs.length) (K:=⟨L (.agg (xs.take n))⟩):=propext ⟨id,id⟩
end
theorem Ve {σ:St} {v:AV}:σ.put none v=σ:=rfl
theorem Uz {σ:St} {d:Nat} {v:AV}:σ.put (some d) v={σ with fr:=(d,v)::σ.fr}:=rfl
theorem aM {m n:Nat} {v:AV} {r:List (Nat×AV)}:aN ((m,v)::r) n=if m=n then v else aN r n:=by rw[aN]
theorem FJ {mem:List (Nat×bc)}: ∀{l:List PC},xp mem (l.map .pure)=some l
 | []=>rfl
 |p::l=>by simp only[List.map_cons,xp,dS,FJ (l:=l)]
theorem JK {α:Type} {mem:List (Nat×bc)} {k:α→MK} {p:α→PC}: ∀{l:List α},mG mem none (l.map fun x=>(k x, [.pure (p x)]))=some (l.map fun x=>(k x, [p x]))
 | []=>rfl
 |x::l=>by simp only[List.map_cons,mG,qn,dS,JK (l:=l)]
theorem K4 {α:Type} {mem:List (Nat×bc)} {k:α→MK} {ps:α→List PC} {m:Nat}: ∀{l:List α},mG mem (some m) (l.map fun x=>(k x,(ps x).map .pure))=some (l.map fun x=>(k x,ps x))
 | []=>rfl
 |x::l=>by simp only[List.map_cons,mG,qn,FJ,K4 (l:=l)]
attribute [go_sem ↓] JK K4
attribute [go_sem ↓] TX Pn S4 Qs WH Tx SI QN SO T6 S7 TT VI Su Ql Ug N6 SZ Xp VJ TV QC aM
attribute [go_sem ↓] aaO VM Za Xm TC X0 YI Y6 Xk Wt QY T0 Vm VZ Wp WO TA QZ NJ Y7 WX Yd XX W4 Z9 Yb Wd WA W5 SD X7 Xz U7 NB Tt U6 UP AX.ev SK T4 Qy Nn Qx P3 Ve Uz
attribute [go_sem ↓] XD VF Wo WM V5 Vw Y2 WB Nb WR Vf Vo VQ WD Vt Va Vg We UY VX UX V6 QS QX
attribute [go_sem] VH Wz Qd NG Lt LK IS PQ On Tq Rb
attribute [go_sem] sr Dw aR St.frz iw sH BG Ch nH bR am dJ mz AV.cells over bG dQ xo ej d6 DM eL cJ dS xp qn mG IY pcA FS WY fe bD.boundOf bo CE ft IN MK.val
attribute [go_sem ↓] abF Bq abf Xt TZ Wh NA TQ Sz
attribute [go_sem] eF O1 ZO P7 ZG
open Go.RowKit Go.WideShapes
inductive TS where
 |int (k:IntKind)
 |bool
 |str
 |slice (l:List TS)
inductive Hn:TS→PC→Prop
 |int {k:IntKind} {n:Int} (h:(Lit.int k n).wf=true):Hn (.int k) (.val (.int k n))
 |bool {b:Bool}:Hn .bool (.val (.bool b))
 |str {s:ByteArray} (h:s.size≤maxLen):Hn .str (.val (.string s))
 |slice {l:List TS} {rows:List (List PC)} (hm:rows.length≤maxLen) (hl: ∀r∈rows,r.length=l.length) (h: ∀(r:List PC),r∈rows→ ∀(i:Nat) s p,l[i]? =some s→r[i]? =some p→Hn s p):Hn (.slice l) (.slice rows)
def qt (l:List TS) (ps:List PC):Prop:=ps.length=l.length∧ ∀(i:Nat) s p,l[i]? =some s→ps[i]? =some p→Hn s p
theorem qt.append {l l':List TS} {ps ps':List PC} (h:qt l ps) (h':qt l' ps'):qt (l++l') (ps++ps'):=by
 refine⟨by simp[h.1,h'.1],fun i s p hs hp=> ?_⟩
 by_cases hi:i<l.length
 ·rw[List.getElem?_append_left hi]at hs
  rw[List.getElem?_append_left (by rw[h.1];exact hi)]at hp
  exact h.2 i s p hs hp
 ·rw[List.getElem?_append_right (by omega)]at hs
  rw[List.getElem?_append_right (by rw[h.1];omega),h.1]at hp
  exact h'.2 _ s p hs hp
theorem qt.one {s:TS} {p:PC} (h:Hn s p):qt [s] [p]:=by
 refine⟨rfl,fun i s' p' hs hp=> ?_⟩
 cases i with
 |zero=>simp at hs hp;subst hs;subst hp;exact h
 |succ i=>simp at hs
def UI (P:Program) (f:TypeId→Option (List TS)):List Field→Nat→Nat→Option (List TS)
 | [],k,m=>if k=m then some []else none
 |fd::r,k,m=>if fd.offset=k then match f fd.type with
  |some l=>if l.length=P.cellsOf fd.type then match UI P f r (k+l.length) m with
   |some l'=>some (l++l')
   |none=>none else none
  |none=>none else none
def QU (P:Program):Nat→TypeId→Option (List TS)
 |0,_=>none
 |n+1,t=>match P.underlying t with
  |some (.int k)=>some [.int k]
  |some .bool=>some [.bool]
  |some .string=>some [.str]
  |some (.slice e)=>match QU P n e with
   |some l=>if l.length=P.cellsOf e then some [.slice l]else none
   |none=>none
  |some (.struct fs)=>UI P (QU P n) fs.toList 0 (P.cellsOf t)
  |_=>none
theorem Ln {X:Type} {Q:Nat→X→Prop}: ∀{n:Nat},(∀i,i<n→ ∃x,Q i x)→ ∃l:List X,l.length=n∧ ∀(i:Nat) x,l[i]? =some x→Q i x
 |0,_=>⟨[],rfl,fun i x h=>by simp at h⟩
 |n+1,h=>by
  obtain⟨l,h1,h2⟩:=Ln (n:=n) fun i hi=>h i (by omega)
  obtain⟨x,hx⟩:=h n (by omega)
  refine⟨l++ [x],by simp[h1],fun i y hy=> ?_⟩
  by_cases hi:i<l.length
  ·rw[List.getElem?_append_left hi]at hy
   exact h2 i y hy
  ·rw[List.getElem?_append_right (by omega)]at hy
   have:i=n:=by
    have:=(List.getElem?_eq_some_iff.1 hy).1
    simp at this
    omega
   subst this
   simp[h1]at hy
   subst hy
   exact hx
section
variable {H : Type} {enc : TypeId × Value → H} {P : Program} {W : World} {base : Nat} {sp : Nat → Bool} {held : Bool}
abbrev Kx:Nat→Prop:=fun _=>True
theorem Fa {f:TypeId→Option (List TS)} {n:Nat} {cs:List Value} (ih: ∀t l cs x,f t=some l→DataW.trod enc P W base sp held n t cs=some x→ ∃ps,aP (cp W Kx) ps cs∧qt l ps):
  ∀{fs:List Field} {k m:Nat} {l:List TS},UI P f fs k m=some l→cs.length=m→(∀fd∈fs,∃x,DataW.trod enc P W base sp held n fd.type ((cs.drop fd.offset).take (P.cellsOf fd.type))=some x)→
   ∃ps,aP (cp W Kx) ps (cs.drop k)∧qt l ps
 |[],k,m,l,h,hm,_=>by
  unfold UI at h
  split at h
  ·cases h
   refine⟨[], ?_,rfl,fun i s p hs=>by simp at hs⟩
   rw[List.drop_eq_nil_of_le (by omega)]
   exact .nil
  ·cases h
 |fd::fs,k,m,l,h,hm,hx=>by
  unfold UI at h
  split at h
  ·rename_i e
   split at h
   ·rename_i l1 h1
    split at h
    ·rename_i hc
     split at h
     ·rename_i l2 h2
      cases h
      obtain⟨x,hx1⟩:=hx fd List.mem_cons_self
      obtain⟨p1,g1,g2⟩:=ih _ _ _ _ h1 hx1
      obtain⟨p2,g3,g4⟩:=Fa ih h2 hm fun fd h=>hx fd (List.mem_cons_of_mem _ h)
      refine⟨p1++p2, ?_,g2.append g4⟩
      have:cs.drop k=(cs.drop k).take (P.cellsOf fd.type)++cs.drop (k+l1.length):=by
       rw[hc,←List.drop_drop,List.take_append_drop]
      rw[this]
      subst e
      exact g1.append g3
     ·cases h
    ·cases h
   ·cases h
  ·cases h
theorem An: ∀{fuel sf:Nat} {t:TypeId} {l:List TS} {cs:List Value} {x:DataW H×List MemPlace},QU P sf t=some l→DataW.trod enc P W base sp held fuel t cs=some x→ ∃ps,aP (cp W Kx) ps cs∧qt l ps
 |fuel,0,t,l,cs,x,h,_=>by cases h
 |fuel,sf+1,t,l,cs,x,h,hr=>by
  unfold QU at h
  split at h
  ·rename_i k ht
   cases h
   obtain⟨n,rfl,_,hw⟩:=DataW.trod_int ht hr
   exact⟨[.val (.int k n)],.cons (.val rfl) .nil,.one (.int hw)⟩
  ·rename_i ht
   cases h
   obtain⟨b,rfl,_⟩:=DataW.trod_bool ht hr
   exact⟨[.val (.bool b)],.cons (.val rfl) .nil,.one .bool⟩
  ·rename_i ht
   cases h
   obtain⟨s,rfl,_,hm⟩:=DataW.trod_string ht hr
   exact⟨[.val (.string s)],.cons (.val rfl) .nil,.one (.str hm)⟩
  ·rename_i e ht
   split at h
   ·rename_i l' hl'
    split at h
    ·rename_i hc
     cases h
     rcases DataW.trod_slice ht hr with⟨rfl,_⟩|⟨a,len,cap,elems,rest,n,_,rfl,_,_,hle,hmx,hlen,hel,_,_⟩
     ·exact⟨[.slice []],.cons (.slice (sz:=0) (fun _ _=>undef) rfl (Nat.le_refl _) (by simp) (fun i row h=>by simp at h) (fun i row j p h=>by simp at h) (fun i row j p h=>by simp at h)) .nil,.one (.slice (by simp) (fun r h=>by cases h) (fun r h=>by cases h))⟩
     ·have hall: ∀i,i<len→ ∃x:List PC×List Value,W.cells? base (a.add (i*P.cellsOf e)) (P.cellsOf e)=some x.2∧aP (cp W Kx) x.1 x.2∧qt l' x.1:=by
       intro i hi
       have h1:=hel i hi
       rw[List.getElem?_eq_getElem (by omega)]at h1
       obtain⟨cs',h2,h3⟩:=Option.bind_eq_some_iff.1 h1
       obtain⟨ps,h4,h5⟩:=An hl' h3
       exact⟨(ps,cs'),h2,h4,h5⟩
      obtain⟨L,hL,hQ⟩:=Ln hall
      have row: ∀(i:Nat) r,(L.map Prod.fst)[i]? =some r→ ∃c,L[i]? =some (r,c)∧W.cells? base (a.add (i*P.cellsOf e)) (P.cellsOf e)=some c∧aP (cp W Kx) r c∧qt l' r:=by
       intro i r hr
       rw[List.getElem?_map]at hr
       obtain⟨y,hy,rfl⟩:=Option.map_eq_some_iff.1 hr
       exact⟨y.2,hy,hQ i y hy⟩
      unfold maxLen at hmx
      refine⟨[.slice (L.map Prod.fst)],.cons (.slice (sz:=P.cellsOf e) (fun i j=>(((L[i]?).map Prod.snd).getD []).getD j undef) (by simp[hL]) hle (by omega) ?_ ?_ ?_) .nil,.one (.slice (by unfold maxLen;simp[hL];omega) ?_ ?_)⟩
      ·intro i r hr
       obtain⟨c,_,_,_,h5⟩:=row i r hr
       rw[h5.1,hc]
      ·intro i r j p hr hp
       obtain⟨c,h1,h2,h3,h5⟩:=row i r hr
       obtain⟨v,hv,_⟩:=h3.get hp
       obtain⟨_,h6,h7⟩:=World.cells?_some h2
       have hj:j<P.cellsOf e:=by
        have:=(List.getElem?_eq_some_iff.1 hv).1
        omega
       have h8:=h7 j hj
       rw[hv]at h8
       obtain⟨b,off,spot⟩:=a
       have hspot:spot=none:=by
        have hi0:0<L.length:=by
         have:=(List.getElem?_eq_some_iff.1 h1).1
         omega
        obtain⟨g1,_,_⟩:=hQ 0 L[0] (List.getElem?_eq_getElem hi0)
        obtain⟨_,g2,g3⟩:=World.cells?_some g1
        have g4:=g3 0 (by omega)
        rw[List.getElem?_eq_getElem (by omega)]at g4
        simpa[Addr.add]using World.cell?_spot g4
       subst hspot
       rw[add_plain,add_plain]at h8
       refine⟨b,off,rfl,trivial, ?_⟩
       rw[←Nat.add_assoc,h8]
       simp[h1,hv]
      ·intro i r j p hr hp
       obtain⟨c,h1,h2,h3,h5⟩:=row i r hr
       obtain⟨v,hv,hrep⟩:=h3.get hp
       simpa[h1,hv]using hrep
      ·intro r hr
       obtain⟨i,hi⟩:=List.mem_iff_getElem?.1 hr
       obtain⟨c,_,_,_,h5⟩:=row i r hi
       exact h5.1
      ·intro r hr
       obtain⟨i,hi⟩:=List.mem_iff_getElem?.1 hr
       obtain⟨c,_,_,_,h5⟩:=row i r hi
       exact h5.2
    ·cases h
   ·cases h
  ·rename_i fs ht
   obtain⟨xs,n,_,_,hl,hlen,hf⟩:=DataW.trod_struct ht hr
   have:=Fa (n:=n) (fun t l cs x h hx=>An (sf:=sf) h hx) h hl fun fd hfd=>by
    obtain⟨i,hi⟩:=List.mem_iff_getElem?.1 hfd
    have h1:=hf i fd (by simpa using hi)
    have hi':i<xs.length:=by
     have:=(List.getElem?_eq_some_iff.1 hi).1
     simp at this
     omega
    exact⟨xs[i],by rw[h1,List.getElem?_eq_getElem hi']⟩
   simpa using this
  ·cases h
def Gm (P:Program) (t:TypeId):Bool:=match P.underlying t with
 |some (.struct _)=>true
 |_=>false
def aal (row:Bool) (ps:List PC):AV:=if row then .agg (ps.map .pure)else match ps with
 |p::_=> .c (.pure p)
 | []=> .top
theorem Zg {r:Reach} {b0:Nat} {t:TypeId} {v:Value} {d:DataW H} {p:List MemPlace} {sf:Nat} {l:List TS} (hs:QU P sf t=some l) (hval:Value.okWide P W r b0 t v) (h:DataW.Trod enc P W base sp held t v d p):
  ∃ps,qt l ps∧aU W Kx (fun _=>undef) 0 (aal (Gm P t) ps) v:=by
 obtain⟨fuel,hf⟩:=h
 obtain⟨ps,h1,h2⟩:=An hs hf
 refine⟨ps,h2, ?_⟩
 have single: ∀{v:Value},v.cells= #[v]→aP (cp W Kx) ps v.cells.toList→aU W Kx (fun _=>undef) 0 (aal false ps) v:=by
  intro v hv h
  rw[hv]at h
  cases h with
  |cons h t=>exact .c (.pure h)
 cases sf with
 |zero=>cases hs
 |succ sf=>
  unfold QU at hs
  split at hs
  ·rename_i k ht
   obtain⟨n,rfl⟩:=okWide_int ht hval
   simp only[Gm,ht]
   exact single rfl h1
  ·rename_i ht
   obtain⟨n,rfl⟩:=okWide_bool ht hval
   simp only[Gm,ht]
   exact single rfl h1
  ·rename_i ht
   obtain⟨n,rfl⟩:=okWide_string ht hval
   simp only[Gm,ht]
   exact single rfl h1
  ·rename_i e ht
   obtain⟨a,n,c,rfl⟩:=okWide_slice ht hval
   simp only[Gm,ht]
   exact single rfl h1
  ·rename_i fs ht
   obtain⟨cs,rfl,_⟩:=okWide_struct ht hval
   simp only[Gm,ht]
   have h1:aP (cp W Kx) ps cs.toList:=h1
   refine .agg (aP.of_get (by simpa using h1.length) fun i x v hi hv=> ?_)
   simp only[List.getElem?_map,Option.map_eq_some_iff]at hi
   obtain⟨q,hq,rfl⟩:=hi
   obtain⟨u,hu,hr⟩:=h1.get hq
   have:u=v:=by
    rw[hv]at hu
    cases hu
    rfl
   subst this
   exact .pure hr
  ·cases hs
end
open Go.RowKit
section
variable {t : Bool} {A B : nR Prop}
theorem JQ: @jc (!t) A B= @jc t B A:=by
 cases t
 ·exact propext ⟨fun h=>⟨(fun e=>by cases e),fun _=>h.1 rfl⟩,fun h=>⟨fun _=>h.2 rfl,(fun e=>by cases e)⟩⟩
 ·exact propext ⟨fun h=>⟨fun _=>h.2 rfl,(fun e=>by cases e)⟩,fun h=>⟨(fun e=>by cases e),fun _=>h.1 rfl⟩⟩
theorem Qf: @jc (t==true) A B= @jc t A B:=by cases t<;>rfl
theorem QP: @jc (t==false) A B= @jc t B A:=by
 have:(t==false)= !t:=by cases t<;>rfl
 rw[this,JQ]
end
class Rh (t:Bool) (p q:outParam Prop):Prop where
 pos:t=true→p
 neg:t=false→q
instance (priority:=low) testT (t:Bool):Rh t (t=true) (t=false):=⟨id,id⟩
instance acF (p:Prop) [Decidable p]:Rh (decide p) p (¬p):=⟨of_decide_eq_true,of_decide_eq_false⟩
instance acD (p:Prop):Rh (BI p) p (¬p):=⟨@of_decide_eq_true p (Classical.propDecidable p), @of_decide_eq_false p (Classical.propDecidable p)⟩
theorem ab {t:Bool} {p q:Prop} [T:Rh t p q] {A B:nR Prop} (h1:p→A.out) (h2:q→B.out): @jc t A B:=⟨fun e=>h1 (T.pos e),fun e=>h2 (T.neg e)⟩
theorem abX {p:Prop}:(BI p !=false)=BI p:=by cases BI p<;>rfl
theorem ab0 {p:Prop}:(BI p !=true)= !BI p:=by cases BI p<;>rfl
theorem oE {p:Prop} (h:p):BI p=true:= @decide_eq_true p (Classical.propDecidable p) h
theorem kG {p:Prop} (h: ¬p):BI p=false:= @decide_eq_false p (Classical.propDecidable p) h
theorem W8:BI True=true:=oE trivial
theorem VU:BI False=false:=kG id
theorem YO {a b:Int}:(a==b)=decide (a=b):=rfl
theorem YU {a b:Int}:(a !=b)= !decide (a=b):=rfl
theorem nq {a b:ByteArray}:a.toList=b.toList↔a=b:=by
 constructor
 ·intro h
  rw[ByteArray.toList_eq,ByteArray.toList_eq]at h
  exact Go.WideShapes.bytes_inj h
 ·intro h;rw[h]
theorem RI {a b:ByteArray}:(a.toList==b.toList)=decide (a=b):=by
 by_cases h:a=b
 ·subst h;simp
 ·have: ¬a.toList=b.toList:=fun e=>h (nq.1 e)
  simp[h,this]
theorem Ya {a b:ByteArray}:(a.toList !=b.toList)= !decide (a=b):=by rw[bne,RI]
instance ach (s:ByteArray) (xs:List ByteArray):Decidable (s∈xs):=decidable_of_iff (∃x∈xs,x=s) (by simp)
theorem ab1 {a b:Bool}:((a==b) !=false)=(a==b):=by cases a<;>cases b<;>rfl
theorem RX {a b:Bool}:((a==b) !=true)= !(a==b):=by cases a<;>cases b<;>rfl
theorem kR {e sz bytes:Nat} {y:AV} {ys:List (List PC)} {σ:St} {K:nR (AV→St→Prop)} (hok:bl sz ys) (h1:ys.length*bytes≤140737488355328) (h2:ys.length≤140737488355328)
  (hk:K.out (.c (.ref σ.nx)) {σ with mem:=(σ.nx,.arr e sz ys)::σ.mem,nx:=σ.nx+1}): @Eb e sz bytes (.c .nils) y ys σ K:=
 ⟨hok,.inr (.inl ⟨rfl,.inl ⟨by simpa using h1,by simpa using h2,hk⟩⟩)⟩
theorem Fd {e sz bytes:Nat} {y:AV} {ys:List (List PC)} {σ:St} {K:nR (AV→St→Prop)} (hok:bl sz ys) (h1:ys.length*bytes≤140737488355328) (h2:ys.length≤140737488355328)
  (hk:K.out (.c (.pure (.slice ys))) σ): @Eb e sz bytes (.c .nils) y ys σ K:=
 ⟨hok,.inr (.inl ⟨rfl,.inr ⟨by simpa using h1,by simpa using h2,hk⟩⟩)⟩
theorem aJ {e sz bytes nm:Nat} {y:AV} {rows ys:List (List PC)} {σ:St} {K:nR (AV→St→Prop)} (hf:am σ.mem nm=some (.arr e sz rows)) (hne:y≠ .c (.ref nm)) (hok:bl sz ys) (h1:(rows.length+ys.length)*bytes≤140737488355328) (h2:rows.length+ys.length≤140737488355328)
  (hk:K.out (.c (.ref σ.nx)) {σ with mem:=(σ.nx,.arr e sz (rows++ys))::mz σ.mem nm,nx:=σ.nx+1}): @Eb e sz bytes (.c (.ref nm)) y ys σ K:=
 ⟨hok,.inl ⟨nm,rfl,hne,rows,hf,h1,h2,hk⟩⟩
abbrev du {α:Type} (f:α→List PC) (xs:List α):PC:= .slice (xs.map f)
abbrev j5 {α:Type} (f:α→List PC) (xs:List α):AV:= .c (.pure (du f xs))
abbrev pI (n:Int):PC:= .val (.int .i64 n)
abbrev pS (s:ByteArray):PC:= .val (.string s)
abbrev pB (b:Bool):PC:= .val (.bool b)
theorem ah {α β:Type} {f:α→β} {xs:List α} {k:Nat} (h:k<xs.length):(xs.map f)[k]? =some (f xs[k]):=by simp[h]
open Go.RowKit
def abU (rs:List AR) (e sz:Nat) (rows:List (List PC)):bk→St→Prop
 | .exit _,_=>False
 | .ret,σ=>kA σ rs [] fun vs=> ∃nm,eF vs= .c (.ref nm)∧am σ.mem nm=some (.arr e sz rows)
 | .normal,σ=>kA σ rs [] fun vs=> ∃nm,eF vs= .c (.ref nm)∧am σ.mem nm=some (.arr e sz rows)
theorem su {w:World} {B B' e sz n:Nat} {v:Value} {cells:List Value} (h:w.ownsRow B e sz v n cells) (hB:B'≤B):w.ownsRow B' e sz v n cells:=by
 refine⟨h.1, ?_⟩
 rcases h.2 with h|⟨g,cap,cur,e,hg,h⟩
 ·exact .inl h
 ·exact .inr ⟨g,cap,cur,e,Nat.le_trans hB hg,h⟩
attribute [go_sem ↓] abU
def KU (P:Program) (f:FuncId):Option (Nat×ak×List AR):=
 match P.funcs[f]? with
 |some fn => match fn.name == "runtime.NumGoroutine" with
  |false=>match fn.body with
   |some c=>match ed P fn.ntmps c with
    |some b=>match Gg P fn.results.toList with
     |some rs=>some (fn.ntmps,b,rs)
     |none=>none
    |none=>none
   |none=>none
  |true=>none
 |none=>none
theorem ai {P:Program} {f:FuncId} {nt:Nat} {c:ak} {rs:List AR} (h:KU P f=some (nt,c,rs)):aA P f nt c rs:=by
 unfold KU at h
 split at h
 ·rename_i fn e1
  split at h
  ·rename_i e2
   split at h
   ·rename_i c0 e3
    split at h
    ·rename_i b e4
     split at h
     ·rename_i rs' e5
      cases h
      exact⟨fn,c0,e1,e3,e2,rfl,e4,e5⟩
     ·cases h
    ·cases h
   ·cases h
  ·cases h
 ·cases h
def f5 (P:Program) (f:FuncId):ak:=match KU P f with
 |some (_,c,_)=>c
 |none=> .skip
theorem cI {P:Program} {f:FuncId} {nt:Nat} {rs:List AR} (h:KU P f=some (nt,f5 P f,rs):=by kernel_rfl):aA P f nt (f5 P f) rs:=ai h
abbrev o_ (d:Nat) (x:fc):AG:=⟨some d,none,x⟩
abbrev m_ (d s:Nat):AG:=⟨some d,none,.mv (.t s)⟩
abbrev u_ (x:fc):AG:=⟨none,none,x⟩
abbrev k_ (n:Int):AX:= .k (.c (.pure (.val (.int .i64 n))))
abbrev i_ (n:Int):AC:= .pure (.val (.int .i64 n))
abbrev f_ (n:FuncId):AX:= .k (.c (.clo n []))
abbrev c_ (f:AX) (l:List AX):fc:= .call true true f l
abbrev b_ (b:Bool):AX:= .k (.c (.pure (.val (.bool b))))
abbrev g_ (d t:Nat) (w:Bool) (x:fc):AG:=⟨some d,some (t,w),x⟩
abbrev r_ (l:List AG):ak:= .region l false
abbrev l_ (n:Nat):fc:= .load none (.t n)
abbrev L_ (k n:Nat):fc:= .load (some k) (.t n)
abbrev a_ (k n:Nat):fc:= .fieldA k (.t n)
abbrev x_ (k a b:Nat):fc:= .idxA k (.t a) (.t b)
abbrev S_ (k a b:Nat):fc:= .store k (.t a) (.t b)
abbrev e_ (n k:Nat):fc:= .ext (.t n) k
abbrev z_ (n:Nat):fc:= .len (.t n)
abbrev w_ (n:Int):fc:= .mv (k_ n)
abbrev j_ (n:Nat):fc:= .bin .add (.t n) (k_ 1)
abbrev q_ (a b:Nat):fc:= .bin .lss (.t a) (.t b)
abbrev Q_ (o:BinOp) (a:Nat) (k:Int):fc:= .bin o (.t a) (k_ k)
abbrev C_ (f:FuncId) (l:List AX):fc:= .call true true (f_ f) l
abbrev P_ (d:Nat) (x:fc):Bool×AG:=(false,o_ d x)
abbrev M_ (d s:Nat):Bool×AG:=(false,m_ d s)
abbrev U_ (x:fc):Bool×AG:=(false,u_ x)
abbrev s_ (l:List AG) (c:ak):ak:= .seq (.region l false) c
abbrev y_ (n:Nat) (c d:ak):ak:= .cond (.t n) c d
abbrev X_ (n k:Nat):ak:= .cond (.t n) .skip (.exit k)
attribute [go_sem ↓] List.map_cons List.map_nil
attribute [go_sem] true_and and_true List.nil_append Lb Int.toNat_natCast List.length_map List.length_cons List.length_nil Option.some.injEq not_true_eq_false not_false_eq_true JQ Qf QP YO YU RI Ya ab1 RX abX ab0 W8 VU Bool.false_eq_true List.cons_append decide_true decide_false Nat.add_zero Nat.zero_add List.drop_succ_cons List.drop_zero List.take_succ_cons List.take_zero Option.map_some Option.map_none List.getElem?_cons_zero List.getElem?_cons_succ eq_self beq_self_eq_true Bool.bne_false Bool.bne_true Bool.true_beq Bool.false_beq
end Go.Abs
