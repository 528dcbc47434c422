import Derived.Test.YthbcbaembicdbaaGreatDoorAbsP
import Derived.LoopN
import Derived.RangeFuncLeaves
import Derived.RangeFuncNested
import Derived.OrdersIn
import Derived.LoopNIn
import Derived.ChangeArms
import Derived.WideShapes
set_option linter.unusedVariables false
set_option linter.unusedSimpArgs false
namespace Go.Abs
open Go.RowKit
section
variable {P : Program} {o : Oper} {a : Act} {w w' w0 : World} {U : Gh} {ι : Pl} {σ : St} {next : Act → World → Prop} {Q : Exit → Act → World → Prop} {K : AV → St → Prop}
theorem yd {α:Type} {x:Option α} {p:α→Bool} (h:x.map p=some true): ∃z,x=some z∧p z=true:=by
 cases x with
 |none=>cases h
 |some z=>exact⟨z,rfl,by simpa using h⟩
theorem P2 {op:BinOp} {t t':TypeId} {x y:Operand} {p q:AX} {neg:Bool} (hop:(op= .eql∧neg=false)∨(op= .neq∧neg=true)) (ht:PW P t=true) (hq:IW q=true) (ho:o.op= .binOp op t x y t') (hx:aK x=some p) (hy:aK y=some q)
  (h:bq P (.snil neg p) σ K) (hs:bD w0 U σ ι a w) (hn:fB w0 U a o K next):o.wp P a w next Q:=by
 have r1:=ay hx hs
 have r2:=ay hy hs
 unfold IW at hq
 split at hq
 ·have e2:a.eval y= .slice none 0 0:=vM r2
  unfold PW at ht
  split at ht
  ·rename_i et hT
   have key: ∀(ad:Option Addr) (n c:Nat),a.eval x= .slice ad n c→K (.c (.pure (.val (.bool (ad.isNone !=neg))))) σ→o.wp P a w next Q:=by
    intro ad n c hu hk
    have hr:(Op.equal t (.slice ad n c) (.slice none 0 0)).run P w= .ok ad.isNone w:=by
     show(Op.equalIn (9999+1) t (.slice ad n c) (.slice none 0 0)).run P w= .ok ad.isNone w
     unfold Op.equalIn
     cases ad<;>simp[run_underlying hT]
    have hg:(eqGuard op t x y (.slice ad n c) (.slice none 0 0)).run P w= .ok () w:=by unfold eqGuard;cases op<;>simp
    refine aE (u:= .bool (ad.isNone !=neg)) (w':=w) ?_ (hn _ σ ι _ w hk hs (jj _))
    simp only[execOp,ho,hu,e2]
    rw[Sem.run_bind,Sem.run_bind,hg]
    rcases hop with⟨rfl,rfl⟩|⟨rfl,rfl⟩<;>simp[binOp,hr]
   have rows: ∀{V:Nat→Prop} {rs:List (List PC)} {ad:Option Addr} {n c:Nat},a.eval x= .slice ad n c→bY w V (.slice rs) (.slice ad n c)→ @GQ rs ⟨K (.c (.pure (.val (.bool (!neg))))) σ⟩ ⟨K (.c (.pure (.val (.bool neg)))) σ⟩→o.wp P a w next Q:=by
    intro V rs ad n c hu hr hnil
    cases ad with
    |some ad=>exact key _ _ _ hu (by have:=hnil.2;cases neg<;>exact this)
    |none=>
     refine key _ _ _ hu ?_
     have:=hnil.1 (λr hr0=>by
      cases hr with
      | @slice sz _ _ _ _ g hn hc hm hr hcell hp=>
       obtain⟨k,hk⟩:=List.mem_iff_getElem?.1 hr0
       cases r with
       |nil=>rfl
       |cons p0 r=>
        obtain⟨b,off,e,_⟩:=hcell k _ 0 p0 hk rfl
        cases e)
     cases neg<;>exact this
   simp only[bq]at h
   split at h
   ·rename_i e
    rw[e]at r1
    generalize hu:a.eval x=u at r1
    cases r1 with
    |c r1=>
     cases r1
     exact key _ _ _ hu (by cases neg<;>exact h)
   ·rename_i rs e
    rw[e]at r1
    generalize hu:a.eval x=u at r1
    cases r1 with
    |c r1=>
     cases r1 with
     |pure r1=>
      have r1':=r1
      cases r1
      exact rows hu r1' h
   ·rename_i rs e
    rw[e]at r1
    generalize hu:a.eval x=u at r1
    cases r1 with
    |c r1=>
     cases r1 with
     |tsl r1=>exact rows hu r1 h
   ·rename_i nm e
    rw[e]at r1
    split at h
    ·rename_i rs hf
     have hv:=uS r1
     obtain⟨cells,k0,k1,k2,k3⟩:=hs.box _ _ hf
     rcases k1.2 with⟨e0,e1⟩|⟨g,cap,cur,e0,_⟩
     ·rw[e0]at hv
      refine key _ _ _ hv ?_
      have hz:rs= []:=List.eq_nil_of_length_eq_zero (by simpa using e1)
      subst hz
      have:=h.1 (by simp)
      cases neg<;>exact this
     ·rw[e0]at hv
      refine key _ _ _ hv ?_
      have:=h.2
      cases neg<;>exact this
    ·exact h.elim
   ·exact h.elim
  ·cases ht
 ·cases hq
set_option maxHeartbeats 1000000 in
theorem Lj {dr:Bool} {ao:eL} (hc:bN P dr o.op=some ao) (h:bq P ao σ K) (hs:bD w0 U σ ι a w) (hn:fB w0 U a o K next):o.wp P a w next Q:=by
 cases hop:o.op with
 |move x=>
  rw[hop]at hc
  simp only[bN,Option.map_eq_some_iff]at hc
  obtain⟨y,hy,rfl⟩:=hc
  exact X4 (.inl hop) hy h hs hn
 |assign x=>
  rw[hop]at hc
  simp only[bN,Option.map_eq_some_iff]at hc
  obtain⟨y,hy,rfl⟩:=hc
  exact X4 (.inr hop) hy h hs hn
 |pick c x y=>
  rw[hop]at hc
  simp only[bN]at hc
  split at hc
  ·cases hc
   exact WL hop ‹_› ‹_› ‹_› h hs hn
  ·cases hc
 |alloc t=>
  rw[hop]at hc
  simp only[bN,Option.map_eq_some_iff,Option.bind_eq_some_iff]at hc
  obtain⟨v,⟨z,h1,h2⟩,rfl⟩:=hc
  exact Sw hop h1 h2 h hs hn
 |box t x=>
  rw[hop]at hc
  simp only[bN,Option.map_eq_some_iff]at hc
  obtain⟨y,hy,rfl⟩:=hc
  exact Zx hop hy h hs hn
 |build t parts=>
  rw[hop]at hc
  simp only[bN]at hc
  split at hc
  ·cases hc
   exact UQ hop ‹_› ‹_› h hs hn
  ·cases hc
 |buildSlice t n parts=>
  rw[hop]at hc
  simp only[bN]at hc
  split at hc
  ·split at hc
   ·rename_i hcond
    obtain⟨h1,h2,h3,h4⟩:=hcond
    obtain⟨z,hz,hzs⟩:=yd h4
    cases hc
    split at h
    ·exact NM hop ‹_› ‹_› h1 h2 h3 hz (of_decide_eq_true hzs) h hs hn
    ·exact Rt hop ‹_› ‹_› h1 h2 h3 hz (of_decide_eq_true hzs) h hs hn
   ·cases hc
  ·cases hc
 |load t p=>
  rw[hop]at hc
  simp only[bN]at hc
  split at hc
  ·cases hc
   exact Wf hop ‹_› ‹_› h hs hn
  ·cases hc
 |store t p v=>
  rw[hop]at hc
  simp only[bN]at hc
  split at hc
  ·cases hc
   exact Vm hop ‹_› ‹_› ‹_› h hs hn
  ·cases hc
 |binOp op t x y t'=>
  rw[hop]at hc
  simp only[bN]at hc
  split at hc
  ·rename_i p q h1 h2
   split at hc
   ·split at hc
    ·cases hc
     rename_i hb
     unfold Jk at hb
     split at hb
     ·exact U7 (.inl ⟨rfl,rfl⟩) ‹_› hop h1 h2 h hs hn
     ·cases hb
    ·split at hc
     ·simp only[Option.map_eq_some_iff]at hc
      obtain⟨l,hl,rfl⟩:=hc
      exact UE (.inl ⟨rfl,rfl⟩) ‹_› hl hop h1 h2 h hs hn
     split at hc
     ·split at hc
      ·cases hc
       exact Px (.inl ⟨rfl,rfl⟩) ‹_› ‹_› hop h1 h2 h hs hn
      ·cases hc
     split at hc
     ·split at hc
      ·cases hc
       exact P2 (.inl ⟨rfl,rfl⟩) ‹_› ‹_› hop h1 h2 h hs hn
      ·cases hc
     ·cases hc
      exact Nl hop h1 h2 h hs hn
   ·split at hc
    ·cases hc
     rename_i hb
     unfold Jk at hb
     split at hb
     ·exact U7 (.inr ⟨rfl,rfl⟩) ‹_› hop h1 h2 h hs hn
     ·cases hb
    ·split at hc
     ·simp only[Option.map_eq_some_iff]at hc
      obtain⟨l,hl,rfl⟩:=hc
      exact UE (.inr ⟨rfl,rfl⟩) ‹_› hl hop h1 h2 h hs hn
     split at hc
     ·split at hc
      ·cases hc
       exact Px (.inr ⟨rfl,rfl⟩) ‹_› ‹_› hop h1 h2 h hs hn
      ·cases hc
     split at hc
     ·split at hc
      ·cases hc
       exact P2 (.inr ⟨rfl,rfl⟩) ‹_› ‹_› hop h1 h2 h hs hn
      ·cases hc
     ·cases hc
      exact Nl hop h1 h2 h hs hn
   ·cases hc
    exact Nl hop h1 h2 h hs hn
  ·cases hc
 |unOp op t x=>
  rw[hop]at hc
  simp only[bN,Option.map_eq_some_iff]at hc
  obtain⟨y,hy,rfl⟩:=hc
  exact aaZ hop hy h hs hn
 |convert s d x=>
  rw[hop]at hc
  simp only[bN]at hc
  split at hc
  ·cases hc
   exact WJ hop ‹_› ‹_› ‹_› h hs hn
  ·cases hc
 |nilCheck x=>
  rw[hop]at hc
  simp only[bN,Option.map_eq_some_iff]at hc
  obtain⟨y,hy,rfl⟩:=hc
  exact Wy hop hy h hs hn
 |slice t x lo hi mx=>
  rw[hop]at hc
  simp only[bN]at hc
  split at hc
  ·rename_i e0 _ _ _ _ g0 g1 g2 g3 g4
   split at hc
   ·rename_i hel
    split at hc
    ·rename_i hcond
     cases hc
     exact Y0 hop hel ‹_› ‹_› ‹_› ‹_› hcond.2 h hs hn
    ·cases hc
   ·cases hc
  ·rename_i e0 _ _ _ g0 g1 g2 g3 g4
   cases hc
   cases mx with
   |none=>exact XL hop ‹_› ‹_› ‹_› ‹_› h hs hn
   |some m=>simp[m5]at g4
  ·cases hc
 |fieldAddr s x f=>
  rw[hop]at hc
  simp only[bN]at hc
  split at hc
  ·split at hc
   ·cases hc
   ·cases hc
    exact Ru hop ‹_› ‹_› ‹_› h hs hn
  ·cases hc
 |field s x f=>
  rw[hop]at hc
  simp only[bN]at hc
  split at hc
  ·simp only[Option.map_eq_some_iff]at hc
   obtain⟨n,h1,rfl⟩:=hc
   exact Uf hop ‹_› h1 ‹_› h hs hn
  ·cases hc
 |indexAddr t x i=>
  rw[hop]at hc
  simp only[bN]at hc
  split at hc
  ·cases hc
   exact Xl hop ‹_› ‹_› ‹_› h hs hn
  ·split at hc
   ·simp only[Option.map_eq_some_iff]at hc
    obtain⟨n,h1,rfl⟩:=hc
    exact Wm hop ‹_› h1 ‹_› ‹_› h hs hn
   ·cases hc
  ·cases hc
 |index t x i=>
  rw[hop]at hc
  simp only[bN]at hc
  split at hc
  ·split at hc
   ·cases hc
    exact Wz hop ‹_› ‹_› ‹_› h hs hn
   ·cases hc
  ·cases hc
 |makeSlice t l c=>
  rw[hop]at hc
  simp only[bN]at hc
  split at hc
  ·rename_i e sz bytes p q h1 h2 h3
   split at hc
   ·rename_i hcond
    obtain⟨rfl,h0,h4⟩:=hcond
    obtain⟨z,hz,hzs⟩:=yd h4
    simp only[Option.map_eq_some_iff,Option.bind_eq_some_iff]at hc
    obtain⟨zs,⟨z',hz',hpz⟩,rfl⟩:=hc
    rw[hz]at hz'
    cases hz'
    have hl:l= .tmp p:=by cases l<;>simp[aK]at h2;rw[h2]
    have hcc:c= .tmp p:=by cases c<;>simp[aK]at h3;rw[h3]
    subst hl
    subst hcc
    exact M5 hop h1 h0 hz (of_decide_eq_true hzs) hpz h hs hn
   ·cases hc
  ·cases hc
 |makeMap t r=>
  rw[hop]at hc
  cases r with
  |none=>
   simp only[bN]at hc
   split at hc
   ·cases hc
    exact Un hop h hs hn
   ·cases hc
  |some r=>simp[bN]at hc
 |lookup t m k ok=>
  rw[hop]at hc
  simp only[bN]at hc
  split at hc
  ·simp only[Option.map_eq_some_iff,Option.bind_eq_some_iff]at hc
   obtain⟨zs,⟨z,hz,hzs⟩,rfl⟩:=hc
   exact Ww hop ‹_› hz hzs ‹_› ‹_› h hs hn
  ·cases hc
 |mapUpdate t m k v=>
  rw[hop]at hc
  simp only[bN]at hc
  split at hc
  ·cases hc
   exact OU (.inl hop) ‹_› ‹_› ‹_› ‹_› h hs hn
  ·cases hc
 |insert t m k v=>
  rw[hop]at hc
  simp only[bN]at hc
  split at hc
  ·cases hc
   exact OU (.inr hop) ‹_› ‹_› ‹_› ‹_› h hs hn
  ·cases hc
 |extract x i=>
  rw[hop]at hc
  simp only[bN,Option.map_eq_some_iff]at hc
  obtain⟨y,hy,rfl⟩:=hc
  exact ZE hop hy h hs hn
 |makeFunc fn first caps=>
  rw[hop]at hc
  cases fn with
  |func f=>
   simp only[bN]at hc
   split at hc
   ·simp only[Option.map_eq_some_iff]at hc
    obtain⟨y,hy,rfl⟩:=hc
    exact WF hop ‹_› hy h hs hn
   ·cases hc
  |_=>simp[bN]at hc
 |call c=>
  rw[hop]at hc
  obtain⟨callee,args,argTypes⟩:=c
  cases callee with
  |value f=>
   simp only[bN]at hc
   split at hc
   ·cases hc
    exact Xw rfl rfl hop ‹_› ‹_› h hs hn
   ·cases hc
  |invoke r m=>simp[bN]at hc
  |builtin b=>
   cases b with
   |len=>
    simp only[bN]at hc
    split at hc
    ·split at hc
     ·cases hc
      exact Y2 rfl ‹_› ‹_› hop ‹_› ‹_› h hs hn
     ·cases hc
      exact Xo rfl ‹_› ‹_› hop ‹_› ‹_› h hs hn
     ·cases hc
    ·cases hc
   |min=>
    simp only[bN]at hc
    split at hc
    ·split at hc
     ·cases hc
      exact Yh (.inl ⟨rfl,rfl⟩) ‹_› hop ‹_› ‹_› h hs hn
     ·cases hc
    ·cases hc
   |max=>
    simp only[bN]at hc
    split at hc
    ·split at hc
     ·cases hc
      exact Yh (.inr ⟨rfl,rfl⟩) ‹_› hop ‹_› ‹_› h hs hn
     ·cases hc
    ·split at hc
     ·cases hc
      exact Y7 rfl ‹_› hop ‹_› ‹_› ‹_› ‹_› h hs hn
     ·cases hc
    ·cases hc
   |append=>
    simp only[bN]at hc
    split at hc
    ·split at hc
     ·rename_i htu
      subst htu
      split at hc
      ·split at hc
       ·rename_i hcond
        obtain⟨h0,h4⟩:=hcond
        obtain⟨z,hz,hzs⟩:=yd h4
        cases hc
        exact ZF rfl ‹_› ‹_› hop ‹_› h0 hz (of_decide_eq_true hzs) ‹_› ‹_› h hs hn
       ·cases hc
      ·cases hc
     ·cases hc
    ·cases hc
   |_=>simp[bN]at hc
 |makeInterface t x=>
  rw[hop]at hc
  cases hc
  exact h.elim
 |panic x=>
  rw[hop]at hc
  cases hc
  exact h.elim
 |_=>rw[hop]at hc;simp[bN]at hc
end
open Go.RowKit
def yM (F:(AV→St→Prop)→Prop):Prop:= ∀K,F K→ ∃v σ',F (λv' τ=>v'=v∧τ=σ')∧K v σ'
theorem L7 {α:Type} {o:Option α} {F:α→(AV→St→Prop)→Prop} {G:(AV→St→Prop)→Prop} (h: ∀x,yM (F x)) (h':yM G):yM λK=> @tJ _ o ⟨λx=>F x K⟩ ⟨G K⟩:= λK hK=>by
 cases o with
 |none=>
  obtain⟨v,s,h1,h2⟩:=h' K (hK.2 rfl)
  exact⟨v,s,⟨(λx e=>by cases e),λ_=>h1⟩,h2⟩
 |some x=>
  obtain⟨v,s,h1,h2⟩:=h x K (hK.1 x rfl)
  exact⟨v,s,⟨λy e=>by cases e;exact h1,(λe=>by cases e)⟩,h2⟩
theorem bT {v:AV} {σ:St}:yM λK=>K v σ:= λK h=>⟨v,σ,⟨rfl,rfl⟩,h⟩
theorem aF:yM λ_=>False:= λK h=>h.elim
theorem cn {p:Prop} {F:(AV→St→Prop)→Prop} (h:yM F):yM λK=> @cN p ⟨F K⟩:= λK hK=>by
 obtain⟨v,s,h1,h2⟩:=h K hK.2
 exact⟨v,s,⟨hK.1,h1⟩,h2⟩
theorem eI {α:Type} {o:Option α} {F:α→(AV→St→Prop)→Prop} (h: ∀x,yM (F x)):yM λK=> @fG _ o ⟨λx=>F x K⟩:= λK hK=>by
 obtain⟨x,e,hK⟩:=hK
 obtain⟨v,s,h1,h2⟩:=h x K hK
 exact⟨v,s,⟨x,e,h1⟩,h2⟩
theorem UF {t:Bool} {F G:(AV→St→Prop)→Prop} (h:yM F) (h':yM G):yM λK=> @i9 t ⟨F K⟩ ⟨G K⟩:= λK hK=>by
 cases t with
 |true=>
  obtain⟨v,s,h1,h2⟩:=h K (hK.1 rfl)
  exact⟨v,s,⟨λ_=>h1,(λe=>by cases e)⟩,h2⟩
 |false=>
  obtain⟨v,s,h1,h2⟩:=h' K (hK.2 rfl)
  exact⟨v,s,⟨(λe=>by cases e),λ_=>h1⟩,h2⟩
theorem Sp {op:BinOp} {k:IntKind} {a b:Int} {σ:St}:yM λK=>nf op k a b λv=>K (.c (.pure (.val v))) σ:=by
 cases op<;>simp only[nf]<;>first|exact aF|exact cn bT|exact bT
theorem SQ {op:BinOp} {a b:ByteArray} {σ:St}:yM λK=>xV op a b λv=>K (.c (.pure (.val v))) σ:=by
 cases op<;>simp only[xV]<;>first|exact aF|exact cn bT|exact bT
theorem Tm {op:BinOp} {x y:Value} {σ:St}:yM λK=>Bd op x y λv=>K (.c (.pure (.val v))) σ:=by
 unfold Bd
 split
 ·exact cn Sp
 ·exact SQ
 ·exact aF
theorem F0 {op:BinOp} {x y:Value} {σ:St}:yM λK=>nK op x y λv=>K (.c (.pure (.val v))) σ:=by
 unfold nK
 split
 ·refine cn ?_
  cases op<;>simp only[uj]<;>first|exact aF|exact bT
 ·exact aF
theorem HQ {σ:St} {F:List AC→(AV→St→Prop)→Prop} (hF: ∀x,yM (F x)): ∀{ps:List (Nat×Nat×AX)} {acc:List AC},yM λK=>bq.buildW σ ps acc λxs=>F xs K
 | [],acc=>hF acc
 |(off,n,x)::ps,acc=>by
  simp only[bq.buildW]
  split
  ·exact cn (HQ hF)
  ·exact aF
theorem D3 {σ:St} {sz:Nat} {F:List (List PC)→(AV→St→Prop)→Prop} (hF: ∀x,yM (F x)): ∀{ps:List AX} {acc:List (List PC)},yM λK=>bq.bsliceW σ sz ps acc λxs=>F xs K
 | [],acc=>hF acc
 |x::ps,acc=>by
  simp only[bq.bsliceW]
  split
  ·exact eI λz=>cn (D3 hF)
  ·exact aF
theorem BI {σ:St} {sz:Nat} {F:List (List PC)→List (Nat×aU)→(AV→St→Prop)→Prop} (hF: ∀x m,yM (F x m)): ∀{ps:List AX} {mem:List (Nat×aU)} {acc:List (List PC)},yM λK=>bq.bsliceFW σ sz ps mem acc λxs m=>F xs m K
 | [],mem,acc=>hF acc mem
 |x::ps,mem,acc=>by
  simp only[bq.bsliceFW]
  split
  ·exact eI λz=>cn (BI hF)
  ·exact aF
theorem LI {σ:St} {F:List AC→(AV→St→Prop)→Prop} (hF: ∀x,yM (F x)): ∀{ps:List AX} {acc:List AC},yM λK=>bq.mkfnW σ ps acc λxs=>F xs K
 | [],acc=>hF acc
 |x::ps,acc=>by
  simp only[bq.mkfnW]
  split
  ·exact LI hF
  ·exact aF
theorem ST {P:Program} {g z:Bool} {f:FuncId} {args:List AV} {σ:St}:yM λK=> @sG P g z f args σ ⟨K⟩:=by
 rintro K ⟨l,σ',args',hg,hz,(⟨pargs,h1,res,h2,h4⟩|⟨h1,res,m,n,h2,h4⟩)⟩
 ·exact⟨res,σ',⟨l,σ',args',hg,hz,.inl ⟨pargs,h1,res,h2,rfl,rfl⟩⟩,h4⟩
 ·exact⟨res,_,⟨l,σ',args',hg,hz,.inr ⟨h1,res,m,n,h2,rfl,rfl⟩⟩,h4⟩
theorem Xb {e sz bytes:Nat} {x y:AV} {ys:List (List PC)} {σ:St}:yM λK=> @Fy e sz bytes x y ys σ ⟨K⟩:=by
 rintro K ⟨hok,h⟩
 rcases h with⟨nm,h1,h2,rows,h3,h4,h5,h6⟩|⟨h1,h|h⟩|⟨rows,h1,h2,⟨h3,h⟩|h|h⟩
 ·exact⟨_,_,⟨hok,.inl ⟨nm,h1,h2,rows,h3,h4,h5,rfl,rfl⟩⟩,h6⟩
 ·exact⟨_,_,⟨hok,.inr (.inl ⟨h1,.inl ⟨h.1,h.2.1,rfl,rfl⟩⟩)⟩,h.2.2⟩
 ·exact⟨_,_,⟨hok,.inr (.inl ⟨h1,.inr ⟨h.1,h.2.1,rfl,rfl⟩⟩)⟩,h.2.2⟩
 ·exact⟨_,_,⟨hok,.inr (.inr ⟨rows,h1,h2,.inl ⟨h3,h.1,h.2.1,rfl,rfl⟩⟩)⟩,h.2.2⟩
 ·exact⟨_,_,⟨hok,.inr (.inr ⟨rows,h1,h2,.inr (.inl ⟨h.1,h.2.1,rfl,rfl⟩)⟩)⟩,h.2.2⟩
 ·exact⟨_,_,⟨hok,.inr (.inr ⟨rows,h1,h2,.inr (.inr ⟨h.1,rfl,rfl⟩)⟩)⟩,h.2⟩
theorem IL {P:Program} {op:eL} {σ:St} (hgc:op.gcall=false):yM (bq P op σ):=by
 have eta: ∀{F:(AV→St→Prop)→Prop},yM (λK=>F K)→yM F:= λh=>h
 apply eta
 cases op<;>simp only[bq]
 case mv=>exact bT
 case pick=>split;exact UF bT bT;exact aF
 case box=>split;exact bT;exact aF
 case load=>
  split
  ·split
   ·split
    ·split
     ·exact bT
     ·exact aF
    ·exact cn bT
   ·exact aF
  ·exact aF
 case store=>
  split
  ·split
   ·exact cn bT
   ·exact aF
  ·split
   ·exact cn (eI λz=>eI λr=>bT)
   ·exact cn (eI λr=>bT)
   ·exact aF
  ·exact aF
 case bin=>
  split
  ·split
   ·exact F0
   ·exact F0
   ·exact Tm
  ·exact aF
 case eqb=>split;exact bT;exact aF
 case eqs=>split;exact cn bT;exact aF
 case un=>split<;>first|exact bT|exact aF
 case conv=>split;exact bT;exact aF
 case fieldA=>split<;>first|exact bT|exact aF
 case field=>
  split
  ·split
   ·split
    ·exact bT
    ·exact aF
   ·exact cn bT
  ·exact aF
 case idxA=>
  split
  ·exact cn (eI λr=>cn bT)
  ·exact cn (eI λr=>cn bT)
  ·split
   ·exact cn bT
   ·exact cn bT
   ·exact aF
  ·exact aF
 case idxR=>split<;>first|exact cn bT|exact aF
 case idxS=>split;exact cn (eI λb=>bT);exact aF
 case nilc=>split<;>first|exact bT|exact aF
 case build=>exact HQ λx=>bT
 case bslice=>exact D3 λx=>bT
 case mkslice=>split;exact cn bT;exact aF
 case slc=>
  split
  ·exact aF
  ·exact eI λrows=>eI λlo=>eI λhi=>eI λmx=>cn bT
 case slcS=>split;exact cn bT;exact aF
 case ext=>split;exact eI λv=>bT;exact aF
 case len=>
  split
  ·exact bT
  ·exact bT
  ·exact bT
  ·split
   ·exact bT
   ·exact bT
   ·exact aF
  ·exact aF
 case lenS=>split;exact bT;exact aF
 case mm=>split;exact bT;exact aF
 case mm4=>split;exact bT;exact aF
 case dead=>exact aF
 case fnil=>split;exact bT;exact bT;exact aF
 case snil=>cases hgc
 case app=>exact eI λys=>Xb
 case mkfn=>exact LI λx=>bT
 case call=>split;exact ST;exact aF
 case bsliceF=>exact BI λx m=>bT
 case mkmap=>exact bT
 case mget=>
  split
  ·refine eI λmk=> ?_
   split
   ·split
    ·exact cn (L7 (λps=>bT) bT)
    ·exact aF
   ·exact cn (L7 (λps=>bT) bT)
   ·exact aF
  ·exact aF
 case mput=>
  split
  ·refine eI λmk=> ?_
   split
   ·refine eI λys=> ?_
    split
    ·exact cn bT
    ·exact aF
   ·exact aF
  ·exact aF
theorem bQ {fr fr2:List (Nat×AV)} {x:AX} (h: ∀t∈x.tmps,aI fr2 t=aI fr t):x.ev fr2=x.ev fr:=by
 cases x with
 |t n=>exact h n (by simp[AX.tmps])
 |k v=>rfl
def jl (s s2:St) (F F2:(AV→St→Prop)→Prop):Prop:= ∀K K2,(∀v,K v s→K2 v s2)→F K→F2 K2
section
variable {s s2 : St}
theorem bZ {v:AV}:jl s s2 (λK=>K v s) (λK=>K v s2):= λK K2 hk h=>hk v h
theorem aM {F2:(AV→St→Prop)→Prop}:jl s s2 (λ_=>False) F2:= λK K2 hk h=>h.elim
theorem dG {p:Prop} {F F2:(AV→St→Prop)→Prop} (h:jl s s2 F F2):jl s s2 (λK=> @cN p ⟨F K⟩) (λK=> @cN p ⟨F2 K⟩):= λK K2 hk hK=>⟨hK.1,h K K2 hk hK.2⟩
theorem mR {α:Type} {o:Option α} {F F2:α→(AV→St→Prop)→Prop} (h: ∀x,jl s s2 (F x) (F2 x)):jl s s2 (λK=> @fG _ o ⟨λx=>F x K⟩) (λK=> @fG _ o ⟨λx=>F2 x K⟩):= λK K2 hk hK=>by
 obtain⟨x,e,hK⟩:=hK
 exact⟨x,e,h x K K2 hk hK⟩
theorem Tn {α:Type} {o o2:Option α} (ho: ∀x,o=some x→o2=some x) {F F2:α→(AV→St→Prop)→Prop} (h: ∀x,jl s s2 (F x) (F2 x)):jl s s2 (λK=> @fG _ o ⟨λx=>F x K⟩) (λK=> @fG _ o2 ⟨λx=>F2 x K⟩):= λK K2 hk hK=>by
 obtain⟨x,e,hK⟩:=hK
 exact⟨x,ho x e,h x K K2 hk hK⟩
theorem SM {t:Bool} {F G F2 G2:(AV→St→Prop)→Prop} (h:jl s s2 F F2) (h':jl s s2 G G2):jl s s2 (λK=> @i9 t ⟨F K⟩ ⟨G K⟩) (λK=> @i9 t ⟨F2 K⟩ ⟨G2 K⟩):= λK K2 hk hK=>
 ⟨λe=>h K K2 hk (hK.1 e),λe=>h' K K2 hk (hK.2 e)⟩
theorem JC {rows:List (List PC)} {F G F2 G2:(AV→St→Prop)→Prop} (h:jl s s2 F F2) (h':jl s s2 G G2):jl s s2 (λK=> @GQ rows ⟨F K⟩ ⟨G K⟩) (λK=> @GQ rows ⟨F2 K⟩ ⟨G2 K⟩):= λK K2 hk hK=>
 ⟨λe=>h K K2 hk (hK.1 e),h' K K2 hk hK.2⟩
theorem K8 {α:Type} {o:Option α} {F F2:α→(AV→St→Prop)→Prop} {G G2:(AV→St→Prop)→Prop} (h: ∀x,jl s s2 (F x) (F2 x)) (h':jl s s2 G G2):jl s s2 (λK=> @tJ _ o ⟨λx=>F x K⟩ ⟨G K⟩) (λK=> @tJ _ o ⟨λx=>F2 x K⟩ ⟨G2 K⟩):= λK K2 hk hK=>
 ⟨λx e=>h x K K2 hk (hK.1 x e),λe=>h' K K2 hk (hK.2 e)⟩
theorem SO {op:BinOp} {k:IntKind} {a b:Int}:jl s s2 (λK=>nf op k a b λv=>K (.c (.pure (.val v))) s) (λK=>nf op k a b λv=>K (.c (.pure (.val v))) s2):=by
 cases op<;>simp only[nf]<;>first|exact aM|exact dG bZ|exact bZ
theorem VE {op:BinOp} {a b:ByteArray}:jl s s2 (λK=>xV op a b λv=>K (.c (.pure (.val v))) s) (λK=>xV op a b λv=>K (.c (.pure (.val v))) s2):=by
 cases op<;>simp only[xV]<;>first|exact aM|exact dG bZ|exact bZ
theorem Sk {op:BinOp} {x y:Value}:jl s s2 (λK=>Bd op x y λv=>K (.c (.pure (.val v))) s) (λK=>Bd op x y λv=>K (.c (.pure (.val v))) s2):=by
 unfold Bd
 split
 ·exact dG SO
 ·exact VE
 ·exact aM
theorem FM {op:BinOp} {x y:Value}:jl s s2 (λK=>nK op x y λv=>K (.c (.pure (.val v))) s) (λK=>nK op x y λv=>K (.c (.pure (.val v))) s2):=by
 unfold nK
 split
 ·refine dG ?_
  cases op<;>simp only[uj]<;>first|exact aM|exact bZ
 ·exact aM
theorem G7 {F F2:List AC→(AV→St→Prop)→Prop} (hF: ∀x,jl s s2 (F x) (F2 x)): ∀{ps:List (Nat×Nat×AX)} {acc:List AC},(∀t∈Dz ps,aI s2.fr t=aI s.fr t)→jl s s2 (λK=>bq.buildW s ps acc λxs=>F xs K) (λK=>bq.buildW s2 ps acc λxs=>F2 xs K)
 | [],acc,h=>hF acc
 |(off,n,x)::ps,acc,h=>by
  simp only[bq.buildW]
  rw[bQ λt ht=>h t (by simp[Dz,ht])]
  split
  ·exact dG (G7 hF λt ht=>h t (by simp[Dz,ht]))
  ·exact aM
theorem Es {sz:Nat} {F F2:List (List PC)→(AV→St→Prop)→Prop} (hF: ∀x,jl s s2 (F x) (F2 x)): ∀{ps:List AX} {acc:List (List PC)},(∀t∈ib ps,aI s2.fr t=aI s.fr t)→jl s s2 (λK=>bq.bsliceW s sz ps acc λxs=>F xs K) (λK=>bq.bsliceW s2 sz ps acc λxs=>F2 xs K)
 | [],acc,h=>hF acc
 |x::ps,acc,h=>by
  simp only[bq.bsliceW]
  rw[bQ λt ht=>h t (by simp[ib,ht])]
  split
  ·exact mR λz=>dG (Es hF λt ht=>h t (by simp[ib,ht]))
  ·exact aM
theorem LP {F F2:List AC→(AV→St→Prop)→Prop} (hF: ∀x,jl s s2 (F x) (F2 x)): ∀{ps:List AX} {acc:List AC},(∀t∈ib ps,aI s2.fr t=aI s.fr t)→jl s s2 (λK=>bq.mkfnW s ps acc λxs=>F xs K) (λK=>bq.mkfnW s2 ps acc λxs=>F2 xs K)
 | [],acc,h=>hF acc
 |x::ps,acc,h=>by
  simp only[bq.mkfnW]
  rw[bQ λt ht=>h t (by simp[ib,ht])]
  split
  ·exact LP hF λt ht=>h t (by simp[ib,ht])
  ·exact aM
theorem t8 {y:Option AX} (h: ∀t∈HU y,aI s2.fr t=aI s.fr t):bq.boundOf s2 y=bq.boundOf s y:=by
 cases y with
 |none=>rfl
 |some x=>simp only[bq.boundOf,bQ (x:=x) h]
theorem Ng {fr fr2:List (Nat×AV)}: ∀{xs:List AX},(∀t∈ib xs,aI fr2 t=aI fr t)→xs.map (·.ev fr2)=xs.map (·.ev fr)
 | [],_=>rfl
 |x::xs,h=>by
  rw[List.map_cons,List.map_cons,bQ λt ht=>h t (by simp[ib,ht]),Ng λt ht=>h t (by simp[ib,ht])]
end
theorem Tg {m m':List (Nat×aU)} (hm:lr m m') {q:AC} {xs:List AC} (h:bE m q=some xs):bE m' q=some xs:=by
 unfold bE at h ⊢
 split at h
 ·rename_i nm off
  split at h
  ·rename_i hf;rw[hm _ _ hf];exact h
  ·cases h
 ·exact h
 ·rename_i nm sz row off
  split at h
  ·rename_i hf;rw[hm _ _ hf];exact h
  ·rename_i hf;rw[hm _ _ hf];exact h
  ·cases h
 ·cases h
theorem UZ {m m':List (Nat×aU)} (hm:lr m m') {x:AV} {rows:List (List PC)} (h:eQ m x=some rows):eQ m' x=some rows:=by
 unfold eQ at h ⊢
 split at h
 ·exact h
 ·exact h
 ·exact h
 ·rename_i nm
  split at h
  ·rename_i hf;rw[hm _ _ hf];exact h
  ·cases h
 ·cases h
theorem Fv {m m':List (Nat×aU)} (hm:lr m m') {x:AC} {p:PC} (h:cz m x=some p):cz m' x=some p:=by
 unfold cz at h ⊢
 split at h
 ·exact h
 ·exact h
 ·exact h
 ·rename_i nm
  split at h
  ·rename_i hf;rw[hm _ _ hf];exact h
  ·cases h
 ·cases h
theorem Hc {m m':List (Nat×aU)} (hm:lr m m'): ∀{xs:List AC} {ps:List PC},xj m xs=some ps→xj m' xs=some ps
 | [],ps,h=>h
 |x::xs,ps,h=>by
  unfold xj at h ⊢
  split at h
  ·rename_i h1 h2
   rw[Fv hm h1,Hc hm h2]
   exact h
  ·cases h
theorem NY {m m':List (Nat×aU)} (hm:lr m m') {n:Option Nat} {xs:List AC} {ps:List PC} (h:pC m n xs=some ps):pC m' n xs=some ps:=by
 unfold pC at h ⊢
 split at h
 ·split at h
  ·rename_i h1;rw[Fv hm h1];exact h
  ·cases h
 ·cases h
 ·exact Hc hm h
theorem AN {m m':List (Nat×aU)} (hm:lr m m') {n:Option Nat}: ∀{xs:List (MK×List AC)} {ps:List (MK×List PC)},mC m n xs=some ps→mC m' n xs=some ps
 | [],ps,h=>h
 |x::xs,ps,h=>by
  unfold mC at h ⊢
  split at h
  ·rename_i h1 h2
   rw[NY hm h1,AN hm h2]
   exact h
  ·cases h
theorem UX {m m':List (Nat×aU)} (hm:lr m m') {x:AC} {p:PC} (h:c9 m x=some p):c9 m' x=some p:=by
 unfold c9 at h ⊢
 split at h
 ·rename_i nm
  split at h
  ·rename_i hf
   rw[hm _ _ hf]
   simp only
   split at h
   ·rename_i h1;rw[AN hm h1];exact h
   ·cases h
  ·cases h
 ·exact Fv hm h
theorem Hp {m m':List (Nat×aU)} (hm:lr m m'): ∀{xs:List AC} {ps:List PC},bv m xs=some ps→bv m' xs=some ps
 | [],ps,h=>h
 |x::xs,ps,h=>by
  unfold bv at h ⊢
  split at h
  ·rename_i h1 h2
   rw[UX hm h1,Hp hm h2]
   exact h
  ·cases h
theorem Mb {m m':List (Nat×aU)} (hm:lr m m') {x y:AC} (h:cG m x=some y):cG m' x=some y:=by
 unfold cG at h ⊢
 split at h
 ·exact h
 ·exact h
 ·exact h
 ·rename_i nm
  split at h
  ·rename_i hf;rw[hm _ _ hf];exact h
  ·cases h
 ·exact h
 ·rename_i nm off
  split at h
  ·rename_i hf
   rw[hm _ _ hf]
   simp only
   split at h
   ·rename_i h1;rw[Hp hm h1];exact h
   ·cases h
  ·cases h
 ·rename_i nm
  split at h
  ·rename_i hf
   rw[hm _ _ hf]
   simp only
   split at h
   ·rename_i h1;rw[AN hm h1];exact h
   ·cases h
  ·cases h
 ·cases h
theorem Ht {m m':List (Nat×aU)} (hm:lr m m'): ∀{xs ys:List AC},BE m xs=some ys→BE m' xs=some ys
 | [],ps,h=>h
 |x::xs,ps,h=>by
  unfold BE at h ⊢
  split at h
  ·rename_i h1 h2
   rw[Mb hm h1,Ht hm h2]
   exact h
  ·cases h
theorem Mm {m m':List (Nat×aU)} (hm:lr m m') {x y:AC} (h:cU m x=some y):cU m' x=some y:=by
 unfold cU at h ⊢
 split at h
 ·split at h
  ·rename_i h1;rw[Ht hm h1];exact h
  ·cases h
 ·exact Mb hm h
theorem Hi {m m':List (Nat×aU)} (hm:lr m m'): ∀{xs ys:List AC},wS m xs=some ys→wS m' xs=some ys
 | [],ps,h=>h
 |x::xs,ps,h=>by
  unfold wS at h ⊢
  split at h
  ·rename_i h1 h2
   rw[Mm hm h1,Hi hm h2]
   exact h
  ·cases h
theorem To {m m':List (Nat×aU)} (hm:lr m m') {x y:AV} (h:ct m x=some y):ct m' x=some y:=by
 unfold ct at h ⊢
 split at h
 ·split at h
  ·rename_i h1;rw[Mm hm h1];exact h
  ·cases h
 ·split at h
  ·rename_i h1;rw[Hi hm h1];exact h
  ·cases h
 ·cases h
theorem Ho {m m':List (Nat×aU)} (hm:lr m m'): ∀{xs ys:List AV},aV m xs=some ys→aV m' xs=some ys
 | [],ps,h=>h
 |x::xs,ps,h=>by
  unfold aV at h ⊢
  split at h
  ·rename_i h1 h2
   rw[To hm h1,Ho hm h2]
   exact h
  ·cases h
section
variable {P : Program} {op : eL}
theorem O4 {s s2:St} (he:op.eff=false) (hm:op.sens=true→lr s.mem s2.mem) (hf: ∀t∈op.tmps,aI s2.fr t=aI s.fr t):jl s s2 (bq P op s) (bq P op s2):=by
 have eta: ∀{F F2:(AV→St→Prop)→Prop},jl s s2 (λK=>F K) (λK=>F2 K)→jl s s2 F F2:= λh=>h
 apply eta
 cases op<;>simp only[bq]<;>simp[eL.eff]at he
 case mv=>rw[bQ hf];exact bZ
 case pick c a b=>
  rw[bQ (x:=c) λt ht=>hf t (by simp[eL.tmps,ht]),bQ (x:=a) λt ht=>hf t (by simp[eL.tmps,ht]),bQ (x:=b) λt ht=>hf t (by simp[eL.tmps,ht])]
  split;exact SM bZ bZ;exact aM
 case load n p=>
  rw[bQ (x:=p) λt ht=>hf t (by simp[eL.tmps,ht])]
  split
  ·split
   ·rename_i hl
    rw[Tg (hm rfl) hl]
    simp only
    split
    ·split
     ·exact bZ
     ·exact aM
    ·exact dG bZ
   ·exact aM
  ·exact aM
 case bin op x y=>
  rw[bQ (x:=x) λt ht=>hf t (by simp[eL.tmps,ht]),bQ (x:=y) λt ht=>hf t (by simp[eL.tmps,ht])]
  split
  ·split
   ·exact FM
   ·exact FM
   ·exact Sk
  ·exact aM
 case eqb n x y=>
  rw[bQ (x:=x) λt ht=>hf t (by simp[eL.tmps,ht]),bQ (x:=y) λt ht=>hf t (by simp[eL.tmps,ht])]
  split;exact bZ;exact aM
 case eqs n l x y=>
  rw[bQ (x:=x) λt ht=>hf t (by simp[eL.tmps,ht]),bQ (x:=y) λt ht=>hf t (by simp[eL.tmps,ht])]
  split;exact dG bZ;exact aM
 case un=>rw[bQ hf];split<;>first|exact bZ|exact aM
 case conv=>rw[bQ hf];split;exact bZ;exact aM
 case fieldA=>rw[bQ hf];split<;>first|exact bZ|exact aM
 case field=>
  rw[bQ hf]
  split
  ·split
   ·split
    ·exact bZ
    ·exact aM
   ·exact dG bZ
  ·exact aM
 case idxA sz x y=>
  rw[bQ (x:=x) λt ht=>hf t (by simp[eL.tmps,ht]),bQ (x:=y) λt ht=>hf t (by simp[eL.tmps,ht])]
  split
  ·exact dG (mR λr=>dG bZ)
  ·exact dG (mR λr=>dG bZ)
  ·split
   ·rename_i hl
    rw[hm rfl _ _ hl]
    exact dG bZ
   ·rename_i hl
    rw[hm rfl _ _ hl]
    exact dG bZ
   ·exact aM
  ·exact aM
 case idxR l sz x y=>
  rw[bQ (x:=x) λt ht=>hf t (by simp[eL.tmps,ht]),bQ (x:=y) λt ht=>hf t (by simp[eL.tmps,ht])]
  split<;>first|exact dG bZ|exact aM
 case idxS x y=>
  rw[bQ (x:=x) λt ht=>hf t (by simp[eL.tmps,ht]),bQ (x:=y) λt ht=>hf t (by simp[eL.tmps,ht])]
  split;exact dG (mR λb=>bZ);exact aM
 case nilc=>rw[bQ hf];split<;>first|exact bZ|exact aM
 case build=>exact G7 (λx=>bZ) hf
 case bslice=>exact Es (λx=>bZ) hf
 case slc sz x l h m=>
  rw[bQ (x:=x) λt ht=>hf t (by simp[eL.tmps,ht]),t8 (y:=l) λt ht=>hf t (by simp[eL.tmps,ht]),t8 (y:=h) λt ht=>hf t (by simp[eL.tmps,ht]),t8 (y:=m) λt ht=>hf t (by simp[eL.tmps,ht])]
  split
  ·exact aM
  ·exact Tn (λrows hr=>UZ (hm rfl) hr) λrows=>mR λlo=>mR λhi=>mR λmx=>dG bZ
 case slcS x l h=>
  rw[bQ (x:=x) λt ht=>hf t (by simp[eL.tmps,ht]),t8 (y:=l) λt ht=>hf t (by simp[eL.tmps,ht]),t8 (y:=h) λt ht=>hf t (by simp[eL.tmps,ht])]
  split;exact dG bZ;exact aM
 case ext=>rw[bQ hf];split;exact mR λv=>bZ;exact aM
 case len=>
  rw[bQ hf]
  split
  ·exact bZ
  ·exact bZ
  ·exact bZ
  ·split
   ·rename_i hl
    rw[hm rfl _ _ hl]
    exact bZ
   ·rename_i hl
    rw[hm rfl _ _ hl]
    exact bZ
   ·exact aM
  ·exact aM
 case lenS=>rw[bQ hf];split;exact bZ;exact aM
 case mm4 x y z t=>
  rw[bQ (x:=x) λu hu=>hf u (by simp[eL.tmps,hu]),bQ (x:=y) λu hu=>hf u (by simp[eL.tmps,hu]),bQ (x:=z) λu hu=>hf u (by simp[eL.tmps,hu]),bQ (x:=t) λu hu=>hf u (by simp[eL.tmps,hu])]
  split;exact bZ;exact aM
 case dead=>exact aM
 case mm m x y=>
  rw[bQ (x:=x) λt ht=>hf t (by simp[eL.tmps,ht]),bQ (x:=y) λt ht=>hf t (by simp[eL.tmps,ht])]
  split;exact bZ;exact aM
 case fnil=>rw[bQ hf];split;exact bZ;exact bZ;exact aM
 case snil=>
  rw[bQ hf]
  split
  ·exact bZ
  ·exact JC bZ bZ
  ·exact JC bZ bZ
  ·split
   ·rename_i hl
    rw[hm rfl _ _ hl]
    exact JC bZ bZ
   ·exact aM
  ·exact aM
 case mkfn=>exact LP (λx=>bZ) hf
 case call g z f xs=>
  obtain⟨rfl,rfl⟩:=he
  rw[bQ (x:=f) λt ht=>hf t (by simp[eL.tmps,ht]),Ng (xs:=xs) λt ht=>hf t (by simp[eL.tmps,ht])]
  split
  ·rintro K K2 hk ⟨l,σ',args',hl,hz,(⟨pargs,h1,res,h2,h4⟩|⟨h1,_⟩)⟩
   ·rcases hl with rfl|hl
    ·cases hz
     exact⟨[],_,_,.inl rfl,rfl,.inl ⟨pargs,Ho (hm rfl) h1,res,h2,hk _ h4⟩⟩
    ·cases hl
   ·cases h1
  ·exact aM
 case mget kt n z ok m k=>
  rw[bQ (x:=m) λt ht=>hf t (by simp[eL.tmps,ht]),bQ (x:=k) λt ht=>hf t (by simp[eL.tmps,ht])]
  split
  ·refine mR λmk=> ?_
   split
   ·split
    ·rename_i hl
     rw[hm rfl _ _ hl]
     exact dG (K8 (λps=>bZ) bZ)
    ·exact aM
   ·exact dG (K8 (λps=>bZ) bZ)
   ·exact aM
  ·exact aM
theorem B6 {s s2:St} {sz:Nat} {F F2:List (List PC)→List (Nat×aU)→Prop} (hF: ∀x m,F x m→F2 x m): ∀{ps:List AX} {mem:List (Nat×aU)} {acc:List (List PC)},(∀t∈ib ps,aI s2.fr t=aI s.fr t)→bq.bsliceFW s sz ps mem acc F→bq.bsliceFW s2 sz ps mem acc F2
 | [],mem,acc,h,h1=>hF _ _ h1
 |x::ps,mem,acc,h,h1=>by
  simp only[bq.bsliceFW]at h1 ⊢
  rw[bQ λt ht=>h t (by simp[ib,ht])]
  split at h1
  ·obtain⟨z,e,h2,h3⟩:=h1
   exact⟨z,e,h2,B6 hF (λt ht=>h t (by simp[ib,ht])) h3⟩
  ·exact h1.elim
theorem OO {fr fr2:List (Nat×AV)} {mem:List (Nat×aU)} {nx b:Nat} {K K2:AV→St→Prop} (he:op.eff=true) (hgc:op.gcall=false) (hf: ∀t∈op.tmps,aI fr2 t=aI fr t) (hk: ∀v m n,K v ⟨fr,m,n,b⟩→K2 v ⟨fr2,m,n,b⟩) (h:bq P op ⟨fr,mem,nx,b⟩ K):bq P op ⟨fr2,mem,nx,b⟩ K2:=by
 cases op<;>simp[eL.eff]at he<;>simp only[bq]at h ⊢
 case box x=>
  rw[bQ (x:=x) hf]
  split at h
  ·exact hk _ _ _ h
  ·exact h.elim
 case store n x y=>
  rw[bQ (x:=x) λt ht=>hf t (by simp[eL.tmps,ht]),bQ (x:=y) λt ht=>hf t (by simp[eL.tmps,ht])]
  split at h
  ·split at h
   ·exact⟨h.1,hk _ _ _ h.2⟩
   ·exact h.elim
  ·split at h
   ·obtain⟨h1,zs,h2,r,h3,h4⟩:=h
    exact⟨h1,zs,h2,r,h3,hk _ _ _ h4⟩
   ·obtain⟨h1,r,h3,h4⟩:=h
    exact⟨h1,r,h3,hk _ _ _ h4⟩
   ·exact h.elim
  ·exact h.elim
 case mkslice e sz b z x=>
  rw[bQ (x:=x) hf]
  split at h
  ·exact⟨h.1,hk _ _ _ h.2⟩
  ·exact h.elim
 case call g z f xs=>
  simp only[eL.gcall]at hgc
  subst hgc
  rw[bQ (x:=f) λt ht=>hf t (by simp[eL.tmps,ht]),Ng (xs:=xs) λt ht=>hf t (by simp[eL.tmps,ht])]
  split at h
  ·obtain⟨l,σ',args',hl,hz,h⟩:=h
   rcases hl with rfl|hl
   ·cases hz
    rcases h with⟨pargs,h1,res,h2,h4⟩|⟨h1,res,m,n,h2,h4⟩
    ·exact⟨[],_,_,.inl rfl,rfl,.inl ⟨pargs,h1,res,h2,hk _ _ _ h4⟩⟩
    ·exact⟨[],_,_,.inl rfl,rfl,.inr ⟨h1,res,m,n,h2,hk _ _ _ h4⟩⟩
   ·cases hl
  ·exact h.elim
 case bsliceF sz xs=>exact B6 (s:=⟨fr,mem,nx,b⟩) (s2:=⟨fr2,mem,nx,b⟩) (λx m h=>hk _ _ _ h) hf h
 case mkmap kt n=>exact hk _ _ _ h
 case mput kt n m k v=>
  rw[bQ (x:=m) λt ht=>hf t (by simp[eL.tmps,ht]),bQ (x:=k) λt ht=>hf t (by simp[eL.tmps,ht]),bQ (x:=v) λt ht=>hf t (by simp[eL.tmps,ht])]
  split at h
  ·obtain⟨mk,hmk,h⟩:=h
   refine⟨mk,hmk, ?_⟩
   simp only at h ⊢
   split at h
   ·obtain⟨ys,hys,h⟩:=h
    refine⟨ys,hys, ?_⟩
    simp only at h ⊢
    split at h
    ·exact⟨h.1,hk _ _ _ h.2⟩
    ·exact h.elim
   ·exact h.elim
  ·exact h.elim
 case app e sz b x y=>
  rw[bQ (x:=x) λt ht=>hf t (by simp[eL.tmps,ht]),bQ (x:=y) λt ht=>hf t (by simp[eL.tmps,ht])]
  obtain⟨ys,hys,hok,h⟩:=h
  refine⟨ys,hys,hok, ?_⟩
  rcases h with⟨nm,h1,h2,rows,h3,h4,h5,h6⟩|⟨h1,h|h⟩|⟨rows,h1,h2,⟨h3,h⟩|h|h⟩
  ·exact .inl ⟨nm,h1,h2,rows,h3,h4,h5,hk _ _ _ h6⟩
  ·exact .inr (.inl ⟨h1,.inl ⟨h.1,h.2.1,hk _ _ _ h.2.2⟩⟩)
  ·exact .inr (.inl ⟨h1,.inr ⟨h.1,h.2.1,hk _ _ _ h.2.2⟩⟩)
  ·exact .inr (.inr ⟨rows,h1,h2,.inl ⟨h3,h.1,h.2.1,hk _ _ _ h.2.2⟩⟩)
  ·exact .inr (.inr ⟨rows,h1,h2,.inr (.inl ⟨h.1,h.2.1,hk _ _ _ h.2.2⟩)⟩)
  ·exact .inr (.inr ⟨rows,h1,h2,.inr (.inr ⟨h.1,hk _ _ _ h.2⟩)⟩)
end
open Go.RowKit
theorem qG {P:Program} {op:eL} {σ:St} {v:AV} {τ:St} (hgc:op.gcall=false) (h:bq P op σ λv' τ'=>v'=v∧τ'=τ):τ.fr=σ.fr∧τ.base=σ.base∧(op.eff=false→τ=σ):=by
 by_cases he:op.eff=true
 ·obtain⟨fr,mem,nx,b⟩:=σ
  have h2:=OO (fr2:=fr) (K2:= λv' τ'=>(v'=v∧τ'=τ)∧τ'.fr=fr∧τ'.base=b) he hgc (λ_ _=>rfl) (λv m n hk=>⟨hk,rfl,rfl⟩) h
  obtain⟨v2,s2,_,⟨_,h4⟩,h5⟩:=IL hgc _ h2
  rw[←h4];exact⟨h5.1,h5.2,λe=>by rw[he]at e;cases e⟩
 ·have he':op.eff=false:=by simpa using he
  have h2:=O4 (s2:=σ) he' (λ_ _ _ h=>h) (λ_ _=>rfl) (λv' τ'=>v'=v∧τ'=τ) (λv' τ'=>(v'=v∧τ'=τ)∧τ'=σ) (λv' hk=>⟨hk,rfl⟩) h
  obtain⟨v2,s2,_,⟨_,h4⟩,h5⟩:=IL hgc _ h2
  subst h4
  subst h5
  exact⟨rfl,rfl,λ_=>rfl⟩
def my (P:Program) (g:AG) (σ:St) (v:AV) (σ':St):Prop:=
 ((g.op.gcall=false∧(g.guard=none∨ ∃t want,g.guard=some (t,want)∧aI σ.fr t= .c (.pure (.val (.bool want)))))∧ ∃τ,(bq P g.op σ λv' τ'=>v'=v∧τ'=τ)∧σ'=τ.put g.dst v)∨
 (∃t want,g.guard=some (t,want)∧(aI σ.fr t= .tup []∨aI σ.fr t= .c (.pure (.val (.bool (!want)))))∧v= .tup []∧σ'=σ.put g.dst (.tup []))
theorem Ey {P:Program} {K:St→Prop}: ∀{gs:List (Bool×AG)} {σ:St},(gs.all λy=> !y.2.op.gcall)=true→jm P gs σ K→ ∃(v:Nat→AV) (s:Nat→St),s 0=σ∧(∀k y,gs[k]? =some y→my P y.2 (s k) (v k) (s (k+1))∧(y.1=true→lr (s k).mem (s (k+1)).mem))∧K (s gs.length)
 | [],σ,_,h=>⟨λ_=> .top,λ_=>σ,rfl,(λk g hk=>by simp at hk),h⟩
 |(x,g)::gs,σ,hall,h=>by
  simp only[List.all_cons,Bool.and_eq_true,Bool.not_eq_true']at hall
  have pmem: ∀{τ:St} {v:AV},(τ.put g.dst v).mem=τ.mem:= λ{τ v}=>by cases g.dst<;>rfl
  have one: ∃v σ',(my P g σ v σ'∧(x=true→lr σ.mem σ'.mem))∧jm P gs σ' K:=by
   have run:(g.guard=none∨ ∃t want,g.guard=some (t,want)∧aI σ.fr t= .c (.pure (.val (.bool want))))→(bq P g.op σ λv σ'=> @cN (x=true→Jb σ.mem σ'.mem) ⟨jm P gs (σ'.put g.dst v) K⟩)→ ∃v σ',(my P g σ v σ'∧(x=true→lr σ.mem σ'.mem))∧jm P gs σ' K:=by
    intro hg h
    obtain⟨v,τ,h1,h2,h3⟩:=IL hall.1 _ h
    exact⟨v,_,⟨.inl ⟨⟨hall.1,hg⟩,τ,h1,rfl⟩,by rw[pmem];exact λe=>XA (h2 e)⟩,h3⟩
   simp only[jm]at h
   split at h
   ·rename_i hg
    exact run (.inl hg) h
   ·rename_i t want hg
    split at h
    ·rename_i b hb
     by_cases e:b=want
     ·subst e
      exact run (.inr ⟨t,b,hg,hb⟩) (h.1 (by simp))
     ·refine⟨.tup [],_,⟨.inr ⟨t,want,hg,.inr ?_,rfl,rfl⟩,λ_=>by rw[pmem];exact λ_ _ h=>h⟩,h.2 (by simp[e])⟩
      rw[hb]
      cases b<;>cases want<;>simp_all
    ·rename_i hb
     exact⟨.tup [],_,⟨.inr ⟨t,want,hg,.inl hb,rfl,rfl⟩,λ_=>by rw[pmem];exact λ_ _ h=>h⟩,h⟩
    ·exact h.elim
  obtain⟨v0,σ1,h1,h2⟩:=one
  obtain⟨v,s,g1,g2,g3⟩:=Ey hall.2 h2
  refine⟨λk=>match k with|0=>v0|k+1=>v k,λk=>match k with|0=>σ|k+1=>s k,rfl,λk g' hk=> ?_,g3⟩
  cases k with
  |zero=>
   simp at hk
   subst hk
   show my P g σ v0 (s 0)∧(x=true→lr σ.mem (s 0).mem)
   rw[g1]
   exact h1
  |succ k=>exact g2 k g' (by simpa using hk)
theorem Ed: ∀{ops:List Oper} {k j:Nat} {o:Oper},wc k ops=true→ops[j]? =some o→ ∀e∈o.after.toList,Region.binds .any e=true→e.on<k+j
 | [],k,j,o,h,hj=>by simp at hj
 |x::ops,k,j,o,h,hj=>by
  simp only[wc,Bool.and_eq_true,List.all_eq_true,decide_eq_true_eq,Bool.or_eq_true,Bool.not_eq_true']at h
  cases j with
  |zero=>
   simp at hj
   subst hj
   intro e he hb
   rcases h.1 e he with h|h
   ·rw[hb]at h;cases h
   ·exact h
  |succ j=>
   simp at hj
   intro e he hb
   have:=Ed h.2 hj e he hb
   omega
theorem De {acc:List (Nat×Nat)} {i:Nat}: ∀{ks:List Nat},(orX acc ks).testBit i=true→ ∃k∈ks,k=i∨(ud acc k).testBit i=true
 | [],h=>by simp[orX]at h
 |k::r,h=>by
  simp only[orX]at h
  rw[Nat.testBit_or,Nat.testBit_or]at h
  simp only[Bool.or_eq_true]at h
  rcases h with(h|h)|h
  ·refine⟨k,List.mem_cons_self,.inl ?_⟩
   rw[Nat.testBit_two_pow]at h
   simpa using h
  ·exact⟨k,List.mem_cons_self,.inr h⟩
  ·obtain⟨k',h1,h2⟩:=De h
   exact⟨k',List.mem_cons_of_mem _ h1,h2⟩
def Jv (ops:List Oper) (E:List (Nat×Nat)) (S:Nat→Bool):Prop:= ∀(j:Nat) o,ops[j]? =some o→S j=true→ ∀k∈A4 E j o,S k=true
theorem mM {ops:List Oper} {E:List (Nat×Nat)} {S:Nat→Bool} (hcl:Jv ops E S): ∀{ord:List Nat} {acc:List (Nat×Nat)},
  (∀k i,(ud acc k).testBit i=true→S k=true→S i=true)→ ∀k i,(ud (yR ops E ord acc) k).testBit i=true→S k=true→S i=true
 | [],acc,hacc,k,i,h,hk=>hacc k i h hk
 |j::r,acc,hacc,k,i,h,hk=>by
  simp only[yR]at h
  refine mM hcl (λk i h hk=> ?_) k i h hk
  simp only[ud]at h
  split at h
  ·rename_i e
   subst e
   split at h
   ·rename_i o ho
    obtain⟨k',h1,h2⟩:=De h
    have hk':=hcl j o ho hk k' h1
    rcases h2 with rfl|h2
    ·exact hk'
    ·exact hacc _ _ h2 hk'
   ·simp at h
  ·exact hacc k i h hk
theorem Fq {ops:List Oper} {E:List (Nat×Nat)} {S:Nat→Bool} (hcl:Jv ops E S) {j:Nat} {o:Oper} (ho:ops[j]? =some o) (hp: ∀k∈A4 E j o,S k=true):
  ∀{ord:List Nat} {acc:List (Nat×Nat)},(∀k i,(ud acc k).testBit i=true→S k=true→S i=true)→(∀i,(ud acc j).testBit i=true→S i=true)→ ∀i,(ud (yR ops E ord acc) j).testBit i=true→S i=true
 | [],acc,hacc,hj,i,h=>hj i h
 |k::r,acc,hacc,hj,i,h=>by
  simp only[yR]at h
  refine Fq hcl ho hp (λk' i g hk=> ?_) (λi g=> ?_) i h
  ·clear h
   simp only[ud]at g
   split at g
   ·rename_i e
    subst e
    split at g
    ·rename_i o' ho'
     obtain⟨k'',h1,h2⟩:=De g
     have hk':=hcl _ o' ho' hk k'' h1
     rcases h2 with rfl|h2
     ·exact hk'
     ·exact hacc _ _ h2 hk'
    ·simp at g
   ·exact hacc k' i g hk
  ·clear h
   simp only[ud]at g
   split at g
   ·rename_i e
    subst e
    rw[ho]at g
    obtain⟨k'',h1,h2⟩:=De g
    have hk':=hp k'' h1
    rcases h2 with rfl|h2
    ·exact hk'
    ·exact hacc _ _ h2 hk'
   ·exact hj i g
theorem pR (a:Act) (d:Option Nat) (v:Value):(a.put d v).tmps.size=a.tmps.size:=by
 cases d<;>simp[Act.put]
theorem vD {a:Act} {t:Nat} {v:Value} (h:a.tmps.getD t undef=v) (hv:v≠undef):a.tmps[t]? =some v:=by
 simp only[Array.getD_eq_getD_getElem?]at h
 cases e:a.tmps[t]? with
 |none=>rw[e]at h;exact absurd h.symm hv
 |some u=>rw[e]at h;simp at h;rw[h]
def vf (gs:List AG) (k:Nat):Option Nat:=(gs[k]?).bind (·.dst)
def jT (gs:List AG) (k:Nat):Bool:=match gs[k]? with|some g=>g.op.eff|none=>false
def mO (gs:List AG) (v:Nat→AV) (fr0:List (Nat×AV)) (S:Nat→Bool):Nat→List (Nat×AV)
 |0=>fr0
 |k+1=>if S k=true then(match vf gs k with|some d=>(d,v k)::mO gs v fr0 S k|none=>mO gs v fr0 S k)else mO gs v fr0 S k
def gZ (gs:List AG) (s:Nat→St) (S:Nat→Bool):Nat→List (Nat×aU)×Nat
 |0=>((s 0).mem,(s 0).nx)
 |k+1=>if S k=true∧jT gs k=true then((s (k+1)).mem,(s (k+1)).nx)else gZ gs s S k
section
variable {P : Program} {gs : List AG} {v : Nat → AV} {s : Nat → St}
theorem DK {σ:St} {d:Option Nat} {x:AV} {t:Nat}:aI (σ.put d x).fr t=if d=some t then x else aI σ.fr t:=by
 cases d with
 |none=>simp[St.put]
 |some d=>
  show(if d=t then x else aI σ.fr t)=_
  by_cases e:d=t<;>simp[e]
theorem gU {σ:St} {d:Option Nat} {x:AV}:(σ.put d x).mem=σ.mem∧(σ.put d x).nx=σ.nx:=by cases d<;>exact⟨rfl,rfl⟩
theorem We {g:AG} {σ σ':St} {x:AV} (h:my P g σ x σ') (t:Nat):aI σ'.fr t=if g.dst=some t then x else aI σ.fr t:=by
 rcases h with⟨hg0,τ,h1,rfl⟩|⟨_,_,_,_,rfl,rfl⟩
 ·rw[DK,(qG hg0.1 h1).1]
 ·rw[DK]
theorem LY {g:AG} {σ σ':St} {x:AV} (h:my P g σ x σ') (he:g.op.eff=false):σ'.mem=σ.mem∧σ'.nx=σ.nx:=by
 rcases h with⟨hg0,τ,h1,rfl⟩|⟨_,_,_,_,rfl,rfl⟩
 ·rw[gU.1,gU.2,(qG hg0.1 h1).2.2 he]
  exact⟨rfl,rfl⟩
 ·exact gU
theorem vG {σ:St} {d:Option Nat} {x:AV}:(σ.put d x).base=σ.base:=by cases d<;>rfl
theorem P9 {g:AG} {σ σ':St} {x:AV} (h:my P g σ x σ'):σ'.base=σ.base:=by
 rcases h with⟨hg0,τ,h1,rfl⟩|⟨_,_,_,_,rfl,rfl⟩
 ·rw[vG,(qG hg0.1 h1).2.1]
 ·exact vG
theorem xJ (hch: ∀k g,gs[k]? =some g→my P g (s k) (v k) (s (k+1))): ∀{i:Nat},i≤gs.length→(s i).base=(s 0).base
 |0,_=>rfl
 |i+1,h=>(P9 (hch i _ (List.getElem?_eq_getElem (show i<gs.length by omega)))).trans (xJ hch (by omega))
theorem qM (hch: ∀k g,gs[k]? =some g→my P g (s k) (v k) (s (k+1))) {S:Nat→Bool} {t i:Nat}: ∀{n:Nat},n≤gs.length→i≤n→(∀k,k<n→vf gs k=some t→(S k=true↔k<i))→aI (mO gs v (s 0).fr S n) t=aI (s i).fr t
 |0,_,hi,_=>by
  obtain rfl:i=0:=by omega
  rfl
 |n+1,hn,hi,h=>by
  have hg:=List.getElem?_eq_getElem (show n<gs.length by omega)
  by_cases e:i=n+1
  ·subst e
   have ih:=qM hch (S:=S) (t:=t) (i:=n) (n:=n) (by omega) (Nat.le_refl _) (λk hk hd=>⟨λ_=>hk,λ_=>(h k (by omega) hd).2 (by omega)⟩)
   rw[We (hch n _ hg) t]
   simp only[mO]
   by_cases hd:vf gs n=some t
   ·rw[if_pos ((h n (by omega) hd).2 (by omega)),hd]
    have hd':gs[n].dst=some t:=by simpa[vf,hg]using hd
    rw[if_pos hd',eM,if_pos rfl]
   ·have hd': ¬gs[n].dst=some t:=by simpa[vf,hg]using hd
    rw[if_neg hd']
    split
    ·split
     ·rename_i d hd2
      rw[eM,if_neg (λe=>hd (by rw[hd2,e]))]
      exact ih
     ·exact ih
    ·exact ih
  ·have ih:=qM hch (S:=S) (t:=t) (i:=i) (n:=n) (by omega) (by omega) (λk hk hd=>h k (by omega) hd)
   simp only[mO]
   by_cases hd:vf gs n=some t
   ·rw[if_neg (λhs=>by have:=(h n (by omega) hd).1 hs;omega)]
    exact ih
   ·split
    ·split
     ·rename_i d hd2
      rw[eM,if_neg (λe=>hd (by rw[hd2,e]))]
      exact ih
     ·exact ih
    ·exact ih
theorem qF (hch: ∀k g,gs[k]? =some g→my P g (s k) (v k) (s (k+1))) {S:Nat→Bool} {i:Nat}: ∀{n:Nat},n≤gs.length→i≤n→(∀k,k<n→jT gs k=true→(S k=true↔k<i))→gZ gs s S n=((s i).mem,(s i).nx)
 |0,_,hi,_=>by
  obtain rfl:i=0:=by omega
  rfl
 |n+1,hn,hi,h=>by
  have hg:=List.getElem?_eq_getElem (show n<gs.length by omega)
  by_cases e:i=n+1
  ·subst e
   have ih:=qF hch (S:=S) (i:=n) (n:=n) (by omega) (Nat.le_refl _) (λk hk hd=>⟨λ_=>hk,λ_=>(h k (by omega) hd).2 (by omega)⟩)
   simp only[gZ]
   by_cases he:jT gs n=true
   ·rw[if_pos ⟨(h n (by omega) he).2 (by omega),he⟩]
   ·rw[if_neg (λhh=>he hh.2),ih]
    have he':gs[n].op.eff=false:=by simpa[jT,hg]using he
    have:=LY (hch n _ hg) he'
    rw[this.1,this.2]
  ·have ih:=qF hch (S:=S) (i:=i) (n:=n) (by omega) (by omega) (λk hk hd=>h k (by omega) hd)
   simp only[gZ]
   rw[if_neg (λhh=>by have:=(h n (by omega) hh.2).1 hh.1;omega)]
   exact ih
theorem Iw (hch: ∀k g,gs[k]? =some g→my P g (s k) (v k) (s (k+1))) {S:Nat→Bool} {p:Nat} (h1: ∀k,k<p→jT gs k=true→S k=true) (h2: ∀k,p≤k→k<gs.length→jT gs k=true→S k=true→lr (s k).mem (s (k+1)).mem)
  (h3: ∀k q,k<q→q<gs.length→jT gs k=true→jT gs q=true→S q=true→S k=true): ∀{n:Nat},n≤gs.length→p≤n→lr (s p).mem (gZ gs s S n).1
 |0,hn,hp=>by
  obtain rfl:p=0:=by omega
  exact λ_ _ h=>h
 |n+1,hn,hp=>by
  by_cases e:p=n+1
  ·subst e
   have:=qF hch (S:= λk=>decide (k<n+1)) (i:=n+1) (n:=n+1) hn (Nat.le_refl _) (λk hk _=>by simp)
   have same: ∀m,m≤n+1→gZ gs s S m=gZ gs s (λk=>decide (k<n+1)) m:=by
    intro m
    induction m with
    |zero=>intro _;rfl
    |succ m ih=>
     intro hm
     simp only[gZ]
     rw[ih (by omega)]
     by_cases he:jT gs m=true
     ·rw[if_pos ⟨h1 m (by omega) he,he⟩,if_pos ⟨by simp;omega,he⟩]
     ·rw[if_neg (λhh=>he hh.2),if_neg (λhh=>he hh.2)]
   rw[same _ (Nat.le_refl _),this]
   exact λ_ _ h=>h
  ·have ih:=Iw hch h1 h2 h3 (n:=n) (by omega) (by omega)
   simp only[gZ]
   by_cases hs:S n=true∧jT gs n=true
   ·rw[if_pos hs]
    have key: ∀m,p≤m→m≤n+1→lr (s p).mem (s m).mem:=by
     intro m
     induction m with
     |zero=>
      intro hp _
      obtain rfl:p=0:=by omega
      exact λ_ _ h=>h
     |succ m ih=>
      intro hpm hm
      by_cases e:p=m+1
      ·subst e;exact λ_ _ h=>h
      ·have hk:=ih (by omega) (by omega)
       by_cases he:jT gs m=true
       ·have hS:S m=true:=by
         by_cases e2:m=n
         ·subst e2;exact hs.1
         ·exact h3 m n (by omega) (by omega) he hs.2 hs.1
        exact λnm bx hf=>h2 m (by omega) (by omega) he hS nm bx (hk nm bx hf)
       ·have hg:=List.getElem?_eq_getElem (show m<gs.length by omega)
        have he':gs[m].op.eff=false:=by simpa[jT,hg]using he
        rw[(LY (hch m _ hg) he').1]
        exact hk
    exact key (n+1) (by omega) (Nat.le_refl _)
   ·rw[if_neg hs]
    exact ih
def ia (S:Nat→Bool) (i:Nat):Nat→Bool:= λk=>if k=i then true else S k
theorem LW {S:Nat→Bool} {i t:Nat} {fr0:List (Nat×AV)} (hi:S i=false): ∀{n:Nat},i<n→(vf gs i=some t→ ∀k,i<k→vf gs k=some t→S k=false)→aI (mO gs v fr0 (ia S i) n) t=if vf gs i=some t then v i else aI (mO gs v fr0 S n) t
 |0,hn,_=>by omega
 |n+1,hn,h=>by
  have same: ∀{m:Nat},m≤i→mO gs v fr0 (ia S i) m=mO gs v fr0 S m:=by
   intro m
   induction m with
   |zero=>intro _;rfl
   |succ m ih=>
    intro hm
    simp only[mO]
    rw[ih (by omega)]
    have:ia S i m=S m:=if_neg (by omega)
    rw[this]
  by_cases e:i=n
  ·subst e
   simp only[mO]
   rw[if_pos (show ia S i i=true from if_pos rfl),hi,if_neg (show ¬false=true from λe=>by cases e),same (Nat.le_refl _)]
   cases hd:vf gs i with
   |none=>simp
   |some d=>
    show aI ((d,v i)::mO gs v fr0 S i) t=if some d=some t then v i else aI (mO gs v fr0 S i) t
    rw[eM]
    by_cases e:d=t<;>simp[e]
  ·have ih:=LW (fr0:=fr0) (t:=t) hi (n:=n) (by omega) h
   have hn':ia S i n=S n:=if_neg (by omega)
   simp only[mO]
   rw[hn']
   by_cases hs:S n=true
   ·rw[if_pos hs,if_pos hs]
    split
    ·rename_i d hd
     rw[eM,eM]
     by_cases e2:d=t
     ·subst e2
      rw[if_pos rfl,if_pos rfl]
      by_cases e3:vf gs i=some d
      ·have:=h e3 n (by omega) hd
       rw[hs]at this
       cases this
      ·rw[if_neg e3]
     ·rw[if_neg e2,if_neg e2]
      exact ih
    ·exact ih
   ·rw[if_neg hs,if_neg hs]
    exact ih
theorem Ie {S:Nat→Bool} {i:Nat} (hi:S i=false): ∀{n:Nat},i<n→(jT gs i=true→ ∀k,i<k→jT gs k=true→S k=false)→gZ gs s (ia S i) n=if jT gs i=true then((s (i+1)).mem,(s (i+1)).nx)else gZ gs s S n
 |0,hn,_=>by omega
 |n+1,hn,h=>by
  have same: ∀{m:Nat},m≤i→gZ gs s (ia S i) m=gZ gs s S m:=by
   intro m
   induction m with
   |zero=>intro _;rfl
   |succ m ih=>
    intro hm
    simp only[gZ]
    rw[ih (by omega)]
    have:ia S i m=S m:=if_neg (by omega)
    rw[this]
  by_cases e:i=n
  ·subst e
   simp only[gZ]
   have h1:ia S i i=true:=if_pos rfl
   rw[same (Nat.le_refl _)]
   by_cases he:jT gs i=true
   ·rw[if_pos ⟨h1,he⟩,if_pos he]
   ·rw[if_neg (λhh=>he hh.2),if_neg he,if_neg (λhh=>he hh.2)]
  ·have ih:=Ie hi (n:=n) (by omega) h
   have hn':ia S i n=S n:=if_neg (by omega)
   simp only[gZ]
   rw[hn']
   by_cases hs:S n=true∧jT gs n=true
   ·rw[if_pos hs,if_pos hs]
    by_cases he:jT gs i=true
    ·have:=h he n (by omega) hs.2
     rw[hs.1]at this
     cases this
    ·rw[if_neg he]
   ·rw[if_neg hs,if_neg hs]
    exact ih
end
theorem bD.fr {w0:World} {U:Gh} {σ:St} {ι:Pl} {a:Act} {w:World} (hs:bD w0 U σ ι a w) {fr:List (Nat×AV)} (h: ∀t,aI fr t=aI σ.fr t):bD w0 U ⟨fr,σ.mem,σ.nx,σ.base⟩ ι a w:=
 ⟨λt=>by have:=hs.val t;rw[←h t]at this;exact this,hs.defers,hs.names,hs.box,hs.apart,hs.below,hs.keep,hs.base⟩
open Go.RowKit
def Ph (S:Nat→Bool):Nat→Nat
 |0=>0
 |n+1=>Ph S n+if S n=true then 1 else 0
theorem UV (S:Nat→Bool): ∀n,Ph S n≤n
 |0=>Nat.le_refl _
 |n+1=>by have:=UV S n;simp only[Ph];split<;>omega
theorem PR {S:Nat→Bool}: ∀{n:Nat},Ph S n=n→ ∀k,k<n→S k=true
 |0,_,k,hk=>by omega
 |n+1,h,k,hk=>by
  have hle:=UV S n
  simp only[Ph]at h
  split at h
  ·rename_i hn
   by_cases e:k=n
   ·rw[e];exact hn
   ·exact PR (n:=n) (by omega) k (by omega)
  ·omega
theorem OH {S:Nat→Bool} {i:Nat} (hi:S i=false): ∀{n:Nat},i<n→Ph (ia S i) n=Ph S n+1
 |0,h=>by omega
 |n+1,h=>by
  have same: ∀{m:Nat},m≤i→Ph (ia S i) m=Ph S m:=by
   intro m
   induction m with
   |zero=>intro _;rfl
   |succ m ih=>
    intro hm
    simp only[Ph]
    rw[ih (by omega)]
    have:ia S i m=S m:=if_neg (by omega)
    rw[this]
  simp only[Ph]
  by_cases e:i=n
  ·subst e
   rw[same (Nat.le_refl _),hi,show ia S i i=true from if_pos rfl]
   simp
  ·have:ia S i n=S n:=if_neg (by omega)
   rw[this,OH hi (by omega)]
   omega
theorem OF {P:Program} {dr:Bool} {nt:Nat} {ops:Array Oper}: ∀{l:List Oper} {gs:List AG},gw P dr nt ops l=some gs→l.length=gs.length∧ ∀(i:Nat) o,l[i]? =some o→ ∃g,gs[i]? =some g∧ui P dr nt ops o=some g
 | [],gs,h=>by cases h;exact⟨rfl,λi o hi=>by simp at hi⟩
 |o::l,gs,h=>by
  unfold gw at h
  split at h
  ·rename_i g gs' h1 h2
   cases h
   obtain⟨g1,g2⟩:=OF h2
   refine⟨by simp[g1],λi o' hi=> ?_⟩
   cases i with
   |zero=>simp at hi;subst hi;exact⟨g,rfl,h1⟩
   |succ i=>exact g2 i o' (by simpa using hi)
  ·cases h
theorem Md {P:Program} {dr:Bool} {nt:Nat} {ops:Array Oper} {o:Oper} {g:AG} (h:ui P dr nt ops o=some g):g.dst=o.dst∧(∀t,o.dst=some t→t<nt)∧bN P dr o.op=some g.op∧
  ((o.guard=none∧g.guard=none)∨ ∃j want t,o.guard=some (j,want)∧(ops[j]?).bind (·.dst)=some t∧g.guard=some (t,want)):=by
 unfold ui at h
 by_cases hdst:Jr nt o.dst=false
 ·rw[if_pos hdst]at h;cases h
 ·rw[if_neg hdst]at h
  have hd: ∀t,o.dst=some t→t<nt:=by
   intro t ht
   rw[ht]at hdst
   simpa[Jr]using hdst
  split at h
  ·rename_i ao hao
   split at h
   ·rename_i hg
    cases h
    exact⟨rfl,hd,hao,.inl ⟨hg,rfl⟩⟩
   ·rename_i j want hg
    split at h
    ·rename_i t ht
     cases h
     exact⟨rfl,hd,hao,.inr ⟨j,want,t,hg,ht,rfl⟩⟩
    ·cases h
  ·cases h
section
variable {P : Program} {a : Act} {w w' w0 : World} {U : Gh} {ι : Pl} {σ : St} {nt : Nat} {dr : Bool}
theorem IR {V:Nat→Prop} {N:Nat} {u:Value} (h:aN w V ι N (.tup []) u):u=undef:=by
 cases h with
 | @tup _ vs hl _=>
  have:vs= #[]:=Array.eq_empty_of_size_eq_zero (by simpa using hl.symm)
  rw[this]
  rfl
theorem NF {ops:Array Oper} {Q:Exit→Act→World→Prop} {i:Nat} {o:Oper} {g:AG} {v:AV} {σ σ':St} {next:Act→World→Prop} (ho:ops[i]? =some o) (hg:ui P dr nt ops o=some g) (hst:my P g σ v σ') (hs:bD w0 U σ ι a w) (hz:a.tmps.size=nt)
  (hn: ∀ι' a' w',bD w0 U σ' ι' a' w'→a'.tmps.size=nt→next a' w'):wpOp P ops Q i next a w:=by
 obtain⟨h1,h2,h3,h4⟩:=Md hg
 have hd: ∀t,o.dst=some t→t<a.tmps.size:= λt ht=>by rw[hz];exact h2 t ht
 unfold wpOp
 rw[ho]
 have run:Region.wanted o (yielded ops a.tmps)=true→(∃τ,(bq P g.op σ λv' τ'=>v'=v∧τ'=τ)∧σ'=τ.put g.dst v)→(if Region.wanted o (yielded ops a.tmps)=true then o.wp P a w next Q∨(o.asks P a w∧LetsOut Q)else next (a.put o.dst undef) w):=by
  rintro hw ⟨τ,k1,rfl⟩
  rw[if_pos hw]
  left
  refine Lj h3 k1 hs ?_
  rintro v' σ2 ι' u w' ⟨rfl,rfl⟩ hs' hr
  refine hn ι' _ w' ?_ (by rw[pR];exact hz)
  rw[h1]
  exact hs'.put hd hr
 rcases h4 with⟨k1,k2⟩|⟨j,want,t,k1,k2,k3⟩
 ·rcases hst with⟨_,hx⟩|⟨t,want,e,_⟩
  ·exact run (by simp[Region.wanted,k1]) hx
  ·rw[k2]at e;cases e
 ·have hval:=hs.val t
  rcases hst with⟨⟨_,hg'⟩,hx⟩|⟨t',want',e,hg',rfl,rfl⟩
  ·rcases hg' with e|⟨t',want',e,hb⟩
   ·rw[k3]at e;cases e
   ·rw[k3]at e
    cases e
    rw[hb]at hval
    have hb':=vD (aZ hval).1 (by intro e;cases e)
    exact run (by simp[Region.wanted,k1,yielded,k2,hb']) hx
  ·rw[k3]at e
   cases e
   have hw: ¬Region.wanted o (yielded ops a.tmps)=true:=by
    rcases hg' with hb|hb
    ·rw[hb]at hval
     have hu:=IR hval
     have hy:yielded ops a.tmps j=none:=by
      unfold yielded
      simp only[k2,Option.bind_some]
      simp only[Array.getD_eq_getD_getElem?]at hu
      cases e':a.tmps[t]? with
      |none=>rfl
      |some z=>
       rw[e']at hu
       simp at hu
       subst hu
       rfl
     simp[Region.wanted,k1,hy]
    ·rw[hb]at hval
     have hb':=vD (aZ hval).1 (by intro e;cases e)
     simp[Region.wanted,k1,yielded,k2,hb']
   show(if Region.wanted o (yielded ops a.tmps)=true then _ else next (a.put o.dst undef) w)
   rw[if_neg hw]
   refine hn ι _ w ?_ (by rw[pR];exact hz)
   rw[h1]
   exact hs.put hd iN
theorem my.congr {g:AG} {v:AV} {σ σ' σ2:St} (h:my P g σ v σ') (hf: ∀t∈g.looks,aI σ2.fr t=aI σ.fr t) (hm:g.op.eff=true→σ2.mem=σ.mem∧σ2.nx=σ.nx) (hms:g.op.eff=false→g.op.sens=true→lr σ.mem σ2.mem) (hbase:σ2.base=σ.base):
  ∃τ,my P g σ2 v τ∧(∀t,aI τ.fr t=if g.dst=some t then v else aI σ2.fr t)∧(τ.mem,τ.nx)=(if g.op.eff=true then(σ'.mem,σ'.nx)else(σ2.mem,σ2.nx))∧τ.base=σ2.base:=by
 have hf': ∀t∈g.op.tmps,aI σ2.fr t=aI σ.fr t:= λt ht=>hf t (by simp[AG.looks,ht])
 rcases h with⟨⟨hgc,hg⟩,τ,h1,rfl⟩|⟨t,want,hg,hb,rfl,rfl⟩
 ·have hg2:g.guard=none∨ ∃t want,g.guard=some (t,want)∧aI σ2.fr t= .c (.pure (.val (.bool want))):=by
   rcases hg with e|⟨t,want,e,hb⟩
   ·exact .inl e
   ·exact .inr ⟨t,want,e,by rw[hf t (by simp[AG.looks,e])];exact hb⟩
  by_cases he:g.op.eff=true
  ·obtain⟨m1,m2⟩:=hm he
   have k1:=(qG hgc h1).1
   have k2:=(qG hgc h1).2.1
   obtain⟨fr,mem,nx,b⟩:=σ
   obtain⟨fr2,mem2,nx2,b2⟩:=σ2
   simp only at m1 m2 hf' k1 k2 hbase
   subst hbase
   subst m1
   subst m2
   have h2:=OO (fr2:=fr2) (K2:= λv' τ'=>v'=v∧τ'=⟨fr2,τ.mem,τ.nx,τ.base⟩) he hgc hf' (λv' m n hk=>by obtain⟨e1,e2⟩:=hk;subst e2;exact⟨e1,rfl⟩) h1
   refine⟨_,.inl ⟨⟨hgc,hg2⟩,_,h2,rfl⟩,λt=>DK, ?_,by rw[vG];exact k2⟩
   rw[if_pos he,gU.1,gU.2,gU.1,gU.2]
  ·have he':g.op.eff=false:=by simpa using he
   have k1:=(qG hgc h1).2.2 he'
   subst k1
   have h2:=O4 (s2:=σ2) he' (hms he') hf' (λv' τ'=>v'=v∧τ'=τ) (λv' τ'=>v'=v∧τ'=σ2) (λv' hk=>⟨hk.1,rfl⟩) h1
   refine⟨_,.inl ⟨⟨hgc,hg2⟩,_,h2,rfl⟩,λt=>DK, ?_,vG⟩
   rw[if_neg he,gU.1,gU.2]
 ·refine⟨_,.inr ⟨t,want,hg, ?_,rfl,rfl⟩,λt=>DK, ?_,vG⟩
  ·rw[hf t (by simp[AG.looks,hg])]
   exact hb
  ·rw[gU.1,gU.2,gU.1,gU.2]
   split
   ·rename_i he
    rw[(hm he).1,(hm he).2]
   ·rfl
theorem Hd {g h:AG} {d:Nat} (hc:i6 g h=false) (hd:g.dst=some d):d∉h.looks∧h.dst≠some d:=by
 simp only[i6,hd,Bool.or_eq_false_iff]at hc
 refine⟨λhm=> ?_,λe=> ?_⟩
 ·have:=hc.1.1.1.1
  simp[hm]at this
 ·have:=hc.1.1.1.2
  simp[e]at this
theorem No {g h:AG} {d:Nat} (hc:i6 g h=false) (hd:h.dst=some d):d∉g.looks:=by
 simp only[i6,hd,Bool.or_eq_false_iff]at hc
 intro hm
 have:=hc.1.1.2
 simp[hm]at this
theorem qP {g h:AG} (hc:i6 g h=false):(g.op.eff=true→h.op.eff=false∧h.op.sens=false):=by
 simp only[i6,Bool.or_eq_false_iff]at hc
 have h1:=hc.1.2
 intro e
 rw[e]at h1
 simpa using h1
def Rk (ops:Array Oper):List Nat→Array Bool→Prop
 | [],L=>Region.ready .any ops L= []
 |i::r,L=>i∈Region.ready .any ops L∧Rk ops r (L.setIfInBounds i true)
theorem TY {ops:Array Oper}: ∀(fuel t:Nat) (L:Array Bool),L.size=ops.size→Ph (λk=>L.getD k false) ops.size+fuel=ops.size→Rk ops (Region.linearise.go .any ops fuel t L []) L
 |0,t,L,hL,hcn=>by
  show Region.ready .any ops L= []
  unfold Region.ready
  rw[List.filter_eq_nil_iff]
  intro k hk
  have hk':k<ops.size:=by simpa using hk
  have h1:=PR (S:= λk=>L.getD k false) (n:=ops.size) (by omega) k hk'
  have h2:L.getD k true=true:=by
   have:k<L.size:=by omega
   simp only[Array.getD_eq_getD_getElem?,Array.getElem?_eq_getElem this,Option.getD_some]at h1 ⊢
   exact h1
  rw[h2]
  simp
 |fuel+1,t,L,hL,hcn=>by
  simp only[Region.linearise.go]
  change Rk ops (match (Region.ready .any ops L)[t%(Region.ready .any ops L).length]? with
   |some i=>Region.linearise.go .any ops fuel (t/(Region.ready .any ops L).length) (L.setIfInBounds i true) [i]
   |none=> [].reverse) L
  cases hi:(Region.ready .any ops L)[t%(Region.ready .any ops L).length]? with
  |none=>
   cases hr:Region.ready .any ops L with
   |nil=>exact hr
   |cons x xs=>
    rw[hr]at hi
    have hlt:t%(x::xs).length<(x::xs).length:=Nat.mod_lt _ (by simp)
    simp at hi
    simp at hlt
    omega
  |some i=>
   simp only[]
   rw[linearise_go_acc,List.reverse_singleton,List.singleton_append]
   have hmem:=List.mem_of_getElem? hi
   refine⟨hmem,TY _ _ _ (by simpa using hL) ?_⟩
   unfold Region.ready at hmem
   rw[List.mem_filter]at hmem
   obtain⟨h1,h2⟩:=hmem
   have hio:i<ops.size:=by simpa using h1
   have hiL:i<L.size:=by omega
   simp only[Bool.and_eq_true,Bool.not_eq_true']at h2
   have hf:L.getD i false=false:=by
    have:=h2.1
    simp only[Array.getD_eq_getD_getElem?,Array.getElem?_eq_getElem hiL,Option.getD_some]at this ⊢
    exact this
   have hS:(λk=>(L.setIfInBounds i true).getD k false)=ia (λk=>L.getD k false) i:=by
    funext k
    simp only[ia,Array.getD_eq_getD_getElem?]
    by_cases e:k=i
    ·subst e;simp[hiL]
    ·rw[if_neg e,Array.getElem?_setIfInBounds_ne (Ne.symm e)]
   rw[hS,OH hf hio]
   omega
def V0 (E:List (Nat×Nat)):List Nat→(Nat→Bool)→Prop
 | [],_=>True
 |i::r,S=>(∀p∈E,p.2=i→S p.1=true)∧V0 E r (ia S i)
theorem P0: ∀{r:List Nat} {S:Nat→Bool},V0 [] r S
 | [],S=>trivial
 |i::r,S=>⟨(λp hp=>by cases hp),P0⟩
theorem FI {E:List (Nat×Nat)} {x y:Nat}: ∀{r:List Nat} {S:Nat→Bool},S x=true→V0 E r S→V0 ((x,y)::E) r S
 | [],S,_,_=>trivial
 |i::r,S,hx,h=>⟨λp hp e=>by
   rcases List.mem_cons.1 hp with rfl|hp
   ·exact hx
   ·exact h.1 p hp e,FI (by simp only[ia];split<;>simp_all) h.2⟩
theorem GX {E:List (Nat×Nat)} {x y:Nat} (hxy:x≠y): ∀{r:List Nat} {S:Nat→Bool},V0 E r S→V0 ((x,y)::E) r S∨V0 ((y,x)::E) r S
 | [],S,_=> .inl trivial
 |i::r,S,h=>by
  by_cases e1:i=x
  ·subst e1
   refine .inl ⟨λp hp e=> ?_,FI (by simp[ia]) h.2⟩
   rcases List.mem_cons.1 hp with rfl|hp
   ·exact absurd e.symm hxy
   ·exact h.1 p hp e
  ·by_cases e2:i=y
   ·subst e2
    refine .inr ⟨λp hp e=> ?_,FI (by simp[ia]) h.2⟩
    rcases List.mem_cons.1 hp with rfl|hp
    ·exact absurd e hxy
    ·exact h.1 p hp e
   ·rcases GX hxy h.2 with h'|h'
    ·refine .inl ⟨λp hp e=> ?_,h'⟩
     rcases List.mem_cons.1 hp with rfl|hp
     ·exact absurd e.symm e2
     ·exact h.1 p hp e
    ·refine .inr ⟨λp hp e=> ?_,h'⟩
     rcases List.mem_cons.1 hp with rfl|hp
     ·exact absurd e.symm e1
     ·exact h.1 p hp e
theorem qj {M:List (Nat×Nat)}: ∀{leaf:List (Nat×Bool×AG)},DW M leaf=true→ ∀(p q:Nat) y z,p<q→leaf[p]? =some y→leaf[q]? =some z→Fp M y.1 y.2.2 z.1 z.2.1 z.2.2=true
 | [],_,p,q,y,z,_,hy,_=>by simp at hy
 |(i,x,g)::r,h,p,q,y,z,hpq,hy,hz=>by
  simp only[DW,Bool.and_eq_true,List.all_eq_true]at h
  cases q with
  |zero=>omega
  |succ q=>
   have hz':r[q]? =some z:=by simpa using hz
   cases p with
   |zero=>
    simp at hy
    subst hy
    exact h.1 z (List.mem_of_getElem? hz')
   |succ p=>exact qj h.2 p q y z (by omega) (by simpa using hy) hz'
theorem Iz: ∀{l:List Nat},EY l=true→ ∀(p q:Nat) i,l[p]? =some i→l[q]? =some i→p=q
 | [],_,p,q,i,hp,_=>by simp at hp
 |x::r,h,p,q,i,hp,hq=>by
  simp only[EY,Bool.and_eq_true,Bool.not_eq_true']at h
  have hx: ∀k,r[k]? =some x→False:= λk hk=>by
   have:=h.1
   rw[List.contains_iff_mem.2 (List.mem_of_getElem? hk)]at this
   cases this
  cases p with
  |zero=>
   simp at hp
   subst hp
   cases q with
   |zero=>rfl
   |succ q=>exact(hx q (by simpa using hq)).elim
  |succ p=>
   cases q with
   |zero=>
    simp at hq
    subst hq
    exact(hx p (by simpa using hp)).elim
   |succ q=>rw[Iz h.2 p q i (by simpa using hp) (by simpa using hq)]
theorem Oh {ops:Array Oper} {gs:List AG} {leaf:List (Nat×Bool×AG)} {E:List (Nat×Nat)} {ord:List Nat} {K:St→Prop} {Q:Exit→Act→World→Prop}
  (hc:gw P dr nt ops ops.toList=some gs) (hedge:wc 0 ops.toList=true) (hgc:(gs.all λg=> !g.op.gcall)=true) (hleaf:DW (yR ops.toList E ord []) leaf=true) (hidx:leaf.map (·.1)=ord) (hget: ∀y∈leaf,gs[y.1]? =some y.2.2)
  (hnd:EY ord=true) (hall: ∀i,i<gs.length→i∈ord) (h:jm P (tH leaf) σ K) (hs:bD w0 U σ ι a w) (hz:a.tmps.size=nt)
  (hq: ∀σ' ι' a' w',K σ'→bD w0 U σ' ι' a' w'→a'.tmps.size=nt→Q .normal a' w') {sched:List Nat} (hlin:Rk ops sched (Array.replicate ops.size false)) (hok:V0 E sched (λ_=>false)):wpOps P ops Q sched a w:=by
 have hgc':((tH leaf).all λy=> !y.2.op.gcall)=true:=by
  rw[List.all_eq_true]
  intro y hy
  obtain⟨z,hz1,rfl⟩:=List.mem_map.1 hy
  exact List.all_eq_true.1 hgc _ (List.mem_of_getElem? (hget z hz1))
 obtain⟨v,s,hs0,hch0,hK⟩:=Ey hgc' h
 obtain⟨hlen,hat⟩:=OF hc
 have hn:ops.size=gs.length:=by rw[←hlen,Array.length_toList]
 let gs':List AG:=leaf.map (·.2.2)
 have hl':gs'.length=leaf.length:=by simp[gs']
 have hls:(tH leaf).length=gs'.length:=by simp[tH,gs']
 rw[hls]at hK
 have hg': ∀{p:Nat} {g:AG},gs'[p]? =some g→ ∃y,leaf[p]? =some y∧y.2.2=g:=by
  intro p g hp
  simp only[gs',List.getElem?_map,Option.map_eq_some_iff]at hp
  exact hp
 have hch: ∀k g,gs'[k]? =some g→my P g (s k) (v k) (s (k+1)):=by
  intro k g hk
  obtain⟨y,hy,rfl⟩:=hg' hk
  exact(hch0 k y.2 (by simp[tH,hy])).1
 have hflag: ∀k y,leaf[k]? =some y→y.2.1=true→lr (s k).mem (s (k+1)).mem:= λk y hy=>(hch0 k y.2 (by simp[tH,hy])).2
 have hord: ∀{p:Nat} {y:Nat×Bool×AG},leaf[p]? =some y→ord[p]? =some y.1:=by
  intro p y hp
  rw[←hidx,List.getElem?_map,hp]
  rfl
 let SS (L:Array Bool):Nat→Bool:= λp=>L.getD ((ord[p]?).getD 0) false
 let LL (L:Array Bool):Nat→Bool:= λi=>L.getD i false
 have hSS: ∀(L:Array Bool) {p:Nat} {y:Nat×Bool×AG},leaf[p]? =some y→SS L p=LL L y.1:=by
  intro L p y hp
  simp only[SS,LL,hord hp,Option.getD_some]
 let stOf (L:Array Bool):St:=⟨mO gs' v (s 0).fr (SS L) gs'.length,(gZ gs' s (SS L) gs'.length).1,(gZ gs' s (SS L) gs'.length).2,(s 0).base⟩
 have main: ∀(sched:List Nat) (L:Array Bool) (ι:Pl) (a:Act) (w:World),L.size=gs.length→Jv ops.toList E (LL L)→Rk ops sched L→V0 E sched (LL L)→bD w0 U (stOf L) ι a w→a.tmps.size=nt→wpOps P ops Q sched a w:=by
  intro sched
  induction sched with
  |nil=>
   intro L ι a w hL hcl hlin hok hsim hz
   have hr:Region.ready .any ops L= []:=hlin
   have all: ∀k,k<gs.length→LL L k=true:=by
    intro k
    induction k using Nat.strongRecOn with
    |_ k ih=>
     intro hk
     cases hS:LL L k with
     |true=>rfl
     |false=>
      exfalso
      have hko:k<ops.size:=by omega
      have hmem:k∈Region.ready .any ops L:=by
       unfold Region.ready
       rw[List.mem_filter]
       refine⟨by simpa using hko, ?_⟩
       have h1:L.getD k true=false:=by
        have:k<L.size:=by omega
        simp only[LL,Array.getD_eq_getD_getElem?,Array.getElem?_eq_getElem this,Option.getD_some]at hS ⊢
        exact hS
       rw[h1]
       simp only[Bool.not_false,Bool.true_and,Array.getElem?_eq_getElem hko,Option.map_some,Option.getD_some,Array.all_eq_true]
       intro j hj
       simp only[Bool.or_eq_true,Bool.not_eq_true']
       cases hbi:Region.binds .any ops[k].after[j]with
       |false=>exact .inl rfl
       |true=>
        have:=Ed hedge (j:=k) (o:=ops[k]) (by simp[hko]) ops[k].after[j] (by simp) hbi
        right
        exact ih ops[k].after[j].on (by omega) (by omega)
      rw[hr]at hmem
      cases hmem
   have allS: ∀p,p<gs'.length→SS L p=true:=by
    intro p hp
    have hy:=List.getElem?_eq_getElem (show p<leaf.length by omega)
    rw[hSS L hy]
    exact all _ (List.getElem?_eq_some_iff.1 (hget _ (List.mem_of_getElem? hy))).1
   have hfr: ∀t,aI (mO gs' v (s 0).fr (SS L) gs'.length) t=aI (s gs'.length).fr t:= λt=>
    qM hch (Nat.le_refl _) (Nat.le_refl _) λk hk _=>⟨λ_=>hk,λ_=>allS k hk⟩
   have hmm:=qF hch (S:=SS L) (i:=gs'.length) (Nat.le_refl _) (Nat.le_refl _) λk hk _=>⟨λ_=>hk,λ_=>allS k hk⟩
   show Q .normal a w
   refine hq (s gs'.length) ι a w hK ?_ hz
   have:=hsim.fr (fr:=(s gs'.length).fr) λt=>(hfr t).symm
   simp only[stOf,hmm]at this
   rw[←xJ hch (Nat.le_refl _)]at this
   exact this
  |cons i r ih=>
   intro L ι a w hL hcl hlin hok hsim hz
   obtain⟨hi,hlin⟩:=hlin
   obtain⟨hoki,hok⟩:=hok
   rw[wpOps_cons]
   unfold Region.ready at hi
   rw[List.mem_filter]at hi
   obtain⟨hi1,hi2⟩:=hi
   have hio:i<ops.size:=by simpa using hi1
   have hig:i<gs.length:=by omega
   have ho:ops[i]? =some ops[i]:=Array.getElem?_eq_getElem hio
   simp only[Bool.and_eq_true,Bool.not_eq_true',ho,Option.map_some,Option.getD_some,Array.all_eq_true]at hi2
   obtain⟨hi2,hi3⟩:=hi2
   have hSi:LL L i=false:=by
    have:i<L.size:=by omega
    simp only[LL,Array.getD_eq_getD_getElem?,Array.getElem?_eq_getElem this,Option.getD_some]at hi2 ⊢
    exact hi2
   have hol:ops.toList[i]? =some ops[i]:=by simp[hio]
   have hpred: ∀k∈A4 E i ops[i],LL L k=true:=by
    intro k hk
    simp only[A4,List.mem_append,List.mem_filterMap]at hk
    rcases hk with⟨e,he,hk⟩|⟨p,hp,hk⟩
    ·split at hk
     ·rename_i hb
      cases hk
      obtain⟨j,hj,rfl⟩:=List.mem_iff_getElem.1 he
      have:=hi3 j (by simpa using hj)
      simp only[Bool.or_eq_true,Bool.not_eq_true']at this
      rcases this with h|h
      ·simp at hb
       rw[hb]at h
       cases h
      ·show L.getD _ false=true
       simpa[Array.getD_eq_getD_getElem?]using h
     ·cases hk
    ·split at hk
     ·rename_i e
      cases hk
      exact hoki p hp e
     ·cases hk
   obtain⟨g,hg,hcg⟩:=hat i ops[i] hol
   obtain⟨p,hp⟩: ∃p,ord[p]? =some i:=List.mem_iff_getElem?.1 (hall i hig)
   have hpl:p<leaf.length:=by
    have:=(List.getElem?_eq_some_iff.1 hp).1
    rw[←hidx,List.length_map]at this
    exact this
   have hyp:=List.getElem?_eq_getElem hpl
   have hy1:leaf[p].1=i:=by
    have:=hord hyp
    rw[hp]at this
    cases this
    rfl
   have hy2:leaf[p].2.2=g:=by
    have:=hget _ (List.mem_of_getElem? hyp)
    rw[hy1,hg]at this
    cases this
    rfl
   have hgp:gs'[p]? =some g:=by simp only[gs',List.getElem?_map,hyp,Option.map_some,hy2]
   have hpg:p<gs'.length:=by omega
   have hSp:SS L p=false:=by rw[hSS L hyp,hy1];exact hSi
   have bit0: ∀k i,(ud ([]:List (Nat×Nat)) k).testBit i=true→LL L k=true→LL L i=true:= λk i h _=>by simp[ud]at h
   have bit1: ∀i',(ud ([]:List (Nat×Nat)) i).testBit i'=true→LL L i'=true:= λi' h=>by simp[ud]at h
   have fe: ∀q y,leaf[q]? =some y→q<p→i6 y.2.2 g=true→SS L q=true:=by
    intro q y hq hlt hcl'
    have hpx:=qj hleaf q p y _ hlt hq hyp
    rw[hy1,hy2]at hpx
    simp only[Fp,hcl',Bool.not_true,Bool.false_and,Bool.or_false]at hpx
    rw[hSS L hq]
    exact Fq hcl hol hpred bit0 bit1 _ hpx
   have after: ∀q y,leaf[q]? =some y→p<q→i6 g y.2.2=true→SS L q=false:=by
    intro q y hq hlt hcl'
    cases hS:SS L q with
    |false=>rfl
    |true=>
     exfalso
     have hpx:=qj hleaf p q _ y hlt hyp hq
     rw[hy1,hy2]at hpx
     simp only[Fp,hcl',Bool.not_true,Bool.false_and,Bool.or_false]at hpx
     rw[hSS L hq]at hS
     have:=mM hcl bit0 _ _ hpx hS
     rw[hSi]at this
     cases this
   have yes: ∀{k:Nat},k<gs'.length→ ∃y,leaf[k]? =some y∧gs'[k]? =some y.2.2:=by
    intro k hk
    have hy:=List.getElem?_eq_getElem (show k<leaf.length by omega)
    exact⟨_,hy,by simp only[gs',List.getElem?_map,hy,Option.map_some]⟩
   have hfr: ∀t∈g.looks,aI (stOf L).fr t=aI (s p).fr t:=by
    intro t ht
    refine qM hch (Nat.le_refl _) (by omega) λk hk hd=> ?_
    obtain⟨y,hy,hgk⟩:=yes hk
    have hd':y.2.2.dst=some t:=by simpa[vf,hgk]using hd
    rcases Nat.lt_trichotomy k p with hlt|e|hgt
    ·refine⟨λ_=>hlt,λ_=>fe k _ hy hlt ?_⟩
     cases hx:i6 y.2.2 g with
     |true=>rfl
     |false=>exact absurd ht (Hd hx hd').1
    ·subst e
     rw[hSp]
     exact⟨(λe=>by cases e),(λe=>by omega)⟩
    ·refine⟨λhS=> ?_,λe=>by omega⟩
     have:i6 g y.2.2=true:=by
      cases hx:i6 g y.2.2 with
      |true=>rfl
      |false=>exact absurd ht (No hx hd')
     rw[after k _ hy hgt this]at hS
     cases hS
   have hmm:g.op.eff=true→(stOf L).mem=(s p).mem∧(stOf L).nx=(s p).nx:=by
    intro he
    have:=qF hch (S:=SS L) (i:=p) (n:=gs'.length) (Nat.le_refl _) (by omega) λk hk hd=>by
     obtain⟨y,hy,hgk⟩:=yes hk
     have hd':y.2.2.op.eff=true:=by simpa[jT,hgk]using hd
     rcases Nat.lt_trichotomy k p with hlt|e|hgt
     ·refine⟨λ_=>hlt,λ_=>fe k _ hy hlt ?_⟩
      cases hx:i6 y.2.2 g with
      |true=>rfl
      |false=>
       have:=(qP hx hd').1
       rw[he]at this;cases this
     ·subst e
      rw[hSp]
      exact⟨(λe=>by cases e),(λe=>by omega)⟩
     ·refine⟨λhS=> ?_,λe=>by omega⟩
      have:i6 g y.2.2=true:=by
       cases hx:i6 g y.2.2 with
       |true=>rfl
       |false=>
        have:=(qP hx he).1
        rw[hd']at this;cases this
      rw[after k _ hy hgt this]at hS
      cases hS
    simp only[stOf,this]
    exact⟨trivial,trivial⟩
   have hms:g.op.eff=false→g.op.sens=true→lr (s p).mem (stOf L).mem:=by
    intro hne hsn
    refine Iw hch (S:=SS L) (p:=p) (λk hk hd=> ?_) (λk hpk hk hd hS=> ?_) (λk q hkq hq hd hd2 hS=> ?_) (Nat.le_refl _) (by omega)
    ·obtain⟨y,hy,hgk⟩:=yes (show k<gs'.length by omega)
     have hd':y.2.2.op.eff=true:=by simpa[jT,hgk]using hd
     refine fe k _ hy hk ?_
     cases hx:i6 y.2.2 g with
     |true=>rfl
     |false=>
      have:=(qP hx hd').2
      rw[hsn]at this;cases this
    ·obtain⟨y,hy,hgk⟩:=yes hk
     have hd':y.2.2.op.eff=true:=by simpa[jT,hgk]using hd
     have hne':p≠k:=by
      rintro rfl
      rw[hSp]at hS
      cases hS
     have hpx:=qj hleaf p k _ y (by omega) hyp hy
     rw[hy1,hy2]at hpx
     simp only[Fp,Bool.or_eq_true,Bool.and_eq_true,hsn,hd']at hpx
     rcases hpx with hpx|⟨_,hpx⟩
     ·exfalso
      rw[hSS L hy]at hS
      have:=mM hcl bit0 _ _ hpx hS
      rw[hSi]at this
      cases this
     ·simp at hpx
      exact hflag k y hy hpx
    ·obtain⟨y,hy,hgk⟩:=yes (show k<gs'.length by omega)
     obtain⟨z,hz',hgq⟩:=yes hq
     have hd':y.2.2.op.eff=true:=by simpa[jT,hgk]using hd
     have hd2':z.2.2.op.eff=true:=by simpa[jT,hgq]using hd2
     have hpx:=qj hleaf k q y z hkq hy hz'
     have hcx:i6 y.2.2 z.2.2=true:=by
      cases hx:i6 y.2.2 z.2.2 with
      |true=>rfl
      |false=>
       have:=(qP hx hd').1
       rw[hd2']at this;cases this
     simp only[Fp,hcx,Bool.not_true,Bool.false_and,Bool.or_false]at hpx
     rw[hSS L hz']at hS
     rw[hSS L hy]
     exact mM hcl bit0 _ _ hpx hS
   obtain⟨τ,k1,k2,k3,k4⟩:=(hch p g hgp).congr (σ2:=stOf L) hfr hmm hms (xJ hch (by omega)).symm
   refine NF ho hcg k1 hsim hz λι' a' w' hsim' hz'=> ?_
   have hL':LL (L.setIfInBounds i true)=ia (LL L) i:=by
    funext k
    simp only[LL,ia,Array.getD_eq_getD_getElem?]
    by_cases e:k=i
    ·subst e
     simp[show k<L.size by omega]
    ·rw[if_neg e,Array.getElem?_setIfInBounds_ne (Ne.symm e)]
   have hS': ∀q,q<gs'.length→SS (L.setIfInBounds i true) q=ia (SS L) p q:=by
    intro q hq
    obtain⟨y,hy,_⟩:=yes hq
    rw[hSS _ hy,hL']
    simp only[ia]
    by_cases e:q=p
    ·subst e
     rw[hyp]at hy
     cases hy
     rw[if_pos hy1,if_pos rfl]
    ·rw[if_neg e,hSS L hy,if_neg]
     intro e2
     have h1:=hord hy
     rw[e2]at h1
     exact e (Iz hnd q p i h1 hp)
   have frS: ∀(S S':Nat→Bool) n,(∀q,q<n→S q=S' q)→mO gs' v (s 0).fr S n=mO gs' v (s 0).fr S' n:=by
    intro S S' n
    induction n with
    |zero=>intro _;rfl
    |succ n ih=>intro hq;simp only[mO];rw[ih λq hq'=>hq q (by omega),hq n (by omega)]
   have memS: ∀(S S':Nat→Bool) n,(∀q,q<n→S q=S' q)→gZ gs' s S n=gZ gs' s S' n:=by
    intro S S' n
    induction n with
    |zero=>intro _;rfl
    |succ n ih=>intro hq;simp only[gZ];rw[ih λq hq'=>hq q (by omega),hq n (by omega)]
   refine ih _ ι' a' w' (by simpa using hL) ?_ hlin (by rw[hL'];exact hok) ?_ hz'
   ·intro j o hj hSj k hk
    rw[hL']at hSj ⊢
    simp only[ia]at hSj ⊢
    split
    ·rfl
    ·split at hSj
     ·rename_i e1
      subst e1
      rw[hol]at hj
      cases hj
      exact hpred k hk
     ·exact hcl j o hj hSj k hk
   ·have hfr': ∀t,aI (mO gs' v (s 0).fr (SS (L.setIfInBounds i true)) gs'.length) t=aI τ.fr t:=by
     intro t
     rw[frS _ _ _ hS',LW hSp hpg λhd k hlt hdk=> ?_,k2 t]
     ·have e:vf gs' p=g.dst:=by simp[vf,hgp]
      rw[e]
     ·have hd':g.dst=some t:=by simpa[vf,hgp]using hd
      have hkg:k<gs'.length:=by
       unfold vf at hdk
       cases hh:gs'[k]? with
       |none=>rw[hh]at hdk;cases hdk
       |some x=>exact(List.getElem?_eq_some_iff.1 hh).1
      obtain⟨y,hy,hgk⟩:=yes hkg
      refine after k _ hy hlt ?_
      cases hx:i6 g y.2.2 with
      |true=>rfl
      |false=>exact absurd (by simpa[vf,hgk]using hdk) (Hd hx hd').2
    have hm':gZ gs' s (SS (L.setIfInBounds i true)) gs'.length=(τ.mem,τ.nx):=by
     rw[memS _ _ _ hS',Ie hSp hpg λhd k hlt hdk=> ?_,k3]
     ·have e:jT gs' p=g.op.eff:=by simp[jT,hgp]
      rw[e]
     ·have hd':g.op.eff=true:=by simpa[jT,hgp]using hd
      have hkg:k<gs'.length:=by
       unfold jT at hdk
       cases hh:gs'[k]? with
       |none=>rw[hh]at hdk;cases hdk
       |some x=>exact(List.getElem?_eq_some_iff.1 hh).1
      obtain⟨y,hy,hgk⟩:=yes hkg
      refine after k _ hy hlt ?_
      cases hx:i6 g y.2.2 with
      |true=>rfl
      |false=>
       have h5:=(qP hx hd').1
       have h6:y.2.2.op.eff=true:=by simpa[jT,hgk]using hdk
       rw[h6]at h5
       cases h5
    have:=hsim'.fr (fr:=mO gs' v (s 0).fr (SS (L.setIfInBounds i true)) gs'.length) hfr'
    rw[k4]at this
    simp only[stOf,hm']at this ⊢
    exact this
 have none: ∀k,LL (Array.replicate ops.size false) k=false:=by
  intro k
  simp only[LL,Array.getD_eq_getD_getElem?,Array.getElem?_replicate]
  split<;>simp
 have noneS: ∀k,SS (Array.replicate ops.size false) k=false:= λk=>none _
 refine main sched _ ι a w (by simp[hn]) (λj o hj hSj=> ?_) hlin ?_ ?_ hz
 ·rw[none]at hSj;cases hSj
 ·have:LL (Array.replicate ops.size false)= λ_=>false:=funext none
  rw[this];exact hok
 ·have hfr: ∀t,aI (mO gs' v (s 0).fr (SS (Array.replicate ops.size false)) gs'.length) t=aI σ.fr t:=by
   intro t
   rw[←hs0]
   exact qM hch (i:=0) (Nat.le_refl _) (by omega) λk hk _=>by rw[noneS k];exact⟨(λe=>by cases e),(λe=>by omega)⟩
  have hmm:=qF hch (S:=SS (Array.replicate ops.size false)) (i:=0) (n:=gs'.length) (Nat.le_refl _) (by omega) λk hk _=>by rw[noneS k];exact⟨(λe=>by cases e),(λe=>by omega)⟩
  have:=hs.fr (fr:=mO gs' v (s 0).fr (SS (Array.replicate ops.size false)) gs'.length) hfr
  simp only[stOf,hmm]
  simp only[hs0]at this ⊢
  exact this
theorem y2 {gs:List AG} {M:List (Nat×Nat)}: ∀{ord:List Nat} {prev:List (Nat×AG)} {leaf:List (Nat×Bool×AG)},IS gs M prev ord=some leaf→leaf.map (·.1)=ord∧ ∀y∈leaf,gs[y.1]? =some y.2.2
 | [],prev,leaf,h=>by cases h;exact⟨rfl,λy hy=>by cases hy⟩
 |k::r,prev,leaf,h=>by
  unfold IS at h
  split at h
  ·rename_i g hg
   split at h
   ·rename_i l hl
    cases h
    obtain⟨h1,h2⟩:=y2 hl
    refine⟨by rw[List.map_cons,h1],λy hy=> ?_⟩
    rcases List.mem_cons.1 hy with rfl|hy
    ·exact hg
    ·exact h2 y hy
   ·cases h
  ·cases h
theorem vh {ops:Array Oper} {gs:List AG} {K:St→Prop} {Q:Exit→Act→World→Prop}
  (hc:gw P dr nt ops ops.toList=some gs) (hedge:wc 0 ops.toList=true) (hgc:(gs.all λg=> !g.op.gcall)=true) (hs:bD w0 U σ ι a w) (hz:a.tmps.size=nt)
  (hq: ∀σ' ι' a' w',K σ'→bD w0 U σ' ι' a' w'→a'.tmps.size=nt→Q .normal a' w') {sched:List Nat} (hlin:Rk ops sched (Array.replicate ops.size false)):
  ∀{f:Nat} {E:List (Nat×Nat)} {gss:List (List (Nat×Bool×AG))},Em ops.toList gs f E=some gss→(∀leaf∈gss,jm P (tH leaf) σ K)→V0 E sched (λ_=>false)→wpOps P ops Q sched a w
 |0,E,gss,h,_,_=>by cases h
 |f+1,E,gss,h,hall,hok=>by
  unfold Em at h
  split at h
  ·cases h
  ·rename_i ord _
   split at h
   ·cases h
   ·rename_i leaf hb
    split at h
    ·split at h
     ·rename_i hchk
      cases h
      simp only[Bool.and_eq_true,List.all_eq_true,List.mem_range]at hchk
      obtain⟨⟨⟨h1,h2⟩,h3⟩,h4⟩:=hchk
      obtain⟨k1,k2⟩:=y2 hb
      exact Oh hc hedge hgc h1 k1 k2 h2 (λi hi=>List.contains_iff_mem.1 (h3 i hi)) (hall leaf List.mem_cons_self) hs hz hq hlin hok
     ·cases h
    ·rename_i i k _
     split at h
     ·cases h
     ·rename_i hne
      split at h
      ·rename_i ga gb ha hb'
       cases h
       rcases GX hne hok with h'|h'
       ·exact vh hc hedge hgc hs hz hq hlin ha (λleaf hl=>hall leaf (List.mem_append_left _ hl)) h'
       ·exact vh hc hedge hgc hs hz hq hlin hb' (λleaf hl=>hall leaf (List.mem_append_right _ hl)) h'
      ·cases h
theorem Oe {ops:Array Oper} {gs:List AG} {gss:List (List (Bool×AG))} {K:St→Prop} {Q:Exit→Act→World→Prop} (hc:gw P dr nt ops ops.toList=some gs) (hd:qo P ops.toList gs= .draw gss) (h:xw P gss σ K) (hs:bD w0 U σ ι a w) (hz:a.tmps.size=nt)
  (hq: ∀σ' ι' a' w',K σ'→bD w0 U σ' ι' a' w'→a'.tmps.size=nt→Q .normal a' w'): ∀t,wpOps P ops Q (Region.schedule (P.follows .mixedOrders) ops t) a {w with drawn:=w.drawn+1}:=by
 unfold qo at hd
 split at hd
 ·rename_i hcond
  simp only[Bool.and_eq_true]at hcond
  obtain⟨⟨hmix,hedge⟩,hgc⟩:=hcond
  split at hd
  ·rename_i l hl
   cases hd
   have hs':bD w0 U σ ι a {w with drawn:=w.drawn+1}:=hs.grow ⟨rfl,rfl,rfl,Nat.le_refl _,λ_ _=>rfl⟩
   intro t
   simp only[Region.schedule,hmix,Bool.true_or,if_true]
   refine vh hc hedge hgc hs' hz hq (TY _ _ _ (by simp) ?_) hl (λleaf hlf=>Hq h _ (List.mem_map_of_mem hlf)) P0
   have h0: ∀n,Ph (λk=>(Array.replicate ops.size false).getD k false) n=0:=by
    intro n
    induction n with
    |zero=>rfl
    |succ n ih=>
     simp only[Ph,ih]
     rw[if_neg]
     simp only[Array.getD_eq_getD_getElem?,Array.getElem?_replicate]
     split<;>simp
   rw[h0]
   omega
  ·cases hd
 ·cases hd
end
open Go.RowKit
section
variable {P : Program} {a : Act} {w w' w0 : World} {U : Gh} {ι : Pl} {σ : St} {nt : Nat} {dr : Bool}
theorem gP {ops:Array Oper} {Q:Exit→Act→World→Prop} {K:St→Prop}: ∀{l:List Oper} {gs:List AG} {σ:St} {ι:Pl} {a:Act} {w:World},gw P dr nt ops l=some gs→jG P gs σ K→bD w0 U σ ι a w→a.tmps.size=nt→
  (∀σ' ι' a' w',K σ'→bD w0 U σ' ι' a' w'→a'.tmps.size=nt→Q .normal a' w')→wpList P ops Q l a w
 |[],gs,σ,ι,a,w,hc,h,hs,hsz,hq=>by
  cases hc
  exact hq σ ι a w h hs hsz
 |o::l,gs,σ,ι,a,w,hc,h,hs,hsz,hq=>by
  unfold gw at hc
  split at hc
  ·rename_i g gs' h1 h2
   cases hc
   unfold ui at h1
   by_cases hdst:Jr nt o.dst=false
   ·rw[if_pos hdst]at h1;cases h1
   ·rw[if_neg hdst]at h1
    have hd: ∀t,o.dst=some t→t<a.tmps.size:=by
     intro t ht
     rw[ht]at hdst
     have h5:t<nt:=by simpa[Jr]using hdst
     rw[hsz]
     exact h5
    split at h1
    ·rename_i ao hao
     have run: ∀{K':AV→St→Prop},bq P ao σ K'→(∀v σ',K' v σ'→jG P gs' (σ'.put o.dst v) K)→o.wp P a w (wpList P ops Q l) Q:=by
      intro K' hop hk
      refine Lj hao hop hs ?_
      intro v σ' ι' u w' hv hs' hr
      exact gP h2 (hk v σ' hv) (hs'.put hd hr) (by rw[pR];exact hsz) hq
     have skip:jG P gs' (σ.put o.dst (.tup [])) K→wpList P ops Q l (a.put o.dst undef) w:= λhk=>
      gP h2 hk (hs.put hd iN) (by rw[pR];exact hsz) hq
     unfold wpList
     split at h1
     ·rename_i hgd
      cases h1
      simp only[jG]at h
      rw[if_pos (by simp[Region.wanted,hgd])]
      exact .inl (run h λ_ _ h=>h)
     ·rename_i j want hgd
      split at h1
      ·rename_i t ht
       cases h1
       simp only[jG]at h
       have hval:=hs.val t
       split at h
       ·rename_i b e
        rw[e]at hval
        have hb:=vD (aZ hval).1 (by intro e;cases e)
        have hy:yielded ops a.tmps j=some b:=by simp[yielded,ht,hb]
        by_cases hbw:b=want
        ·rw[if_pos (by simp[Region.wanted,hgd,hy,hbw])]
         exact .inl (run (h.1 (by simp[hbw])) λ_ _ h=>h)
        ·rw[if_neg (by simp[Region.wanted,hgd,hy,hbw])]
         exact skip (h.2 (by simp[hbw]))
       ·rename_i e
        rw[e]at hval
        have hu:a.tmps.getD t undef=undef:=by
         generalize a.tmps.getD t undef=z at hval
         cases hval with
         | @tup _ vs hl _=>
          have:vs= #[]:=Array.eq_empty_of_size_eq_zero (by simpa using hl.symm)
          rw[this]
          rfl
        have hy:yielded ops a.tmps j=none:=by
         unfold yielded
         simp only[ht,Option.bind_some]
         simp only[Array.getD_eq_getD_getElem?]at hu
         cases e':a.tmps[t]? with
         |none=>rfl
         |some z=>
          rw[e']at hu
          simp at hu
          subst hu
          rfl
        rw[if_neg (by simp[Region.wanted,hgd,hy])]
        exact skip h
       ·exact h.elim
      ·cases h1
    ·cases h1
  ·cases hc
end
section
variable {P : Program}
theorem ff {ops:List Oper} {gs:List AG}:(∃gss,qo P ops gs= .draw gss)∨qo P ops gs= .region gs true:=by
 unfold qo
 split
 ·split
  ·exact .inl ⟨_,rfl⟩
  ·exact .inr rfl
 ·exact .inr rfl
theorem gB {dr:Bool} {ops:List Oper} {gs:List AG}:(∃x,mW P dr ops gs= .draw x)∨(∃x,mW P dr ops gs= .region gs x):=by
 unfold mW
 split
 ·rcases ff (P:=P) (ops:=ops) (gs:=gs)with⟨x,e⟩|e
  ·exact .inl ⟨x,e⟩
  ·exact .inr ⟨true,e⟩
 ·exact .inr ⟨false,rfl⟩
@[simp] theorem ZY {dr:Bool} {ops:List Oper} {gs:List AG}:(mW P dr ops gs= .skip)=False:=eq_false λh=>by
 rcases gB (P:=P) (dr:=dr) (ops:=ops) (gs:=gs)with⟨x,e⟩|⟨x,e⟩<;>rw[e]at h<;>cases h
@[simp] theorem aaf {dr:Bool} {ops:List Oper} {gs:List AG}:(mW P dr ops gs= .ret)=False:=eq_false λh=>by
 rcases gB (P:=P) (dr:=dr) (ops:=ops) (gs:=gs)with⟨x,e⟩|⟨x,e⟩<;>rw[e]at h<;>cases h
@[simp] theorem ZX {dr:Bool} {ops:List Oper} {gs:List AG} {i:Nat}:(mW P dr ops gs= .exit i)=False:=eq_false λh=>by
 rcases gB (P:=P) (dr:=dr) (ops:=ops) (gs:=gs)with⟨x,e⟩|⟨x,e⟩<;>rw[e]at h<;>cases h
@[simp] theorem aas {dr:Bool} {ops:List Oper} {gs:List AG} {x y:ak}:(mW P dr ops gs= .seq x y)=False:=eq_false λh=>by
 rcases gB (P:=P) (dr:=dr) (ops:=ops) (gs:=gs)with⟨x,e⟩|⟨x,e⟩<;>rw[e]at h<;>cases h
@[simp] theorem ZR {dr:Bool} {ops:List Oper} {gs:List AG} {c:AX} {x y:ak}:(mW P dr ops gs= .cond c x y)=False:=eq_false λh=>by
 rcases gB (P:=P) (dr:=dr) (ops:=ops) (gs:=gs)with⟨x,e⟩|⟨x,e⟩<;>rw[e]at h<;>cases h
@[simp] theorem YH {dr:Bool} {ops:List Oper} {gs:List AG} {i:Nat} {x:ak}:(mW P dr ops gs= .block i x)=False:=eq_false λh=>by
 rcases gB (P:=P) (dr:=dr) (ops:=ops) (gs:=gs)with⟨x,e⟩|⟨x,e⟩<;>rw[e]at h<;>cases h
@[simp] theorem Z2 {dr:Bool} {ops:List Oper} {gs:List AG} {x:ak}:(mW P dr ops gs= .loop x)=False:=eq_false λh=>by
 rcases gB (P:=P) (dr:=dr) (ops:=ops) (gs:=gs)with⟨x,e⟩|⟨x,e⟩<;>rw[e]at h<;>cases h
@[simp] theorem Yw {dr:Bool} {ops:List Oper} {gs:List AG} {f:AX} {ps:List Nat} {x y:ak}:(mW P dr ops gs= .rangeF f ps x y)=False:=eq_false λh=>by
 rcases gB (P:=P) (dr:=dr) (ops:=ops) (gs:=gs)with⟨x,e⟩|⟨x,e⟩<;>rw[e]at h<;>cases h
end
inductive bc where
 |normal
 |exit (id:Nat)
 |ret
def jN:bc→Exit
 | .normal=> .normal
 | .exit id=> .exit id
 | .ret=> .ret
def FR (rd:Option Nat):Fence:={Fence.wide with round:=rd}
def sh (ds:List Deferred) (a:Act):Act:={a with defers:=a.defers++ds}
def Lf (ds:List Deferred) (K:Act→World→Prop):Act→World→Prop:= λa' w'=> ∃a0,a'=sh ds a0∧K a0 w'
def LfQ (ds:List Deferred) (Q:Exit→Act→World→Prop):Exit→Act→World→Prop:= λe a' w'=> ∃a0,a'=sh ds a0∧Q e a0 w'
theorem xU {ds:List Deferred} {a:Act} {d:Option Tmp} {v:Value}:(sh ds a).put d v=sh ds (a.put d v):=by cases d<;>rfl
theorem rx {ds:List Deferred} {a:Act}:(sh ds a).eval=a.eval:=by
 funext x
 cases x<;>rfl
theorem Da {P:Program} {rd:Option Nat} {n:Nat} {f:FuncId} {args:Array Value} {w:World} {R:Ending→World→Prop} (h:Calls P f args w R):CallsIn (FR rd) n P f args w R:=
 (callsIn_wide (n:=n)).2 h
theorem Zh {P:Program} {rd:Option Nat} {n:Nat} {row:String} {args:Array Value} {w:World} {R:Value→World→Prop} (h:Rows P row args w R):RowsIn (FR rd) n P row args w R:=by
 intro c cs _
 obtain⟨v,w',hr,hs⟩:=h c cs
 exact⟨v,w',hr,stepsIn_wide.2 hs⟩
theorem Yq {P:Program} {rd:Option Nat} {ds:List Deferred} {n:Nat} {o:Oper} {a:Act} {w:World} {next:Act→World→Prop} {Q:Exit→Act→World→Prop}
  (hd: ∀c,o.op≠ .defer c) (hl: ¬LetsOut Q) (h:o.wp P a w next Q):o.wpIn (FR rd) n P (sh ds a) w (Lf ds next) (LfQ ds Q):=by
 refine⟨λ_ _=>trivial, ?_⟩
 rw[Oper.semAt_eq _ _ _ hd,rx]
 unfold Oper.wp at h
 generalize (execOp a.eval o).run P w=r at h
 cases r with
 |ok nx w'=>
  cases nx<;>simp only[Oper.upon,Oper.uponIn]at h ⊢
  case value v=>exact⟨_,xU,h⟩
  case skip=>exact⟨_,xU,h⟩
  case defer d=>
   refine⟨{a with defers:=d::a.defers}.put o.dst undef, ?_,h⟩
   cases o.dst<;>rfl
  case enter f args=>
   refine⟨by simp[FR,Fence.wide],Da (h.mono λe w'' h=> ?_)⟩
   cases e with
   |returned v=>exact⟨_,xU,h⟩
   |panicked ch=>exact⟨_,rfl,h⟩
   |outgrown=>exact absurd h hl
  case row row args=>
   exact⟨by simp[FR,Fence.wide],Zh (h.mono λv w'' h=>⟨_,xU,h⟩)⟩
 |halt hh w'=>
  cases hh<;>simp only[Oper.upon,Oper.uponIn]at h ⊢
  case panic v=>exact⟨_,rfl,h⟩
theorem FV {P:Program} {dr:Bool} {nt:Nat} {ops:Array Oper} {o:Oper} {g:AG} (h:ui P dr nt ops o=some g): ∀c,o.op≠ .defer c:=by
 intro c e
 unfold ui at h
 rw[e]at h
 split at h
 ·cases h
 ·simp[bN]at h
theorem fp {P:Program} {dr:Bool} {nt:Nat} {ops:Array Oper}: ∀{l:List Oper} {gs:List AG},gw P dr nt ops l=some gs→ ∀o∈l,∀c,o.op≠ .defer c
 | [],_,_,o,ho=>by cases ho
 |x::l,gs,h,o,ho=>by
  unfold gw at h
  split at h
  ·rename_i g gs' h1 h2
   rcases List.mem_cons.1 ho with rfl|ho
   ·exact FV h1
   ·exact fp h2 o ho
  ·cases h
theorem mQ {P:Program} {rd:Option Nat} {ds:List Deferred} {n:Nat} {ops:Array Oper} {Q:Exit→Act→World→Prop} (hl: ¬LetsOut Q): ∀{l:List Oper} {a:Act} {w:World},(∀o∈l,∀c,o.op≠ .defer c)→
  wpList P ops Q l a w→wpListIn (FR rd) n P ops (LfQ ds Q) l (sh ds a) w
 | [],a,w,_,h=>⟨a,rfl,h⟩
 |o::l,a,w,hd,h=>by
  unfold wpList at h
  unfold wpListIn
  by_cases hw:Region.wanted o (yielded ops a.tmps)=true
  ·rw[if_pos hw]at h
   have hw':Region.wanted o (yielded ops (sh ds a).tmps)=true:=hw
   rw[if_pos hw']
   rcases h with h|⟨_,h⟩
   ·have:=Yq (rd:=rd) (ds:=ds) (n:=n) (hd o List.mem_cons_self) hl h
    refine Oper.wpIn_mono (λa' w' ⟨a0,e,hk⟩=> ?_) this
    subst e
    exact mQ hl (λo ho=>hd o (List.mem_cons_of_mem _ ho)) hk
   ·exact absurd h hl
  ·rw[if_neg hw]at h
   have hw': ¬Region.wanted o (yielded ops (sh ds a).tmps)=true:=hw
   rw[if_neg hw',xU]
   exact⟨λ_ _=>trivial,mQ hl (λo ho=>hd o (List.mem_cons_of_mem _ ho)) h⟩
theorem IU {P:Program} {rd:Option Nat} {ds:List Deferred} {n:Nat} {ops:Array Oper} {Q:Exit→Act→World→Prop} (hl: ¬LetsOut Q) (hd: ∀o∈ops.toList,∀c,o.op≠ .defer c): ∀{l:List Nat} {a:Act} {w:World},
  wpOps P ops Q l a w→wpOpsIn (FR rd) n P ops (LfQ ds Q) l (sh ds a) w
 | [],a,w,h=>⟨a,rfl,h⟩
 |i::l,a,w,h=>by
  unfold wpOps at h
  unfold wpOpsIn
  cases ho:ops[i]? with
  |none=>
   rw[ho]at h
   exact IU hl hd h
  |some o=>
   rw[ho]at h
   have hm:o∈ops.toList:=Array.mem_toList_iff.2 (Array.mem_of_getElem? ho)
   dsimp only at h ⊢
   by_cases hw:Region.wanted o (yielded ops a.tmps)=true
   ·rw[if_pos hw]at h
    have hw':Region.wanted o (yielded ops (sh ds a).tmps)=true:=hw
    rw[if_pos hw']
    rcases h with h|⟨_,h⟩
    ·have:=Yq (rd:=rd) (ds:=ds) (n:=n) (hd o hm) hl h
     refine Oper.wpIn_mono (λa' w' ⟨a0,e,hk⟩=> ?_) this
     subst e
     exact IU hl hd hk
    ·exact absurd h hl
   ·rw[if_neg hw]at h
    have hw': ¬Region.wanted o (yielded ops (sh ds a).tmps)=true:=hw
    rw[if_neg hw',xU]
    exact⟨λ_ _=>trivial,IU hl hd h⟩
def Ux (U:Gh) (rd:Option Nat):Prop:= ∀l,rd=some l→ ∀w V,U.G w V→ ∃r,w.heap[l]? =some (.loop r)
inductive J2 (B:Nat) (rd:Option Nat) (U:Gh) (ds:List Deferred):Gh→List Deferred→Prop
 |refl:J2 B rd U ds U ds
 |mark {U' U'':Gh} {ds':List Deferred} {D:Nat} (h:J2 B rd U ds U' ds') (hr:rd=none) (hD:B≤D) (hp:U''.p=U'.p) (hi:U''.ι0=U'.ι0)
   (hG: ∀w V,U''.G w V→U'.G w V∧V D∧w.heap[D]? =some (.deferred (some []))∧U'.G (w.putObj D (.deferred none)) V):J2 B rd U ds U'' ({target:= .collected D,args:= #[]}::ds')
theorem J2.trans {B:Nat} {rd:Option Nat} {U U' U'':Gh} {ds ds' ds'':List Deferred} (h:J2 B rd U ds U' ds') (h':J2 B rd U' ds' U'' ds''):J2 B rd U ds U'' ds'':=by
 induction h' with
 |refl=>exact h
 |mark _ hr hD hp hi hG ih=>exact .mark ih hr hD hp hi hG
theorem J2.le {B:Nat} {rd:Option Nat} {U U':Gh} {ds ds':List Deferred} (h:J2 B rd U ds U' ds'):U'.p=U.p∧U'.ι0=U.ι0∧ ∀w V,U'.G w V→U.G w V:=by
 induction h with
 |refl=>exact⟨rfl,rfl,λ_ _ h=>h⟩
 |mark _ _ _ hp hi hG ih=>exact⟨hp.trans ih.1,hi.trans ih.2.1,λw V h=>ih.2.2 w V (hG w V h).1⟩
theorem J2.inRound {B l:Nat} {U U':Gh} {ds ds':List Deferred} (h:J2 B (some l) U ds U' ds'):U'=U∧ds'=ds:=by
 cases h with
 |refl=>exact⟨rfl,rfl⟩
 |mark _ hr=>cases hr
theorem Ux.ext {B:Nat} {rd:Option Nat} {U U':Gh} {ds ds':List Deferred} (hr:Ux U rd) (h:J2 B rd U ds U' ds'):Ux U' rd:= λl e w V hg=>hr l e w V (h.le.2.2 w V hg)
def xM (w0:World) (U:Gh) (rd:Option Nat) (ds:List Deferred) (nt:Nat) (Q:bc→St→Prop):Exit→Act→World→Prop:= λe a w=>
 ∃e' σ ι U' ds' a0,e=jN e'∧Q e' σ∧bD w0 U' σ ι a0 w∧a0.tmps.size=nt∧a=sh ds' a0∧J2 w0.heap.size rd U ds U' ds'
theorem xM.ext {w0:World} {U U':Gh} {rd:Option Nat} {ds ds':List Deferred} {nt:Nat} {Q:bc→St→Prop} {e:Exit} {a:Act} {w:World} (h:xM w0 U' rd ds' nt Q e a w) (hx:J2 w0.heap.size rd U ds U' ds'):xM w0 U rd ds nt Q e a w:=by
 obtain⟨e',σ,ι,U2,ds2,a0,h1,h2,h3,h4,h5,h6⟩:=h
 exact⟨e',σ,ι,U2,ds2,a0,h1,h2,h3,h4,h5,hx.trans h6⟩
theorem xM.here {w0:World} {U:Gh} {rd:Option Nat} {ds:List Deferred} {nt:Nat} {Q:bc→St→Prop} {e':bc} {σ:St} {ι:Pl} {a:Act} {w:World} (hq:Q e' σ) (hs:bD w0 U σ ι a w) (hz:a.tmps.size=nt):xM w0 U rd ds nt Q (jN e') (sh ds a) w:=
 ⟨e',σ,ι,U,ds,a,rfl,hq,hs,hz,rfl,.refl⟩
def AW (P:Program) (nt:Nat) (c:ak) (σ:St) (Q:bc→St→Prop):Prop:=
 ∀(c':Code),cQ P nt c'=some c→ ∀w0 U rd ds ι a w,Ux U rd→bD w0 U σ ι a w→a.tmps.size=nt→c'.wpIn (FR rd) 0 P (xM w0 U rd ds nt Q) (sh ds a) w
def X9 (P:Program) (nt:Nat) (b:ak) (Q:bc→St→Prop):bc→St→Prop
 | .normal,σ=>AW P nt b σ Q
 | .exit i,σ=>Q (.exit i) σ
 | .ret,σ=>Q .ret σ
def MM (id:Nat) (Q:bc→St→Prop):bc→St→Prop
 | .normal,σ=>Q .normal σ
 | .exit i,σ=>if i=id then Q .normal σ else Q (.exit i) σ
 | .ret,σ=>Q .ret σ
section
variable {P : Program} {nt : Nat} {σ : St} {Q Q' : bc → St → Prop}
theorem AW.mono {c:ak} (h:AW P nt c σ Q) (hq: ∀e σ,Q e σ→Q' e σ):AW P nt c σ Q':=
 λc' hc w0 U rd ds ι a w hr hs hz=>wpIn_mono (h c' hc w0 U rd ds ι a w hr hs hz) λe a w ⟨e',σ',ι',U',ds',a0,h1,h2,h3⟩=>⟨e',σ',ι',U',ds',a0,h1,hq _ _ h2,h3⟩
theorem oM (h:Q .normal σ):AW P nt .skip σ Q:=by
 intro c' hc w0 U rd ds ι a w hrd hs hz
 cases c'<;>simp[cQ]at hc
 ·exact wpIn_skip (xM.here (e':= .normal) h hs hz)
 all_goals(try(split at hc<;>simp at hc))
theorem lZ (h:Q .ret σ):AW P nt .ret σ Q:=by
 intro c' hc w0 U rd ds ι a w hrd hs hz
 cases c'<;>simp[cQ]at hc
 all_goals(try(split at hc<;>simp at hc))
 exact wpIn_ret (xM.here (e':= .ret) h hs hz)
theorem Ou {id:Nat} (h:Q (.exit id) σ):AW P nt (.exit id) σ Q:=by
 intro c' hc w0 U rd ds ι a w hrd hs hz
 cases c'<;>simp[cQ]at hc
 all_goals(try(split at hc<;>simp at hc))
 subst hc
 exact wpIn_exit (xM.here (e':= .exit _) h hs hz)
theorem cZ {x y:ak} (h:AW P nt x σ (X9 P nt y Q)):AW P nt (.seq x y) σ Q:=by
 intro c' hc w0 U rd ds ι a w hrd hs hz
 cases c'<;>simp[cQ]at hc
 all_goals(try(split at hc<;>simp at hc))
 rename_i b1 b2 c1 c2 h1 h2
 obtain⟨rfl,rfl⟩:=hc
 refine wpIn_seq (wpIn_mono (h _ h1 w0 U rd ds ι a w hrd hs hz) ?_)
 rintro e a1 w1 ⟨e',σ',ι',U',ds',a0,rfl,hq,hs',hsz,rfl,hx⟩
 cases e' with
 |normal=>exact wpIn_mono (hq _ h2 w0 U' rd ds' ι' a0 w1 (hrd.ext hx) hs' hsz) λe a w h=>h.ext hx
 |exit id=>exact⟨.exit id,σ',ι',U',ds',a0,rfl,hq,hs',hsz,rfl,hx⟩
 |ret=>exact⟨.ret,σ',ι',U',ds',a0,rfl,hq,hs',hsz,rfl,hx⟩
theorem EE {x:ak} {id:Nat} (h:AW P nt x σ (MM id Q)):AW P nt (.block id x) σ Q:=by
 intro c' hc w0 U rd ds ι a w hrd hs hz
 cases c'<;>simp[cQ]at hc
 all_goals(try(split at hc<;>simp at hc))
 rename_i i1 c1
 obtain⟨rfl,h1⟩:i1=id∧cQ P nt c1=some x:=by simp_all
 refine wpIn_block (wpIn_mono (h _ h1 w0 U rd ds ι a w hrd hs hz) ?_)
 rintro e a1 w1 ⟨e',σ',ι',U',ds',a0,rfl,hq,hs',hsz,rfl,hx⟩
 cases e' with
 |normal=>exact⟨.normal,σ',ι',U',ds',a0,rfl,hq,hs',hsz,rfl,hx⟩
 |exit i=>
  simp only[MM]at hq
  by_cases hi:i=i1
  ·rw[if_pos hi]at hq
   simp only[jN,Exit.inBlock,if_pos hi]
   exact⟨.normal,σ',ι',U',ds',a0,rfl,hq,hs',hsz,rfl,hx⟩
  ·rw[if_neg hi]at hq
   simp only[jN,Exit.inBlock,if_neg hi]
   exact⟨.exit i,σ',ι',U',ds',a0,rfl,hq,hs',hsz,rfl,hx⟩
 |ret=>exact⟨.ret,σ',ι',U',ds',a0,rfl,hq,hs',hsz,rfl,hx⟩
theorem f7 {c:AX} {x y:ak} {t:Bool} (hc:c.ev σ.fr= .c (.pure (.val (.bool t)))) (h1:t=true→AW P nt x σ Q) (h2:t=false→AW P nt y σ Q):AW P nt (.cond c x y) σ Q:=by
 intro c' hc' w0 U rd ds ι a w hrd hs hz
 cases c'<;>simp[cQ]at hc'
 all_goals(try(split at hc'<;>simp at hc'))
 rename_i o b1 b2 _ _ _ x1 x2 x3 g1 g2 g3
 obtain⟨rfl,rfl,rfl⟩:=hc'
 have r1:=ay g1 hs
 rw[hc]at r1
 have ho:=(aZ r1).1
 have ho':(sh ds a).eval o= .bool t:=by rw[rx];exact ho
 cases t with
 |true=>exact wpIn_cond_true ho' (h1 rfl _ g2 w0 U rd ds ι a w hrd hs hz)
 |false=>exact wpIn_cond_false ho' (h2 rfl _ g3 w0 U rd ds ι a w hrd hs hz)
theorem Pa {w0:World} {U:Gh} {rd:Option Nat} {ds:List Deferred}: ∀e a w,LfQ ds (λe a w=> ∃σ ι,e= .normal∧Q .normal σ∧bD w0 U σ ι a w∧a.tmps.size=nt) e a w→xM w0 U rd ds nt Q e a w:=by
 rintro e a w ⟨a0,rfl,σ,ι,rfl,hq,hs,hz⟩
 exact xM.here (e':= .normal) hq hs hz
theorem kW {w0:World} {U:Gh}: ¬LetsOut (λe a w=> ∃σ ι,e= .normal∧Q .normal σ∧bD w0 U σ ι a w∧a.tmps.size=nt):=by
 rintro⟨_,_,_,_,h,_⟩
 cases h
theorem Be {gs:List AG} (h:jG P gs σ (Q .normal)):AW P nt (.region gs false) σ Q:=by
 intro c' hc w0 U rd ds ι a w hrd hs hz
 cases c'<;>simp[cQ]at hc
 all_goals(try(split at hc<;>simp at hc))
 rename_i id ops dr
 obtain⟨g1,h1,hg⟩:=hc
 cases dr with
 |false=>
  simp[mW]at hg
  subst hg
  refine wpIn_mono (wpIn_region_list (mQ (ds:=ds) kW (fp h1) (gP h1 h hs hz λσ' ι' a' w' hq hs' hz'=>⟨σ',ι',rfl,hq,hs',hz'⟩))) Pa
 |true=>
  simp only[mW,if_true]at hg
  rcases ff (P:=P) (ops:=ops.toList) (gs:=g1)with⟨x,e⟩|e<;>rw[e]at hg<;>simp at hg
theorem OE {gss:List (List (Bool×AG))} (h:xw P gss σ (Q .normal)):AW P nt (.draw gss) σ Q:=by
 intro c' hc w0 U rd ds ι a w hrd hs hz
 cases c'<;>simp[cQ]at hc
 all_goals(try(split at hc<;>simp at hc))
 rename_i id ops dr
 obtain⟨g1,h1,hg⟩:=hc
 cases dr with
 |false=>simp[mW]at hg
 |true=>
  simp only[mW,if_true]at hg
  refine wpIn_mono (wpIn_region_draw λt=>IU (ds:=ds) kW (fp h1) (Oe h1 hg h hs hz (λσ' ι' a' w' hq hs' hz'=>⟨σ',ι',rfl,hq,hs',hz'⟩) t)) Pa
end
open Go.RowKit
def gQ (N:Nat):AC→Prop
 | .ptr nm _=>nm<N
 | .eptr nm _ _ _=>nm<N
 | .ref nm=>nm<N
 | .mref nm=>nm<N
 | .clo _ caps=>go caps
 |_=>True
where go:List AC→Prop
 | []=>True
 | .ptr nm _::r=>nm<N∧go r
 | .mref nm::r=>nm<N∧go r
 | .ref nm::r=>nm<N∧go r
 | .pure _::r=>go r
 | .cptr _::r=>go r
 | .nils::r=>go r
 | .tsl _::r=>go r
 | .top::r=>go r
 |_::_=>False
def cw (N:Nat):List AC→Prop
 | []=>True
 |x::r=>gQ N x∧cw N r
def ja (N:Nat):AV→Prop
 | .c x=>gQ N x
 | .agg xs=>cw N xs
 | .tup []=>True
 | .tup _=>False
 | .top=>True
def Qj (N:Nat):List (MK×List AC)→Prop
 | []=>True
 |x::r=>cw N x.2∧Qj N r
def Mt (N:Nat):List (List AC)→Prop
 | []=>True
 |x::r=>cw N x∧Mt N r
def ZT (N:Nat):aU→Prop
 | .var xs=>cw N xs
 | .map _ _ ents=>Qj N ents
 | .arn _ _ rows=>Mt N rows
 |_=>True
def rn:List (Nat×Nat)→Nat→Nat
 | [],n=>n
 |(a,b)::r,n=>if a=n then b else rn r n
def dp (l:List (Nat×Nat)):AC→AC
 | .ptr nm off=> .ptr (rn l nm) off
 | .mref nm=> .mref (rn l nm)
 | .ref nm=> .ref (rn l nm)
 |x=>x
def b8 (l:List (Nat×Nat)):AC→AC
 | .ptr nm off=> .ptr (rn l nm) off
 | .eptr nm sz row off=> .eptr (rn l nm) sz row off
 | .ref nm=> .ref (rn l nm)
 | .mref nm=> .mref (rn l nm)
 | .clo f caps=> .clo f (caps.map (dp l))
 |x=>x
def c7 (l:List (Nat×Nat)):AV→AV
 | .c x=> .c (b8 l x)
 | .agg xs=> .agg (xs.map (b8 l))
 |x=>x
def QH (l:List (Nat×Nat)):aU→aU
 | .var xs=> .var (xs.map (b8 l))
 | .map kt n ents=> .map kt n (ents.map λx=>(x.1,x.2.map (b8 l)))
 | .arn e sz rows=> .arn e sz (rows.map λr=>r.map (b8 l))
 |b=>b
def ij (l:List (Nat×Nat)) (fr:List (Nat×AV)) (N:Nat):List (Nat×AV)→Prop
 | []=>True
 |(t,v)::r=>(aI fr t=c7 l v∨v= .top)∧ja N v∧ij l fr N r
def jO (n:Nat):List Nat→Prop
 | []=>True
 |m::r=>n≠m∧jO n r
def VN (l:List (Nat×Nat)) (mem:List (Nat×aU)) (N:Nat):List Nat→List (Nat×aU)→Prop
 |_, []=>True
 |seen,(nm,b)::r=>al mem (rn l nm)=some (QH l b)∧nm<N∧ZT N b∧jO (rn l nm) seen∧VN l mem N (rn l nm::seen) r
def e7 (N:Nat):List (Nat×Nat)→Prop
 | []=>True
 |(a,_)::r=>N≤a∧e7 N r
theorem MS {N:Nat}: ∀{l:List (Nat×Nat)},e7 N l→ ∀{n:Nat},n<N→rn l n=n
 | [],_,n,_=>rfl
 |(a,b)::r,h,n,hn=>by
  simp only[rn]
  rw[if_neg (by have:=h.1;omega)]
  exact MS h.2 hn
def Wk (l:List (Nat×Nat)) (σ σ':St):Prop:=ij l σ.fr σ'.nx σ'.fr∧VN l σ.mem σ'.nx [] σ'.mem∧σ'.base=σ.base∧σ.base≤σ'.nx∧e7 σ.base l
section
variable {P : Program} {a : Act} {w w' w0 : World} {U : Gh} {ι : Pl} {σ σ' : St} {nt : Nat}
theorem bK.cl {V V':Nat→Prop} {N N':Nat} {x:AC} {v:Value} {l:List (Nat×Nat)} (h:bK w V ι N (b8 l x) v) (hV: ∀b,V b→V' b) (hc:gQ N' x):bK w V' (λn=>ι (rn l n)) N' x v:=by
 have hp: ∀{p:PC} {v:Value},bY w V p v→bY w V' p v:= λh=>h.mono (λb _ h=>hV b h) (λ_ _ _=>rfl)
 have hcp: ∀{cells:List PC} {v:Value},bK w V ι N (.cptr cells) v→bK w V' (λn=>ι (rn l n)) N' (.cptr cells) v:=by
  intro cells v h
  cases h with
  |cptr g hc=>
   refine .cptr g λj p hj=> ?_
   obtain⟨h1,h2,h3⟩:=hc j p hj
   exact⟨hV _ h1,h2,hp h3⟩
 cases x with
 |pure p=>cases h with|pure h=>exact .pure (hp h)
 |nils=>cases h;exact .nils
 |tsl rows=>cases h with|tsl h=>exact .tsl (hp h)
 |ptr nm off=>cases h with|ptr hn h=>exact .ptr hc h
 |eptr nm sz row off=>cases h with|eptr hn h=>exact .eptr hc h
 |cptr cells=>exact hcp h
 |ref nm=>
  have e:v=ι (rn l nm):=by cases h;rfl
  subst e
  cases h with
  |ref hn h=>exact .ref (ι:= λn=>ι (rn l n)) hc h
 |mref nm=>cases h with|mref hn h=>exact .mref hc h
 |top=>cases h with|top h=>exact .top h
 |clo f caps=>
  cases h with
  | @clo _ _ vs hl h=>
   refine .clo (by simpa using hl) λi x hi=> ?_
   have key: ∀(l:List AC),gQ.go N' l→ ∀(i:Nat) x,l[i]? =some x→(∀nm off,x= .ptr nm off→nm<N')∧(∀nm sz row off,x≠ .eptr nm sz row off)∧(∀nm,x= .ref nm→nm<N')∧(∀f cs,x≠ .clo f cs)∧(∀nm,x= .mref nm→nm<N'):=by
    intro l
    induction l with
    |nil=>intro _ i x hi;simp at hi
    |cons y ys ih=>
     intro hg i x hi
     cases i with
     |zero=>
      simp at hi
      subst hi
      cases y<;>simp_all [gQ.go]
     |succ i=>
      simp at hi
      refine ih ?_ i x hi
      cases y<;>simp_all [gQ.go]
   obtain⟨k1,k2,k3,k4,k5⟩:=key caps hc i x hi
   have hx:=h i (dp l x) (by rw[List.getElem?_map,hi];rfl)
   generalize vs.toList[i]?.getD undef=z at hx ⊢
   cases x with
   |pure p=>cases hx with|pure h=>exact .pure (hp h)
   |nils=>cases hx;exact .nils
   |tsl rows=>cases hx with|tsl h=>exact .tsl (hp h)
   |ptr nm off=>cases hx with|ptr hn h=>exact .ptr (k1 _ _ rfl) h
   |eptr=>exact absurd rfl (k2 _ _ _ _)
   |cptr cells=>exact hcp hx
   |ref nm=>
    have e:z=ι (rn l nm):=by cases hx;rfl
    subst e
    cases hx with
    |ref hn h=>exact .ref (ι:= λn=>ι (rn l n)) (k3 _ rfl) h
   |mref nm=>cases hx with|mref hn h=>exact .mref (k5 _ rfl) h
   |top=>cases hx with|top h=>exact .top h
   |clo=>exact absurd rfl (k4 _ _)
theorem JD {V V':Nat→Prop} {N N':Nat} {l:List (Nat×Nat)}: ∀{xs:List AC} {vs:List Value},aJ (bK w V ι N) (xs.map (b8 l)) vs→(∀b,V b→V' b)→cw N' xs→aJ (bK w V' (λn=>ι (rn l n)) N') xs vs
 | [],vs,h,hV,hc=>by cases h;exact .nil
 |x::xs,vs,h,hV,hc=>by
  cases h with
  |cons h1 h2=>exact .cons (h1.cl hV hc.1) (JD h2 hV hc.2)
theorem aN.cl {V V':Nat→Prop} {N N':Nat} {x:AV} {v:Value} {l:List (Nat×Nat)} (h:aN w V ι N (c7 l x) v) (hV: ∀b,V b→V' b) (hc:ja N' x):aN w V' (λn=>ι (rn l n)) N' x v:=by
 cases x with
 |c x=>cases h with|c h=>exact .c (h.cl hV hc)
 |agg xs=>cases h with|agg h=>exact .agg (JD h hV hc)
 |tup xs=>
  cases xs with
  |nil=>cases h with|tup hl h=>exact .tup hl (by simp)
  |cons=>exact hc.elim
 |top=>exact .top
theorem Ih {n:Nat}: ∀{l:List Nat},jO n l→ ¬n∈l
 | [],_=>by simp
 |m::r,h=>by
  intro hm
  rcases List.mem_cons.1 hm with e|e
  ·exact h.1 e
  ·exact Ih h.2 e
theorem Tc {l:List (Nat×Nat)} {n:Option Nat} {ps:List AC}:eT n (ps.map (b8 l))=c7 l (eT n ps):=by
 cases n with
 |none=>cases ps<;>rfl
 |some k=>rfl
theorem XG {N:Nat} {n:Option Nat} {ps:List AC} (h:cw N ps):ja N (eT n ps):=by
 cases n with
 |none=>
  cases ps with
  |nil=>exact trivial
  |cons p r=>exact h.1
 |some k=>exact h
theorem OR {V V':Nat→Prop} {N N':Nat} {l:List (Nat×Nat)} {kt:KT} {n:Option Nat}: ∀{xs:List (MK×List AC)} {es:List MapEntry},aJ (jw w V ι N kt n) (xs.map λx=>(x.1,x.2.map (b8 l))) es→(∀b,V b→V' b)→Qj N' xs→
  aJ (jw w V' (λn=>ι (rn l n)) N' kt n) xs es
 | [],es,h,hV,hc=>by cases h;exact .nil
 |x::xs,es,h,hV,hc=>by
  cases h with
  |cons h1 h2=>
   refine .cons ⟨h1.1, ?_⟩ (OR h2 hV hc.2)
   have h3:aN _ _ _ _ (eT n (List.map _ _)) _:=h1.2
   rw[Tc]at h3
   exact h3.cl hV (XG hc.1)
theorem nB {l:List (Nat×Nat)} {mem mem':List (Nat×aU)} {N:Nat}: ∀{seen:List Nat},VN l mem N seen mem'→ ∀{nm:Nat} {b:aU},al mem' nm=some b→al mem (rn l nm)=some (QH l b)∧nm<N∧ZT N b∧ ¬rn l nm∈seen:=by
 induction mem' with
 |nil=>intro seen h nm b hf;cases hf
 |cons x r ih=>
  obtain⟨k,c⟩:=x
  intro seen h nm b hf
  obtain⟨h1,h2,h3,h4,h5⟩:=h
  rw[bF]at hf
  by_cases e:k=nm
  ·subst e
   rw[if_pos rfl]at hf
   cases hf
   exact⟨h1,h2,h3,Ih h4⟩
  ·rw[if_neg e]at hf
   obtain⟨g1,g2,g3,g4⟩:=ih h5 hf
   exact⟨g1,g2,g3,λhm=>g4 (List.mem_cons_of_mem _ hm)⟩
theorem Wq {l:List (Nat×Nat)} {mem mem':List (Nat×aU)} {N:Nat}: ∀{seen:List Nat},VN l mem N seen mem'→ ∀{nm nm':Nat} {b b':aU},al mem' nm=some b→al mem' nm'=some b'→rn l nm=rn l nm'→nm=nm':=by
 induction mem' with
 |nil=>intro seen h nm nm' b b' hf;cases hf
 |cons x r ih=>
  obtain⟨k,c⟩:=x
  intro seen h nm nm' b b' h1 h2 he
  have h5:=h.2.2.2.2
  rw[bF]at h1 h2
  by_cases e:k=nm
  ·by_cases e':k=nm'
   ·omega
   ·rw[if_neg e']at h2
    have:=(nB h5 h2).2.2.2
    subst e
    rw[←he]at this
    exact absurd List.mem_cons_self this
  ·rw[if_neg e]at h1
   by_cases e':k=nm'
   ·have:=(nB h5 h1).2.2.2
    subst e'
    rw[he]at this
    exact absurd List.mem_cons_self this
   ·rw[if_neg e']at h2
    exact ih h5 h1 h2 he
theorem Fg {l:List (Nat×Nat)} {fr fr':List (Nat×AV)} {N:Nat} (h:ij l fr N fr') (t:Nat):(aI fr t=c7 l (aI fr' t)∨aI fr' t= .top)∧ja N (aI fr' t):=by
 induction fr' with
 |nil=>exact⟨.inr rfl,trivial⟩
 |cons x r ih=>
  obtain⟨k,v⟩:=x
  obtain⟨h1,h2,h3⟩:=h
  rw[eM]
  by_cases e:k=t
  ·subst e
   rw[if_pos rfl]
   exact⟨h1,h2⟩
  ·rw[if_neg e]
   exact ih h3
theorem LR {N:Nat}: ∀{xs:List AC},cw N xs→ ∀{j:Nat} {x:AC},xs[j]? =some x→gQ N x
 | [],_,j,x,h=>by cases h
 |y::r,hc,0,x,h=>by cases h;exact hc.1
 |y::r,hc,j+1,x,h=>LR (xs:=r) hc.2 h
theorem LC {N:Nat}: ∀{xs:List (List AC)},Mt N xs→ ∀{j:Nat} {x:List AC},xs[j]? =some x→cw N x
 | [],_,j,x,h=>by cases h
 |y::r,hc,0,x,h=>by cases h;exact hc.1
 |y::r,hc,j+1,x,h=>LC (xs:=r) hc.2 h
theorem TU {V V':Nat→Prop} {N N' sz:Nat} {l:List (Nat×Nat)} {rows:List (List AC)} {cells:List Value} (h:gF w V ι N sz (rows.map λr=>r.map (b8 l)) cells) (hV: ∀b,V b→V' b) (hc:Mt N' rows):gF w V' (λn=>ι (rn l n)) N' sz rows cells:=by
 refine⟨by have:=h.1;rwa [List.length_map]at this,λi row hi=> ?_,λi row j p hi hj=> ?_⟩
 ·have:=h.2.1 i _ (by rw[List.getElem?_map,hi];rfl)
  rwa [List.length_map]at this
 ·obtain⟨v,hv,hp⟩:=h.2.2 i _ j _ (by rw[List.getElem?_map,hi];rfl) (by rw[List.getElem?_map,hj];rfl)
  exact⟨v,hv,hp.cl hV (LR (LC hc hi) hj)⟩
theorem bD.wk {l:List (Nat×Nat)} (hs:bD w0 U σ ι a w) (h:Wk l σ σ'):bD w0 U σ' (λn=>ι (rn l n)) a w:=by
 obtain⟨hf,hm,hb1,hb2,hb3⟩:=h
 have hfree: ∀b,aC w0.heap.size U ι σ.mem b→aC w0.heap.size U (λn=>ι (rn l n)) σ'.mem b:= λb h=>⟨h.1,λnm bx hn=>h.2 _ _ (nB hm hn).1⟩
 refine⟨λt=> ?_,hs.defers,λnm bx hn=>(nB hm hn).2.1,λnm bx hn=> ?_,λnm nm' b1 b2 b h1 h2 h3 h4=> ?_,hs.below,U.mono _ _ _ _ hs.keep (λb _ h=>hfree b h) (λ_ _ _=>rfl),⟨by rw[hb1];exact hb2,λnm hn=> ?_⟩⟩
 ·obtain⟨h1,h2⟩:=Fg hf t
  have hv:=hs.val t
  rcases h1 with h1|h1
  ·rw[h1]at hv
   exact hv.cl hfree h2
  ·rw[h1];exact .top
 ·obtain⟨h1,h2,h3,_⟩:=nB hm hn
  have hb:=hs.box _ _ h1
  cases bx with
  |var xs=>
   obtain⟨b',vs,T,g1,g2,g3,g4⟩:=hb
   exact⟨b',vs,T,g1,g2,g3,JD g4 hfree h3⟩
  |arr e sz rows=>
   obtain⟨cells,k0,k1,k2,k3⟩:=hb
   exact⟨cells,k0,k1,k2,k3.mono (λb _ h=>hfree b h) (λ_ _ _=>rfl)⟩
  |arn e sz rows=>
   obtain⟨cells,k0,k1,k2,k3⟩:=hb
   rw[List.length_map]at k1 k2
   exact⟨cells,k0,k1,k2,TU k3 hfree h3⟩
  |map kt n ents=>
   obtain⟨b',es,clock,g1,g2,g3,g4⟩:=hb
   exact⟨b',es,clock,g1,g2,g3,OR g4 hfree h3⟩
 ·exact Wq hm h1 h2 (hs.apart _ _ _ _ _ (nB hm h1).1 (nB hm h2).1 h3 h4)
 ·rw[hb1]at hn
  rw[MS hb3 hn]
  exact hs.base.2 nm hn
theorem fj {c:ak} {Q:bc→St→Prop} (t e sz:Nat) (ht:aI σ.fr t= .c .nils) (h0:0<sz)
  (h:AW P nt c {σ with fr:=(t,.c (.ref σ.nx))::σ.fr,mem:=(σ.nx,.arr e sz [])::σ.mem,nx:=σ.nx+1} Q):AW P nt c σ Q:=by
 intro c' hc w0 U rd ds ι a w hrd hs hz
 obtain⟨ι',h1,h2,h3,h4⟩:=hs.newBox (w':=w) (pv:= .slice none 0 0) (bx:= .arr e sz []) (Below.refl _ _) (λb hb=>by simp[bt]at hb) (λι' e1 e2 hfree=>⟨[],h0,by rw[e2];exact World.ownsRow_nil _ _ _ _,by simp,aX.nil⟩)
 refine h c' hc w0 U rd ds ι' a w hrd ⟨λs=> ?_,h1.defers,h1.names,h1.box,h1.apart,h1.below,h1.keep,h1.base⟩ hz
 rw[eM]
 by_cases es:t=s
 ·subst es
  rw[if_pos rfl]
  have hv:=hs.val t
  rw[ht]at hv
  rw[vM hv,←h2]
  exact .c (.ref (Nat.lt_succ_self _) ⟨_,_,_,h2⟩)
 ·rw[if_neg es]
  exact h1.val s
theorem dD {c:ak} {Q:bc→St→Prop} (nm i e sz:Nat) (xs:List AC) (hf:al σ.mem nm=some (.var xs)) (hi:xs[i]? =some .nils) (h0:0<sz)
  (h:AW P nt c {σ with mem:=(σ.nx,.arr e sz [])::cm σ.mem nm (.var (xs.set i (.ref σ.nx))),nx:=σ.nx+1} Q):AW P nt c σ Q:=by
 intro c' hc w0 U rd ds ι a w hrd hs hz
 obtain⟨ι',h1,h2,h3,h4⟩:=hs.newBox (w':=w) (pv:= .slice none 0 0) (bx:= .arr e sz []) (Below.refl _ _) (λb hb=>by simp[bt]at hb) (λι' e1 e2 hfree=>⟨[],h0,by rw[e2];exact World.ownsRow_nil _ _ _ _,by simp,aX.nil⟩)
 have hnm:=hs.names _ _ hf
 have hf1:al ((σ.nx,aU.arr e sz [])::σ.mem) nm=some (.var xs):=by rw[bF,if_neg (by omega)];exact hf
 obtain⟨b,vs,T,g1,g2,g3,g4⟩:=h1.box _ _ hf1
 have hset:=h1.setBox (cs:=vs) hf1 (b:=b) (by rw[g1];rfl) (bx:= .var (xs.set i (.ref σ.nx))) ⟨b,vs,T,g1,g2,setRow_heap _ _ _ _ _ _ g3,by
  rw[setRow_self w b vs T _ g3]
  refine aJ.of_get (by rw[List.length_set];exact g4.length) λj x v hj hv=> ?_
  rw[List.getElem?_set]at hj
  by_cases e1:i=j
  ·subst e1
   have hlt:=(List.getElem?_eq_some_iff.1 hi).1
   rw[if_pos rfl,if_pos hlt]at hj
   cases hj
   obtain⟨v',hv',hr⟩:=g4.get hi
   rw[hv']at hv
   cases hv
   have:v= .slice none 0 0:=by cases hr;rfl
   rw[this,←h2]
   exact .ref (Nat.lt_succ_self _) ⟨_,_,_,h2⟩
  ·rw[if_neg e1]at hj
   obtain⟨v',hv',hr⟩:=g4.get hj
   rw[hv']at hv
   cases hv
   exact hr⟩
 rw[setRow_self w b vs T _ g3]at hset
 have e5:cm ((σ.nx,aU.arr e sz [])::σ.mem) nm (.var (xs.set i (.ref σ.nx)))=(σ.nx,.arr e sz [])::cm σ.mem nm (.var (xs.set i (.ref σ.nx))):=by
  simp only[cm]
  rw[if_neg (by omega)]
 simp only[e5]at hset
 exact h c' hc w0 U rd ds ι' a w hrd hset hz
def X6 {τ:Type} (mk:τ→St) (I:τ→Prop) (μ:τ→Nat) (t:τ) (Q:bc→St→Prop):bc→St→Prop
 | .normal,σ=> ∃t' l,I t'∧μ t'<μ t∧Wk l σ (mk t')
 | .exit i,σ=>Q (.exit i) σ
 | .ret,σ=>Q .ret σ
theorem ap {τ:Type} {x:ak} {Q:bc→St→Prop} (mk:τ→St) (I:τ→Prop) (μ:τ→Nat) (h0: ∃t l,I t∧Wk l σ (mk t)) (h: ∀t,I t→AW P nt x (mk t) (X6 mk I μ t Q)):AW P nt (.loop x) σ Q:=by
 intro c' hc w0 U rd ds ι a w hrd hs hz
 cases c'<;>simp[cQ]at hc
 all_goals(try(split at hc<;>simp at hc))
 rename_i c1
 obtain⟨t,l,ht,hw⟩:=h0
 refine wpIn_loop_rounds (μ t+1) ?_
 have key: ∀n t U1 ds1 ι a w,J2 w0.heap.size rd U ds U1 ds1→μ t<n→I t→bD w0 U1 (mk t) ι a w→a.tmps.size=nt→Code.roundsIn (FR rd) 0 P c1 (xM w0 U rd ds nt Q) n (sh ds1 a) w:=by
  intro n
  induction n with
  |zero=>intro t U1 ds1 ι a w hx hm;omega
  |succ n ih=>
   intro t U1 ds1 ι a w hx hm ht hs hz
   rw[roundsIn_succ]
   refine wpIn_mono (h t ht _ hc w0 U1 rd ds1 ι a w (hrd.ext hx) hs hz) ?_
   rintro e a1 w1 ⟨e',σ',ι',U',ds',a0,rfl,hq,hs',hz',rfl,hx'⟩
   cases e' with
   |normal=>
    obtain⟨t',l',ht',hlt,hwk⟩:=hq
    exact ih t' _ _ _ a0 w1 (hx.trans hx') (by omega) ht' (hs'.wk hwk) hz'
   |exit i=>exact⟨.exit i,σ',ι',U',ds',a0,rfl,hq,hs',hz',rfl,hx.trans hx'⟩
   |ret=>exact⟨.ret,σ',ι',U',ds',a0,rfl,hq,hs',hz',rfl,hx.trans hx'⟩
 exact key _ t _ _ _ a w .refl (Nat.lt_succ_self _) ht (hs.wk hw) hz
end
open Go.RowKit
section
variable {P : Program} {a : Act} {w w' w0 : World} {U U2 : Gh} {ι : Pl} {σ : St}
def Gn:Obj→Bool
 | .loop _=>true
 | .deferred _=>true
 |_=>false
theorem Oo {b off:Nat} {v:Value} (h:w.cell? ⟨b,off,none⟩=some v): ¬ ∃o,w.heap[b]? =some o∧Gn o=true:=by
 rintro⟨o,h1,h2⟩
 obtain⟨o',h3,h4⟩:=cells_of_cell h
 rw[h1]at h3
 cases h3
 cases o<;>simp_all [Gn,Obj.isCells]
structure fc (n:Nat) (w w':World):Prop where
 os:w'.os=w.os
 tape:w'.tape=w.tape
 output:w'.output=w.output
 size:w.heap.size≤w'.heap.size
 block: ∀b,b<w.heap.size→w'.heap[b]? =w.heap[b]? ∨(n≤b∧ ∃o,w.heap[b]? =some o∧Gn o=true)
theorem fc.of_below {n:Nat} {A B:World} (h:Below A.heap.size A B):fc n A B:=⟨h.os,h.tape,h.output,h.size,λb hb=> .inl (h.block b hb)⟩
theorem fc.putObj {n D:Nat} {o:Obj} (o':Obj) (hD:n≤D) (ho:w.heap[D]? =some o) (hl:Gn o=true):fc n w (w.putObj D o'):=by
 refine⟨rfl,rfl,rfl,by simp,λb hb=> ?_⟩
 by_cases e:b=D
 ·subst e
  exact .inr ⟨hD,o,ho,hl⟩
 ·exact .inl (World.putObj_heap_other e)
theorem fc.old {n:Nat} {A B:World} (h:fc n A B) {b:Nat} (hb:b<n) (hlt:b<A.heap.size):B.heap[b]? =A.heap[b]? :=by
 rcases h.block b hlt with e|⟨e,_⟩
 ·exact e
 ·omega
section
variable {V S : Nat → Prop} {N : Nat} (hS : ∀ b, S b → ∃ o, w.heap[b]? = some o ∧ Gn o = true)
include hS
theorem bY.ne {p:PC} {v:Value} (h:bY w V p v):bY w (λb=>V b∧ ¬S b) p v:=by
 induction h with
 |val h=>exact .val h
 |slice g hn hcc hm hr hcell hp ih=>
  refine .slice g hn hcc hm hr (λi row j p h1 h2=> ?_) ih
  obtain⟨b,off,ha,hb,hcl⟩:=hcell i row j p h1 h2
  exact⟨b,off,ha,⟨hb,λh=>Oo hcl (hS _ h)⟩,hcl⟩
 |fmap hb hm hl hk hp ih=>
  refine .fmap ⟨hb,λh=> ?_⟩ hm hl hk ih
  obtain⟨o,h1,h2⟩:=hS _ h
  rw[hm]at h1
  cases h1
  cases h2
theorem bK.ne {x:AC} {v:Value} (h:bK w V ι N x v):bK w (λb=>V b∧ ¬S b) ι N x v:=by
 induction h with
 |pure h=>exact .pure (h.ne hS)
 |nils=>exact .nils
 |tsl h=>exact .tsl (h.ne hS)
 |ptr hn h=>exact .ptr hn h
 |eptr hn h=>exact .eptr hn h
 |cptr g hcell=>
  refine .cptr g λj p hj=> ?_
  obtain⟨h1,h2,h3⟩:=hcell j p hj
  exact⟨⟨h1,λh=>Oo h2 (hS _ h)⟩,h2,h3.ne hS⟩
 |ref hn h=>exact .ref hn h
 |clo hl h ih=>exact .clo hl λi x hx=>ih i x hx
 |mref hn h=>exact .mref hn h
 |top h=>exact .top h
theorem aN.ne {x:AV} {v:Value} (h:aN w V ι N x v):aN w (λb=>V b∧ ¬S b) ι N x v:=by
 induction h with
 |c h=>exact .c (h.ne hS)
 |agg h=>exact .agg (h.mono λ_ _ h=>h.ne hS)
 |tup hl h ih=>exact .tup hl λi x hx=>ih i x hx
 |top=>exact .top
end
theorem bD.not_lp (hs:bD w0 U σ ι a w) {nm b:Nat} {bx:aU} (hn:al σ.mem nm=some bx) (hb:bt (ι nm)=some b): ¬ ∃o,w.heap[b]? =some o∧Gn o=true:=by
 rintro⟨o,h1,h2⟩
 have h:=hs.box nm bx hn
 cases bx with
 |var xs=>
  obtain⟨b',vs,T,g1,g2,g3,g4⟩:=h
  rw[g1]at hb
  cases hb
  rw[g3]at h1
  cases h1
  cases h2
 |arr e sz rows=>
  obtain⟨cells,k0,k1,k2⟩:=h
  rcases k1.2 with⟨h,_⟩|⟨g,cap,cur,h,_,hg,_⟩
  ·rw[h]at hb;cases hb
  ·rw[h]at hb
   cases hb
   rw[hg]at h1
   cases h1
   cases h2
 |arn e sz rows=>
  obtain⟨cells,k0,k1,k2⟩:=h
  rcases k1.2 with⟨h,_⟩|⟨g,cap,cur,h,_,hg,_⟩
  ·rw[h]at hb;cases hb
  ·rw[h]at hb
   cases hb
   rw[hg]at h1
   cases h1
   cases h2
 |map kt n ents=>
  obtain⟨b',es,clock,g1,g2,g3,g4⟩:=h
  rw[g1]at hb
  cases hb
  rw[g3]at h1
  cases h1
  cases h2
theorem bD.growL (hs:bD w0 U σ ι a w) {n:Nat} (hn0:w0.heap.size≤n) (hg:fc n w w') (hp:U2.p=U.p) (hi:U2.ι0=U.ι0)
  (hG:U2.G w' (aC w0.heap.size U2 ι σ.mem)):bD w0 U2 σ ι a w':=by
 have hfree:aC w0.heap.size U2 ι σ.mem=aC w0.heap.size U ι σ.mem:=by
  funext b
  unfold aC
  rw[hp]
 have hS: ∀b,(b<w.heap.size∧w'.heap[b]? ≠w.heap[b]?)→ ∃o,w.heap[b]? =some o∧Gn o=true:=by
  rintro b ⟨h1,h2⟩
  rcases hg.block b h1 with e|⟨_,e⟩
  ·exact absurd e h2
  ·exact e
 have hV: ∀b,b<w.heap.size→(aC w0.heap.size U ι σ.mem b∧ ¬(b<w.heap.size∧w'.heap[b]? ≠w.heap[b]?))→aC w0.heap.size U2 ι σ.mem b:= λb _ h=>by rw[hfree];exact h.1
 have hw: ∀b,b<w.heap.size→(aC w0.heap.size U ι σ.mem b∧ ¬(b<w.heap.size∧w'.heap[b]? ≠w.heap[b]?))→w'.heap[b]? =w.heap[b]? := λb hb h=>Classical.byContradiction λe=>h.2 ⟨hb,e⟩
 refine⟨λt=>((hs.val t).ne hS).mono hV hw (λ_ _=>rfl) (Nat.le_refl _),hs.defers,hs.names,λnm bx hn=> ?_,hs.apart,hs.below.trans ⟨hg.os,hg.tape,hg.output,hg.size,λk hk=>hg.old (by omega) (Nat.lt_of_lt_of_le hk hs.below.size)⟩,hG,by rw[hi];exact hs.base⟩
 have hb:=hs.box nm bx hn
 have hsame: ∀b,bt (ι nm)=some b→b<w.heap.size→w'.heap[b]? =w.heap[b]? := λb e hlt=>by
  rcases hg.block b hlt with e2|⟨_,e2⟩
  ·exact e2
  ·exact absurd e2 (hs.not_lp hn e)
 cases bx with
 |var xs=>
  obtain⟨b,vs,T,h1,h2,h3,h4⟩:=hb
  exact⟨b,vs,T,h1,h2,by rw[hsame b (by rw[h1];rfl) (Array.getElem?_eq_some_iff.1 h3).1];exact h3,h4.mono λ_ _ h=>(h.ne hS).mono hV hw (λ_ _=>rfl) (Nat.le_refl _)⟩
 |arr e sz rows=>
  obtain⟨cells,h0,h1,h2,h3,h4,h5⟩:=hb
  refine⟨cells,h0, ?_,h2,h3,h4,λi row j p hi hj=> ?_⟩
  ·obtain⟨q1,q2⟩:=h1
   refine⟨q1, ?_⟩
   rcases q2 with q2|⟨g,cap,cur,e0,hbase,hgb,hrest⟩
   ·exact .inl q2
   ·exact .inr ⟨g,cap,cur,e0,hbase,(hsame g (by rw[e0];rfl) (Array.getElem?_eq_some_iff.1 hgb).1).trans hgb,hrest⟩
  ·obtain⟨v,hv,hpp⟩:=h5 i row j p hi hj
   exact⟨v,hv,(hpp.ne hS).mono hV hw⟩
 |arn e sz rows=>
  obtain⟨cells,h0,h1,h2,h3,h4,h5⟩:=hb
  refine⟨cells,h0, ?_,h2,h3,h4,λi row j p hi hj=> ?_⟩
  ·obtain⟨q1,q2⟩:=h1
   refine⟨q1, ?_⟩
   rcases q2 with q2|⟨g,cap,cur,e0,hbase,hgb,hrest⟩
   ·exact .inl q2
   ·exact .inr ⟨g,cap,cur,e0,hbase,(hsame g (by rw[e0];rfl) (Array.getElem?_eq_some_iff.1 hgb).1).trans hgb,hrest⟩
  ·obtain⟨v,hv,hpp⟩:=h5 i row j p hi hj
   exact⟨v,hv,(hpp.ne hS).mono hV hw (λ_ _=>rfl) (Nat.le_refl _)⟩
 |map kt n ents=>
  obtain⟨b,es,clock,h1,h2,h3,h4⟩:=hb
  exact⟨b,es,clock,h1,h2,by rw[hsame b (by rw[h1];rfl) (Array.getElem?_eq_some_iff.1 h3).1];exact h3,h4.mono λ_ _ h=>⟨h.1,(h.2.ne hS).mono hV hw (λ_ _=>rfl) (Nat.le_refl _)⟩⟩
theorem bD.turn (hs:bD w0 U σ ι a w) {D:Nat} {o:Obj} (o':Obj) (ho:w.heap[D]? =some o) (hl:Gn o=true) (hD:w0.heap.size≤D) (hp:U2.p=U.p) (hi:U2.ι0=U.ι0)
  (hG:U2.G (w.putObj D o') (aC w0.heap.size U2 ι σ.mem)):bD w0 U2 σ ι a (w.putObj D o'):=
 hs.growL hD (.putObj o' (Nat.le_refl _) ho hl) hp hi hG
theorem RS {fn:Func} {tmps:Array Value} {R:Ending→World→Prop} {U':Gh} {ds':List Deferred} (hx:J2 w0.heap.size none U [] U' ds'): ∀{w:World},bD w0 U' σ ι a w→
  (∀w',bD w0 U σ ι a w'→ ∃v,(results fn tmps).run P w'= .ok v w'∧R (.returned v) w')→LeavesInM Fence.wide 0 P fn tmps R ds' .returning w:=by
 induction hx with
 |refl=>exact λhs h=>h _ hs
 | @mark U1 U2 ds1 D h hr hD hp hi hG ih=>
  intro w hs hfin
  obtain⟨_,g2,g3,g4⟩:=hG _ _ hs.keep
  refine⟨by simp,.inl ⟨D,_,rfl,run_takeDeferred g3,ih (hs.turn (.deferred none) g3 rfl hD hp.symm hi.symm ?_) hfin⟩⟩
  have e:aC w0.heap.size U1 ι σ.mem=aC w0.heap.size U2 ι σ.mem:=by
   funext b
   unfold aC
   rw[hp]
  rw[e]
  exact g4
theorem vV {f:FuncId} {fn:Func} {c:Code} {vs:Array Value} {nt:Nat} {Q:bc→St→Prop} {R:Ending→World→Prop} (h1:P.funcs[f]? =some fn) (h2:fn.body=some c)
  (hw:c.wpIn (FR none) 0 P (xM w0 U none [] nt Q) (sh [] {tmps:=vs++Array.replicate (fn.ntmps-vs.size) undef,defers:= []}) w)
  (hx: ∀i σ',¬Q (.exit i) σ') (hfin: ∀{e:bc} {a':Act} {w':World} {σ':St} {ι':Pl},Q e σ'→bD w0 U σ' ι' a' w'→ ∃v,(results fn a'.tmps).run P w'= .ok v w'∧R (.returned v) w'):Calls P f vs w R:=by
 refine(callsIn_wide (n:=0)).1 (callsIn_of_wp_marks h1 h2 trivial (wpIn_mono hw ?_))
 rintro e a' w' ⟨e',σ',ι',U',ds',a0,rfl,hq,hs',hz,rfl,hx'⟩
 have hd:(sh ds' a0).defers=ds':=by
  show a0.defers++ds'=ds'
  rw[hs'.defers.1]
  rfl
 have key:LeavesInM Fence.wide 0 P fn (sh ds' a0).tmps R (sh ds' a0).defers .returning w':=by
  rw[hd]
  exact RS hx' hs' λw2 hs2=>hfin (a':=a0) hq hs2
 cases e' with
 |normal=>exact key
 |exit i=>exact absurd hq (hx _ _)
 |ret=>exact key
end
inductive AR where
 |t (n:Nat)
 |cell (n:Option Nat) (a:Nat)
def Yg (P:Program):ResultVar→Option AR
 | .tmp t=>some (.t t)
 | .cell a t=>(mj P t).map λn=> .cell n a
def DD (P:Program):List ResultVar→Option (List AR)
 | []=>some []
 |r::rs=>match Yg P r,DD P rs with
  |some x,some xs=>some (x::xs)
  |_,_=>none
def F3 (n:Option Nat) (xs:List AC) (K:AV→Prop):Prop:=
 match n with
 |none=>match xs with
  |x::_=>K (.c x)
  | []=>False
 |some n=>cN (n≤xs.length) (K:=⟨K (.agg (xs.take n))⟩)
def xN (σ:St):AR→(AV→Prop)→Prop
 | .t n,K=>K (aI σ.fr n)
 |.cell n a,K=>match aI σ.fr a with
  |.c q=>match bE σ.mem q with
   |some xs=>F3 n xs K
   |none=>False
  |_=>False
def jU (σ:St):List AR→List AV→(List AV→Prop)→Prop
 | [],acc,K=>K acc
 |r::rs,acc,K=>xN σ r λv=>jU σ rs (acc++ [v]) K
def eo:List AV→AV
 | [v]=>v
 |vs=> .tup vs
def K0 (mem:List (Nat×aU)):AV→Option AV
 |.tup xs=>match aV mem xs with
  |some ys=>some (.tup ys)
  |none=>none
 |x=>ct mem x
def aba (rs:List AR) (res:AV):bc→St→Prop
 | .exit _,_=>False
 | .ret,σ=>jU σ rs [] λvs=>K0 σ.mem (eo vs)=some res
 | .normal,σ=>jU σ rs [] λvs=>K0 σ.mem (eo vs)=some res
def aW:List AV→Nat→List (Nat×AV)
 | [],_=> []
 |v::r,k=>(k,v)::aW r (k+1)
def ol:List AV→Prop
 | []=>True
 |v::r=>iI v∧ol r
structure aB (P:Program) (f:FuncId) (nt:Nat) (body:ak) (rs:List AR):Prop where
 is : ∃ fn c, P.funcs[f]? = some fn ∧ fn.body = some c ∧ (fn.name == "runtime.NumGoroutine") = false ∧ fn.ntmps = nt ∧ cQ P nt c = some body ∧ DD P fn.results.toList = some rs
section
variable {P : Program} {a : Act} {w w' w0 : World} {U : Gh} {ι : Pl} {σ σ' : St} {nt : Nat}
theorem NC {t:TypeId} {n:Option Nat} {q:AC} {u:Value} {xs:List AC} {K:AV→Prop} (hs:bD w0 U σ ι a w) (ht:mj P t=some n) (hr:bK w (aC w0.heap.size U ι σ.mem) ι σ.nx q u) (hx:bE σ.mem q=some xs) (h:F3 n xs K):
  ∃ad v u',u= .pointer (some ad)∧(loadVar t ad).run P w= .ok u' w∧aN w (aC w0.heap.size U ι σ.mem) ι σ.nx v u'∧K v:=by
 obtain⟨b,off,e1,hc⟩:=D8 hs hr hx
 cases n with
 |none=>
  simp only[F3]at h
  split at h
  ·rename_i z zs
   obtain⟨v,hv,hr⟩:=hc 0 z rfl
   exact⟨_,_,v,e1,Iu (P:=P) ht (by simpa using hv),.c hr,h⟩
  ·exact h.elim
 |some n=>
  obtain⟨hle,h⟩:=h
  have hg: ∃ys:List Value,ys.length=n∧ ∀(j:Nat) x v,(xs.take n)[j]? =some x→ys[j]? =some v→w.cell? ⟨b,off+j,none⟩=some v∧bK w (aC w0.heap.size U ι σ.mem) ι σ.nx x v:=by
   refine⟨(List.range n).map λj=>(w.cell? ⟨b,off+j,none⟩).getD undef,by simp,λj x v hj hv=> ?_⟩
   have hjn:j<n:=by have:=(List.getElem?_eq_some_iff.1 hj).1;simp at this;omega
   rw[List.getElem?_take_of_lt hjn]at hj
   obtain⟨u,hu,hr⟩:=hc j x hj
   simp[List.getElem?_map,List.getElem?_range hjn,hu]at hv
   subst hv
   exact⟨hu,hr⟩
  obtain⟨ys,hl,hy⟩:=hg
  have hlt:(xs.take n).length=n:=by simp;omega
  refine⟨_,_,.agg ys.toArray,e1,Hk (P:=P) (w:=w) (ad:=⟨b,off,none⟩) ht (vs:=ys) hl λj v hv=> ?_,.agg (aJ.of_get (by rw[hlt];simp[hl]) λj x v hj hv=>(hy j x v hj (by simpa using hv)).2),h⟩
  have hjn:j<(xs.take n).length:=by rw[hlt,←hl];exact(List.getElem?_eq_some_iff.1 hv).1
  rw[gT]
  exact(hy j _ v (List.getElem?_eq_getElem hjn) hv).1
def JY (tmps:Array Value):ResultVar→Sem Value
 | .tmp t=>pure (tmps.getD t undef)
 | .cell a t=>do loadVar t (←asAddr (tmps.getD a undef))
theorem kr (hs:bD w0 U σ ι a w): ∀{rvs:List ResultVar} {rs:List AR} {acc:List AV} {us:List Value} {K:List AV→Prop},DD P rvs=some rs→jU σ rs acc K→aJ (aN w (aC w0.heap.size U ι σ.mem) ι σ.nx) acc us→
  ∃vs us',aJ (aN w (aC w0.heap.size U ι σ.mem) ι σ.nx) vs (us++us')∧(rvs.mapM (JY a.tmps)).run P w= .ok us' w∧K vs
 |[],rs,acc,us,K,hc,h,hacc=>by
  cases hc
  exact⟨acc, [],by simpa using hacc,rfl,h⟩
 |r::rvs,rs,acc,us,K,hc,h,hacc=>by
  unfold DD at hc
  split at hc
  ·rename_i x xs h1 h2
   cases hc
   have one: ∃v u,aN w (aC w0.heap.size U ι σ.mem) ι σ.nx v u∧(JY a.tmps r).run P w= .ok u w∧jU σ xs (acc++ [v]) K:=by
    simp only[jU]at h
    cases r with
    |tmp t=>
     cases h1
     exact⟨_,_,hs.val t,rfl,h⟩
    |cell ad t=>
     simp only[Yg,Option.map_eq_some_iff]at h1
     obtain⟨n,hn,rfl⟩:=h1
     simp only[xN]at h
     split at h
     ·rename_i q e
      have hq:=hs.val ad
      rw[e]at hq
      split at h
      ·rename_i xs' hx
       have hq':bK w (aC w0.heap.size U ι σ.mem) ι σ.nx q (a.tmps.getD ad undef):=by
        generalize a.tmps.getD ad undef=z at hq
        cases hq with|c hq=>exact hq
       obtain⟨adr,v,u',e1,e2,e3,e4⟩:=NC (P:=P) hs hn hq' hx h
       exact⟨v,u',e3,by simp only[JY,Sem.run_bind,e1,asAddr,Sem.run_pure,Result.andThen_ok,e2],e4⟩
      ·exact h.elim
     ·exact h.elim
   obtain⟨v,u,hr,hrun,hk⟩:=one
   obtain⟨vs,us',g1,g2,g3⟩:=kr hs (us:=us++ [u]) h2 hk (hacc.append (.cons hr .nil))
   exact⟨vs,u::us',by simpa using g1,by simp[List.mapM_cons,hrun,g2],g3⟩
  ·cases hc
theorem kw (fn:Func) (tmps:Array Value):results fn tmps=(do let vs←fn.results.mapM (JY tmps);pure (if h:vs.size=1 then vs[0]else .tuple vs)):=by
 unfold results
 congr 1
theorem K9 {V:Nat→Prop} {x y:AV} {v:Value} (hs:bD w0 U σ ι a w) (h:aN w (aC w0.heap.size U ι σ.mem) ι σ.nx x v) (hp:K0 σ.mem x=some y) (hV: ∀b,aC w0.heap.size U ι σ.mem b→V b) (hN: ∀b,w0.heap.size≤b→V b):aN w V (λ_=>undef) 0 y v:=by
 cases h with
 |c h=>exact zb hs (.c h) hp hV (.inr hN)
 |agg h=>exact zb hs (.agg h) hp hV (.inr hN)
 | @tup xs vs hl h=>
  simp only[K0]at hp
  split at hp
  ·cases hp
   have hall:aJ (aN w (aC w0.heap.size U ι σ.mem) ι σ.nx) xs vs.toList:=aJ.of_get (by simpa using hl) λi x v hi hv=>by
    have:=h i x hi
    rw[hv]at this
    exact this
   have hr:=kK hs hall hV (.inr hN) ‹_›
   refine .tup (by simpa using hr.length) λi x hi=> ?_
   obtain⟨v,hv,hx⟩:=hr.get hi
   rw[hv]
   exact hx
  ·cases hp
 |top=>cases hp
theorem jh {vs:List Value} {V:Nat→Prop} {N:Nat}: ∀{args:List AV} {us:List Value} {k:Nat},aJ (aN w V ι N) args us→ ∀t,aN w V ι N (aI (aW args k) t) ((us[t-k]?).getD undef)∨aI (aW args k) t= .top
 | [],us,k,h,t=> .inr rfl
 |v::args,us,k,h,t=>by
  cases h with
  | @cons _ u _ us h1 h2=>
   show aN _ _ _ _ (if k=t then v else aI (aW args (k+1)) t) _∨(if k=t then v else aI (aW args (k+1)) t)= .top
   by_cases e:k=t
   ·subst e
    rw[if_pos rfl]
    left
    simpa using h1
   ·rw[if_neg e]
    rcases jh (vs:=vs) (k:=k+1) h2 t with h|h
    ·by_cases hlt:k<t
     ·left
      have:t-k=(t-(k+1))+1:=by omega
      rw[this]
      simpa using h
     ·right
      clear h h1 h2
      have key: ∀(l:List AV) (j:Nat),t<j→aI (aW l j) t= .top:=by
       intro l
       induction l with
       |nil=>intro j _;rfl
       |cons x l ih=>
        intro j hj
        show(if j=t then x else aI (aW l (j+1)) t)=_
        rw[if_neg (by omega)]
        exact ih _ (by omega)
      exact key args (k+1) (by omega)
    ·exact .inr h
theorem uX {V:Nat→Prop} {N:Nat} {args:List AV} {us:List Value} (h:aJ (aN w V ι N) args us):ol args:=by
 induction h with
 |nil=>trivial
 |cons h _ ih=>exact⟨J4 h,ih⟩
theorem um {V:Nat→Prop} {N:Nat} {vs:List AV} {us:List Value} (h:aJ (aN w V ι N) vs us):aN w V ι N (eo vs) (if h:us.toArray.size=1 then us.toArray[0]else .tuple us.toArray):=by
 have tupled: ∀{vs:List AV} {us:List Value},aJ (aN w V ι N) vs us→aN w V ι N (.tup vs) (.tuple us.toArray):= λh=>
  .tup (by simpa using h.length) λi x hi=>by
   obtain⟨v,hv,hx⟩:=h.get hi
   simp only[List.toList_toArray]
   rw[hv]
   exact hx
 cases h with
 |nil=>rw[dif_neg (by simp)];exact tupled .nil
 |cons h1 t=>
  cases t with
  |nil=>rw[dif_pos (by simp)];exact h1
  |cons h2 t=>
   rw[dif_neg (by simp)]
   exact tupled (.cons h1 (.cons h2 t))
theorem af.of {f:FuncId} {nt:Nat} {body:ak} {rs:List AR} {args:List AV} {res:AV} (hf:aB P f nt body rs) (hlen:args.length≤nt) (h:ol args→AW P nt body ⟨aW args 0, [],0,0⟩ (aba rs res)):af P f args res:=by
 obtain⟨fn,c,h1,h2,h3,rfl,h5,h6⟩:=hf.is
 refine⟨⟨fn,h1,by rw[h2];rfl,h3⟩,λw U vs hG hargs=> ?_⟩
 have hsz:vs.size=args.length:=by rw[←Array.length_toList];exact hargs.length.symm
 have hs:bD w (Gh.of U) ⟨aW args 0, [],0,0⟩ (λ_=>undef) {tmps:=vs++Array.replicate (fn.ntmps-vs.size) undef,defers:= []} w:=by
  refine⟨λt=> ?_,⟨rfl,hG⟩,(λnm bx hn=>by cases hn),(λnm bx hn=>by cases hn),(λnm nm' b1 b2 b hn=>by cases hn),Below.refl _ _,trivial,⟨Nat.le_refl _,λ_ h=>absurd h (Nat.not_lt_zero _)⟩⟩
  have hmono: ∀{x:AV} {v:Value},aN w U (λ_=>undef) 0 x v→aN w (aC w.heap.size (Gh.of U) (λ_=>undef) []) (λ_=>undef) 0 x v:= λh=>
   h.mono (λb _ h=>⟨.inl h,λnm bx hn=>by cases hn⟩) (λ_ _ _=>rfl) (λ_ _=>rfl) (Nat.le_refl _)
  rcases jh (vs:=vs.toList) (k:=0) hargs t with h|h
  ·by_cases hlt:t<vs.size
   ·have e:(vs++Array.replicate (fn.ntmps-vs.size) undef).getD t undef=(vs.toList[t-0]?).getD undef:=by
     simp[Array.getD_eq_getD_getElem?,Array.getElem?_append,hlt]
    rw[e]
    exact hmono h
   ·have:aI (aW args 0) t= .top:=by
     have key: ∀(l:List AV) (j:Nat),j+l.length≤t→aI (aW l j) t= .top:=by
      intro l
      induction l with
      |nil=>intro j _;rfl
      |cons x l ih=>
       intro j hj
       simp only[List.length_cons]at hj
       show(if j=t then x else aI (aW l (j+1)) t)=_
       rw[if_neg (by omega)]
       exact ih _ (by omega)
     exact key args 0 (by omega)
    show aN _ _ _ _ (aI (aW args 0) t) _
    rw[this]
    exact .top
  ·show aN _ _ _ _ (aI (aW args 0) t) _
   rw[h]
   exact .top
 have hsize:(vs++Array.replicate (fn.ntmps-vs.size) undef).size=fn.ntmps:=by simp;omega
 have fin: ∀{a':Act} {w':World} {σ':St} {ι':Pl},jU σ' rs [] (λvs=>K0 σ'.mem (eo vs)=some res)→bD w (Gh.of U) σ' ι' a' w'→ ∃v,(results fn a'.tmps).run P w'= .ok v w'∧ ∃v',Ending.returned v= .returned v'∧aN w' (λb=>U b∨w.heap.size≤b) (λ_=>undef) 0 res v'∧Below w.heap.size w w':=by
  intro a' w' σ' ι' hres hs'
  obtain⟨vs',us',g1,g2,g3⟩:=kr hs' (us:= []) h6 hres .nil
  refine⟨_, ?_,_,rfl,K9 hs' (um (by simpa using g1)) g3 (λb h=>h.1) (λb h=> .inr h),hs'.below⟩
  rw[kw,Array.mapM_eq_mapM_toList]
  simp[g2]
 refine vV h1 h2 (h (uX hargs) c h5 w (Gh.of U) none [] _ _ w (λ_ e=>by cases e) hs hsize) (λi σ' h=>h) ?_
 intro e a' w' σ' ι' hq hs'
 cases e with
 |normal=>exact fin hq hs'
 |exit i=>exact hq.elim
 |ret=>exact fin hq hs'
def zm (rs:List AR) (res:AV) (mem:List (Nat×aU)) (nx base:Nat):bc→St→Prop
 | .exit _,_=>False
 | .ret,σ=>jU σ rs [] λvs=>eo vs=res∧σ.mem=mem∧σ.nx=nx∧σ.base=base
 | .normal,σ=>jU σ rs [] λvs=>eo vs=res∧σ.mem=mem∧σ.nx=nx∧σ.base=base
theorem aq.of {f:FuncId} {nt:Nat} {body:ak} {rs:List AR} {args:List AV} {mem mem':List (Nat×aU)} {nx nx':Nat} {res:AV} (hf:aB P f nt body rs) (hlen:args.length≤nt) (h:ol args→AW P nt body ⟨aW args 0,mem,nx,nx⟩ (zm rs res mem' nx' nx)):aq P f args mem nx res mem' nx':=by
 obtain⟨fn,c,h1,h2,h3,rfl,h5,h6⟩:=hf.is
 refine⟨⟨fn,h1,by rw[h2];rfl,h3⟩,λw0 U ι w vs hs0 hargs=> ?_⟩
 have hsz:vs.size=args.length:=by rw[←Array.length_toList];exact hargs.length.symm
 have hs:bD w0 U ⟨aW args 0,mem,nx,nx⟩ ι {tmps:=vs++Array.replicate (fn.ntmps-vs.size) undef,defers:= []} w:=by
  refine⟨λt=> ?_,⟨rfl,hs0.defers.2⟩,hs0.names,hs0.box,hs0.apart,hs0.below,hs0.keep,hs0.base⟩
  rcases jh (vs:=vs.toList) (k:=0) hargs t with h|h
  ·by_cases hlt:t<vs.size
   ·have e:(vs++Array.replicate (fn.ntmps-vs.size) undef).getD t undef=(vs.toList[t-0]?).getD undef:=by
     simp[Array.getD_eq_getD_getElem?,Array.getElem?_append,hlt]
    rw[e]
    exact h
   ·have:aI (aW args 0) t= .top:=by
     have key: ∀(l:List AV) (j:Nat),j+l.length≤t→aI (aW l j) t= .top:=by
      intro l
      induction l with
      |nil=>intro j _;rfl
      |cons x l ih=>
       intro j hj
       simp only[List.length_cons]at hj
       show(if j=t then x else aI (aW l (j+1)) t)=_
       rw[if_neg (by omega)]
       exact ih _ (by omega)
     exact key args 0 (by omega)
    show aN _ _ _ _ (aI (aW args 0) t) _
    rw[this]
    exact .top
  ·show aN _ _ _ _ (aI (aW args 0) t) _
   rw[h]
   exact .top
 have hsize:(vs++Array.replicate (fn.ntmps-vs.size) undef).size=fn.ntmps:=by simp;omega
 have fin: ∀{a':Act} {w':World} {σ':St} {ι':Pl},(jU σ' rs [] λvs=>eo vs=res∧σ'.mem=mem'∧σ'.nx=nx'∧σ'.base=nx)→bD w0 U σ' ι' a' w'→ ∃v,(results fn a'.tmps).run P w'= .ok v w'∧
   ∃v' ι',Ending.returned v= .returned v'∧bD w0 U ⟨[],mem',nx',nx⟩ ι' {tmps:= #[],defers:= []} w'∧aN w' (aC w0.heap.size U ι' mem') ι' nx' res v':=by
  intro a' w' σ' ι' hres hs'
  obtain⟨vs',us',g1,g2,rfl,rfl,rfl,rfl⟩:=kr hs' (us:= []) h6 hres .nil
  refine⟨_, ?_,_,ι',rfl,⟨λt=> .top,⟨rfl,hs'.defers.2⟩,hs'.names,hs'.box,hs'.apart,hs'.below,hs'.keep,hs'.base⟩,um (by simpa using g1)⟩
  rw[kw,Array.mapM_eq_mapM_toList]
  simp[g2]
 refine vV h1 h2 (h (uX hargs) c h5 w0 U none [] _ _ w (λ_ e=>by cases e) hs hsize) (λi σ' h=>h) ?_
 intro e a' w' σ' ι' hq hs'
 cases e with
 |normal=>exact fin hq hs'
 |exit i=>exact hq.elim
 |ret=>exact fin hq hs'
theorem Bt: ∀{l:List AV} {k:Nat} (i:Nat),aI (aW l k) (k+i)=(l[i]?).getD .top
 | [],k,i=>by simp[aW,aI]
 |v::l,k,0=>by simp[aW,aI]
 |v::l,k,i+1=>by
  have:=Bt (l:=l) (k:=k+1) i
  simp only[aW,aI]
  rw[if_neg (by omega),show k+(i+1)=k+1+i by omega,this]
  simp
def aa3 (rs:List AR) (ress:List AV) (mem:List (Nat×aU)) (nx base:Nat):bc→St→Prop
 | .exit _,_=>False
 | .ret,σ=> ∃l rl,jU (aP l σ []).1 rs [] λvs=>ress.length=vs.length∧Wk rl {(aP l σ []).1 with fr:=aW vs 0} ⟨aW ress 0,mem,nx,base⟩
 | .normal,σ=> ∃l rl,jU (aP l σ []).1 rs [] λvs=>ress.length=vs.length∧Wk rl {(aP l σ []).1 with fr:=aW vs 0} ⟨aW ress 0,mem,nx,base⟩
theorem aq.ofZ {f:FuncId} {nt:Nat} {body:ak} {rs:List AR} {args:List AV} {mem mem':List (Nat×aU)} {nx nx':Nat} {ress:List AV} (hf:aB P f nt body rs) (hlen:args.length≤nt) (h:ol args→AW P nt body ⟨aW args 0,mem,nx,nx⟩ (aa3 rs ress mem' nx' nx)):aq P f args mem nx (eo ress) mem' nx':=by
 obtain⟨fn,c,h1,h2,h3,rfl,h5,h6⟩:=hf.is
 refine⟨⟨fn,h1,by rw[h2];rfl,h3⟩,λw0 U ι w vs hs0 hargs=> ?_⟩
 have hsz:vs.size=args.length:=by rw[←Array.length_toList];exact hargs.length.symm
 have hs:bD w0 U ⟨aW args 0,mem,nx,nx⟩ ι {tmps:=vs++Array.replicate (fn.ntmps-vs.size) undef,defers:= []} w:=by
  refine⟨λt=> ?_,⟨rfl,hs0.defers.2⟩,hs0.names,hs0.box,hs0.apart,hs0.below,hs0.keep,hs0.base⟩
  rcases jh (vs:=vs.toList) (k:=0) hargs t with h|h
  ·by_cases hlt:t<vs.size
   ·have e:(vs++Array.replicate (fn.ntmps-vs.size) undef).getD t undef=(vs.toList[t-0]?).getD undef:=by
     simp[Array.getD_eq_getD_getElem?,Array.getElem?_append,hlt]
    rw[e]
    exact h
   ·have:aI (aW args 0) t= .top:=by
     have key: ∀(l:List AV) (j:Nat),j+l.length≤t→aI (aW l j) t= .top:=by
      intro l
      induction l with
      |nil=>intro j _;rfl
      |cons x l ih=>
       intro j hj
       simp only[List.length_cons]at hj
       show(if j=t then x else aI (aW l (j+1)) t)=_
       rw[if_neg (by omega)]
       exact ih _ (by omega)
     exact key args 0 (by omega)
    show aN _ _ _ _ (aI (aW args 0) t) _
    rw[this]
    exact .top
  ·show aN _ _ _ _ (aI (aW args 0) t) _
   rw[h]
   exact .top
 have hsize:(vs++Array.replicate (fn.ntmps-vs.size) undef).size=fn.ntmps:=by simp;omega
 have fin: ∀{a':Act} {w':World} {σ':St} {ι':Pl},(∃l rl,jU (aP l σ' []).1 rs [] λvs=>ress.length=vs.length∧Wk rl {(aP l σ' []).1 with fr:=aW vs 0} ⟨aW ress 0,mem',nx',nx⟩)→bD w0 U σ' ι' a' w'→ ∃v,(results fn a'.tmps).run P w'= .ok v w'∧
   ∃v' ι',Ending.returned v= .returned v'∧bD w0 U ⟨[],mem',nx',nx⟩ ι' {tmps:= #[],defers:= []} w'∧aN w' (aC w0.heap.size U ι' mem') ι' nx' (eo ress) v':=by
  rintro a' w' σ' ι' ⟨l,rl,hres⟩ hs'
  obtain⟨hs2,_⟩:=vY (l:=l) (args:= []) (us:= []) hs' .nil rfl
  obtain⟨vs',us',g1,g2,hlen',hwk⟩:=kr hs2 (us:= []) h6 hres .nil
  have g1:aJ (aN w' (aC w0.heap.size U ι' (aP l σ' []).1.mem) ι' (aP l σ' []).1.nx) vs' us':=by simpa using g1
  have hs3:bD w0 U {(aP l σ' []).1 with fr:=aW vs' 0} ι' {tmps:=us'.toArray,defers:= []} w':=by
   refine⟨λt=> ?_,⟨rfl,hs2.defers.2⟩,hs2.names,hs2.box,hs2.apart,hs2.below,hs2.keep,hs2.base⟩
   rcases jh (vs:= []) (k:=0) g1 t with h|h
   ·have e:us'.toArray.getD t undef=(us'[t-0]?).getD undef:=by simp[Array.getD_eq_getD_getElem?]
    rw[e];exact h
   ·show aN _ _ _ _ (aI (aW vs' 0) t) _
    rw[h];exact .top
  have hs4:=hs3.wk hwk
  have hall:aJ (aN w' (aC w0.heap.size U (λn=>ι' (rn rl n)) mem') (λn=>ι' (rn rl n)) nx') ress us':=by
   refine aJ.of_get (by rw[hlen',g1.length]) λi x u hx hu=> ?_
   have h:=hs4.val i
   have e1:aI (aW ress 0) i=x:=by
    have:=Bt (l:=ress) (k:=0) i
    rw[Nat.zero_add]at this
    rw[this,hx];rfl
   have e2:(us'.toArray).getD i undef=u:=by simp[Array.getD_eq_getD_getElem?,hu]
   simp only[e1,e2]at h
   exact h
  refine⟨_, ?_,_,λn=>ι' (rn rl n),rfl,⟨λt=> .top,⟨rfl,hs4.defers.2⟩,hs4.names,hs4.box,hs4.apart,hs4.below,hs4.keep,hs4.base⟩,um hall⟩
  rw[kw,Array.mapM_eq_mapM_toList]
  simp[g2]
 refine vV h1 h2 (h (uX hargs) c h5 w0 U none [] _ _ w (λ_ e=>by cases e) hs hsize) (λi σ' h=>h) ?_
 intro e a' w' σ' ι' hq hs'
 cases e with
 |normal=>exact fin hq hs'
 |exit i=>exact hq.elim
 |ret=>exact fin hq hs'
end
open Go.RowKit
def ZV (P:Program) (nt:Nat) (c:ak) (σ:St) [Q:nV (bc→St→Prop)]:Prop:=AW P nt c σ Q.out
def jo (P:Program) (nt:Nat):ak→St→(bc→St→Prop)→Prop
 | .skip,σ,Q=>Q .normal σ
 | .region gs false,σ,Q=>jG P gs σ (Q .normal)
 | .region gs true,σ,Q=>ZV P nt (.region gs true) σ (Q:=⟨Q⟩)
 | .draw gss,σ,Q=>xw P gss σ (Q .normal)
 |.seq a b,σ,Q=>jo P nt a σ fun
  | .normal,σ=>jo P nt b σ Q
  | .exit i,σ=>Q (.exit i) σ
  | .ret,σ=>Q .ret σ
 |.cond c a b,σ,Q=>match c.ev σ.fr with
  | .c (.pure (.val (.bool t)))=>i9 t (A:=⟨jo P nt a σ Q⟩) (B:=⟨jo P nt b σ Q⟩)
  |_=>False
 |.block id a,σ,Q=>jo P nt a σ fun
  | .normal,σ=>Q .normal σ
  | .exit i,σ=>if i=id then Q .normal σ else Q (.exit i) σ
  | .ret,σ=>Q .ret σ
 | .loop a,σ,Q=>ZV P nt (.loop a) σ (Q:=⟨Q⟩)
 | .rangeF f ps x y,σ,Q=>ZV P nt (.rangeF f ps x y) σ (Q:=⟨Q⟩)
 | .exit i,σ,Q=>Q (.exit i) σ
 | .ret,σ,Q=>Q .ret σ
theorem aa {P:Program} {nt:Nat}: ∀{c:ak} {σ:St} {Q:bc→St→Prop},jo P nt c σ Q→AW P nt c σ Q
 | .skip,σ,Q,h=>oM h
 | .region gs false,σ,Q,h=>Be h
 | .region gs true,σ,Q,h=>h
 | .draw gss,σ,Q,h=>OE h
 |.seq a b,σ,Q,h=>by
  simp only[jo]at h
  refine cZ ((aa (c:=a) h).mono ?_)
  intro e σ h
  cases e with
  |normal=>exact aa (c:=b) h
  |exit i=>exact h
  |ret=>exact h
 |.cond c a b,σ,Q,h=>by
  simp only[jo]at h
  split at h
  ·exact f7 ‹_› (λe=>aa (c:=a) (h.1 e)) (λe=>aa (c:=b) (h.2 e))
  ·exact h.elim
 |.block id a,σ,Q,h=>by
  simp only[jo]at h
  refine EE ((aa (c:=a) h).mono ?_)
  intro e σ h
  cases e with
  |normal=>exact h
  |exit i=>exact h
  |ret=>exact h
 | .loop a,σ,Q,h=>h
 | .rangeF f ps x y,σ,Q,h=>h
 | .exit i,σ,Q,h=>Ou h
 | .ret,σ,Q,h=>lZ h
theorem MY {P:Program} {nt:Nat} {c:ak} {σ:St} {Q:bc→St→Prop} (t:Nat) (h:iI (aI σ.fr t)→AW P nt c σ Q):AW P nt c σ Q:=
 λc' hc w0 U rd ds ι a w hrd hs hz=>h (J4 (hs.val t)) c' hc w0 U rd ds ι a w hrd hs hz
theorem ac {P:Program} {g z:Bool} {f:FuncId} {args pargs:List AV} {σ:St} {K:nV (AV→St→Prop)} {res:AV} (h:af P f pargs res) (hp:aV σ.mem args=some pargs) (hs:oZ res=true∨args.all fh=true) (hk:K.out res σ): @sG P g z f args σ K:=
 ⟨[],σ,args,.inl rfl,rfl,.inl ⟨pargs,hp,res,.inl ⟨h,hs⟩,hk⟩⟩
theorem el {P:Program} {g z:Bool} {f:FuncId} {args pargs:List AV} {σ:St} {K:nV (AV→St→Prop)} {res:AV} (h:af P f pargs res) (hp:aV σ.mem args=some pargs) (hs:args.all fh=true) (hk:K.out res σ): @sG P g z f args σ K:=ac h hp (.inr hs) hk
theorem aY {P:Program} {g z:Bool} {f:FuncId} {args pargs:List AV} {σ:St} {K:nV (AV→St→Prop)} {res:AV} (h:af P f pargs res) (hp:aV σ.mem args=some pargs) (hs:oZ res=true) (hk:K.out res σ): @sG P g z f args σ K:=ac h hp (.inl hs) hk
theorem an {P:Program} {z:Bool} {f:FuncId} {args:List AV} {σ:St} {K:nV (AV→St→Prop)} {res:AV} {mem':List (Nat×aU)} {nx':Nat} (h:aq P f args σ.mem σ.nx res mem' nx') (hk:K.out res {σ with mem:=mem',nx:=nx'}): @sG P true z f args σ K:=
 ⟨[],σ,args,.inl rfl,rfl,.inr ⟨rfl,res,mem',nx',h,hk⟩⟩
theorem Wd (l:List Nat) {P:Program} {g:Bool} {f:FuncId} {args args' pargs:List AV} {σ σ':St} {K:nV (AV→St→Prop)} {res:AV} (h:af P f pargs res) (hz:aP l σ args=(σ',args')) (hp:aV σ'.mem args'=some pargs) (hs:oZ res=true∨args'.all fh=true) (hk:K.out res σ'): @sG P g true f args σ K:=
 ⟨l,σ',args',.inr rfl,hz,.inl ⟨pargs,hp,res,.inl ⟨h,hs⟩,hk⟩⟩
theorem TQ (l:List Nat) {P:Program} {f:FuncId} {args args':List AV} {σ σ':St} {K:nV (AV→St→Prop)} {res:AV} {mem':List (Nat×aU)} {nx':Nat} (hz:aP l σ args=(σ',args')) (h:aq P f args' σ'.mem σ'.nx res mem' nx') (hk:K.out res {σ' with mem:=mem',nx:=nx'}): @sG P true true f args σ K:=
 ⟨l,σ',args',.inr rfl,hz,.inr ⟨rfl,res,mem',nx',h,hk⟩⟩
theorem rV (l:List Nat) {P:Program} {nt:Nat} {c:ak} {σ:St} {Q:bc→St→Prop} (h:AW P nt c (aP l σ []).1 Q):AW P nt c σ Q:=
 λc' hc w0 U rd ds ι a w hrd hs hz=>h c' hc w0 U rd ds ι a w hrd (vY (l:=l) (args:= []) (us:= []) hs .nil rfl).1 hz
theorem ZL (nm e sz:Nat) (rows:List (List PC)) {P:Program} {nt:Nat} {c:ak} {σ:St} {Q:bc→St→Prop} (hf:al σ.mem nm=some (.arr e sz rows)) (h:AW P nt c {σ with mem:=cm σ.mem nm (.arn e sz (rows.map λr=>r.map .pure))} Q):AW P nt c σ Q:=
 λc' hc w0 U rd ds ι a w hrd hs hz=>h c' hc w0 U rd ds ι a w hrd (hs.rebox hf (by
  obtain⟨cells,g0,g1,g2,g3,g4,g5⟩:=hs.box _ _ hf
  refine⟨cells,g0,by rw[List.length_map];exact g1,by rw[List.length_map];exact g2,by rw[List.length_map];exact g3,λi row hi=> ?_,λi row j p hi hj=> ?_⟩
  ·rw[List.getElem?_map,Option.map_eq_some_iff]at hi
   obtain⟨r,hi,rfl⟩:=hi
   rw[List.length_map]
   exact g4 _ _ hi
  ·rw[List.getElem?_map,Option.map_eq_some_iff]at hi
   obtain⟨r,hi,rfl⟩:=hi
   rw[List.getElem?_map,Option.map_eq_some_iff]at hj
   obtain⟨q,hj,rfl⟩:=hj
   obtain⟨v,hv,hp⟩:=g5 _ _ _ _ hi hj
   exact⟨v,hv,.pure hp⟩)) hz
theorem Zt (nm e sz:Nat) (rows:List (List PC)) {P:Program} {nt:Nat} {c:ak} {σ:St} {Q:bc→St→Prop} (hf:al σ.mem nm=some (.arn e sz (rows.map λr=>r.map .pure))) (h:AW P nt c {σ with mem:=cm σ.mem nm (.arr e sz rows)} Q):AW P nt c σ Q:=
 λc' hc w0 U rd ds ι a w hrd hs hz=>h c' hc w0 U rd ds ι a w hrd (hs.rebox hf (by
  obtain⟨cells,g0,g1,g2,g3,g4,g5⟩:=hs.box _ _ hf
  rw[List.length_map]at g1 g2 g3
  refine⟨cells,g0,g1,g2,g3,λi row hi=> ?_,λi row j p hi hj=> ?_⟩
  ·have:=g4 i _ (by rw[List.getElem?_map,hi];rfl)
   rwa [List.length_map]at this
  ·obtain⟨v,hv,hp⟩:=g5 i _ j _ (by rw[List.getElem?_map,hi];rfl) (by rw[List.getElem?_map,hj];rfl)
   cases hp with
   |pure hp=>exact⟨v,hv,hp⟩)) hz
theorem wrap_i64 {x:Int} (h1: -9223372036854775808≤x∧x≤9223372036854775807):IntKind.wrap .i64 x=x:=by
 rw[IntKind.wrap_i64];omega
theorem wrap_u64 {x:Int} (h1:0≤x∧x≤18446744073709551615):IntKind.wrap .u64 x=x:=by
 have:IntKind.wrap .u64 x=x%18446744073709551616:=by simp[IntKind.wrap,IntKind.bits,IntKind.signed]
 rw[this];omega
theorem iR {sz:Nat}:bC sz []:= λr h=>by cases h
theorem aO {sz:Nat} {r:List PC} (h:r.length=sz):bC sz [r]:= λx hx=>by
 rw[List.mem_singleton]at hx;rw[hx];exact h
theorem aQ {α:Type} {sz:Nat} {f:α→List PC} {l:List α} (h: ∀x,(f x).length=sz):bC sz (l.map f):= λr hr=>by
 obtain⟨x,_,rfl⟩:=List.mem_map.1 hr;exact h x
abbrev I (n:Int):AV:= .c (.pure (.val (.int .i64 n)))
abbrev B (b:Bool):AV:= .c (.pure (.val (.bool b)))
abbrev S (s:ByteArray):AV:= .c (.pure (.val (.string s)))
abbrev mz (xs:List Int):PC:= .slice (xs.map λn=> [.val (.int .i64 n)])
abbrev dc (xs:List Int):AV:= .c (.pure (mz xs))
section
variable {P : Program} {nt : Nat} {σ : St} {Q : bc → St → Prop} {K : St → Prop}
theorem Qu:jo P nt .skip σ Q=Q .normal σ:=propext ⟨id,id⟩
theorem KJ {gs:List AG}:jo P nt (.region gs false) σ Q=jG P gs σ (Q .normal):=propext ⟨id,id⟩
theorem Qd {gs:List AG}:jo P nt (.region gs true) σ Q=ZV P nt (.region gs true) σ (Q:=⟨Q⟩):=propext ⟨id,id⟩
theorem NJ {gss:List (List (Bool×AG))}:jo P nt (.draw gss) σ Q=xw P gss σ (Q .normal):=propext ⟨id,id⟩
theorem UM {a b:ak}:jo P nt (.seq a b) σ Q=jo P nt a σ (λe σ=>match e with
  | .normal=>jo P nt b σ Q
  | .exit i=>Q (.exit i) σ
  | .ret=>Q .ret σ):=by
 simp only[jo]
 congr 1
 funext e σ
 cases e<;>rfl
theorem RU {c:AX} {a b:ak}:jo P nt (.cond c a b) σ Q=match c.ev σ.fr with
  | .c (.pure (.val (.bool t)))=>i9 t (A:=⟨jo P nt a σ Q⟩) (B:=⟨jo P nt b σ Q⟩)
  |_=>False:=propext ⟨id,id⟩
theorem NB {id:Nat} {a:ak}:jo P nt (.block id a) σ Q=jo P nt a σ (λe σ=>match e with
  | .normal=>Q .normal σ
  | .exit i=>if i=id then Q .normal σ else Q (.exit i) σ
  | .ret=>Q .ret σ):=by
 simp only[jo]
 congr 1
 funext e σ
 cases e<;>rfl
theorem Kd {f:AX} {ps:List Nat} {x y:ak}:jo P nt (.rangeF f ps x y) σ Q=ZV P nt (.rangeF f ps x y) σ (Q:=⟨Q⟩):=propext ⟨id,id⟩
theorem QV {a:ak}:jo P nt (.loop a) σ Q=ZV P nt (.loop a) σ (Q:=⟨Q⟩):=propext ⟨id,id⟩
theorem Qk {i:Nat}:jo P nt (.exit i) σ Q=Q (.exit i) σ:=propext ⟨id,id⟩
theorem Vv:jo P nt .ret σ Q=Q .ret σ:=propext ⟨id,id⟩
theorem UR:jG P [] σ K=K σ:=propext ⟨id,id⟩
theorem QP {d:Option Nat} {op:eL} {r:List AG}:jG P (⟨d,none,op⟩::r) σ K=bq P op σ λv σ'=>jG P r (σ'.put d v) K:=propext ⟨id,id⟩
theorem NN {d:Option Nat} {op:eL} {t:Nat} {want:Bool} {r:List AG}:jG P (⟨d,some (t,want),op⟩::r) σ K=match aI σ.fr t with
  | .c (.pure (.val (.bool b)))=>i9 (b==want) (A:=⟨bq P op σ λv σ'=>jG P r (σ'.put d v) K⟩) (B:=⟨jG P r (σ.put d (.tup [])) K⟩)
  | .tup []=>jG P r (σ.put d (.tup [])) K
  |_=>False:=propext ⟨id,id⟩
theorem UO:jm P [] σ K=K σ:=propext ⟨id,id⟩
theorem Q0 {d:Option Nat} {op:eL} {r:List (Bool×AG)}:jm P ((false,⟨d,none,op⟩)::r) σ K=bq P op σ λv σ'=>jm P r (σ'.put d v) K:=by
 have e: ∀(p:Prop),(@cN (false=true→p)= λK=>K.out):= λp=>funext λK=>JN (λe=>by cases e)
 simp only[jm,e]
theorem QZ {d:Option Nat} {op:eL} {r:List (Bool×AG)}:jm P ((true,⟨d,none,op⟩)::r) σ K=bq P op σ λv σ'=>cN (Jb σ.mem σ'.mem) (K:=⟨jm P r (σ'.put d v) K⟩):=by
 simp only[jm,forall_const]
theorem Of {d:Option Nat} {x:Bool} {op:eL} {t:Nat} {want:Bool} {r:List (Bool×AG)}:jm P ((x,⟨d,some (t,want),op⟩)::r) σ K=match aI σ.fr t with
  | .c (.pure (.val (.bool b)))=>i9 (b==want) (A:=⟨jm P ((x,⟨d,none,op⟩)::r) σ K⟩) (B:=⟨jm P r (σ.put d (.tup [])) K⟩)
  | .tup []=>jm P r (σ.put d (.tup [])) K
  |_=>False:=propext ⟨id,id⟩
theorem RZ {gs:List (Bool×AG)}:xw P [gs] σ K=jm P gs σ K:=propext ⟨id,id⟩
theorem Qv {gs hs:List (Bool×AG)} {r:List (List (Bool×AG))}:xw P (gs::hs::r) σ K=SL (A:=⟨jm P gs σ K⟩) (B:=⟨xw P (hs::r) σ K⟩):=propext ⟨id,id⟩
theorem Qi {m:List (Nat×aU)}:Jb m m=True:=eq_true (.inl rfl)
theorem QU {m:List (Nat×aU)} {n:Nat} {b:aU}:Jb m ((n,b)::m)=(al m n=none):=propext ⟨λh=>by
 rcases h with h|⟨n',b',h1,h2⟩
 ·have:=congrArg List.length h
  simp at this
 ·cases h1
  exact h2,λh=> .inr ⟨n,b,rfl,h⟩⟩
end
section
variable {P : Program} {σ : St} {K : AV → St → Prop}
theorem Y1 {x:AX}:bq P (.mv x) σ K=(K (x.ev σ.fr) σ):=propext ⟨id,id⟩
theorem Vz {c:AX} {a:AX} {b:AX}:bq P (.pick c a b) σ K=(match c.ev σ.fr with
  | .c (.pure (.val (.bool t)))=>i9 t (A:=⟨K (a.ev σ.fr) σ⟩) (B:=⟨K (b.ev σ.fr) σ⟩)
  |_=>False):=propext ⟨id,id⟩
theorem Xd {x:AX}:bq P (.box x) σ K=(match (x.ev σ.fr).cells with
  |some xs=>K (.c (.ptr σ.nx 0)) {σ with mem:=(σ.nx,.var xs)::σ.mem,nx:=σ.nx+1}
  |none=>False):=propext ⟨id,id⟩
theorem S5 {n:Option Nat} {p:AX}:bq P (.load n p) σ K=(match p.ev σ.fr with
  |.c q=>match bE σ.mem q with
   |some xs=>match n with
    |none=>match xs with
     |x::_=>K (.c x) σ
     | []=>False
    |some n=>cN (n≤xs.length) (K:=⟨K (.agg (xs.take n)) σ⟩)
   |none=>False
  |_=>False):=propext ⟨id,id⟩
theorem QE {n:Nat} {p:AX} {v:AX}:bq P (.store n p v) σ K=(match (v.ev σ.fr).cells,p.ev σ.fr with
  |some ys,.c (.ptr nm off)=>match al σ.mem nm with
   |some (.var xs)=>cN (ys.length=n∧off+n≤xs.length) (K:=⟨K (.tup []) {σ with mem:=cm σ.mem nm (.var (over xs off ys))}⟩)
   |_=>False
  |some ys,.c (.eptr nm sz row off)=>match al σ.mem nm with
   |some (.arr e sz' rows)=>cN (sz=sz'∧ys.length=n∧off+n≤sz) (K:=⟨fG (GG ys) (K:=⟨λzs=>fG rows[row]? (K:=⟨λr=>
     K (.tup []) {σ with mem:=cm σ.mem nm (.arr e sz (rows.set row (over r off zs)))}⟩)⟩)⟩)
   |some (.arn e sz' rows)=>cN (sz=sz'∧ys.length=n∧off+n≤sz) (K:=⟨fG rows[row]? (K:=⟨λr=>
     K (.tup []) {σ with mem:=cm σ.mem nm (.arn e sz (rows.set row (over r off ys)))}⟩)⟩)
   |_=>False
  |_,_=>False):=propext ⟨id,id⟩
theorem XB {op:BinOp} {x:AX} {y:AX}:bq P (.bin op x y) σ K=(match x.ev σ.fr,y.ev σ.fr with
  |.c (.pure (.val a)),.c (.pure (.val b))=>match op with
   | .shl| .shr=>nK op a b λv=>K (.c (.pure (.val v))) σ
   |_=>Bd op a b λv=>K (.c (.pure (.val v))) σ
  |_,_=>False):=propext ⟨id,id⟩
theorem V8 {neg:Bool} {x:AX} {y:AX}:bq P (.eqb neg x y) σ K=(match x.ev σ.fr,y.ev σ.fr with
  | .c (.pure (.val (.bool a))),.c (.pure (.val (.bool b)))=>K (.c (.pure (.val (.bool ((a==b) !=neg))))) σ
  |_,_=>False):=propext ⟨id,id⟩
theorem XD {neg:Bool} {l:List ET} {x:AX} {y:AX}:bq P (.eqs neg l x y) σ K=(match x.ev σ.fr,y.ev σ.fr with
  | .agg xs,.agg ys=>cN (yt l xs ys) (K:=⟨K (.c (.pure (.val (.bool (re (Ga xs ys) !=neg))))) σ⟩)
  |_,_=>False):=propext ⟨id,id⟩
theorem Ta {op:UnOp} {x:AX}:bq P (.un op x) σ K=(match op,x.ev σ.fr with
  | .not,.c (.pure (.val (.bool b)))=>K (.c (.pure (.val (.bool (!b))))) σ
  | .neg,.c (.pure (.val (.int k n)))=>K (.c (.pure (.val (.int k (k.wrap (0-n)))))) σ
  | .xor,.c (.pure (.val (.int k n)))=>K (.c (.pure (.val (.int k (k.wrap (BitVec.ofInt k.bits (if k.signed then-1 else k.max)^^^BitVec.ofInt k.bits n).toNat))))) σ
  |_,_=>False):=propext ⟨id,id⟩
theorem Uj {k:IntKind} {x:AX}:bq P (.conv k x) σ K=(match x.ev σ.fr with
  | .c (.pure (.val (.int _ n)))=>K (.c (.pure (.val (.int k (k.wrap n))))) σ
  |_=>False):=propext ⟨id,id⟩
theorem N9 {off:Nat} {p:AX}:bq P (.fieldA off p) σ K=(match p.ev σ.fr with
  | .c (.ptr nm o)=>K (.c (.ptr nm (o+off))) σ
  | .c (.cptr cells)=>K (.c (.cptr (cells.drop off))) σ
  | .c (.eptr nm sz row o)=>K (.c (.eptr nm sz row (o+off))) σ
  |_=>False):=propext ⟨id,id⟩
theorem Rz {off:Nat} {n:Option Nat} {x:AX}:bq P (.field off n x) σ K=(match x.ev σ.fr with
  |.agg xs=>match n with
   |none=>match xs.drop off with
    |x::_=>K (.c x) σ
    | []=>False
   |some n=>cN (off+n≤xs.length) (K:=⟨K (.agg ((xs.drop off).take n)) σ⟩)
  |_=>False):=propext ⟨id,id⟩
theorem SN {sz:Nat} {x:AX} {i:AX}:bq P (.idxA sz x i) σ K=(match x.ev σ.fr,i.ev σ.fr with
  | .c (.pure (.slice rows)),.c (.pure (.val (.int _ i)))| .c (.tsl rows),.c (.pure (.val (.int _ i)))=>cN (0≤i) (K:=⟨fG rows[i.toNat]? (K:=⟨λr=>cN (r.length=sz∧0<sz) (K:=⟨K (.c (.cptr r)) σ⟩)⟩)⟩)
  |.c (.ref nm),.c (.pure (.val (.int _ i)))=>match al σ.mem nm with
   |some (.arr _ sz' rows)=>cN (sz'=sz∧0<sz∧0≤i∧i<rows.length) (K:=⟨K (.c (.eptr nm sz i.toNat 0)) σ⟩)
   |some (.arn _ sz' rows)=>cN (sz'=sz∧0<sz∧0≤i∧i<rows.length) (K:=⟨K (.c (.eptr nm sz i.toNat 0)) σ⟩)
   |_=>False
  |_,_=>False):=propext ⟨id,id⟩
theorem Te {len:Nat} {sz:Nat} {x:AX} {i:AX}:bq P (.idxR len sz x i) σ K=(match x.ev σ.fr,i.ev σ.fr with
  | .c (.ptr nm o),.c (.pure (.val (.int _ i)))=>cN (0≤i∧i<len) (K:=⟨K (.c (.ptr nm (o+i.toNat*sz))) σ⟩)
  | .c (.cptr cells),.c (.pure (.val (.int _ i)))=>cN (0≤i∧i<len) (K:=⟨K (.c (.cptr (cells.drop (i.toNat*sz)))) σ⟩)
  |_,_=>False):=propext ⟨id,id⟩
theorem Tr {x:AX}:bq P (.nilc x) σ K=(match x.ev σ.fr with
  | .c (.ptr nm o)=>K (.c (.ptr nm o)) σ
  | .c (.cptr cells)=>K (.c (.cptr cells)) σ
  | .c (.eptr nm sz row o)=>K (.c (.eptr nm sz row o)) σ
  | .c (.clo f caps)=>K (.c (.clo f caps)) σ
  |_=>False):=propext ⟨id,id⟩
theorem T4 {x:AX} {i:AX}:bq P (.idxS x i) σ K=(match x.ev σ.fr,i.ev σ.fr with
  | .c (.pure (.val (.string s))),.c (.pure (.val (.int _ i)))=>cN (0≤i) (K:=⟨fG s[i.toNat]? (K:=⟨λb=>K (.c (.pure (.val (.int .u8 b.toNat)))) σ⟩)⟩)
  |_,_=>False):=propext ⟨id,id⟩
theorem Q8 {zero:List AC} {parts:List (Nat×Nat×AX)}:bq P (.build zero parts) σ K=(bq.buildW σ parts zero λxs=>K (.agg xs) σ):=propext ⟨id,id⟩
theorem Nf {sz:Nat} {rows:List AX}:bq P (.bslice sz rows) σ K=(bq.bsliceW σ sz rows [] λrs=>K (.c (.tsl rs)) σ):=propext ⟨id,id⟩
theorem Kv {e:Nat} {sz:Nat} {bytes:Nat} {zero:List PC} {l:AX}:bq P (.mkslice e sz bytes zero l) σ K=(match l.ev σ.fr with
  | .c (.pure (.val (.int .i64 n)))=>cN (0≤n∧n≤281474976710656∧bytes*n≤281474976710656) (K:=⟨
    K (.c (.ref σ.nx)) {σ with mem:=(σ.nx,.arr e sz (List.replicate n.toNat zero))::σ.mem,nx:=σ.nx+1}⟩)
  |_=>False):=propext ⟨id,id⟩
theorem WI {sz:Nat} {x:AX} {lo:Option AX} {hi:Option AX} {mx:Option AX}:bq P (.slc sz x lo hi mx) σ K=(match x.ev σ.fr with
  | .c (.ref _)=>False
  |v=>fG (eQ σ.mem v) (K:=⟨λrows=>fG (bq.boundOf σ lo) (K:=⟨λlo=>fG (bq.boundOf σ hi) (K:=⟨λhi=>fG (bq.boundOf σ mx) (K:=⟨λmx=>
   cN (bC sz rows∧0≤lo.getD 0∧lo.getD 0≤hi.getD rows.length∧hi.getD rows.length≤mx.getD rows.length∧mx.getD rows.length≤rows.length) (K:=⟨
   K (.c (if mx.isSome=true∧mx=hi then .tsl ((rows.take (hi.getD rows.length).toNat).drop (lo.getD 0).toNat)else .pure (.slice ((rows.take (hi.getD rows.length).toNat).drop (lo.getD 0).toNat)))) σ⟩)⟩)⟩)⟩)⟩)):=propext ⟨id,id⟩
theorem SB {x:AX} {lo:Option AX} {hi:Option AX}:bq P (.slcS x lo hi) σ K=(match x.ev σ.fr,bq.boundOf σ lo,bq.boundOf σ hi with
  |.c (.pure (.val (.string s))),some lo,some hi=>cN (0≤lo.getD 0∧lo.getD 0≤hi.getD s.size∧hi.getD s.size≤s.size) (K:=⟨
   K (.c (.pure (.val (.string (s.extract (lo.getD 0).toNat (hi.getD s.size).toNat))))) σ⟩)
  |_,_,_=>False):=propext ⟨id,id⟩
theorem WT {x:AX} {i:Nat}:bq P (.ext x i) σ K=(match x.ev σ.fr with
  | .tup vs=>fG vs[i]? (K:=⟨λv=>K v σ⟩)
  |_=>False):=propext ⟨id,id⟩
theorem V9 {x:AX}:bq P (.len x) σ K=(match x.ev σ.fr with
  | .c (.pure (.slice rows))| .c (.tsl rows)=>K (.c (.pure (.val (.int .i64 rows.length)))) σ
  | .c .nils=>K (.c (.pure (.val (.int .i64 0)))) σ
  |.c (.ref nm)=>match al σ.mem nm with
   |some (.arr _ _ rows)=>K (.c (.pure (.val (.int .i64 rows.length)))) σ
   |some (.arn _ _ rows)=>K (.c (.pure (.val (.int .i64 rows.length)))) σ
   |_=>False
  |_=>False):=propext ⟨id,id⟩
theorem Ug {x:AX}:bq P (.lenS x) σ K=(match x.ev σ.fr with
  | .c (.pure (.val (.string s)))=>K (.c (.pure (.val (.int .i64 s.size)))) σ
  |_=>False):=propext ⟨id,id⟩
theorem ZO {mx:Bool} {x:AX} {y:AX}:bq P (.mm mx x y) σ K=(match x.ev σ.fr,y.ev σ.fr with
  | .c (.pure (.val (.int k a))),.c (.pure (.val (.int _ b)))=>K (.c (.pure (.val (.int k (if mx=true then max a b else min a b))))) σ
  |_,_=>False):=propext ⟨id,id⟩
theorem W5 {x y z t:AX}:bq P (.mm4 x y z t) σ K=(match x.ev σ.fr,y.ev σ.fr,z.ev σ.fr,t.ev σ.fr with
  | .c (.pure (.val (.int k a))),.c (.pure (.val (.int _ b))),.c (.pure (.val (.int _ c))),.c (.pure (.val (.int _ d)))=>K (.c (.pure (.val (.int k (max (max (max a b) c) d))))) σ
  |_,_,_,_=>False):=propext ⟨id,id⟩
theorem R8:bq P .dead σ K=False:=propext ⟨id,id⟩
theorem VG {neg:Bool} {x:AX}:bq P (.fnil neg x) σ K=(match x.ev σ.fr with
  | .c (.clo _ _)=>K (.c (.pure (.val (.bool neg)))) σ
  | .c (.pure (.val .nilFunc))=>K (.c (.pure (.val (.bool (!neg))))) σ
  |_=>False):=propext ⟨id,id⟩
theorem SC {neg:Bool} {x:AX}:bq P (.snil neg x) σ K=(match x.ev σ.fr with
  | .c .nils=>K (.c (.pure (.val (.bool (!neg))))) σ
  | .c (.pure (.slice rows))| .c (.tsl rows)=>GQ rows (A:=⟨K (.c (.pure (.val (.bool (!neg))))) σ⟩) (B:=⟨K (.c (.pure (.val (.bool neg)))) σ⟩)
  |.c (.ref nm)=>match al σ.mem nm with
   |some (.arr _ _ rows)=>GQ rows (A:=⟨K (.c (.pure (.val (.bool (!neg))))) σ⟩) (B:=⟨K (.c (.pure (.val (.bool neg)))) σ⟩)
   |_=>False
  |_=>False):=propext ⟨id,id⟩
theorem WH {e:Nat} {sz:Nat} {bytes:Nat} {x:AX} {y:AX}:bq P (.app e sz bytes x y) σ K=(fG (eQ σ.mem (y.ev σ.fr)) (K:=⟨λys=>Fy e sz bytes (x.ev σ.fr) (y.ev σ.fr) ys σ (K:=⟨K⟩)⟩)):=propext ⟨id,id⟩
theorem TD {f:FuncId} {caps:List AX}:bq P (.mkfn f caps) σ K=(bq.mkfnW σ caps [] λxs=>K (.c (.clo f xs)) σ):=propext ⟨id,id⟩
theorem Vq {g z:Bool} {f:AX} {args:List AX}:bq P (.call g z f args) σ K=(match f.ev σ.fr with
  | .c (.clo f caps)=>sG P g z f (args.map (·.ev σ.fr)++caps.map .c) σ (K:=⟨K⟩)
  |_=>False):=propext ⟨id,id⟩
theorem Lo {sz:Nat} {rows:List AX}:bq P (.bsliceF sz rows) σ K=(bq.bsliceFW σ sz rows σ.mem [] λrs mem=>K (.c (.tsl rs)) {σ with mem:=mem}):=propext ⟨id,id⟩
theorem Qq {kt:KT} {n:Option Nat}:bq P (.mkmap kt n) σ K=(K (.c (.mref σ.nx)) {σ with mem:=(σ.nx,.map kt n [])::σ.mem,nx:=σ.nx+1}):=propext ⟨id,id⟩
theorem Tz {kt:KT} {n:Option Nat} {zero:List AC} {ok:Bool} {m:AX} {k:AX}:bq P (.mget kt n zero ok m k) σ K=(match k.ev σ.fr with
  |.c (.pure (.val kv))=>fG (GD kt kv) (K:=⟨λmk=>match m.ev σ.fr with
   |.c (.mref nm)=>match al σ.mem nm with
    |some (.map kt' n' ents)=>cN (kt'=kt∧n'=n) (K:=⟨tJ (iy ents mk) (A:=⟨λps=>K (if ok=true then .tup [eT n ps,.c (.pure (.val (.bool true)))]else eT n ps) σ⟩)
     (B:=⟨K (if ok=true then .tup [eT n zero,.c (.pure (.val (.bool false)))]else eT n zero) σ⟩)⟩)
    |_=>False
   | .c (.pure (.fmap kt' n' es))=>cN (kt'=kt∧n'=n) (K:=⟨tJ (iy (pE es) mk) (A:=⟨λps=>K (if ok=true then .tup [eT n ps,.c (.pure (.val (.bool true)))]else eT n ps) σ⟩)
     (B:=⟨K (if ok=true then .tup [eT n zero,.c (.pure (.val (.bool false)))]else eT n zero) σ⟩)⟩)
   |_=>False⟩)
  |_=>False):=propext ⟨id,id⟩
theorem UH {kt:KT} {n:Option Nat} {m:AX} {k:AX} {v:AX}:bq P (.mput kt n m k v) σ K=(match k.ev σ.fr with
  |.c (.pure (.val kv))=>fG (GD kt kv) (K:=⟨λmk=>match m.ev σ.fr with
   |.c (.mref nm)=>fG (AB n (v.ev σ.fr)) (K:=⟨λys=>match al σ.mem nm with
    |some (.map kt' n' ents)=>cN (kt'=kt∧n'=n) (K:=⟨K (.tup []) {σ with mem:=cm σ.mem nm (.map kt n (Bk ents mk ys))}⟩)
    |_=>False⟩)
   |_=>False⟩)
  |_=>False):=propext ⟨id,id⟩
end
section
variable {P : Program} {σ : St}
theorem Kg {sz:Nat} {acc:List (List PC)} {K:List (List PC)→Prop}:bq.bsliceW σ sz [] acc K=K acc:=propext ⟨id,id⟩
theorem Jg {sz:Nat} {x:AX} {r:List AX} {acc:List (List PC)} {K:List (List PC)→Prop}:bq.bsliceW σ sz (x::r) acc K=(match (x.ev σ.fr).cells with
   |some ys=>fG (GG ys) (K:=⟨λzs=>cN (ys.length=sz) (K:=⟨bq.bsliceW σ sz r (acc++ [zs]) K⟩)⟩)
   |none=>False):=propext ⟨id,id⟩
theorem IY {sz:Nat} {mem:List (Nat×aU)} {acc:List (List PC)} {K:List (List PC)→List (Nat×aU)→Prop}:bq.bsliceFW σ sz [] mem acc K=K acc mem:=propext ⟨id,id⟩
theorem GE {sz:Nat} {x:AX} {r:List AX} {mem:List (Nat×aU)} {acc:List (List PC)} {K:List (List PC)→List (Nat×aU)→Prop}:bq.bsliceFW σ sz (x::r) mem acc K=(match (x.ev σ.fr).cells with
   |some ys=>fG (D1 mem ys) (K:=⟨λz=>cN (ys.length=sz) (K:=⟨bq.bsliceFW σ sz r z.2 (acc++ [z.1]) K⟩)⟩)
   |none=>False):=propext ⟨id,id⟩
theorem MX {acc:List AC} {K:List AC→Prop}:bq.buildW σ [] acc K=K acc:=propext ⟨id,id⟩
theorem J6 {off n:Nat} {x:AX} {r:List (Nat×Nat×AX)} {acc:List AC} {K:List AC→Prop}:bq.buildW σ ((off,n,x)::r) acc K=(match (x.ev σ.fr).cells with
   |some ys=>cN (ys.length=n∧off+n≤acc.length) (K:=⟨bq.buildW σ r (over acc off ys) K⟩)
   |none=>False):=propext ⟨id,id⟩
theorem Rl {acc:List AC} {K:List AC→Prop}:bq.mkfnW σ [] acc K=K acc:=propext ⟨id,id⟩
theorem NO {x:AX} {r:List AX} {acc:List AC} {K:List AC→Prop}:bq.mkfnW σ (x::r) acc K=(match x.ev σ.fr with
   | .c y=>bq.mkfnW σ r (acc++ [y]) K
   |_=>False):=propext ⟨id,id⟩
end
def ZH (n:Nat) (a b:Int):Int:=(BitVec.ofInt n a&&&BitVec.ofInt n b).toNat
def orI (n:Nat) (a b:Int):Int:=(BitVec.ofInt n a|||BitVec.ofInt n b).toNat
def abB (n:Nat) (a b:Int):Int:=(BitVec.ofInt n a^^^BitVec.ofInt n b).toNat
def aaF (n:Nat) (a b:Int):Int:=(BitVec.ofInt n a&&& ~~~BitVec.ofInt n b).toNat
section
variable {k : IntKind} {a b : Int} {s u : ByteArray} {K : Value → Prop}
theorem R9:nf .add k a b K=K (.int k (k.wrap (a+b))):=propext ⟨id,id⟩
theorem VM:nf .sub k a b K=K (.int k (k.wrap (a-b))):=propext ⟨id,id⟩
theorem T2:nf .mul k a b K=K (.int k (k.wrap (a*b))):=propext ⟨id,id⟩
theorem Uk:nf .quo k a b K=cN (b≠0) (K:=⟨K (.int k (k.wrap (a.tdiv b)))⟩):=propext ⟨id,id⟩
theorem T5:nf .rem k a b K=cN (b≠0) (K:=⟨K (.int k (a.tmod b))⟩):=propext ⟨id,id⟩
theorem SA:nf .and k a b K=K (.int k (k.wrap (ZH k.bits a b))):=propext ⟨id,id⟩
theorem Xk:nf .or k a b K=K (.int k (k.wrap (orI k.bits a b))):=propext ⟨id,id⟩
theorem S9:nf .xor k a b K=K (.int k (k.wrap (abB k.bits a b))):=propext ⟨id,id⟩
theorem Mg:nf .andNot k a b K=K (.int k (k.wrap (aaF k.bits a b))):=propext ⟨id,id⟩
theorem Vc:nf .eql k a b K=K (.bool (a==b)):=propext ⟨id,id⟩
theorem Sd:nf .neq k a b K=K (.bool (a !=b)):=propext ⟨id,id⟩
theorem So:nf .lss k a b K=K (.bool (decide (a<b))):=propext ⟨id,id⟩
theorem Uo:nf .leq k a b K=K (.bool (decide (a≤b))):=propext ⟨id,id⟩
theorem VK:nf .gtr k a b K=K (.bool (decide (a>b))):=propext ⟨id,id⟩
theorem VC:nf .geq k a b K=K (.bool (decide (a≥b))):=propext ⟨id,id⟩
theorem Uu:xV .add s u K=cN (s.size+u.size≤9223372036854775807) (K:=⟨K (.string (s++u))⟩):=propext ⟨id,id⟩
theorem Vg:xV .eql s u K=K (.bool (s.toList==u.toList)):=propext ⟨id,id⟩
theorem Sy:xV .neq s u K=K (.bool (!(s.toList==u.toList))):=propext ⟨id,id⟩
theorem TL:xV .lss s u K=K (.bool (Op.bytesLess s.toList u.toList)):=propext ⟨id,id⟩
theorem Si:xV .leq s u K=K (.bool (Op.bytesLess s.toList u.toList||s.toList==u.toList)):=propext ⟨id,id⟩
theorem VA:xV .gtr s u K=K (.bool (!(Op.bytesLess s.toList u.toList||s.toList==u.toList))):=propext ⟨id,id⟩
theorem Vi:xV .geq s u K=K (.bool (!(Op.bytesLess s.toList u.toList))):=propext ⟨id,id⟩
theorem TG {op:BinOp} {k':IntKind}:Bd op (.int k a) (.int k' b) K=cN (k=k') (K:=⟨nf op k a b K⟩):=propext ⟨id,id⟩
theorem Vx {op:BinOp}:Bd op (.string s) (.string u) K=xV op s u K:=propext ⟨id,id⟩
theorem M7:uj .shl k a b K=K (.int k (k.wrap (a*2^(min b.toNat k.bits)))):=propext ⟨id,id⟩
theorem Ns:uj .shr k a b K=K (.int k (a.fdiv (2^(min b.toNat k.bits)))):=propext ⟨id,id⟩
theorem N6 {op:BinOp} {k':IntKind}:nK op (.int k a) (.int k' b) K=cN (0≤b) (K:=⟨uj op k a b K⟩):=propext ⟨id,id⟩
end
section
variable {σ : St} {K : List AV → Prop} {L : AV → Prop}
theorem Vh {acc:List AV}:jU σ [] acc K=K acc:=propext ⟨id,id⟩
theorem Rr {r:AR} {rs:List AR} {acc:List AV}:jU σ (r::rs) acc K=xN σ r λv=>jU σ rs (acc++ [v]) K:=propext ⟨id,id⟩
theorem VD {n:Nat}:xN σ (.t n) L=L (aI σ.fr n):=propext ⟨id,id⟩
theorem Ky {n:Option Nat} {a:Nat}:xN σ (.cell n a) L=(match aI σ.fr a with
  |.c q=>match bE σ.mem q with
   |some xs=>F3 n xs L
   |none=>False
  |_=>False):=propext ⟨id,id⟩
theorem QR {x:AC} {xs:List AC}:F3 none (x::xs) L=L (.c x):=propext ⟨id,id⟩
theorem Qe {n:Nat} {xs:List AC}:F3 (some n) xs L=cN (n≤xs.length) (K:=⟨L (.agg (xs.take n))⟩):=propext ⟨id,id⟩
end
theorem Uc {σ:St} {v:AV}:σ.put none v=σ:=rfl
theorem Vn {σ:St} {d:Nat} {v:AV}:σ.put (some d) v={σ with fr:=(d,v)::σ.fr}:=rfl
theorem aA {m n:Nat} {v:AV} {r:List (Nat×AV)}:aI ((m,v)::r) n=if m=n then v else aI r n:=by rw[aI]
theorem F8 {mem:List (Nat×aU)}: ∀{l:List PC},xj mem (l.map .pure)=some l
 | []=>rfl
 |p::l=>by simp only[List.map_cons,xj,cz,F8 (l:=l)]
theorem Hv {α:Type} {mem:List (Nat×aU)} {k:α→MK} {p:α→PC}: ∀{l:List α},mC mem none (l.map λx=>(k x, [.pure (p x)]))=some (l.map λx=>(k x, [p x]))
 | []=>rfl
 |x::l=>by simp only[List.map_cons,mC,pC,cz,Hv (l:=l)]
theorem GZ {α:Type} {mem:List (Nat×aU)} {k:α→MK} {ps:α→List PC} {m:Nat}: ∀{l:List α},mC mem (some m) (l.map λx=>(k x,(ps x).map .pure))=some (l.map λx=>(k x,ps x))
 | []=>rfl
 |x::l=>by simp only[List.map_cons,mC,pC,F8,GZ (l:=l)]
attribute [go_sem ↓] Hv GZ
attribute [go_sem ↓] Qu KJ Qd NJ UO Q0 QZ Of RZ Qv Qi QU UM RU NB QV Kd Qk Vv UR QP NN aA
attribute [go_sem ↓] Y1 Vz Xd S5 QE XB V8 XD Ta Uj N9 Rz SN Te Tr T4 Q8 Nf Kv WI SB WT V9 Ug ZO W5 R8 VG SC Qr WH TD Vq Lo Qq Tz UH AX.ev RC Rq MN LV NP Nw Uc Vn
attribute [go_sem ↓] R9 VM T2 Uk T5 SA Xk S9 Mg Vc Sd So Uo VK VC Uu Vg Sy TL Si VA Vi M7 Ns
attribute [go_sem] TG Vx N6 Kg Jg IY GE MX J6 Rl NO
attribute [go_sem] yt Ga aP St.frz jp vJ Cm E0 rv bE al cm oc AV.cells over aV ct wS cU cG BE c9 bv cz xj pC mC GG pcA D1 Vk eQ bq.boundOf aW AB eT GD MK.val
attribute [go_sem ↓] aba zm aa3 Vh Rr VD Ky QR Qe
attribute [go_sem] eo K0 X9 MM X6
open Go.RowKit Go.WideShapes
inductive TS where
 |int (k:IntKind)
 |bool
 |str
 |slice (l:List TS)
inductive FS:TS→PC→Prop
 |int {k:IntKind} {n:Int} (h:(Lit.int k n).wf=true):FS (.int k) (.val (.int k n))
 |bool {b:Bool}:FS .bool (.val (.bool b))
 |str {s:ByteArray} (h:s.size≤maxLen):FS .str (.val (.string s))
 |slice {l:List TS} {rows:List (List PC)} (hm:rows.length≤maxLen) (hl: ∀r∈rows,r.length=l.length) (h: ∀(r:List PC),r∈rows→ ∀(i:Nat) s p,l[i]? =some s→r[i]? =some p→FS s p):FS (.slice l) (.slice rows)
def qp (l:List TS) (ps:List PC):Prop:=ps.length=l.length∧ ∀(i:Nat) s p,l[i]? =some s→ps[i]? =some p→FS s p
theorem qp.append {l l':List TS} {ps ps':List PC} (h:qp l ps) (h':qp l' ps'):qp (l++l') (ps++ps'):=by
 refine⟨by simp[h.1,h'.1],λi s p hs hp=> ?_⟩
 by_cases hi:i<l.length
 ·rw[List.getElem?_append_left hi]at hs
  rw[List.getElem?_append_left (by rw[h.1];exact hi)]at hp
  exact h.2 i s p hs hp
 ·rw[List.getElem?_append_right (by omega)]at hs
  rw[List.getElem?_append_right (by rw[h.1];omega),h.1]at hp
  exact h'.2 _ s p hs hp
theorem qp.one {s:TS} {p:PC} (h:FS s p):qp [s] [p]:=by
 refine⟨rfl,λi s' p' hs hp=> ?_⟩
 cases i with
 |zero=>simp at hs hp;subst hs;subst hp;exact h
 |succ i=>simp at hs
def Vd (P:Program) (f:TypeId→Option (List TS)):List Field→Nat→Nat→Option (List TS)
 | [],k,m=>if k=m then some []else none
 |fd::r,k,m=>if fd.offset=k then match f fd.type with
  |some l=>if l.length=P.cellsOf fd.type then match Vd P f r (k+l.length) m with
   |some l'=>some (l++l')
   |none=>none else none
  |none=>none else none
def Nt (P:Program):Nat→TypeId→Option (List TS)
 |0,_=>none
 |n+1,t=>match P.underlying t with
  |some (.int k)=>some [.int k]
  |some .bool=>some [.bool]
  |some .string=>some [.str]
  |some (.slice e)=>match Nt P n e with
   |some l=>if l.length=P.cellsOf e then some [.slice l]else none
   |none=>none
  |some (.struct fs)=>Vd P (Nt P n) fs.toList 0 (P.cellsOf t)
  |_=>none
theorem Jf {X:Type} {Q:Nat→X→Prop}: ∀{n:Nat},(∀i,i<n→ ∃x,Q i x)→ ∃l:List X,l.length=n∧ ∀(i:Nat) x,l[i]? =some x→Q i x
 |0,_=>⟨[],rfl,λi x h=>by simp at h⟩
 |n+1,h=>by
  obtain⟨l,h1,h2⟩:=Jf (n:=n) λi hi=>h i (by omega)
  obtain⟨x,hx⟩:=h n (by omega)
  refine⟨l++ [x],by simp[h1],λi y hy=> ?_⟩
  by_cases hi:i<l.length
  ·rw[List.getElem?_append_left hi]at hy
   exact h2 i y hy
  ·rw[List.getElem?_append_right (by omega)]at hy
   have:i=n:=by
    have:=(List.getElem?_eq_some_iff.1 hy).1
    simp at this
    omega
   subst this
   simp[h1]at hy
   subst hy
   exact hx
section
variable {H : Type} {enc : TypeId × Value → H} {P : Program} {W : World} {base : Nat} {sp : Nat → Bool} {held : Bool}
abbrev Hn:Nat→Prop:= λ_=>True
theorem DG {f:TypeId→Option (List TS)} {n:Nat} {cs:List Value} (ih: ∀t l cs x,f t=some l→DataW.trod enc P W base sp held n t cs=some x→ ∃ps,aJ (bY W Hn) ps cs∧qp l ps):
  ∀{fs:List Field} {k m:Nat} {l:List TS},Vd P f fs k m=some l→cs.length=m→(∀fd∈fs,∃x,DataW.trod enc P W base sp held n fd.type ((cs.drop fd.offset).take (P.cellsOf fd.type))=some x)→
   ∃ps,aJ (bY W Hn) ps (cs.drop k)∧qp l ps
 |[],k,m,l,h,hm,_=>by
  unfold Vd at h
  split at h
  ·cases h
   refine⟨[], ?_,rfl,λi s p hs=>by simp at hs⟩
   rw[List.drop_eq_nil_of_le (by omega)]
   exact .nil
  ·cases h
 |fd::fs,k,m,l,h,hm,hx=>by
  unfold Vd at h
  split at h
  ·rename_i e
   split at h
   ·rename_i l1 h1
    split at h
    ·rename_i hc
     split at h
     ·rename_i l2 h2
      cases h
      obtain⟨x,hx1⟩:=hx fd List.mem_cons_self
      obtain⟨p1,g1,g2⟩:=ih _ _ _ _ h1 hx1
      obtain⟨p2,g3,g4⟩:=DG ih h2 hm λfd h=>hx fd (List.mem_cons_of_mem _ h)
      refine⟨p1++p2, ?_,g2.append g4⟩
      have:cs.drop k=(cs.drop k).take (P.cellsOf fd.type)++cs.drop (k+l1.length):=by
       rw[hc,←List.drop_drop,List.take_append_drop]
      rw[this]
      subst e
      exact g1.append g3
     ·cases h
    ·cases h
   ·cases h
  ·cases h
theorem yU: ∀{fuel sf:Nat} {t:TypeId} {l:List TS} {cs:List Value} {x:DataW H×List MemPlace},Nt P sf t=some l→DataW.trod enc P W base sp held fuel t cs=some x→ ∃ps,aJ (bY W Hn) ps cs∧qp l ps
 |fuel,0,t,l,cs,x,h,_=>by cases h
 |fuel,sf+1,t,l,cs,x,h,hr=>by
  unfold Nt at h
  split at h
  ·rename_i k ht
   cases h
   obtain⟨n,rfl,_,hw⟩:=DataW.trod_int ht hr
   exact⟨[.val (.int k n)],.cons (.val rfl) .nil,.one (.int hw)⟩
  ·rename_i ht
   cases h
   obtain⟨b,rfl,_⟩:=DataW.trod_bool ht hr
   exact⟨[.val (.bool b)],.cons (.val rfl) .nil,.one .bool⟩
  ·rename_i ht
   cases h
   obtain⟨s,rfl,_,hm⟩:=DataW.trod_string ht hr
   exact⟨[.val (.string s)],.cons (.val rfl) .nil,.one (.str hm)⟩
  ·rename_i e ht
   split at h
   ·rename_i l' hl'
    split at h
    ·rename_i hc
     cases h
     rcases DataW.trod_slice ht hr with⟨rfl,_⟩|⟨a,len,cap,elems,rest,n,_,rfl,_,_,hle,hmx,hlen,hel,_,_⟩
     ·exact⟨[.slice []],.cons (.slice (sz:=0) (λ_ _=>undef) rfl (Nat.le_refl _) (by simp) (λi row h=>by simp at h) (λi row j p h=>by simp at h) (λi row j p h=>by simp at h)) .nil,.one (.slice (by simp) (λr h=>by cases h) (λr h=>by cases h))⟩
     ·have hall: ∀i,i<len→ ∃x:List PC×List Value,W.cells? base (a.add (i*P.cellsOf e)) (P.cellsOf e)=some x.2∧aJ (bY W Hn) x.1 x.2∧qp l' x.1:=by
       intro i hi
       have h1:=hel i hi
       rw[List.getElem?_eq_getElem (by omega)]at h1
       obtain⟨cs',h2,h3⟩:=Option.bind_eq_some_iff.1 h1
       obtain⟨ps,h4,h5⟩:=yU hl' h3
       exact⟨(ps,cs'),h2,h4,h5⟩
      obtain⟨L,hL,hQ⟩:=Jf hall
      have row: ∀(i:Nat) r,(L.map Prod.fst)[i]? =some r→ ∃c,L[i]? =some (r,c)∧W.cells? base (a.add (i*P.cellsOf e)) (P.cellsOf e)=some c∧aJ (bY W Hn) r c∧qp l' r:=by
       intro i r hr
       rw[List.getElem?_map]at hr
       obtain⟨y,hy,rfl⟩:=Option.map_eq_some_iff.1 hr
       exact⟨y.2,hy,hQ i y hy⟩
      unfold maxLen at hmx
      refine⟨[.slice (L.map Prod.fst)],.cons (.slice (sz:=P.cellsOf e) (λi j=>(((L[i]?).map Prod.snd).getD []).getD j undef) (by simp[hL]) hle (by omega) ?_ ?_ ?_) .nil,.one (.slice (by unfold maxLen;simp[hL];omega) ?_ ?_)⟩
      ·intro i r hr
       obtain⟨c,_,_,_,h5⟩:=row i r hr
       rw[h5.1,hc]
      ·intro i r j p hr hp
       obtain⟨c,h1,h2,h3,h5⟩:=row i r hr
       obtain⟨v,hv,_⟩:=h3.get hp
       obtain⟨_,h6,h7⟩:=World.cells?_some h2
       have hj:j<P.cellsOf e:=by
        have:=(List.getElem?_eq_some_iff.1 hv).1
        omega
       have h8:=h7 j hj
       rw[hv]at h8
       obtain⟨b,off,spot⟩:=a
       have hspot:spot=none:=by
        have hi0:0<L.length:=by
         have:=(List.getElem?_eq_some_iff.1 h1).1
         omega
        obtain⟨g1,_,_⟩:=hQ 0 L[0] (List.getElem?_eq_getElem hi0)
        obtain⟨_,g2,g3⟩:=World.cells?_some g1
        have g4:=g3 0 (by omega)
        rw[List.getElem?_eq_getElem (by omega)]at g4
        simpa[Addr.add]using World.cell?_spot g4
       subst hspot
       rw[add_plain,add_plain]at h8
       refine⟨b,off,rfl,trivial, ?_⟩
       rw[←Nat.add_assoc,h8]
       simp[h1,hv]
      ·intro i r j p hr hp
       obtain⟨c,h1,h2,h3,h5⟩:=row i r hr
       obtain⟨v,hv,hrep⟩:=h3.get hp
       simpa[h1,hv]using hrep
      ·intro r hr
       obtain⟨i,hi⟩:=List.mem_iff_getElem?.1 hr
       obtain⟨c,_,_,_,h5⟩:=row i r hi
       exact h5.1
      ·intro r hr
       obtain⟨i,hi⟩:=List.mem_iff_getElem?.1 hr
       obtain⟨c,_,_,_,h5⟩:=row i r hi
       exact h5.2
    ·cases h
   ·cases h
  ·rename_i fs ht
   obtain⟨xs,n,_,_,hl,hlen,hf⟩:=DataW.trod_struct ht hr
   have:=DG (n:=n) (λt l cs x h hx=>yU (sf:=sf) h hx) h hl λfd hfd=>by
    obtain⟨i,hi⟩:=List.mem_iff_getElem?.1 hfd
    have h1:=hf i fd (by simpa using hi)
    have hi':i<xs.length:=by
     have:=(List.getElem?_eq_some_iff.1 hi).1
     simp at this
     omega
    exact⟨xs[i],by rw[h1,List.getElem?_eq_getElem hi']⟩
   simpa using this
  ·cases h
def EX (P:Program) (t:TypeId):Bool:=match P.underlying t with
 |some (.struct _)=>true
 |_=>false
def YC (row:Bool) (ps:List PC):AV:=if row then .agg (ps.map .pure)else match ps with
 |p::_=> .c (.pure p)
 | []=> .top
theorem Xg {r:Reach} {b0:Nat} {t:TypeId} {v:Value} {d:DataW H} {p:List MemPlace} {sf:Nat} {l:List TS} (hs:Nt P sf t=some l) (hval:Value.okWide P W r b0 t v) (h:DataW.Trod enc P W base sp held t v d p):
  ∃ps,qp l ps∧aN W Hn (λ_=>undef) 0 (YC (EX P t) ps) v:=by
 obtain⟨fuel,hf⟩:=h
 obtain⟨ps,h1,h2⟩:=yU hs hf
 refine⟨ps,h2, ?_⟩
 have single: ∀{v:Value},v.cells= #[v]→aJ (bY W Hn) ps v.cells.toList→aN W Hn (λ_=>undef) 0 (YC false ps) v:=by
  intro v hv h
  rw[hv]at h
  cases h with
  |cons h t=>exact .c (.pure h)
 cases sf with
 |zero=>cases hs
 |succ sf=>
  unfold Nt at hs
  split at hs
  ·rename_i k ht
   obtain⟨n,rfl⟩:=okWide_int ht hval
   simp only[EX,ht]
   exact single rfl h1
  ·rename_i ht
   obtain⟨n,rfl⟩:=okWide_bool ht hval
   simp only[EX,ht]
   exact single rfl h1
  ·rename_i ht
   obtain⟨n,rfl⟩:=okWide_string ht hval
   simp only[EX,ht]
   exact single rfl h1
  ·rename_i e ht
   obtain⟨a,n,c,rfl⟩:=okWide_slice ht hval
   simp only[EX,ht]
   exact single rfl h1
  ·rename_i fs ht
   obtain⟨cs,rfl,_⟩:=okWide_struct ht hval
   simp only[EX,ht]
   have h1:aJ (bY W Hn) ps cs.toList:=h1
   refine .agg (aJ.of_get (by simpa using h1.length) λi x v hi hv=> ?_)
   simp only[List.getElem?_map,Option.map_eq_some_iff]at hi
   obtain⟨q,hq,rfl⟩:=hi
   obtain⟨u,hu,hr⟩:=h1.get hq
   have:u=v:=by
    rw[hv]at hu
    cases hu
    rfl
   subst this
   exact .pure hr
  ·cases hs
end
open Go.RowKit
section
variable {t : Bool} {A B : nV Prop}
theorem Iq: @i9 (!t) A B= @i9 t B A:=by
 cases t
 ·exact propext ⟨λh=>⟨(λe=>by cases e),λ_=>h.1 rfl⟩,λh=>⟨λ_=>h.2 rfl,(λe=>by cases e)⟩⟩
 ·exact propext ⟨λh=>⟨λ_=>h.2 rfl,(λe=>by cases e)⟩,λh=>⟨(λe=>by cases e),λ_=>h.1 rfl⟩⟩
theorem Ny: @i9 (t==true) A B= @i9 t A B:=by cases t<;>rfl
theorem M8: @i9 (t==false) A B= @i9 t B A:=by
 have:(t==false)= !t:=by cases t<;>rfl
 rw[this,Iq]
end
class O2 (t:Bool) (p q:outParam Prop):Prop where
 pos:t=true→p
 neg:t=false→q
instance (priority:=low) testT (t:Bool):O2 t (t=true) (t=false):=⟨id,id⟩
instance aca (p:Prop) [Decidable p]:O2 (decide p) p (¬p):=⟨of_decide_eq_true,of_decide_eq_false⟩
instance ab2 (p:Prop):O2 (re p) p (¬p):=⟨@of_decide_eq_true p (Classical.propDecidable p), @of_decide_eq_false p (Classical.propDecidable p)⟩
theorem ab {t:Bool} {p q:Prop} [T:O2 t p q] {A B:nV Prop} (h1:p→A.out) (h2:q→B.out): @i9 t A B:=⟨λe=>h1 (T.pos e),λe=>h2 (T.neg e)⟩
theorem aax {p:Prop}:(re p !=false)=re p:=by cases re p<;>rfl
theorem aa2 {p:Prop}:(re p !=true)= !re p:=by cases re p<;>rfl
theorem lV {p:Prop} (h:p):re p=true:= @decide_eq_true p (Classical.propDecidable p) h
theorem jd {p:Prop} (h: ¬p):re p=false:= @decide_eq_false p (Classical.propDecidable p) h
theorem YX:re True=true:=lV trivial
theorem Y6:re False=false:=jd id
theorem Vs {p:Prop} [Decidable p]:re p=decide p:=by by_cases h:p<;>simp[re,h]
theorem Wo {a b:Int}:(a==b)=decide (a=b):=rfl
theorem Wu {a b:Int}:(a !=b)= !decide (a=b):=rfl
theorem ry {a b:ByteArray}:a.toList=b.toList↔a=b:=by
 constructor
 ·intro h
  rw[ByteArray.toList_eq,ByteArray.toList_eq]at h
  exact Go.WideShapes.bytes_inj h
 ·intro h;rw[h]
theorem OA {a b:ByteArray}:(a.toList==b.toList)=decide (a=b):=by
 by_cases h:a=b
 ·subst h;simp
 ·have: ¬a.toList=b.toList:= λe=>h (ry.1 e)
  simp[h,this]
theorem Xh {a b:ByteArray}:(a.toList !=b.toList)= !decide (a=b):=by rw[bne,OA]
instance abF (s:ByteArray) (xs:List ByteArray):Decidable (s∈xs):=decidable_of_iff (∃x∈xs,x=s) (by simp)
theorem aaV {a b:Bool}:((a==b) !=false)=(a==b):=by cases a<;>cases b<;>rfl
theorem Yu {a b:Bool}:((a==b) !=true)= !(a==b):=by cases a<;>cases b<;>rfl
theorem z7 {e sz bytes:Nat} {y:AV} {ys:List (List PC)} {σ:St} {K:nV (AV→St→Prop)} (hok:bC sz ys) (h1:ys.length*bytes≤140737488355328) (h2:ys.length≤140737488355328)
  (hk:K.out (.c (.ref σ.nx)) {σ with mem:=(σ.nx,.arr e sz ys)::σ.mem,nx:=σ.nx+1}): @Fy e sz bytes (.c .nils) y ys σ K:=
 ⟨hok,.inr (.inl ⟨rfl,.inl ⟨by simpa using h1,by simpa using h2,hk⟩⟩)⟩
theorem U9 {e sz bytes:Nat} {y:AV} {ys:List (List PC)} {σ:St} {K:nV (AV→St→Prop)} (hok:bC sz ys) (h1:ys.length*bytes≤140737488355328) (h2:ys.length≤140737488355328)
  (hk:K.out (.c (.pure (.slice ys))) σ): @Fy e sz bytes (.c .nils) y ys σ K:=
 ⟨hok,.inr (.inl ⟨rfl,.inr ⟨by simpa using h1,by simpa using h2,hk⟩⟩)⟩
theorem bf {e sz bytes nm:Nat} {y:AV} {rows ys:List (List PC)} {σ:St} {K:nV (AV→St→Prop)} (hf:al σ.mem nm=some (.arr e sz rows)) (hne:y≠ .c (.ref nm)) (hok:bC sz ys) (h1:(rows.length+ys.length)*bytes≤140737488355328) (h2:rows.length+ys.length≤140737488355328)
  (hk:K.out (.c (.ref σ.nx)) {σ with mem:=(σ.nx,.arr e sz (rows++ys))::oc σ.mem nm,nx:=σ.nx+1}): @Fy e sz bytes (.c (.ref nm)) y ys σ K:=
 ⟨hok,.inl ⟨nm,rfl,hne,rows,hf,h1,h2,hk⟩⟩
abbrev dg {α:Type} (f:α→List PC) (xs:List α):PC:= .slice (xs.map f)
abbrev gG {α:Type} (f:α→List PC) (xs:List α):AV:= .c (.pure (dg f xs))
abbrev pI (n:Int):PC:= .val (.int .i64 n)
abbrev pS (s:ByteArray):PC:= .val (.string s)
abbrev pB (b:Bool):PC:= .val (.bool b)
theorem ai {α β:Type} {f:α→β} {xs:List α} {k:Nat} (h:k<xs.length):(xs.map f)[k]? =some (f xs[k]):=by simp[h]
open Go.RowKit
def abg (rs:List AR) (e sz:Nat) (rows:List (List PC)):bc→St→Prop
 | .exit _,_=>False
 | .ret,σ=>jU σ rs [] λvs=> ∃nm,eo vs= .c (.ref nm)∧al σ.mem nm=some (.arr e sz rows)
 | .normal,σ=>jU σ rs [] λvs=> ∃nm,eo vs= .c (.ref nm)∧al σ.mem nm=some (.arr e sz rows)
theorem rY {w:World} {B B' e sz n:Nat} {v:Value} {cells:List Value} (h:w.ownsRow B e sz v n cells) (hB:B'≤B):w.ownsRow B' e sz v n cells:=by
 refine⟨h.1, ?_⟩
 rcases h.2 with h|⟨g,cap,cur,e,hg,h⟩
 ·exact .inl h
 ·exact .inr ⟨g,cap,cur,e,Nat.le_trans hB hg,h⟩
attribute [go_sem ↓] abg
def Id (P:Program) (f:FuncId):Option (Nat×ak×List AR):=
 match P.funcs[f]? with
 |some fn => match fn.name == "runtime.NumGoroutine" with
  |false=>match fn.body with
   |some c=>match cQ P fn.ntmps c with
    |some b=>match DD P fn.results.toList with
     |some rs=>some (fn.ntmps,b,rs)
     |none=>none
    |none=>none
   |none=>none
  |true=>none
 |none=>none
theorem ag {P:Program} {f:FuncId} {nt:Nat} {c:ak} {rs:List AR} (h:Id P f=some (nt,c,rs)):aB P f nt c rs:=by
 unfold Id at h
 split at h
 ·rename_i fn e1
  split at h
  ·rename_i e2
   split at h
   ·rename_i c0 e3
    split at h
    ·rename_i b e4
     split at h
     ·rename_i rs' e5
      cases h
      exact⟨fn,c0,e1,e3,e2,rfl,e4,e5⟩
     ·cases h
    ·cases h
   ·cases h
  ·cases h
 ·cases h
def LU (P:Program) (f:FuncId):ak:=match Id P f with
 |some (_,c,_)=>c
 |none=> .skip
theorem cI {P:Program} {f:FuncId} {nt:Nat} {rs:List AR} (h:Id P f=some (nt,LU P f,rs):=by kernel_rfl):aB P f nt (LU P f) rs:=ag h
abbrev o_ (d:Nat) (x:eL):AG:=⟨some d,none,x⟩
abbrev m_ (d s:Nat):AG:=⟨some d,none,.mv (.t s)⟩
abbrev u_ (x:eL):AG:=⟨none,none,x⟩
abbrev k_ (n:Int):AX:= .k (.c (.pure (.val (.int .i64 n))))
abbrev i_ (n:Int):AC:= .pure (.val (.int .i64 n))
abbrev f_ (n:FuncId):AX:= .k (.c (.clo n []))
abbrev c_ (f:AX) (l:List AX):eL:= .call true true f l
abbrev b_ (b:Bool):AX:= .k (.c (.pure (.val (.bool b))))
abbrev g_ (d t:Nat) (w:Bool) (x:eL):AG:=⟨some d,some (t,w),x⟩
abbrev r_ (l:List AG):ak:= .region l false
abbrev l_ (n:Nat):eL:= .load none (.t n)
abbrev L_ (k n:Nat):eL:= .load (some k) (.t n)
abbrev a_ (k n:Nat):eL:= .fieldA k (.t n)
abbrev x_ (k a b:Nat):eL:= .idxA k (.t a) (.t b)
abbrev S_ (k a b:Nat):eL:= .store k (.t a) (.t b)
abbrev e_ (n k:Nat):eL:= .ext (.t n) k
abbrev z_ (n:Nat):eL:= .len (.t n)
abbrev w_ (n:Int):eL:= .mv (k_ n)
abbrev j_ (n:Nat):eL:= .bin .add (.t n) (k_ 1)
abbrev q_ (a b:Nat):eL:= .bin .lss (.t a) (.t b)
abbrev Q_ (o:BinOp) (a:Nat) (k:Int):eL:= .bin o (.t a) (k_ k)
abbrev C_ (f:FuncId) (l:List AX):eL:= .call true true (f_ f) l
abbrev P_ (d:Nat) (x:eL):Bool×AG:=(false,o_ d x)
abbrev M_ (d s:Nat):Bool×AG:=(false,m_ d s)
abbrev U_ (x:eL):Bool×AG:=(false,u_ x)
abbrev s_ (l:List AG) (c:ak):ak:= .seq (.region l false) c
abbrev y_ (n:Nat) (c d:ak):ak:= .cond (.t n) c d
abbrev X_ (n k:Nat):ak:= .cond (.t n) .skip (.exit k)
attribute [go_sem ↓] List.map_cons List.map_nil
attribute [go_sem] true_and and_true List.nil_append JN Int.toNat_natCast List.length_map List.length_cons List.length_nil Option.some.injEq not_true_eq_false not_false_eq_true Iq Ny M8 Wo Wu OA Xh aaV Yu aax aa2 YX Y6 Bool.false_eq_true List.cons_append decide_true decide_false Nat.add_zero Nat.zero_add List.drop_succ_cons List.drop_zero List.take_succ_cons List.take_zero Option.map_some Option.map_none List.getElem?_cons_zero List.getElem?_cons_succ eq_self beq_self_eq_true Bool.bne_false Bool.bne_true Bool.true_beq Bool.false_beq
end Go.Abs
