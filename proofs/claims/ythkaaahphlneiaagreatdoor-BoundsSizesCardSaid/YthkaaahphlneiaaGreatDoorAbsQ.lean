import Derived.Test.YthkaaahphlneiaaGreatDoorAbsP
import Derived.LoopN
import Derived.RangeFuncLeaves
import Derived.RangeFuncNested
import Derived.OrdersIn
import Derived.LoopNIn
import Derived.ChangeArms
import Derived.WideShapes
set_option linter.unusedVariables false
set_option linter.unusedSimpArgs false
namespace Go.Abs
open Go.RowKit
section
variable {P : Program} {o : Oper} {a : Act} {w w' w0 : World} {U : Gh} {ι : Pl} {σ : St} {next : Act → World → Prop} {Q : Exit → Act → World → Prop} {K : AV → St → Prop}
theorem xn {α:Type} {x:Option α} {p:α→Bool} (h:x.map p=some true): ∃z,x=some z∧p z=true:=by
 cases x with
 |none=>cases h
 |some z=>exact⟨z,rfl,by simpa using h⟩
theorem Oh {op:BinOp} {t t':TypeId} {x y:Operand} {p q:AX} {neg:Bool} (hop:(op= .eql∧neg=false)∨(op= .neq∧neg=true)) (ht:OB P t=true) (hq:Ju q=true) (ho:o.op= .binOp op t x y t') (hx:aK x=some p) (hy:aK y=some q)
  (h:bn P (.snil neg p) σ K) (hs:bA w0 U σ ι a w) (hn:fF w0 U a o K next):o.wp P a w next Q:=by
 have r1:=au hx hs
 have r2:=au hy hs
 unfold Ju at hq
 split at hq
 ·have e2:a.eval y= .slice none 0 0:=vo r2
  unfold OB at ht
  split at ht
  ·rename_i et hT
   have key: ∀(ad:Option Addr) (n c:Nat),a.eval x= .slice ad n c→K (.c (.pure (.val (.bool (ad.isNone !=neg))))) σ→o.wp P a w next Q:=by
    intro ad n c hu hk
    have hr:(Op.equal t (.slice ad n c) (.slice none 0 0)).run P w= .ok ad.isNone w:=by
     show(Op.equalIn (9999+1) t (.slice ad n c) (.slice none 0 0)).run P w= .ok ad.isNone w
     unfold Op.equalIn
     cases ad<;>simp[run_underlying hT]
    have hg:(eqGuard op t x y (.slice ad n c) (.slice none 0 0)).run P w= .ok () w:=by unfold eqGuard;cases op<;>simp
    refine aF (u:= .bool (ad.isNone !=neg)) (w':=w) ?_ (hn _ σ ι _ w hk hs (iY _))
    simp only[execOp,ho,hu,e2]
    rw[Sem.run_bind,Sem.run_bind,hg]
    rcases hop with⟨rfl,rfl⟩|⟨rfl,rfl⟩<;>simp[binOp,hr]
   have rows: ∀{V:Nat→Prop} {rs:List (List PC)} {ad:Option Addr} {n c:Nat},a.eval x= .slice ad n c→bZ w V (.slice rs) (.slice ad n c)→ @Gt rs ⟨K (.c (.pure (.val (.bool (!neg))))) σ⟩ ⟨K (.c (.pure (.val (.bool neg)))) σ⟩→o.wp P a w next Q:=by
    intro V rs ad n c hu hr hnil
    cases ad with
    |some ad=>exact key _ _ _ hu (by have:=hnil.2;cases neg<;>exact this)
    |none=>
     refine key _ _ _ hu ?_
     have:=hnil.1 (fun r hr0=>by
      cases hr with
      | @slice sz _ _ _ _ g hn hc hm hr hcell hp=>
       obtain⟨k,hk⟩:=List.mem_iff_getElem?.1 hr0
       cases r with
       |nil=>rfl
       |cons p0 r=>
        obtain⟨b,off,e,_⟩:=hcell k _ 0 p0 hk rfl
        cases e)
     cases neg<;>exact this
   simp only[bn]at h
   split at h
   ·rename_i e
    rw[e]at r1
    generalize hu:a.eval x=u at r1
    cases r1 with
    |c r1=>
     cases r1
     exact key _ _ _ hu (by cases neg<;>exact h)
   ·rename_i rs e
    rw[e]at r1
    generalize hu:a.eval x=u at r1
    cases r1 with
    |c r1=>
     cases r1 with
     |pure r1=>
      have r1':=r1
      cases r1
      exact rows hu r1' h
   ·rename_i rs e
    rw[e]at r1
    generalize hu:a.eval x=u at r1
    cases r1 with
    |c r1=>
     cases r1 with
     |tsl r1=>exact rows hu r1 h
   ·rename_i nm e
    rw[e]at r1
    split at h
    ·rename_i rs hf
     have hv:=ub r1
     obtain⟨cells,k0,k1,k2,k3⟩:=hs.box _ _ hf
     rcases k1.2 with⟨e0,e1⟩|⟨g,cap,cur,e0,_⟩
     ·rw[e0]at hv
      refine key _ _ _ hv ?_
      have hz:rs= []:=List.eq_nil_of_length_eq_zero (by simpa using e1)
      subst hz
      have:=h.1 (by simp)
      cases neg<;>exact this
     ·rw[e0]at hv
      refine key _ _ _ hv ?_
      have:=h.2
      cases neg<;>exact this
    ·exact h.elim
   ·exact h.elim
  ·cases ht
 ·cases hq
set_option maxHeartbeats 1000000 in
theorem Ls {dr:Bool} {ao:eL} (hc:bM P dr o.op=some ao) (h:bn P ao σ K) (hs:bA w0 U σ ι a w) (hn:fF w0 U a o K next):o.wp P a w next Q:=by
 cases hop:o.op with
 |move x=>
  rw[hop]at hc
  simp only[bM,Option.map_eq_some_iff]at hc
  obtain⟨y,hy,rfl⟩:=hc
  exact VA (.inl hop) hy h hs hn
 |assign x=>
  rw[hop]at hc
  simp only[bM,Option.map_eq_some_iff]at hc
  obtain⟨y,hy,rfl⟩:=hc
  exact VA (.inr hop) hy h hs hn
 |pick c x y=>
  rw[hop]at hc
  simp only[bM]at hc
  split at hc
  ·cases hc
   exact Uz hop ‹_› ‹_› ‹_› h hs hn
  ·cases hc
 |alloc t=>
  rw[hop]at hc
  simp only[bM,Option.map_eq_some_iff,Option.bind_eq_some_iff]at hc
  obtain⟨v,⟨z,h1,h2⟩,rfl⟩:=hc
  exact Rf hop h1 h2 h hs hn
 |box t x=>
  rw[hop]at hc
  simp only[bM,Option.map_eq_some_iff]at hc
  obtain⟨y,hy,rfl⟩:=hc
  exact Xa hop hy h hs hn
 |build t parts=>
  rw[hop]at hc
  simp only[bM]at hc
  split at hc
  ·cases hc
   exact RG hop ‹_› ‹_› h hs hn
  ·cases hc
 |buildSlice t n parts=>
  rw[hop]at hc
  simp only[bM]at hc
  split at hc
  ·split at hc
   ·rename_i hcond
    obtain⟨h1,h2,h3,h4⟩:=hcond
    obtain⟨z,hz,hzs⟩:=xn h4
    cases hc
    split at h
    ·exact NF hop ‹_› ‹_› h1 h2 h3 hz (of_decide_eq_true hzs) h hs hn
    ·exact Py hop ‹_› ‹_› h1 h2 h3 hz (of_decide_eq_true hzs) h hs hn
   ·cases hc
  ·cases hc
 |load t p=>
  rw[hop]at hc
  simp only[bM]at hc
  split at hc
  ·cases hc
   exact TU hop ‹_› ‹_› h hs hn
  ·cases hc
 |store t p v=>
  rw[hop]at hc
  simp only[bM]at hc
  split at hc
  ·cases hc
   exact SW hop ‹_› ‹_› ‹_› h hs hn
  ·cases hc
 |binOp op t x y t'=>
  rw[hop]at hc
  simp only[bM]at hc
  split at hc
  ·rename_i p q h1 h2
   split at hc
   ·split at hc
    ·cases hc
     rename_i hb
     unfold IZ at hb
     split at hb
     ·exact RL (.inl ⟨rfl,rfl⟩) ‹_› hop h1 h2 h hs hn
     ·cases hb
    ·split at hc
     ·simp only[Option.map_eq_some_iff]at hc
      obtain⟨l,hl,rfl⟩:=hc
      exact Sf (.inl ⟨rfl,rfl⟩) ‹_› hl hop h1 h2 h hs hn
     split at hc
     ·split at hc
      ·cases hc
       exact O8 (.inl ⟨rfl,rfl⟩) ‹_› ‹_› hop h1 h2 h hs hn
      ·cases hc
     split at hc
     ·split at hc
      ·cases hc
       exact Oh (.inl ⟨rfl,rfl⟩) ‹_› ‹_› hop h1 h2 h hs hn
      ·cases hc
     ·cases hc
      exact Nr hop h1 h2 h hs hn
   ·split at hc
    ·cases hc
     rename_i hb
     unfold IZ at hb
     split at hb
     ·exact RL (.inr ⟨rfl,rfl⟩) ‹_› hop h1 h2 h hs hn
     ·cases hb
    ·split at hc
     ·simp only[Option.map_eq_some_iff]at hc
      obtain⟨l,hl,rfl⟩:=hc
      exact Sf (.inr ⟨rfl,rfl⟩) ‹_› hl hop h1 h2 h hs hn
     split at hc
     ·split at hc
      ·cases hc
       exact O8 (.inr ⟨rfl,rfl⟩) ‹_› ‹_› hop h1 h2 h hs hn
      ·cases hc
     split at hc
     ·split at hc
      ·cases hc
       exact Oh (.inr ⟨rfl,rfl⟩) ‹_› ‹_› hop h1 h2 h hs hn
      ·cases hc
     ·cases hc
      exact Nr hop h1 h2 h hs hn
   ·cases hc
    exact Nr hop h1 h2 h hs hn
  ·cases hc
 |unOp op t x=>
  rw[hop]at hc
  simp only[bM,Option.map_eq_some_iff]at hc
  obtain⟨y,hy,rfl⟩:=hc
  exact XR hop hy h hs hn
 |convert s d x=>
  rw[hop]at hc
  simp only[bM]at hc
  split at hc
  ·cases hc
   exact UB hop ‹_› ‹_› ‹_› h hs hn
  ·cases hc
 |nilCheck x=>
  rw[hop]at hc
  simp only[bM,Option.map_eq_some_iff]at hc
  obtain⟨y,hy,rfl⟩:=hc
  exact T1 hop hy h hs hn
 |slice t x lo hi mx=>
  rw[hop]at hc
  simp only[bM]at hc
  split at hc
  ·rename_i e0 _ _ _ _ g0 g1 g2 g3 g4
   split at hc
   ·rename_i hel
    split at hc
    ·rename_i hcond
     cases hc
     exact Wi hop hel ‹_› ‹_› ‹_› ‹_› hcond.2 h hs hn
    ·cases hc
   ·cases hc
  ·rename_i e0 _ _ _ g0 g1 g2 g3 g4
   cases hc
   cases mx with
   |none=>exact Ui hop ‹_› ‹_› ‹_› ‹_› h hs hn
   |some m=>simp[mR]at g4
  ·cases hc
 |fieldAddr s x f=>
  rw[hop]at hc
  simp only[bM]at hc
  split at hc
  ·split at hc
   ·cases hc
   ·cases hc
    exact Qg hop ‹_› ‹_› ‹_› h hs hn
  ·cases hc
 |field s x f=>
  rw[hop]at hc
  simp only[bM]at hc
  split at hc
  ·simp only[Option.map_eq_some_iff]at hc
   obtain⟨n,h1,rfl⟩:=hc
   exact Tm hop ‹_› h1 ‹_› h hs hn
  ·cases hc
 |indexAddr t x i=>
  rw[hop]at hc
  simp only[bM]at hc
  split at hc
  ·cases hc
   exact Ul hop ‹_› ‹_› ‹_› h hs hn
  ·split at hc
   ·simp only[Option.map_eq_some_iff]at hc
    obtain⟨n,h1,rfl⟩:=hc
    exact Ug hop ‹_› h1 ‹_› ‹_› h hs hn
   ·cases hc
  ·cases hc
 |index t x i=>
  rw[hop]at hc
  simp only[bM]at hc
  split at hc
  ·split at hc
   ·cases hc
    exact T3 hop ‹_› ‹_› ‹_› h hs hn
   ·cases hc
  ·cases hc
 |makeSlice t l c=>
  rw[hop]at hc
  simp only[bM]at hc
  split at hc
  ·rename_i e sz bytes p q h1 h2 h3
   split at hc
   ·rename_i hcond
    obtain⟨rfl,h0,h4⟩:=hcond
    obtain⟨z,hz,hzs⟩:=xn h4
    simp only[Option.map_eq_some_iff,Option.bind_eq_some_iff]at hc
    obtain⟨zs,⟨z',hz',hpz⟩,rfl⟩:=hc
    rw[hz]at hz'
    cases hz'
    have hl:l= .tmp p:=by cases l<;>simp[aK]at h2;rw[h2]
    have hcc:c= .tmp p:=by cases c<;>simp[aK]at h3;rw[h3]
    subst hl
    subst hcc
    exact Nx hop h1 h0 hz (of_decide_eq_true hzs) hpz h hs hn
   ·cases hc
  ·cases hc
 |makeMap t r=>
  rw[hop]at hc
  cases r with
  |none=>
   simp only[bM]at hc
   split at hc
   ·cases hc
    exact Sz hop h hs hn
   ·cases hc
  |some r=>simp[bM]at hc
 |lookup t m k ok=>
  rw[hop]at hc
  simp only[bM]at hc
  split at hc
  ·simp only[Option.map_eq_some_iff,Option.bind_eq_some_iff]at hc
   obtain⟨zs,⟨z,hz,hzs⟩,rfl⟩:=hc
   exact T0 hop ‹_› hz hzs ‹_› ‹_› h hs hn
  ·cases hc
 |mapUpdate t m k v=>
  rw[hop]at hc
  simp only[bM]at hc
  split at hc
  ·cases hc
   exact O7 (.inl hop) ‹_› ‹_› ‹_› ‹_› h hs hn
  ·cases hc
 |insert t m k v=>
  rw[hop]at hc
  simp only[bM]at hc
  split at hc
  ·cases hc
   exact O7 (.inr hop) ‹_› ‹_› ‹_› ‹_› h hs hn
  ·cases hc
 |extract x i=>
  rw[hop]at hc
  simp only[bM,Option.map_eq_some_iff]at hc
  obtain⟨y,hy,rfl⟩:=hc
  exact Wr hop hy h hs hn
 |makeFunc fn first caps=>
  rw[hop]at hc
  cases fn with
  |func f=>
   simp only[bM]at hc
   split at hc
   ·simp only[Option.map_eq_some_iff]at hc
    obtain⟨y,hy,rfl⟩:=hc
    exact T5 hop ‹_› hy h hs hn
   ·cases hc
  |_=>simp[bM]at hc
 |call c=>
  rw[hop]at hc
  obtain⟨callee,args,argTypes⟩:=c
  cases callee with
  |value f=>
   simp only[bM]at hc
   split at hc
   ·cases hc
    exact Um rfl rfl hop ‹_› ‹_› h hs hn
   ·cases hc
  |invoke r m=>simp[bM]at hc
  |builtin b=>
   cases b with
   |len=>
    simp only[bM]at hc
    split at hc
    ·split at hc
     ·cases hc
      exact Wm rfl ‹_› ‹_› hop ‹_› ‹_› h hs hn
     ·cases hc
      exact UG rfl ‹_› ‹_› hop ‹_› ‹_› h hs hn
     ·cases hc
    ·cases hc
   |min=>
    simp only[bM]at hc
    split at hc
    ·split at hc
     ·cases hc
      exact Vj (.inl ⟨rfl,rfl⟩) ‹_› hop ‹_› ‹_› h hs hn
     ·cases hc
    ·cases hc
   |max=>
    simp only[bM]at hc
    split at hc
    ·split at hc
     ·cases hc
      exact Vj (.inr ⟨rfl,rfl⟩) ‹_› hop ‹_› ‹_› h hs hn
     ·cases hc
    ·split at hc
     ·cases hc
      exact Wx rfl ‹_› hop ‹_› ‹_› ‹_› ‹_› h hs hn
     ·cases hc
    ·cases hc
   |append=>
    simp only[bM]at hc
    split at hc
    ·split at hc
     ·rename_i htu
      subst htu
      split at hc
      ·split at hc
       ·rename_i hcond
        obtain⟨h0,h4⟩:=hcond
        obtain⟨z,hz,hzs⟩:=xn h4
        cases hc
        exact Wp rfl ‹_› ‹_› hop ‹_› h0 hz (of_decide_eq_true hzs) ‹_› ‹_› h hs hn
       ·cases hc
      ·cases hc
     ·cases hc
    ·cases hc
   |_=>simp[bM]at hc
 |makeInterface t x=>
  rw[hop]at hc
  cases hc
  exact h.elim
 |panic x=>
  rw[hop]at hc
  cases hc
  exact h.elim
 |_=>rw[hop]at hc;simp[bM]at hc
end
open Go.RowKit
def yO (F:(AV→St→Prop)→Prop):Prop:= ∀K,F K→ ∃v σ',F (fun v' τ=>v'=v∧τ=σ')∧K v σ'
theorem Mg {α:Type} {o:Option α} {F:α→(AV→St→Prop)→Prop} {G:(AV→St→Prop)→Prop} (h: ∀x,yO (F x)) (h':yO G):yO fun K=> @tv _ o ⟨fun x=>F x K⟩ ⟨G K⟩:=fun K hK=>by
 cases o with
 |none=>
  obtain⟨v,s,h1,h2⟩:=h' K (hK.2 rfl)
  exact⟨v,s,⟨(fun x e=>by cases e),fun _=>h1⟩,h2⟩
 |some x=>
  obtain⟨v,s,h1,h2⟩:=h x K (hK.1 x rfl)
  exact⟨v,s,⟨fun y e=>by cases e;exact h1,(fun e=>by cases e)⟩,h2⟩
theorem bU {v:AV} {σ:St}:yO fun K=>K v σ:=fun K h=>⟨v,σ,⟨rfl,rfl⟩,h⟩
theorem aG:yO fun _=>False:=fun K h=>h.elim
theorem cn {p:Prop} {F:(AV→St→Prop)→Prop} (h:yO F):yO fun K=> @cw p ⟨F K⟩:=fun K hK=>by
 obtain⟨v,s,h1,h2⟩:=h K hK.2
 exact⟨v,s,⟨hK.1,h1⟩,h2⟩
theorem eO {α:Type} {o:Option α} {F:α→(AV→St→Prop)→Prop} (h: ∀x,yO (F x)):yO fun K=> @fS _ o ⟨fun x=>F x K⟩:=fun K hK=>by
 obtain⟨x,e,hK⟩:=hK
 obtain⟨v,s,h1,h2⟩:=h x K hK
 exact⟨v,s,⟨x,e,h1⟩,h2⟩
theorem Te {t:Bool} {F G:(AV→St→Prop)→Prop} (h:yO F) (h':yO G):yO fun K=> @iT t ⟨F K⟩ ⟨G K⟩:=fun K hK=>by
 cases t with
 |true=>
  obtain⟨v,s,h1,h2⟩:=h K (hK.1 rfl)
  exact⟨v,s,⟨fun _=>h1,(fun e=>by cases e)⟩,h2⟩
 |false=>
  obtain⟨v,s,h1,h2⟩:=h' K (hK.2 rfl)
  exact⟨v,s,⟨(fun e=>by cases e),fun _=>h1⟩,h2⟩
theorem Ro {op:BinOp} {k:IntKind} {a b:Int} {σ:St}:yO fun K=>mO op k a b fun v=>K (.c (.pure (.val v))) σ:=by
 cases op<;>simp only[mO]<;>first|exact aG|exact cn bU|exact bU
theorem QN {op:BinOp} {a b:ByteArray} {σ:St}:yO fun K=>xo op a b fun v=>K (.c (.pure (.val v))) σ:=by
 cases op<;>simp only[xo]<;>first|exact aG|exact cn bU|exact bU
theorem TG {op:BinOp} {x y:Value} {σ:St}:yO fun K=>Af op x y fun v=>K (.c (.pure (.val v))) σ:=by
 unfold Af
 split
 ·exact cn Ro
 ·exact QN
 ·exact aG
theorem CV {op:BinOp} {x y:Value} {σ:St}:yO fun K=>nh op x y fun v=>K (.c (.pure (.val v))) σ:=by
 unfold nh
 split
 ·refine cn ?_
  cases op<;>simp only[sT]<;>first|exact aG|exact bU
 ·exact aG
theorem Is {σ:St} {F:List AC→(AV→St→Prop)→Prop} (hF: ∀x,yO (F x)): ∀{ps:List (Nat×Nat×AX)} {acc:List AC},yO fun K=>bn.buildW σ ps acc fun xs=>F xs K
 | [],acc=>hF acc
 |(off,n,x)::ps,acc=>by
  simp only[bn.buildW]
  split
  ·exact cn (Is hF)
  ·exact aG
theorem CZ {σ:St} {sz:Nat} {F:List (List PC)→(AV→St→Prop)→Prop} (hF: ∀x,yO (F x)): ∀{ps:List AX} {acc:List (List PC)},yO fun K=>bn.bsliceW σ sz ps acc fun xs=>F xs K
 | [],acc=>hF acc
 |x::ps,acc=>by
  simp only[bn.bsliceW]
  split
  ·exact eO fun z=>cn (CZ hF)
  ·exact aG
theorem Bx {σ:St} {sz:Nat} {F:List (List PC)→List (Nat×aS)→(AV→St→Prop)→Prop} (hF: ∀x m,yO (F x m)): ∀{ps:List AX} {mem:List (Nat×aS)} {acc:List (List PC)},yO fun K=>bn.bsliceFW σ sz ps mem acc fun xs m=>F xs m K
 | [],mem,acc=>hF acc mem
 |x::ps,mem,acc=>by
  simp only[bn.bsliceFW]
  split
  ·exact eO fun z=>cn (Bx hF)
  ·exact aG
theorem Ld {σ:St} {F:List AC→(AV→St→Prop)→Prop} (hF: ∀x,yO (F x)): ∀{ps:List AX} {acc:List AC},yO fun K=>bn.mkfnW σ ps acc fun xs=>F xs K
 | [],acc=>hF acc
 |x::ps,acc=>by
  simp only[bn.mkfnW]
  split
  ·exact Ld hF
  ·exact aG
theorem Sa {P:Program} {g z:Bool} {f:FuncId} {args:List AV} {σ:St}:yO fun K=> @wV P g z f args σ ⟨K⟩:=by
 rintro K ⟨l,σ',args',hg,hz,(⟨pargs,h1,res,h2,h4⟩|⟨h1,res,m,n,h2,h4⟩)⟩
 ·exact⟨res,σ',⟨l,σ',args',hg,hz,.inl ⟨pargs,h1,res,h2,rfl,rfl⟩⟩,h4⟩
 ·exact⟨res,_,⟨l,σ',args',hg,hz,.inr ⟨h1,res,m,n,h2,rfl,rfl⟩⟩,h4⟩
theorem UM {e sz bytes:Nat} {x y:AV} {ys:List (List PC)} {σ:St}:yO fun K=> @Cp e sz bytes x y ys σ ⟨K⟩:=by
 rintro K ⟨hok,h⟩
 rcases h with⟨nm,h1,h2,rows,h3,h4,h5,h6⟩|⟨h1,h|h⟩|⟨rows,h1,h2,⟨h3,h⟩|h|h⟩
 ·exact⟨_,_,⟨hok,.inl ⟨nm,h1,h2,rows,h3,h4,h5,rfl,rfl⟩⟩,h6⟩
 ·exact⟨_,_,⟨hok,.inr (.inl ⟨h1,.inl ⟨h.1,h.2.1,rfl,rfl⟩⟩)⟩,h.2.2⟩
 ·exact⟨_,_,⟨hok,.inr (.inl ⟨h1,.inr ⟨h.1,h.2.1,rfl,rfl⟩⟩)⟩,h.2.2⟩
 ·exact⟨_,_,⟨hok,.inr (.inr ⟨rows,h1,h2,.inl ⟨h3,h.1,h.2.1,rfl,rfl⟩⟩)⟩,h.2.2⟩
 ·exact⟨_,_,⟨hok,.inr (.inr ⟨rows,h1,h2,.inr (.inl ⟨h.1,h.2.1,rfl,rfl⟩)⟩)⟩,h.2.2⟩
 ·exact⟨_,_,⟨hok,.inr (.inr ⟨rows,h1,h2,.inr (.inr ⟨h.1,rfl,rfl⟩)⟩)⟩,h.2⟩
theorem I2 {P:Program} {op:eL} {σ:St} (hgc:op.gcall=false):yO (bn P op σ):=by
 have eta: ∀{F:(AV→St→Prop)→Prop},yO (fun K=>F K)→yO F:=fun h=>h
 apply eta
 cases op<;>simp only[bn]
 case mv=>exact bU
 case pick=>split;exact Te bU bU;exact aG
 case box=>split;exact bU;exact aG
 case load=>
  split
  ·split
   ·split
    ·split
     ·exact bU
     ·exact aG
    ·exact cn bU
   ·exact aG
  ·exact aG
 case store=>
  split
  ·split
   ·exact cn bU
   ·exact aG
  ·split
   ·exact cn (eO fun z=>eO fun r=>bU)
   ·exact cn (eO fun r=>bU)
   ·exact aG
  ·exact aG
 case bin=>
  split
  ·split
   ·exact CV
   ·exact CV
   ·exact TG
  ·exact aG
 case eqb=>split;exact bU;exact aG
 case eqs=>split;exact cn bU;exact aG
 case un=>split<;>first|exact bU|exact aG
 case conv=>split;exact bU;exact aG
 case fieldA=>split<;>first|exact bU|exact aG
 case field=>
  split
  ·split
   ·split
    ·exact bU
    ·exact aG
   ·exact cn bU
  ·exact aG
 case idxA=>
  split
  ·exact cn (eO fun r=>cn bU)
  ·exact cn (eO fun r=>cn bU)
  ·split
   ·exact cn bU
   ·exact cn bU
   ·exact aG
  ·exact aG
 case idxR=>split<;>first|exact cn bU|exact aG
 case idxS=>split;exact cn (eO fun b=>bU);exact aG
 case nilc=>split<;>first|exact bU|exact aG
 case build=>exact Is fun x=>bU
 case bslice=>exact CZ fun x=>bU
 case mkslice=>split;exact cn bU;exact aG
 case slc=>
  split
  ·exact aG
  ·exact eO fun rows=>eO fun lo=>eO fun hi=>eO fun mx=>cn bU
 case slcS=>split;exact cn bU;exact aG
 case ext=>split;exact eO fun v=>bU;exact aG
 case len=>
  split
  ·exact bU
  ·exact bU
  ·exact bU
  ·split
   ·exact bU
   ·exact bU
   ·exact aG
  ·exact aG
 case lenS=>split;exact bU;exact aG
 case mm=>split;exact bU;exact aG
 case mm4=>split;exact bU;exact aG
 case dead=>exact aG
 case fnil=>split;exact bU;exact bU;exact aG
 case snil=>cases hgc
 case app=>exact eO fun ys=>UM
 case mkfn=>exact Ld fun x=>bU
 case call=>split;exact Sa;exact aG
 case bsliceF=>exact Bx fun x m=>bU
 case mkmap=>exact bU
 case mget=>
  split
  ·refine eO fun mk=> ?_
   split
   ·split
    ·exact cn (Mg (fun ps=>bU) bU)
    ·exact aG
   ·exact cn (Mg (fun ps=>bU) bU)
   ·exact aG
  ·exact aG
 case mput=>
  split
  ·refine eO fun mk=> ?_
   split
   ·refine eO fun ys=> ?_
    split
    ·exact cn bU
    ·exact aG
   ·exact aG
  ·exact aG
theorem bR {fr fr2:List (Nat×AV)} {x:AX} (h: ∀t∈x.tmps,aH fr2 t=aH fr t):x.ev fr2=x.ev fr:=by
 cases x with
 |t n=>exact h n (by simp[AX.tmps])
 |k v=>rfl
def jc (s s2:St) (F F2:(AV→St→Prop)→Prop):Prop:= ∀K K2,(∀v,K v s→K2 v s2)→F K→F2 K2
section
variable {s s2 : St}
theorem bY {v:AV}:jc s s2 (fun K=>K v s) (fun K=>K v s2):=fun K K2 hk h=>hk v h
theorem aL {F2:(AV→St→Prop)→Prop}:jc s s2 (fun _=>False) F2:=fun K K2 hk h=>h.elim
theorem dG {p:Prop} {F F2:(AV→St→Prop)→Prop} (h:jc s s2 F F2):jc s s2 (fun K=> @cw p ⟨F K⟩) (fun K=> @cw p ⟨F2 K⟩):=fun K K2 hk hK=>⟨hK.1,h K K2 hk hK.2⟩
theorem mj {α:Type} {o:Option α} {F F2:α→(AV→St→Prop)→Prop} (h: ∀x,jc s s2 (F x) (F2 x)):jc s s2 (fun K=> @fS _ o ⟨fun x=>F x K⟩) (fun K=> @fS _ o ⟨fun x=>F2 x K⟩):=fun K K2 hk hK=>by
 obtain⟨x,e,hK⟩:=hK
 exact⟨x,e,h x K K2 hk hK⟩
theorem RH {α:Type} {o o2:Option α} (ho: ∀x,o=some x→o2=some x) {F F2:α→(AV→St→Prop)→Prop} (h: ∀x,jc s s2 (F x) (F2 x)):jc s s2 (fun K=> @fS _ o ⟨fun x=>F x K⟩) (fun K=> @fS _ o2 ⟨fun x=>F2 x K⟩):=fun K K2 hk hK=>by
 obtain⟨x,e,hK⟩:=hK
 exact⟨x,ho x e,h x K K2 hk hK⟩
theorem RS {t:Bool} {F G F2 G2:(AV→St→Prop)→Prop} (h:jc s s2 F F2) (h':jc s s2 G G2):jc s s2 (fun K=> @iT t ⟨F K⟩ ⟨G K⟩) (fun K=> @iT t ⟨F2 K⟩ ⟨G2 K⟩):=fun K K2 hk hK=>
 ⟨fun e=>h K K2 hk (hK.1 e),fun e=>h' K K2 hk (hK.2 e)⟩
theorem Ji {rows:List (List PC)} {F G F2 G2:(AV→St→Prop)→Prop} (h:jc s s2 F F2) (h':jc s s2 G G2):jc s s2 (fun K=> @Gt rows ⟨F K⟩ ⟨G K⟩) (fun K=> @Gt rows ⟨F2 K⟩ ⟨G2 K⟩):=fun K K2 hk hK=>
 ⟨fun e=>h K K2 hk (hK.1 e),h' K K2 hk hK.2⟩
theorem Kj {α:Type} {o:Option α} {F F2:α→(AV→St→Prop)→Prop} {G G2:(AV→St→Prop)→Prop} (h: ∀x,jc s s2 (F x) (F2 x)) (h':jc s s2 G G2):jc s s2 (fun K=> @tv _ o ⟨fun x=>F x K⟩ ⟨G K⟩) (fun K=> @tv _ o ⟨fun x=>F2 x K⟩ ⟨G2 K⟩):=fun K K2 hk hK=>
 ⟨fun x e=>h x K K2 hk (hK.1 x e),fun e=>h' K K2 hk (hK.2 e)⟩
theorem SD {op:BinOp} {k:IntKind} {a b:Int}:jc s s2 (fun K=>mO op k a b fun v=>K (.c (.pure (.val v))) s) (fun K=>mO op k a b fun v=>K (.c (.pure (.val v))) s2):=by
 cases op<;>simp only[mO]<;>first|exact aL|exact dG bY|exact bY
theorem Ss {op:BinOp} {a b:ByteArray}:jc s s2 (fun K=>xo op a b fun v=>K (.c (.pure (.val v))) s) (fun K=>xo op a b fun v=>K (.c (.pure (.val v))) s2):=by
 cases op<;>simp only[xo]<;>first|exact aL|exact dG bY|exact bY
theorem RP {op:BinOp} {x y:Value}:jc s s2 (fun K=>Af op x y fun v=>K (.c (.pure (.val v))) s) (fun K=>Af op x y fun v=>K (.c (.pure (.val v))) s2):=by
 unfold Af
 split
 ·exact dG SD
 ·exact Ss
 ·exact aL
theorem Dt {op:BinOp} {x y:Value}:jc s s2 (fun K=>nh op x y fun v=>K (.c (.pure (.val v))) s) (fun K=>nh op x y fun v=>K (.c (.pure (.val v))) s2):=by
 unfold nh
 split
 ·refine dG ?_
  cases op<;>simp only[sT]<;>first|exact aL|exact bY
 ·exact aL
theorem H9 {F F2:List AC→(AV→St→Prop)→Prop} (hF: ∀x,jc s s2 (F x) (F2 x)): ∀{ps:List (Nat×Nat×AX)} {acc:List AC},(∀t∈C1 ps,aH s2.fr t=aH s.fr t)→jc s s2 (fun K=>bn.buildW s ps acc fun xs=>F xs K) (fun K=>bn.buildW s2 ps acc fun xs=>F2 xs K)
 | [],acc,h=>hF acc
 |(off,n,x)::ps,acc,h=>by
  simp only[bn.buildW]
  rw[bR fun t ht=>h t (by simp[C1,ht])]
  split
  ·exact dG (H9 hF fun t ht=>h t (by simp[C1,ht]))
  ·exact aL
theorem Dy {sz:Nat} {F F2:List (List PC)→(AV→St→Prop)→Prop} (hF: ∀x,jc s s2 (F x) (F2 x)): ∀{ps:List AX} {acc:List (List PC)},(∀t∈gU ps,aH s2.fr t=aH s.fr t)→jc s s2 (fun K=>bn.bsliceW s sz ps acc fun xs=>F xs K) (fun K=>bn.bsliceW s2 sz ps acc fun xs=>F2 xs K)
 | [],acc,h=>hF acc
 |x::ps,acc,h=>by
  simp only[bn.bsliceW]
  rw[bR fun t ht=>h t (by simp[gU,ht])]
  split
  ·exact mj fun z=>dG (Dy hF fun t ht=>h t (by simp[gU,ht]))
  ·exact aL
theorem L4 {F F2:List AC→(AV→St→Prop)→Prop} (hF: ∀x,jc s s2 (F x) (F2 x)): ∀{ps:List AX} {acc:List AC},(∀t∈gU ps,aH s2.fr t=aH s.fr t)→jc s s2 (fun K=>bn.mkfnW s ps acc fun xs=>F xs K) (fun K=>bn.mkfnW s2 ps acc fun xs=>F2 xs K)
 | [],acc,h=>hF acc
 |x::ps,acc,h=>by
  simp only[bn.mkfnW]
  rw[bR fun t ht=>h t (by simp[gU,ht])]
  split
  ·exact L4 hF fun t ht=>h t (by simp[gU,ht])
  ·exact aL
theorem uB {y:Option AX} (h: ∀t∈Hn y,aH s2.fr t=aH s.fr t):bn.boundOf s2 y=bn.boundOf s y:=by
 cases y with
 |none=>rfl
 |some x=>simp only[bn.boundOf,bR (x:=x) h]
theorem MR {fr fr2:List (Nat×AV)}: ∀{xs:List AX},(∀t∈gU xs,aH fr2 t=aH fr t)→xs.map (·.ev fr2)=xs.map (·.ev fr)
 | [],_=>rfl
 |x::xs,h=>by
  rw[List.map_cons,List.map_cons,bR fun t ht=>h t (by simp[gU,ht]),MR fun t ht=>h t (by simp[gU,ht])]
end
theorem RZ {m m':List (Nat×aS)} (hm:kX m m') {q:AC} {xs:List AC} (h:bC m q=some xs):bC m' q=some xs:=by
 unfold bC at h ⊢
 split at h
 ·rename_i nm off
  split at h
  ·rename_i hf;rw[hm _ _ hf];exact h
  ·cases h
 ·exact h
 ·rename_i nm sz row off
  split at h
  ·rename_i hf;rw[hm _ _ hf];exact h
  ·rename_i hf;rw[hm _ _ hf];exact h
  ·cases h
 ·cases h
theorem RO {m m':List (Nat×aS)} (hm:kX m m') {x:AV} {rows:List (List PC)} (h:eS m x=some rows):eS m' x=some rows:=by
 unfold eS at h ⊢
 split at h
 ·exact h
 ·exact h
 ·exact h
 ·rename_i nm
  split at h
  ·rename_i hf;rw[hm _ _ hf];exact h
  ·cases h
 ·cases h
theorem FK {m m':List (Nat×aS)} (hm:kX m m') {x:AC} {p:PC} (h:ci m x=some p):ci m' x=some p:=by
 unfold ci at h ⊢
 split at h
 ·exact h
 ·exact h
 ·exact h
 ·rename_i nm
  split at h
  ·rename_i hf;rw[hm _ _ hf];exact h
  ·cases h
 ·cases h
theorem Iu {m m':List (Nat×aS)} (hm:kX m m'): ∀{xs:List AC} {ps:List PC},we m xs=some ps→we m' xs=some ps
 | [],ps,h=>h
 |x::xs,ps,h=>by
  unfold we at h ⊢
  split at h
  ·rename_i h1 h2
   rw[FK hm h1,Iu hm h2]
   exact h
  ·cases h
theorem Nz {m m':List (Nat×aS)} (hm:kX m m') {n:Option Nat} {xs:List AC} {ps:List PC} (h:oD m n xs=some ps):oD m' n xs=some ps:=by
 unfold oD at h ⊢
 split at h
 ·split at h
  ·rename_i h1;rw[FK hm h1];exact h
  ·cases h
 ·cases h
 ·exact Iu hm h
theorem Ab {m m':List (Nat×aS)} (hm:kX m m') {n:Option Nat}: ∀{xs:List (MK×List AC)} {ps:List (MK×List PC)},lM m n xs=some ps→lM m' n xs=some ps
 | [],ps,h=>h
 |x::xs,ps,h=>by
  unfold lM at h ⊢
  split at h
  ·rename_i h1 h2
   rw[Nz hm h1,Ab hm h2]
   exact h
  ·cases h
theorem SO {m m':List (Nat×aS)} (hm:kX m m') {x:AC} {p:PC} (h:c6 m x=some p):c6 m' x=some p:=by
 unfold c6 at h ⊢
 split at h
 ·rename_i nm
  split at h
  ·rename_i hf
   rw[hm _ _ hf]
   simp only
   split at h
   ·rename_i h1;rw[Ab hm h1];exact h
   ·cases h
  ·cases h
 ·exact FK hm h
theorem Ia {m m':List (Nat×aS)} (hm:kX m m'): ∀{xs:List AC} {ps:List PC},bu m xs=some ps→bu m' xs=some ps
 | [],ps,h=>h
 |x::xs,ps,h=>by
  unfold bu at h ⊢
  split at h
  ·rename_i h1 h2
   rw[SO hm h1,Ia hm h2]
   exact h
  ·cases h
theorem L8 {m m':List (Nat×aS)} (hm:kX m m') {x y:AC} (h:cz m x=some y):cz m' x=some y:=by
 unfold cz at h ⊢
 split at h
 ·exact h
 ·exact h
 ·exact h
 ·rename_i nm
  split at h
  ·rename_i hf;rw[hm _ _ hf];exact h
  ·cases h
 ·exact h
 ·rename_i nm off
  split at h
  ·rename_i hf
   rw[hm _ _ hf]
   simp only
   split at h
   ·rename_i h1;rw[Ia hm h1];exact h
   ·cases h
  ·cases h
 ·rename_i nm
  split at h
  ·rename_i hf
   rw[hm _ _ hf]
   simp only
   split at h
   ·rename_i h1;rw[Ab hm h1];exact h
   ·cases h
  ·cases h
 ·cases h
theorem GV {m m':List (Nat×aS)} (hm:kX m m'): ∀{xs ys:List AC},A2 m xs=some ys→A2 m' xs=some ys
 | [],ps,h=>h
 |x::xs,ps,h=>by
  unfold A2 at h ⊢
  split at h
  ·rename_i h1 h2
   rw[L8 hm h1,GV hm h2]
   exact h
  ·cases h
theorem Kf {m m':List (Nat×aS)} (hm:kX m m') {x y:AC} (h:cK m x=some y):cK m' x=some y:=by
 unfold cK at h ⊢
 split at h
 ·split at h
  ·rename_i h1;rw[GV hm h1];exact h
  ·cases h
 ·exact L8 hm h
theorem H6 {m m':List (Nat×aS)} (hm:kX m m'): ∀{xs ys:List AC},zl m xs=some ys→zl m' xs=some ys
 | [],ps,h=>h
 |x::xs,ps,h=>by
  unfold zl at h ⊢
  split at h
  ·rename_i h1 h2
   rw[Kf hm h1,H6 hm h2]
   exact h
  ·cases h
theorem QG {m m':List (Nat×aS)} (hm:kX m m') {x y:AV} (h:ct m x=some y):ct m' x=some y:=by
 unfold ct at h ⊢
 split at h
 ·split at h
  ·rename_i h1;rw[Kf hm h1];exact h
  ·cases h
 ·split at h
  ·rename_i h1;rw[H6 hm h1];exact h
  ·cases h
 ·cases h
theorem Iw {m m':List (Nat×aS)} (hm:kX m m'): ∀{xs ys:List AV},aZ m xs=some ys→aZ m' xs=some ys
 | [],ps,h=>h
 |x::xs,ps,h=>by
  unfold aZ at h ⊢
  split at h
  ·rename_i h1 h2
   rw[QG hm h1,Iw hm h2]
   exact h
  ·cases h
section
variable {P : Program} {op : eL}
theorem NR {s s2:St} (he:op.eff=false) (hm:op.sens=true→kX s.mem s2.mem) (hf: ∀t∈op.tmps,aH s2.fr t=aH s.fr t):jc s s2 (bn P op s) (bn P op s2):=by
 have eta: ∀{F F2:(AV→St→Prop)→Prop},jc s s2 (fun K=>F K) (fun K=>F2 K)→jc s s2 F F2:=fun h=>h
 apply eta
 cases op<;>simp only[bn]<;>simp[eL.eff]at he
 case mv=>rw[bR hf];exact bY
 case pick c a b=>
  rw[bR (x:=c) fun t ht=>hf t (by simp[eL.tmps,ht]),bR (x:=a) fun t ht=>hf t (by simp[eL.tmps,ht]),bR (x:=b) fun t ht=>hf t (by simp[eL.tmps,ht])]
  split;exact RS bY bY;exact aL
 case load n p=>
  rw[bR (x:=p) fun t ht=>hf t (by simp[eL.tmps,ht])]
  split
  ·split
   ·rename_i hl
    rw[RZ (hm rfl) hl]
    simp only
    split
    ·split
     ·exact bY
     ·exact aL
    ·exact dG bY
   ·exact aL
  ·exact aL
 case bin op x y=>
  rw[bR (x:=x) fun t ht=>hf t (by simp[eL.tmps,ht]),bR (x:=y) fun t ht=>hf t (by simp[eL.tmps,ht])]
  split
  ·split
   ·exact Dt
   ·exact Dt
   ·exact RP
  ·exact aL
 case eqb n x y=>
  rw[bR (x:=x) fun t ht=>hf t (by simp[eL.tmps,ht]),bR (x:=y) fun t ht=>hf t (by simp[eL.tmps,ht])]
  split;exact bY;exact aL
 case eqs n l x y=>
  rw[bR (x:=x) fun t ht=>hf t (by simp[eL.tmps,ht]),bR (x:=y) fun t ht=>hf t (by simp[eL.tmps,ht])]
  split;exact dG bY;exact aL
 case un=>rw[bR hf];split<;>first|exact bY|exact aL
 case conv=>rw[bR hf];split;exact bY;exact aL
 case fieldA=>rw[bR hf];split<;>first|exact bY|exact aL
 case field=>
  rw[bR hf]
  split
  ·split
   ·split
    ·exact bY
    ·exact aL
   ·exact dG bY
  ·exact aL
 case idxA sz x y=>
  rw[bR (x:=x) fun t ht=>hf t (by simp[eL.tmps,ht]),bR (x:=y) fun t ht=>hf t (by simp[eL.tmps,ht])]
  split
  ·exact dG (mj fun r=>dG bY)
  ·exact dG (mj fun r=>dG bY)
  ·split
   ·rename_i hl
    rw[hm rfl _ _ hl]
    exact dG bY
   ·rename_i hl
    rw[hm rfl _ _ hl]
    exact dG bY
   ·exact aL
  ·exact aL
 case idxR l sz x y=>
  rw[bR (x:=x) fun t ht=>hf t (by simp[eL.tmps,ht]),bR (x:=y) fun t ht=>hf t (by simp[eL.tmps,ht])]
  split<;>first|exact dG bY|exact aL
 case idxS x y=>
  rw[bR (x:=x) fun t ht=>hf t (by simp[eL.tmps,ht]),bR (x:=y) fun t ht=>hf t (by simp[eL.tmps,ht])]
  split;exact dG (mj fun b=>bY);exact aL
 case nilc=>rw[bR hf];split<;>first|exact bY|exact aL
 case build=>exact H9 (fun x=>bY) hf
 case bslice=>exact Dy (fun x=>bY) hf
 case slc sz x l h m=>
  rw[bR (x:=x) fun t ht=>hf t (by simp[eL.tmps,ht]),uB (y:=l) fun t ht=>hf t (by simp[eL.tmps,ht]),uB (y:=h) fun t ht=>hf t (by simp[eL.tmps,ht]),uB (y:=m) fun t ht=>hf t (by simp[eL.tmps,ht])]
  split
  ·exact aL
  ·exact RH (fun rows hr=>RO (hm rfl) hr) fun rows=>mj fun lo=>mj fun hi=>mj fun mx=>dG bY
 case slcS x l h=>
  rw[bR (x:=x) fun t ht=>hf t (by simp[eL.tmps,ht]),uB (y:=l) fun t ht=>hf t (by simp[eL.tmps,ht]),uB (y:=h) fun t ht=>hf t (by simp[eL.tmps,ht])]
  split;exact dG bY;exact aL
 case ext=>rw[bR hf];split;exact mj fun v=>bY;exact aL
 case len=>
  rw[bR hf]
  split
  ·exact bY
  ·exact bY
  ·exact bY
  ·split
   ·rename_i hl
    rw[hm rfl _ _ hl]
    exact bY
   ·rename_i hl
    rw[hm rfl _ _ hl]
    exact bY
   ·exact aL
  ·exact aL
 case lenS=>rw[bR hf];split;exact bY;exact aL
 case mm4 x y z t=>
  rw[bR (x:=x) fun u hu=>hf u (by simp[eL.tmps,hu]),bR (x:=y) fun u hu=>hf u (by simp[eL.tmps,hu]),bR (x:=z) fun u hu=>hf u (by simp[eL.tmps,hu]),bR (x:=t) fun u hu=>hf u (by simp[eL.tmps,hu])]
  split;exact bY;exact aL
 case dead=>exact aL
 case mm m x y=>
  rw[bR (x:=x) fun t ht=>hf t (by simp[eL.tmps,ht]),bR (x:=y) fun t ht=>hf t (by simp[eL.tmps,ht])]
  split;exact bY;exact aL
 case fnil=>rw[bR hf];split;exact bY;exact bY;exact aL
 case snil=>
  rw[bR hf]
  split
  ·exact bY
  ·exact Ji bY bY
  ·exact Ji bY bY
  ·split
   ·rename_i hl
    rw[hm rfl _ _ hl]
    exact Ji bY bY
   ·exact aL
  ·exact aL
 case mkfn=>exact L4 (fun x=>bY) hf
 case call g z f xs=>
  obtain⟨rfl,rfl⟩:=he
  rw[bR (x:=f) fun t ht=>hf t (by simp[eL.tmps,ht]),MR (xs:=xs) fun t ht=>hf t (by simp[eL.tmps,ht])]
  split
  ·rintro K K2 hk ⟨l,σ',args',hl,hz,(⟨pargs,h1,res,h2,h4⟩|⟨h1,_⟩)⟩
   ·rcases hl with rfl|hl
    ·cases hz
     exact⟨[],_,_,.inl rfl,rfl,.inl ⟨pargs,Iw (hm rfl) h1,res,h2,hk _ h4⟩⟩
    ·cases hl
   ·cases h1
  ·exact aL
 case mget kt n z ok m k=>
  rw[bR (x:=m) fun t ht=>hf t (by simp[eL.tmps,ht]),bR (x:=k) fun t ht=>hf t (by simp[eL.tmps,ht])]
  split
  ·refine mj fun mk=> ?_
   split
   ·split
    ·rename_i hl
     rw[hm rfl _ _ hl]
     exact dG (Kj (fun ps=>bY) bY)
    ·exact aL
   ·exact dG (Kj (fun ps=>bY) bY)
   ·exact aL
  ·exact aL
theorem BL {s s2:St} {sz:Nat} {F F2:List (List PC)→List (Nat×aS)→Prop} (hF: ∀x m,F x m→F2 x m): ∀{ps:List AX} {mem:List (Nat×aS)} {acc:List (List PC)},(∀t∈gU ps,aH s2.fr t=aH s.fr t)→bn.bsliceFW s sz ps mem acc F→bn.bsliceFW s2 sz ps mem acc F2
 | [],mem,acc,h,h1=>hF _ _ h1
 |x::ps,mem,acc,h,h1=>by
  simp only[bn.bsliceFW]at h1 ⊢
  rw[bR fun t ht=>h t (by simp[gU,ht])]
  split at h1
  ·obtain⟨z,e,h2,h3⟩:=h1
   exact⟨z,e,h2,BL hF (fun t ht=>h t (by simp[gU,ht])) h3⟩
  ·exact h1.elim
theorem NT {fr fr2:List (Nat×AV)} {mem:List (Nat×aS)} {nx b:Nat} {K K2:AV→St→Prop} (he:op.eff=true) (hgc:op.gcall=false) (hf: ∀t∈op.tmps,aH fr2 t=aH fr t) (hk: ∀v m n,K v ⟨fr,m,n,b⟩→K2 v ⟨fr2,m,n,b⟩) (h:bn P op ⟨fr,mem,nx,b⟩ K):bn P op ⟨fr2,mem,nx,b⟩ K2:=by
 cases op<;>simp[eL.eff]at he<;>simp only[bn]at h ⊢
 case box x=>
  rw[bR (x:=x) hf]
  split at h
  ·exact hk _ _ _ h
  ·exact h.elim
 case store n x y=>
  rw[bR (x:=x) fun t ht=>hf t (by simp[eL.tmps,ht]),bR (x:=y) fun t ht=>hf t (by simp[eL.tmps,ht])]
  split at h
  ·split at h
   ·exact⟨h.1,hk _ _ _ h.2⟩
   ·exact h.elim
  ·split at h
   ·obtain⟨h1,zs,h2,r,h3,h4⟩:=h
    exact⟨h1,zs,h2,r,h3,hk _ _ _ h4⟩
   ·obtain⟨h1,r,h3,h4⟩:=h
    exact⟨h1,r,h3,hk _ _ _ h4⟩
   ·exact h.elim
  ·exact h.elim
 case mkslice e sz b z x=>
  rw[bR (x:=x) hf]
  split at h
  ·exact⟨h.1,hk _ _ _ h.2⟩
  ·exact h.elim
 case call g z f xs=>
  simp only[eL.gcall]at hgc
  subst hgc
  rw[bR (x:=f) fun t ht=>hf t (by simp[eL.tmps,ht]),MR (xs:=xs) fun t ht=>hf t (by simp[eL.tmps,ht])]
  split at h
  ·obtain⟨l,σ',args',hl,hz,h⟩:=h
   rcases hl with rfl|hl
   ·cases hz
    rcases h with⟨pargs,h1,res,h2,h4⟩|⟨h1,res,m,n,h2,h4⟩
    ·exact⟨[],_,_,.inl rfl,rfl,.inl ⟨pargs,h1,res,h2,hk _ _ _ h4⟩⟩
    ·exact⟨[],_,_,.inl rfl,rfl,.inr ⟨h1,res,m,n,h2,hk _ _ _ h4⟩⟩
   ·cases hl
  ·exact h.elim
 case bsliceF sz xs=>exact BL (s:=⟨fr,mem,nx,b⟩) (s2:=⟨fr2,mem,nx,b⟩) (fun x m h=>hk _ _ _ h) hf h
 case mkmap kt n=>exact hk _ _ _ h
 case mput kt n m k v=>
  rw[bR (x:=m) fun t ht=>hf t (by simp[eL.tmps,ht]),bR (x:=k) fun t ht=>hf t (by simp[eL.tmps,ht]),bR (x:=v) fun t ht=>hf t (by simp[eL.tmps,ht])]
  split at h
  ·obtain⟨mk,hmk,h⟩:=h
   refine⟨mk,hmk, ?_⟩
   simp only at h ⊢
   split at h
   ·obtain⟨ys,hys,h⟩:=h
    refine⟨ys,hys, ?_⟩
    simp only at h ⊢
    split at h
    ·exact⟨h.1,hk _ _ _ h.2⟩
    ·exact h.elim
   ·exact h.elim
  ·exact h.elim
 case app e sz b x y=>
  rw[bR (x:=x) fun t ht=>hf t (by simp[eL.tmps,ht]),bR (x:=y) fun t ht=>hf t (by simp[eL.tmps,ht])]
  obtain⟨ys,hys,hok,h⟩:=h
  refine⟨ys,hys,hok, ?_⟩
  rcases h with⟨nm,h1,h2,rows,h3,h4,h5,h6⟩|⟨h1,h|h⟩|⟨rows,h1,h2,⟨h3,h⟩|h|h⟩
  ·exact .inl ⟨nm,h1,h2,rows,h3,h4,h5,hk _ _ _ h6⟩
  ·exact .inr (.inl ⟨h1,.inl ⟨h.1,h.2.1,hk _ _ _ h.2.2⟩⟩)
  ·exact .inr (.inl ⟨h1,.inr ⟨h.1,h.2.1,hk _ _ _ h.2.2⟩⟩)
  ·exact .inr (.inr ⟨rows,h1,h2,.inl ⟨h3,h.1,h.2.1,hk _ _ _ h.2.2⟩⟩)
  ·exact .inr (.inr ⟨rows,h1,h2,.inr (.inl ⟨h.1,h.2.1,hk _ _ _ h.2.2⟩)⟩)
  ·exact .inr (.inr ⟨rows,h1,h2,.inr (.inr ⟨h.1,hk _ _ _ h.2⟩)⟩)
end
open Go.RowKit
theorem pw {P:Program} {op:eL} {σ:St} {v:AV} {τ:St} (hgc:op.gcall=false) (h:bn P op σ fun v' τ'=>v'=v∧τ'=τ):τ.fr=σ.fr∧τ.base=σ.base∧(op.eff=false→τ=σ):=by
 by_cases he:op.eff=true
 ·obtain⟨fr,mem,nx,b⟩:=σ
  have h2:=NT (fr2:=fr) (K2:=fun v' τ'=>(v'=v∧τ'=τ)∧τ'.fr=fr∧τ'.base=b) he hgc (fun _ _=>rfl) (fun v m n hk=>⟨hk,rfl,rfl⟩) h
  obtain⟨v2,s2,_,⟨_,h4⟩,h5⟩:=I2 hgc _ h2
  rw[←h4];exact⟨h5.1,h5.2,fun e=>by rw[he]at e;cases e⟩
 ·have he':op.eff=false:=by simpa using he
  have h2:=NR (s2:=σ) he' (fun _ _ _ h=>h) (fun _ _=>rfl) (fun v' τ'=>v'=v∧τ'=τ) (fun v' τ'=>(v'=v∧τ'=τ)∧τ'=σ) (fun v' hk=>⟨hk,rfl⟩) h
  obtain⟨v2,s2,_,⟨_,h4⟩,h5⟩:=I2 hgc _ h2
  subst h4
  subst h5
  exact⟨rfl,rfl,fun _=>rfl⟩
def lQ (P:Program) (g:AG) (σ:St) (v:AV) (σ':St):Prop:=
 ((g.op.gcall=false∧(g.guard=none∨ ∃t want,g.guard=some (t,want)∧aH σ.fr t= .c (.pure (.val (.bool want)))))∧ ∃τ,(bn P g.op σ fun v' τ'=>v'=v∧τ'=τ)∧σ'=τ.put g.dst v)∨
 (∃t want,g.guard=some (t,want)∧(aH σ.fr t= .tup []∨aH σ.fr t= .c (.pure (.val (.bool (!want)))))∧v= .tup []∧σ'=σ.put g.dst (.tup []))
theorem FG {P:Program} {K:St→Prop}: ∀{gs:List (Bool×AG)} {σ:St},(gs.all fun y=> !y.2.op.gcall)=true→je P gs σ K→ ∃(v:Nat→AV) (s:Nat→St),s 0=σ∧(∀k y,gs[k]? =some y→lQ P y.2 (s k) (v k) (s (k+1))∧(y.1=true→kX (s k).mem (s (k+1)).mem))∧K (s gs.length)
 | [],σ,_,h=>⟨fun _=> .top,fun _=>σ,rfl,(fun k g hk=>by simp at hk),h⟩
 |(x,g)::gs,σ,hall,h=>by
  simp only[List.all_cons,Bool.and_eq_true,Bool.not_eq_true']at hall
  have pmem: ∀{τ:St} {v:AV},(τ.put g.dst v).mem=τ.mem:=fun{τ v}=>by cases g.dst<;>rfl
  have one: ∃v σ',(lQ P g σ v σ'∧(x=true→kX σ.mem σ'.mem))∧je P gs σ' K:=by
   have run:(g.guard=none∨ ∃t want,g.guard=some (t,want)∧aH σ.fr t= .c (.pure (.val (.bool want))))→(bn P g.op σ fun v σ'=> @cw (x=true→I1 σ.mem σ'.mem) ⟨je P gs (σ'.put g.dst v) K⟩)→ ∃v σ',(lQ P g σ v σ'∧(x=true→kX σ.mem σ'.mem))∧je P gs σ' K:=by
    intro hg h
    obtain⟨v,τ,h1,h2,h3⟩:=I2 hall.1 _ h
    exact⟨v,_,⟨.inl ⟨⟨hall.1,hg⟩,τ,h1,rfl⟩,by rw[pmem];exact fun e=>UN (h2 e)⟩,h3⟩
   simp only[je]at h
   split at h
   ·rename_i hg
    exact run (.inl hg) h
   ·rename_i t want hg
    split at h
    ·rename_i b hb
     by_cases e:b=want
     ·subst e
      exact run (.inr ⟨t,b,hg,hb⟩) (h.1 (by simp))
     ·refine⟨.tup [],_,⟨.inr ⟨t,want,hg,.inr ?_,rfl,rfl⟩,fun _=>by rw[pmem];exact fun _ _ h=>h⟩,h.2 (by simp[e])⟩
      rw[hb]
      cases b<;>cases want<;>simp_all
    ·rename_i hb
     exact⟨.tup [],_,⟨.inr ⟨t,want,hg,.inl hb,rfl,rfl⟩,fun _=>by rw[pmem];exact fun _ _ h=>h⟩,h⟩
    ·exact h.elim
  obtain⟨v0,σ1,h1,h2⟩:=one
  obtain⟨v,s,g1,g2,g3⟩:=FG hall.2 h2
  refine⟨fun k=>match k with|0=>v0|k+1=>v k,fun k=>match k with|0=>σ|k+1=>s k,rfl,fun k g' hk=> ?_,g3⟩
  cases k with
  |zero=>
   simp at hk
   subst hk
   show lQ P g σ v0 (s 0)∧(x=true→kX σ.mem (s 0).mem)
   rw[g1]
   exact h1
  |succ k=>exact g2 k g' (by simpa using hk)
theorem EY: ∀{ops:List Oper} {k j:Nat} {o:Oper},vd k ops=true→ops[j]? =some o→ ∀e∈o.after.toList,Region.binds .any e=true→e.on<k+j
 | [],k,j,o,h,hj=>by simp at hj
 |x::ops,k,j,o,h,hj=>by
  simp only[vd,Bool.and_eq_true,List.all_eq_true,decide_eq_true_eq,Bool.or_eq_true,Bool.not_eq_true']at h
  cases j with
  |zero=>
   simp at hj
   subst hj
   intro e he hb
   rcases h.1 e he with h|h
   ·rw[hb]at h;cases h
   ·exact h
  |succ j=>
   simp at hj
   intro e he hb
   have:=EY h.2 hj e he hb
   omega
theorem CR {acc:List (Nat×Nat)} {i:Nat}: ∀{ks:List Nat},(YA acc ks).testBit i=true→ ∃k∈ks,k=i∨(ta acc k).testBit i=true
 | [],h=>by simp[YA]at h
 |k::r,h=>by
  simp only[YA]at h
  rw[Nat.testBit_or,Nat.testBit_or]at h
  simp only[Bool.or_eq_true]at h
  rcases h with(h|h)|h
  ·refine⟨k,List.mem_cons_self,.inl ?_⟩
   rw[Nat.testBit_two_pow]at h
   simpa using h
  ·exact⟨k,List.mem_cons_self,.inr h⟩
  ·obtain⟨k',h1,h2⟩:=CR h
   exact⟨k',List.mem_cons_of_mem _ h1,h2⟩
def I9 (ops:List Oper) (E:List (Nat×Nat)) (S:Nat→Bool):Prop:= ∀(j:Nat) o,ops[j]? =some o→S j=true→ ∀k∈AB E j o,S k=true
theorem mw {ops:List Oper} {E:List (Nat×Nat)} {S:Nat→Bool} (hcl:I9 ops E S): ∀{ord:List Nat} {acc:List (Nat×Nat)},
  (∀k i,(ta acc k).testBit i=true→S k=true→S i=true)→ ∀k i,(ta (yY ops E ord acc) k).testBit i=true→S k=true→S i=true
 | [],acc,hacc,k,i,h,hk=>hacc k i h hk
 |j::r,acc,hacc,k,i,h,hk=>by
  simp only[yY]at h
  refine mw hcl (fun k i h hk=> ?_) k i h hk
  simp only[ta]at h
  split at h
  ·rename_i e
   subst e
   split at h
   ·rename_i o ho
    obtain⟨k',h1,h2⟩:=CR h
    have hk':=hcl j o ho hk k' h1
    rcases h2 with rfl|h2
    ·exact hk'
    ·exact hacc _ _ h2 hk'
   ·simp at h
  ·exact hacc k i h hk
theorem Dc {ops:List Oper} {E:List (Nat×Nat)} {S:Nat→Bool} (hcl:I9 ops E S) {j:Nat} {o:Oper} (ho:ops[j]? =some o) (hp: ∀k∈AB E j o,S k=true):
  ∀{ord:List Nat} {acc:List (Nat×Nat)},(∀k i,(ta acc k).testBit i=true→S k=true→S i=true)→(∀i,(ta acc j).testBit i=true→S i=true)→ ∀i,(ta (yY ops E ord acc) j).testBit i=true→S i=true
 | [],acc,hacc,hj,i,h=>hj i h
 |k::r,acc,hacc,hj,i,h=>by
  simp only[yY]at h
  refine Dc hcl ho hp (fun k' i g hk=> ?_) (fun i g=> ?_) i h
  ·clear h
   simp only[ta]at g
   split at g
   ·rename_i e
    subst e
    split at g
    ·rename_i o' ho'
     obtain⟨k'',h1,h2⟩:=CR g
     have hk':=hcl _ o' ho' hk k'' h1
     rcases h2 with rfl|h2
     ·exact hk'
     ·exact hacc _ _ h2 hk'
    ·simp at g
   ·exact hacc k' i g hk
  ·clear h
   simp only[ta]at g
   split at g
   ·rename_i e
    subst e
    rw[ho]at g
    obtain⟨k'',h1,h2⟩:=CR g
    have hk':=hp k'' h1
    rcases h2 with rfl|h2
    ·exact hk'
    ·exact hacc _ _ h2 hk'
   ·exact hj i g
theorem pP (a:Act) (d:Option Nat) (v:Value):(a.put d v).tmps.size=a.tmps.size:=by
 cases d<;>simp[Act.put]
theorem tS {a:Act} {t:Nat} {v:Value} (h:a.tmps.getD t undef=v) (hv:v≠undef):a.tmps[t]? =some v:=by
 simp only[Array.getD_eq_getD_getElem?]at h
 cases e:a.tmps[t]? with
 |none=>rw[e]at h;exact absurd h.symm hv
 |some u=>rw[e]at h;simp at h;rw[h]
def tQ (gs:List AG) (k:Nat):Option Nat:=(gs[k]?).bind (·.dst)
def jH (gs:List AG) (k:Nat):Bool:=match gs[k]? with|some g=>g.op.eff|none=>false
def mo (gs:List AG) (v:Nat→AV) (fr0:List (Nat×AV)) (S:Nat→Bool):Nat→List (Nat×AV)
 |0=>fr0
 |k+1=>if S k=true then(match tQ gs k with|some d=>(d,v k)::mo gs v fr0 S k|none=>mo gs v fr0 S k)else mo gs v fr0 S k
def gS (gs:List AG) (s:Nat→St) (S:Nat→Bool):Nat→List (Nat×aS)×Nat
 |0=>((s 0).mem,(s 0).nx)
 |k+1=>if S k=true∧jH gs k=true then((s (k+1)).mem,(s (k+1)).nx)else gS gs s S k
section
variable {P : Program} {gs : List AG} {v : Nat → AV} {s : Nat → St}
theorem FJ {σ:St} {d:Option Nat} {x:AV} {t:Nat}:aH (σ.put d x).fr t=if d=some t then x else aH σ.fr t:=by
 cases d with
 |none=>simp[St.put]
 |some d=>
  show(if d=t then x else aH σ.fr t)=_
  by_cases e:d=t<;>simp[e]
theorem gP {σ:St} {d:Option Nat} {x:AV}:(σ.put d x).mem=σ.mem∧(σ.put d x).nx=σ.nx:=by cases d<;>exact⟨rfl,rfl⟩
theorem Ux {g:AG} {σ σ':St} {x:AV} (h:lQ P g σ x σ') (t:Nat):aH σ'.fr t=if g.dst=some t then x else aH σ.fr t:=by
 rcases h with⟨hg0,τ,h1,rfl⟩|⟨_,_,_,_,rfl,rfl⟩
 ·rw[FJ,(pw hg0.1 h1).1]
 ·rw[FJ]
theorem Lp {g:AG} {σ σ':St} {x:AV} (h:lQ P g σ x σ') (he:g.op.eff=false):σ'.mem=σ.mem∧σ'.nx=σ.nx:=by
 rcases h with⟨hg0,τ,h1,rfl⟩|⟨_,_,_,_,rfl,rfl⟩
 ·rw[gP.1,gP.2,(pw hg0.1 h1).2.2 he]
  exact⟨rfl,rfl⟩
 ·exact gP
theorem uv {σ:St} {d:Option Nat} {x:AV}:(σ.put d x).base=σ.base:=by cases d<;>rfl
theorem Po {g:AG} {σ σ':St} {x:AV} (h:lQ P g σ x σ'):σ'.base=σ.base:=by
 rcases h with⟨hg0,τ,h1,rfl⟩|⟨_,_,_,_,rfl,rfl⟩
 ·rw[uv,(pw hg0.1 h1).2.1]
 ·exact uv
theorem xS (hch: ∀k g,gs[k]? =some g→lQ P g (s k) (v k) (s (k+1))): ∀{i:Nat},i≤gs.length→(s i).base=(s 0).base
 |0,_=>rfl
 |i+1,h=>(Po (hch i _ (List.getElem?_eq_getElem (show i<gs.length by omega)))).trans (xS hch (by omega))
theorem qn (hch: ∀k g,gs[k]? =some g→lQ P g (s k) (v k) (s (k+1))) {S:Nat→Bool} {t i:Nat}: ∀{n:Nat},n≤gs.length→i≤n→(∀k,k<n→tQ gs k=some t→(S k=true↔k<i))→aH (mo gs v (s 0).fr S n) t=aH (s i).fr t
 |0,_,hi,_=>by
  obtain rfl:i=0:=by omega
  rfl
 |n+1,hn,hi,h=>by
  have hg:=List.getElem?_eq_getElem (show n<gs.length by omega)
  by_cases e:i=n+1
  ·subst e
   have ih:=qn hch (S:=S) (t:=t) (i:=n) (n:=n) (by omega) (Nat.le_refl _) (fun k hk hd=>⟨fun _=>hk,fun _=>(h k (by omega) hd).2 (by omega)⟩)
   rw[Ux (hch n _ hg) t]
   simp only[mo]
   by_cases hd:tQ gs n=some t
   ·rw[if_pos ((h n (by omega) hd).2 (by omega)),hd]
    have hd':gs[n].dst=some t:=by simpa[tQ,hg]using hd
    rw[if_pos hd',eP,if_pos rfl]
   ·have hd': ¬gs[n].dst=some t:=by simpa[tQ,hg]using hd
    rw[if_neg hd']
    split
    ·split
     ·rename_i d hd2
      rw[eP,if_neg (fun e=>hd (by rw[hd2,e]))]
      exact ih
     ·exact ih
    ·exact ih
  ·have ih:=qn hch (S:=S) (t:=t) (i:=i) (n:=n) (by omega) (by omega) (fun k hk hd=>h k (by omega) hd)
   simp only[mo]
   by_cases hd:tQ gs n=some t
   ·rw[if_neg (fun hs=>by have:=(h n (by omega) hd).1 hs;omega)]
    exact ih
   ·split
    ·split
     ·rename_i d hd2
      rw[eP,if_neg (fun e=>hd (by rw[hd2,e]))]
      exact ih
     ·exact ih
    ·exact ih
theorem qb (hch: ∀k g,gs[k]? =some g→lQ P g (s k) (v k) (s (k+1))) {S:Nat→Bool} {i:Nat}: ∀{n:Nat},n≤gs.length→i≤n→(∀k,k<n→jH gs k=true→(S k=true↔k<i))→gS gs s S n=((s i).mem,(s i).nx)
 |0,_,hi,_=>by
  obtain rfl:i=0:=by omega
  rfl
 |n+1,hn,hi,h=>by
  have hg:=List.getElem?_eq_getElem (show n<gs.length by omega)
  by_cases e:i=n+1
  ·subst e
   have ih:=qb hch (S:=S) (i:=n) (n:=n) (by omega) (Nat.le_refl _) (fun k hk hd=>⟨fun _=>hk,fun _=>(h k (by omega) hd).2 (by omega)⟩)
   simp only[gS]
   by_cases he:jH gs n=true
   ·rw[if_pos ⟨(h n (by omega) he).2 (by omega),he⟩]
   ·rw[if_neg (fun hh=>he hh.2),ih]
    have he':gs[n].op.eff=false:=by simpa[jH,hg]using he
    have:=Lp (hch n _ hg) he'
    rw[this.1,this.2]
  ·have ih:=qb hch (S:=S) (i:=i) (n:=n) (by omega) (by omega) (fun k hk hd=>h k (by omega) hd)
   simp only[gS]
   rw[if_neg (fun hh=>by have:=(h n (by omega) hh.2).1 hh.1;omega)]
   exact ih
theorem Ib (hch: ∀k g,gs[k]? =some g→lQ P g (s k) (v k) (s (k+1))) {S:Nat→Bool} {p:Nat} (h1: ∀k,k<p→jH gs k=true→S k=true) (h2: ∀k,p≤k→k<gs.length→jH gs k=true→S k=true→kX (s k).mem (s (k+1)).mem)
  (h3: ∀k q,k<q→q<gs.length→jH gs k=true→jH gs q=true→S q=true→S k=true): ∀{n:Nat},n≤gs.length→p≤n→kX (s p).mem (gS gs s S n).1
 |0,hn,hp=>by
  obtain rfl:p=0:=by omega
  exact fun _ _ h=>h
 |n+1,hn,hp=>by
  by_cases e:p=n+1
  ·subst e
   have:=qb hch (S:=fun k=>decide (k<n+1)) (i:=n+1) (n:=n+1) hn (Nat.le_refl _) (fun k hk _=>by simp)
   have same: ∀m,m≤n+1→gS gs s S m=gS gs s (fun k=>decide (k<n+1)) m:=by
    intro m
    induction m with
    |zero=>intro _;rfl
    |succ m ih=>
     intro hm
     simp only[gS]
     rw[ih (by omega)]
     by_cases he:jH gs m=true
     ·rw[if_pos ⟨h1 m (by omega) he,he⟩,if_pos ⟨by simp;omega,he⟩]
     ·rw[if_neg (fun hh=>he hh.2),if_neg (fun hh=>he hh.2)]
   rw[same _ (Nat.le_refl _),this]
   exact fun _ _ h=>h
  ·have ih:=Ib hch h1 h2 h3 (n:=n) (by omega) (by omega)
   simp only[gS]
   by_cases hs:S n=true∧jH gs n=true
   ·rw[if_pos hs]
    have key: ∀m,p≤m→m≤n+1→kX (s p).mem (s m).mem:=by
     intro m
     induction m with
     |zero=>
      intro hp _
      obtain rfl:p=0:=by omega
      exact fun _ _ h=>h
     |succ m ih=>
      intro hpm hm
      by_cases e:p=m+1
      ·subst e;exact fun _ _ h=>h
      ·have hk:=ih (by omega) (by omega)
       by_cases he:jH gs m=true
       ·have hS:S m=true:=by
         by_cases e2:m=n
         ·subst e2;exact hs.1
         ·exact h3 m n (by omega) (by omega) he hs.2 hs.1
        exact fun nm bx hf=>h2 m (by omega) (by omega) he hS nm bx (hk nm bx hf)
       ·have hg:=List.getElem?_eq_getElem (show m<gs.length by omega)
        have he':gs[m].op.eff=false:=by simpa[jH,hg]using he
        rw[(Lp (hch m _ hg) he').1]
        exact hk
    exact key (n+1) (by omega) (Nat.le_refl _)
   ·rw[if_neg hs]
    exact ih
def gh (S:Nat→Bool) (i:Nat):Nat→Bool:=fun k=>if k=i then true else S k
theorem Lz {S:Nat→Bool} {i t:Nat} {fr0:List (Nat×AV)} (hi:S i=false): ∀{n:Nat},i<n→(tQ gs i=some t→ ∀k,i<k→tQ gs k=some t→S k=false)→aH (mo gs v fr0 (gh S i) n) t=if tQ gs i=some t then v i else aH (mo gs v fr0 S n) t
 |0,hn,_=>by omega
 |n+1,hn,h=>by
  have same: ∀{m:Nat},m≤i→mo gs v fr0 (gh S i) m=mo gs v fr0 S m:=by
   intro m
   induction m with
   |zero=>intro _;rfl
   |succ m ih=>
    intro hm
    simp only[mo]
    rw[ih (by omega)]
    have:gh S i m=S m:=if_neg (by omega)
    rw[this]
  by_cases e:i=n
  ·subst e
   simp only[mo]
   rw[if_pos (show gh S i i=true from if_pos rfl),hi,if_neg (show ¬false=true from fun e=>by cases e),same (Nat.le_refl _)]
   cases hd:tQ gs i with
   |none=>simp
   |some d=>
    show aH ((d,v i)::mo gs v fr0 S i) t=if some d=some t then v i else aH (mo gs v fr0 S i) t
    rw[eP]
    by_cases e:d=t<;>simp[e]
  ·have ih:=Lz (fr0:=fr0) (t:=t) hi (n:=n) (by omega) h
   have hn':gh S i n=S n:=if_neg (by omega)
   simp only[mo]
   rw[hn']
   by_cases hs:S n=true
   ·rw[if_pos hs,if_pos hs]
    split
    ·rename_i d hd
     rw[eP,eP]
     by_cases e2:d=t
     ·subst e2
      rw[if_pos rfl,if_pos rfl]
      by_cases e3:tQ gs i=some d
      ·have:=h e3 n (by omega) hd
       rw[hs]at this
       cases this
      ·rw[if_neg e3]
     ·rw[if_neg e2,if_neg e2]
      exact ih
    ·exact ih
   ·rw[if_neg hs,if_neg hs]
    exact ih
theorem Iv {S:Nat→Bool} {i:Nat} (hi:S i=false): ∀{n:Nat},i<n→(jH gs i=true→ ∀k,i<k→jH gs k=true→S k=false)→gS gs s (gh S i) n=if jH gs i=true then((s (i+1)).mem,(s (i+1)).nx)else gS gs s S n
 |0,hn,_=>by omega
 |n+1,hn,h=>by
  have same: ∀{m:Nat},m≤i→gS gs s (gh S i) m=gS gs s S m:=by
   intro m
   induction m with
   |zero=>intro _;rfl
   |succ m ih=>
    intro hm
    simp only[gS]
    rw[ih (by omega)]
    have:gh S i m=S m:=if_neg (by omega)
    rw[this]
  by_cases e:i=n
  ·subst e
   simp only[gS]
   have h1:gh S i i=true:=if_pos rfl
   rw[same (Nat.le_refl _)]
   by_cases he:jH gs i=true
   ·rw[if_pos ⟨h1,he⟩,if_pos he]
   ·rw[if_neg (fun hh=>he hh.2),if_neg he,if_neg (fun hh=>he hh.2)]
  ·have ih:=Iv hi (n:=n) (by omega) h
   have hn':gh S i n=S n:=if_neg (by omega)
   simp only[gS]
   rw[hn']
   by_cases hs:S n=true∧jH gs n=true
   ·rw[if_pos hs,if_pos hs]
    by_cases he:jH gs i=true
    ·have:=h he n (by omega) hs.2
     rw[hs.1]at this
     cases this
    ·rw[if_neg he]
   ·rw[if_neg hs,if_neg hs]
    exact ih
end
theorem bA.fr {w0:World} {U:Gh} {σ:St} {ι:Pl} {a:Act} {w:World} (hs:bA w0 U σ ι a w) {fr:List (Nat×AV)} (h: ∀t,aH fr t=aH σ.fr t):bA w0 U ⟨fr,σ.mem,σ.nx,σ.base⟩ ι a w:=
 ⟨fun t=>by have:=hs.val t;rw[←h t]at this;exact this,hs.defers,hs.names,hs.box,hs.apart,hs.below,hs.keep,hs.base⟩
open Go.RowKit
def N8 (S:Nat→Bool):Nat→Nat
 |0=>0
 |n+1=>N8 S n+if S n=true then 1 else 0
theorem SN (S:Nat→Bool): ∀n,N8 S n≤n
 |0=>Nat.le_refl _
 |n+1=>by have:=SN S n;simp only[N8];split<;>omega
theorem OT {S:Nat→Bool}: ∀{n:Nat},N8 S n=n→ ∀k,k<n→S k=true
 |0,_,k,hk=>by omega
 |n+1,h,k,hk=>by
  have hle:=SN S n
  simp only[N8]at h
  split at h
  ·rename_i hn
   by_cases e:k=n
   ·rw[e];exact hn
   ·exact OT (n:=n) (by omega) k (by omega)
  ·omega
theorem Oq {S:Nat→Bool} {i:Nat} (hi:S i=false): ∀{n:Nat},i<n→N8 (gh S i) n=N8 S n+1
 |0,h=>by omega
 |n+1,h=>by
  have same: ∀{m:Nat},m≤i→N8 (gh S i) m=N8 S m:=by
   intro m
   induction m with
   |zero=>intro _;rfl
   |succ m ih=>
    intro hm
    simp only[N8]
    rw[ih (by omega)]
    have:gh S i m=S m:=if_neg (by omega)
    rw[this]
  simp only[N8]
  by_cases e:i=n
  ·subst e
   rw[same (Nat.le_refl _),hi,show gh S i i=true from if_pos rfl]
   simp
  ·have:gh S i n=S n:=if_neg (by omega)
   rw[this,Oq hi (by omega)]
   omega
theorem O2 {P:Program} {dr:Bool} {nt:Nat} {ops:Array Oper}: ∀{l:List Oper} {gs:List AG},gr P dr nt ops l=some gs→l.length=gs.length∧ ∀(i:Nat) o,l[i]? =some o→ ∃g,gs[i]? =some g∧tW P dr nt ops o=some g
 | [],gs,h=>by cases h;exact⟨rfl,fun i o hi=>by simp at hi⟩
 |o::l,gs,h=>by
  unfold gr at h
  split at h
  ·rename_i g gs' h1 h2
   cases h
   obtain⟨g1,g2⟩:=O2 h2
   refine⟨by simp[g1],fun i o' hi=> ?_⟩
   cases i with
   |zero=>simp at hi;subst hi;exact⟨g,rfl,h1⟩
   |succ i=>exact g2 i o' (by simpa using hi)
  ·cases h
theorem KI {P:Program} {dr:Bool} {nt:Nat} {ops:Array Oper} {o:Oper} {g:AG} (h:tW P dr nt ops o=some g):g.dst=o.dst∧(∀t,o.dst=some t→t<nt)∧bM P dr o.op=some g.op∧
  ((o.guard=none∧g.guard=none)∨ ∃j want t,o.guard=some (j,want)∧(ops[j]?).bind (·.dst)=some t∧g.guard=some (t,want)):=by
 unfold tW at h
 by_cases hdst:JT nt o.dst=false
 ·rw[if_pos hdst]at h;cases h
 ·rw[if_neg hdst]at h
  have hd: ∀t,o.dst=some t→t<nt:=by
   intro t ht
   rw[ht]at hdst
   simpa[JT]using hdst
  split at h
  ·rename_i ao hao
   split at h
   ·rename_i hg
    cases h
    exact⟨rfl,hd,hao,.inl ⟨hg,rfl⟩⟩
   ·rename_i j want hg
    split at h
    ·rename_i t ht
     cases h
     exact⟨rfl,hd,hao,.inr ⟨j,want,t,hg,ht,rfl⟩⟩
    ·cases h
  ·cases h
section
variable {P : Program} {a : Act} {w w' w0 : World} {U : Gh} {ι : Pl} {σ : St} {nt : Nat} {dr : Bool}
theorem Jl {V:Nat→Prop} {N:Nat} {u:Value} (h:aM w V ι N (.tup []) u):u=undef:=by
 cases h with
 | @tup _ vs hl _=>
  have:vs= #[]:=Array.eq_empty_of_size_eq_zero (by simpa using hl.symm)
  rw[this]
  rfl
theorem M5 {ops:Array Oper} {Q:Exit→Act→World→Prop} {i:Nat} {o:Oper} {g:AG} {v:AV} {σ σ':St} {next:Act→World→Prop} (ho:ops[i]? =some o) (hg:tW P dr nt ops o=some g) (hst:lQ P g σ v σ') (hs:bA w0 U σ ι a w) (hz:a.tmps.size=nt)
  (hn: ∀ι' a' w',bA w0 U σ' ι' a' w'→a'.tmps.size=nt→next a' w'):wpOp P ops Q i next a w:=by
 obtain⟨h1,h2,h3,h4⟩:=KI hg
 have hd: ∀t,o.dst=some t→t<a.tmps.size:=fun t ht=>by rw[hz];exact h2 t ht
 unfold wpOp
 rw[ho]
 have run:Region.wanted o (yielded ops a.tmps)=true→(∃τ,(bn P g.op σ fun v' τ'=>v'=v∧τ'=τ)∧σ'=τ.put g.dst v)→(if Region.wanted o (yielded ops a.tmps)=true then o.wp P a w next Q∨(o.asks P a w∧LetsOut Q)else next (a.put o.dst undef) w):=by
  rintro hw ⟨τ,k1,rfl⟩
  rw[if_pos hw]
  left
  refine Ls h3 k1 hs ?_
  rintro v' σ2 ι' u w' ⟨rfl,rfl⟩ hs' hr
  refine hn ι' _ w' ?_ (by rw[pP];exact hz)
  rw[h1]
  exact hs'.put hd hr
 rcases h4 with⟨k1,k2⟩|⟨j,want,t,k1,k2,k3⟩
 ·rcases hst with⟨_,hx⟩|⟨t,want,e,_⟩
  ·exact run (by simp[Region.wanted,k1]) hx
  ·rw[k2]at e;cases e
 ·have hval:=hs.val t
  rcases hst with⟨⟨_,hg'⟩,hx⟩|⟨t',want',e,hg',rfl,rfl⟩
  ·rcases hg' with e|⟨t',want',e,hb⟩
   ·rw[k3]at e;cases e
   ·rw[k3]at e
    cases e
    rw[hb]at hval
    have hb':=tS (bb hval).1 (by intro e;cases e)
    exact run (by simp[Region.wanted,k1,yielded,k2,hb']) hx
  ·rw[k3]at e
   cases e
   have hw: ¬Region.wanted o (yielded ops a.tmps)=true:=by
    rcases hg' with hb|hb
    ·rw[hb]at hval
     have hu:=Jl hval
     have hy:yielded ops a.tmps j=none:=by
      unfold yielded
      simp only[k2,Option.bind_some]
      simp only[Array.getD_eq_getD_getElem?]at hu
      cases e':a.tmps[t]? with
      |none=>rfl
      |some z=>
       rw[e']at hu
       simp at hu
       subst hu
       rfl
     simp[Region.wanted,k1,hy]
    ·rw[hb]at hval
     have hb':=tS (bb hval).1 (by intro e;cases e)
     simp[Region.wanted,k1,yielded,k2,hb']
   show(if Region.wanted o (yielded ops a.tmps)=true then _ else next (a.put o.dst undef) w)
   rw[if_neg hw]
   refine hn ι _ w ?_ (by rw[pP];exact hz)
   rw[h1]
   exact hs.put hd iN
theorem lQ.congr {g:AG} {v:AV} {σ σ' σ2:St} (h:lQ P g σ v σ') (hf: ∀t∈g.looks,aH σ2.fr t=aH σ.fr t) (hm:g.op.eff=true→σ2.mem=σ.mem∧σ2.nx=σ.nx) (hms:g.op.eff=false→g.op.sens=true→kX σ.mem σ2.mem) (hbase:σ2.base=σ.base):
  ∃τ,lQ P g σ2 v τ∧(∀t,aH τ.fr t=if g.dst=some t then v else aH σ2.fr t)∧(τ.mem,τ.nx)=(if g.op.eff=true then(σ'.mem,σ'.nx)else(σ2.mem,σ2.nx))∧τ.base=σ2.base:=by
 have hf': ∀t∈g.op.tmps,aH σ2.fr t=aH σ.fr t:=fun t ht=>hf t (by simp[AG.looks,ht])
 rcases h with⟨⟨hgc,hg⟩,τ,h1,rfl⟩|⟨t,want,hg,hb,rfl,rfl⟩
 ·have hg2:g.guard=none∨ ∃t want,g.guard=some (t,want)∧aH σ2.fr t= .c (.pure (.val (.bool want))):=by
   rcases hg with e|⟨t,want,e,hb⟩
   ·exact .inl e
   ·exact .inr ⟨t,want,e,by rw[hf t (by simp[AG.looks,e])];exact hb⟩
  by_cases he:g.op.eff=true
  ·obtain⟨m1,m2⟩:=hm he
   have k1:=(pw hgc h1).1
   have k2:=(pw hgc h1).2.1
   obtain⟨fr,mem,nx,b⟩:=σ
   obtain⟨fr2,mem2,nx2,b2⟩:=σ2
   simp only at m1 m2 hf' k1 k2 hbase
   subst hbase
   subst m1
   subst m2
   have h2:=NT (fr2:=fr2) (K2:=fun v' τ'=>v'=v∧τ'=⟨fr2,τ.mem,τ.nx,τ.base⟩) he hgc hf' (fun v' m n hk=>by obtain⟨e1,e2⟩:=hk;subst e2;exact⟨e1,rfl⟩) h1
   refine⟨_,.inl ⟨⟨hgc,hg2⟩,_,h2,rfl⟩,fun t=>FJ, ?_,by rw[uv];exact k2⟩
   rw[if_pos he,gP.1,gP.2,gP.1,gP.2]
  ·have he':g.op.eff=false:=by simpa using he
   have k1:=(pw hgc h1).2.2 he'
   subst k1
   have h2:=NR (s2:=σ2) he' (hms he') hf' (fun v' τ'=>v'=v∧τ'=τ) (fun v' τ'=>v'=v∧τ'=σ2) (fun v' hk=>⟨hk.1,rfl⟩) h1
   refine⟨_,.inl ⟨⟨hgc,hg2⟩,_,h2,rfl⟩,fun t=>FJ, ?_,uv⟩
   rw[if_neg he,gP.1,gP.2]
 ·refine⟨_,.inr ⟨t,want,hg, ?_,rfl,rfl⟩,fun t=>FJ, ?_,uv⟩
  ·rw[hf t (by simp[AG.looks,hg])]
   exact hb
  ·rw[gP.1,gP.2,gP.1,gP.2]
   split
   ·rename_i he
    rw[(hm he).1,(hm he).2]
   ·rfl
theorem ID {g h:AG} {d:Nat} (hc:iO g h=false) (hd:g.dst=some d):d∉h.looks∧h.dst≠some d:=by
 simp only[iO,hd,Bool.or_eq_false_iff]at hc
 refine⟨fun hm=> ?_,fun e=> ?_⟩
 ·have:=hc.1.1.1.1
  simp[hm]at this
 ·have:=hc.1.1.1.2
  simp[e]at this
theorem MQ {g h:AG} {d:Nat} (hc:iO g h=false) (hd:h.dst=some d):d∉g.looks:=by
 simp only[iO,hd,Bool.or_eq_false_iff]at hc
 intro hm
 have:=hc.1.1.2
 simp[hm]at this
theorem pN {g h:AG} (hc:iO g h=false):(g.op.eff=true→h.op.eff=false∧h.op.sens=false):=by
 simp only[iO,Bool.or_eq_false_iff]at hc
 have h1:=hc.1.2
 intro e
 rw[e]at h1
 simpa using h1
def Px (ops:Array Oper):List Nat→Array Bool→Prop
 | [],L=>Region.ready .any ops L= []
 |i::r,L=>i∈Region.ready .any ops L∧Px ops r (L.setIfInBounds i true)
theorem Tk {ops:Array Oper}: ∀(fuel t:Nat) (L:Array Bool),L.size=ops.size→N8 (fun k=>L.getD k false) ops.size+fuel=ops.size→Px ops (Region.linearise.go .any ops fuel t L []) L
 |0,t,L,hL,hcn=>by
  show Region.ready .any ops L= []
  unfold Region.ready
  rw[List.filter_eq_nil_iff]
  intro k hk
  have hk':k<ops.size:=by simpa using hk
  have h1:=OT (S:=fun k=>L.getD k false) (n:=ops.size) (by omega) k hk'
  have h2:L.getD k true=true:=by
   have:k<L.size:=by omega
   simp only[Array.getD_eq_getD_getElem?,Array.getElem?_eq_getElem this,Option.getD_some]at h1 ⊢
   exact h1
  rw[h2]
  simp
 |fuel+1,t,L,hL,hcn=>by
  simp only[Region.linearise.go]
  change Px ops (match (Region.ready .any ops L)[t%(Region.ready .any ops L).length]? with
   |some i=>Region.linearise.go .any ops fuel (t/(Region.ready .any ops L).length) (L.setIfInBounds i true) [i]
   |none=> [].reverse) L
  cases hi:(Region.ready .any ops L)[t%(Region.ready .any ops L).length]? with
  |none=>
   cases hr:Region.ready .any ops L with
   |nil=>exact hr
   |cons x xs=>
    rw[hr]at hi
    have hlt:t%(x::xs).length<(x::xs).length:=Nat.mod_lt _ (by simp)
    simp at hi
    simp at hlt
    omega
  |some i=>
   simp only[]
   rw[linearise_go_acc,List.reverse_singleton,List.singleton_append]
   have hmem:=List.mem_of_getElem? hi
   refine⟨hmem,Tk _ _ _ (by simpa using hL) ?_⟩
   unfold Region.ready at hmem
   rw[List.mem_filter]at hmem
   obtain⟨h1,h2⟩:=hmem
   have hio:i<ops.size:=by simpa using h1
   have hiL:i<L.size:=by omega
   simp only[Bool.and_eq_true,Bool.not_eq_true']at h2
   have hf:L.getD i false=false:=by
    have:=h2.1
    simp only[Array.getD_eq_getD_getElem?,Array.getElem?_eq_getElem hiL,Option.getD_some]at this ⊢
    exact this
   have hS:(fun k=>(L.setIfInBounds i true).getD k false)=gh (fun k=>L.getD k false) i:=by
    funext k
    simp only[gh,Array.getD_eq_getD_getElem?]
    by_cases e:k=i
    ·subst e;simp[hiL]
    ·rw[if_neg e,Array.getElem?_setIfInBounds_ne (Ne.symm e)]
   rw[hS,Oq hf hio]
   omega
def TT (E:List (Nat×Nat)):List Nat→(Nat→Bool)→Prop
 | [],_=>True
 |i::r,S=>(∀p∈E,p.2=i→S p.1=true)∧TT E r (gh S i)
theorem NO: ∀{r:List Nat} {S:Nat→Bool},TT [] r S
 | [],S=>trivial
 |i::r,S=>⟨(fun p hp=>by cases hp),NO⟩
theorem DX {E:List (Nat×Nat)} {x y:Nat}: ∀{r:List Nat} {S:Nat→Bool},S x=true→TT E r S→TT ((x,y)::E) r S
 | [],S,_,_=>trivial
 |i::r,S,hx,h=>⟨fun p hp e=>by
   rcases List.mem_cons.1 hp with rfl|hp
   ·exact hx
   ·exact h.1 p hp e,DX (by simp only[gh];split<;>simp_all) h.2⟩
theorem GU {E:List (Nat×Nat)} {x y:Nat} (hxy:x≠y): ∀{r:List Nat} {S:Nat→Bool},TT E r S→TT ((x,y)::E) r S∨TT ((y,x)::E) r S
 | [],S,_=> .inl trivial
 |i::r,S,h=>by
  by_cases e1:i=x
  ·subst e1
   refine .inl ⟨fun p hp e=> ?_,DX (by simp[gh]) h.2⟩
   rcases List.mem_cons.1 hp with rfl|hp
   ·exact absurd e.symm hxy
   ·exact h.1 p hp e
  ·by_cases e2:i=y
   ·subst e2
    refine .inr ⟨fun p hp e=> ?_,DX (by simp[gh]) h.2⟩
    rcases List.mem_cons.1 hp with rfl|hp
    ·exact absurd e hxy
    ·exact h.1 p hp e
   ·rcases GU hxy h.2 with h'|h'
    ·refine .inl ⟨fun p hp e=> ?_,h'⟩
     rcases List.mem_cons.1 hp with rfl|hp
     ·exact absurd e.symm e2
     ·exact h.1 p hp e
    ·refine .inr ⟨fun p hp e=> ?_,h'⟩
     rcases List.mem_cons.1 hp with rfl|hp
     ·exact absurd e.symm e1
     ·exact h.1 p hp e
theorem pW {M:List (Nat×Nat)}: ∀{leaf:List (Nat×Bool×AG)},Ec M leaf=true→ ∀(p q:Nat) y z,p<q→leaf[p]? =some y→leaf[q]? =some z→Do M y.1 y.2.2 z.1 z.2.1 z.2.2=true
 | [],_,p,q,y,z,_,hy,_=>by simp at hy
 |(i,x,g)::r,h,p,q,y,z,hpq,hy,hz=>by
  simp only[Ec,Bool.and_eq_true,List.all_eq_true]at h
  cases q with
  |zero=>omega
  |succ q=>
   have hz':r[q]? =some z:=by simpa using hz
   cases p with
   |zero=>
    simp at hy
    subst hy
    exact h.1 z (List.mem_of_getElem? hz')
   |succ p=>exact pW h.2 p q y z (by omega) (by simpa using hy) hz'
theorem Hs: ∀{l:List Nat},DW l=true→ ∀(p q:Nat) i,l[p]? =some i→l[q]? =some i→p=q
 | [],_,p,q,i,hp,_=>by simp at hp
 |x::r,h,p,q,i,hp,hq=>by
  simp only[DW,Bool.and_eq_true,Bool.not_eq_true']at h
  have hx: ∀k,r[k]? =some x→False:=fun k hk=>by
   have:=h.1
   rw[List.contains_iff_mem.2 (List.mem_of_getElem? hk)]at this
   cases this
  cases p with
  |zero=>
   simp at hp
   subst hp
   cases q with
   |zero=>rfl
   |succ q=>exact(hx q (by simpa using hq)).elim
  |succ p=>
   cases q with
   |zero=>
    simp at hq
    subst hq
    exact(hx p (by simpa using hp)).elim
   |succ q=>rw[Hs h.2 p q i (by simpa using hp) (by simpa using hq)]
theorem Nq {ops:Array Oper} {gs:List AG} {leaf:List (Nat×Bool×AG)} {E:List (Nat×Nat)} {ord:List Nat} {K:St→Prop} {Q:Exit→Act→World→Prop}
  (hc:gr P dr nt ops ops.toList=some gs) (hedge:vd 0 ops.toList=true) (hgc:(gs.all fun g=> !g.op.gcall)=true) (hleaf:Ec (yY ops.toList E ord []) leaf=true) (hidx:leaf.map (·.1)=ord) (hget: ∀y∈leaf,gs[y.1]? =some y.2.2)
  (hnd:DW ord=true) (hall: ∀i,i<gs.length→i∈ord) (h:je P (ui leaf) σ K) (hs:bA w0 U σ ι a w) (hz:a.tmps.size=nt)
  (hq: ∀σ' ι' a' w',K σ'→bA w0 U σ' ι' a' w'→a'.tmps.size=nt→Q .normal a' w') {sched:List Nat} (hlin:Px ops sched (Array.replicate ops.size false)) (hok:TT E sched (fun _=>false)):wpOps P ops Q sched a w:=by
 have hgc':((ui leaf).all fun y=> !y.2.op.gcall)=true:=by
  rw[List.all_eq_true]
  intro y hy
  obtain⟨z,hz1,rfl⟩:=List.mem_map.1 hy
  exact List.all_eq_true.1 hgc _ (List.mem_of_getElem? (hget z hz1))
 obtain⟨v,s,hs0,hch0,hK⟩:=FG hgc' h
 obtain⟨hlen,hat⟩:=O2 hc
 have hn:ops.size=gs.length:=by rw[←hlen,Array.length_toList]
 let gs':List AG:=leaf.map (·.2.2)
 have hl':gs'.length=leaf.length:=by simp[gs']
 have hls:(ui leaf).length=gs'.length:=by simp[ui,gs']
 rw[hls]at hK
 have hg': ∀{p:Nat} {g:AG},gs'[p]? =some g→ ∃y,leaf[p]? =some y∧y.2.2=g:=by
  intro p g hp
  simp only[gs',List.getElem?_map,Option.map_eq_some_iff]at hp
  exact hp
 have hch: ∀k g,gs'[k]? =some g→lQ P g (s k) (v k) (s (k+1)):=by
  intro k g hk
  obtain⟨y,hy,rfl⟩:=hg' hk
  exact(hch0 k y.2 (by simp[ui,hy])).1
 have hflag: ∀k y,leaf[k]? =some y→y.2.1=true→kX (s k).mem (s (k+1)).mem:=fun k y hy=>(hch0 k y.2 (by simp[ui,hy])).2
 have hord: ∀{p:Nat} {y:Nat×Bool×AG},leaf[p]? =some y→ord[p]? =some y.1:=by
  intro p y hp
  rw[←hidx,List.getElem?_map,hp]
  rfl
 let SS (L:Array Bool):Nat→Bool:=fun p=>L.getD ((ord[p]?).getD 0) false
 let LL (L:Array Bool):Nat→Bool:=fun i=>L.getD i false
 have hSS: ∀(L:Array Bool) {p:Nat} {y:Nat×Bool×AG},leaf[p]? =some y→SS L p=LL L y.1:=by
  intro L p y hp
  simp only[SS,LL,hord hp,Option.getD_some]
 let stOf (L:Array Bool):St:=⟨mo gs' v (s 0).fr (SS L) gs'.length,(gS gs' s (SS L) gs'.length).1,(gS gs' s (SS L) gs'.length).2,(s 0).base⟩
 have main: ∀(sched:List Nat) (L:Array Bool) (ι:Pl) (a:Act) (w:World),L.size=gs.length→I9 ops.toList E (LL L)→Px ops sched L→TT E sched (LL L)→bA w0 U (stOf L) ι a w→a.tmps.size=nt→wpOps P ops Q sched a w:=by
  intro sched
  induction sched with
  |nil=>
   intro L ι a w hL hcl hlin hok hsim hz
   have hr:Region.ready .any ops L= []:=hlin
   have all: ∀k,k<gs.length→LL L k=true:=by
    intro k
    induction k using Nat.strongRecOn with
    |_ k ih=>
     intro hk
     cases hS:LL L k with
     |true=>rfl
     |false=>
      exfalso
      have hko:k<ops.size:=by omega
      have hmem:k∈Region.ready .any ops L:=by
       unfold Region.ready
       rw[List.mem_filter]
       refine⟨by simpa using hko, ?_⟩
       have h1:L.getD k true=false:=by
        have:k<L.size:=by omega
        simp only[LL,Array.getD_eq_getD_getElem?,Array.getElem?_eq_getElem this,Option.getD_some]at hS ⊢
        exact hS
       rw[h1]
       simp only[Bool.not_false,Bool.true_and,Array.getElem?_eq_getElem hko,Option.map_some,Option.getD_some,Array.all_eq_true]
       intro j hj
       simp only[Bool.or_eq_true,Bool.not_eq_true']
       cases hbi:Region.binds .any ops[k].after[j]with
       |false=>exact .inl rfl
       |true=>
        have:=EY hedge (j:=k) (o:=ops[k]) (by simp[hko]) ops[k].after[j] (by simp) hbi
        right
        exact ih ops[k].after[j].on (by omega) (by omega)
      rw[hr]at hmem
      cases hmem
   have allS: ∀p,p<gs'.length→SS L p=true:=by
    intro p hp
    have hy:=List.getElem?_eq_getElem (show p<leaf.length by omega)
    rw[hSS L hy]
    exact all _ (List.getElem?_eq_some_iff.1 (hget _ (List.mem_of_getElem? hy))).1
   have hfr: ∀t,aH (mo gs' v (s 0).fr (SS L) gs'.length) t=aH (s gs'.length).fr t:=fun t=>
    qn hch (Nat.le_refl _) (Nat.le_refl _) fun k hk _=>⟨fun _=>hk,fun _=>allS k hk⟩
   have hmm:=qb hch (S:=SS L) (i:=gs'.length) (Nat.le_refl _) (Nat.le_refl _) fun k hk _=>⟨fun _=>hk,fun _=>allS k hk⟩
   show Q .normal a w
   refine hq (s gs'.length) ι a w hK ?_ hz
   have:=hsim.fr (fr:=(s gs'.length).fr) fun t=>(hfr t).symm
   simp only[stOf,hmm]at this
   rw[←xS hch (Nat.le_refl _)]at this
   exact this
  |cons i r ih=>
   intro L ι a w hL hcl hlin hok hsim hz
   obtain⟨hi,hlin⟩:=hlin
   obtain⟨hoki,hok⟩:=hok
   rw[wpOps_cons]
   unfold Region.ready at hi
   rw[List.mem_filter]at hi
   obtain⟨hi1,hi2⟩:=hi
   have hio:i<ops.size:=by simpa using hi1
   have hig:i<gs.length:=by omega
   have ho:ops[i]? =some ops[i]:=Array.getElem?_eq_getElem hio
   simp only[Bool.and_eq_true,Bool.not_eq_true',ho,Option.map_some,Option.getD_some,Array.all_eq_true]at hi2
   obtain⟨hi2,hi3⟩:=hi2
   have hSi:LL L i=false:=by
    have:i<L.size:=by omega
    simp only[LL,Array.getD_eq_getD_getElem?,Array.getElem?_eq_getElem this,Option.getD_some]at hi2 ⊢
    exact hi2
   have hol:ops.toList[i]? =some ops[i]:=by simp[hio]
   have hpred: ∀k∈AB E i ops[i],LL L k=true:=by
    intro k hk
    simp only[AB,List.mem_append,List.mem_filterMap]at hk
    rcases hk with⟨e,he,hk⟩|⟨p,hp,hk⟩
    ·split at hk
     ·rename_i hb
      cases hk
      obtain⟨j,hj,rfl⟩:=List.mem_iff_getElem.1 he
      have:=hi3 j (by simpa using hj)
      simp only[Bool.or_eq_true,Bool.not_eq_true']at this
      rcases this with h|h
      ·simp at hb
       rw[hb]at h
       cases h
      ·show L.getD _ false=true
       simpa[Array.getD_eq_getD_getElem?]using h
     ·cases hk
    ·split at hk
     ·rename_i e
      cases hk
      exact hoki p hp e
     ·cases hk
   obtain⟨g,hg,hcg⟩:=hat i ops[i] hol
   obtain⟨p,hp⟩: ∃p,ord[p]? =some i:=List.mem_iff_getElem?.1 (hall i hig)
   have hpl:p<leaf.length:=by
    have:=(List.getElem?_eq_some_iff.1 hp).1
    rw[←hidx,List.length_map]at this
    exact this
   have hyp:=List.getElem?_eq_getElem hpl
   have hy1:leaf[p].1=i:=by
    have:=hord hyp
    rw[hp]at this
    cases this
    rfl
   have hy2:leaf[p].2.2=g:=by
    have:=hget _ (List.mem_of_getElem? hyp)
    rw[hy1,hg]at this
    cases this
    rfl
   have hgp:gs'[p]? =some g:=by simp only[gs',List.getElem?_map,hyp,Option.map_some,hy2]
   have hpg:p<gs'.length:=by omega
   have hSp:SS L p=false:=by rw[hSS L hyp,hy1];exact hSi
   have bit0: ∀k i,(ta ([]:List (Nat×Nat)) k).testBit i=true→LL L k=true→LL L i=true:=fun k i h _=>by simp[ta]at h
   have bit1: ∀i',(ta ([]:List (Nat×Nat)) i).testBit i'=true→LL L i'=true:=fun i' h=>by simp[ta]at h
   have ce: ∀q y,leaf[q]? =some y→q<p→iO y.2.2 g=true→SS L q=true:=by
    intro q y hq hlt hcl'
    have hpx:=pW hleaf q p y _ hlt hq hyp
    rw[hy1,hy2]at hpx
    simp only[Do,hcl',Bool.not_true,Bool.false_and,Bool.or_false]at hpx
    rw[hSS L hq]
    exact Dc hcl hol hpred bit0 bit1 _ hpx
   have after: ∀q y,leaf[q]? =some y→p<q→iO g y.2.2=true→SS L q=false:=by
    intro q y hq hlt hcl'
    cases hS:SS L q with
    |false=>rfl
    |true=>
     exfalso
     have hpx:=pW hleaf p q _ y hlt hyp hq
     rw[hy1,hy2]at hpx
     simp only[Do,hcl',Bool.not_true,Bool.false_and,Bool.or_false]at hpx
     rw[hSS L hq]at hS
     have:=mw hcl bit0 _ _ hpx hS
     rw[hSi]at this
     cases this
   have yes: ∀{k:Nat},k<gs'.length→ ∃y,leaf[k]? =some y∧gs'[k]? =some y.2.2:=by
    intro k hk
    have hy:=List.getElem?_eq_getElem (show k<leaf.length by omega)
    exact⟨_,hy,by simp only[gs',List.getElem?_map,hy,Option.map_some]⟩
   have hfr: ∀t∈g.looks,aH (stOf L).fr t=aH (s p).fr t:=by
    intro t ht
    refine qn hch (Nat.le_refl _) (by omega) fun k hk hd=> ?_
    obtain⟨y,hy,hgk⟩:=yes hk
    have hd':y.2.2.dst=some t:=by simpa[tQ,hgk]using hd
    rcases Nat.lt_trichotomy k p with hlt|e|hgt
    ·refine⟨fun _=>hlt,fun _=>ce k _ hy hlt ?_⟩
     cases hx:iO y.2.2 g with
     |true=>rfl
     |false=>exact absurd ht (ID hx hd').1
    ·subst e
     rw[hSp]
     exact⟨(fun e=>by cases e),(fun e=>by omega)⟩
    ·refine⟨fun hS=> ?_,fun e=>by omega⟩
     have:iO g y.2.2=true:=by
      cases hx:iO g y.2.2 with
      |true=>rfl
      |false=>exact absurd ht (MQ hx hd')
     rw[after k _ hy hgt this]at hS
     cases hS
   have hmm:g.op.eff=true→(stOf L).mem=(s p).mem∧(stOf L).nx=(s p).nx:=by
    intro he
    have:=qb hch (S:=SS L) (i:=p) (n:=gs'.length) (Nat.le_refl _) (by omega) fun k hk hd=>by
     obtain⟨y,hy,hgk⟩:=yes hk
     have hd':y.2.2.op.eff=true:=by simpa[jH,hgk]using hd
     rcases Nat.lt_trichotomy k p with hlt|e|hgt
     ·refine⟨fun _=>hlt,fun _=>ce k _ hy hlt ?_⟩
      cases hx:iO y.2.2 g with
      |true=>rfl
      |false=>
       have:=(pN hx hd').1
       rw[he]at this;cases this
     ·subst e
      rw[hSp]
      exact⟨(fun e=>by cases e),(fun e=>by omega)⟩
     ·refine⟨fun hS=> ?_,fun e=>by omega⟩
      have:iO g y.2.2=true:=by
       cases hx:iO g y.2.2 with
       |true=>rfl
       |false=>
        have:=(pN hx he).1
        rw[hd']at this;cases this
      rw[after k _ hy hgt this]at hS
      cases hS
    simp only[stOf,this]
    exact⟨trivial,trivial⟩
   have hms:g.op.eff=false→g.op.sens=true→kX (s p).mem (stOf L).mem:=by
    intro hne hsn
    refine Ib hch (S:=SS L) (p:=p) (fun k hk hd=> ?_) (fun k hpk hk hd hS=> ?_) (fun k q hkq hq hd hd2 hS=> ?_) (Nat.le_refl _) (by omega)
    ·obtain⟨y,hy,hgk⟩:=yes (show k<gs'.length by omega)
     have hd':y.2.2.op.eff=true:=by simpa[jH,hgk]using hd
     refine ce k _ hy hk ?_
     cases hx:iO y.2.2 g with
     |true=>rfl
     |false=>
      have:=(pN hx hd').2
      rw[hsn]at this;cases this
    ·obtain⟨y,hy,hgk⟩:=yes hk
     have hd':y.2.2.op.eff=true:=by simpa[jH,hgk]using hd
     have hne':p≠k:=by
      rintro rfl
      rw[hSp]at hS
      cases hS
     have hpx:=pW hleaf p k _ y (by omega) hyp hy
     rw[hy1,hy2]at hpx
     simp only[Do,Bool.or_eq_true,Bool.and_eq_true,hsn,hd']at hpx
     rcases hpx with hpx|⟨_,hpx⟩
     ·exfalso
      rw[hSS L hy]at hS
      have:=mw hcl bit0 _ _ hpx hS
      rw[hSi]at this
      cases this
     ·simp at hpx
      exact hflag k y hy hpx
    ·obtain⟨y,hy,hgk⟩:=yes (show k<gs'.length by omega)
     obtain⟨z,hz',hgq⟩:=yes hq
     have hd':y.2.2.op.eff=true:=by simpa[jH,hgk]using hd
     have hd2':z.2.2.op.eff=true:=by simpa[jH,hgq]using hd2
     have hpx:=pW hleaf k q y z hkq hy hz'
     have hcx:iO y.2.2 z.2.2=true:=by
      cases hx:iO y.2.2 z.2.2 with
      |true=>rfl
      |false=>
       have:=(pN hx hd').1
       rw[hd2']at this;cases this
     simp only[Do,hcx,Bool.not_true,Bool.false_and,Bool.or_false]at hpx
     rw[hSS L hz']at hS
     rw[hSS L hy]
     exact mw hcl bit0 _ _ hpx hS
   obtain⟨τ,k1,k2,k3,k4⟩:=(hch p g hgp).congr (σ2:=stOf L) hfr hmm hms (xS hch (by omega)).symm
   refine M5 ho hcg k1 hsim hz fun ι' a' w' hsim' hz'=> ?_
   have hL':LL (L.setIfInBounds i true)=gh (LL L) i:=by
    funext k
    simp only[LL,gh,Array.getD_eq_getD_getElem?]
    by_cases e:k=i
    ·subst e
     simp[show k<L.size by omega]
    ·rw[if_neg e,Array.getElem?_setIfInBounds_ne (Ne.symm e)]
   have hS': ∀q,q<gs'.length→SS (L.setIfInBounds i true) q=gh (SS L) p q:=by
    intro q hq
    obtain⟨y,hy,_⟩:=yes hq
    rw[hSS _ hy,hL']
    simp only[gh]
    by_cases e:q=p
    ·subst e
     rw[hyp]at hy
     cases hy
     rw[if_pos hy1,if_pos rfl]
    ·rw[if_neg e,hSS L hy,if_neg]
     intro e2
     have h1:=hord hy
     rw[e2]at h1
     exact e (Hs hnd q p i h1 hp)
   have frS: ∀(S S':Nat→Bool) n,(∀q,q<n→S q=S' q)→mo gs' v (s 0).fr S n=mo gs' v (s 0).fr S' n:=by
    intro S S' n
    induction n with
    |zero=>intro _;rfl
    |succ n ih=>intro hq;simp only[mo];rw[ih fun q hq'=>hq q (by omega),hq n (by omega)]
   have memS: ∀(S S':Nat→Bool) n,(∀q,q<n→S q=S' q)→gS gs' s S n=gS gs' s S' n:=by
    intro S S' n
    induction n with
    |zero=>intro _;rfl
    |succ n ih=>intro hq;simp only[gS];rw[ih fun q hq'=>hq q (by omega),hq n (by omega)]
   refine ih _ ι' a' w' (by simpa using hL) ?_ hlin (by rw[hL'];exact hok) ?_ hz'
   ·intro j o hj hSj k hk
    rw[hL']at hSj ⊢
    simp only[gh]at hSj ⊢
    split
    ·rfl
    ·split at hSj
     ·rename_i e1
      subst e1
      rw[hol]at hj
      cases hj
      exact hpred k hk
     ·exact hcl j o hj hSj k hk
   ·have hfr': ∀t,aH (mo gs' v (s 0).fr (SS (L.setIfInBounds i true)) gs'.length) t=aH τ.fr t:=by
     intro t
     rw[frS _ _ _ hS',Lz hSp hpg fun hd k hlt hdk=> ?_,k2 t]
     ·have e:tQ gs' p=g.dst:=by simp[tQ,hgp]
      rw[e]
     ·have hd':g.dst=some t:=by simpa[tQ,hgp]using hd
      have hkg:k<gs'.length:=by
       unfold tQ at hdk
       cases hh:gs'[k]? with
       |none=>rw[hh]at hdk;cases hdk
       |some x=>exact(List.getElem?_eq_some_iff.1 hh).1
      obtain⟨y,hy,hgk⟩:=yes hkg
      refine after k _ hy hlt ?_
      cases hx:iO g y.2.2 with
      |true=>rfl
      |false=>exact absurd (by simpa[tQ,hgk]using hdk) (ID hx hd').2
    have hm':gS gs' s (SS (L.setIfInBounds i true)) gs'.length=(τ.mem,τ.nx):=by
     rw[memS _ _ _ hS',Iv hSp hpg fun hd k hlt hdk=> ?_,k3]
     ·have e:jH gs' p=g.op.eff:=by simp[jH,hgp]
      rw[e]
     ·have hd':g.op.eff=true:=by simpa[jH,hgp]using hd
      have hkg:k<gs'.length:=by
       unfold jH at hdk
       cases hh:gs'[k]? with
       |none=>rw[hh]at hdk;cases hdk
       |some x=>exact(List.getElem?_eq_some_iff.1 hh).1
      obtain⟨y,hy,hgk⟩:=yes hkg
      refine after k _ hy hlt ?_
      cases hx:iO g y.2.2 with
      |true=>rfl
      |false=>
       have h5:=(pN hx hd').1
       have h6:y.2.2.op.eff=true:=by simpa[jH,hgk]using hdk
       rw[h6]at h5
       cases h5
    have:=hsim'.fr (fr:=mo gs' v (s 0).fr (SS (L.setIfInBounds i true)) gs'.length) hfr'
    rw[k4]at this
    simp only[stOf,hm']at this ⊢
    exact this
 have none: ∀k,LL (Array.replicate ops.size false) k=false:=by
  intro k
  simp only[LL,Array.getD_eq_getD_getElem?,Array.getElem?_replicate]
  split<;>simp
 have noneS: ∀k,SS (Array.replicate ops.size false) k=false:=fun k=>none _
 refine main sched _ ι a w (by simp[hn]) (fun j o hj hSj=> ?_) hlin ?_ ?_ hz
 ·rw[none]at hSj;cases hSj
 ·have:LL (Array.replicate ops.size false)=fun _=>false:=funext none
  rw[this];exact hok
 ·have hfr: ∀t,aH (mo gs' v (s 0).fr (SS (Array.replicate ops.size false)) gs'.length) t=aH σ.fr t:=by
   intro t
   rw[←hs0]
   exact qn hch (i:=0) (Nat.le_refl _) (by omega) fun k hk _=>by rw[noneS k];exact⟨(fun e=>by cases e),(fun e=>by omega)⟩
  have hmm:=qb hch (S:=SS (Array.replicate ops.size false)) (i:=0) (n:=gs'.length) (Nat.le_refl _) (by omega) fun k hk _=>by rw[noneS k];exact⟨(fun e=>by cases e),(fun e=>by omega)⟩
  have:=hs.fr (fr:=mo gs' v (s 0).fr (SS (Array.replicate ops.size false)) gs'.length) hfr
  simp only[stOf,hmm]
  simp only[hs0]at this ⊢
  exact this
theorem zo {gs:List AG} {M:List (Nat×Nat)}: ∀{ord:List Nat} {prev:List (Nat×AG)} {leaf:List (Nat×Bool×AG)},I3 gs M prev ord=some leaf→leaf.map (·.1)=ord∧ ∀y∈leaf,gs[y.1]? =some y.2.2
 | [],prev,leaf,h=>by cases h;exact⟨rfl,fun y hy=>by cases hy⟩
 |k::r,prev,leaf,h=>by
  unfold I3 at h
  split at h
  ·rename_i g hg
   split at h
   ·rename_i l hl
    cases h
    obtain⟨h1,h2⟩:=zo hl
    refine⟨by rw[List.map_cons,h1],fun y hy=> ?_⟩
    rcases List.mem_cons.1 hy with rfl|hy
    ·exact hg
    ·exact h2 y hy
   ·cases h
  ·cases h
theorem uH {ops:Array Oper} {gs:List AG} {K:St→Prop} {Q:Exit→Act→World→Prop}
  (hc:gr P dr nt ops ops.toList=some gs) (hedge:vd 0 ops.toList=true) (hgc:(gs.all fun g=> !g.op.gcall)=true) (hs:bA w0 U σ ι a w) (hz:a.tmps.size=nt)
  (hq: ∀σ' ι' a' w',K σ'→bA w0 U σ' ι' a' w'→a'.tmps.size=nt→Q .normal a' w') {sched:List Nat} (hlin:Px ops sched (Array.replicate ops.size false)):
  ∀{f:Nat} {E:List (Nat×Nat)} {gss:List (List (Nat×Bool×AG))},C0 ops.toList gs f E=some gss→(∀leaf∈gss,je P (ui leaf) σ K)→TT E sched (fun _=>false)→wpOps P ops Q sched a w
 |0,E,gss,h,_,_=>by cases h
 |f+1,E,gss,h,hall,hok=>by
  unfold C0 at h
  split at h
  ·cases h
  ·rename_i ord _
   split at h
   ·cases h
   ·rename_i leaf hb
    split at h
    ·split at h
     ·rename_i hchk
      cases h
      simp only[Bool.and_eq_true,List.all_eq_true,List.mem_range]at hchk
      obtain⟨⟨⟨h1,h2⟩,h3⟩,h4⟩:=hchk
      obtain⟨k1,k2⟩:=zo hb
      exact Nq hc hedge hgc h1 k1 k2 h2 (fun i hi=>List.contains_iff_mem.1 (h3 i hi)) (hall leaf List.mem_cons_self) hs hz hq hlin hok
     ·cases h
    ·rename_i i k _
     split at h
     ·cases h
     ·rename_i hne
      split at h
      ·rename_i ga gb ha hb'
       cases h
       rcases GU hne hok with h'|h'
       ·exact uH hc hedge hgc hs hz hq hlin ha (fun leaf hl=>hall leaf (List.mem_append_left _ hl)) h'
       ·exact uH hc hedge hgc hs hz hq hlin hb' (fun leaf hl=>hall leaf (List.mem_append_right _ hl)) h'
      ·cases h
theorem MI {ops:Array Oper} {gs:List AG} {gss:List (List (Bool×AG))} {K:St→Prop} {Q:Exit→Act→World→Prop} (hc:gr P dr nt ops ops.toList=some gs) (hd:pq P ops.toList gs= .draw gss) (h:wG P gss σ K) (hs:bA w0 U σ ι a w) (hz:a.tmps.size=nt)
  (hq: ∀σ' ι' a' w',K σ'→bA w0 U σ' ι' a' w'→a'.tmps.size=nt→Q .normal a' w'): ∀t,wpOps P ops Q (Region.schedule (P.follows .mixedOrders) ops t) a {w with drawn:=w.drawn+1}:=by
 unfold pq at hd
 split at hd
 ·rename_i hcond
  simp only[Bool.and_eq_true]at hcond
  obtain⟨⟨hmix,hedge⟩,hgc⟩:=hcond
  split at hd
  ·rename_i l hl
   cases hd
   have hs':bA w0 U σ ι a {w with drawn:=w.drawn+1}:=hs.grow ⟨rfl,rfl,rfl,Nat.le_refl _,fun _ _=>rfl⟩
   intro t
   simp only[Region.schedule,hmix,Bool.true_or,if_true]
   refine uH hc hedge hgc hs' hz hq (Tk _ _ _ (by simp) ?_) hl (fun leaf hlf=>Hm h _ (List.mem_map_of_mem hlf)) NO
   have h0: ∀n,N8 (fun k=>(Array.replicate ops.size false).getD k false) n=0:=by
    intro n
    induction n with
    |zero=>rfl
    |succ n ih=>
     simp only[N8,ih]
     rw[if_neg]
     simp only[Array.getD_eq_getD_getElem?,Array.getElem?_replicate]
     split<;>simp
   rw[h0]
   omega
  ·cases hd
 ·cases hd
end
open Go.RowKit
section
variable {P : Program} {a : Act} {w w' w0 : World} {U : Gh} {ι : Pl} {σ : St} {nt : Nat} {dr : Bool}
theorem gN {ops:Array Oper} {Q:Exit→Act→World→Prop} {K:St→Prop}: ∀{l:List Oper} {gs:List AG} {σ:St} {ι:Pl} {a:Act} {w:World},gr P dr nt ops l=some gs→jq P gs σ K→bA w0 U σ ι a w→a.tmps.size=nt→
  (∀σ' ι' a' w',K σ'→bA w0 U σ' ι' a' w'→a'.tmps.size=nt→Q .normal a' w')→wpList P ops Q l a w
 |[],gs,σ,ι,a,w,hc,h,hs,hsz,hq=>by
  cases hc
  exact hq σ ι a w h hs hsz
 |o::l,gs,σ,ι,a,w,hc,h,hs,hsz,hq=>by
  unfold gr at hc
  split at hc
  ·rename_i g gs' h1 h2
   cases hc
   unfold tW at h1
   by_cases hdst:JT nt o.dst=false
   ·rw[if_pos hdst]at h1;cases h1
   ·rw[if_neg hdst]at h1
    have hd: ∀t,o.dst=some t→t<a.tmps.size:=by
     intro t ht
     rw[ht]at hdst
     have h5:t<nt:=by simpa[JT]using hdst
     rw[hsz]
     exact h5
    split at h1
    ·rename_i ao hao
     have run: ∀{K':AV→St→Prop},bn P ao σ K'→(∀v σ',K' v σ'→jq P gs' (σ'.put o.dst v) K)→o.wp P a w (wpList P ops Q l) Q:=by
      intro K' hop hk
      refine Ls hao hop hs ?_
      intro v σ' ι' u w' hv hs' hr
      exact gN h2 (hk v σ' hv) (hs'.put hd hr) (by rw[pP];exact hsz) hq
     have skip:jq P gs' (σ.put o.dst (.tup [])) K→wpList P ops Q l (a.put o.dst undef) w:=fun hk=>
      gN h2 hk (hs.put hd iN) (by rw[pP];exact hsz) hq
     unfold wpList
     split at h1
     ·rename_i hgd
      cases h1
      simp only[jq]at h
      rw[if_pos (by simp[Region.wanted,hgd])]
      exact .inl (run h fun _ _ h=>h)
     ·rename_i j want hgd
      split at h1
      ·rename_i t ht
       cases h1
       simp only[jq]at h
       have hval:=hs.val t
       split at h
       ·rename_i b e
        rw[e]at hval
        have hb:=tS (bb hval).1 (by intro e;cases e)
        have hy:yielded ops a.tmps j=some b:=by simp[yielded,ht,hb]
        by_cases hbw:b=want
        ·rw[if_pos (by simp[Region.wanted,hgd,hy,hbw])]
         exact .inl (run (h.1 (by simp[hbw])) fun _ _ h=>h)
        ·rw[if_neg (by simp[Region.wanted,hgd,hy,hbw])]
         exact skip (h.2 (by simp[hbw]))
       ·rename_i e
        rw[e]at hval
        have hu:a.tmps.getD t undef=undef:=by
         generalize a.tmps.getD t undef=z at hval
         cases hval with
         | @tup _ vs hl _=>
          have:vs= #[]:=Array.eq_empty_of_size_eq_zero (by simpa using hl.symm)
          rw[this]
          rfl
        have hy:yielded ops a.tmps j=none:=by
         unfold yielded
         simp only[ht,Option.bind_some]
         simp only[Array.getD_eq_getD_getElem?]at hu
         cases e':a.tmps[t]? with
         |none=>rfl
         |some z=>
          rw[e']at hu
          simp at hu
          subst hu
          rfl
        rw[if_neg (by simp[Region.wanted,hgd,hy])]
        exact skip h
       ·exact h.elim
      ·cases h1
    ·cases h1
  ·cases hc
end
section
variable {P : Program}
theorem fh {ops:List Oper} {gs:List AG}:(∃gss,pq P ops gs= .draw gss)∨pq P ops gs= .region gs true:=by
 unfold pq
 split
 ·split
  ·exact .inl ⟨_,rfl⟩
  ·exact .inr rfl
 ·exact .inr rfl
theorem gA {dr:Bool} {ops:List Oper} {gs:List AG}:(∃x,mq P dr ops gs= .draw x)∨(∃x,mq P dr ops gs= .region gs x):=by
 unfold mq
 split
 ·rcases fh (P:=P) (ops:=ops) (gs:=gs)with⟨x,e⟩|e
  ·exact .inl ⟨x,e⟩
  ·exact .inr ⟨true,e⟩
 ·exact .inr ⟨false,rfl⟩
@[simp] theorem Xi {dr:Bool} {ops:List Oper} {gs:List AG}:(mq P dr ops gs= .skip)=False:=eq_false fun h=>by
 rcases gA (P:=P) (dr:=dr) (ops:=ops) (gs:=gs)with⟨x,e⟩|⟨x,e⟩<;>rw[e]at h<;>cases h
@[simp] theorem XP {dr:Bool} {ops:List Oper} {gs:List AG}:(mq P dr ops gs= .ret)=False:=eq_false fun h=>by
 rcases gA (P:=P) (dr:=dr) (ops:=ops) (gs:=gs)with⟨x,e⟩|⟨x,e⟩<;>rw[e]at h<;>cases h
@[simp] theorem Xh {dr:Bool} {ops:List Oper} {gs:List AG} {i:Nat}:(mq P dr ops gs= .exit i)=False:=eq_false fun h=>by
 rcases gA (P:=P) (dr:=dr) (ops:=ops) (gs:=gs)with⟨x,e⟩|⟨x,e⟩<;>rw[e]at h<;>cases h
@[simp] theorem XM {dr:Bool} {ops:List Oper} {gs:List AG} {x y:ai}:(mq P dr ops gs= .seq x y)=False:=eq_false fun h=>by
 rcases gA (P:=P) (dr:=dr) (ops:=ops) (gs:=gs)with⟨x,e⟩|⟨x,e⟩<;>rw[e]at h<;>cases h
@[simp] theorem Xk {dr:Bool} {ops:List Oper} {gs:List AG} {c:AX} {x y:ai}:(mq P dr ops gs= .cond c x y)=False:=eq_false fun h=>by
 rcases gA (P:=P) (dr:=dr) (ops:=ops) (gs:=gs)with⟨x,e⟩|⟨x,e⟩<;>rw[e]at h<;>cases h
@[simp] theorem WO {dr:Bool} {ops:List Oper} {gs:List AG} {i:Nat} {x:ai}:(mq P dr ops gs= .block i x)=False:=eq_false fun h=>by
 rcases gA (P:=P) (dr:=dr) (ops:=ops) (gs:=gs)with⟨x,e⟩|⟨x,e⟩<;>rw[e]at h<;>cases h
@[simp] theorem Xg {dr:Bool} {ops:List Oper} {gs:List AG} {x:ai}:(mq P dr ops gs= .loop x)=False:=eq_false fun h=>by
 rcases gA (P:=P) (dr:=dr) (ops:=ops) (gs:=gs)with⟨x,e⟩|⟨x,e⟩<;>rw[e]at h<;>cases h
@[simp] theorem Vu {dr:Bool} {ops:List Oper} {gs:List AG} {f:AX} {ps:List Nat} {x y:ai}:(mq P dr ops gs= .rangeF f ps x y)=False:=eq_false fun h=>by
 rcases gA (P:=P) (dr:=dr) (ops:=ops) (gs:=gs)with⟨x,e⟩|⟨x,e⟩<;>rw[e]at h<;>cases h
end
inductive be where
 |normal
 |exit (id:Nat)
 |ret
def jv:be→Exit
 | .normal=> .normal
 | .exit id=> .exit id
 | .ret=> .ret
def FR (rd:Option Nat):Fence:={Fence.wide with round:=rd}
def sh (ds:List Deferred) (a:Act):Act:={a with defers:=a.defers++ds}
def Lf (ds:List Deferred) (K:Act→World→Prop):Act→World→Prop:=fun a' w'=> ∃a0,a'=sh ds a0∧K a0 w'
def YG (ds:List Deferred) (Q:Exit→Act→World→Prop):Exit→Act→World→Prop:=fun e a' w'=> ∃a0,a'=sh ds a0∧Q e a0 w'
theorem xf {ds:List Deferred} {a:Act} {d:Option Tmp} {v:Value}:(sh ds a).put d v=sh ds (a.put d v):=by cases d<;>rfl
theorem rf {ds:List Deferred} {a:Act}:(sh ds a).eval=a.eval:=by
 funext x
 cases x<;>rfl
theorem CI {P:Program} {rd:Option Nat} {n:Nat} {f:FuncId} {args:Array Value} {w:World} {R:Ending→World→Prop} (h:Calls P f args w R):CallsIn (FR rd) n P f args w R:=
 (callsIn_wide (n:=n)).2 h
theorem V3 {P:Program} {rd:Option Nat} {n:Nat} {row:String} {args:Array Value} {w:World} {R:Value→World→Prop} (h:Rows P row args w R):RowsIn (FR rd) n P row args w R:=by
 intro c cs _
 obtain⟨v,w',hr,hs⟩:=h c cs
 exact⟨v,w',hr,stepsIn_wide.2 hs⟩
theorem Vd {P:Program} {rd:Option Nat} {ds:List Deferred} {n:Nat} {o:Oper} {a:Act} {w:World} {next:Act→World→Prop} {Q:Exit→Act→World→Prop}
  (hd: ∀c,o.op≠ .defer c) (hl: ¬LetsOut Q) (h:o.wp P a w next Q):o.wpIn (FR rd) n P (sh ds a) w (Lf ds next) (YG ds Q):=by
 refine⟨fun _ _=>trivial, ?_⟩
 rw[Oper.semAt_eq _ _ _ hd,rf]
 unfold Oper.wp at h
 generalize (execOp a.eval o).run P w=r at h
 cases r with
 |ok nx w'=>
  cases nx<;>simp only[Oper.upon,Oper.uponIn]at h ⊢
  case value v=>exact⟨_,xf,h⟩
  case skip=>exact⟨_,xf,h⟩
  case defer d=>
   refine⟨{a with defers:=d::a.defers}.put o.dst undef, ?_,h⟩
   cases o.dst<;>rfl
  case enter f args=>
   refine⟨by simp[FR,Fence.wide],CI (h.mono fun e w'' h=> ?_)⟩
   cases e with
   |returned v=>exact⟨_,xf,h⟩
   |panicked ch=>exact⟨_,rfl,h⟩
   |outgrown=>exact absurd h hl
  case row row args=>
   exact⟨by simp[FR,Fence.wide],V3 (h.mono fun v w'' h=>⟨_,xf,h⟩)⟩
 |halt hh w'=>
  cases hh<;>simp only[Oper.upon,Oper.uponIn]at h ⊢
  case panic v=>exact⟨_,rfl,h⟩
theorem EI {P:Program} {dr:Bool} {nt:Nat} {ops:Array Oper} {o:Oper} {g:AG} (h:tW P dr nt ops o=some g): ∀c,o.op≠ .defer c:=by
 intro c e
 unfold tW at h
 rw[e]at h
 split at h
 ·cases h
 ·simp[bM]at h
theorem fw {P:Program} {dr:Bool} {nt:Nat} {ops:Array Oper}: ∀{l:List Oper} {gs:List AG},gr P dr nt ops l=some gs→ ∀o∈l,∀c,o.op≠ .defer c
 | [],_,_,o,ho=>by cases ho
 |x::l,gs,h,o,ho=>by
  unfold gr at h
  split at h
  ·rename_i g gs' h1 h2
   rcases List.mem_cons.1 ho with rfl|ho
   ·exact EI h1
   ·exact fw h2 o ho
  ·cases h
theorem l9 {P:Program} {rd:Option Nat} {ds:List Deferred} {n:Nat} {ops:Array Oper} {Q:Exit→Act→World→Prop} (hl: ¬LetsOut Q): ∀{l:List Oper} {a:Act} {w:World},(∀o∈l,∀c,o.op≠ .defer c)→
  wpList P ops Q l a w→wpListIn (FR rd) n P ops (YG ds Q) l (sh ds a) w
 | [],a,w,_,h=>⟨a,rfl,h⟩
 |o::l,a,w,hd,h=>by
  unfold wpList at h
  unfold wpListIn
  by_cases hw:Region.wanted o (yielded ops a.tmps)=true
  ·rw[if_pos hw]at h
   have hw':Region.wanted o (yielded ops (sh ds a).tmps)=true:=hw
   rw[if_pos hw']
   rcases h with h|⟨_,h⟩
   ·have:=Vd (rd:=rd) (ds:=ds) (n:=n) (hd o List.mem_cons_self) hl h
    refine Oper.wpIn_mono (fun a' w' ⟨a0,e,hk⟩=> ?_) this
    subst e
    exact l9 hl (fun o ho=>hd o (List.mem_cons_of_mem _ ho)) hk
   ·exact absurd h hl
  ·rw[if_neg hw]at h
   have hw': ¬Region.wanted o (yielded ops (sh ds a).tmps)=true:=hw
   rw[if_neg hw',xf]
   exact⟨fun _ _=>trivial,l9 hl (fun o ho=>hd o (List.mem_cons_of_mem _ ho)) h⟩
theorem Jc {P:Program} {rd:Option Nat} {ds:List Deferred} {n:Nat} {ops:Array Oper} {Q:Exit→Act→World→Prop} (hl: ¬LetsOut Q) (hd: ∀o∈ops.toList,∀c,o.op≠ .defer c): ∀{l:List Nat} {a:Act} {w:World},
  wpOps P ops Q l a w→wpOpsIn (FR rd) n P ops (YG ds Q) l (sh ds a) w
 | [],a,w,h=>⟨a,rfl,h⟩
 |i::l,a,w,h=>by
  unfold wpOps at h
  unfold wpOpsIn
  cases ho:ops[i]? with
  |none=>
   rw[ho]at h
   exact Jc hl hd h
  |some o=>
   rw[ho]at h
   have hm:o∈ops.toList:=Array.mem_toList_iff.2 (Array.mem_of_getElem? ho)
   dsimp only at h ⊢
   by_cases hw:Region.wanted o (yielded ops a.tmps)=true
   ·rw[if_pos hw]at h
    have hw':Region.wanted o (yielded ops (sh ds a).tmps)=true:=hw
    rw[if_pos hw']
    rcases h with h|⟨_,h⟩
    ·have:=Vd (rd:=rd) (ds:=ds) (n:=n) (hd o hm) hl h
     refine Oper.wpIn_mono (fun a' w' ⟨a0,e,hk⟩=> ?_) this
     subst e
     exact Jc hl hd hk
    ·exact absurd h hl
   ·rw[if_neg hw]at h
    have hw': ¬Region.wanted o (yielded ops (sh ds a).tmps)=true:=hw
    rw[if_neg hw',xf]
    exact⟨fun _ _=>trivial,Jc hl hd h⟩
def QR (U:Gh) (rd:Option Nat):Prop:= ∀l,rd=some l→ ∀w V,U.G w V→ ∃r,w.heap[l]? =some (.loop r)
inductive J2 (B:Nat) (rd:Option Nat) (U:Gh) (ds:List Deferred):Gh→List Deferred→Prop
 |refl:J2 B rd U ds U ds
 |mark {U' U'':Gh} {ds':List Deferred} {D:Nat} (h:J2 B rd U ds U' ds') (hr:rd=none) (hD:B≤D) (hp:U''.p=U'.p) (hi:U''.ι0=U'.ι0)
   (hG: ∀w V,U''.G w V→U'.G w V∧V D∧w.heap[D]? =some (.deferred (some []))∧U'.G (w.putObj D (.deferred none)) V):J2 B rd U ds U'' ({target:= .collected D,args:= #[]}::ds')
theorem J2.trans {B:Nat} {rd:Option Nat} {U U' U'':Gh} {ds ds' ds'':List Deferred} (h:J2 B rd U ds U' ds') (h':J2 B rd U' ds' U'' ds''):J2 B rd U ds U'' ds'':=by
 induction h' with
 |refl=>exact h
 |mark _ hr hD hp hi hG ih=>exact .mark ih hr hD hp hi hG
theorem J2.le {B:Nat} {rd:Option Nat} {U U':Gh} {ds ds':List Deferred} (h:J2 B rd U ds U' ds'):U'.p=U.p∧U'.ι0=U.ι0∧ ∀w V,U'.G w V→U.G w V:=by
 induction h with
 |refl=>exact⟨rfl,rfl,fun _ _ h=>h⟩
 |mark _ _ _ hp hi hG ih=>exact⟨hp.trans ih.1,hi.trans ih.2.1,fun w V h=>ih.2.2 w V (hG w V h).1⟩
theorem J2.inRound {B l:Nat} {U U':Gh} {ds ds':List Deferred} (h:J2 B (some l) U ds U' ds'):U'=U∧ds'=ds:=by
 cases h with
 |refl=>exact⟨rfl,rfl⟩
 |mark _ hr=>cases hr
theorem QR.ext {B:Nat} {rd:Option Nat} {U U':Gh} {ds ds':List Deferred} (hr:QR U rd) (h:J2 B rd U ds U' ds'):QR U' rd:=fun l e w V hg=>hr l e w V (h.le.2.2 w V hg)
def xH (w0:World) (U:Gh) (rd:Option Nat) (ds:List Deferred) (nt:Nat) (Q:be→St→Prop):Exit→Act→World→Prop:=fun e a w=>
 ∃e' σ ι U' ds' a0,e=jv e'∧Q e' σ∧bA w0 U' σ ι a0 w∧a0.tmps.size=nt∧a=sh ds' a0∧J2 w0.heap.size rd U ds U' ds'
theorem xH.ext {w0:World} {U U':Gh} {rd:Option Nat} {ds ds':List Deferred} {nt:Nat} {Q:be→St→Prop} {e:Exit} {a:Act} {w:World} (h:xH w0 U' rd ds' nt Q e a w) (hx:J2 w0.heap.size rd U ds U' ds'):xH w0 U rd ds nt Q e a w:=by
 obtain⟨e',σ,ι,U2,ds2,a0,h1,h2,h3,h4,h5,h6⟩:=h
 exact⟨e',σ,ι,U2,ds2,a0,h1,h2,h3,h4,h5,hx.trans h6⟩
theorem xH.here {w0:World} {U:Gh} {rd:Option Nat} {ds:List Deferred} {nt:Nat} {Q:be→St→Prop} {e':be} {σ:St} {ι:Pl} {a:Act} {w:World} (hq:Q e' σ) (hs:bA w0 U σ ι a w) (hz:a.tmps.size=nt):xH w0 U rd ds nt Q (jv e') (sh ds a) w:=
 ⟨e',σ,ι,U,ds,a,rfl,hq,hs,hz,rfl,.refl⟩
def AW (P:Program) (nt:Nat) (c:ai) (σ:St) (Q:be→St→Prop):Prop:=
 ∀(c':Code),cG P nt c'=some c→ ∀w0 U rd ds ι a w,QR U rd→bA w0 U σ ι a w→a.tmps.size=nt→c'.wpIn (FR rd) 0 P (xH w0 U rd ds nt Q) (sh ds a) w
def VQ (P:Program) (nt:Nat) (b:ai) (Q:be→St→Prop):be→St→Prop
 | .normal,σ=>AW P nt b σ Q
 | .exit i,σ=>Q (.exit i) σ
 | .ret,σ=>Q .ret σ
def ND (id:Nat) (Q:be→St→Prop):be→St→Prop
 | .normal,σ=>Q .normal σ
 | .exit i,σ=>if i=id then Q .normal σ else Q (.exit i) σ
 | .ret,σ=>Q .ret σ
section
variable {P : Program} {nt : Nat} {σ : St} {Q Q' : be → St → Prop}
theorem AW.mono {c:ai} (h:AW P nt c σ Q) (hq: ∀e σ,Q e σ→Q' e σ):AW P nt c σ Q':=
 fun c' hc w0 U rd ds ι a w hr hs hz=>wpIn_mono (h c' hc w0 U rd ds ι a w hr hs hz) fun e a w ⟨e',σ',ι',U',ds',a0,h1,h2,h3⟩=>⟨e',σ',ι',U',ds',a0,h1,hq _ _ h2,h3⟩
theorem mh (h:Q .normal σ):AW P nt .skip σ Q:=by
 intro c' hc w0 U rd ds ι a w hrd hs hz
 cases c'<;>simp[cG]at hc
 ·exact wpIn_skip (xH.here (e':= .normal) h hs hz)
 all_goals(try(split at hc<;>simp at hc))
theorem oS (h:Q .ret σ):AW P nt .ret σ Q:=by
 intro c' hc w0 U rd ds ι a w hrd hs hz
 cases c'<;>simp[cG]at hc
 all_goals(try(split at hc<;>simp at hc))
 exact wpIn_ret (xH.here (e':= .ret) h hs hz)
theorem OU {id:Nat} (h:Q (.exit id) σ):AW P nt (.exit id) σ Q:=by
 intro c' hc w0 U rd ds ι a w hrd hs hz
 cases c'<;>simp[cG]at hc
 all_goals(try(split at hc<;>simp at hc))
 subst hc
 exact wpIn_exit (xH.here (e':= .exit _) h hs hz)
theorem bO {x y:ai} (h:AW P nt x σ (VQ P nt y Q)):AW P nt (.seq x y) σ Q:=by
 intro c' hc w0 U rd ds ι a w hrd hs hz
 cases c'<;>simp[cG]at hc
 all_goals(try(split at hc<;>simp at hc))
 rename_i b1 b2 c1 c2 h1 h2
 obtain⟨rfl,rfl⟩:=hc
 refine wpIn_seq (wpIn_mono (h _ h1 w0 U rd ds ι a w hrd hs hz) ?_)
 rintro e a1 w1 ⟨e',σ',ι',U',ds',a0,rfl,hq,hs',hsz,rfl,hx⟩
 cases e' with
 |normal=>exact wpIn_mono (hq _ h2 w0 U' rd ds' ι' a0 w1 (hrd.ext hx) hs' hsz) fun e a w h=>h.ext hx
 |exit id=>exact⟨.exit id,σ',ι',U',ds',a0,rfl,hq,hs',hsz,rfl,hx⟩
 |ret=>exact⟨.ret,σ',ι',U',ds',a0,rfl,hq,hs',hsz,rfl,hx⟩
theorem tT {x:ai} {id:Nat} (h:AW P nt x σ (ND id Q)):AW P nt (.block id x) σ Q:=by
 intro c' hc w0 U rd ds ι a w hrd hs hz
 cases c'<;>simp[cG]at hc
 all_goals(try(split at hc<;>simp at hc))
 rename_i i1 c1
 obtain⟨rfl,h1⟩:i1=id∧cG P nt c1=some x:=by simp_all
 refine wpIn_block (wpIn_mono (h _ h1 w0 U rd ds ι a w hrd hs hz) ?_)
 rintro e a1 w1 ⟨e',σ',ι',U',ds',a0,rfl,hq,hs',hsz,rfl,hx⟩
 cases e' with
 |normal=>exact⟨.normal,σ',ι',U',ds',a0,rfl,hq,hs',hsz,rfl,hx⟩
 |exit i=>
  simp only[ND]at hq
  by_cases hi:i=i1
  ·rw[if_pos hi]at hq
   simp only[jv,Exit.inBlock,if_pos hi]
   exact⟨.normal,σ',ι',U',ds',a0,rfl,hq,hs',hsz,rfl,hx⟩
  ·rw[if_neg hi]at hq
   simp only[jv,Exit.inBlock,if_neg hi]
   exact⟨.exit i,σ',ι',U',ds',a0,rfl,hq,hs',hsz,rfl,hx⟩
 |ret=>exact⟨.ret,σ',ι',U',ds',a0,rfl,hq,hs',hsz,rfl,hx⟩
theorem fb {c:AX} {x y:ai} {t:Bool} (hc:c.ev σ.fr= .c (.pure (.val (.bool t)))) (h1:t=true→AW P nt x σ Q) (h2:t=false→AW P nt y σ Q):AW P nt (.cond c x y) σ Q:=by
 intro c' hc' w0 U rd ds ι a w hrd hs hz
 cases c'<;>simp[cG]at hc'
 all_goals(try(split at hc'<;>simp at hc'))
 rename_i o b1 b2 _ _ _ x1 x2 x3 g1 g2 g3
 obtain⟨rfl,rfl,rfl⟩:=hc'
 have r1:=au g1 hs
 rw[hc]at r1
 have ho:=(bb r1).1
 have ho':(sh ds a).eval o= .bool t:=by rw[rf];exact ho
 cases t with
 |true=>exact wpIn_cond_true ho' (h1 rfl _ g2 w0 U rd ds ι a w hrd hs hz)
 |false=>exact wpIn_cond_false ho' (h2 rfl _ g3 w0 U rd ds ι a w hrd hs hz)
theorem ON {w0:World} {U:Gh} {rd:Option Nat} {ds:List Deferred}: ∀e a w,YG ds (fun e a w=> ∃σ ι,e= .normal∧Q .normal σ∧bA w0 U σ ι a w∧a.tmps.size=nt) e a w→xH w0 U rd ds nt Q e a w:=by
 rintro e a w ⟨a0,rfl,σ,ι,rfl,hq,hs,hz⟩
 exact xH.here (e':= .normal) hq hs hz
theorem kU {w0:World} {U:Gh}: ¬LetsOut (fun e a w=> ∃σ ι,e= .normal∧Q .normal σ∧bA w0 U σ ι a w∧a.tmps.size=nt):=by
 rintro⟨_,_,_,_,h,_⟩
 cases h
theorem zI {gs:List AG} (h:jq P gs σ (Q .normal)):AW P nt (.region gs false) σ Q:=by
 intro c' hc w0 U rd ds ι a w hrd hs hz
 cases c'<;>simp[cG]at hc
 all_goals(try(split at hc<;>simp at hc))
 rename_i id ops dr
 obtain⟨g1,h1,hg⟩:=hc
 cases dr with
 |false=>
  simp[mq]at hg
  subst hg
  refine wpIn_mono (wpIn_region_list (l9 (ds:=ds) kU (fw h1) (gN h1 h hs hz fun σ' ι' a' w' hq hs' hz'=>⟨σ',ι',rfl,hq,hs',hz'⟩))) ON
 |true=>
  simp only[mq,if_true]at hg
  rcases fh (P:=P) (ops:=ops.toList) (gs:=g1)with⟨x,e⟩|e<;>rw[e]at hg<;>simp at hg
theorem Ow {gss:List (List (Bool×AG))} (h:wG P gss σ (Q .normal)):AW P nt (.draw gss) σ Q:=by
 intro c' hc w0 U rd ds ι a w hrd hs hz
 cases c'<;>simp[cG]at hc
 all_goals(try(split at hc<;>simp at hc))
 rename_i id ops dr
 obtain⟨g1,h1,hg⟩:=hc
 cases dr with
 |false=>simp[mq]at hg
 |true=>
  simp only[mq,if_true]at hg
  refine wpIn_mono (wpIn_region_draw fun t=>Jc (ds:=ds) kU (fw h1) (MI h1 hg h hs hz (fun σ' ι' a' w' hq hs' hz'=>⟨σ',ι',rfl,hq,hs',hz'⟩) t)) ON
end
open Go.RowKit
def gR (N:Nat):AC→Prop
 | .ptr nm _=>nm<N
 | .eptr nm _ _ _=>nm<N
 | .ref nm=>nm<N
 | .mref nm=>nm<N
 | .clo _ caps=>go caps
 |_=>True
where go:List AC→Prop
 | []=>True
 | .ptr nm _::r=>nm<N∧go r
 | .mref nm::r=>nm<N∧go r
 | .ref nm::r=>nm<N∧go r
 | .pure _::r=>go r
 | .cptr _::r=>go r
 | .nils::r=>go r
 | .tsl _::r=>go r
 | .top::r=>go r
 |_::_=>False
def cp (N:Nat):List AC→Prop
 | []=>True
 |x::r=>gR N x∧cp N r
def i6 (N:Nat):AV→Prop
 | .c x=>gR N x
 | .agg xs=>cp N xs
 | .tup []=>True
 | .tup _=>False
 | .top=>True
def Pa (N:Nat):List (MK×List AC)→Prop
 | []=>True
 |x::r=>cp N x.2∧Pa N r
def Kp (N:Nat):List (List AC)→Prop
 | []=>True
 |x::r=>cp N x∧Kp N r
def Xj (N:Nat):aS→Prop
 | .var xs=>cp N xs
 | .map _ _ ents=>Pa N ents
 | .arn _ _ rows=>Kp N rows
 |_=>True
def rn:List (Nat×Nat)→Nat→Nat
 | [],n=>n
 |(a,b)::r,n=>if a=n then b else rn r n
def df (l:List (Nat×Nat)):AC→AC
 | .ptr nm off=> .ptr (rn l nm) off
 | .mref nm=> .mref (rn l nm)
 | .ref nm=> .ref (rn l nm)
 |x=>x
def b8 (l:List (Nat×Nat)):AC→AC
 | .ptr nm off=> .ptr (rn l nm) off
 | .eptr nm sz row off=> .eptr (rn l nm) sz row off
 | .ref nm=> .ref (rn l nm)
 | .mref nm=> .mref (rn l nm)
 | .clo f caps=> .clo f (caps.map (df l))
 |x=>x
def cZ (l:List (Nat×Nat)):AV→AV
 | .c x=> .c (b8 l x)
 | .agg xs=> .agg (xs.map (b8 l))
 |x=>x
def Ph (l:List (Nat×Nat)):aS→aS
 | .var xs=> .var (xs.map (b8 l))
 | .map kt n ents=> .map kt n (ents.map fun x=>(x.1,x.2.map (b8 l)))
 | .arn e sz rows=> .arn e sz (rows.map fun r=>r.map (b8 l))
 |b=>b
def ia (l:List (Nat×Nat)) (fr:List (Nat×AV)) (N:Nat):List (Nat×AV)→Prop
 | []=>True
 |(t,v)::r=>(aH fr t=cZ l v∨v= .top)∧i6 N v∧ia l fr N r
def jo (n:Nat):List Nat→Prop
 | []=>True
 |m::r=>n≠m∧jo n r
def Sn (l:List (Nat×Nat)) (mem:List (Nat×aS)) (N:Nat):List Nat→List (Nat×aS)→Prop
 |_, []=>True
 |seen,(nm,b)::r=>ak mem (rn l nm)=some (Ph l b)∧nm<N∧Xj N b∧jo (rn l nm) seen∧Sn l mem N (rn l nm::seen) r
def qS (N:Nat):List (Nat×Nat)→Prop
 | []=>True
 |(a,_)::r=>N≤a∧qS N r
theorem MO {N:Nat}: ∀{l:List (Nat×Nat)},qS N l→ ∀{n:Nat},n<N→rn l n=n
 | [],_,n,_=>rfl
 |(a,b)::r,h,n,hn=>by
  simp only[rn]
  rw[if_neg (by have:=h.1;omega)]
  exact MO h.2 hn
def Wk (l:List (Nat×Nat)) (σ σ':St):Prop:=ia l σ.fr σ'.nx σ'.fr∧Sn l σ.mem σ'.nx [] σ'.mem∧σ'.base=σ.base∧σ.base≤σ'.nx∧qS σ.base l
section
variable {P : Program} {a : Act} {w w' w0 : World} {U : Gh} {ι : Pl} {σ σ' : St} {nt : Nat}
theorem bL.cl {V V':Nat→Prop} {N N':Nat} {x:AC} {v:Value} {l:List (Nat×Nat)} (h:bL w V ι N (b8 l x) v) (hV: ∀b,V b→V' b) (hc:gR N' x):bL w V' (fun n=>ι (rn l n)) N' x v:=by
 have hp: ∀{p:PC} {v:Value},bZ w V p v→bZ w V' p v:=fun h=>h.mono (fun b _ h=>hV b h) (fun _ _ _=>rfl)
 have hcp: ∀{cells:List PC} {v:Value},bL w V ι N (.cptr cells) v→bL w V' (fun n=>ι (rn l n)) N' (.cptr cells) v:=by
  intro cells v h
  cases h with
  |cptr g hc=>
   refine .cptr g fun j p hj=> ?_
   obtain⟨h1,h2,h3⟩:=hc j p hj
   exact⟨hV _ h1,h2,hp h3⟩
 cases x with
 |pure p=>cases h with|pure h=>exact .pure (hp h)
 |nils=>cases h;exact .nils
 |tsl rows=>cases h with|tsl h=>exact .tsl (hp h)
 |ptr nm off=>cases h with|ptr hn h=>exact .ptr hc h
 |eptr nm sz row off=>cases h with|eptr hn h=>exact .eptr hc h
 |cptr cells=>exact hcp h
 |ref nm=>
  have e:v=ι (rn l nm):=by cases h;rfl
  subst e
  cases h with
  |ref hn h=>exact .ref (ι:=fun n=>ι (rn l n)) hc h
 |mref nm=>cases h with|mref hn h=>exact .mref hc h
 |top=>cases h with|top h=>exact .top h
 |clo f caps=>
  cases h with
  | @clo _ _ vs hl h=>
   refine .clo (by simpa using hl) fun i x hi=> ?_
   have key: ∀(l:List AC),gR.go N' l→ ∀(i:Nat) x,l[i]? =some x→(∀nm off,x= .ptr nm off→nm<N')∧(∀nm sz row off,x≠ .eptr nm sz row off)∧(∀nm,x= .ref nm→nm<N')∧(∀f cs,x≠ .clo f cs)∧(∀nm,x= .mref nm→nm<N'):=by
    intro l
    induction l with
    |nil=>intro _ i x hi;simp at hi
    |cons y ys ih=>
     intro hg i x hi
     cases i with
     |zero=>
      simp at hi
      subst hi
      cases y<;>simp_all [gR.go]
     |succ i=>
      simp at hi
      refine ih ?_ i x hi
      cases y<;>simp_all [gR.go]
   obtain⟨k1,k2,k3,k4,k5⟩:=key caps hc i x hi
   have hx:=h i (df l x) (by rw[List.getElem?_map,hi];rfl)
   generalize vs.toList[i]?.getD undef=z at hx ⊢
   cases x with
   |pure p=>cases hx with|pure h=>exact .pure (hp h)
   |nils=>cases hx;exact .nils
   |tsl rows=>cases hx with|tsl h=>exact .tsl (hp h)
   |ptr nm off=>cases hx with|ptr hn h=>exact .ptr (k1 _ _ rfl) h
   |eptr=>exact absurd rfl (k2 _ _ _ _)
   |cptr cells=>exact hcp hx
   |ref nm=>
    have e:z=ι (rn l nm):=by cases hx;rfl
    subst e
    cases hx with
    |ref hn h=>exact .ref (ι:=fun n=>ι (rn l n)) (k3 _ rfl) h
   |mref nm=>cases hx with|mref hn h=>exact .mref (k5 _ rfl) h
   |top=>cases hx with|top h=>exact .top h
   |clo=>exact absurd rfl (k4 _ _)
theorem IL {V V':Nat→Prop} {N N':Nat} {l:List (Nat×Nat)}: ∀{xs:List AC} {vs:List Value},aJ (bL w V ι N) (xs.map (b8 l)) vs→(∀b,V b→V' b)→cp N' xs→aJ (bL w V' (fun n=>ι (rn l n)) N') xs vs
 | [],vs,h,hV,hc=>by cases h;exact .nil
 |x::xs,vs,h,hV,hc=>by
  cases h with
  |cons h1 h2=>exact .cons (h1.cl hV hc.1) (IL h2 hV hc.2)
theorem aM.cl {V V':Nat→Prop} {N N':Nat} {x:AV} {v:Value} {l:List (Nat×Nat)} (h:aM w V ι N (cZ l x) v) (hV: ∀b,V b→V' b) (hc:i6 N' x):aM w V' (fun n=>ι (rn l n)) N' x v:=by
 cases x with
 |c x=>cases h with|c h=>exact .c (h.cl hV hc)
 |agg xs=>cases h with|agg h=>exact .agg (IL h hV hc)
 |tup xs=>
  cases xs with
  |nil=>cases h with|tup hl h=>exact .tup hl (by simp)
  |cons=>exact hc.elim
 |top=>exact .top
theorem IC {n:Nat}: ∀{l:List Nat},jo n l→ ¬n∈l
 | [],_=>by simp
 |m::r,h=>by
  intro hm
  rcases List.mem_cons.1 hm with e|e
  ·exact h.1 e
  ·exact IC h.2 e
theorem QD {l:List (Nat×Nat)} {n:Option Nat} {ps:List AC}:eV n (ps.map (b8 l))=cZ l (eV n ps):=by
 cases n with
 |none=>cases ps<;>rfl
 |some k=>rfl
theorem Uw {N:Nat} {n:Option Nat} {ps:List AC} (h:cp N ps):i6 N (eV n ps):=by
 cases n with
 |none=>
  cases ps with
  |nil=>exact trivial
  |cons p r=>exact h.1
 |some k=>exact h
theorem Oz {V V':Nat→Prop} {N N':Nat} {l:List (Nat×Nat)} {kt:KT} {n:Option Nat}: ∀{xs:List (MK×List AC)} {es:List MapEntry},aJ (jw w V ι N kt n) (xs.map fun x=>(x.1,x.2.map (b8 l))) es→(∀b,V b→V' b)→Pa N' xs→
  aJ (jw w V' (fun n=>ι (rn l n)) N' kt n) xs es
 | [],es,h,hV,hc=>by cases h;exact .nil
 |x::xs,es,h,hV,hc=>by
  cases h with
  |cons h1 h2=>
   refine .cons ⟨h1.1, ?_⟩ (Oz h2 hV hc.2)
   have h3:aM _ _ _ _ (eV n (List.map _ _)) _:=h1.2
   rw[QD]at h3
   exact h3.cl hV (Uw hc.1)
theorem nu {l:List (Nat×Nat)} {mem mem':List (Nat×aS)} {N:Nat}: ∀{seen:List Nat},Sn l mem N seen mem'→ ∀{nm:Nat} {b:aS},ak mem' nm=some b→ak mem (rn l nm)=some (Ph l b)∧nm<N∧Xj N b∧ ¬rn l nm∈seen:=by
 induction mem' with
 |nil=>intro seen h nm b hf;cases hf
 |cons x r ih=>
  obtain⟨k,c⟩:=x
  intro seen h nm b hf
  obtain⟨h1,h2,h3,h4,h5⟩:=h
  rw[bP]at hf
  by_cases e:k=nm
  ·subst e
   rw[if_pos rfl]at hf
   cases hf
   exact⟨h1,h2,h3,IC h4⟩
  ·rw[if_neg e]at hf
   obtain⟨g1,g2,g3,g4⟩:=ih h5 hf
   exact⟨g1,g2,g3,fun hm=>g4 (List.mem_cons_of_mem _ hm)⟩
theorem U4 {l:List (Nat×Nat)} {mem mem':List (Nat×aS)} {N:Nat}: ∀{seen:List Nat},Sn l mem N seen mem'→ ∀{nm nm':Nat} {b b':aS},ak mem' nm=some b→ak mem' nm'=some b'→rn l nm=rn l nm'→nm=nm':=by
 induction mem' with
 |nil=>intro seen h nm nm' b b' hf;cases hf
 |cons x r ih=>
  obtain⟨k,c⟩:=x
  intro seen h nm nm' b b' h1 h2 he
  have h5:=h.2.2.2.2
  rw[bP]at h1 h2
  by_cases e:k=nm
  ·by_cases e':k=nm'
   ·omega
   ·rw[if_neg e']at h2
    have:=(nu h5 h2).2.2.2
    subst e
    rw[←he]at this
    exact absurd List.mem_cons_self this
  ·rw[if_neg e]at h1
   by_cases e':k=nm'
   ·have:=(nu h5 h1).2.2.2
    subst e'
    rw[he]at this
    exact absurd List.mem_cons_self this
   ·rw[if_neg e']at h2
    exact ih h5 h1 h2 he
theorem FF {l:List (Nat×Nat)} {fr fr':List (Nat×AV)} {N:Nat} (h:ia l fr N fr') (t:Nat):(aH fr t=cZ l (aH fr' t)∨aH fr' t= .top)∧i6 N (aH fr' t):=by
 induction fr' with
 |nil=>exact⟨.inr rfl,trivial⟩
 |cons x r ih=>
  obtain⟨k,v⟩:=x
  obtain⟨h1,h2,h3⟩:=h
  rw[eP]
  by_cases e:k=t
  ·subst e
   rw[if_pos rfl]
   exact⟨h1,h2⟩
  ·rw[if_neg e]
   exact ih h3
theorem Lb {N:Nat}: ∀{xs:List AC},cp N xs→ ∀{j:Nat} {x:AC},xs[j]? =some x→gR N x
 | [],_,j,x,h=>by cases h
 |y::r,hc,0,x,h=>by cases h;exact hc.1
 |y::r,hc,j+1,x,h=>Lb (xs:=r) hc.2 h
theorem KW {N:Nat}: ∀{xs:List (List AC)},Kp N xs→ ∀{j:Nat} {x:List AC},xs[j]? =some x→cp N x
 | [],_,j,x,h=>by cases h
 |y::r,hc,0,x,h=>by cases h;exact hc.1
 |y::r,hc,j+1,x,h=>KW (xs:=r) hc.2 h
theorem Sb {V V':Nat→Prop} {N N' sz:Nat} {l:List (Nat×Nat)} {rows:List (List AC)} {cells:List Value} (h:gj w V ι N sz (rows.map fun r=>r.map (b8 l)) cells) (hV: ∀b,V b→V' b) (hc:Kp N' rows):gj w V' (fun n=>ι (rn l n)) N' sz rows cells:=by
 refine⟨by have:=h.1;rwa [List.length_map]at this,fun i row hi=> ?_,fun i row j p hi hj=> ?_⟩
 ·have:=h.2.1 i _ (by rw[List.getElem?_map,hi];rfl)
  rwa [List.length_map]at this
 ·obtain⟨v,hv,hp⟩:=h.2.2 i _ j _ (by rw[List.getElem?_map,hi];rfl) (by rw[List.getElem?_map,hj];rfl)
  exact⟨v,hv,hp.cl hV (Lb (KW hc hi) hj)⟩
theorem bA.wk {l:List (Nat×Nat)} (hs:bA w0 U σ ι a w) (h:Wk l σ σ'):bA w0 U σ' (fun n=>ι (rn l n)) a w:=by
 obtain⟨hf,hm,hb1,hb2,hb3⟩:=h
 have hfree: ∀b,aD w0.heap.size U ι σ.mem b→aD w0.heap.size U (fun n=>ι (rn l n)) σ'.mem b:=fun b h=>⟨h.1,fun nm bx hn=>h.2 _ _ (nu hm hn).1⟩
 refine⟨fun t=> ?_,hs.defers,fun nm bx hn=>(nu hm hn).2.1,fun nm bx hn=> ?_,fun nm nm' b1 b2 b h1 h2 h3 h4=> ?_,hs.below,U.mono _ _ _ _ hs.keep (fun b _ h=>hfree b h) (fun _ _ _=>rfl),⟨by rw[hb1];exact hb2,fun nm hn=> ?_⟩⟩
 ·obtain⟨h1,h2⟩:=FF hf t
  have hv:=hs.val t
  rcases h1 with h1|h1
  ·rw[h1]at hv
   exact hv.cl hfree h2
  ·rw[h1];exact .top
 ·obtain⟨h1,h2,h3,_⟩:=nu hm hn
  have hb:=hs.box _ _ h1
  cases bx with
  |var xs=>
   obtain⟨b',vs,T,g1,g2,g3,g4⟩:=hb
   exact⟨b',vs,T,g1,g2,g3,IL g4 hfree h3⟩
  |arr e sz rows=>
   obtain⟨cells,k0,k1,k2,k3⟩:=hb
   exact⟨cells,k0,k1,k2,k3.mono (fun b _ h=>hfree b h) (fun _ _ _=>rfl)⟩
  |arn e sz rows=>
   obtain⟨cells,k0,k1,k2,k3⟩:=hb
   rw[List.length_map]at k1 k2
   exact⟨cells,k0,k1,k2,Sb k3 hfree h3⟩
  |map kt n ents=>
   obtain⟨b',es,clock,g1,g2,g3,g4⟩:=hb
   exact⟨b',es,clock,g1,g2,g3,Oz g4 hfree h3⟩
 ·exact U4 hm h1 h2 (hs.apart _ _ _ _ _ (nu hm h1).1 (nu hm h2).1 h3 h4)
 ·rw[hb1]at hn
  rw[MO hb3 hn]
  exact hs.base.2 nm hn
theorem dv {c:ai} {Q:be→St→Prop} (t e sz:Nat) (ht:aH σ.fr t= .c .nils) (h0:0<sz)
  (h:AW P nt c {σ with fr:=(t,.c (.ref σ.nx))::σ.fr,mem:=(σ.nx,.arr e sz [])::σ.mem,nx:=σ.nx+1} Q):AW P nt c σ Q:=by
 intro c' hc w0 U rd ds ι a w hrd hs hz
 obtain⟨ι',h1,h2,h3,h4⟩:=hs.newBox (w':=w) (pv:= .slice none 0 0) (bx:= .arr e sz []) (Below.refl _ _) (fun b hb=>by simp[bt]at hb) (fun ι' e1 e2 hfree=>⟨[],h0,by rw[e2];exact World.ownsRow_nil _ _ _ _,by simp,aY.nil⟩)
 refine h c' hc w0 U rd ds ι' a w hrd ⟨fun s=> ?_,h1.defers,h1.names,h1.box,h1.apart,h1.below,h1.keep,h1.base⟩ hz
 rw[eP]
 by_cases es:t=s
 ·subst es
  rw[if_pos rfl]
  have hv:=hs.val t
  rw[ht]at hv
  rw[vo hv,←h2]
  exact .c (.ref (Nat.lt_succ_self _) ⟨_,_,_,h2⟩)
 ·rw[if_neg es]
  exact h1.val s
theorem fc {c:ai} {Q:be→St→Prop} (nm i e sz:Nat) (xs:List AC) (hf:ak σ.mem nm=some (.var xs)) (hi:xs[i]? =some .nils) (h0:0<sz)
  (h:AW P nt c {σ with mem:=(σ.nx,.arr e sz [])::cE σ.mem nm (.var (xs.set i (.ref σ.nx))),nx:=σ.nx+1} Q):AW P nt c σ Q:=by
 intro c' hc w0 U rd ds ι a w hrd hs hz
 obtain⟨ι',h1,h2,h3,h4⟩:=hs.newBox (w':=w) (pv:= .slice none 0 0) (bx:= .arr e sz []) (Below.refl _ _) (fun b hb=>by simp[bt]at hb) (fun ι' e1 e2 hfree=>⟨[],h0,by rw[e2];exact World.ownsRow_nil _ _ _ _,by simp,aY.nil⟩)
 have hnm:=hs.names _ _ hf
 have hf1:ak ((σ.nx,aS.arr e sz [])::σ.mem) nm=some (.var xs):=by rw[bP,if_neg (by omega)];exact hf
 obtain⟨b,vs,T,g1,g2,g3,g4⟩:=h1.box _ _ hf1
 have hset:=h1.setBox (cs:=vs) hf1 (b:=b) (by rw[g1];rfl) (bx:= .var (xs.set i (.ref σ.nx))) ⟨b,vs,T,g1,g2,setRow_heap _ _ _ _ _ _ g3,by
  rw[setRow_self w b vs T _ g3]
  refine aJ.of_get (by rw[List.length_set];exact g4.length) fun j x v hj hv=> ?_
  rw[List.getElem?_set]at hj
  by_cases e1:i=j
  ·subst e1
   have hlt:=(List.getElem?_eq_some_iff.1 hi).1
   rw[if_pos rfl,if_pos hlt]at hj
   cases hj
   obtain⟨v',hv',hr⟩:=g4.get hi
   rw[hv']at hv
   cases hv
   have:v= .slice none 0 0:=by cases hr;rfl
   rw[this,←h2]
   exact .ref (Nat.lt_succ_self _) ⟨_,_,_,h2⟩
  ·rw[if_neg e1]at hj
   obtain⟨v',hv',hr⟩:=g4.get hj
   rw[hv']at hv
   cases hv
   exact hr⟩
 rw[setRow_self w b vs T _ g3]at hset
 have e5:cE ((σ.nx,aS.arr e sz [])::σ.mem) nm (.var (xs.set i (.ref σ.nx)))=(σ.nx,.arr e sz [])::cE σ.mem nm (.var (xs.set i (.ref σ.nx))):=by
  simp only[cE]
  rw[if_neg (by omega)]
 simp only[e5]at hset
 exact h c' hc w0 U rd ds ι' a w hrd hset hz
def Vm {τ:Type} (mk:τ→St) (I:τ→Prop) (μ:τ→Nat) (t:τ) (Q:be→St→Prop):be→St→Prop
 | .normal,σ=> ∃t' l,I t'∧μ t'<μ t∧Wk l σ (mk t')
 | .exit i,σ=>Q (.exit i) σ
 | .ret,σ=>Q .ret σ
theorem aj {τ:Type} {x:ai} {Q:be→St→Prop} (mk:τ→St) (I:τ→Prop) (μ:τ→Nat) (h0: ∃t l,I t∧Wk l σ (mk t)) (h: ∀t,I t→AW P nt x (mk t) (Vm mk I μ t Q)):AW P nt (.loop x) σ Q:=by
 intro c' hc w0 U rd ds ι a w hrd hs hz
 cases c'<;>simp[cG]at hc
 all_goals(try(split at hc<;>simp at hc))
 rename_i c1
 obtain⟨t,l,ht,hw⟩:=h0
 refine wpIn_loop_rounds (μ t+1) ?_
 have key: ∀n t U1 ds1 ι a w,J2 w0.heap.size rd U ds U1 ds1→μ t<n→I t→bA w0 U1 (mk t) ι a w→a.tmps.size=nt→Code.roundsIn (FR rd) 0 P c1 (xH w0 U rd ds nt Q) n (sh ds1 a) w:=by
  intro n
  induction n with
  |zero=>intro t U1 ds1 ι a w hx hm;omega
  |succ n ih=>
   intro t U1 ds1 ι a w hx hm ht hs hz
   rw[roundsIn_succ]
   refine wpIn_mono (h t ht _ hc w0 U1 rd ds1 ι a w (hrd.ext hx) hs hz) ?_
   rintro e a1 w1 ⟨e',σ',ι',U',ds',a0,rfl,hq,hs',hz',rfl,hx'⟩
   cases e' with
   |normal=>
    obtain⟨t',l',ht',hlt,hwk⟩:=hq
    exact ih t' _ _ _ a0 w1 (hx.trans hx') (by omega) ht' (hs'.wk hwk) hz'
   |exit i=>exact⟨.exit i,σ',ι',U',ds',a0,rfl,hq,hs',hz',rfl,hx.trans hx'⟩
   |ret=>exact⟨.ret,σ',ι',U',ds',a0,rfl,hq,hs',hz',rfl,hx.trans hx'⟩
 exact key _ t _ _ _ a w .refl (Nat.lt_succ_self _) ht (hs.wk hw) hz
end
open Go.RowKit
section
variable {P : Program} {a : Act} {w w' w0 : World} {U U2 : Gh} {ι : Pl} {σ : St}
def GM:Obj→Bool
 | .loop _=>true
 | .deferred _=>true
 |_=>false
theorem N6 {b off:Nat} {v:Value} (h:w.cell? ⟨b,off,none⟩=some v): ¬ ∃o,w.heap[b]? =some o∧GM o=true:=by
 rintro⟨o,h1,h2⟩
 obtain⟨o',h3,h4⟩:=cells_of_cell h
 rw[h1]at h3
 cases h3
 cases o<;>simp_all [GM,Obj.isCells]
structure fe (n:Nat) (w w':World):Prop where
 os:w'.os=w.os
 tape:w'.tape=w.tape
 output:w'.output=w.output
 size:w.heap.size≤w'.heap.size
 block: ∀b,b<w.heap.size→w'.heap[b]? =w.heap[b]? ∨(n≤b∧ ∃o,w.heap[b]? =some o∧GM o=true)
theorem fe.refl (n:Nat) (w:World):fe n w w:=⟨rfl,rfl,rfl,Nat.le_refl _,fun _ _=> .inl rfl⟩
theorem fe.trans {n:Nat} {A B C:World} (h:fe n A B) (k:fe n B C):fe n A C:=by
 refine⟨k.os.trans h.os,k.tape.trans h.tape,k.output.trans h.output,Nat.le_trans h.size k.size,fun b hb=> ?_⟩
 rcases h.block b hb with e|e
 ·rcases k.block b (Nat.lt_of_lt_of_le hb h.size)with e2|⟨e2,o,e3,e4⟩
  ·exact .inl (e2.trans e)
  ·exact .inr ⟨e2,o,e▸e3,e4⟩
 ·exact .inr e
theorem fe.of_below {n:Nat} {A B:World} (h:Below A.heap.size A B):fe n A B:=⟨h.os,h.tape,h.output,h.size,fun b hb=> .inl (h.block b hb)⟩
theorem fe.putObj {n D:Nat} {o:Obj} (o':Obj) (hD:n≤D) (ho:w.heap[D]? =some o) (hl:GM o=true):fe n w (w.putObj D o'):=by
 refine⟨rfl,rfl,rfl,by simp,fun b hb=> ?_⟩
 by_cases e:b=D
 ·subst e
  exact .inr ⟨hD,o,ho,hl⟩
 ·exact .inl (World.putObj_heap_other e)
theorem fe.old {n:Nat} {A B:World} (h:fe n A B) {b:Nat} (hb:b<n) (hlt:b<A.heap.size):B.heap[b]? =A.heap[b]? :=by
 rcases h.block b hlt with e|⟨e,_⟩
 ·exact e
 ·omega
section
variable {V S : Nat → Prop} {N : Nat} (hS : ∀ b, S b → ∃ o, w.heap[b]? = some o ∧ GM o = true)
include hS
theorem bZ.ne {p:PC} {v:Value} (h:bZ w V p v):bZ w (fun b=>V b∧ ¬S b) p v:=by
 induction h with
 |val h=>exact .val h
 |slice g hn hcc hm hr hcell hp ih=>
  refine .slice g hn hcc hm hr (fun i row j p h1 h2=> ?_) ih
  obtain⟨b,off,ha,hb,hcl⟩:=hcell i row j p h1 h2
  exact⟨b,off,ha,⟨hb,fun h=>N6 hcl (hS _ h)⟩,hcl⟩
 |fmap hb hm hl hk hp ih=>
  refine .fmap ⟨hb,fun h=> ?_⟩ hm hl hk ih
  obtain⟨o,h1,h2⟩:=hS _ h
  rw[hm]at h1
  cases h1
  cases h2
theorem bL.ne {x:AC} {v:Value} (h:bL w V ι N x v):bL w (fun b=>V b∧ ¬S b) ι N x v:=by
 induction h with
 |pure h=>exact .pure (h.ne hS)
 |nils=>exact .nils
 |tsl h=>exact .tsl (h.ne hS)
 |ptr hn h=>exact .ptr hn h
 |eptr hn h=>exact .eptr hn h
 |cptr g hcell=>
  refine .cptr g fun j p hj=> ?_
  obtain⟨h1,h2,h3⟩:=hcell j p hj
  exact⟨⟨h1,fun h=>N6 h2 (hS _ h)⟩,h2,h3.ne hS⟩
 |ref hn h=>exact .ref hn h
 |clo hl h ih=>exact .clo hl fun i x hx=>ih i x hx
 |mref hn h=>exact .mref hn h
 |top h=>exact .top h
theorem aM.ne {x:AV} {v:Value} (h:aM w V ι N x v):aM w (fun b=>V b∧ ¬S b) ι N x v:=by
 induction h with
 |c h=>exact .c (h.ne hS)
 |agg h=>exact .agg (h.mono fun _ _ h=>h.ne hS)
 |tup hl h ih=>exact .tup hl fun i x hx=>ih i x hx
 |top=>exact .top
end
theorem bA.not_lp (hs:bA w0 U σ ι a w) {nm b:Nat} {bx:aS} (hn:ak σ.mem nm=some bx) (hb:bt (ι nm)=some b): ¬ ∃o,w.heap[b]? =some o∧GM o=true:=by
 rintro⟨o,h1,h2⟩
 have h:=hs.box nm bx hn
 cases bx with
 |var xs=>
  obtain⟨b',vs,T,g1,g2,g3,g4⟩:=h
  rw[g1]at hb
  cases hb
  rw[g3]at h1
  cases h1
  cases h2
 |arr e sz rows=>
  obtain⟨cells,k0,k1,k2⟩:=h
  rcases k1.2 with⟨h,_⟩|⟨g,cap,cur,h,_,hg,_⟩
  ·rw[h]at hb;cases hb
  ·rw[h]at hb
   cases hb
   rw[hg]at h1
   cases h1
   cases h2
 |arn e sz rows=>
  obtain⟨cells,k0,k1,k2⟩:=h
  rcases k1.2 with⟨h,_⟩|⟨g,cap,cur,h,_,hg,_⟩
  ·rw[h]at hb;cases hb
  ·rw[h]at hb
   cases hb
   rw[hg]at h1
   cases h1
   cases h2
 |map kt n ents=>
  obtain⟨b',es,clock,g1,g2,g3,g4⟩:=h
  rw[g1]at hb
  cases hb
  rw[g3]at h1
  cases h1
  cases h2
theorem bA.growL (hs:bA w0 U σ ι a w) {n:Nat} (hn0:w0.heap.size≤n) (hg:fe n w w') (hp:U2.p=U.p) (hi:U2.ι0=U.ι0)
  (hG:U2.G w' (aD w0.heap.size U2 ι σ.mem)):bA w0 U2 σ ι a w':=by
 have hfree:aD w0.heap.size U2 ι σ.mem=aD w0.heap.size U ι σ.mem:=by
  funext b
  unfold aD
  rw[hp]
 have hS: ∀b,(b<w.heap.size∧w'.heap[b]? ≠w.heap[b]?)→ ∃o,w.heap[b]? =some o∧GM o=true:=by
  rintro b ⟨h1,h2⟩
  rcases hg.block b h1 with e|⟨_,e⟩
  ·exact absurd e h2
  ·exact e
 have hV: ∀b,b<w.heap.size→(aD w0.heap.size U ι σ.mem b∧ ¬(b<w.heap.size∧w'.heap[b]? ≠w.heap[b]?))→aD w0.heap.size U2 ι σ.mem b:=fun b _ h=>by rw[hfree];exact h.1
 have hw: ∀b,b<w.heap.size→(aD w0.heap.size U ι σ.mem b∧ ¬(b<w.heap.size∧w'.heap[b]? ≠w.heap[b]?))→w'.heap[b]? =w.heap[b]? :=fun b hb h=>Classical.byContradiction fun e=>h.2 ⟨hb,e⟩
 refine⟨fun t=>((hs.val t).ne hS).mono hV hw (fun _ _=>rfl) (Nat.le_refl _),hs.defers,hs.names,fun nm bx hn=> ?_,hs.apart,hs.below.trans ⟨hg.os,hg.tape,hg.output,hg.size,fun k hk=>hg.old (by omega) (Nat.lt_of_lt_of_le hk hs.below.size)⟩,hG,by rw[hi];exact hs.base⟩
 have hb:=hs.box nm bx hn
 have hsame: ∀b,bt (ι nm)=some b→b<w.heap.size→w'.heap[b]? =w.heap[b]? :=fun b e hlt=>by
  rcases hg.block b hlt with e2|⟨_,e2⟩
  ·exact e2
  ·exact absurd e2 (hs.not_lp hn e)
 cases bx with
 |var xs=>
  obtain⟨b,vs,T,h1,h2,h3,h4⟩:=hb
  exact⟨b,vs,T,h1,h2,by rw[hsame b (by rw[h1];rfl) (Array.getElem?_eq_some_iff.1 h3).1];exact h3,h4.mono fun _ _ h=>(h.ne hS).mono hV hw (fun _ _=>rfl) (Nat.le_refl _)⟩
 |arr e sz rows=>
  obtain⟨cells,h0,h1,h2,h3,h4,h5⟩:=hb
  refine⟨cells,h0, ?_,h2,h3,h4,fun i row j p hi hj=> ?_⟩
  ·obtain⟨q1,q2⟩:=h1
   refine⟨q1, ?_⟩
   rcases q2 with q2|⟨g,cap,cur,e0,hbase,hgb,hrest⟩
   ·exact .inl q2
   ·exact .inr ⟨g,cap,cur,e0,hbase,(hsame g (by rw[e0];rfl) (Array.getElem?_eq_some_iff.1 hgb).1).trans hgb,hrest⟩
  ·obtain⟨v,hv,hpp⟩:=h5 i row j p hi hj
   exact⟨v,hv,(hpp.ne hS).mono hV hw⟩
 |arn e sz rows=>
  obtain⟨cells,h0,h1,h2,h3,h4,h5⟩:=hb
  refine⟨cells,h0, ?_,h2,h3,h4,fun i row j p hi hj=> ?_⟩
  ·obtain⟨q1,q2⟩:=h1
   refine⟨q1, ?_⟩
   rcases q2 with q2|⟨g,cap,cur,e0,hbase,hgb,hrest⟩
   ·exact .inl q2
   ·exact .inr ⟨g,cap,cur,e0,hbase,(hsame g (by rw[e0];rfl) (Array.getElem?_eq_some_iff.1 hgb).1).trans hgb,hrest⟩
  ·obtain⟨v,hv,hpp⟩:=h5 i row j p hi hj
   exact⟨v,hv,(hpp.ne hS).mono hV hw (fun _ _=>rfl) (Nat.le_refl _)⟩
 |map kt n ents=>
  obtain⟨b,es,clock,h1,h2,h3,h4⟩:=hb
  exact⟨b,es,clock,h1,h2,by rw[hsame b (by rw[h1];rfl) (Array.getElem?_eq_some_iff.1 h3).1];exact h3,h4.mono fun _ _ h=>⟨h.1,(h.2.ne hS).mono hV hw (fun _ _=>rfl) (Nat.le_refl _)⟩⟩
theorem bA.turn (hs:bA w0 U σ ι a w) {D:Nat} {o:Obj} (o':Obj) (ho:w.heap[D]? =some o) (hl:GM o=true) (hD:w0.heap.size≤D) (hp:U2.p=U.p) (hi:U2.ι0=U.ι0)
  (hG:U2.G (w.putObj D o') (aD w0.heap.size U2 ι σ.mem)):bA w0 U2 σ ι a (w.putObj D o'):=
 hs.growL hD (.putObj o' (Nat.le_refl _) ho hl) hp hi hG
theorem PB {fn:Func} {tmps:Array Value} {R:Ending→World→Prop} {U':Gh} {ds':List Deferred} (hx:J2 w0.heap.size none U [] U' ds'): ∀{w:World},bA w0 U' σ ι a w→
  (∀w',bA w0 U σ ι a w'→ ∃v,(results fn tmps).run P w'= .ok v w'∧R (.returned v) w')→LeavesInM Fence.wide 0 P fn tmps R ds' .returning w:=by
 induction hx with
 |refl=>exact fun hs h=>h _ hs
 | @mark U1 U2 ds1 D h hr hD hp hi hG ih=>
  intro w hs hfin
  obtain⟨_,g2,g3,g4⟩:=hG _ _ hs.keep
  refine⟨by simp,.inl ⟨D,_,rfl,run_takeDeferred g3,ih (hs.turn (.deferred none) g3 rfl hD hp.symm hi.symm ?_) hfin⟩⟩
  have e:aD w0.heap.size U1 ι σ.mem=aD w0.heap.size U2 ι σ.mem:=by
   funext b
   unfold aD
   rw[hp]
  rw[e]
  exact g4
theorem vc {f:FuncId} {fn:Func} {c:Code} {vs:Array Value} {nt:Nat} {Q:be→St→Prop} {R:Ending→World→Prop} (h1:P.funcs[f]? =some fn) (h2:fn.body=some c)
  (hw:c.wpIn (FR none) 0 P (xH w0 U none [] nt Q) (sh [] {tmps:=vs++Array.replicate (fn.ntmps-vs.size) undef,defers:= []}) w)
  (hx: ∀i σ',¬Q (.exit i) σ') (hfin: ∀{e:be} {a':Act} {w':World} {σ':St} {ι':Pl},Q e σ'→bA w0 U σ' ι' a' w'→ ∃v,(results fn a'.tmps).run P w'= .ok v w'∧R (.returned v) w'):Calls P f vs w R:=by
 refine(callsIn_wide (n:=0)).1 (callsIn_of_wp_marks h1 h2 trivial (wpIn_mono hw ?_))
 rintro e a' w' ⟨e',σ',ι',U',ds',a0,rfl,hq,hs',hz,rfl,hx'⟩
 have hd:(sh ds' a0).defers=ds':=by
  show a0.defers++ds'=ds'
  rw[hs'.defers.1]
  rfl
 have key:LeavesInM Fence.wide 0 P fn (sh ds' a0).tmps R (sh ds' a0).defers .returning w':=by
  rw[hd]
  exact PB hx' hs' fun w2 hs2=>hfin (a':=a0) hq hs2
 cases e' with
 |normal=>exact key
 |exit i=>exact absurd hq (hx _ _)
 |ret=>exact key
end
inductive AR where
 |t (n:Nat)
 |cell (n:Option Nat) (a:Nat)
def Vz (P:Program):ResultVar→Option AR
 | .tmp t=>some (.t t)
 | .cell a t=>(lY P t).map fun n=> .cell n a
def E4 (P:Program):List ResultVar→Option (List AR)
 | []=>some []
 |r::rs=>match Vz P r,E4 P rs with
  |some x,some xs=>some (x::xs)
  |_,_=>none
def Fv (n:Option Nat) (xs:List AC) (K:AV→Prop):Prop:=
 match n with
 |none=>match xs with
  |x::_=>K (.c x)
  | []=>False
 |some n=>cw (n≤xs.length) (K:=⟨K (.agg (xs.take n))⟩)
def xm (σ:St):AR→(AV→Prop)→Prop
 | .t n,K=>K (aH σ.fr n)
 |.cell n a,K=>match aH σ.fr a with
  |.c q=>match bC σ.mem q with
   |some xs=>Fv n xs K
   |none=>False
  |_=>False
def jI (σ:St):List AR→List AV→(List AV→Prop)→Prop
 | [],acc,K=>K acc
 |r::rs,acc,K=>xm σ r fun v=>jI σ rs (acc++ [v]) K
def gE:List AV→AV
 | [v]=>v
 |vs=> .tup vs
def KM (mem:List (Nat×aS)):AV→Option AV
 |.tup xs=>match aZ mem xs with
  |some ys=>some (.tup ys)
  |none=>none
 |x=>ct mem x
def X5 (rs:List AR) (res:AV):be→St→Prop
 | .exit _,_=>False
 | .ret,σ=>jI σ rs [] fun vs=>KM σ.mem (gE vs)=some res
 | .normal,σ=>jI σ rs [] fun vs=>KM σ.mem (gE vs)=some res
def aV:List AV→Nat→List (Nat×AV)
 | [],_=> []
 |v::r,k=>(k,v)::aV r (k+1)
def lW:List AV→Prop
 | []=>True
 |v::r=>ie v∧lW r
structure aw (P:Program) (f:FuncId) (nt:Nat) (body:ai) (rs:List AR):Prop where
 is : ∃ fn c, P.funcs[f]? = some fn ∧ fn.body = some c ∧ (fn.name == "runtime.NumGoroutine") = false ∧ fn.ntmps = nt ∧ cG P nt c = some body ∧ E4 P fn.results.toList = some rs
section
variable {P : Program} {a : Act} {w w' w0 : World} {U : Gh} {ι : Pl} {σ σ' : St} {nt : Nat}
theorem NH {t:TypeId} {n:Option Nat} {q:AC} {u:Value} {xs:List AC} {K:AV→Prop} (hs:bA w0 U σ ι a w) (ht:lY P t=some n) (hr:bL w (aD w0.heap.size U ι σ.mem) ι σ.nx q u) (hx:bC σ.mem q=some xs) (h:Fv n xs K):
  ∃ad v u',u= .pointer (some ad)∧(loadVar t ad).run P w= .ok u' w∧aM w (aD w0.heap.size U ι σ.mem) ι σ.nx v u'∧K v:=by
 obtain⟨b,off,e1,hc⟩:=C5 hs hr hx
 cases n with
 |none=>
  simp only[Fv]at h
  split at h
  ·rename_i z zs
   obtain⟨v,hv,hr⟩:=hc 0 z rfl
   exact⟨_,_,v,e1,GX (P:=P) ht (by simpa using hv),.c hr,h⟩
  ·exact h.elim
 |some n=>
  obtain⟨hle,h⟩:=h
  have hg: ∃ys:List Value,ys.length=n∧ ∀(j:Nat) x v,(xs.take n)[j]? =some x→ys[j]? =some v→w.cell? ⟨b,off+j,none⟩=some v∧bL w (aD w0.heap.size U ι σ.mem) ι σ.nx x v:=by
   refine⟨(List.range n).map fun j=>(w.cell? ⟨b,off+j,none⟩).getD undef,by simp,fun j x v hj hv=> ?_⟩
   have hjn:j<n:=by have:=(List.getElem?_eq_some_iff.1 hj).1;simp at this;omega
   rw[List.getElem?_take_of_lt hjn]at hj
   obtain⟨u,hu,hr⟩:=hc j x hj
   simp[List.getElem?_map,List.getElem?_range hjn,hu]at hv
   subst hv
   exact⟨hu,hr⟩
  obtain⟨ys,hl,hy⟩:=hg
  have hlt:(xs.take n).length=n:=by simp;omega
  refine⟨_,_,.agg ys.toArray,e1,Hw (P:=P) (w:=w) (ad:=⟨b,off,none⟩) ht (vs:=ys) hl fun j v hv=> ?_,.agg (aJ.of_get (by rw[hlt];simp[hl]) fun j x v hj hv=>(hy j x v hj (by simpa using hv)).2),h⟩
  have hjn:j<(xs.take n).length:=by rw[hlt,←hl];exact(List.getElem?_eq_some_iff.1 hv).1
  rw[gK]
  exact(hy j _ v (List.getElem?_eq_getElem hjn) hv).1
def JU (tmps:Array Value):ResultVar→Sem Value
 | .tmp t=>pure (tmps.getD t undef)
 | .cell a t=>do loadVar t (←asAddr (tmps.getD a undef))
theorem ke (hs:bA w0 U σ ι a w): ∀{rvs:List ResultVar} {rs:List AR} {acc:List AV} {us:List Value} {K:List AV→Prop},E4 P rvs=some rs→jI σ rs acc K→aJ (aM w (aD w0.heap.size U ι σ.mem) ι σ.nx) acc us→
  ∃vs us',aJ (aM w (aD w0.heap.size U ι σ.mem) ι σ.nx) vs (us++us')∧(rvs.mapM (JU a.tmps)).run P w= .ok us' w∧K vs
 |[],rs,acc,us,K,hc,h,hacc=>by
  cases hc
  exact⟨acc, [],by simpa using hacc,rfl,h⟩
 |r::rvs,rs,acc,us,K,hc,h,hacc=>by
  unfold E4 at hc
  split at hc
  ·rename_i x xs h1 h2
   cases hc
   have one: ∃v u,aM w (aD w0.heap.size U ι σ.mem) ι σ.nx v u∧(JU a.tmps r).run P w= .ok u w∧jI σ xs (acc++ [v]) K:=by
    simp only[jI]at h
    cases r with
    |tmp t=>
     cases h1
     exact⟨_,_,hs.val t,rfl,h⟩
    |cell ad t=>
     simp only[Vz,Option.map_eq_some_iff]at h1
     obtain⟨n,hn,rfl⟩:=h1
     simp only[xm]at h
     split at h
     ·rename_i q e
      have hq:=hs.val ad
      rw[e]at hq
      split at h
      ·rename_i xs' hx
       have hq':bL w (aD w0.heap.size U ι σ.mem) ι σ.nx q (a.tmps.getD ad undef):=by
        generalize a.tmps.getD ad undef=z at hq
        cases hq with|c hq=>exact hq
       obtain⟨adr,v,u',e1,e2,e3,e4⟩:=NH (P:=P) hs hn hq' hx h
       exact⟨v,u',e3,by simp only[JU,Sem.run_bind,e1,asAddr,Sem.run_pure,Result.andThen_ok,e2],e4⟩
      ·exact h.elim
     ·exact h.elim
   obtain⟨v,u,hr,hrun,hk⟩:=one
   obtain⟨vs,us',g1,g2,g3⟩:=ke hs (us:=us++ [u]) h2 hk (hacc.append (.cons hr .nil))
   exact⟨vs,u::us',by simpa using g1,by simp[List.mapM_cons,hrun,g2],g3⟩
  ·cases hc
theorem j9 (fn:Func) (tmps:Array Value):results fn tmps=(do let vs←fn.results.mapM (JU tmps);pure (if h:vs.size=1 then vs[0]else .tuple vs)):=by
 unfold results
 congr 1
theorem LS {V:Nat→Prop} {x y:AV} {v:Value} (hs:bA w0 U σ ι a w) (h:aM w (aD w0.heap.size U ι σ.mem) ι σ.nx x v) (hp:KM σ.mem x=some y) (hV: ∀b,aD w0.heap.size U ι σ.mem b→V b) (hN: ∀b,w0.heap.size≤b→V b):aM w V (fun _=>undef) 0 y v:=by
 cases h with
 |c h=>exact zy hs (.c h) hp hV (.inr hN)
 |agg h=>exact zy hs (.agg h) hp hV (.inr hN)
 | @tup xs vs hl h=>
  simp only[KM]at hp
  split at hp
  ·cases hp
   have hall:aJ (aM w (aD w0.heap.size U ι σ.mem) ι σ.nx) xs vs.toList:=aJ.of_get (by simpa using hl) fun i x v hi hv=>by
    have:=h i x hi
    rw[hv]at this
    exact this
   have hr:=jY hs hall hV (.inr hN) ‹_›
   refine .tup (by simpa using hr.length) fun i x hi=> ?_
   obtain⟨v,hv,hx⟩:=hr.get hi
   rw[hv]
   exact hx
  ·cases hp
 |top=>cases hp
theorem iX {vs:List Value} {V:Nat→Prop} {N:Nat}: ∀{args:List AV} {us:List Value} {k:Nat},aJ (aM w V ι N) args us→ ∀t,aM w V ι N (aH (aV args k) t) ((us[t-k]?).getD undef)∨aH (aV args k) t= .top
 | [],us,k,h,t=> .inr rfl
 |v::args,us,k,h,t=>by
  cases h with
  | @cons _ u _ us h1 h2=>
   show aM _ _ _ _ (if k=t then v else aH (aV args (k+1)) t) _∨(if k=t then v else aH (aV args (k+1)) t)= .top
   by_cases e:k=t
   ·subst e
    rw[if_pos rfl]
    left
    simpa using h1
   ·rw[if_neg e]
    rcases iX (vs:=vs) (k:=k+1) h2 t with h|h
    ·by_cases hlt:k<t
     ·left
      have:t-k=(t-(k+1))+1:=by omega
      rw[this]
      simpa using h
     ·right
      clear h h1 h2
      have key: ∀(l:List AV) (j:Nat),t<j→aH (aV l j) t= .top:=by
       intro l
       induction l with
       |nil=>intro j _;rfl
       |cons x l ih=>
        intro j hj
        show(if j=t then x else aH (aV l (j+1)) t)=_
        rw[if_neg (by omega)]
        exact ih _ (by omega)
      exact key args (k+1) (by omega)
    ·exact .inr h
theorem tt {V:Nat→Prop} {N:Nat} {args:List AV} {us:List Value} (h:aJ (aM w V ι N) args us):lW args:=by
 induction h with
 |nil=>trivial
 |cons h _ ih=>exact⟨Le h,ih⟩
theorem tn {V:Nat→Prop} {N:Nat} {vs:List AV} {us:List Value} (h:aJ (aM w V ι N) vs us):aM w V ι N (gE vs) (if h:us.toArray.size=1 then us.toArray[0]else .tuple us.toArray):=by
 have tupled: ∀{vs:List AV} {us:List Value},aJ (aM w V ι N) vs us→aM w V ι N (.tup vs) (.tuple us.toArray):=fun h=>
  .tup (by simpa using h.length) fun i x hi=>by
   obtain⟨v,hv,hx⟩:=h.get hi
   simp only[List.toList_toArray]
   rw[hv]
   exact hx
 cases h with
 |nil=>rw[dif_neg (by simp)];exact tupled .nil
 |cons h1 t=>
  cases t with
  |nil=>rw[dif_pos (by simp)];exact h1
  |cons h2 t=>
   rw[dif_neg (by simp)]
   exact tupled (.cons h1 (.cons h2 t))
theorem ac.of {f:FuncId} {nt:Nat} {body:ai} {rs:List AR} {args:List AV} {res:AV} (hf:aw P f nt body rs) (hlen:args.length≤nt) (h:lW args→AW P nt body ⟨aV args 0, [],0,0⟩ (X5 rs res)):ac P f args res:=by
 obtain⟨fn,c,h1,h2,h3,rfl,h5,h6⟩:=hf.is
 refine⟨⟨fn,h1,by rw[h2];rfl,h3⟩,fun w U vs hG hargs=> ?_⟩
 have hsz:vs.size=args.length:=by rw[←Array.length_toList];exact hargs.length.symm
 have hs:bA w (Gh.of U) ⟨aV args 0, [],0,0⟩ (fun _=>undef) {tmps:=vs++Array.replicate (fn.ntmps-vs.size) undef,defers:= []} w:=by
  refine⟨fun t=> ?_,⟨rfl,hG⟩,(fun nm bx hn=>by cases hn),(fun nm bx hn=>by cases hn),(fun nm nm' b1 b2 b hn=>by cases hn),Below.refl _ _,trivial,⟨Nat.le_refl _,fun _ h=>absurd h (Nat.not_lt_zero _)⟩⟩
  have hmono: ∀{x:AV} {v:Value},aM w U (fun _=>undef) 0 x v→aM w (aD w.heap.size (Gh.of U) (fun _=>undef) []) (fun _=>undef) 0 x v:=fun h=>
   h.mono (fun b _ h=>⟨.inl h,fun nm bx hn=>by cases hn⟩) (fun _ _ _=>rfl) (fun _ _=>rfl) (Nat.le_refl _)
  rcases iX (vs:=vs.toList) (k:=0) hargs t with h|h
  ·by_cases hlt:t<vs.size
   ·have e:(vs++Array.replicate (fn.ntmps-vs.size) undef).getD t undef=(vs.toList[t-0]?).getD undef:=by
     simp[Array.getD_eq_getD_getElem?,Array.getElem?_append,hlt]
    rw[e]
    exact hmono h
   ·have:aH (aV args 0) t= .top:=by
     have key: ∀(l:List AV) (j:Nat),j+l.length≤t→aH (aV l j) t= .top:=by
      intro l
      induction l with
      |nil=>intro j _;rfl
      |cons x l ih=>
       intro j hj
       simp only[List.length_cons]at hj
       show(if j=t then x else aH (aV l (j+1)) t)=_
       rw[if_neg (by omega)]
       exact ih _ (by omega)
     exact key args 0 (by omega)
    show aM _ _ _ _ (aH (aV args 0) t) _
    rw[this]
    exact .top
  ·show aM _ _ _ _ (aH (aV args 0) t) _
   rw[h]
   exact .top
 have hsize:(vs++Array.replicate (fn.ntmps-vs.size) undef).size=fn.ntmps:=by simp;omega
 have fin: ∀{a':Act} {w':World} {σ':St} {ι':Pl},jI σ' rs [] (fun vs=>KM σ'.mem (gE vs)=some res)→bA w (Gh.of U) σ' ι' a' w'→ ∃v,(results fn a'.tmps).run P w'= .ok v w'∧ ∃v',Ending.returned v= .returned v'∧aM w' (fun b=>U b∨w.heap.size≤b) (fun _=>undef) 0 res v'∧Below w.heap.size w w':=by
  intro a' w' σ' ι' hres hs'
  obtain⟨vs',us',g1,g2,g3⟩:=ke hs' (us:= []) h6 hres .nil
  refine⟨_, ?_,_,rfl,LS hs' (tn (by simpa using g1)) g3 (fun b h=>h.1) (fun b h=> .inr h),hs'.below⟩
  rw[j9,Array.mapM_eq_mapM_toList]
  simp[g2]
 refine vc h1 h2 (h (tt hargs) c h5 w (Gh.of U) none [] _ _ w (fun _ e=>by cases e) hs hsize) (fun i σ' h=>h) ?_
 intro e a' w' σ' ι' hq hs'
 cases e with
 |normal=>exact fin hq hs'
 |exit i=>exact hq.elim
 |ret=>exact fin hq hs'
def F3 (rs:List AR) (res:AV) (mem:List (Nat×aS)) (nx base:Nat):be→St→Prop
 | .exit _,_=>False
 | .ret,σ=>jI σ rs [] fun vs=>gE vs=res∧σ.mem=mem∧σ.nx=nx∧σ.base=base
 | .normal,σ=>jI σ rs [] fun vs=>gE vs=res∧σ.mem=mem∧σ.nx=nx∧σ.base=base
theorem am.of {f:FuncId} {nt:Nat} {body:ai} {rs:List AR} {args:List AV} {mem mem':List (Nat×aS)} {nx nx':Nat} {res:AV} (hf:aw P f nt body rs) (hlen:args.length≤nt) (h:lW args→AW P nt body ⟨aV args 0,mem,nx,nx⟩ (F3 rs res mem' nx' nx)):am P f args mem nx res mem' nx':=by
 obtain⟨fn,c,h1,h2,h3,rfl,h5,h6⟩:=hf.is
 refine⟨⟨fn,h1,by rw[h2];rfl,h3⟩,fun w0 U ι w vs hs0 hargs=> ?_⟩
 have hsz:vs.size=args.length:=by rw[←Array.length_toList];exact hargs.length.symm
 have hs:bA w0 U ⟨aV args 0,mem,nx,nx⟩ ι {tmps:=vs++Array.replicate (fn.ntmps-vs.size) undef,defers:= []} w:=by
  refine⟨fun t=> ?_,⟨rfl,hs0.defers.2⟩,hs0.names,hs0.box,hs0.apart,hs0.below,hs0.keep,hs0.base⟩
  rcases iX (vs:=vs.toList) (k:=0) hargs t with h|h
  ·by_cases hlt:t<vs.size
   ·have e:(vs++Array.replicate (fn.ntmps-vs.size) undef).getD t undef=(vs.toList[t-0]?).getD undef:=by
     simp[Array.getD_eq_getD_getElem?,Array.getElem?_append,hlt]
    rw[e]
    exact h
   ·have:aH (aV args 0) t= .top:=by
     have key: ∀(l:List AV) (j:Nat),j+l.length≤t→aH (aV l j) t= .top:=by
      intro l
      induction l with
      |nil=>intro j _;rfl
      |cons x l ih=>
       intro j hj
       simp only[List.length_cons]at hj
       show(if j=t then x else aH (aV l (j+1)) t)=_
       rw[if_neg (by omega)]
       exact ih _ (by omega)
     exact key args 0 (by omega)
    show aM _ _ _ _ (aH (aV args 0) t) _
    rw[this]
    exact .top
  ·show aM _ _ _ _ (aH (aV args 0) t) _
   rw[h]
   exact .top
 have hsize:(vs++Array.replicate (fn.ntmps-vs.size) undef).size=fn.ntmps:=by simp;omega
 have fin: ∀{a':Act} {w':World} {σ':St} {ι':Pl},(jI σ' rs [] fun vs=>gE vs=res∧σ'.mem=mem'∧σ'.nx=nx'∧σ'.base=nx)→bA w0 U σ' ι' a' w'→ ∃v,(results fn a'.tmps).run P w'= .ok v w'∧
   ∃v' ι',Ending.returned v= .returned v'∧bA w0 U ⟨[],mem',nx',nx⟩ ι' {tmps:= #[],defers:= []} w'∧aM w' (aD w0.heap.size U ι' mem') ι' nx' res v':=by
  intro a' w' σ' ι' hres hs'
  obtain⟨vs',us',g1,g2,rfl,rfl,rfl,rfl⟩:=ke hs' (us:= []) h6 hres .nil
  refine⟨_, ?_,_,ι',rfl,⟨fun t=> .top,⟨rfl,hs'.defers.2⟩,hs'.names,hs'.box,hs'.apart,hs'.below,hs'.keep,hs'.base⟩,tn (by simpa using g1)⟩
  rw[j9,Array.mapM_eq_mapM_toList]
  simp[g2]
 refine vc h1 h2 (h (tt hargs) c h5 w0 U none [] _ _ w (fun _ e=>by cases e) hs hsize) (fun i σ' h=>h) ?_
 intro e a' w' σ' ι' hq hs'
 cases e with
 |normal=>exact fin hq hs'
 |exit i=>exact hq.elim
 |ret=>exact fin hq hs'
theorem BE: ∀{l:List AV} {k:Nat} (i:Nat),aH (aV l k) (k+i)=(l[i]?).getD .top
 | [],k,i=>by simp[aV,aH]
 |v::l,k,0=>by simp[aV,aH]
 |v::l,k,i+1=>by
  have:=BE (l:=l) (k:=k+1) i
  simp only[aV,aH]
  rw[if_neg (by omega),show k+(i+1)=k+1+i by omega,this]
  simp
def XS (rs:List AR) (ress:List AV) (mem:List (Nat×aS)) (nx base:Nat):be→St→Prop
 | .exit _,_=>False
 | .ret,σ=> ∃l rl,jI (bo l σ []).1 rs [] fun vs=>ress.length=vs.length∧Wk rl {(bo l σ []).1 with fr:=aV vs 0} ⟨aV ress 0,mem,nx,base⟩
 | .normal,σ=> ∃l rl,jI (bo l σ []).1 rs [] fun vs=>ress.length=vs.length∧Wk rl {(bo l σ []).1 with fr:=aV vs 0} ⟨aV ress 0,mem,nx,base⟩
theorem am.ofZ {f:FuncId} {nt:Nat} {body:ai} {rs:List AR} {args:List AV} {mem mem':List (Nat×aS)} {nx nx':Nat} {ress:List AV} (hf:aw P f nt body rs) (hlen:args.length≤nt) (h:lW args→AW P nt body ⟨aV args 0,mem,nx,nx⟩ (XS rs ress mem' nx' nx)):am P f args mem nx (gE ress) mem' nx':=by
 obtain⟨fn,c,h1,h2,h3,rfl,h5,h6⟩:=hf.is
 refine⟨⟨fn,h1,by rw[h2];rfl,h3⟩,fun w0 U ι w vs hs0 hargs=> ?_⟩
 have hsz:vs.size=args.length:=by rw[←Array.length_toList];exact hargs.length.symm
 have hs:bA w0 U ⟨aV args 0,mem,nx,nx⟩ ι {tmps:=vs++Array.replicate (fn.ntmps-vs.size) undef,defers:= []} w:=by
  refine⟨fun t=> ?_,⟨rfl,hs0.defers.2⟩,hs0.names,hs0.box,hs0.apart,hs0.below,hs0.keep,hs0.base⟩
  rcases iX (vs:=vs.toList) (k:=0) hargs t with h|h
  ·by_cases hlt:t<vs.size
   ·have e:(vs++Array.replicate (fn.ntmps-vs.size) undef).getD t undef=(vs.toList[t-0]?).getD undef:=by
     simp[Array.getD_eq_getD_getElem?,Array.getElem?_append,hlt]
    rw[e]
    exact h
   ·have:aH (aV args 0) t= .top:=by
     have key: ∀(l:List AV) (j:Nat),j+l.length≤t→aH (aV l j) t= .top:=by
      intro l
      induction l with
      |nil=>intro j _;rfl
      |cons x l ih=>
       intro j hj
       simp only[List.length_cons]at hj
       show(if j=t then x else aH (aV l (j+1)) t)=_
       rw[if_neg (by omega)]
       exact ih _ (by omega)
     exact key args 0 (by omega)
    show aM _ _ _ _ (aH (aV args 0) t) _
    rw[this]
    exact .top
  ·show aM _ _ _ _ (aH (aV args 0) t) _
   rw[h]
   exact .top
 have hsize:(vs++Array.replicate (fn.ntmps-vs.size) undef).size=fn.ntmps:=by simp;omega
 have fin: ∀{a':Act} {w':World} {σ':St} {ι':Pl},(∃l rl,jI (bo l σ' []).1 rs [] fun vs=>ress.length=vs.length∧Wk rl {(bo l σ' []).1 with fr:=aV vs 0} ⟨aV ress 0,mem',nx',nx⟩)→bA w0 U σ' ι' a' w'→ ∃v,(results fn a'.tmps).run P w'= .ok v w'∧
   ∃v' ι',Ending.returned v= .returned v'∧bA w0 U ⟨[],mem',nx',nx⟩ ι' {tmps:= #[],defers:= []} w'∧aM w' (aD w0.heap.size U ι' mem') ι' nx' (gE ress) v':=by
  rintro a' w' σ' ι' ⟨l,rl,hres⟩ hs'
  obtain⟨hs2,_⟩:=vf (l:=l) (args:= []) (us:= []) hs' .nil rfl
  obtain⟨vs',us',g1,g2,hlen',hwk⟩:=ke hs2 (us:= []) h6 hres .nil
  have g1:aJ (aM w' (aD w0.heap.size U ι' (bo l σ' []).1.mem) ι' (bo l σ' []).1.nx) vs' us':=by simpa using g1
  have hs3:bA w0 U {(bo l σ' []).1 with fr:=aV vs' 0} ι' {tmps:=us'.toArray,defers:= []} w':=by
   refine⟨fun t=> ?_,⟨rfl,hs2.defers.2⟩,hs2.names,hs2.box,hs2.apart,hs2.below,hs2.keep,hs2.base⟩
   rcases iX (vs:= []) (k:=0) g1 t with h|h
   ·have e:us'.toArray.getD t undef=(us'[t-0]?).getD undef:=by simp[Array.getD_eq_getD_getElem?]
    rw[e];exact h
   ·show aM _ _ _ _ (aH (aV vs' 0) t) _
    rw[h];exact .top
  have hs4:=hs3.wk hwk
  have hall:aJ (aM w' (aD w0.heap.size U (fun n=>ι' (rn rl n)) mem') (fun n=>ι' (rn rl n)) nx') ress us':=by
   refine aJ.of_get (by rw[hlen',g1.length]) fun i x u hx hu=> ?_
   have h:=hs4.val i
   have e1:aH (aV ress 0) i=x:=by
    have:=BE (l:=ress) (k:=0) i
    rw[Nat.zero_add]at this
    rw[this,hx];rfl
   have e2:(us'.toArray).getD i undef=u:=by simp[Array.getD_eq_getD_getElem?,hu]
   simp only[e1,e2]at h
   exact h
  refine⟨_, ?_,_,fun n=>ι' (rn rl n),rfl,⟨fun t=> .top,⟨rfl,hs4.defers.2⟩,hs4.names,hs4.box,hs4.apart,hs4.below,hs4.keep,hs4.base⟩,tn hall⟩
  rw[j9,Array.mapM_eq_mapM_toList]
  simp[g2]
 refine vc h1 h2 (h (tt hargs) c h5 w0 U none [] _ _ w (fun _ e=>by cases e) hs hsize) (fun i σ' h=>h) ?_
 intro e a' w' σ' ι' hq hs'
 cases e with
 |normal=>exact fin hq hs'
 |exit i=>exact hq.elim
 |ret=>exact fin hq hs'
end
open Go.RowKit
def Xd (P:Program) (nt:Nat) (c:ai) (σ:St) [Q:nF (be→St→Prop)]:Prop:=AW P nt c σ Q.out
def jd (P:Program) (nt:Nat):ai→St→(be→St→Prop)→Prop
 | .skip,σ,Q=>Q .normal σ
 | .region gs false,σ,Q=>jq P gs σ (Q .normal)
 | .region gs true,σ,Q=>Xd P nt (.region gs true) σ (Q:=⟨Q⟩)
 | .draw gss,σ,Q=>wG P gss σ (Q .normal)
 |.seq a b,σ,Q=>jd P nt a σ fun
  | .normal,σ=>jd P nt b σ Q
  | .exit i,σ=>Q (.exit i) σ
  | .ret,σ=>Q .ret σ
 |.cond c a b,σ,Q=>match c.ev σ.fr with
  | .c (.pure (.val (.bool t)))=>iT t (A:=⟨jd P nt a σ Q⟩) (B:=⟨jd P nt b σ Q⟩)
  |_=>False
 |.block id a,σ,Q=>jd P nt a σ fun
  | .normal,σ=>Q .normal σ
  | .exit i,σ=>if i=id then Q .normal σ else Q (.exit i) σ
  | .ret,σ=>Q .ret σ
 | .loop a,σ,Q=>Xd P nt (.loop a) σ (Q:=⟨Q⟩)
 | .rangeF f ps x y,σ,Q=>Xd P nt (.rangeF f ps x y) σ (Q:=⟨Q⟩)
 | .exit i,σ,Q=>Q (.exit i) σ
 | .ret,σ,Q=>Q .ret σ
theorem aa {P:Program} {nt:Nat}: ∀{c:ai} {σ:St} {Q:be→St→Prop},jd P nt c σ Q→AW P nt c σ Q
 | .skip,σ,Q,h=>mh h
 | .region gs false,σ,Q,h=>zI h
 | .region gs true,σ,Q,h=>h
 | .draw gss,σ,Q,h=>Ow h
 |.seq a b,σ,Q,h=>by
  simp only[jd]at h
  refine bO ((aa (c:=a) h).mono ?_)
  intro e σ h
  cases e with
  |normal=>exact aa (c:=b) h
  |exit i=>exact h
  |ret=>exact h
 |.cond c a b,σ,Q,h=>by
  simp only[jd]at h
  split at h
  ·exact fb ‹_› (fun e=>aa (c:=a) (h.1 e)) (fun e=>aa (c:=b) (h.2 e))
  ·exact h.elim
 |.block id a,σ,Q,h=>by
  simp only[jd]at h
  refine tT ((aa (c:=a) h).mono ?_)
  intro e σ h
  cases e with
  |normal=>exact h
  |exit i=>exact h
  |ret=>exact h
 | .loop a,σ,Q,h=>h
 | .rangeF f ps x y,σ,Q,h=>h
 | .exit i,σ,Q,h=>OU h
 | .ret,σ,Q,h=>oS h
theorem Q3 {P:Program} {nt:Nat} {c:ai} {σ:St} {Q:be→St→Prop} (t:Nat) (h:ie (aH σ.fr t)→AW P nt c σ Q):AW P nt c σ Q:=
 fun c' hc w0 U rd ds ι a w hrd hs hz=>h (Le (hs.val t)) c' hc w0 U rd ds ι a w hrd hs hz
theorem ah {P:Program} {g z:Bool} {f:FuncId} {args pargs:List AV} {σ:St} {K:nF (AV→St→Prop)} {res:AV} (h:ac P f pargs res) (hp:aZ σ.mem args=some pargs) (hs:od res=true∨args.all fY=true) (hk:K.out res σ): @wV P g z f args σ K:=
 ⟨[],σ,args,.inl rfl,rfl,.inl ⟨pargs,hp,res,.inl ⟨h,hs⟩,hk⟩⟩
theorem bS {P:Program} {g z:Bool} {f:FuncId} {args pargs:List AV} {σ:St} {K:nF (AV→St→Prop)} {res:AV} (h:ac P f pargs res) (hp:aZ σ.mem args=some pargs) (hs:args.all fY=true) (hk:K.out res σ): @wV P g z f args σ K:=ah h hp (.inr hs) hk
theorem av {P:Program} {g z:Bool} {f:FuncId} {args pargs:List AV} {σ:St} {K:nF (AV→St→Prop)} {res:AV} (h:ac P f pargs res) (hp:aZ σ.mem args=some pargs) (hs:od res=true) (hk:K.out res σ): @wV P g z f args σ K:=ah h hp (.inl hs) hk
theorem aq {P:Program} {z:Bool} {f:FuncId} {args:List AV} {σ:St} {K:nF (AV→St→Prop)} {res:AV} {mem':List (Nat×aS)} {nx':Nat} (h:am P f args σ.mem σ.nx res mem' nx') (hk:K.out res {σ with mem:=mem',nx:=nx'}): @wV P true z f args σ K:=
 ⟨[],σ,args,.inl rfl,rfl,.inr ⟨rfl,res,mem',nx',h,hk⟩⟩
theorem UY (l:List Nat) {P:Program} {g:Bool} {f:FuncId} {args args' pargs:List AV} {σ σ':St} {K:nF (AV→St→Prop)} {res:AV} (h:ac P f pargs res) (hz:bo l σ args=(σ',args')) (hp:aZ σ'.mem args'=some pargs) (hs:od res=true∨args'.all fY=true) (hk:K.out res σ'): @wV P g true f args σ K:=
 ⟨l,σ',args',.inr rfl,hz,.inl ⟨pargs,hp,res,.inl ⟨h,hs⟩,hk⟩⟩
theorem ri (l:List Nat) {P:Program} {nt:Nat} {c:ai} {σ:St} {Q:be→St→Prop} (h:AW P nt c (bo l σ []).1 Q):AW P nt c σ Q:=
 fun c' hc w0 U rd ds ι a w hrd hs hz=>h c' hc w0 U rd ds ι a w hrd (vf (l:=l) (args:= []) (us:= []) hs .nil rfl).1 hz
theorem WC (nm e sz:Nat) (rows:List (List PC)) {P:Program} {nt:Nat} {c:ai} {σ:St} {Q:be→St→Prop} (hf:ak σ.mem nm=some (.arr e sz rows)) (h:AW P nt c {σ with mem:=cE σ.mem nm (.arn e sz (rows.map fun r=>r.map .pure))} Q):AW P nt c σ Q:=
 fun c' hc w0 U rd ds ι a w hrd hs hz=>h c' hc w0 U rd ds ι a w hrd (hs.rebox hf (by
  obtain⟨cells,g0,g1,g2,g3,g4,g5⟩:=hs.box _ _ hf
  refine⟨cells,g0,by rw[List.length_map];exact g1,by rw[List.length_map];exact g2,by rw[List.length_map];exact g3,fun i row hi=> ?_,fun i row j p hi hj=> ?_⟩
  ·rw[List.getElem?_map,Option.map_eq_some_iff]at hi
   obtain⟨r,hi,rfl⟩:=hi
   rw[List.length_map]
   exact g4 _ _ hi
  ·rw[List.getElem?_map,Option.map_eq_some_iff]at hi
   obtain⟨r,hi,rfl⟩:=hi
   rw[List.getElem?_map,Option.map_eq_some_iff]at hj
   obtain⟨q,hj,rfl⟩:=hj
   obtain⟨v,hv,hp⟩:=g5 _ _ _ _ hi hj
   exact⟨v,hv,.pure hp⟩)) hz
theorem V5 (nm e sz:Nat) (rows:List (List PC)) {P:Program} {nt:Nat} {c:ai} {σ:St} {Q:be→St→Prop} (hf:ak σ.mem nm=some (.arn e sz (rows.map fun r=>r.map .pure))) (h:AW P nt c {σ with mem:=cE σ.mem nm (.arr e sz rows)} Q):AW P nt c σ Q:=
 fun c' hc w0 U rd ds ι a w hrd hs hz=>h c' hc w0 U rd ds ι a w hrd (hs.rebox hf (by
  obtain⟨cells,g0,g1,g2,g3,g4,g5⟩:=hs.box _ _ hf
  rw[List.length_map]at g1 g2 g3
  refine⟨cells,g0,g1,g2,g3,fun i row hi=> ?_,fun i row j p hi hj=> ?_⟩
  ·have:=g4 i _ (by rw[List.getElem?_map,hi];rfl)
   rwa [List.length_map]at this
  ·obtain⟨v,hv,hp⟩:=g5 i _ j _ (by rw[List.getElem?_map,hi];rfl) (by rw[List.getElem?_map,hj];rfl)
   cases hp with
   |pure hp=>exact⟨v,hv,hp⟩)) hz
theorem wrap_i64 {x:Int} (h1: -9223372036854775808≤x∧x≤9223372036854775807):IntKind.wrap .i64 x=x:=by
 rw[IntKind.wrap_i64];omega
theorem wrap_u64 {x:Int} (h1:0≤x∧x≤18446744073709551615):IntKind.wrap .u64 x=x:=by
 have:IntKind.wrap .u64 x=x%18446744073709551616:=by simp[IntKind.wrap,IntKind.bits,IntKind.signed]
 rw[this];omega
theorem aU {sz:Nat}:bl sz []:=fun r h=>by cases h
theorem aI {sz:Nat} {r:List PC} (h:r.length=sz):bl sz [r]:=fun x hx=>by
 rw[List.mem_singleton]at hx;rw[hx];exact h
theorem ar {α:Type} {sz:Nat} {f:α→List PC} {l:List α} (h: ∀x,(f x).length=sz):bl sz (l.map f):=fun r hr=>by
 obtain⟨x,_,rfl⟩:=List.mem_map.1 hr;exact h x
abbrev I (n:Int):AV:= .c (.pure (.val (.int .i64 n)))
abbrev B (b:Bool):AV:= .c (.pure (.val (.bool b)))
abbrev S (s:ByteArray):AV:= .c (.pure (.val (.string s)))
abbrev su (xs:List Int):PC:= .slice (xs.map fun n=> [.val (.int .i64 n)])
abbrev du (xs:List Int):AV:= .c (.pure (su xs))
section
variable {P : Program} {nt : Nat} {σ : St} {Q : be → St → Prop} {K : St → Prop}
theorem P7:jd P nt .skip σ Q=Q .normal σ:=propext ⟨id,id⟩
theorem Ma {gs:List AG}:jd P nt (.region gs false) σ Q=jq P gs σ (Q .normal):=propext ⟨id,id⟩
theorem P6 {gs:List AG}:jd P nt (.region gs true) σ Q=Xd P nt (.region gs true) σ (Q:=⟨Q⟩):=propext ⟨id,id⟩
theorem MP {gss:List (List (Bool×AG))}:jd P nt (.draw gss) σ Q=wG P gss σ (Q .normal):=propext ⟨id,id⟩
theorem Q9 {a b:ai}:jd P nt (.seq a b) σ Q=jd P nt a σ (fun e σ=>match e with
  | .normal=>jd P nt b σ Q
  | .exit i=>Q (.exit i) σ
  | .ret=>Q .ret σ):=by
 simp only[jd]
 congr 1
 funext e σ
 cases e<;>rfl
theorem Pe {c:AX} {a b:ai}:jd P nt (.cond c a b) σ Q=match c.ev σ.fr with
  | .c (.pure (.val (.bool t)))=>iT t (A:=⟨jd P nt a σ Q⟩) (B:=⟨jd P nt b σ Q⟩)
  |_=>False:=propext ⟨id,id⟩
theorem MN {id:Nat} {a:ai}:jd P nt (.block id a) σ Q=jd P nt a σ (fun e σ=>match e with
  | .normal=>Q .normal σ
  | .exit i=>if i=id then Q .normal σ else Q (.exit i) σ
  | .ret=>Q .ret σ):=by
 simp only[jd]
 congr 1
 funext e σ
 cases e<;>rfl
theorem Ky {f:AX} {ps:List Nat} {x y:ai}:jd P nt (.rangeF f ps x y) σ Q=Xd P nt (.rangeF f ps x y) σ (Q:=⟨Q⟩):=propext ⟨id,id⟩
theorem PX {a:ai}:jd P nt (.loop a) σ Q=Xd P nt (.loop a) σ (Q:=⟨Q⟩):=propext ⟨id,id⟩
theorem PI {i:Nat}:jd P nt (.exit i) σ Q=Q (.exit i) σ:=propext ⟨id,id⟩
theorem SJ:jd P nt .ret σ Q=Q .ret σ:=propext ⟨id,id⟩
theorem QI:jq P [] σ K=K σ:=propext ⟨id,id⟩
theorem PJ {d:Option Nat} {op:eL} {r:List AG}:jq P (⟨d,none,op⟩::r) σ K=bn P op σ fun v σ'=>jq P r (σ'.put d v) K:=propext ⟨id,id⟩
theorem M6 {d:Option Nat} {op:eL} {t:Nat} {want:Bool} {r:List AG}:jq P (⟨d,some (t,want),op⟩::r) σ K=match aH σ.fr t with
  | .c (.pure (.val (.bool b)))=>iT (b==want) (A:=⟨bn P op σ fun v σ'=>jq P r (σ'.put d v) K⟩) (B:=⟨jq P r (σ.put d (.tup [])) K⟩)
  | .tup []=>jq P r (σ.put d (.tup [])) K
  |_=>False:=propext ⟨id,id⟩
theorem SL:je P [] σ K=K σ:=propext ⟨id,id⟩
theorem PK {d:Option Nat} {op:eL} {r:List (Bool×AG)}:je P ((false,⟨d,none,op⟩)::r) σ K=bn P op σ fun v σ'=>je P r (σ'.put d v) K:=by
 have e: ∀(p:Prop),(@cw (false=true→p)=fun K=>K.out):=fun p=>funext fun K=>JF (fun e=>by cases e)
 simp only[je,e]
theorem PH {d:Option Nat} {op:eL} {r:List (Bool×AG)}:je P ((true,⟨d,none,op⟩)::r) σ K=bn P op σ fun v σ'=>cw (I1 σ.mem σ'.mem) (K:=⟨je P r (σ'.put d v) K⟩):=by
 simp only[je,forall_const]
theorem Nj {d:Option Nat} {x:Bool} {op:eL} {t:Nat} {want:Bool} {r:List (Bool×AG)}:je P ((x,⟨d,some (t,want),op⟩)::r) σ K=match aH σ.fr t with
  | .c (.pure (.val (.bool b)))=>iT (b==want) (A:=⟨je P ((x,⟨d,none,op⟩)::r) σ K⟩) (B:=⟨je P r (σ.put d (.tup [])) K⟩)
  | .tup []=>je P r (σ.put d (.tup [])) K
  |_=>False:=propext ⟨id,id⟩
theorem Pn {gs:List (Bool×AG)}:wG P [gs] σ K=je P gs σ K:=propext ⟨id,id⟩
theorem Pm {gs hs:List (Bool×AG)} {r:List (List (Bool×AG))}:wG P (gs::hs::r) σ K=RN (A:=⟨je P gs σ K⟩) (B:=⟨wG P (hs::r) σ K⟩):=propext ⟨id,id⟩
theorem Qk {m:List (Nat×aS)}:I1 m m=True:=eq_true (.inl rfl)
theorem PG {m:List (Nat×aS)} {n:Nat} {b:aS}:I1 m ((n,b)::m)=(ak m n=none):=propext ⟨fun h=>by
 rcases h with h|⟨n',b',h1,h2⟩
 ·have:=congrArg List.length h
  simp at this
 ·cases h1
  exact h2,fun h=> .inr ⟨n,b,rfl,h⟩⟩
end
section
variable {P : Program} {σ : St} {K : AV → St → Prop}
theorem V4 {x:AX}:bn P (.mv x) σ K=(K (x.ev σ.fr) σ):=propext ⟨id,id⟩
theorem SV {c:AX} {a:AX} {b:AX}:bn P (.pick c a b) σ K=(match c.ev σ.fr with
  | .c (.pure (.val (.bool t)))=>iT t (A:=⟨K (a.ev σ.fr) σ⟩) (B:=⟨K (b.ev σ.fr) σ⟩)
  |_=>False):=propext ⟨id,id⟩
theorem T4 {x:AX}:bn P (.box x) σ K=(match (x.ev σ.fr).cells with
  |some xs=>K (.c (.ptr σ.nx 0)) {σ with mem:=(σ.nx,.var xs)::σ.mem,nx:=σ.nx+1}
  |none=>False):=propext ⟨id,id⟩
theorem Q7 {n:Option Nat} {p:AX}:bn P (.load n p) σ K=(match p.ev σ.fr with
  |.c q=>match bC σ.mem q with
   |some xs=>match n with
    |none=>match xs with
     |x::_=>K (.c x) σ
     | []=>False
    |some n=>cw (n≤xs.length) (K:=⟨K (.agg (xs.take n)) σ⟩)
   |none=>False
  |_=>False):=propext ⟨id,id⟩
theorem Pb {n:Nat} {p:AX} {v:AX}:bn P (.store n p v) σ K=(match (v.ev σ.fr).cells,p.ev σ.fr with
  |some ys,.c (.ptr nm off)=>match ak σ.mem nm with
   |some (.var xs)=>cw (ys.length=n∧off+n≤xs.length) (K:=⟨K (.tup []) {σ with mem:=cE σ.mem nm (.var (over xs off ys))}⟩)
   |_=>False
  |some ys,.c (.eptr nm sz row off)=>match ak σ.mem nm with
   |some (.arr e sz' rows)=>cw (sz=sz'∧ys.length=n∧off+n≤sz) (K:=⟨fS (GJ ys) (K:=⟨fun zs=>fS rows[row]? (K:=⟨fun r=>
     K (.tup []) {σ with mem:=cE σ.mem nm (.arr e sz (rows.set row (over r off zs)))}⟩)⟩)⟩)
   |some (.arn e sz' rows)=>cw (sz=sz'∧ys.length=n∧off+n≤sz) (K:=⟨fS rows[row]? (K:=⟨fun r=>
     K (.tup []) {σ with mem:=cE σ.mem nm (.arn e sz (rows.set row (over r off ys)))}⟩)⟩)
   |_=>False
  |_,_=>False):=propext ⟨id,id⟩
theorem Uo {op:BinOp} {x:AX} {y:AX}:bn P (.bin op x y) σ K=(match x.ev σ.fr,y.ev σ.fr with
  |.c (.pure (.val a)),.c (.pure (.val b))=>match op with
   | .shl| .shr=>nh op a b fun v=>K (.c (.pure (.val v))) σ
   |_=>Af op a b fun v=>K (.c (.pure (.val v))) σ
  |_,_=>False):=propext ⟨id,id⟩
theorem T6 {neg:Bool} {x:AX} {y:AX}:bn P (.eqb neg x y) σ K=(match x.ev σ.fr,y.ev σ.fr with
  | .c (.pure (.val (.bool a))),.c (.pure (.val (.bool b)))=>K (.c (.pure (.val (.bool ((a==b) !=neg))))) σ
  |_,_=>False):=propext ⟨id,id⟩
theorem Uj {neg:Bool} {l:List ET} {x:AX} {y:AX}:bn P (.eqs neg l x y) σ K=(match x.ev σ.fr,y.ev σ.fr with
  | .agg xs,.agg ys=>cw (Fe l xs ys) (K:=⟨K (.c (.pure (.val (.bool (qD (J3 xs ys) !=neg))))) σ⟩)
  |_,_=>False):=propext ⟨id,id⟩
theorem TB {op:UnOp} {x:AX}:bn P (.un op x) σ K=(match op,x.ev σ.fr with
  | .not,.c (.pure (.val (.bool b)))=>K (.c (.pure (.val (.bool (!b))))) σ
  | .neg,.c (.pure (.val (.int k n)))=>K (.c (.pure (.val (.int k (k.wrap (0-n)))))) σ
  | .xor,.c (.pure (.val (.int k n)))=>K (.c (.pure (.val (.int k (k.wrap (BitVec.ofInt k.bits (if k.signed then-1 else k.max)^^^BitVec.ofInt k.bits n).toNat))))) σ
  |_,_=>False):=propext ⟨id,id⟩
theorem QP {k:IntKind} {x:AX}:bn P (.conv k x) σ K=(match x.ev σ.fr with
  | .c (.pure (.val (.int _ n)))=>K (.c (.pure (.val (.int k (k.wrap n))))) σ
  |_=>False):=propext ⟨id,id⟩
theorem My {off:Nat} {p:AX}:bn P (.fieldA off p) σ K=(match p.ev σ.fr with
  | .c (.ptr nm o)=>K (.c (.ptr nm (o+off))) σ
  | .c (.cptr cells)=>K (.c (.cptr (cells.drop off))) σ
  | .c (.eptr nm sz row o)=>K (.c (.eptr nm sz row (o+off))) σ
  |_=>False):=propext ⟨id,id⟩
theorem PO {off:Nat} {n:Option Nat} {x:AX}:bn P (.field off n x) σ K=(match x.ev σ.fr with
  |.agg xs=>match n with
   |none=>match xs.drop off with
    |x::_=>K (.c x) σ
    | []=>False
   |some n=>cw (off+n≤xs.length) (K:=⟨K (.agg ((xs.drop off).take n)) σ⟩)
  |_=>False):=propext ⟨id,id⟩
theorem Q8 {sz:Nat} {x:AX} {i:AX}:bn P (.idxA sz x i) σ K=(match x.ev σ.fr,i.ev σ.fr with
  | .c (.pure (.slice rows)),.c (.pure (.val (.int _ i)))| .c (.tsl rows),.c (.pure (.val (.int _ i)))=>cw (0≤i) (K:=⟨fS rows[i.toNat]? (K:=⟨fun r=>cw (r.length=sz∧0<sz) (K:=⟨K (.c (.cptr r)) σ⟩)⟩)⟩)
  |.c (.ref nm),.c (.pure (.val (.int _ i)))=>match ak σ.mem nm with
   |some (.arr _ sz' rows)=>cw (sz'=sz∧0<sz∧0≤i∧i<rows.length) (K:=⟨K (.c (.eptr nm sz i.toNat 0)) σ⟩)
   |some (.arn _ sz' rows)=>cw (sz'=sz∧0<sz∧0≤i∧i<rows.length) (K:=⟨K (.c (.eptr nm sz i.toNat 0)) σ⟩)
   |_=>False
  |_,_=>False):=propext ⟨id,id⟩
theorem RR {len:Nat} {sz:Nat} {x:AX} {i:AX}:bn P (.idxR len sz x i) σ K=(match x.ev σ.fr,i.ev σ.fr with
  | .c (.ptr nm o),.c (.pure (.val (.int _ i)))=>cw (0≤i∧i<len) (K:=⟨K (.c (.ptr nm (o+i.toNat*sz))) σ⟩)
  | .c (.cptr cells),.c (.pure (.val (.int _ i)))=>cw (0≤i∧i<len) (K:=⟨K (.c (.cptr (cells.drop (i.toNat*sz)))) σ⟩)
  |_,_=>False):=propext ⟨id,id⟩
theorem Rd {x:AX}:bn P (.nilc x) σ K=(match x.ev σ.fr with
  | .c (.ptr nm o)=>K (.c (.ptr nm o)) σ
  | .c (.cptr cells)=>K (.c (.cptr cells)) σ
  | .c (.eptr nm sz row o)=>K (.c (.eptr nm sz row o)) σ
  | .c (.clo f caps)=>K (.c (.clo f caps)) σ
  |_=>False):=propext ⟨id,id⟩
theorem QB {x:AX} {i:AX}:bn P (.idxS x i) σ K=(match x.ev σ.fr,i.ev σ.fr with
  | .c (.pure (.val (.string s))),.c (.pure (.val (.int _ i)))=>cw (0≤i) (K:=⟨fS s[i.toNat]? (K:=⟨fun b=>K (.c (.pure (.val (.int .u8 b.toNat)))) σ⟩)⟩)
  |_,_=>False):=propext ⟨id,id⟩
theorem Pg {zero:List AC} {parts:List (Nat×Nat×AX)}:bn P (.build zero parts) σ K=(bn.buildW σ parts zero fun xs=>K (.agg xs) σ):=propext ⟨id,id⟩
theorem NE {sz:Nat} {rows:List AX}:bn P (.bslice sz rows) σ K=(bn.bsliceW σ sz rows [] fun rs=>K (.c (.tsl rs)) σ):=propext ⟨id,id⟩
theorem LO {e:Nat} {sz:Nat} {bytes:Nat} {zero:List PC} {l:AX}:bn P (.mkslice e sz bytes zero l) σ K=(match l.ev σ.fr with
  | .c (.pure (.val (.int .i64 n)))=>cw (0≤n∧n≤281474976710656∧bytes*n≤281474976710656) (K:=⟨
    K (.c (.ref σ.nx)) {σ with mem:=(σ.nx,.arr e sz (List.replicate n.toNat zero))::σ.mem,nx:=σ.nx+1}⟩)
  |_=>False):=propext ⟨id,id⟩
theorem U6 {sz:Nat} {x:AX} {lo:Option AX} {hi:Option AX} {mx:Option AX}:bn P (.slc sz x lo hi mx) σ K=(match x.ev σ.fr with
  | .c (.ref _)=>False
  |v=>fS (eS σ.mem v) (K:=⟨fun rows=>fS (bn.boundOf σ lo) (K:=⟨fun lo=>fS (bn.boundOf σ hi) (K:=⟨fun hi=>fS (bn.boundOf σ mx) (K:=⟨fun mx=>
   cw (bl sz rows∧0≤lo.getD 0∧lo.getD 0≤hi.getD rows.length∧hi.getD rows.length≤mx.getD rows.length∧mx.getD rows.length≤rows.length) (K:=⟨
   K (.c (if mx.isSome=true∧mx=hi then .tsl ((rows.take (hi.getD rows.length).toNat).drop (lo.getD 0).toNat)else .pure (.slice ((rows.take (hi.getD rows.length).toNat).drop (lo.getD 0).toNat)))) σ⟩)⟩)⟩)⟩)⟩)):=propext ⟨id,id⟩
theorem TA {x:AX} {lo:Option AX} {hi:Option AX}:bn P (.slcS x lo hi) σ K=(match x.ev σ.fr,bn.boundOf σ lo,bn.boundOf σ hi with
  |.c (.pure (.val (.string s))),some lo,some hi=>cw (0≤lo.getD 0∧lo.getD 0≤hi.getD s.size∧hi.getD s.size≤s.size) (K:=⟨
   K (.c (.pure (.val (.string (s.extract (lo.getD 0).toNat (hi.getD s.size).toNat))))) σ⟩)
  |_,_,_=>False):=propext ⟨id,id⟩
theorem UH {x:AX} {i:Nat}:bn P (.ext x i) σ K=(match x.ev σ.fr with
  | .tup vs=>fS vs[i]? (K:=⟨fun v=>K v σ⟩)
  |_=>False):=propext ⟨id,id⟩
theorem Up {x:AX}:bn P (.len x) σ K=(match x.ev σ.fr with
  | .c (.pure (.slice rows))| .c (.tsl rows)=>K (.c (.pure (.val (.int .i64 rows.length)))) σ
  | .c .nils=>K (.c (.pure (.val (.int .i64 0)))) σ
  |.c (.ref nm)=>match ak σ.mem nm with
   |some (.arr _ _ rows)=>K (.c (.pure (.val (.int .i64 rows.length)))) σ
   |some (.arn _ _ rows)=>K (.c (.pure (.val (.int .i64 rows.length)))) σ
   |_=>False
  |_=>False):=propext ⟨id,id⟩
theorem Sh {x:AX}:bn P (.lenS x) σ K=(match x.ev σ.fr with
  | .c (.pure (.val (.string s)))=>K (.c (.pure (.val (.int .i64 s.size)))) σ
  |_=>False):=propext ⟨id,id⟩
theorem WA {mx:Bool} {x:AX} {y:AX}:bn P (.mm mx x y) σ K=(match x.ev σ.fr,y.ev σ.fr with
  | .c (.pure (.val (.int k a))),.c (.pure (.val (.int _ b)))=>K (.c (.pure (.val (.int k (if mx=true then max a b else min a b))))) σ
  |_,_=>False):=propext ⟨id,id⟩
theorem UX {x y z t:AX}:bn P (.mm4 x y z t) σ K=(match x.ev σ.fr,y.ev σ.fr,z.ev σ.fr,t.ev σ.fr with
  | .c (.pure (.val (.int k a))),.c (.pure (.val (.int _ b))),.c (.pure (.val (.int _ c))),.c (.pure (.val (.int _ d)))=>K (.c (.pure (.val (.int k (max (max (max a b) c) d))))) σ
  |_,_,_,_=>False):=propext ⟨id,id⟩
theorem Q4:bn P .dead σ K=False:=propext ⟨id,id⟩
theorem Rv {neg:Bool} {x:AX}:bn P (.fnil neg x) σ K=(match x.ev σ.fr with
  | .c (.clo _ _)=>K (.c (.pure (.val (.bool neg)))) σ
  | .c (.pure (.val .nilFunc))=>K (.c (.pure (.val (.bool (!neg))))) σ
  |_=>False):=propext ⟨id,id⟩
theorem Sy {neg:Bool} {x:AX}:bn P (.snil neg x) σ K=(match x.ev σ.fr with
  | .c .nils=>K (.c (.pure (.val (.bool (!neg))))) σ
  | .c (.pure (.slice rows))| .c (.tsl rows)=>Gt rows (A:=⟨K (.c (.pure (.val (.bool (!neg))))) σ⟩) (B:=⟨K (.c (.pure (.val (.bool neg)))) σ⟩)
  |.c (.ref nm)=>match ak σ.mem nm with
   |some (.arr _ _ rows)=>Gt rows (A:=⟨K (.c (.pure (.val (.bool (!neg))))) σ⟩) (B:=⟨K (.c (.pure (.val (.bool neg)))) σ⟩)
   |_=>False
  |_=>False):=propext ⟨id,id⟩
theorem Un {e:Nat} {sz:Nat} {bytes:Nat} {x:AX} {y:AX}:bn P (.app e sz bytes x y) σ K=(fS (eS σ.mem (y.ev σ.fr)) (K:=⟨fun ys=>Cp e sz bytes (x.ev σ.fr) (y.ev σ.fr) ys σ (K:=⟨K⟩)⟩)):=propext ⟨id,id⟩
theorem SK {f:FuncId} {caps:List AX}:bn P (.mkfn f caps) σ K=(bn.mkfnW σ caps [] fun xs=>K (.c (.clo f xs)) σ):=propext ⟨id,id⟩
theorem QM {g z:Bool} {f:AX} {args:List AX}:bn P (.call g z f args) σ K=(match f.ev σ.fr with
  | .c (.clo f caps)=>wV P g z f (args.map (·.ev σ.fr)++caps.map .c) σ (K:=⟨K⟩)
  |_=>False):=propext ⟨id,id⟩
theorem Li {sz:Nat} {rows:List AX}:bn P (.bsliceF sz rows) σ K=(bn.bsliceFW σ sz rows σ.mem [] fun rs mem=>K (.c (.tsl rs)) {σ with mem:=mem}):=propext ⟨id,id⟩
theorem Pz {kt:KT} {n:Option Nat}:bn P (.mkmap kt n) σ K=(K (.c (.mref σ.nx)) {σ with mem:=(σ.nx,.map kt n [])::σ.mem,nx:=σ.nx+1}):=propext ⟨id,id⟩
theorem Rz {kt:KT} {n:Option Nat} {zero:List AC} {ok:Bool} {m:AX} {k:AX}:bn P (.mget kt n zero ok m k) σ K=(match k.ev σ.fr with
  |.c (.pure (.val kv))=>fS (Gw kt kv) (K:=⟨fun mk=>match m.ev σ.fr with
   |.c (.mref nm)=>match ak σ.mem nm with
    |some (.map kt' n' ents)=>cw (kt'=kt∧n'=n) (K:=⟨tv (ij ents mk) (A:=⟨fun ps=>K (if ok=true then .tup [eV n ps,.c (.pure (.val (.bool true)))]else eV n ps) σ⟩)
     (B:=⟨K (if ok=true then .tup [eV n zero,.c (.pure (.val (.bool false)))]else eV n zero) σ⟩)⟩)
    |_=>False
   | .c (.pure (.fmap kt' n' es))=>cw (kt'=kt∧n'=n) (K:=⟨tv (ij (oT es) mk) (A:=⟨fun ps=>K (if ok=true then .tup [eV n ps,.c (.pure (.val (.bool true)))]else eV n ps) σ⟩)
     (B:=⟨K (if ok=true then .tup [eV n zero,.c (.pure (.val (.bool false)))]else eV n zero) σ⟩)⟩)
   |_=>False⟩)
  |_=>False):=propext ⟨id,id⟩
theorem Rm {kt:KT} {n:Option Nat} {m:AX} {k:AX} {v:AX}:bn P (.mput kt n m k v) σ K=(match k.ev σ.fr with
  |.c (.pure (.val kv))=>fS (Gw kt kv) (K:=⟨fun mk=>match m.ev σ.fr with
   |.c (.mref nm)=>fS (AO n (v.ev σ.fr)) (K:=⟨fun ys=>match ak σ.mem nm with
    |some (.map kt' n' ents)=>cw (kt'=kt∧n'=n) (K:=⟨K (.tup []) {σ with mem:=cE σ.mem nm (.map kt n (zX ents mk ys))}⟩)
    |_=>False⟩)
   |_=>False⟩)
  |_=>False):=propext ⟨id,id⟩
end
section
variable {P : Program} {σ : St}
theorem KZ {sz:Nat} {acc:List (List PC)} {K:List (List PC)→Prop}:bn.bsliceW σ sz [] acc K=K acc:=propext ⟨id,id⟩
theorem Jk {sz:Nat} {x:AX} {r:List AX} {acc:List (List PC)} {K:List (List PC)→Prop}:bn.bsliceW σ sz (x::r) acc K=(match (x.ev σ.fr).cells with
   |some ys=>fS (GJ ys) (K:=⟨fun zs=>cw (ys.length=sz) (K:=⟨bn.bsliceW σ sz r (acc++ [zs]) K⟩)⟩)
   |none=>False):=propext ⟨id,id⟩
theorem IS {sz:Nat} {mem:List (Nat×aS)} {acc:List (List PC)} {K:List (List PC)→List (Nat×aS)→Prop}:bn.bsliceFW σ sz [] mem acc K=K acc mem:=propext ⟨id,id⟩
theorem Gr {sz:Nat} {x:AX} {r:List AX} {mem:List (Nat×aS)} {acc:List (List PC)} {K:List (List PC)→List (Nat×aS)→Prop}:bn.bsliceFW σ sz (x::r) mem acc K=(match (x.ev σ.fr).cells with
   |some ys=>fS (Fi mem ys) (K:=⟨fun z=>cw (ys.length=sz) (K:=⟨bn.bsliceFW σ sz r z.2 (acc++ [z.1]) K⟩)⟩)
   |none=>False):=propext ⟨id,id⟩
theorem MD {acc:List AC} {K:List AC→Prop}:bn.buildW σ [] acc K=K acc:=propext ⟨id,id⟩
theorem LM {off n:Nat} {x:AX} {r:List (Nat×Nat×AX)} {acc:List AC} {K:List AC→Prop}:bn.buildW σ ((off,n,x)::r) acc K=(match (x.ev σ.fr).cells with
   |some ys=>cw (ys.length=n∧off+n≤acc.length) (K:=⟨bn.buildW σ r (over acc off ys) K⟩)
   |none=>False):=propext ⟨id,id⟩
theorem Pp {acc:List AC} {K:List AC→Prop}:bn.mkfnW σ [] acc K=K acc:=propext ⟨id,id⟩
theorem NC {x:AX} {r:List AX} {acc:List AC} {K:List AC→Prop}:bn.mkfnW σ (x::r) acc K=(match x.ev σ.fr with
   | .c y=>bn.mkfnW σ r (acc++ [y]) K
   |_=>False):=propext ⟨id,id⟩
end
def Wz (n:Nat) (a b:Int):Int:=(BitVec.ofInt n a&&&BitVec.ofInt n b).toNat
def Zo (n:Nat) (a b:Int):Int:=(BitVec.ofInt n a|||BitVec.ofInt n b).toNat
def YT (n:Nat) (a b:Int):Int:=(BitVec.ofInt n a^^^BitVec.ofInt n b).toNat
def Yg (n:Nat) (a b:Int):Int:=(BitVec.ofInt n a&&& ~~~BitVec.ofInt n b).toNat
section
variable {k : IntKind} {a b : Int} {s u : ByteArray} {K : Value → Prop}
theorem QQ:mO .add k a b K=K (.int k (k.wrap (a+b))):=propext ⟨id,id⟩
theorem Ru:mO .sub k a b K=K (.int k (k.wrap (a-b))):=propext ⟨id,id⟩
theorem R6:mO .mul k a b K=K (.int k (k.wrap (a*b))):=propext ⟨id,id⟩
theorem SU:mO .quo k a b K=cw (b≠0) (K:=⟨K (.int k (k.wrap (a.tdiv b)))⟩):=propext ⟨id,id⟩
theorem Ra:mO .rem k a b K=cw (b≠0) (K:=⟨K (.int k (a.tmod b))⟩):=propext ⟨id,id⟩
theorem Ta:mO .and k a b K=K (.int k (k.wrap (Wz k.bits a b))):=propext ⟨id,id⟩
theorem Va:mO .or k a b K=K (.int k (k.wrap (Zo k.bits a b))):=propext ⟨id,id⟩
theorem RE:mO .xor k a b K=K (.int k (k.wrap (YT k.bits a b))):=propext ⟨id,id⟩
theorem Kd:mO .andNot k a b K=K (.int k (k.wrap (Yg k.bits a b))):=propext ⟨id,id⟩
theorem QS:mO .eql k a b K=K (.bool (a==b)):=propext ⟨id,id⟩
theorem QV:mO .neq k a b K=K (.bool (a !=b)):=propext ⟨id,id⟩
theorem RI:mO .lss k a b K=K (.bool (decide (a<b))):=propext ⟨id,id⟩
theorem QO:mO .leq k a b K=K (.bool (decide (a≤b))):=propext ⟨id,id⟩
theorem R5:mO .gtr k a b K=K (.bool (decide (a>b))):=propext ⟨id,id⟩
theorem R7:mO .geq k a b K=K (.bool (decide (a≥b))):=propext ⟨id,id⟩
theorem Tr:xo .add s u K=cw (s.size+u.size≤9223372036854775807) (K:=⟨K (.string (s++u))⟩):=propext ⟨id,id⟩
theorem Sq:xo .eql s u K=K (.bool (s.toList==u.toList)):=propext ⟨id,id⟩
theorem RC:xo .neq s u K=K (.bool (!(s.toList==u.toList))):=propext ⟨id,id⟩
theorem TC:xo .lss s u K=K (.bool (Op.bytesLess s.toList u.toList)):=propext ⟨id,id⟩
theorem Q0:xo .leq s u K=K (.bool (Op.bytesLess s.toList u.toList||s.toList==u.toList)):=propext ⟨id,id⟩
theorem Qt:xo .gtr s u K=K (.bool (!(Op.bytesLess s.toList u.toList||s.toList==u.toList))):=propext ⟨id,id⟩
theorem RJ:xo .geq s u K=K (.bool (!(Op.bytesLess s.toList u.toList))):=propext ⟨id,id⟩
theorem ST {op:BinOp} {k':IntKind}:Af op (.int k a) (.int k' b) K=cw (k=k') (K:=⟨mO op k a b K⟩):=propext ⟨id,id⟩
theorem Rr {op:BinOp}:Af op (.string s) (.string u) K=xo op s u K:=propext ⟨id,id⟩
theorem Nb:sT .shl k a b K=K (.int k (k.wrap (a*2^(min b.toNat k.bits)))):=propext ⟨id,id⟩
theorem MV:sT .shr k a b K=K (.int k (a.fdiv (2^(min b.toNat k.bits)))):=propext ⟨id,id⟩
theorem Nh {op:BinOp} {k':IntKind}:nh op (.int k a) (.int k' b) K=cw (0≤b) (K:=⟨sT op k a b K⟩):=propext ⟨id,id⟩
end
section
variable {σ : St} {K : List AV → Prop} {L : AV → Prop}
theorem Rj {acc:List AV}:jI σ [] acc K=K acc:=propext ⟨id,id⟩
theorem Qa {r:AR} {rs:List AR} {acc:List AV}:jI σ (r::rs) acc K=xm σ r fun v=>jI σ rs (acc++ [v]) K:=propext ⟨id,id⟩
theorem Rc {n:Nat}:xm σ (.t n) L=L (aH σ.fr n):=propext ⟨id,id⟩
theorem KJ {n:Option Nat} {a:Nat}:xm σ (.cell n a) L=(match aH σ.fr a with
  |.c q=>match bC σ.mem q with
   |some xs=>Fv n xs L
   |none=>False
  |_=>False):=propext ⟨id,id⟩
theorem Pv {x:AC} {xs:List AC}:Fv none (x::xs) L=L (.c x):=propext ⟨id,id⟩
theorem Qh {n:Nat} {xs:List AC}:Fv (some n) xs L=cw (n≤xs.length) (K:=⟨L (.agg (xs.take n))⟩):=propext ⟨id,id⟩
end
theorem Sx {σ:St} {v:AV}:σ.put none v=σ:=rfl
theorem Tu {σ:St} {d:Nat} {v:AV}:σ.put (some d) v={σ with fr:=(d,v)::σ.fr}:=rfl
theorem ay {m n:Nat} {v:AV} {r:List (Nat×AV)}:aH ((m,v)::r) n=if m=n then v else aH r n:=by rw[aH]
theorem D4 {mem:List (Nat×aS)}: ∀{l:List PC},we mem (l.map .pure)=some l
 | []=>rfl
 |p::l=>by simp only[List.map_cons,we,ci,D4 (l:=l)]
theorem It {α:Type} {mem:List (Nat×aS)} {k:α→MK} {p:α→PC}: ∀{l:List α},lM mem none (l.map fun x=>(k x, [.pure (p x)]))=some (l.map fun x=>(k x, [p x]))
 | []=>rfl
 |x::l=>by simp only[List.map_cons,lM,oD,ci,It (l:=l)]
theorem Iz {α:Type} {mem:List (Nat×aS)} {k:α→MK} {ps:α→List PC} {m:Nat}: ∀{l:List α},lM mem (some m) (l.map fun x=>(k x,(ps x).map .pure))=some (l.map fun x=>(k x,ps x))
 | []=>rfl
 |x::l=>by simp only[List.map_cons,lM,oD,D4,Iz (l:=l)]
attribute [go_sem ↓] It Iz
attribute [go_sem ↓] P7 Ma P6 MP SL PK PH Nj Pn Pm Qk PG Q9 Pe MN PX Ky PI SJ QI PJ M6 ay
attribute [go_sem ↓] V4 SV T4 Q7 Pb Uo T6 Uj TB QP My PO Q8 RR Rd QB Pg NE LO U6 TA UH Up Sh WA UX Q4 Rv Sy PM Un SK QM Li Pz Rz Rm AX.ev PN PR MX Me Nn Na Sx Tu
attribute [go_sem ↓] QQ Ru R6 SU Ra Ta Va RE Kd QS QV RI QO R5 R7 Tr Sq RC TC Q0 Qt RJ Nb MV
attribute [go_sem] ST Rr Nh KZ Jk IS Gr MD LM Pp NC
attribute [go_sem] Fe J3 bo St.frz o7 AL IV Gu sP bC ak cE lJ AV.cells over aZ ct zl cK cz A2 c6 bu ci we oD lM GJ Y1 Fi Qu eS bn.boundOf aV AO eV Gw MK.val
attribute [go_sem ↓] X5 F3 XS Rj Qa Rc KJ Pv Qh
attribute [go_sem] gE KM VQ ND Vm
open Go.RowKit Go.WideShapes
inductive TS where
 |int (k:IntKind)
 |bool
 |str
 |slice (l:List TS)
inductive Ff:TS→PC→Prop
 |int {k:IntKind} {n:Int} (h:(Lit.int k n).wf=true):Ff (.int k) (.val (.int k n))
 |bool {b:Bool}:Ff .bool (.val (.bool b))
 |str {s:ByteArray} (h:s.size≤maxLen):Ff .str (.val (.string s))
 |slice {l:List TS} {rows:List (List PC)} (hm:rows.length≤maxLen) (hl: ∀r∈rows,r.length=l.length) (h: ∀(r:List PC),r∈rows→ ∀(i:Nat) s p,l[i]? =some s→r[i]? =some p→Ff s p):Ff (.slice l) (.slice rows)
def pV (l:List TS) (ps:List PC):Prop:=ps.length=l.length∧ ∀(i:Nat) s p,l[i]? =some s→ps[i]? =some p→Ff s p
theorem pV.append {l l':List TS} {ps ps':List PC} (h:pV l ps) (h':pV l' ps'):pV (l++l') (ps++ps'):=by
 refine⟨by simp[h.1,h'.1],fun i s p hs hp=> ?_⟩
 by_cases hi:i<l.length
 ·rw[List.getElem?_append_left hi]at hs
  rw[List.getElem?_append_left (by rw[h.1];exact hi)]at hp
  exact h.2 i s p hs hp
 ·rw[List.getElem?_append_right (by omega)]at hs
  rw[List.getElem?_append_right (by rw[h.1];omega),h.1]at hp
  exact h'.2 _ s p hs hp
theorem pV.one {s:TS} {p:PC} (h:Ff s p):pV [s] [p]:=by
 refine⟨rfl,fun i s' p' hs hp=> ?_⟩
 cases i with
 |zero=>simp at hs hp;subst hs;subst hp;exact h
 |succ i=>simp at hs
def Ts (P:Program) (f:TypeId→Option (List TS)):List Field→Nat→Nat→Option (List TS)
 | [],k,m=>if k=m then some []else none
 |fd::r,k,m=>if fd.offset=k then match f fd.type with
  |some l=>if l.length=P.cellsOf fd.type then match Ts P f r (k+l.length) m with
   |some l'=>some (l++l')
   |none=>none else none
  |none=>none else none
def ME (P:Program):Nat→TypeId→Option (List TS)
 |0,_=>none
 |n+1,t=>match P.underlying t with
  |some (.int k)=>some [.int k]
  |some .bool=>some [.bool]
  |some .string=>some [.str]
  |some (.slice e)=>match ME P n e with
   |some l=>if l.length=P.cellsOf e then some [.slice l]else none
   |none=>none
  |some (.struct fs)=>Ts P (ME P n) fs.toList 0 (P.cellsOf t)
  |_=>none
theorem J0 {X:Type} {Q:Nat→X→Prop}: ∀{n:Nat},(∀i,i<n→ ∃x,Q i x)→ ∃l:List X,l.length=n∧ ∀(i:Nat) x,l[i]? =some x→Q i x
 |0,_=>⟨[],rfl,fun i x h=>by simp at h⟩
 |n+1,h=>by
  obtain⟨l,h1,h2⟩:=J0 (n:=n) fun i hi=>h i (by omega)
  obtain⟨x,hx⟩:=h n (by omega)
  refine⟨l++ [x],by simp[h1],fun i y hy=> ?_⟩
  by_cases hi:i<l.length
  ·rw[List.getElem?_append_left hi]at hy
   exact h2 i y hy
  ·rw[List.getElem?_append_right (by omega)]at hy
   have:i=n:=by
    have:=(List.getElem?_eq_some_iff.1 hy).1
    simp at this
    omega
   subst this
   simp[h1]at hy
   subst hy
   exact hx
section
variable {H : Type} {enc : TypeId × Value → H} {P : Program} {W : World} {base : Nat} {sp : Nat → Bool} {held : Bool}
abbrev G7:Nat→Prop:=fun _=>True
theorem Fc {f:TypeId→Option (List TS)} {n:Nat} {cs:List Value} (ih: ∀t l cs x,f t=some l→DataW.trod enc P W base sp held n t cs=some x→ ∃ps,aJ (bZ W G7) ps cs∧pV l ps):
  ∀{fs:List Field} {k m:Nat} {l:List TS},Ts P f fs k m=some l→cs.length=m→(∀fd∈fs,∃x,DataW.trod enc P W base sp held n fd.type ((cs.drop fd.offset).take (P.cellsOf fd.type))=some x)→
   ∃ps,aJ (bZ W G7) ps (cs.drop k)∧pV l ps
 |[],k,m,l,h,hm,_=>by
  unfold Ts at h
  split at h
  ·cases h
   refine⟨[], ?_,rfl,fun i s p hs=>by simp at hs⟩
   rw[List.drop_eq_nil_of_le (by omega)]
   exact .nil
  ·cases h
 |fd::fs,k,m,l,h,hm,hx=>by
  unfold Ts at h
  split at h
  ·rename_i e
   split at h
   ·rename_i l1 h1
    split at h
    ·rename_i hc
     split at h
     ·rename_i l2 h2
      cases h
      obtain⟨x,hx1⟩:=hx fd List.mem_cons_self
      obtain⟨p1,g1,g2⟩:=ih _ _ _ _ h1 hx1
      obtain⟨p2,g3,g4⟩:=Fc ih h2 hm fun fd h=>hx fd (List.mem_cons_of_mem _ h)
      refine⟨p1++p2, ?_,g2.append g4⟩
      have:cs.drop k=(cs.drop k).take (P.cellsOf fd.type)++cs.drop (k+l1.length):=by
       rw[hc,←List.drop_drop,List.take_append_drop]
      rw[this]
      subst e
      exact g1.append g3
     ·cases h
    ·cases h
   ·cases h
  ·cases h
theorem y0: ∀{fuel sf:Nat} {t:TypeId} {l:List TS} {cs:List Value} {x:DataW H×List MemPlace},ME P sf t=some l→DataW.trod enc P W base sp held fuel t cs=some x→ ∃ps,aJ (bZ W G7) ps cs∧pV l ps
 |fuel,0,t,l,cs,x,h,_=>by cases h
 |fuel,sf+1,t,l,cs,x,h,hr=>by
  unfold ME at h
  split at h
  ·rename_i k ht
   cases h
   obtain⟨n,rfl,_,hw⟩:=DataW.trod_int ht hr
   exact⟨[.val (.int k n)],.cons (.val rfl) .nil,.one (.int hw)⟩
  ·rename_i ht
   cases h
   obtain⟨b,rfl,_⟩:=DataW.trod_bool ht hr
   exact⟨[.val (.bool b)],.cons (.val rfl) .nil,.one .bool⟩
  ·rename_i ht
   cases h
   obtain⟨s,rfl,_,hm⟩:=DataW.trod_string ht hr
   exact⟨[.val (.string s)],.cons (.val rfl) .nil,.one (.str hm)⟩
  ·rename_i e ht
   split at h
   ·rename_i l' hl'
    split at h
    ·rename_i hc
     cases h
     rcases DataW.trod_slice ht hr with⟨rfl,_⟩|⟨a,len,cap,elems,rest,n,_,rfl,_,_,hle,hmx,hlen,hel,_,_⟩
     ·exact⟨[.slice []],.cons (.slice (sz:=0) (fun _ _=>undef) rfl (Nat.le_refl _) (by simp) (fun i row h=>by simp at h) (fun i row j p h=>by simp at h) (fun i row j p h=>by simp at h)) .nil,.one (.slice (by simp) (fun r h=>by cases h) (fun r h=>by cases h))⟩
     ·have hall: ∀i,i<len→ ∃x:List PC×List Value,W.cells? base (a.add (i*P.cellsOf e)) (P.cellsOf e)=some x.2∧aJ (bZ W G7) x.1 x.2∧pV l' x.1:=by
       intro i hi
       have h1:=hel i hi
       rw[List.getElem?_eq_getElem (by omega)]at h1
       obtain⟨cs',h2,h3⟩:=Option.bind_eq_some_iff.1 h1
       obtain⟨ps,h4,h5⟩:=y0 hl' h3
       exact⟨(ps,cs'),h2,h4,h5⟩
      obtain⟨L,hL,hQ⟩:=J0 hall
      have row: ∀(i:Nat) r,(L.map Prod.fst)[i]? =some r→ ∃c,L[i]? =some (r,c)∧W.cells? base (a.add (i*P.cellsOf e)) (P.cellsOf e)=some c∧aJ (bZ W G7) r c∧pV l' r:=by
       intro i r hr
       rw[List.getElem?_map]at hr
       obtain⟨y,hy,rfl⟩:=Option.map_eq_some_iff.1 hr
       exact⟨y.2,hy,hQ i y hy⟩
      unfold maxLen at hmx
      refine⟨[.slice (L.map Prod.fst)],.cons (.slice (sz:=P.cellsOf e) (fun i j=>(((L[i]?).map Prod.snd).getD []).getD j undef) (by simp[hL]) hle (by omega) ?_ ?_ ?_) .nil,.one (.slice (by unfold maxLen;simp[hL];omega) ?_ ?_)⟩
      ·intro i r hr
       obtain⟨c,_,_,_,h5⟩:=row i r hr
       rw[h5.1,hc]
      ·intro i r j p hr hp
       obtain⟨c,h1,h2,h3,h5⟩:=row i r hr
       obtain⟨v,hv,_⟩:=h3.get hp
       obtain⟨_,h6,h7⟩:=World.cells?_some h2
       have hj:j<P.cellsOf e:=by
        have:=(List.getElem?_eq_some_iff.1 hv).1
        omega
       have h8:=h7 j hj
       rw[hv]at h8
       obtain⟨b,off,spot⟩:=a
       have hspot:spot=none:=by
        have hi0:0<L.length:=by
         have:=(List.getElem?_eq_some_iff.1 h1).1
         omega
        obtain⟨g1,_,_⟩:=hQ 0 L[0] (List.getElem?_eq_getElem hi0)
        obtain⟨_,g2,g3⟩:=World.cells?_some g1
        have g4:=g3 0 (by omega)
        rw[List.getElem?_eq_getElem (by omega)]at g4
        simpa[Addr.add]using World.cell?_spot g4
       subst hspot
       rw[add_plain,add_plain]at h8
       refine⟨b,off,rfl,trivial, ?_⟩
       rw[←Nat.add_assoc,h8]
       simp[h1,hv]
      ·intro i r j p hr hp
       obtain⟨c,h1,h2,h3,h5⟩:=row i r hr
       obtain⟨v,hv,hrep⟩:=h3.get hp
       simpa[h1,hv]using hrep
      ·intro r hr
       obtain⟨i,hi⟩:=List.mem_iff_getElem?.1 hr
       obtain⟨c,_,_,_,h5⟩:=row i r hi
       exact h5.1
      ·intro r hr
       obtain⟨i,hi⟩:=List.mem_iff_getElem?.1 hr
       obtain⟨c,_,_,_,h5⟩:=row i r hi
       exact h5.2
    ·cases h
   ·cases h
  ·rename_i fs ht
   obtain⟨xs,n,_,_,hl,hlen,hf⟩:=DataW.trod_struct ht hr
   have:=Fc (n:=n) (fun t l cs x h hx=>y0 (sf:=sf) h hx) h hl fun fd hfd=>by
    obtain⟨i,hi⟩:=List.mem_iff_getElem?.1 hfd
    have h1:=hf i fd (by simpa using hi)
    have hi':i<xs.length:=by
     have:=(List.getElem?_eq_some_iff.1 hi).1
     simp at this
     omega
    exact⟨xs[i],by rw[h1,List.getElem?_eq_getElem hi']⟩
   simpa using this
  ·cases h
def Fz (P:Program) (t:TypeId):Bool:=match P.underlying t with
 |some (.struct _)=>true
 |_=>false
def WS (row:Bool) (ps:List PC):AV:=if row then .agg (ps.map .pure)else match ps with
 |p::_=> .c (.pure p)
 | []=> .top
theorem UD {r:Reach} {b0:Nat} {t:TypeId} {v:Value} {d:DataW H} {p:List MemPlace} {sf:Nat} {l:List TS} (hs:ME P sf t=some l) (hval:Value.okWide P W r b0 t v) (h:DataW.Trod enc P W base sp held t v d p):
  ∃ps,pV l ps∧aM W G7 (fun _=>undef) 0 (WS (Fz P t) ps) v:=by
 obtain⟨fuel,hf⟩:=h
 obtain⟨ps,h1,h2⟩:=y0 hs hf
 refine⟨ps,h2, ?_⟩
 have single: ∀{v:Value},v.cells= #[v]→aJ (bZ W G7) ps v.cells.toList→aM W G7 (fun _=>undef) 0 (WS false ps) v:=by
  intro v hv h
  rw[hv]at h
  cases h with
  |cons h t=>exact .c (.pure h)
 cases sf with
 |zero=>cases hs
 |succ sf=>
  unfold ME at hs
  split at hs
  ·rename_i k ht
   obtain⟨n,rfl⟩:=okWide_int ht hval
   simp only[Fz,ht]
   exact single rfl h1
  ·rename_i ht
   obtain⟨n,rfl⟩:=okWide_bool ht hval
   simp only[Fz,ht]
   exact single rfl h1
  ·rename_i ht
   obtain⟨n,rfl⟩:=okWide_string ht hval
   simp only[Fz,ht]
   exact single rfl h1
  ·rename_i e ht
   obtain⟨a,n,c,rfl⟩:=okWide_slice ht hval
   simp only[Fz,ht]
   exact single rfl h1
  ·rename_i fs ht
   obtain⟨cs,rfl,_⟩:=okWide_struct ht hval
   simp only[Fz,ht]
   have h1:aJ (bZ W G7) ps cs.toList:=h1
   refine .agg (aJ.of_get (by simpa using h1.length) fun i x v hi hv=> ?_)
   simp only[List.getElem?_map,Option.map_eq_some_iff]at hi
   obtain⟨q,hq,rfl⟩:=hi
   obtain⟨u,hu,hr⟩:=h1.get hq
   have:u=v:=by
    rw[hv]at hu
    cases hu
    rfl
   subst this
   exact .pure hr
  ·cases hs
end
open Go.RowKit
section
variable {t : Bool} {A B : nF Prop}
theorem Hb: @iT (!t) A B= @iT t B A:=by
 cases t
 ·exact propext ⟨fun h=>⟨(fun e=>by cases e),fun _=>h.1 rfl⟩,fun h=>⟨fun _=>h.2 rfl,(fun e=>by cases e)⟩⟩
 ·exact propext ⟨fun h=>⟨fun _=>h.2 rfl,(fun e=>by cases e)⟩,fun h=>⟨(fun e=>by cases e),fun _=>h.1 rfl⟩⟩
theorem MA: @iT (t==true) A B= @iT t A B:=by cases t<;>rfl
theorem MG: @iT (t==false) A B= @iT t B A:=by
 have:(t==false)= !t:=by cases t<;>rfl
 rw[this,Hb]
end
class Ol (t:Bool) (p q:outParam Prop):Prop where
 pos:t=true→p
 neg:t=false→q
instance (priority:=low) testT (t:Bool):Ol t (t=true) (t=false):=⟨id,id⟩
instance Zh (p:Prop) [Decidable p]:Ol (decide p) p (¬p):=⟨of_decide_eq_true,of_decide_eq_false⟩
instance Zj (p:Prop):Ol (qD p) p (¬p):=⟨@of_decide_eq_true p (Classical.propDecidable p), @of_decide_eq_false p (Classical.propDecidable p)⟩
theorem ab {t:Bool} {p q:Prop} [T:Ol t p q] {A B:nF Prop} (h1:p→A.out) (h2:q→B.out): @iT t A B:=⟨fun e=>h1 (T.pos e),fun e=>h2 (T.neg e)⟩
theorem Xr {p:Prop}:(qD p !=false)=qD p:=by cases qD p<;>rfl
theorem Yf {p:Prop}:(qD p !=true)= !qD p:=by cases qD p<;>rfl
theorem kM {p:Prop} (h:p):qD p=true:= @decide_eq_true p (Classical.propDecidable p) h
theorem iZ {p:Prop} (h: ¬p):qD p=false:= @decide_eq_false p (Classical.propDecidable p) h
theorem Ze:qD True=true:=kM trivial
theorem YW:qD False=false:=iZ id
theorem QW {p:Prop} [Decidable p]:qD p=decide p:=by by_cases h:p<;>simp[qD,h]
theorem U3 {a b:Int}:(a==b)=decide (a=b):=rfl
theorem UU {a b:Int}:(a !=b)= !decide (a=b):=rfl
theorem jA {a b:ByteArray}:a.toList=b.toList↔a=b:=by
 constructor
 ·intro h
  rw[ByteArray.toList_eq,ByteArray.toList_eq]at h
  exact Go.WideShapes.bytes_inj h
 ·intro h;rw[h]
theorem Ot {a b:ByteArray}:(a.toList==b.toList)=decide (a=b):=by
 by_cases h:a=b
 ·subst h;simp
 ·have: ¬a.toList=b.toList:=fun e=>h (jA.1 e)
  simp[h,this]
theorem Uk {a b:ByteArray}:(a.toList !=b.toList)= !decide (a=b):=by rw[bne,Ot]
instance Y6 (s:ByteArray) (xs:List ByteArray):Decidable (s∈xs):=decidable_of_iff (∃x∈xs,x=s) (by simp)
theorem Yr {a b:Bool}:((a==b) !=false)=(a==b):=by cases a<;>cases b<;>rfl
theorem NV {a b:Bool}:((a==b) !=true)= !(a==b):=by cases a<;>cases b<;>rfl
theorem nN {e sz bytes:Nat} {y:AV} {ys:List (List PC)} {σ:St} {K:nF (AV→St→Prop)} (hok:bl sz ys) (h1:ys.length*bytes≤140737488355328) (h2:ys.length≤140737488355328)
  (hk:K.out (.c (.ref σ.nx)) {σ with mem:=(σ.nx,.arr e sz ys)::σ.mem,nx:=σ.nx+1}): @Cp e sz bytes (.c .nils) y ys σ K:=
 ⟨hok,.inr (.inl ⟨rfl,.inl ⟨by simpa using h1,by simpa using h2,hk⟩⟩)⟩
theorem El {e sz bytes:Nat} {y:AV} {ys:List (List PC)} {σ:St} {K:nF (AV→St→Prop)} (hok:bl sz ys) (h1:ys.length*bytes≤140737488355328) (h2:ys.length≤140737488355328)
  (hk:K.out (.c (.pure (.slice ys))) σ): @Cp e sz bytes (.c .nils) y ys σ K:=
 ⟨hok,.inr (.inl ⟨rfl,.inr ⟨by simpa using h1,by simpa using h2,hk⟩⟩)⟩
theorem aN {e sz bytes nm:Nat} {y:AV} {rows ys:List (List PC)} {σ:St} {K:nF (AV→St→Prop)} (hf:ak σ.mem nm=some (.arr e sz rows)) (hne:y≠ .c (.ref nm)) (hok:bl sz ys) (h1:(rows.length+ys.length)*bytes≤140737488355328) (h2:rows.length+ys.length≤140737488355328)
  (hk:K.out (.c (.ref σ.nx)) {σ with mem:=(σ.nx,.arr e sz (rows++ys))::lJ σ.mem nm,nx:=σ.nx+1}): @Cp e sz bytes (.c (.ref nm)) y ys σ K:=
 ⟨hok,.inl ⟨nm,rfl,hne,rows,hf,h1,h2,hk⟩⟩
abbrev c9 {α:Type} (f:α→List PC) (xs:List α):PC:= .slice (xs.map f)
abbrev d8 {α:Type} (f:α→List PC) (xs:List α):AV:= .c (.pure (c9 f xs))
abbrev pI (n:Int):PC:= .val (.int .i64 n)
abbrev pS (s:ByteArray):PC:= .val (.string s)
abbrev pB (b:Bool):PC:= .val (.bool b)
theorem ae {α β:Type} {f:α→β} {xs:List α} {k:Nat} (h:k<xs.length):(xs.map f)[k]? =some (f xs[k]):=by simp[h]
open Go.RowKit
def LK (rows:List (List PC)):Prop:= ∀r∈rows,∀p∈r,∃v,p= .val v
theorem aY.flat {w w':World} {V V':Nat→Prop} {sz:Nat} {rows:List (List PC)} {cells:List Value} (h:aY w V sz rows cells) (hf:LK rows):aY w' V' sz rows cells:=by
 refine⟨h.1,h.2.1,fun i row j p hi hj=> ?_⟩
 obtain⟨v,hv,hp⟩:=h.2.2 i row j p hi hj
 obtain⟨u,rfl⟩:=hf row (List.mem_of_getElem? hi) p (List.mem_of_getElem? hj)
 refine⟨v,hv, ?_⟩
 cases hp with
 |val h=>exact .val h
def Rq (P:Program) (f:FuncId) (args:List AV) (e sz:Nat) (rows:List (List PC)):Prop:=
 ml P f∧
 ∀(w:World) (U:Nat→Prop) (vs:Array Value),me w→aJ (aM w U (fun _=>undef) 0) args vs.toList→
  Calls P f vs w fun en w'=> ∃v cells,en= .returned v∧0<sz∧w'.ownsRow w.heap.size e sz v rows.length cells∧rows.length≤9223372036854775807∧aY w' (fun _=>False) sz rows cells∧Below w.heap.size w w'
def XW (rs:List AR) (e sz:Nat) (rows:List (List PC)):be→St→Prop
 | .exit _,_=>False
 | .ret,σ=>jI σ rs [] fun vs=> ∃nm,gE vs= .c (.ref nm)∧ak σ.mem nm=some (.arr e sz rows)
 | .normal,σ=>jI σ rs [] fun vs=> ∃nm,gE vs= .c (.ref nm)∧ak σ.mem nm=some (.arr e sz rows)
theorem ze {w:World} {B B' e sz n:Nat} {v:Value} {cells:List Value} (h:w.ownsRow B e sz v n cells) (hB:B'≤B):w.ownsRow B' e sz v n cells:=by
 refine⟨h.1, ?_⟩
 rcases h.2 with h|⟨g,cap,cur,e,hg,h⟩
 ·exact .inl h
 ·exact .inr ⟨g,cap,cur,e,Nat.le_trans hB hg,h⟩
theorem Rq.of {P:Program} {f:FuncId} {nt:Nat} {body:ai} {rs:List AR} {args:List AV} {e sz:Nat} {rows:List (List PC)} (hf:aw P f nt body rs) (hlen:args.length≤nt) (hfl:LK rows) (h:lW args→AW P nt body ⟨aV args 0, [],0,0⟩ (XW rs e sz rows)):Rq P f args e sz rows:=by
 obtain⟨fn,c,h1,h2,h3,rfl,h5,h6⟩:=hf.is
 refine⟨⟨fn,h1,by rw[h2];rfl,h3⟩,fun w U vs hG hargs=> ?_⟩
 have hsz:vs.size=args.length:=by rw[←Array.length_toList];exact hargs.length.symm
 have hs:bA w (Gh.of U) ⟨aV args 0, [],0,0⟩ (fun _=>undef) {tmps:=vs++Array.replicate (fn.ntmps-vs.size) undef,defers:= []} w:=by
  refine⟨fun t=> ?_,⟨rfl,hG⟩,(fun nm bx hn=>by cases hn),(fun nm bx hn=>by cases hn),(fun nm nm' b1 b2 b hn=>by cases hn),Below.refl _ _,trivial,⟨Nat.le_refl _,fun _ h=>absurd h (Nat.not_lt_zero _)⟩⟩
  have hmono: ∀{x:AV} {v:Value},aM w U (fun _=>undef) 0 x v→aM w (aD w.heap.size (Gh.of U) (fun _=>undef) []) (fun _=>undef) 0 x v:=fun h=>
   h.mono (fun b _ h=>⟨.inl h,fun nm bx hn=>by cases hn⟩) (fun _ _ _=>rfl) (fun _ _=>rfl) (Nat.le_refl _)
  rcases iX (vs:=vs.toList) (k:=0) hargs t with h|h
  ·by_cases hlt:t<vs.size
   ·have e:(vs++Array.replicate (fn.ntmps-vs.size) undef).getD t undef=(vs.toList[t-0]?).getD undef:=by
     simp[Array.getD_eq_getD_getElem?,Array.getElem?_append,hlt]
    rw[e]
    exact hmono h
   ·have:aH (aV args 0) t= .top:=by
     have key: ∀(l:List AV) (j:Nat),j+l.length≤t→aH (aV l j) t= .top:=by
      intro l
      induction l with
      |nil=>intro j _;rfl
      |cons x l ih=>
       intro j hj
       simp only[List.length_cons]at hj
       show(if j=t then x else aH (aV l (j+1)) t)=_
       rw[if_neg (by omega)]
       exact ih _ (by omega)
     exact key args 0 (by omega)
    show aM _ _ _ _ (aH (aV args 0) t) _
    rw[this]
    exact .top
  ·show aM _ _ _ _ (aH (aV args 0) t) _
   rw[h]
   exact .top
 have hsize:(vs++Array.replicate (fn.ntmps-vs.size) undef).size=fn.ntmps:=by simp;omega
 have fin: ∀{a':Act} {w':World} {σ':St} {ι':Pl},(jI σ' rs [] fun vs=> ∃nm,gE vs= .c (.ref nm)∧ak σ'.mem nm=some (.arr e sz rows))→bA w (Gh.of U) σ' ι' a' w'→ ∃v,(results fn a'.tmps).run P w'= .ok v w'∧
   ∃v' cells,Ending.returned v= .returned v'∧0<sz∧w'.ownsRow w.heap.size e sz v' rows.length cells∧rows.length≤9223372036854775807∧aY w' (fun _=>False) sz rows cells∧Below w.heap.size w w':=by
  intro a' w' σ' ι' hres hs'
  obtain⟨vs',us',g1,g2,nm,g3,g4⟩:=ke hs' (us:= []) h6 hres .nil
  have hp:=tn (by simpa using g1)
  rw[g3]at hp
  have hv:=ub hp
  obtain⟨cells,k0,k1,k2,k3⟩:=hs'.box _ _ g4
  refine⟨(if h:us'.toArray.size=1 then us'.toArray[0]else .tuple us'.toArray), ?_,_,cells,rfl,k0, ?_,k2,k3.flat hfl,hs'.below⟩
  ·rw[j9,Array.mapM_eq_mapM_toList]
   simp[g2]
  ·rw[hv];exact k1
 refine vc h1 h2 (h (tt hargs) c h5 w (Gh.of U) none [] _ _ w (fun _ e=>by cases e) hs hsize) (fun i σ' h=>h) ?_
 intro e a' w' σ' ι' hq hs'
 cases e with
 |normal=>exact fin hq hs'
 |exit i=>exact hq.elim
 |ret=>exact fin hq hs'
attribute [go_sem ↓] XW
def G6 (P:Program) (f:FuncId):Option (Nat×ai×List AR):=
 match P.funcs[f]? with
 |some fn => match fn.name == "runtime.NumGoroutine" with
  |false=>match fn.body with
   |some c=>match cG P fn.ntmps c with
    |some b=>match E4 P fn.results.toList with
     |some rs=>some (fn.ntmps,b,rs)
     |none=>none
    |none=>none
   |none=>none
  |true=>none
 |none=>none
theorem al {P:Program} {f:FuncId} {nt:Nat} {c:ai} {rs:List AR} (h:G6 P f=some (nt,c,rs)):aw P f nt c rs:=by
 unfold G6 at h
 split at h
 ·rename_i fn e1
  split at h
  ·rename_i e2
   split at h
   ·rename_i c0 e3
    split at h
    ·rename_i b e4
     split at h
     ·rename_i rs' e5
      cases h
      exact⟨fn,c0,e1,e3,e2,rfl,e4,e5⟩
     ·cases h
    ·cases h
   ·cases h
  ·cases h
 ·cases h
def dZ (P:Program) (f:FuncId):ai:=match G6 P f with
 |some (_,c,_)=>c
 |none=> .skip
theorem cI {P:Program} {f:FuncId} {nt:Nat} {rs:List AR} (h:G6 P f=some (nt,dZ P f,rs):=by kernel_rfl):aw P f nt (dZ P f) rs:=al h
abbrev o_ (d:Nat) (x:eL):AG:=⟨some d,none,x⟩
abbrev m_ (d s:Nat):AG:=⟨some d,none,.mv (.t s)⟩
abbrev u_ (x:eL):AG:=⟨none,none,x⟩
abbrev k_ (n:Int):AX:= .k (.c (.pure (.val (.int .i64 n))))
abbrev i_ (n:Int):AC:= .pure (.val (.int .i64 n))
abbrev f_ (n:FuncId):AX:= .k (.c (.clo n []))
abbrev c_ (f:AX) (l:List AX):eL:= .call true true f l
abbrev b_ (b:Bool):AX:= .k (.c (.pure (.val (.bool b))))
abbrev g_ (d t:Nat) (w:Bool) (x:eL):AG:=⟨some d,some (t,w),x⟩
abbrev r_ (l:List AG):ai:= .region l false
abbrev l_ (n:Nat):eL:= .load none (.t n)
abbrev L_ (k n:Nat):eL:= .load (some k) (.t n)
abbrev a_ (k n:Nat):eL:= .fieldA k (.t n)
abbrev x_ (k a b:Nat):eL:= .idxA k (.t a) (.t b)
abbrev S_ (k a b:Nat):eL:= .store k (.t a) (.t b)
abbrev e_ (n k:Nat):eL:= .ext (.t n) k
abbrev z_ (n:Nat):eL:= .len (.t n)
abbrev w_ (n:Int):eL:= .mv (k_ n)
abbrev j_ (n:Nat):eL:= .bin .add (.t n) (k_ 1)
abbrev q_ (a b:Nat):eL:= .bin .lss (.t a) (.t b)
abbrev Q_ (o:BinOp) (a:Nat) (k:Int):eL:= .bin o (.t a) (k_ k)
abbrev C_ (f:FuncId) (l:List AX):eL:= .call true true (f_ f) l
abbrev P_ (d:Nat) (x:eL):Bool×AG:=(false,o_ d x)
abbrev M_ (d s:Nat):Bool×AG:=(false,m_ d s)
abbrev U_ (x:eL):Bool×AG:=(false,u_ x)
abbrev s_ (l:List AG) (c:ai):ai:= .seq (.region l false) c
abbrev y_ (n:Nat) (c d:ai):ai:= .cond (.t n) c d
abbrev X_ (n k:Nat):ai:= .cond (.t n) .skip (.exit k)
attribute [go_sem ↓] List.map_cons List.map_nil
attribute [go_sem] true_and and_true List.nil_append JF Int.toNat_natCast List.length_map List.length_cons List.length_nil Option.some.injEq not_true_eq_false not_false_eq_true Hb MA MG U3 UU Ot Uk Yr NV Xr Yf Ze YW Bool.false_eq_true List.cons_append decide_true decide_false Nat.add_zero Nat.zero_add List.drop_succ_cons List.drop_zero List.take_succ_cons List.take_zero Option.map_some Option.map_none List.getElem?_cons_zero List.getElem?_cons_succ eq_self beq_self_eq_true Bool.bne_false Bool.bne_true Bool.true_beq Bool.false_beq
end Go.Abs
