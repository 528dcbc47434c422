import Derived.Test.YtigdjhnndaokjaaGreatDoorAbsP
import Derived.LoopN
import Derived.RangeFuncLeaves
import Derived.RangeFuncNested
import Derived.OrdersIn
import Derived.LoopNIn
import Derived.ChangeArms
import Derived.WideShapes
set_option linter.unusedVariables false
set_option linter.unusedSimpArgs false
namespace Go.Abs
open Go.RowKit
section
variable {P : Program} {o : Oper} {a : Act} {w w' w0 : World} {U : Gh} {ι : Pl} {σ : St} {next : Act → World → Prop} {Q : Exit → Act → World → Prop} {K : AV → St → Prop}
theorem Cz {α:Type} {x:Option α} {p:α→Bool} (h:x.map p=some true): ∃z,x=some z∧p z=true:=by
 cases x with
 |none=>cases h
 |some z=>exact⟨z,rfl,by simpa using h⟩
theorem Vw {op:BinOp} {t t':TypeId} {x y:Operand} {p q:AX} {neg:Bool} (J:(op= .eql∧neg=false)∨(op= .neq∧neg=true)) (ht:Vm P t=true) (hq:Qi q=true) (ho:o.op= .binOp op t x y t') (hx:aC x=some p) (hy:aC y=some q)
  (h:bC P (.snil neg p) σ K) (hs:ci w0 U σ ι a w) (hn:fS w0 U a o K next):o.wp P a w next Q:=by
 have r1:=aq hx hs
 have r2:=aq hy hs
 unfold Qi at hq
 split at hq
 ·have e2:a.eval y= .slice none 0 0:=tX r2
  unfold Vm at ht
  split at ht
  ·rename_i et hT
   have key: ∀(ad:Option Addr) (n c:Nat),a.eval x= .slice ad n c→K (.c (.pure (.val (.bool (ad.isNone !=neg))))) σ→o.wp P a w next Q:=by
    intro ad n c hu hk
    have hr:(Op.equal t (.slice ad n c) (.slice none 0 0)).run P w= .ok ad.isNone w:=by
     show(Op.equalIn (9999+1) t (.slice ad n c) (.slice none 0 0)).run P w= .ok ad.isNone w
     unfold Op.equalIn
     cases ad<;>simp[run_underlying hT]
    have hg:(eqGuard op t x y (.slice ad n c) (.slice none 0 0)).run P w= .ok () w:=by unfold eqGuard;cases op<;>simp
    refine aA (u:= .bool (ad.isNone !=neg)) (w':=w) ?_ (hn _ σ ι _ w hk hs (kc _))
    simp only[execOp,ho,hu,e2]
    rw[Sem.run_bind,Sem.run_bind,hg]
    rcases J with⟨rfl,rfl⟩|⟨rfl,rfl⟩<;>simp[binOp,hr]
   have rows: ∀{V:Nat→Prop} {rs:List (List PC)} {ad:Option Addr} {n c:Nat},a.eval x= .slice ad n c→d6 w V (.slice rs) (.slice ad n c)→ @Q5 rs ⟨K (.c (.pure (.val (.bool (!neg))))) σ⟩ ⟨K (.c (.pure (.val (.bool neg)))) σ⟩→o.wp P a w next Q:=by
    intro V rs ad n c hu hr z5
    cases ad with
    |some ad=>exact key _ _ _ hu (by have:=z5.2;cases neg<;>exact this)
    |none=>
     refine key _ _ _ hu ?_
     have:=z5.1 (λr hr0=>by
      cases hr with
      | @slice sz _ _ _ _ g hn hc hm hr HI hp=>
       obtain⟨k,hk⟩:=zI0.1 hr0
       cases r with
       |nil=>rfl
       |cons p0 r=>
        obtain⟨b,off,e,_⟩:=HI k _ 0 p0 hk rfl
        cases e)
     cases neg<;>exact this
   simp only[bC]at h
   split at h
   ·rename_i e
    rw[e]at r1
    generalize hu:a.eval x=u at r1
    cases r1 with
    |c r1=>
     cases r1
     exact key _ _ _ hu (by cases neg<;>exact h)
   ·rename_i rs e
    rw[e]at r1
    generalize hu:a.eval x=u at r1
    cases r1 with
    |c r1=>
     cases r1 with
     |pure r1=>
      have r1':=r1
      cases r1
      exact rows hu r1' h
   ·rename_i rs e
    rw[e]at r1
    generalize hu:a.eval x=u at r1
    cases r1 with
    |c r1=>
     cases r1 with
     |tsl r1=>exact rows hu r1 h
   ·rename_i nm e
    rw[e]at r1
    split at h
    ·rename_i rs hf
     have hv:=SJ r1
     obtain⟨cells,k0,k1,k2,k3⟩:=hs.box _ _ hf
     rcases k1.2 with⟨e0,e1⟩|⟨g,cap,cur,e0,_⟩
     ·rw[e0]at hv
      refine key _ _ _ hv ?_
      have hz:rs= []:=zG4 (by simpa using e1)
      subst hz
      have:=h.1 zR6
      cases neg<;>exact this
     ·rw[e0]at hv
      refine key _ _ _ hv ?_
      have:=h.2
      cases neg<;>exact this
    ·exact h.elim
   ·exact h.elim
  ·cases ht
 ·cases hq
set_option maxHeartbeats 1000000 in
theorem RC {dr:Bool} {ao:fA} (hc:bK P dr o.op=some ao) (h:bC P ao σ K) (hs:ci w0 U σ ι a w) (hn:fS w0 U a o K next):o.wp P a w next Q:=by
 cases J:o.op with
 |move x=>
  rw[J]at hc
  simp only[bK,zC1]at hc
  obtain⟨y,hy,rfl⟩:=hc
  exact acd (.inl J) hy h hs hn
 |assign x=>
  rw[J]at hc
  simp only[bK,zC1]at hc
  obtain⟨y,hy,rfl⟩:=hc
  exact acd (.inr J) hy h hs hn
 |pick c x y=>
  rw[J]at hc
  simp only[bK]at hc
  split at hc
  ·cases hc
   exact ab0 J ‹_› ‹_› ‹_› h hs hn
  ·cases hc
 |alloc t=>
  rw[J]at hc
  simp only[bK,zC1,zI5]at hc
  obtain⟨v,⟨z,h1,h2⟩,rfl⟩:=hc
  exact Za J h1 h2 h hs hn
 |box t x=>
  rw[J]at hc
  simp only[bK,zC1]at hc
  obtain⟨y,hy,rfl⟩:=hc
  exact acR J hy h hs hn
 |build t parts=>
  rw[J]at hc
  simp only[bK]at hc
  split at hc
  ·cases hc
   exact Zi J ‹_› ‹_› h hs hn
  ·cases hc
 |buildSlice t n parts=>
  rw[J]at hc
  simp only[bK]at hc
  split at hc
  ·split at hc
   ·rename_i hP
    obtain⟨h1,h2,h3,h4⟩:=hP
    obtain⟨z,hz,HN⟩:=Cz h4
    cases hc
    split at h
    ·exact Up J ‹_› ‹_› h1 h2 h3 hz (zI6 HN) h hs hn
    ·exact WA J ‹_› ‹_› h1 h2 h3 hz (zI6 HN) h hs hn
   ·cases hc
  ·cases hc
 |load t p=>
  rw[J]at hc
  simp only[bK]at hc
  split at hc
  ·cases hc
   exact aaW J ‹_› ‹_› h hs hn
  ·cases hc
 |store t p v=>
  rw[J]at hc
  simp only[bK]at hc
  split at hc
  ·cases hc
   exact aak J ‹_› ‹_› ‹_› h hs hn
  ·cases hc
 |binOp op t x y t'=>
  rw[J]at hc
  simp only[bK]at hc
  split at hc
  ·rename_i p q h1 h2
   split at hc
   ·split at hc
    ·cases hc
     rename_i hb
     unfold Ri at hb
     split at hb
     ·exact Yv (.inl ⟨rfl,rfl⟩) ‹_› J h1 h2 h hs hn
     ·cases hb
    ·split at hc
     ·simp only[zC1]at hc
      obtain⟨l,hl,rfl⟩:=hc
      exact YP (.inl ⟨rfl,rfl⟩) ‹_› hl J h1 h2 h hs hn
     split at hc
     ·split at hc
      ·cases hc
       exact V4 (.inl ⟨rfl,rfl⟩) ‹_› ‹_› J h1 h2 h hs hn
      ·cases hc
     split at hc
     ·split at hc
      ·cases hc
       exact Vw (.inl ⟨rfl,rfl⟩) ‹_› ‹_› J h1 h2 h hs hn
      ·cases hc
     ·cases hc
      exact UE J h1 h2 h hs hn
   ·split at hc
    ·cases hc
     rename_i hb
     unfold Ri at hb
     split at hb
     ·exact Yv (.inr ⟨rfl,rfl⟩) ‹_› J h1 h2 h hs hn
     ·cases hb
    ·split at hc
     ·simp only[zC1]at hc
      obtain⟨l,hl,rfl⟩:=hc
      exact YP (.inr ⟨rfl,rfl⟩) ‹_› hl J h1 h2 h hs hn
     split at hc
     ·split at hc
      ·cases hc
       exact V4 (.inr ⟨rfl,rfl⟩) ‹_› ‹_› J h1 h2 h hs hn
      ·cases hc
     split at hc
     ·split at hc
      ·cases hc
       exact Vw (.inr ⟨rfl,rfl⟩) ‹_› ‹_› J h1 h2 h hs hn
      ·cases hc
     ·cases hc
      exact UE J h1 h2 h hs hn
   ·cases hc
    exact UE J h1 h2 h hs hn
  ·cases hc
 |unOp op t x=>
  rw[J]at hc
  simp only[bK,zC1]at hc
  obtain⟨y,hy,rfl⟩:=hc
  exact aeU J hy h hs hn
 |convert s d x=>
  rw[J]at hc
  simp only[bK]at hc
  split at hc
  ·cases hc
   exact ab2 J ‹_› ‹_› ‹_› h hs hn
  ·cases hc
 |nilCheck x=>
  rw[J]at hc
  simp only[bK,zC1]at hc
  obtain⟨y,hy,rfl⟩:=hc
  exact abN J hy h hs hn
 |slice t x lo hi mx=>
  rw[J]at hc
  simp only[bK]at hc
  split at hc
  ·rename_i e0 _ _ _ _ g0 g1 g2 g3 g4
   split at hc
   ·rename_i hel
    split at hc
    ·rename_i hP
     cases hc
     exact adc J hel ‹_› ‹_› ‹_› ‹_› hP.2 h hs hn
    ·cases hc
   ·cases hc
  ·rename_i e0 _ _ _ g0 g1 g2 g3 g4
   cases hc
   cases mx with
   |none=>exact aaL J ‹_› ‹_› ‹_› ‹_› h hs hn
   |some m=>simp[pW]at g4
  ·cases hc
 |fieldAddr s x f=>
  rw[J]at hc
  simp only[bK]at hc
  split at hc
  ·split at hc
   ·cases hc
   ·cases hc
    exact WL J ‹_› ‹_› ‹_› h hs hn
  ·cases hc
 |field s x f=>
  rw[J]at hc
  simp only[bK]at hc
  split at hc
  ·simp only[zC1]at hc
   obtain⟨n,h1,rfl⟩:=hc
   exact YW J ‹_› h1 ‹_› h hs hn
  ·cases hc
 |indexAddr t x i=>
  rw[J]at hc
  simp only[bK]at hc
  split at hc
  ·cases hc
   exact aby J ‹_› ‹_› ‹_› h hs hn
  ·split at hc
   ·simp only[zC1]at hc
    obtain⟨n,h1,rfl⟩:=hc
    exact abd J ‹_› h1 ‹_› ‹_› h hs hn
   ·cases hc
  ·cases hc
 |index t x i=>
  rw[J]at hc
  simp only[bK]at hc
  split at hc
  ·split at hc
   ·cases hc
    exact abp J ‹_› ‹_› ‹_› h hs hn
   ·cases hc
  ·cases hc
 |makeSlice t l c=>
  rw[J]at hc
  simp only[bK]at hc
  split at hc
  ·rename_i e sz bytes p q h1 h2 h3
   split at hc
   ·rename_i hP
    obtain⟨rfl,h0,h4⟩:=hP
    obtain⟨z,hz,HN⟩:=Cz h4
    simp only[zC1,zI5]at hc
    obtain⟨zs,⟨z',hY,hpz⟩,rfl⟩:=hc
    rw[hz]at hY
    cases hY
    have hl:l= .tmp p:=by cases l<;>simp[aC]at h2;rw[h2]
    have hcc:c= .tmp p:=by cases c<;>simp[aC]at h3;rw[h3]
    subst hl
    subst hcc
    exact TP J h1 h0 hz (zI6 HN) hpz h hs hn
   ·cases hc
  ·cases hc
 |makeMap t r=>
  rw[J]at hc
  cases r with
  |none=>
   simp only[bK]at hc
   split at hc
   ·cases hc
    exact Zh J h hs hn
   ·cases hc
  |some r=>simp[bK]at hc
 |lookup t m k ok=>
  rw[J]at hc
  simp only[bK]at hc
  split at hc
  ·simp only[zC1,zI5]at hc
   obtain⟨zs,⟨z,hz,HN⟩,rfl⟩:=hc
   exact abm J ‹_› hz HN ‹_› ‹_› h hs hn
  ·cases hc
 |mapUpdate t m k v=>
  rw[J]at hc
  simp only[bK]at hc
  split at hc
  ·cases hc
   exact VY (.inl J) ‹_› ‹_› ‹_› ‹_› h hs hn
  ·cases hc
 |insert t m k v=>
  rw[J]at hc
  simp only[bK]at hc
  split at hc
  ·cases hc
   exact VY (.inr J) ‹_› ‹_› ‹_› ‹_› h hs hn
  ·cases hc
 |mapEntry t m k=>
  rw[J]at hc
  simp only[bK]at hc
  split at hc
  ·simp only[zC1,zI5]at hc
   obtain⟨zs,⟨z,hz,HN⟩,rfl⟩:=hc
   exact abY J ‹_› hz HN ‹_› ‹_› h hs hn
  ·cases hc
 |entryStore t m s v=>
  rw[J]at hc
  simp only[bK]at hc
  split at hc
  ·cases hc
   exact abi J ‹_› ‹_› ‹_› ‹_› h hs hn
  ·cases hc
 |extract x i=>
  rw[J]at hc
  simp only[bK,zC1]at hc
  obtain⟨y,hy,rfl⟩:=hc
  exact acV J hy h hs hn
 |makeFunc fn first caps=>
  rw[J]at hc
  cases fn with
  |func f=>
   simp only[bK]at hc
   split at hc
   ·simp only[zC1]at hc
    obtain⟨y,hy,rfl⟩:=hc
    exact ab3 J ‹_› hy h hs hn
   ·cases hc
  |_=>simp[bK]at hc
 |call c=>
  rw[J]at hc
  obtain⟨callee,args,argTypes⟩:=c
  cases callee with
  |value f=>
   simp only[bK]at hc
   split at hc
   ·cases hc
    exact aaU rfl rfl J ‹_› ‹_› h hs hn
   ·cases hc
  |invoke r m=>simp[bK]at hc
  |builtin b=>
   cases b with
   |len=>
    simp only[bK]at hc
    split at hc
    ·split at hc
     ·cases hc
      exact ada rfl ‹_› ‹_› J ‹_› ‹_› h hs hn
     ·cases hc
      exact aaN rfl ‹_› ‹_› J ‹_› ‹_› h hs hn
     ·cases hc
    ·cases hc
   |min=>
    simp only[bK]at hc
    split at hc
    ·split at hc
     ·cases hc
      exact ach (.inl ⟨rfl,rfl⟩) ‹_› J ‹_› ‹_› h hs hn
     ·cases hc
    ·cases hc
   |max=>
    simp only[bK]at hc
    split at hc
    ·split at hc
     ·cases hc
      exact ach (.inr ⟨rfl,rfl⟩) ‹_› J ‹_› ‹_› h hs hn
     ·cases hc
    ·split at hc
     ·cases hc
      exact ac6 rfl ‹_› J ‹_› ‹_› ‹_› ‹_› h hs hn
     ·cases hc
    ·cases hc
   |append=>
    simp only[bK]at hc
    split at hc
    ·split at hc
     ·rename_i htu
      subst htu
      split at hc
      ·split at hc
       ·rename_i hP
        obtain⟨h0,h4⟩:=hP
        obtain⟨z,hz,HN⟩:=Cz h4
        cases hc
        exact acB rfl ‹_› ‹_› J ‹_› h0 hz (zI6 HN) ‹_› ‹_› h hs hn
       ·cases hc
      ·cases hc
     ·cases hc
    ·cases hc
   |_=>simp[bK]at hc
 |makeInterface t x=>
  rw[J]at hc
  cases hc
  exact h.elim
 |panic x=>
  rw[J]at hc
  cases hc
  exact h.elim
 |_=>rw[J]at hc;simp[bK]at hc
end
open Go.RowKit
def Ey (F:(AV→St→Prop)→Prop):Prop:= ∀K,F K→ ∃v σ',F (λv' τ=>v'=v∧τ=σ')∧K v σ'
variable {α:Type}{G:(AV→St→Prop)→Prop}
theorem Lu {o:Option α} {F:α→(AV→St→Prop)→Prop} (h: ∀x,Ey (F x)) (h':Ey G):Ey λK=> @wU _ o ⟨λx=>F x K⟩ ⟨G K⟩:= λK hK=>by
 cases o with
 |none=>
  obtain⟨v,s,h1,h2⟩:=h' K (hK.2 rfl)
  exact⟨v,s,⟨(λx e=>by cases e),λ_=>h1⟩,h2⟩
 |some x=>
  obtain⟨v,s,h1,h2⟩:=h x K (hK.1 x rfl)
  exact⟨v,s,⟨λy e=>by cases e;exact h1,(λe=>by cases e)⟩,h2⟩
variable {v:AV}{σ:St}
theorem bS:Ey λK=>K v σ:= λK h=>⟨v,σ,⟨rfl,rfl⟩,h⟩
theorem aw:Ey λ_=>False:= λK h=>h.elim
variable {p:Prop}{F:(AV→St→Prop)→Prop}
theorem ce (h:Ey F):Ey λK=> @cr p ⟨F K⟩:= λK hK=>by
 obtain⟨v,s,h1,h2⟩:=h K hK.2
 exact⟨v,s,⟨hK.1,h1⟩,h2⟩
theorem eB {o:Option α} {F:α→(AV→St→Prop)→Prop} (h: ∀x,Ey (F x)):Ey λK=> @fD _ o ⟨λx=>F x K⟩:= λK hK=>by
 obtain⟨x,e,hK⟩:=hK
 obtain⟨v,s,h1,h2⟩:=h x K hK
 exact⟨v,s,⟨x,e,h1⟩,h2⟩
theorem YZ {t:Bool} (h:Ey F) (h':Ey G):Ey λK=> @kg t ⟨F K⟩ ⟨G K⟩:= λK hK=>by
 cases t with
 |true=>
  obtain⟨v,s,h1,h2⟩:=h K (hK.1 rfl)
  exact⟨v,s,⟨λ_=>h1,(λe=>by cases e)⟩,h2⟩
 |false=>
  obtain⟨v,s,h1,h2⟩:=h' K (hK.2 rfl)
  exact⟨v,s,⟨(λe=>by cases e),λ_=>h1⟩,h2⟩
variable {op:BinOp}
theorem Z3 {k:IntKind} {a b:Int}:Ey λK=>qP op k a b λv=>K (.c (.pure (.val v))) σ:=by
 cases op<;>simp only[qP]<;>first|exact aw|exact ce bS|exact bS
variable {b:ByteArray}
theorem aaa {a:ByteArray}:Ey λK=>Ck op a b λv=>K (.c (.pure (.val v))) σ:=by
 cases op<;>simp only[Ck]<;>first|exact aw|exact ce bS|exact bS
theorem X7 {x y:Value}:Ey λK=>IA op x y λv=>K (.c (.pure (.val v))) σ:=by
 unfold IA
 split
 ·exact ce Z3
 ·exact aaa
 ·exact aw
theorem KB {x y:Value}:Ey λK=>rE op x y λv=>K (.c (.pure (.val v))) σ:=by
 unfold rE
 split
 ·refine ce ?_
  cases op<;>simp only[zn]<;>first|exact aw|exact bS
 ·exact aw
theorem Px {σ:St} {F:List AC→(AV→St→Prop)→Prop} (hF: ∀x,Ey (F x)): ∀{ps:List (Nat×Nat×AX)} {acc:List AC},Ey λK=>bC.buildW σ ps acc λxs=>F xs K
 | [],acc=>hF acc
 |(off,n,x)::ps,acc=>by
  simp only[bC.buildW]
  split
  ·exact ce (Px hF)
  ·exact aw
theorem LJ {σ:St} {sz:Nat} {F:List (List PC)→(AV→St→Prop)→Prop} (hF: ∀x,Ey (F x)): ∀{ps:List AX} {acc:List (List PC)},Ey λK=>bC.bsliceW σ sz ps acc λxs=>F xs K
 | [],acc=>hF acc
 |x::ps,acc=>by
  simp only[bC.bsliceW]
  split
  ·exact eB λz=>ce (LJ hF)
  ·exact aw
theorem GM {σ:St} {sz:Nat} {F:List (List PC)→List (Nat×bP)→(AV→St→Prop)→Prop} (hF: ∀x m,Ey (F x m)): ∀{ps:List AX} {mem:List (Nat×bP)} {acc:List (List PC)},Ey λK=>bC.bsliceFW σ sz ps mem acc λxs m=>F xs m K
 | [],mem,acc=>hF acc mem
 |x::ps,mem,acc=>by
  simp only[bC.bsliceFW]
  split
  ·exact eB λz=>ce (GM hF)
  ·exact aw
theorem SB {σ:St} {F:List AC→(AV→St→Prop)→Prop} (hF: ∀x,Ey (F x)): ∀{ps:List AX} {acc:List AC},Ey λK=>bC.mkfnW σ ps acc λxs=>F xs K
 | [],acc=>hF acc
 |x::ps,acc=>by
  simp only[bC.mkfnW]
  split
  ·exact SB hF
  ·exact aw
variable {P:Program}{g z:Bool}{f:FuncId}{args:List AV}
theorem Zb:Ey λK=> @JZ P g z f args σ ⟨K⟩:=by
 rintro K ⟨l,σ',args',hg,hz,(⟨pargs,h1,res,h2,h4⟩|⟨h1,res,m,n,h2,h4⟩)⟩
 ·exact⟨res,σ',⟨l,σ',args',hg,hz,.inl ⟨pargs,h1,res,h2,rfl,rfl⟩⟩,h4⟩
 ·exact⟨res,_,⟨l,σ',args',hg,hz,.inr ⟨h1,res,m,n,h2,rfl,rfl⟩⟩,h4⟩
variable {y:AV}{e sz bytes:Nat}{ys:List (List PC)}
theorem abb {x:AV}:Ey λK=> @Nn e sz bytes x y ys σ ⟨K⟩:=by
 rintro K ⟨hM,h⟩
 rcases h with⟨nm,h1,h2,rows,h3,h4,h5,h6⟩|⟨h1,h|h⟩|⟨rows,h1,h2,⟨h3,h⟩|h|h⟩
 ·exact⟨_,_,⟨hM,.inl ⟨nm,h1,h2,rows,h3,h4,h5,rfl,rfl⟩⟩,h6⟩
 ·exact⟨_,_,⟨hM,.inr (.inl ⟨h1,.inl ⟨h.1,h.2.1,rfl,rfl⟩⟩)⟩,h.2.2⟩
 ·exact⟨_,_,⟨hM,.inr (.inl ⟨h1,.inr ⟨h.1,h.2.1,rfl,rfl⟩⟩)⟩,h.2.2⟩
 ·exact⟨_,_,⟨hM,.inr (.inr ⟨rows,h1,h2,.inl ⟨h3,h.1,h.2.1,rfl,rfl⟩⟩)⟩,h.2.2⟩
 ·exact⟨_,_,⟨hM,.inr (.inr ⟨rows,h1,h2,.inr (.inl ⟨h.1,h.2.1,rfl,rfl⟩)⟩)⟩,h.2.2⟩
 ·exact⟨_,_,⟨hM,.inr (.inr ⟨rows,h1,h2,.inr (.inr ⟨h.1,rfl,rfl⟩)⟩)⟩,h.2⟩
theorem QF {op:fA} (hJ:op.gcall=false):Ey (bC P op σ):=by
 have eta: ∀{F:(AV→St→Prop)→Prop},Ey (λK=>F K)→Ey F:= λh=>h
 apply eta
 cases op<;>simp only[bC]
 case mv=>exact bS
 case pick=>split;exact YZ bS bS;exact aw
 case box=>split;exact bS;exact aw
 case load=>
  split
  ·split
   ·split
    ·split
     ·exact bS
     ·exact aw
    ·exact ce bS
   ·exact aw
  ·exact aw
 case store=>
  split
  ·split
   ·exact ce bS
   ·exact aw
  ·split
   ·exact ce (eB λz=>eB λr=>bS)
   ·exact ce (eB λr=>bS)
   ·exact aw
  ·exact aw
 case bin=>
  split
  ·split
   ·exact KB
   ·exact KB
   ·exact X7
  ·exact aw
 case eqb=>split;exact bS;exact aw
 case eqs=>split;exact ce bS;exact aw
 case un=>split<;>first|exact bS|exact aw
 case conv=>split;exact bS;exact aw
 case fieldA=>split<;>first|exact bS|exact aw
 case field=>
  split
  ·split
   ·split
    ·exact bS
    ·exact aw
   ·exact ce bS
  ·exact aw
 case idxA=>
  split
  ·exact ce (eB λr=>ce bS)
  ·exact ce (eB λr=>ce bS)
  ·split
   ·exact ce bS
   ·exact ce bS
   ·exact aw
  ·exact aw
 case idxR=>split<;>first|exact ce bS|exact aw
 case idxS=>split;exact ce (eB λb=>bS);exact aw
 case nilc=>split<;>first|exact bS|exact aw
 case build=>exact Px λx=>bS
 case bslice=>exact LJ λx=>bS
 case mkslice=>split;exact ce bS;exact aw
 case slc=>
  split
  ·exact aw
  ·exact eB λrows=>eB λlo=>eB λhi=>eB λmx=>ce bS
 case slcS=>split;exact ce bS;exact aw
 case ext=>split;exact eB λv=>bS;exact aw
 case len=>
  split
  ·exact bS
  ·exact bS
  ·exact bS
  ·split
   ·exact bS
   ·exact bS
   ·exact aw
  ·exact aw
 case lenS=>split;exact bS;exact aw
 case mm=>split;exact bS;exact aw
 case mm4=>split;exact bS;exact aw
 case dead=>exact aw
 case fnil=>split;exact bS;exact bS;exact aw
 case snil=>cases hJ
 case app=>exact eB λys=>abb
 case mkfn=>exact SB λx=>bS
 case call=>split;exact Zb;exact aw
 case bsliceF=>exact GM λx m=>bS
 case mkmap=>exact bS
 case mget=>
  split
  ·refine eB λmk=> ?_
   split
   ·split
    ·exact ce (Lu (λps=>bS) bS)
    ·exact aw
   ·exact ce (Lu (λps=>bS) bS)
   ·exact aw
  ·exact aw
 case mput=>
  split
  ·refine eB λmk=> ?_
   split
   ·refine eB λys=> ?_
    split
    ·exact ce bS
    ·exact aw
   ·exact aw
  ·exact aw
 case ment=>
  split
  ·refine eB λmk=> ?_
   split
   ·split
    ·exact ce (Lu (λps=>bS) bS)
    ·exact aw
   ·exact aw
  ·exact aw
 case eput=>
  split
  ·split
   ·refine eB λys=> ?_
    split
    ·exact ce bS
    ·exact aw
   ·exact aw
  ·exact aw
theorem bI {fr fr2:List (Nat×AV)} {x:AX} (h: ∀t∈x.tmps,aZ fr2 t=aZ fr t):x.ev fr2=x.ev fr:=by
 cases x with
 |t n=>exact h n (by simp[AX.tmps])
 |k v=>rfl
def ku (s s2:St) (F F2:(AV→St→Prop)→Prop):Prop:= ∀K K2,(∀v,K v s→K2 v s2)→F K→F2 K2
section
variable {s s2 : St}
theorem bY {v:AV}:ku s s2 (λK=>K v s) (λK=>K v s2):= λK K2 hk h=>hk v h
variable {F2:(AV→St→Prop)→Prop}
theorem aL:ku s s2 (λ_=>False) F2:= λK K2 hk h=>h.elim
theorem dS {p:Prop} {F:(AV→St→Prop)→Prop} (h:ku s s2 F F2):ku s s2 (λK=> @cr p ⟨F K⟩) (λK=> @cr p ⟨F2 K⟩):= λK K2 hk hK=>⟨hK.1,h K K2 hk hK.2⟩
variable {α:Type}
theorem oY {o:Option α} {F F2:α→(AV→St→Prop)→Prop} (h: ∀x,ku s s2 (F x) (F2 x)):ku s s2 (λK=> @fD _ o ⟨λx=>F x K⟩) (λK=> @fD _ o ⟨λx=>F2 x K⟩):= λK K2 hk hK=>by
 obtain⟨x,e,hK⟩:=hK
 exact⟨x,e,h x K K2 hk hK⟩
theorem ZV {o o2:Option α} (ho: ∀x,o=some x→o2=some x) {F F2:α→(AV→St→Prop)→Prop} (h: ∀x,ku s s2 (F x) (F2 x)):ku s s2 (λK=> @fD _ o ⟨λx=>F x K⟩) (λK=> @fD _ o2 ⟨λx=>F2 x K⟩):= λK K2 hk hK=>by
 obtain⟨x,e,hK⟩:=hK
 exact⟨x,ho x e,h x K K2 hk hK⟩
theorem ZI {t:Bool} {F G G2:(AV→St→Prop)→Prop} (h:ku s s2 F F2) (h':ku s s2 G G2):ku s s2 (λK=> @kg t ⟨F K⟩ ⟨G K⟩) (λK=> @kg t ⟨F2 K⟩ ⟨G2 K⟩):= λK K2 hk hK=>
 ⟨λe=>h K K2 hk (hK.1 e),λe=>h' K K2 hk (hK.2 e)⟩
theorem PO {rows:List (List PC)} {F G G2:(AV→St→Prop)→Prop} (h:ku s s2 F F2) (h':ku s s2 G G2):ku s s2 (λK=> @Q5 rows ⟨F K⟩ ⟨G K⟩) (λK=> @Q5 rows ⟨F2 K⟩ ⟨G2 K⟩):= λK K2 hk hK=>
 ⟨λe=>h K K2 hk (hK.1 e),h' K K2 hk hK.2⟩
theorem Tq {o:Option α} {F F2:α→(AV→St→Prop)→Prop} {G G2:(AV→St→Prop)→Prop} (h: ∀x,ku s s2 (F x) (F2 x)) (h':ku s s2 G G2):ku s s2 (λK=> @wU _ o ⟨λx=>F x K⟩ ⟨G K⟩) (λK=> @wU _ o ⟨λx=>F2 x K⟩ ⟨G2 K⟩):= λK K2 hk hK=>
 ⟨λx e=>h x K K2 hk (hK.1 x e),λe=>h' K K2 hk (hK.2 e)⟩
variable {op:BinOp}
theorem XU {k:IntKind} {a b:Int}:ku s s2 (λK=>qP op k a b λv=>K (.c (.pure (.val v))) s) (λK=>qP op k a b λv=>K (.c (.pure (.val v))) s2):=by
 cases op<;>simp only[qP]<;>first|exact aL|exact dS bY|exact bY
theorem X9 {a b:ByteArray}:ku s s2 (λK=>Ck op a b λv=>K (.c (.pure (.val v))) s) (λK=>Ck op a b λv=>K (.c (.pure (.val v))) s2):=by
 cases op<;>simp only[Ck]<;>first|exact aL|exact dS bY|exact bY
theorem Yg {x y:Value}:ku s s2 (λK=>IA op x y λv=>K (.c (.pure (.val v))) s) (λK=>IA op x y λv=>K (.c (.pure (.val v))) s2):=by
 unfold IA
 split
 ·exact dS XU
 ·exact X9
 ·exact aL
theorem Kf {x y:Value}:ku s s2 (λK=>rE op x y λv=>K (.c (.pure (.val v))) s) (λK=>rE op x y λv=>K (.c (.pure (.val v))) s2):=by
 unfold rE
 split
 ·refine dS ?_
  cases op<;>simp only[zn]<;>first|exact aL|exact bY
 ·exact aL
theorem OM {F F2:List AC→(AV→St→Prop)→Prop} (hF: ∀x,ku s s2 (F x) (F2 x)): ∀{ps:List (Nat×Nat×AX)} {acc:List AC},(∀t∈LW ps,aZ s2.fr t=aZ s.fr t)→ku s s2 (λK=>bC.buildW s ps acc λxs=>F xs K) (λK=>bC.buildW s2 ps acc λxs=>F2 xs K)
 | [],acc,h=>hF acc
 |(off,n,x)::ps,acc,h=>by
  simp only[bC.buildW]
  rw[bI λt ht=>h t (by simp[LW,ht])]
  split
  ·exact dS (OM hF λt ht=>h t (by simp[LW,ht]))
  ·exact aL
theorem Ms {sz:Nat} {F F2:List (List PC)→(AV→St→Prop)→Prop} (hF: ∀x,ku s s2 (F x) (F2 x)): ∀{ps:List AX} {acc:List (List PC)},(∀t∈jO ps,aZ s2.fr t=aZ s.fr t)→ku s s2 (λK=>bC.bsliceW s sz ps acc λxs=>F xs K) (λK=>bC.bsliceW s2 sz ps acc λxs=>F2 xs K)
 | [],acc,h=>hF acc
 |x::ps,acc,h=>by
  simp only[bC.bsliceW]
  rw[bI λt ht=>h t (by simp[jO,ht])]
  split
  ·exact oY λz=>dS (Ms hF λt ht=>h t (by simp[jO,ht]))
  ·exact aL
theorem Sb {F F2:List AC→(AV→St→Prop)→Prop} (hF: ∀x,ku s s2 (F x) (F2 x)): ∀{ps:List AX} {acc:List AC},(∀t∈jO ps,aZ s2.fr t=aZ s.fr t)→ku s s2 (λK=>bC.mkfnW s ps acc λxs=>F xs K) (λK=>bC.mkfnW s2 ps acc λxs=>F2 xs K)
 | [],acc,h=>hF acc
 |x::ps,acc,h=>by
  simp only[bC.mkfnW]
  rw[bI λt ht=>h t (by simp[jO,ht])]
  split
  ·exact Sb hF λt ht=>h t (by simp[jO,ht])
  ·exact aL
theorem zp {y:Option AX} (h: ∀t∈PE y,aZ s2.fr t=aZ s.fr t):bC.boundOf s2 y=bC.boundOf s y:=by
 cases y with
 |none=>rfl
 |some x=>simp only[bC.boundOf,bI (x:=x) h]
theorem T7 {fr fr2:List (Nat×AV)}: ∀{xs:List AX},(∀t∈jO xs,aZ fr2 t=aZ fr t)→xs.map (·.ev fr2)=xs.map (·.ev fr)
 | [],_=>rfl
 |x::xs,h=>by
  rw[zB8,zB8,bI λt ht=>h t (by simp[jO,ht]),T7 λt ht=>h t (by simp[jO,ht])]
end
variable {m m':List (Nat×bP)}{xs:List AC}
theorem Zm (hm:nU m m') {q:AC} (h:bR m q=some xs):bR m' q=some xs:=by
 unfold bR at h ⊢
 split at h
 ·rename_i nm off
  split at h
  ·rename_i hf;rw[hm _ _ hf];exact h
  ·cases h
 ·exact h
 ·rename_i nm sz row off
  split at h
  ·rename_i hf;rw[hm _ _ hf];exact h
  ·rename_i hf;rw[hm _ _ hf];exact h
  ·cases h
 ·cases h
variable {rows:List (List PC)}
theorem XQ (hm:nU m m') {x:AV} (h:gd m x=some rows):gd m' x=some rows:=by
 unfold gd at h ⊢
 split at h
 ·exact h
 ·exact h
 ·exact h
 ·rename_i nm
  split at h
  ·rename_i hf;rw[hm _ _ hf];exact h
  ·cases h
 ·cases h
variable {x:AC}
theorem Me (hm:nU m m') {p:PC} (h:co m x=some p):co m' x=some p:=by
 unfold co at h ⊢
 split at h
 ·exact h
 ·exact h
 ·exact h
 ·rename_i nm
  split at h
  ·rename_i hf;rw[hm _ _ hf];exact h
  ·cases h
 ·cases h
theorem Py {m m':List (Nat×bP)} (hm:nU m m'): ∀{xs:List AC} {ps:List PC},xu m xs=some ps→xu m' xs=some ps
 | [],ps,h=>h
 |x::xs,ps,h=>by
  unfold xu at h ⊢
  split at h
  ·rename_i h1 h2
   rw[Me hm h1,Py hm h2]
   exact h
  ·cases h
theorem Uy (hm:nU m m') {n:Option Nat} {ps:List PC} (h:pZ m n xs=some ps):pZ m' n xs=some ps:=by
 unfold pZ at h ⊢
 split at h
 ·split at h
  ·rename_i h1;rw[Me hm h1];exact h
  ·cases h
 ·cases h
 ·exact Py hm h
theorem FN {m m':List (Nat×bP)} (hm:nU m m') {n:Option Nat}: ∀{xs:List (MK×List AC)} {ps:List (MK×List PC)},lB m n xs=some ps→lB m' n xs=some ps
 | [],ps,h=>h
 |x::xs,ps,h=>by
  unfold lB at h ⊢
  split at h
  ·rename_i h1 h2
   rw[Uy hm h1,FN hm h2]
   exact h
  ·cases h
theorem Y2 (hm:nU m m') {p:PC} (h:dh m x=some p):dh m' x=some p:=by
 unfold dh at h ⊢
 split at h
 ·rename_i nm
  split at h
  ·rename_i hf
   rw[hm _ _ hf]
   simp only
   split at h
   ·rename_i h1;rw[FN hm h1];exact h
   ·cases h
  ·cases h
 ·exact Me hm h
theorem Ph {m m':List (Nat×bP)} (hm:nU m m'): ∀{xs:List AC} {ps:List PC},bz m xs=some ps→bz m' xs=some ps
 | [],ps,h=>h
 |x::xs,ps,h=>by
  unfold bz at h ⊢
  split at h
  ·rename_i h1 h2
   rw[Y2 hm h1,Ph hm h2]
   exact h
  ·cases h
theorem Tm (hm:nU m m') {y:AC} (h:cQ m x=some y):cQ m' x=some y:=by
 unfold cQ at h ⊢
 split at h
 ·exact h
 ·exact h
 ·exact h
 ·rename_i nm
  split at h
  ·rename_i hf;rw[hm _ _ hf];exact h
  ·cases h
 ·exact h
 ·rename_i nm off
  split at h
  ·rename_i hf
   rw[hm _ _ hf]
   simp only
   split at h
   ·rename_i h1;rw[Ph hm h1];exact h
   ·cases h
  ·cases h
 ·rename_i nm
  split at h
  ·rename_i hf
   rw[hm _ _ hf]
   simp only
   split at h
   ·rename_i h1;rw[FN hm h1];exact h
   ·cases h
  ·cases h
 ·cases h
theorem Pv {m m':List (Nat×bP)} (hm:nU m m'): ∀{xs ys:List AC},GI m xs=some ys→GI m' xs=some ys
 | [],ps,h=>h
 |x::xs,ps,h=>by
  unfold GI at h ⊢
  split at h
  ·rename_i h1 h2
   rw[Tm hm h1,Pv hm h2]
   exact h
  ·cases h
theorem SN (hm:nU m m') {y:AC} (h:c8 m x=some y):c8 m' x=some y:=by
 unfold c8 at h ⊢
 split at h
 ·split at h
  ·rename_i h1;rw[Pv hm h1];exact h
  ·cases h
 ·exact Tm hm h
theorem Pr {m m':List (Nat×bP)} (hm:nU m m'): ∀{xs ys:List AC},DG m xs=some ys→DG m' xs=some ys
 | [],ps,h=>h
 |x::xs,ps,h=>by
  unfold DG at h ⊢
  split at h
  ·rename_i h1 h2
   rw[SN hm h1,Pr hm h2]
   exact h
  ·cases h
theorem Y0 (hm:nU m m') {x:AV} (h:cK m x=some y):cK m' x=some y:=by
 unfold cK at h ⊢
 split at h
 ·split at h
  ·rename_i h1;rw[SN hm h1];exact h
  ·cases h
 ·split at h
  ·rename_i h1;rw[Pr hm h1];exact h
  ·cases h
 ·cases h
theorem OO {m m':List (Nat×bP)} (hm:nU m m'): ∀{xs ys:List AV},bk m xs=some ys→bk m' xs=some ys
 | [],ps,h=>h
 |x::xs,ps,h=>by
  unfold bk at h ⊢
  split at h
  ·rename_i h1 h2
   rw[Y0 hm h1,OO hm h2]
   exact h
  ·cases h
section
variable {P : Program} {op : fA}
theorem abG {s s2:St} (he:op.eff=false) (hm:op.sens=true→nU s.mem s2.mem) (hf: ∀t∈op.tmps,aZ s2.fr t=aZ s.fr t):ku s s2 (bC P op s) (bC P op s2):=by
 have eta: ∀{F F2:(AV→St→Prop)→Prop},ku s s2 (λK=>F K) (λK=>F2 K)→ku s s2 F F2:= λh=>h
 apply eta
 cases op<;>simp only[bC]<;>simp[fA.eff]at he
 case mv=>rw[bI hf];exact bY
 case pick c a b=>
  rw[bI (x:=c) λt ht=>hf t (by simp[fA.tmps,ht]),bI (x:=a) λt ht=>hf t (by simp[fA.tmps,ht]),bI (x:=b) λt ht=>hf t (by simp[fA.tmps,ht])]
  split;exact ZI bY bY;exact aL
 case load n p=>
  rw[bI (x:=p) λt ht=>hf t (by simp[fA.tmps,ht])]
  split
  ·split
   ·rename_i hl
    rw[Zm (hm rfl) hl]
    simp only
    split
    ·split
     ·exact bY
     ·exact aL
    ·exact dS bY
   ·exact aL
  ·exact aL
 case bin op x y=>
  rw[bI (x:=x) λt ht=>hf t (by simp[fA.tmps,ht]),bI (x:=y) λt ht=>hf t (by simp[fA.tmps,ht])]
  split
  ·split
   ·exact Kf
   ·exact Kf
   ·exact Yg
  ·exact aL
 case eqb n x y=>
  rw[bI (x:=x) λt ht=>hf t (by simp[fA.tmps,ht]),bI (x:=y) λt ht=>hf t (by simp[fA.tmps,ht])]
  split;exact bY;exact aL
 case eqs n l x y=>
  rw[bI (x:=x) λt ht=>hf t (by simp[fA.tmps,ht]),bI (x:=y) λt ht=>hf t (by simp[fA.tmps,ht])]
  split;exact dS bY;exact aL
 case un=>rw[bI hf];split<;>first|exact bY|exact aL
 case conv=>rw[bI hf];split;exact bY;exact aL
 case fieldA=>rw[bI hf];split<;>first|exact bY|exact aL
 case field=>
  rw[bI hf]
  split
  ·split
   ·split
    ·exact bY
    ·exact aL
   ·exact dS bY
  ·exact aL
 case idxA sz x y=>
  rw[bI (x:=x) λt ht=>hf t (by simp[fA.tmps,ht]),bI (x:=y) λt ht=>hf t (by simp[fA.tmps,ht])]
  split
  ·exact dS (oY λr=>dS bY)
  ·exact dS (oY λr=>dS bY)
  ·split
   ·rename_i hl
    rw[hm rfl _ _ hl]
    exact dS bY
   ·rename_i hl
    rw[hm rfl _ _ hl]
    exact dS bY
   ·exact aL
  ·exact aL
 case idxR l sz x y=>
  rw[bI (x:=x) λt ht=>hf t (by simp[fA.tmps,ht]),bI (x:=y) λt ht=>hf t (by simp[fA.tmps,ht])]
  split<;>first|exact dS bY|exact aL
 case idxS x y=>
  rw[bI (x:=x) λt ht=>hf t (by simp[fA.tmps,ht]),bI (x:=y) λt ht=>hf t (by simp[fA.tmps,ht])]
  split;exact dS (oY λb=>bY);exact aL
 case nilc=>rw[bI hf];split<;>first|exact bY|exact aL
 case build=>exact OM (λx=>bY) hf
 case bslice=>exact Ms (λx=>bY) hf
 case slc sz x l h m=>
  rw[bI (x:=x) λt ht=>hf t (by simp[fA.tmps,ht]),zp (y:=l) λt ht=>hf t (by simp[fA.tmps,ht]),zp (y:=h) λt ht=>hf t (by simp[fA.tmps,ht]),zp (y:=m) λt ht=>hf t (by simp[fA.tmps,ht])]
  split
  ·exact aL
  ·exact ZV (λrows hr=>XQ (hm rfl) hr) λrows=>oY λlo=>oY λhi=>oY λmx=>dS bY
 case slcS x l h=>
  rw[bI (x:=x) λt ht=>hf t (by simp[fA.tmps,ht]),zp (y:=l) λt ht=>hf t (by simp[fA.tmps,ht]),zp (y:=h) λt ht=>hf t (by simp[fA.tmps,ht])]
  split;exact dS bY;exact aL
 case ext=>rw[bI hf];split;exact oY λv=>bY;exact aL
 case len=>
  rw[bI hf]
  split
  ·exact bY
  ·exact bY
  ·exact bY
  ·split
   ·rename_i hl
    rw[hm rfl _ _ hl]
    exact bY
   ·rename_i hl
    rw[hm rfl _ _ hl]
    exact bY
   ·exact aL
  ·exact aL
 case lenS=>rw[bI hf];split;exact bY;exact aL
 case mm4 x y z t=>
  rw[bI (x:=x) λu hu=>hf u (by simp[fA.tmps,hu]),bI (x:=y) λu hu=>hf u (by simp[fA.tmps,hu]),bI (x:=z) λu hu=>hf u (by simp[fA.tmps,hu]),bI (x:=t) λu hu=>hf u (by simp[fA.tmps,hu])]
  split;exact bY;exact aL
 case dead=>exact aL
 case mm m x y=>
  rw[bI (x:=x) λt ht=>hf t (by simp[fA.tmps,ht]),bI (x:=y) λt ht=>hf t (by simp[fA.tmps,ht])]
  split;exact bY;exact aL
 case fnil=>rw[bI hf];split;exact bY;exact bY;exact aL
 case snil=>
  rw[bI hf]
  split
  ·exact bY
  ·exact PO bY bY
  ·exact PO bY bY
  ·split
   ·rename_i hl
    rw[hm rfl _ _ hl]
    exact PO bY bY
   ·exact aL
  ·exact aL
 case mkfn=>exact Sb (λx=>bY) hf
 case call g z f xs=>
  obtain⟨rfl,rfl⟩:=he
  rw[bI (x:=f) λt ht=>hf t (by simp[fA.tmps,ht]),T7 (xs:=xs) λt ht=>hf t (by simp[fA.tmps,ht])]
  split
  ·rintro K K2 hk ⟨l,σ',args',hl,hz,(⟨pargs,h1,res,h2,h4⟩|⟨h1,_⟩)⟩
   ·rcases hl with rfl|hl
    ·cases hz
     exact⟨[],_,_,.inl rfl,rfl,.inl ⟨pargs,OO (hm rfl) h1,res,h2,hk _ h4⟩⟩
    ·cases hl
   ·cases h1
  ·exact aL
 case mget kt n z ok m k=>
  rw[bI (x:=m) λt ht=>hf t (by simp[fA.tmps,ht]),bI (x:=k) λt ht=>hf t (by simp[fA.tmps,ht])]
  split
  ·refine oY λmk=> ?_
   split
   ·split
    ·rename_i hl
     rw[hm rfl _ _ hl]
     exact dS (Tq (λps=>bY) bY)
    ·exact aL
   ·exact dS (Tq (λps=>bY) bY)
   ·exact aL
  ·exact aL
theorem Hh {s s2:St} {sz:Nat} {F F2:List (List PC)→List (Nat×bP)→Prop} (hF: ∀x m,F x m→F2 x m): ∀{ps:List AX} {mem:List (Nat×bP)} {acc:List (List PC)},(∀t∈jO ps,aZ s2.fr t=aZ s.fr t)→bC.bsliceFW s sz ps mem acc F→bC.bsliceFW s2 sz ps mem acc F2
 | [],mem,acc,h,h1=>hF _ _ h1
 |x::ps,mem,acc,h,h1=>by
  simp only[bC.bsliceFW]at h1 ⊢
  rw[bI λt ht=>h t (by simp[jO,ht])]
  split at h1
  ·obtain⟨z,e,h2,h3⟩:=h1
   exact⟨z,e,h2,Hh hF (λt ht=>h t (by simp[jO,ht])) h3⟩
  ·exact h1.elim
theorem aaT {fr fr2:List (Nat×AV)} {mem:List (Nat×bP)} {nx b:Nat} {K K2:AV→St→Prop} (he:op.eff=true) (hJ:op.gcall=false) (hf: ∀t∈op.tmps,aZ fr2 t=aZ fr t) (hk: ∀v m n,K v ⟨fr,m,n,b⟩→K2 v ⟨fr2,m,n,b⟩) (h:bC P op ⟨fr,mem,nx,b⟩ K):bC P op ⟨fr2,mem,nx,b⟩ K2:=by
 cases op<;>simp[fA.eff]at he<;>simp only[bC]at h ⊢
 case box x=>
  rw[bI (x:=x) hf]
  split at h
  ·exact hk _ _ _ h
  ·exact h.elim
 case store n x y=>
  rw[bI (x:=x) λt ht=>hf t (by simp[fA.tmps,ht]),bI (x:=y) λt ht=>hf t (by simp[fA.tmps,ht])]
  split at h
  ·split at h
   ·exact⟨h.1,hk _ _ _ h.2⟩
   ·exact h.elim
  ·split at h
   ·obtain⟨h1,zs,h2,r,h3,h4⟩:=h
    exact⟨h1,zs,h2,r,h3,hk _ _ _ h4⟩
   ·obtain⟨h1,r,h3,h4⟩:=h
    exact⟨h1,r,h3,hk _ _ _ h4⟩
   ·exact h.elim
  ·exact h.elim
 case mkslice e sz b z x=>
  rw[bI (x:=x) hf]
  split at h
  ·exact⟨h.1,hk _ _ _ h.2⟩
  ·exact h.elim
 case call g z f xs=>
  simp only[fA.gcall]at hJ
  subst hJ
  rw[bI (x:=f) λt ht=>hf t (by simp[fA.tmps,ht]),T7 (xs:=xs) λt ht=>hf t (by simp[fA.tmps,ht])]
  split at h
  ·obtain⟨l,σ',args',hl,hz,h⟩:=h
   rcases hl with rfl|hl
   ·cases hz
    rcases h with⟨pargs,h1,res,h2,h4⟩|⟨h1,res,m,n,h2,h4⟩
    ·exact⟨[],_,_,.inl rfl,rfl,.inl ⟨pargs,h1,res,h2,hk _ _ _ h4⟩⟩
    ·exact⟨[],_,_,.inl rfl,rfl,.inr ⟨h1,res,m,n,h2,hk _ _ _ h4⟩⟩
   ·cases hl
  ·exact h.elim
 case bsliceF sz xs=>exact Hh (s:=⟨fr,mem,nx,b⟩) (s2:=⟨fr2,mem,nx,b⟩) (λx m h=>hk _ _ _ h) hf h
 case mkmap kt n=>exact hk _ _ _ h
 case mput kt n m k v=>
  rw[bI (x:=m) λt ht=>hf t (by simp[fA.tmps,ht]),bI (x:=k) λt ht=>hf t (by simp[fA.tmps,ht]),bI (x:=v) λt ht=>hf t (by simp[fA.tmps,ht])]
  split at h
  ·obtain⟨mk,hmk,h⟩:=h
   refine⟨mk,hmk, ?_⟩
   simp only at h ⊢
   split at h
   ·obtain⟨ys,H3,h⟩:=h
    refine⟨ys,H3, ?_⟩
    simp only at h ⊢
    split at h
    ·exact⟨h.1,hk _ _ _ h.2⟩
    ·exact h.elim
   ·exact h.elim
  ·exact h.elim
 case ment kt n z m k=>
  rw[bI (x:=m) λt ht=>hf t (by simp[fA.tmps,ht]),bI (x:=k) λt ht=>hf t (by simp[fA.tmps,ht])]
  split at h
  ·obtain⟨mk,hmk,h⟩:=h
   refine⟨mk,hmk, ?_⟩
   simp only at h ⊢
   split at h
   ·split at h
    ·exact⟨h.1,λx e=>hk _ _ _ (h.2.1 x e),λe=>hk _ _ _ (h.2.2 e)⟩
    ·exact h.elim
   ·exact h.elim
  ·exact h.elim
 case eput kt n m k v=>
  rw[bI (x:=m) λt ht=>hf t (by simp[fA.tmps,ht]),bI (x:=k) λt ht=>hf t (by simp[fA.tmps,ht]),bI (x:=v) λt ht=>hf t (by simp[fA.tmps,ht])]
  split at h
  ·split at h
   ·obtain⟨ys,H3,h⟩:=h
    refine⟨ys,H3, ?_⟩
    simp only at h ⊢
    split at h
    ·exact⟨h.1,hk _ _ _ h.2⟩
    ·exact h.elim
   ·exact h.elim
  ·exact h.elim
 case app e sz b x y=>
  rw[bI (x:=x) λt ht=>hf t (by simp[fA.tmps,ht]),bI (x:=y) λt ht=>hf t (by simp[fA.tmps,ht])]
  obtain⟨ys,H3,hM,h⟩:=h
  refine⟨ys,H3,hM, ?_⟩
  rcases h with⟨nm,h1,h2,rows,h3,h4,h5,h6⟩|⟨h1,h|h⟩|⟨rows,h1,h2,⟨h3,h⟩|h|h⟩
  ·exact .inl ⟨nm,h1,h2,rows,h3,h4,h5,hk _ _ _ h6⟩
  ·exact .inr (.inl ⟨h1,.inl ⟨h.1,h.2.1,hk _ _ _ h.2.2⟩⟩)
  ·exact .inr (.inl ⟨h1,.inr ⟨h.1,h.2.1,hk _ _ _ h.2.2⟩⟩)
  ·exact .inr (.inr ⟨rows,h1,h2,.inl ⟨h3,h.1,h.2.1,hk _ _ _ h.2.2⟩⟩)
  ·exact .inr (.inr ⟨rows,h1,h2,.inr (.inl ⟨h.1,h.2.1,hk _ _ _ h.2.2⟩)⟩)
  ·exact .inr (.inr ⟨rows,h1,h2,.inr (.inr ⟨h.1,hk _ _ _ h.2⟩)⟩)
end
open Go.RowKit
theorem Jr {op:fA} {τ:St} (hJ:op.gcall=false) (h:bC P op σ λv' τ'=>v'=v∧τ'=τ):τ.fr=σ.fr∧τ.base=σ.base∧(op.eff=false→τ=σ):=by
 by_cases he:op.eff=true
 ·obtain⟨fr,mem,nx,b⟩:=σ
  have h2:=aaT (fr2:=fr) (K2:= λv' τ'=>(v'=v∧τ'=τ)∧τ'.fr=fr∧τ'.base=b) he hJ (λ_ _=>rfl) (λv m n hk=>⟨hk,rfl,rfl⟩) h
  obtain⟨v2,s2,_,⟨_,h4⟩,h5⟩:=QF hJ _ h2
  rw[←h4];exact⟨h5.1,h5.2,λe=>by rw[he]at e;cases e⟩
 ·have HR:op.eff=false:=by simpa using he
  have h2:=abG (s2:=σ) HR (λ_ _ _ h=>h) (λ_ _=>rfl) (λv' τ'=>v'=v∧τ'=τ) (λv' τ'=>(v'=v∧τ'=τ)∧τ'=σ) (λv' hk=>⟨hk,rfl⟩) h
  obtain⟨v2,s2,_,⟨_,h4⟩,h5⟩:=QF hJ _ h2
  subst h4
  subst h5
  exact⟨rfl,rfl,λ_=>rfl⟩
def uv (P:Program) (g:AG) (σ:St) (v:AV) (σ':St):Prop:=
 ((g.op.gcall=false∧(g.guard=none∨ ∃t want,g.guard=some (t,want)∧aZ σ.fr t= .c (.pure (.val (.bool want)))))∧ ∃τ,(bC P g.op σ λv' τ'=>v'=v∧τ'=τ)∧σ'=τ.put g.dst v)∨
 (∃t want,g.guard=some (t,want)∧(aZ σ.fr t= .tup []∨aZ σ.fr t= .c (.pure (.val (.bool (!want)))))∧v= .tup []∧σ'=σ.put g.dst (.tup []))
theorem JW {P:Program} {K:St→Prop}: ∀{gs:List (Bool×AG)} {σ:St},(gs.all λy=> !y.2.op.gcall)=true→mw P gs σ K→ ∃(v:Nat→AV) (s:Nat→St),s 0=σ∧(∀k y,gs[k]? =some y→uv P y.2 (s k) (v k) (s (k+1))∧(y.1=true→nU (s k).mem (s (k+1)).mem))∧K (s gs.length)
 | [],σ,_,h=>⟨λ_=> .top,λ_=>σ,rfl,(λk g hk=>by simp at hk),h⟩
 |(x,g)::gs,σ,hE,h=>by
  simp only[zJ8,zE9,zI7]at hE
  have pmem: ∀{τ:St} {v:AV},(τ.put g.dst v).mem=τ.mem:= λ{τ v}=>by cases g.dst<;>rfl
  have one: ∃v σ',(uv P g σ v σ'∧(x=true→nU σ.mem σ'.mem))∧mw P gs σ' K:=by
   have run:(g.guard=none∨ ∃t want,g.guard=some (t,want)∧aZ σ.fr t= .c (.pure (.val (.bool want))))→(bC P g.op σ λv σ'=> @cr (x=true→TM σ.mem σ'.mem) ⟨mw P gs (σ'.put g.dst v) K⟩)→ ∃v σ',(uv P g σ v σ'∧(x=true→nU σ.mem σ'.mem))∧mw P gs σ' K:=by
    intro hg h
    obtain⟨v,τ,h1,h2,h3⟩:=QF hE.1 _ h
    exact⟨v,_,⟨.inl ⟨⟨hE.1,hg⟩,τ,h1,rfl⟩,by rw[pmem];exact λe=>aaJ (h2 e)⟩,h3⟩
   simp only[mw]at h
   split at h
   ·rename_i hg
    exact run (.inl hg) h
   ·rename_i t want hg
    split at h
    ·rename_i b hb
     by_cases e:b=want
     ·subst e
      exact run (.inr ⟨t,b,hg,hb⟩) (h.1 zR6)
     ·refine⟨.tup [],_,⟨.inr ⟨t,want,hg,.inr ?_,rfl,rfl⟩,λ_=>by rw[pmem];exact λ_ _ h=>h⟩,h.2 (by simp[e])⟩
      rw[hb]
      cases b<;>cases want<;>simp_all
    ·rename_i hb
     exact⟨.tup [],_,⟨.inr ⟨t,want,hg,.inl hb,rfl,rfl⟩,λ_=>by rw[pmem];exact λ_ _ h=>h⟩,h⟩
    ·exact h.elim
  obtain⟨v0,σ1,h1,h2⟩:=one
  obtain⟨v,s,g1,g2,g3⟩:=JW hE.2 h2
  refine⟨λk=>match k with|0=>v0|k+1=>v k,λk=>match k with|0=>σ|k+1=>s k,rfl,λk g' hk=> ?_,g3⟩
  cases k with
  |zero=>
   simp at hk
   subst hk
   show uv P g σ v0 (s 0)∧(x=true→nU σ.mem (s 0).mem)
   rw[g1]
   exact h1
  |succ k=>exact g2 k g' zT7
theorem MN: ∀{ops:List Oper} {k j:Nat} {o:Oper},zV k ops=true→ops[j]? =some o→ ∀e∈o.after.toList,Region.binds .any e=true→e.on<k+j
 | [],k,j,o,h,hj=>by simp at hj
 |x::ops,k,j,o,h,hj=>by
  simp only[zV,zE9,zH6,decide_eq_true_eq,zN8,zI7]at h
  cases j with
  |zero=>
   simp at hj
   subst hj
   intro e he hb
   rcases h.1 e he with h|h
   ·rw[hb]at h;cases h
   ·exact h
  |succ j=>
   simp at hj
   intro e he hb
   have:=MN h.2 hj e he hb
   omega
theorem I8 {acc:List (Nat×Nat)} {i:Nat}: ∀{ks:List Nat},(orX acc ks).testBit i=true→ ∃k∈ks,k=i∨(xq acc k).testBit i=true
 | [],h=>by simp[orX]at h
 |k::r,h=>by
  simp only[orX]at h
  rw[Nat.testBit_or,Nat.testBit_or]at h
  simp only[zN8]at h
  rcases h with(h|h)|h
  ·refine⟨k,zC5,.inl ?_⟩
   rw[Nat.testBit_two_pow]at h
   simpa using h
  ·exact⟨k,zC5,.inr h⟩
  ·obtain⟨k',h1,h2⟩:=I8 h
   exact⟨k',zC3 _ h1,h2⟩
def Rc (ops:List Oper) (E:List (Nat×Nat)) (S:Nat→Bool):Prop:= ∀(j:Nat) o,ops[j]? =some o→S j=true→ ∀k∈Fw E j o,S k=true
theorem oV {ops:List Oper} {E:List (Nat×Nat)} {S:Nat→Bool} (HC:Rc ops E S): ∀{ord:List Nat} {acc:List (Nat×Nat)},
  (∀k i,(xq acc k).testBit i=true→S k=true→S i=true)→ ∀k i,(xq (C8 ops E ord acc) k).testBit i=true→S k=true→S i=true
 | [],acc,hU,k,i,h,hk=>hU k i h hk
 |j::r,acc,hU,k,i,h,hk=>by
  simp only[C8]at h
  refine oV HC (λk i h hk=> ?_) k i h hk
  simp only[xq]at h
  split at h
  ·rename_i e
   subst e
   split at h
   ·rename_i o ho
    obtain⟨k',h1,h2⟩:=I8 h
    have HO:=HC j o ho hk k' h1
    rcases h2 with rfl|h2
    ·exact HO
    ·exact hU _ _ h2 HO
   ·simp at h
  ·exact hU k i h hk
theorem JX {ops:List Oper} {E:List (Nat×Nat)} {S:Nat→Bool} (HC:Rc ops E S) {j:Nat} {o:Oper} (ho:ops[j]? =some o) (hp: ∀k∈Fw E j o,S k=true):
  ∀{ord:List Nat} {acc:List (Nat×Nat)},(∀k i,(xq acc k).testBit i=true→S k=true→S i=true)→(∀i,(xq acc j).testBit i=true→S i=true)→ ∀i,(xq (C8 ops E ord acc) j).testBit i=true→S i=true
 | [],acc,hU,hj,i,h=>hj i h
 |k::r,acc,hU,hj,i,h=>by
  simp only[C8]at h
  refine JX HC ho hp (λk' i g hk=> ?_) (λi g=> ?_) i h
  ·clear h
   simp only[xq]at g
   split at g
   ·rename_i e
    subst e
    split at g
    ·rename_i o' q9
     obtain⟨k'',h1,h2⟩:=I8 g
     have HO:=HC _ o' q9 hk k'' h1
     rcases h2 with rfl|h2
     ·exact HO
     ·exact hU _ _ h2 HO
    ·simp at g
   ·exact hU k' i g hk
  ·clear h
   simp only[xq]at g
   split at g
   ·rename_i e
    subst e
    rw[ho]at g
    obtain⟨k'',h1,h2⟩:=I8 g
    have HO:=hp k'' h1
    rcases h2 with rfl|h2
    ·exact HO
    ·exact hU _ _ h2 HO
   ·exact hj i g
theorem ug (a:Act) (d:Option Nat) (v:Value):(a.put d v).tmps.size=a.tmps.size:=by
 cases d<;>simp[Act.put]
variable {a:Act}
theorem xQ {t:Nat} {v:Value} (h:a.tmps.getD t undef=v) (hv:v≠undef):a.tmps[t]? =some v:=by
 simp only[zC4]at h
 cases e:a.tmps[t]? with
 |none=>rw[e]at h;exact absurd h.symm hv
 |some u=>rw[e]at h;simp at h;rw[h]
def zI (gs:List AG) (k:Nat):Option Nat:=(gs[k]?).bind (·.dst)
def lp (gs:List AG) (k:Nat):Bool:=match gs[k]? with|some g=>g.op.eff|none=>false
def oX (gs:List AG) (v:Nat→AV) (fr0:List (Nat×AV)) (S:Nat→Bool):Nat→List (Nat×AV)
 |0=>fr0
 |k+1=>if S k=true then(match zI gs k with|some d=>(d,v k)::oX gs v fr0 S k|none=>oX gs v fr0 S k)else oX gs v fr0 S k
def iP (gs:List AG) (s:Nat→St) (S:Nat→Bool):Nat→List (Nat×bP)×Nat
 |0=>((s 0).mem,(s 0).nx)
 |k+1=>if S k=true∧lp gs k=true then((s (k+1)).mem,(s (k+1)).nx)else iP gs s S k
section
variable {P : Program} {gs : List AG} {v : Nat → AV} {s : Nat → St}
variable {σ:St}{d:Option Nat}{x:AV}
theorem XT {t:Nat}:aZ (σ.put d x).fr t=if d=some t then x else aZ σ.fr t:=by
 cases d with
 |none=>simp[St.put]
 |some d=>
  show(if d=t then x else aZ σ.fr t)=_
  by_cases e:d=t<;>simp[e]
theorem PN:(σ.put d x).mem=σ.mem∧(σ.put d x).nx=σ.nx:=by cases d<;>exact⟨rfl,rfl⟩
variable {g:AG}{σ':St}
theorem aaZ (h:uv P g σ x σ') (t:Nat):aZ σ'.fr t=if g.dst=some t then x else aZ σ.fr t:=by
 rcases h with⟨H5,τ,h1,rfl⟩|⟨_,_,_,_,rfl,rfl⟩
 ·rw[XT,(Jr H5.1 h1).1]
 ·rw[XT]
theorem SC (h:uv P g σ x σ') (he:g.op.eff=false):σ'.mem=σ.mem∧σ'.nx=σ.nx:=by
 rcases h with⟨H5,τ,h1,rfl⟩|⟨_,_,_,_,rfl,rfl⟩
 ·rw[PN.1,PN.2,(Jr H5.1 h1).2.2 he]
  exact⟨rfl,rfl⟩
 ·exact PN
theorem Tt:(σ.put d x).base=σ.base:=by cases d<;>rfl
theorem Xn (h:uv P g σ x σ'):σ'.base=σ.base:=by
 rcases h with⟨H5,τ,h1,rfl⟩|⟨_,_,_,_,rfl,rfl⟩
 ·rw[Tt,(Jr H5.1 h1).2.1]
 ·exact Tt
theorem Cn (hC: ∀k g,gs[k]? =some g→uv P g (s k) (v k) (s (k+1))): ∀{i:Nat},i≤gs.length→(s i).base=(s 0).base
 |0,_=>rfl
 |i+1,h=>(Xn (hC i _ (zA7 (show i<gs.length by omega)))).trans (Cn hC zR5)
theorem tz (hC: ∀k g,gs[k]? =some g→uv P g (s k) (v k) (s (k+1))) {S:Nat→Bool} {t i:Nat}: ∀{n:Nat},n≤gs.length→i≤n→(∀k,k<n→zI gs k=some t→(S k=true↔k<i))→aZ (oX gs v (s 0).fr S n) t=aZ (s i).fr t
 |0,_,hi,_=>by
  obtain rfl:i=0:=by omega
  rfl
 |n+1,hn,hi,h=>by
  have hg:=zA7 (show n<gs.length by omega)
  by_cases e:i=n+1
  ·subst e
   have ih:=tz hC (S:=S) (t:=t) (i:=n) (n:=n) zR5 (zB2 _) (λk hk hd=>⟨λ_=>hk,λ_=>(h k zR5 hd).2 zR5⟩)
   rw[aaZ (hC n _ hg) t]
   simp only[oX]
   by_cases hd:zI gs n=some t
   ·rw[if_pos ((h n zR5 hd).2 zR5),hd]
    have hW:gs[n].dst=some t:=by simpa[zI,hg]using hd
    rw[if_pos hW,gz,if_pos rfl]
   ·have hW: ¬gs[n].dst=some t:=by simpa[zI,hg]using hd
    rw[if_neg hW]
    split
    ·split
     ·rename_i d H7
      rw[gz,if_neg (λe=>hd (by rw[H7,e]))]
      exact ih
     ·exact ih
    ·exact ih
  ·have ih:=tz hC (S:=S) (t:=t) (i:=i) (n:=n) zR5 zR5 (λk hk hd=>h k zR5 hd)
   simp only[oX]
   by_cases hd:zI gs n=some t
   ·rw[if_neg (λhs=>by have:=(h n zR5 hd).1 hs;omega)]
    exact ih
   ·split
    ·split
     ·rename_i d H7
      rw[gz,if_neg (λe=>hd (by rw[H7,e]))]
      exact ih
     ·exact ih
    ·exact ih
theorem ti (hC: ∀k g,gs[k]? =some g→uv P g (s k) (v k) (s (k+1))) {S:Nat→Bool} {i:Nat}: ∀{n:Nat},n≤gs.length→i≤n→(∀k,k<n→lp gs k=true→(S k=true↔k<i))→iP gs s S n=((s i).mem,(s i).nx)
 |0,_,hi,_=>by
  obtain rfl:i=0:=by omega
  rfl
 |n+1,hn,hi,h=>by
  have hg:=zA7 (show n<gs.length by omega)
  by_cases e:i=n+1
  ·subst e
   have ih:=ti hC (S:=S) (i:=n) (n:=n) zR5 (zB2 _) (λk hk hd=>⟨λ_=>hk,λ_=>(h k zR5 hd).2 zR5⟩)
   simp only[iP]
   by_cases he:lp gs n=true
   ·rw[if_pos ⟨(h n zR5 he).2 zR5,he⟩]
   ·rw[if_neg (λhh=>he hh.2),ih]
    have HR:gs[n].op.eff=false:=by simpa[lp,hg]using he
    have:=SC (hC n _ hg) HR
    rw[this.1,this.2]
  ·have ih:=ti hC (S:=S) (i:=i) (n:=n) zR5 zR5 (λk hk hd=>h k zR5 hd)
   simp only[iP]
   rw[if_neg (λhh=>by have:=(h n zR5 hh.2).1 hh.1;omega)]
   exact ih
theorem OG (hC: ∀k g,gs[k]? =some g→uv P g (s k) (v k) (s (k+1))) {S:Nat→Bool} {p:Nat} (h1: ∀k,k<p→lp gs k=true→S k=true) (h2: ∀k,p≤k→k<gs.length→lp gs k=true→S k=true→nU (s k).mem (s (k+1)).mem)
  (h3: ∀k q,k<q→q<gs.length→lp gs k=true→lp gs q=true→S q=true→S k=true): ∀{n:Nat},n≤gs.length→p≤n→nU (s p).mem (iP gs s S n).1
 |0,hn,hp=>by
  obtain rfl:p=0:=by omega
  exact λ_ _ h=>h
 |n+1,hn,hp=>by
  by_cases e:p=n+1
  ·subst e
   have:=ti hC (S:= λk=>decide (k<n+1)) (i:=n+1) (n:=n+1) hn (zB2 _) (λk hk _=>by simp)
   have same: ∀m,m≤n+1→iP gs s S m=iP gs s (λk=>decide (k<n+1)) m:=by
    intro m
    induction m with
    |zero=>intro _;rfl
    |succ m ih=>
     intro hm
     simp only[iP]
     rw[ih zR5]
     by_cases he:lp gs m=true
     ·rw[if_pos ⟨h1 m zR5 he,he⟩,if_pos ⟨by simp;omega,he⟩]
     ·rw[if_neg (λhh=>he hh.2),if_neg (λhh=>he hh.2)]
   rw[same _ (zB2 _),this]
   exact λ_ _ h=>h
  ·have ih:=OG hC h1 h2 h3 (n:=n) zR5 zR5
   simp only[iP]
   by_cases hs:S n=true∧lp gs n=true
   ·rw[if_pos hs]
    have key: ∀m,p≤m→m≤n+1→nU (s p).mem (s m).mem:=by
     intro m
     induction m with
     |zero=>
      intro hp _
      obtain rfl:p=0:=by omega
      exact λ_ _ h=>h
     |succ m ih=>
      intro hpm hm
      by_cases e:p=m+1
      ·subst e;exact λ_ _ h=>h
      ·have hk:=ih zR5 zR5
       by_cases he:lp gs m=true
       ·have hS:S m=true:=by
         by_cases e2:m=n
         ·subst e2;exact hs.1
         ·exact h3 m n zR5 zR5 he hs.2 hs.1
        exact λnm bx hf=>h2 m zR5 zR5 he hS nm bx (hk nm bx hf)
       ·have hg:=zA7 (show m<gs.length by omega)
        have HR:gs[m].op.eff=false:=by simpa[lp,hg]using he
        rw[(SC (hC m _ hg) HR).1]
        exact hk
    exact key (n+1) zR5 (zB2 _)
   ·rw[if_neg hs]
    exact ih
def lJ (S:Nat→Bool) (i:Nat):Nat→Bool:= λk=>if k=i then true else S k
theorem SH {S:Nat→Bool} {i t:Nat} {fr0:List (Nat×AV)} (hi:S i=false): ∀{n:Nat},i<n→(zI gs i=some t→ ∀k,i<k→zI gs k=some t→S k=false)→aZ (oX gs v fr0 (lJ S i) n) t=if zI gs i=some t then v i else aZ (oX gs v fr0 S n) t
 |0,hn,_=>by omega
 |n+1,hn,h=>by
  have same: ∀{m:Nat},m≤i→oX gs v fr0 (lJ S i) m=oX gs v fr0 S m:=by
   intro m
   induction m with
   |zero=>intro _;rfl
   |succ m ih=>
    intro hm
    simp only[oX]
    rw[ih zR5]
    have:lJ S i m=S m:=if_neg zR5
    rw[this]
  by_cases e:i=n
  ·subst e
   simp only[oX]
   rw[if_pos (show lJ S i i=true from if_pos rfl),hi,if_neg (show ¬false=true from λe=>by cases e),same (zB2 _)]
   cases hd:zI gs i with
   |none=>simp
   |some d=>
    show aZ ((d,v i)::oX gs v fr0 S i) t=if some d=some t then v i else aZ (oX gs v fr0 S i) t
    rw[gz]
    by_cases e:d=t<;>simp[e]
  ·have ih:=SH (fr0:=fr0) (t:=t) hi (n:=n) zR5 h
   have hn':lJ S i n=S n:=if_neg zR5
   simp only[oX]
   rw[hn']
   by_cases hs:S n=true
   ·rw[if_pos hs,if_pos hs]
    split
    ·rename_i d hd
     rw[gz,gz]
     by_cases e2:d=t
     ·subst e2
      rw[if_pos rfl,if_pos rfl]
      by_cases e3:zI gs i=some d
      ·have:=h e3 n zR5 hd
       rw[hs]at this
       cases this
      ·rw[if_neg e3]
     ·rw[if_neg e2,if_neg e2]
      exact ih
    ·exact ih
   ·rw[if_neg hs,if_neg hs]
    exact ih
theorem Pz {S:Nat→Bool} {i:Nat} (hi:S i=false): ∀{n:Nat},i<n→(lp gs i=true→ ∀k,i<k→lp gs k=true→S k=false)→iP gs s (lJ S i) n=if lp gs i=true then((s (i+1)).mem,(s (i+1)).nx)else iP gs s S n
 |0,hn,_=>by omega
 |n+1,hn,h=>by
  have same: ∀{m:Nat},m≤i→iP gs s (lJ S i) m=iP gs s S m:=by
   intro m
   induction m with
   |zero=>intro _;rfl
   |succ m ih=>
    intro hm
    simp only[iP]
    rw[ih zR5]
    have:lJ S i m=S m:=if_neg zR5
    rw[this]
  by_cases e:i=n
  ·subst e
   simp only[iP]
   have h1:lJ S i i=true:=if_pos rfl
   rw[same (zB2 _)]
   by_cases he:lp gs i=true
   ·rw[if_pos ⟨h1,he⟩,if_pos he]
   ·rw[if_neg (λhh=>he hh.2),if_neg he,if_neg (λhh=>he hh.2)]
  ·have ih:=Pz hi (n:=n) zR5 h
   have hn':lJ S i n=S n:=if_neg zR5
   simp only[iP]
   rw[hn']
   by_cases hs:S n=true∧lp gs n=true
   ·rw[if_pos hs,if_pos hs]
    by_cases he:lp gs i=true
    ·have:=h he n zR5 hs.2
     rw[hs.1]at this
     cases this
    ·rw[if_neg he]
   ·rw[if_neg hs,if_neg hs]
    exact ih
end
variable {w0 w:World}{U:Gh}
theorem ci.fr {ι:Pl} (hs:ci w0 U σ ι a w) {fr:List (Nat×AV)} (h: ∀t,aZ fr t=aZ σ.fr t):ci w0 U ⟨fr,σ.mem,σ.nx,σ.base⟩ ι a w:=
 ⟨λt=>by have:=hs.val t;rw[←h t]at this;exact this,hs.defers,hs.names,hs.box,hs.apart,hs.below,hs.keep,hs.base⟩
open Go.RowKit
def VO (S:Nat→Bool):Nat→Nat
 |0=>0
 |n+1=>VO S n+if S n=true then 1 else 0
theorem Ym (S:Nat→Bool): ∀n,VO S n≤n
 |0=>zB2 _
 |n+1=>by have:=Ym S n;simp only[VO];split<;>omega
theorem VZ {S:Nat→Bool}: ∀{n:Nat},VO S n=n→ ∀k,k<n→S k=true
 |0,_,k,hk=>by omega
 |n+1,h,k,hk=>by
  have hle:=Ym S n
  simp only[VO]at h
  split at h
  ·rename_i hn
   by_cases e:k=n
   ·rw[e];exact hn
   ·exact VZ (n:=n) zR5 k zR5
  ·omega
theorem U4 {S:Nat→Bool} {i:Nat} (hi:S i=false): ∀{n:Nat},i<n→VO (lJ S i) n=VO S n+1
 |0,h=>by omega
 |n+1,h=>by
  have same: ∀{m:Nat},m≤i→VO (lJ S i) m=VO S m:=by
   intro m
   induction m with
   |zero=>intro _;rfl
   |succ m ih=>
    intro hm
    simp only[VO]
    rw[ih zR5]
    have:lJ S i m=S m:=if_neg zR5
    rw[this]
  simp only[VO]
  by_cases e:i=n
  ·subst e
   rw[same (zB2 _),hi,show lJ S i i=true from if_pos rfl]
   simp
  ·have:lJ S i n=S n:=if_neg zR5
   rw[this,U4 hi zR5]
   omega
theorem VC {P:Program} {dr:Bool} {nt:Nat} {ops:Array Oper}: ∀{l:List Oper} {gs:List AG},gL P dr nt ops l=some gs→l.length=gs.length∧ ∀(i:Nat) o,l[i]? =some o→ ∃g,gs[i]? =some g∧xA P dr nt ops o=some g
 | [],gs,h=>by cases h;exact⟨rfl,λi o hi=>by simp at hi⟩
 |o::l,gs,h=>by
  unfold gL at h
  split at h
  ·rename_i g gs' h1 h2
   cases h
   obtain⟨g1,g2⟩:=VC h2
   refine⟨by simp[g1],λi o' hi=> ?_⟩
   cases i with
   |zero=>simp at hi;subst hi;exact⟨g,rfl,h1⟩
   |succ i=>exact g2 i o' zS7
  ·cases h
variable {dr:Bool}{nt:Nat}{ops:Array Oper}{o:Oper}
theorem R4 {g:AG} (h:xA P dr nt ops o=some g):g.dst=o.dst∧(∀t,o.dst=some t→t<nt)∧bK P dr o.op=some g.op∧
  ((o.guard=none∧g.guard=none)∨ ∃j want t,o.guard=some (j,want)∧(ops[j]?).bind (·.dst)=some t∧g.guard=some (t,want)):=by
 unfold xA at h
 by_cases HF:PV nt o.dst=false
 ·rw[if_pos HF]at h;cases h
 ·rw[if_neg HF]at h
  have hd: ∀t,o.dst=some t→t<nt:=by
   intro t ht
   rw[ht]at HF
   simpa[PV]using HF
  split at h
  ·rename_i ao Q1
   split at h
   ·rename_i hg
    cases h
    exact⟨rfl,hd,Q1,.inl ⟨hg,rfl⟩⟩
   ·rename_i j want hg
    split at h
    ·rename_i t ht
     cases h
     exact⟨rfl,hd,Q1,.inr ⟨j,want,t,hg,ht,rfl⟩⟩
    ·cases h
  ·cases h
section
variable {P : Program} {a : Act} {w w' w0 : World} {U : Gh} {ι : Pl} {σ : St} {nt : Nat} {dr : Bool}
theorem Q7 {V:Nat→Prop} {N:Nat} {u:Value} (h:aT w V ι N (.tup []) u):u=undef:=by
 cases h with
 | @tup _ vs hl _=>
  have:vs= #[]:=zJ7 (by simpa using hl.symm)
  rw[this]
  rfl
variable {ops:Array Oper}{Q:Exit→Act→World→Prop}{g:AG}
theorem TI {i:Nat} {o:Oper} {v:AV} {σ σ':St} {next:Act→World→Prop} (ho:ops[i]? =some o) (hg:xA P dr nt ops o=some g) (hst:uv P g σ v σ') (hs:ci w0 U σ ι a w) (hz:a.tmps.size=nt)
  (hn: ∀ι' a' w',ci w0 U σ' ι' a' w'→a'.tmps.size=nt→next a' w'):wpOp P ops Q i next a w:=by
 obtain⟨h1,h2,h3,h4⟩:=R4 hg
 have hd: ∀t,o.dst=some t→t<a.tmps.size:= λt ht=>by rw[hz];exact h2 t ht
 unfold wpOp
 rw[ho]
 have run:Region.wanted o (yielded ops a.tmps)=true→(∃τ,(bC P g.op σ λv' τ'=>v'=v∧τ'=τ)∧σ'=τ.put g.dst v)→(if Region.wanted o (yielded ops a.tmps)=true then o.wp P a w next Q∨(o.asks P a w∧LetsOut Q)else next (a.put o.dst undef) w):=by
  rintro hw ⟨τ,k1,rfl⟩
  rw[if_pos hw]
  left
  refine RC h3 k1 hs ?_
  rintro v' σ2 ι' u w' ⟨rfl,rfl⟩ O hr
  refine hn ι' _ w' ?_ (by rw[ug];exact hz)
  rw[h1]
  exact O.put hd hr
 rcases h4 with⟨k1,k2⟩|⟨j,want,t,k1,k2,k3⟩
 ·rcases hst with⟨_,hx⟩|⟨t,want,e,_⟩
  ·exact run (by simp[Region.wanted,k1]) hx
  ·rw[k2]at e;cases e
 ·have hA:=hs.val t
  rcases hst with⟨⟨_,ge⟩,hx⟩|⟨t',want',e,ge,rfl,rfl⟩
  ·rcases ge with e|⟨t',want',e,hb⟩
   ·rw[k3]at e;cases e
   ·rw[k3]at e
    cases e
    rw[hb]at hA
    have gf:=xQ (aU hA).1 (by intro e;cases e)
    exact run (by simp[Region.wanted,k1,yielded,k2,gf]) hx
  ·rw[k3]at e
   cases e
   have hw: ¬Region.wanted o (yielded ops a.tmps)=true:=by
    rcases ge with hb|hb
    ·rw[hb]at hA
     have hu:=Q7 hA
     have hy:yielded ops a.tmps j=none:=by
      unfold yielded
      simp only[k2,zR1]
      simp only[zC4]at hu
      cases e':a.tmps[t]? with
      |none=>rfl
      |some z=>
       rw[e']at hu
       simp at hu
       subst hu
       rfl
     simp[Region.wanted,k1,hy]
    ·rw[hb]at hA
     have gf:=xQ (aU hA).1 (by intro e;cases e)
     simp[Region.wanted,k1,yielded,k2,gf]
   show(if Region.wanted o (yielded ops a.tmps)=true then _ else next (a.put o.dst undef) w)
   rw[if_neg hw]
   refine hn ι _ w ?_ (by rw[ug];exact hz)
   rw[h1]
   exact hs.put hd ip
theorem uv.congr {v:AV} {σ σ' σ2:St} (h:uv P g σ v σ') (hf: ∀t∈g.looks,aZ σ2.fr t=aZ σ.fr t) (hm:g.op.eff=true→σ2.mem=σ.mem∧σ2.nx=σ.nx) (hms:g.op.eff=false→g.op.sens=true→nU σ.mem σ2.mem) (HG:σ2.base=σ.base):
  ∃τ,uv P g σ2 v τ∧(∀t,aZ τ.fr t=if g.dst=some t then v else aZ σ2.fr t)∧(τ.mem,τ.nx)=(if g.op.eff=true then(σ'.mem,σ'.nx)else(σ2.mem,σ2.nx))∧τ.base=σ2.base:=by
 have hf': ∀t∈g.op.tmps,aZ σ2.fr t=aZ σ.fr t:= λt ht=>hf t (by simp[AG.looks,ht])
 rcases h with⟨⟨hJ,hg⟩,τ,h1,rfl⟩|⟨t,want,hg,hb,rfl,rfl⟩
 ·have hg2:g.guard=none∨ ∃t want,g.guard=some (t,want)∧aZ σ2.fr t= .c (.pure (.val (.bool want))):=by
   rcases hg with e|⟨t,want,e,hb⟩
   ·exact .inl e
   ·exact .inr ⟨t,want,e,by rw[hf t (by simp[AG.looks,e])];exact hb⟩
  by_cases he:g.op.eff=true
  ·obtain⟨m1,m2⟩:=hm he
   have k1:=(Jr hJ h1).1
   have k2:=(Jr hJ h1).2.1
   obtain⟨fr,mem,nx,b⟩:=σ
   obtain⟨fr2,mem2,nx2,b2⟩:=σ2
   simp only at m1 m2 hf' k1 k2 HG
   subst HG
   subst m1
   subst m2
   have h2:=aaT (fr2:=fr2) (K2:= λv' τ'=>v'=v∧τ'=⟨fr2,τ.mem,τ.nx,τ.base⟩) he hJ hf' (λv' m n hk=>by obtain⟨e1,e2⟩:=hk;subst e2;exact⟨e1,rfl⟩) h1
   refine⟨_,.inl ⟨⟨hJ,hg2⟩,_,h2,rfl⟩,λt=>XT, ?_,by rw[Tt];exact k2⟩
   rw[if_pos he,PN.1,PN.2,PN.1,PN.2]
  ·have HR:g.op.eff=false:=by simpa using he
   have k1:=(Jr hJ h1).2.2 HR
   subst k1
   have h2:=abG (s2:=σ2) HR (hms HR) hf' (λv' τ'=>v'=v∧τ'=τ) (λv' τ'=>v'=v∧τ'=σ2) (λv' hk=>⟨hk.1,rfl⟩) h1
   refine⟨_,.inl ⟨⟨hJ,hg2⟩,_,h2,rfl⟩,λt=>XT, ?_,Tt⟩
   rw[if_neg he,PN.1,PN.2]
 ·refine⟨_,.inr ⟨t,want,hg, ?_,rfl,rfl⟩,λt=>XT, ?_,Tt⟩
  ·rw[hf t (by simp[AG.looks,hg])]
   exact hb
  ·rw[PN.1,PN.2,PN.1,PN.2]
   split
   ·rename_i he
    rw[(hm he).1,(hm he).2]
   ·rfl
theorem Pp {h:AG} {d:Nat} (hc:ka g h=false) (hd:g.dst=some d):d∉h.looks∧h.dst≠some d:=by
 simp only[ka,hd,zP4]at hc
 refine⟨λhm=> ?_,λe=> ?_⟩
 ·have:=hc.1.1.1.1
  simp[hm]at this
 ·have:=hc.1.1.1.2
  simp[e]at this
theorem Un {h:AG} {d:Nat} (hc:ka g h=false) (hd:h.dst=some d):d∉g.looks:=by
 simp only[ka,hd,zP4]at hc
 intro hm
 have:=hc.1.1.2
 simp[hm]at this
theorem tE {h:AG} (hc:ka g h=false):(g.op.eff=true→h.op.eff=false∧h.op.sens=false):=by
 simp only[ka,zP4]at hc
 have h1:=hc.1.2
 intro e
 rw[e]at h1
 simpa using h1
def Xd (ops:Array Oper):List Nat→Array Bool→Prop
 | [],L=>Region.ready .any ops L= []
 |i::r,L=>i∈Region.ready .any ops L∧Xd ops r (L.setIfInBounds i true)
theorem Z9 {ops:Array Oper}: ∀(fuel t:Nat) (L:Array Bool),L.size=ops.size→VO (λk=>L.getD k false) ops.size+fuel=ops.size→Xd ops (Region.linearise.go .any ops fuel t L []) L
 |0,t,L,hL,hcn=>by
  show Region.ready .any ops L= []
  unfold Region.ready
  rw[List.filter_eq_nil_iff]
  intro k hk
  have HO:k<ops.size:=by simpa using hk
  have h1:=VZ (S:= λk=>L.getD k false) (n:=ops.size) zR5 k HO
  have h2:L.getD k true=true:=by
   have:k<L.size:=by omega
   simp only[zC4,zG7 this,zA8]at h1 ⊢
   exact h1
  rw[h2]
  simp
 |fuel+1,t,L,hL,hcn=>by
  simp only[Region.linearise.go]
  change Xd ops (match (Region.ready .any ops L)[t%(Region.ready .any ops L).length]? with
   |some i=>Region.linearise.go .any ops fuel (t/(Region.ready .any ops L).length) (L.setIfInBounds i true) [i]
   |none=> [].reverse) L
  cases hi:(Region.ready .any ops L)[t%(Region.ready .any ops L).length]? with
  |none=>
   cases hr:Region.ready .any ops L with
   |nil=>exact hr
   |cons x xs=>
    rw[hr]at hi
    have Y:t%(x::xs).length<(x::xs).length:=zI3 _ zR6
    simp at hi
    simp at Y
    omega
  |some i=>
   simp only[]
   rw[linearise_go_acc,List.reverse_singleton,List.singleton_append]
   have HK:=zF0 hi
   refine⟨HK,Z9 _ _ _ (by simpa using hL) ?_⟩
   unfold Region.ready at HK
   rw[List.mem_filter]at HK
   obtain⟨h1,h2⟩:=HK
   have zg:i<ops.size:=by simpa using h1
   have hiL:i<L.size:=by omega
   simp only[zE9,zI7]at h2
   have hf:L.getD i false=false:=by
    have:=h2.1
    simp only[zC4,zG7 hiL,zA8]at this ⊢
    exact this
   have hS:(λk=>(L.setIfInBounds i true).getD k false)=lJ (λk=>L.getD k false) i:=by
    funext k
    simp only[lJ,zC4]
    by_cases e:k=i
    ·subst e;simp[hiL]
    ·rw[if_neg e,zL5 (Ne.symm e)]
   rw[hS,U4 hf zg]
   omega
def okE (E:List (Nat×Nat)):List Nat→(Nat→Bool)→Prop
 | [],_=>True
 |i::r,S=>(∀p∈E,p.2=i→S p.1=true)∧okE E r (lJ S i)
theorem VE: ∀{r:List Nat} {S:Nat→Bool},okE [] r S
 | [],S=>trivial
 |i::r,S=>⟨(λp hp=>by cases hp),VE⟩
theorem JA {E:List (Nat×Nat)} {x y:Nat}: ∀{r:List Nat} {S:Nat→Bool},S x=true→okE E r S→okE ((x,y)::E) r S
 | [],S,_,_=>trivial
 |i::r,S,hx,h=>⟨λp hp e=>by
   rcases zD7.1 hp with rfl|hp
   ·exact hx
   ·exact h.1 p hp e,JA (by simp only[lJ];split<;>simp_all) h.2⟩
theorem OZ {E:List (Nat×Nat)} {x y:Nat} (hxy:x≠y): ∀{r:List Nat} {S:Nat→Bool},okE E r S→okE ((x,y)::E) r S∨okE ((y,x)::E) r S
 | [],S,_=> .inl trivial
 |i::r,S,h=>by
  by_cases e1:i=x
  ·subst e1
   refine .inl ⟨λp hp e=> ?_,JA (by simp[lJ]) h.2⟩
   rcases zD7.1 hp with rfl|hp
   ·exact absurd e.symm hxy
   ·exact h.1 p hp e
  ·by_cases e2:i=y
   ·subst e2
    refine .inr ⟨λp hp e=> ?_,JA (by simp[lJ]) h.2⟩
    rcases zD7.1 hp with rfl|hp
    ·exact absurd e hxy
    ·exact h.1 p hp e
   ·rcases OZ hxy h.2 with h'|h'
    ·refine .inl ⟨λp hp e=> ?_,h'⟩
     rcases zD7.1 hp with rfl|hp
     ·exact absurd e.symm e2
     ·exact h.1 p hp e
    ·refine .inr ⟨λp hp e=> ?_,h'⟩
     rcases zD7.1 hp with rfl|hp
     ·exact absurd e.symm e1
     ·exact h.1 p hp e
theorem tW {M:List (Nat×Nat)}: ∀{leaf:List (Nat×Bool×AG)},Kq M leaf=true→ ∀(p q:Nat) y z,p<q→leaf[p]? =some y→leaf[q]? =some z→Ma M y.1 y.2.2 z.1 z.2.1 z.2.2=true
 | [],_,p,q,y,z,_,hy,_=>by simp at hy
 |(i,x,g)::r,h,p,q,y,z,hpq,hy,hz=>by
  simp only[Kq,zE9,zH6]at h
  cases q with
  |zero=>omega
  |succ q=>
   have hY:r[q]? =some z:=by simpa using hz
   cases p with
   |zero=>
    simp at hy
    subst hy
    exact h.1 z (zF0 hY)
   |succ p=>exact tW h.2 p q y z zR5 (by simpa using hy) hY
theorem OS: ∀{l:List Nat},Ky l=true→ ∀(p q:Nat) i,l[p]? =some i→l[q]? =some i→p=q
 | [],_,p,q,i,hp,_=>by simp at hp
 |x::r,h,p,q,i,hp,hq=>by
  simp only[Ky,zE9,zI7]at h
  have hx: ∀k,r[k]? =some x→False:= λk hk=>by
   have:=h.1
   rw[List.contains_iff_mem.2 (zF0 hk)]at this
   cases this
  cases p with
  |zero=>
   simp at hp
   subst hp
   cases q with
   |zero=>rfl
   |succ q=>exact(hx q (by simpa using hq)).elim
  |succ p=>
   cases q with
   |zero=>
    simp at hq
    subst hq
    exact(hx p zV7).elim
   |succ q=>rw[OS h.2 p q i zV7 (by simpa using hq)]
variable {gs:List AG}{K:St→Prop}
theorem Ud {leaf:List (Nat×Bool×AG)} {E:List (Nat×Nat)} {ord:List Nat} 
  (hc:gL P dr nt ops ops.toList=some gs) (HD:zV 0 ops.toList=true) (hJ:(gs.all λg=> !g.op.gcall)=true) (HS:Kq (C8 ops.toList E ord []) leaf=true) (z9:leaf.map (·.1)=ord) (gg: ∀y∈leaf,gs[y.1]? =some y.2.2)
  (hnd:Ky ord=true) (hE: ∀i,i<gs.length→i∈ord) (h:mw P (xz leaf) σ K) (hs:ci w0 U σ ι a w) (hz:a.tmps.size=nt)
  (hq: ∀σ' ι' a' w',K σ'→ci w0 U σ' ι' a' w'→a'.tmps.size=nt→Q .normal a' w') {sched:List Nat} (HB:Xd ops sched (Array.replicate ops.size false)) (hM:okE E sched (λ_=>false)):wpOps P ops Q sched a w:=by
 have hgc':((xz leaf).all λy=> !y.2.op.gcall)=true:=by
  rw[zH6]
  intro y hy
  obtain⟨z,hz1,rfl⟩:=zE0.1 hy
  exact zH6.1 hJ _ (zF0 (gg z hz1))
 obtain⟨v,s,h9,Z1,hK⟩:=JW hgc' h
 obtain⟨HL,hat⟩:=VC hc
 have hn:ops.size=gs.length:=by rw[←HL,zD0]
 let gs':List AG:=leaf.map (·.2.2)
 have hl':gs'.length=leaf.length:=by simp[gs']
 have hls:(xz leaf).length=gs'.length:=by simp[xz,gs']
 rw[hls]at hK
 have ge: ∀{p:Nat} {g:AG},gs'[p]? =some g→ ∃y,leaf[p]? =some y∧y.2.2=g:=by
  intro p g hp
  simp only[gs',zC7,zC1]at hp
  exact hp
 have hC: ∀k g,gs'[k]? =some g→uv P g (s k) (v k) (s (k+1)):=by
  intro k g hk
  obtain⟨y,hy,rfl⟩:=ge hk
  exact(Z1 k y.2 (by simp[xz,hy])).1
 have hflag: ∀k y,leaf[k]? =some y→y.2.1=true→nU (s k).mem (s (k+1)).mem:= λk y hy=>(Z1 k y.2 (by simp[xz,hy])).2
 have gn: ∀{p:Nat} {y:Nat×Bool×AG},leaf[p]? =some y→ord[p]? =some y.1:=by
  intro p y hp
  rw[←z9,zC7,hp]
  rfl
 let SS (L:Array Bool):Nat→Bool:= λp=>L.getD ((ord[p]?).getD 0) false
 let LL (L:Array Bool):Nat→Bool:= λi=>L.getD i false
 have HT: ∀(L:Array Bool) {p:Nat} {y:Nat×Bool×AG},leaf[p]? =some y→SS L p=LL L y.1:=by
  intro L p y hp
  simp only[SS,LL,gn hp,zA8]
 let stOf (L:Array Bool):St:=⟨oX gs' v (s 0).fr (SS L) gs'.length,(iP gs' s (SS L) gs'.length).1,(iP gs' s (SS L) gs'.length).2,(s 0).base⟩
 have main: ∀(sched:List Nat) (L:Array Bool) (ι:Pl) (a:Act) (w:World),L.size=gs.length→Rc ops.toList E (LL L)→Xd ops sched L→okE E sched (LL L)→ci w0 U (stOf L) ι a w→a.tmps.size=nt→wpOps P ops Q sched a w:=by
  intro sched
  induction sched with
  |nil=>
   intro L ι a w hL HC HB hM gt hz
   have hr:Region.ready .any ops L= []:=HB
   have all: ∀k,k<gs.length→LL L k=true:=by
    intro k
    induction k using Nat.strongRecOn with
    |_ k ih=>
     intro hk
     cases hS:LL L k with
     |true=>rfl
     |false=>
      exfalso
      have hko:k<ops.size:=by omega
      have HK:k∈Region.ready .any ops L:=by
       unfold Region.ready
       rw[List.mem_filter]
       refine⟨by simpa using hko, ?_⟩
       have h1:L.getD k true=false:=by
        have:k<L.size:=by omega
        simp only[LL,zC4,zG7 this,zA8]at hS ⊢
        exact hS
       rw[h1]
       simp only[Bool.not_false,Bool.true_and,zG7 hko,zE1,zA8,Array.all_eq_true]
       intro j hj
       simp only[zN8,zI7]
       cases hbi:Region.binds .any ops[k].after[j]with
       |false=>exact .inl rfl
       |true=>
        have:=MN HD (j:=k) (o:=ops[k]) (by simp[hko]) ops[k].after[j] zR6 hbi
        right
        exact ih ops[k].after[j].on zR5 zR5
      rw[hr]at HK
      cases HK
   have allS: ∀p,p<gs'.length→SS L p=true:=by
    intro p hp
    have hy:=zA7 (show p<leaf.length by omega)
    rw[HT L hy]
    exact all _ (zB7.1 (gg _ (zF0 hy))).1
   have g6: ∀t,aZ (oX gs' v (s 0).fr (SS L) gs'.length) t=aZ (s gs'.length).fr t:= λt=>
    tz hC (zB2 _) (zB2 _) λk hk _=>⟨λ_=>hk,λ_=>allS k hk⟩
   have g7:=ti hC (S:=SS L) (i:=gs'.length) (zB2 _) (zB2 _) λk hk _=>⟨λ_=>hk,λ_=>allS k hk⟩
   show Q .normal a w
   refine hq (s gs'.length) ι a w hK ?_ hz
   have:=gt.fr (fr:=(s gs'.length).fr) λt=>(g6 t).symm
   simp only[stOf,g7]at this
   rw[←Cn hC (zB2 _)]at this
   exact this
  |cons i r ih=>
   intro L ι a w hL HC HB hM gt hz
   obtain⟨hi,HB⟩:=HB
   obtain⟨hoki,hM⟩:=hM
   rw[wpOps_cons]
   unfold Region.ready at hi
   rw[List.mem_filter]at hi
   obtain⟨hi1,g8⟩:=hi
   have zg:i<ops.size:=by simpa using hi1
   have hig:i<gs.length:=by omega
   have ho:ops[i]? =some ops[i]:=zG7 zg
   simp only[zE9,zI7,ho,zE1,zA8,Array.all_eq_true]at g8
   obtain⟨g8,hi3⟩:=g8
   have hSi:LL L i=false:=by
    have:i<L.size:=by omega
    simp only[LL,zC4,zG7 this,zA8]at g8 ⊢
    exact g8
   have hol:ops.toList[i]? =some ops[i]:=by simp[zg]
   have g9: ∀k∈Fw E i ops[i],LL L k=true:=by
    intro k hk
    simp only[Fw,zE7,List.mem_filterMap]at hk
    rcases hk with⟨e,he,hk⟩|⟨p,hp,hk⟩
    ·split at hk
     ·rename_i hb
      cases hk
      obtain⟨j,hj,rfl⟩:=zC2.1 he
      have:=hi3 j (by simpa using hj)
      simp only[zN8,zI7]at this
      rcases this with h|h
      ·simp at hb
       rw[hb]at h
       cases h
      ·show L.getD _ false=true
       simpa[zC4]using h
     ·cases hk
    ·split at hk
     ·rename_i e
      cases hk
      exact hoki p hp e
     ·cases hk
   obtain⟨g,hg,hcg⟩:=hat i ops[i] hol
   obtain⟨p,hp⟩: ∃p,ord[p]? =some i:=zI0.1 (hE i hig)
   have hpl:p<leaf.length:=by
    have:=(zB7.1 hp).1
    rw[←z9,zE3]at this
    exact this
   have HX:=zA7 hpl
   have H2:leaf[p].1=i:=by
    have:=gn HX
    rw[hp]at this
    cases this
    rfl
   have zz:leaf[p].2.2=g:=by
    have:=gg _ (zF0 HX)
    rw[H2,hg]at this
    cases this
    rfl
   have qs:gs'[p]? =some g:=by simp only[gs',zC7,HX,zE1,zz]
   have hpg:p<gs'.length:=by omega
   have q0:SS L p=false:=by rw[HT L HX,H2];exact hSi
   have bit0: ∀k i,(xq ([]:List (Nat×Nat)) k).testBit i=true→LL L k=true→LL L i=true:= λk i h _=>by simp[xq]at h
   have bit1: ∀i',(xq ([]:List (Nat×Nat)) i).testBit i'=true→LL L i'=true:= λi' h=>by simp[xq]at h
   have cd: ∀q y,leaf[q]? =some y→q<p→ka y.2.2 g=true→SS L q=true:=by
    intro q y hq Y q3
    have hX:=tW HS q p y _ Y hq HX
    rw[H2,zz]at hX
    simp only[Ma,q3,zQ8,Bool.false_and,Bool.or_false]at hX
    rw[HT L hq]
    exact JX HC hol g9 bit0 bit1 _ hX
   have after: ∀q y,leaf[q]? =some y→p<q→ka g y.2.2=true→SS L q=false:=by
    intro q y hq Y q3
    cases hS:SS L q with
    |false=>rfl
    |true=>
     exfalso
     have hX:=tW HS p q _ y Y HX hq
     rw[H2,zz]at hX
     simp only[Ma,q3,zQ8,Bool.false_and,Bool.or_false]at hX
     rw[HT L hq]at hS
     have:=oV HC bit0 _ _ hX hS
     rw[hSi]at this
     cases this
   have yes: ∀{k:Nat},k<gs'.length→ ∃y,leaf[k]? =some y∧gs'[k]? =some y.2.2:=by
    intro k hk
    have hy:=zA7 (show k<leaf.length by omega)
    exact⟨_,hy,by simp only[gs',zC7,hy,zE1]⟩
   have g6: ∀t∈g.looks,aZ (stOf L).fr t=aZ (s p).fr t:=by
    intro t ht
    refine tz hC (zB2 _) zR5 λk hk hd=> ?_
    obtain⟨y,hy,HH⟩:=yes hk
    have hW:y.2.2.dst=some t:=by simpa[zI,HH]using hd
    rcases Nat.lt_trichotomy k p with Y|e|hgt
    ·refine⟨λ_=>Y,λ_=>cd k _ hy Y ?_⟩
     cases hx:ka y.2.2 g with
     |true=>rfl
     |false=>exact absurd ht (Pp hx hW).1
    ·subst e
     rw[q0]
     exact⟨(λe=>by cases e),(λe=>by omega)⟩
    ·refine⟨λhS=> ?_,λe=>by omega⟩
     have:ka g y.2.2=true:=by
      cases hx:ka g y.2.2 with
      |true=>rfl
      |false=>exact absurd ht (Un hx hW)
     rw[after k _ hy hgt this]at hS
     cases hS
   have g7:g.op.eff=true→(stOf L).mem=(s p).mem∧(stOf L).nx=(s p).nx:=by
    intro he
    have:=ti hC (S:=SS L) (i:=p) (n:=gs'.length) (zB2 _) zR5 λk hk hd=>by
     obtain⟨y,hy,HH⟩:=yes hk
     have hW:y.2.2.op.eff=true:=by simpa[lp,HH]using hd
     rcases Nat.lt_trichotomy k p with Y|e|hgt
     ·refine⟨λ_=>Y,λ_=>cd k _ hy Y ?_⟩
      cases hx:ka y.2.2 g with
      |true=>rfl
      |false=>
       have:=(tE hx hW).1
       rw[he]at this;cases this
     ·subst e
      rw[q0]
      exact⟨(λe=>by cases e),(λe=>by omega)⟩
     ·refine⟨λhS=> ?_,λe=>by omega⟩
      have:ka g y.2.2=true:=by
       cases hx:ka g y.2.2 with
       |true=>rfl
       |false=>
        have:=(tE hx he).1
        rw[hW]at this;cases this
      rw[after k _ hy hgt this]at hS
      cases hS
    simp only[stOf,this]
    exact⟨trivial,trivial⟩
   have hms:g.op.eff=false→g.op.sens=true→nU (s p).mem (stOf L).mem:=by
    intro z0 hsn
    refine OG hC (S:=SS L) (p:=p) (λk hk hd=> ?_) (λk hpk hk hd hS=> ?_) (λk q hkq hq hd H7 hS=> ?_) (zB2 _) zR5
    ·obtain⟨y,hy,HH⟩:=yes (show k<gs'.length by omega)
     have hW:y.2.2.op.eff=true:=by simpa[lp,HH]using hd
     refine cd k _ hy hk ?_
     cases hx:ka y.2.2 g with
     |true=>rfl
     |false=>
      have:=(tE hx hW).2
      rw[hsn]at this;cases this
    ·obtain⟨y,hy,HH⟩:=yes hk
     have hW:y.2.2.op.eff=true:=by simpa[lp,HH]using hd
     have hne':p≠k:=by
      rintro rfl
      rw[q0]at hS
      cases hS
     have hX:=tW HS p k _ y zR5 HX hy
     rw[H2,zz]at hX
     simp only[Ma,zN8,zE9,hsn,hW]at hX
     rcases hX with hX|⟨_,hX⟩
     ·exfalso
      rw[HT L hy]at hS
      have:=oV HC bit0 _ _ hX hS
      rw[hSi]at this
      cases this
     ·simp at hX
      exact hflag k y hy hX
    ·obtain⟨y,hy,HH⟩:=yes (show k<gs'.length by omega)
     obtain⟨z,hY,hgq⟩:=yes hq
     have hW:y.2.2.op.eff=true:=by simpa[lp,HH]using hd
     have hd2':z.2.2.op.eff=true:=by simpa[lp,hgq]using H7
     have hX:=tW HS k q y z hkq hy hY
     have hcx:ka y.2.2 z.2.2=true:=by
      cases hx:ka y.2.2 z.2.2 with
      |true=>rfl
      |false=>
       have:=(tE hx hW).1
       rw[hd2']at this;cases this
     simp only[Ma,hcx,zQ8,Bool.false_and,Bool.or_false]at hX
     rw[HT L hY]at hS
     rw[HT L hy]
     exact oV HC bit0 _ _ hX hS
   obtain⟨τ,k1,k2,k3,k4⟩:=(hC p g qs).congr (σ2:=stOf L) g6 g7 hms (Cn hC zR5).symm
   refine TI ho hcg k1 gt hz λι' a' w' hsim' hY=> ?_
   have hL':LL (L.setIfInBounds i true)=lJ (LL L) i:=by
    funext k
    simp only[LL,lJ,zC4]
    by_cases e:k=i
    ·subst e
     simp[show k<L.size by omega]
    ·rw[if_neg e,zL5 (Ne.symm e)]
   have hS': ∀q,q<gs'.length→SS (L.setIfInBounds i true) q=lJ (SS L) p q:=by
    intro q hq
    obtain⟨y,hy,_⟩:=yes hq
    rw[HT _ hy,hL']
    simp only[lJ]
    by_cases e:q=p
    ·subst e
     rw[HX]at hy
     cases hy
     rw[if_pos H2,if_pos rfl]
    ·rw[if_neg e,HT L hy,if_neg]
     intro e2
     have h1:=gn hy
     rw[e2]at h1
     exact e (OS hnd q p i h1 hp)
   have frS: ∀(S S':Nat→Bool) n,(∀q,q<n→S q=S' q)→oX gs' v (s 0).fr S n=oX gs' v (s 0).fr S' n:=by
    intro S S' n
    induction n with
    |zero=>intro _;rfl
    |succ n ih=>intro hq;simp only[oX];rw[ih λq hq'=>hq q zR5,hq n zR5]
   have memS: ∀(S S':Nat→Bool) n,(∀q,q<n→S q=S' q)→iP gs' s S n=iP gs' s S' n:=by
    intro S S' n
    induction n with
    |zero=>intro _;rfl
    |succ n ih=>intro hq;simp only[iP];rw[ih λq hq'=>hq q zR5,hq n zR5]
   refine ih _ ι' a' w' (by simpa using hL) ?_ HB (by rw[hL'];exact hM) ?_ hY
   ·intro j o hj HZ k hk
    rw[hL']at HZ ⊢
    simp only[lJ]at HZ ⊢
    split
    ·rfl
    ·split at HZ
     ·rename_i e1
      subst e1
      rw[hol]at hj
      cases hj
      exact g9 k hk
     ·exact HC j o hj HZ k hk
   ·have hfr': ∀t,aZ (oX gs' v (s 0).fr (SS (L.setIfInBounds i true)) gs'.length) t=aZ τ.fr t:=by
     intro t
     rw[frS _ _ _ hS',SH q0 hpg λhd k Y HV=> ?_,k2 t]
     ·have e:zI gs' p=g.dst:=by simp[zI,qs]
      rw[e]
     ·have hW:g.dst=some t:=by simpa[zI,qs]using hd
      have hkg:k<gs'.length:=by
       unfold zI at HV
       cases hh:gs'[k]? with
       |none=>rw[hh]at HV;cases HV
       |some x=>exact(zB7.1 hh).1
      obtain⟨y,hy,HH⟩:=yes hkg
      refine after k _ hy Y ?_
      cases hx:ka g y.2.2 with
      |true=>rfl
      |false=>exact absurd (by simpa[zI,HH]using HV) (Pp hx hW).2
    have hm':iP gs' s (SS (L.setIfInBounds i true)) gs'.length=(τ.mem,τ.nx):=by
     rw[memS _ _ _ hS',Pz q0 hpg λhd k Y HV=> ?_,k3]
     ·have e:lp gs' p=g.op.eff:=by simp[lp,qs]
      rw[e]
     ·have hW:g.op.eff=true:=by simpa[lp,qs]using hd
      have hkg:k<gs'.length:=by
       unfold lp at HV
       cases hh:gs'[k]? with
       |none=>rw[hh]at HV;cases HV
       |some x=>exact(zB7.1 hh).1
      obtain⟨y,hy,HH⟩:=yes hkg
      refine after k _ hy Y ?_
      cases hx:ka g y.2.2 with
      |true=>rfl
      |false=>
       have h5:=(tE hx hW).1
       have h6:y.2.2.op.eff=true:=by simpa[lp,HH]using HV
       rw[h6]at h5
       cases h5
    have:=hsim'.fr (fr:=oX gs' v (s 0).fr (SS (L.setIfInBounds i true)) gs'.length) hfr'
    rw[k4]at this
    simp only[stOf,hm']at this ⊢
    exact this
 have none: ∀k,LL (Array.replicate ops.size false) k=false:=by
  intro k
  simp only[LL,zC4,Array.getElem?_replicate]
  split<;>simp
 have noneS: ∀k,SS (Array.replicate ops.size false) k=false:= λk=>none _
 refine main sched _ ι a w (by simp[hn]) (λj o hj HZ=> ?_) HB ?_ ?_ hz
 ·rw[none]at HZ;cases HZ
 ·have:LL (Array.replicate ops.size false)= λ_=>false:=funext none
  rw[this];exact hM
 ·have g6: ∀t,aZ (oX gs' v (s 0).fr (SS (Array.replicate ops.size false)) gs'.length) t=aZ σ.fr t:=by
   intro t
   rw[←h9]
   exact tz hC (i:=0) (zB2 _) zR5 λk hk _=>by rw[noneS k];exact⟨(λe=>by cases e),(λe=>by omega)⟩
  have g7:=ti hC (S:=SS (Array.replicate ops.size false)) (i:=0) (n:=gs'.length) (zB2 _) zR5 λk hk _=>by rw[noneS k];exact⟨(λe=>by cases e),(λe=>by omega)⟩
  have:=hs.fr (fr:=oX gs' v (s 0).fr (SS (Array.replicate ops.size false)) gs'.length) g6
  simp only[stOf,g7]
  simp only[h9]at this ⊢
  exact this
theorem DA {gs:List AG} {M:List (Nat×Nat)}: ∀{ord:List Nat} {prev:List (Nat×AG)} {leaf:List (Nat×Bool×AG)},QW gs M prev ord=some leaf→leaf.map (·.1)=ord∧ ∀y∈leaf,gs[y.1]? =some y.2.2
 | [],prev,leaf,h=>by cases h;exact⟨rfl,λy hy=>by cases hy⟩
 |k::r,prev,leaf,h=>by
  unfold QW at h
  split at h
  ·rename_i g hg
   split at h
   ·rename_i l hl
    cases h
    obtain⟨h1,h2⟩:=DA hl
    refine⟨by rw[zB8,h1],λy hy=> ?_⟩
    rcases zD7.1 hy with rfl|hy
    ·exact hg
    ·exact h2 y hy
   ·cases h
  ·cases h
theorem zk {ops:Array Oper} {gs:List AG} {K:St→Prop} {Q:Exit→Act→World→Prop}
  (hc:gL P dr nt ops ops.toList=some gs) (HD:zV 0 ops.toList=true) (hJ:(gs.all λg=> !g.op.gcall)=true) (hs:ci w0 U σ ι a w) (hz:a.tmps.size=nt)
  (hq: ∀σ' ι' a' w',K σ'→ci w0 U σ' ι' a' w'→a'.tmps.size=nt→Q .normal a' w') {sched:List Nat} (HB:Xd ops sched (Array.replicate ops.size false)):
  ∀{f:Nat} {E:List (Nat×Nat)} {gss:List (List (Nat×Bool×AG))},Mz ops.toList gs f E=some gss→(∀leaf∈gss,mw P (xz leaf) σ K)→okE E sched (λ_=>false)→wpOps P ops Q sched a w
 |0,E,gss,h,_,_=>by cases h
 |f+1,E,gss,h,hE,hM=>by
  unfold Mz at h
  split at h
  ·cases h
  ·rename_i ord _
   split at h
   ·cases h
   ·rename_i leaf hb
    split at h
    ·split at h
     ·rename_i Z2
      cases h
      simp only[zE9,zH6,zO3]at Z2
      obtain⟨⟨⟨h1,h2⟩,h3⟩,h4⟩:=Z2
      obtain⟨k1,k2⟩:=DA hb
      exact Ud hc HD hJ h1 k1 k2 h2 (λi hi=>List.contains_iff_mem.1 (h3 i hi)) (hE leaf zC5) hs hz hq HB hM
     ·cases h
    ·rename_i i k _
     split at h
     ·cases h
     ·rename_i z0
      split at h
      ·rename_i ga gb ha gf
       cases h
       rcases OZ z0 hM with h'|h'
       ·exact zk hc HD hJ hs hz hq HB ha (λleaf hl=>hE leaf (zF5 _ hl)) h'
       ·exact zk hc HD hJ hs hz hq HB gf (λleaf hl=>hE leaf (zE5 _ hl)) h'
      ·cases h
theorem Um {gss:List (List (Bool×AG))} (hc:gL P dr nt ops ops.toList=some gs) (hd:aaE P ops.toList gs= .draw gss) (h:EL P gss σ K) (hs:ci w0 U σ ι a w) (hz:a.tmps.size=nt)
  (hq: ∀σ' ι' a' w',K σ'→ci w0 U σ' ι' a' w'→a'.tmps.size=nt→Q .normal a' w'): ∀t,wpOps P ops Q (Region.schedule (P.follows .mixedOrders) ops t) a {w with drawn:=w.drawn+1}:=by
 unfold aaE at hd
 split at hd
 ·rename_i hP
  simp only[zE9]at hP
  obtain⟨⟨hmix,HD⟩,hJ⟩:=hP
  split at hd
  ·rename_i l hl
   cases hd
   have O:ci w0 U σ ι a {w with drawn:=w.drawn+1}:=hs.grow ⟨rfl,rfl,rfl,zB2 _,λ_ _=>rfl⟩
   intro t
   simp only[Region.schedule,hmix,Bool.true_or,if_true]
   refine zk hc HD hJ O hz hq (Z9 _ _ _ zR6 ?_) hl (λleaf hlf=>O8 h _ (zI9 hlf)) VE
   have h0: ∀n,VO (λk=>(Array.replicate ops.size false).getD k false) n=0:=by
    intro n
    induction n with
    |zero=>rfl
    |succ n ih=>
     simp only[VO,ih]
     rw[if_neg]
     simp only[zC4,Array.getElem?_replicate]
     split<;>simp
   rw[h0]
   omega
  ·cases hd
 ·cases hd
end
open Go.RowKit
section
variable {P : Program} {a : Act} {w w' w0 : World} {U : Gh} {ι : Pl} {σ : St} {nt : Nat} {dr : Bool}
theorem fJ {ops:Array Oper} {Q:Exit→Act→World→Prop} {K:St→Prop}: ∀{l:List Oper} {gs:List AG} {σ:St} {ι:Pl} {a:Act} {w:World},gL P dr nt ops l=some gs→kA P gs σ K→ci w0 U σ ι a w→a.tmps.size=nt→
  (∀σ' ι' a' w',K σ'→ci w0 U σ' ι' a' w'→a'.tmps.size=nt→Q .normal a' w')→wpList P ops Q l a w
 |[],gs,σ,ι,a,w,hc,h,hs,HA,hq=>by
  cases hc
  exact hq σ ι a w h hs HA
 |o::l,gs,σ,ι,a,w,hc,h,hs,HA,hq=>by
  unfold gL at hc
  split at hc
  ·rename_i g gs' h1 h2
   cases hc
   unfold xA at h1
   by_cases HF:PV nt o.dst=false
   ·rw[if_pos HF]at h1;cases h1
   ·rw[if_neg HF]at h1
    have hd: ∀t,o.dst=some t→t<a.tmps.size:=by
     intro t ht
     rw[ht]at HF
     have h5:t<nt:=by simpa[PV]using HF
     rw[HA]
     exact h5
    split at h1
    ·rename_i ao Q1
     have run: ∀{K':AV→St→Prop},bC P ao σ K'→(∀v σ',K' v σ'→kA P gs' (σ'.put o.dst v) K)→o.wp P a w (wpList P ops Q l) Q:=by
      intro K' J hk
      refine RC Q1 J hs ?_
      intro v σ' ι' u w' hv O hr
      exact fJ h2 (hk v σ' hv) (O.put hd hr) (by rw[ug];exact HA) hq
     have skip:kA P gs' (σ.put o.dst (.tup [])) K→wpList P ops Q l (a.put o.dst undef) w:= λhk=>
      fJ h2 hk (hs.put hd ip) (by rw[ug];exact HA) hq
     unfold wpList
     split at h1
     ·rename_i q4
      cases h1
      simp only[kA]at h
      rw[if_pos (by simp[Region.wanted,q4])]
      exact .inl (run h λ_ _ h=>h)
     ·rename_i j want q4
      split at h1
      ·rename_i t ht
       cases h1
       simp only[kA]at h
       have hA:=hs.val t
       split at h
       ·rename_i b e
        rw[e]at hA
        have hb:=xQ (aU hA).1 (by intro e;cases e)
        have hy:yielded ops a.tmps j=some b:=by simp[yielded,ht,hb]
        by_cases z2:b=want
        ·rw[if_pos (by simp[Region.wanted,q4,hy,z2])]
         exact .inl (run (h.1 (by simp[z2])) λ_ _ h=>h)
        ·rw[if_neg (by simp[Region.wanted,q4,hy,z2])]
         exact skip (h.2 (by simp[z2]))
       ·rename_i e
        rw[e]at hA
        have hu:a.tmps.getD t undef=undef:=by
         generalize a.tmps.getD t undef=z at hA
         cases hA with
         | @tup _ vs hl _=>
          have:vs= #[]:=zJ7 (by simpa using hl.symm)
          rw[this]
          rfl
        have hy:yielded ops a.tmps j=none:=by
         unfold yielded
         simp only[ht,zR1]
         simp only[zC4]at hu
         cases e':a.tmps[t]? with
         |none=>rfl
         |some z=>
          rw[e']at hu
          simp at hu
          subst hu
          rfl
        rw[if_neg (by simp[Region.wanted,q4,hy])]
        exact skip h
       ·exact h.elim
      ·cases h1
    ·cases h1
  ·cases hc
end
section
variable {P : Program}
variable {ops:List Oper}{gs:List AG}
theorem eI:(∃gss,aaE P ops gs= .draw gss)∨aaE P ops gs= .region gs true:=by
 unfold aaE
 split
 ·split
  ·exact .inl ⟨_,rfl⟩
  ·exact .inr rfl
 ·exact .inr rfl
variable {dr:Bool}
theorem iz:(∃x,nf P dr ops gs= .draw x)∨(∃x,nf P dr ops gs= .region gs x):=by
 unfold nf
 split
 ·rcases eI (P:=P) (ops:=ops) (gs:=gs)with⟨x,e⟩|e
  ·exact .inl ⟨x,e⟩
  ·exact .inr ⟨true,e⟩
 ·exact .inr ⟨false,rfl⟩
@[simp] theorem adH:(nf P dr ops gs= .skip)=False:=eq_false λh=>by
 rcases iz (P:=P) (dr:=dr) (ops:=ops) (gs:=gs)with⟨x,e⟩|⟨x,e⟩<;>rw[e]at h<;>cases h
@[simp] theorem adM:(nf P dr ops gs= .ret)=False:=eq_false λh=>by
 rcases iz (P:=P) (dr:=dr) (ops:=ops) (gs:=gs)with⟨x,e⟩|⟨x,e⟩<;>rw[e]at h<;>cases h
@[simp] theorem adJ {i:Nat}:(nf P dr ops gs= .exit i)=False:=eq_false λh=>by
 rcases iz (P:=P) (dr:=dr) (ops:=ops) (gs:=gs)with⟨x,e⟩|⟨x,e⟩<;>rw[e]at h<;>cases h
variable {x:aj}
@[simp] theorem aeJ {y:aj}:(nf P dr ops gs= .seq x y)=False:=eq_false λh=>by
 rcases iz (P:=P) (dr:=dr) (ops:=ops) (gs:=gs)with⟨x,e⟩|⟨x,e⟩<;>rw[e]at h<;>cases h
@[simp] theorem adG {c:AX} {y:aj}:(nf P dr ops gs= .cond c x y)=False:=eq_false λh=>by
 rcases iz (P:=P) (dr:=dr) (ops:=ops) (gs:=gs)with⟨x,e⟩|⟨x,e⟩<;>rw[e]at h<;>cases h
@[simp] theorem acG {i:Nat}:(nf P dr ops gs= .block i x)=False:=eq_false λh=>by
 rcases iz (P:=P) (dr:=dr) (ops:=ops) (gs:=gs)with⟨x,e⟩|⟨x,e⟩<;>rw[e]at h<;>cases h
@[simp] theorem adE:(nf P dr ops gs= .loop x)=False:=eq_false λh=>by
 rcases iz (P:=P) (dr:=dr) (ops:=ops) (gs:=gs)with⟨x,e⟩|⟨x,e⟩<;>rw[e]at h<;>cases h
@[simp] theorem acf {f:AX} {ps:List Nat} {y:aj}:(nf P dr ops gs= .rangeF f ps x y)=False:=eq_false λh=>by
 rcases iz (P:=P) (dr:=dr) (ops:=ops) (gs:=gs)with⟨x,e⟩|⟨x,e⟩<;>rw[e]at h<;>cases h
end
inductive bv where
 |normal
 |exit (id:Nat)
 |ret
def kT:bv→Exit
 | .normal=> .normal
 | .exit id=> .exit id
 | .ret=> .ret
def FR (rd:Option Nat):Fence:={Fence.wide with round:=rd}
def sh (ds:List Deferred) (a:Act):Act:={a with defers:=a.defers++ds}
def Lf (ds:List Deferred) (K:Act→World→Prop):Act→World→Prop:= λa' w'=> ∃a0,a'=sh ds a0∧K a0 w'
def LfQ (ds:List Deferred) (Q:Exit→Act→World→Prop):Exit→Act→World→Prop:= λe a' w'=> ∃a0,a'=sh ds a0∧Q e a0 w'
variable {ds:List Deferred}
theorem CB {d:Option Tmp} {v:Value}:(sh ds a).put d v=sh ds (a.put d v):=by cases d<;>rfl
theorem re:(sh ds a).eval=a.eval:=by
 funext x
 cases x<;>rfl
variable {n:Nat}{rd:Option Nat}
theorem Jj {args:Array Value} {R:Ending→World→Prop} (h:Calls P f args w R):CallsIn (FR rd) n P f args w R:=
 (callsIn_wide (n:=n)).2 h
theorem adl {row:String} {args:Array Value} {R:Value→World→Prop} (h:Rows P row args w R):RowsIn (FR rd) n P row args w R:=by
 intro c cs _
 obtain⟨v,w',hr,hs⟩:=h c cs
 exact⟨v,w',hr,stepsIn_wide.2 hs⟩
theorem aco {next:Act→World→Prop} {Q:Exit→Act→World→Prop}
  (hd: ∀c,o.op≠ .defer c) (hl: ¬LetsOut Q) (h:o.wp P a w next Q):o.wpIn (FR rd) n P (sh ds a) w (Lf ds next) (LfQ ds Q):=by
 refine⟨λ_ _=>trivial, ?_⟩
 rw[Oper.semAt_eq _ _ _ hd,re]
 unfold Oper.wp at h
 generalize (execOp a.eval o).run P w=r at h
 cases r with
 |ok nx w'=>
  cases nx<;>simp only[Oper.upon,Oper.uponIn]at h ⊢
  case value v=>exact⟨_,CB,h⟩
  case skip=>exact⟨_,CB,h⟩
  case defer d=>
   refine⟨{a with defers:=d::a.defers}.put o.dst undef, ?_,h⟩
   cases o.dst<;>rfl
  case enter f args=>
   refine⟨by simp[FR,Fence.wide],Jj (h.mono λe w'' h=> ?_)⟩
   cases e with
   |returned v=>exact⟨_,CB,h⟩
   |panicked ch=>exact⟨_,rfl,h⟩
   |outgrown=>exact absurd h hl
  case row row args=>
   exact⟨by simp[FR,Fence.wide],adl (h.mono λv w'' h=>⟨_,CB,h⟩)⟩
 |halt hh w'=>
  cases hh<;>simp only[Oper.upon,Oper.uponIn]at h ⊢
  case panic v=>exact⟨_,rfl,h⟩
theorem JY {g:AG} (h:xA P dr nt ops o=some g): ∀c,o.op≠ .defer c:=by
 intro c e
 unfold xA at h
 rw[e]at h
 split at h
 ·cases h
 ·simp[bK]at h
theorem eO {P:Program} {dr:Bool} {nt:Nat} {ops:Array Oper}: ∀{l:List Oper} {gs:List AG},gL P dr nt ops l=some gs→ ∀o∈l,∀c,o.op≠ .defer c
 | [],_,_,o,ho=>by cases ho
 |x::l,gs,h,o,ho=>by
  unfold gL at h
  split at h
  ·rename_i g gs' h1 h2
   rcases zD7.1 ho with rfl|ho
   ·exact JY h1
   ·exact eO h2 o ho
  ·cases h
theorem kE {P:Program} {rd:Option Nat} {ds:List Deferred} {n:Nat} {ops:Array Oper} {Q:Exit→Act→World→Prop} (hl: ¬LetsOut Q): ∀{l:List Oper} {a:Act} {w:World},(∀o∈l,∀c,o.op≠ .defer c)→
  wpList P ops Q l a w→wpListIn (FR rd) n P ops (LfQ ds Q) l (sh ds a) w
 | [],a,w,_,h=>⟨a,rfl,h⟩
 |o::l,a,w,hd,h=>by
  unfold wpList at h
  unfold wpListIn
  by_cases hw:Region.wanted o (yielded ops a.tmps)=true
  ·rw[if_pos hw]at h
   have Hk:Region.wanted o (yielded ops (sh ds a).tmps)=true:=hw
   rw[if_pos Hk]
   rcases h with h|⟨_,h⟩
   ·have:=aco (rd:=rd) (ds:=ds) (n:=n) (hd o zC5) hl h
    refine Oper.wpIn_mono (λa' w' ⟨a0,e,hk⟩=> ?_) this
    subst e
    exact kE hl (λo ho=>hd o (zC3 _ ho)) hk
   ·exact absurd h hl
  ·rw[if_neg hw]at h
   have Hk: ¬Region.wanted o (yielded ops (sh ds a).tmps)=true:=hw
   rw[if_neg Hk,CB]
   exact⟨λ_ _=>trivial,kE hl (λo ho=>hd o (zC3 _ ho)) h⟩
theorem PI {P:Program} {rd:Option Nat} {ds:List Deferred} {n:Nat} {ops:Array Oper} {Q:Exit→Act→World→Prop} (hl: ¬LetsOut Q) (hd: ∀o∈ops.toList,∀c,o.op≠ .defer c): ∀{l:List Nat} {a:Act} {w:World},
  wpOps P ops Q l a w→wpOpsIn (FR rd) n P ops (LfQ ds Q) l (sh ds a) w
 | [],a,w,h=>⟨a,rfl,h⟩
 |i::l,a,w,h=>by
  unfold wpOps at h
  unfold wpOpsIn
  cases ho:ops[i]? with
  |none=>
   rw[ho]at h
   exact PI hl hd h
  |some o=>
   rw[ho]at h
   have hm:o∈ops.toList:=zP5.2 (Array.mem_of_getElem? ho)
   dsimp only at h ⊢
   by_cases hw:Region.wanted o (yielded ops a.tmps)=true
   ·rw[if_pos hw]at h
    have Hk:Region.wanted o (yielded ops (sh ds a).tmps)=true:=hw
    rw[if_pos Hk]
    rcases h with h|⟨_,h⟩
    ·have:=aco (rd:=rd) (ds:=ds) (n:=n) (hd o hm) hl h
     refine Oper.wpIn_mono (λa' w' ⟨a0,e,hk⟩=> ?_) this
     subst e
     exact PI hl hd hk
    ·exact absurd h hl
   ·rw[if_neg hw]at h
    have Hk: ¬Region.wanted o (yielded ops (sh ds a).tmps)=true:=hw
    rw[if_neg Hk,CB]
    exact⟨λ_ _=>trivial,PI hl hd h⟩
def acC (U:Gh) (rd:Option Nat):Prop:= ∀l,rd=some l→ ∀w V,U.G w V→ ∃r,w.heap[l]? =some (.loop r)
inductive A3 (B:Nat) (rd:Option Nat) (U:Gh) (ds:List Deferred):Gh→List Deferred→Prop
 |refl:A3 B rd U ds U ds
 |mark {U' U'':Gh} {ds':List Deferred} {D:Nat} (h:A3 B rd U ds U' ds') (hr:rd=none) (hD:B≤D) (hp:U''.p=U'.p) (hi:U''.ι0=U'.ι0)
   (hG: ∀w V,U''.G w V→U'.G w V∧V D∧w.heap[D]? =some (.deferred (some []))∧U'.G (w.putObj D (.deferred none)) V):A3 B rd U ds U'' ({target:= .collected D,args:= #[]}::ds')
variable {ds':List Deferred}
theorem A3.trans {B:Nat} {U' U'':Gh} {ds'':List Deferred} (h:A3 B rd U ds U' ds') (h':A3 B rd U' ds' U'' ds''):A3 B rd U ds U'' ds'':=by
 induction h' with
 |refl=>exact h
 |mark _ hr hD hp hi hG ih=>exact .mark ih hr hD hp hi hG
theorem A3.le {B:Nat} {U':Gh} (h:A3 B rd U ds U' ds'):U'.p=U.p∧U'.ι0=U.ι0∧ ∀w V,U'.G w V→U.G w V:=by
 induction h with
 |refl=>exact⟨rfl,rfl,λ_ _ h=>h⟩
 |mark _ _ _ hp hi hG ih=>exact⟨hp.trans ih.1,hi.trans ih.2.1,λw V h=>ih.2.2 w V (hG w V h).1⟩
theorem A3.inRound {B l:Nat} {U':Gh} (h:A3 B (some l) U ds U' ds'):U'=U∧ds'=ds:=by
 cases h with
 |refl=>exact⟨rfl,rfl⟩
 |mark _ hr=>cases hr
theorem acC.ext {B:Nat} {rd:Option Nat} {U U':Gh} {ds ds':List Deferred} (hr:acC U rd) (h:A3 B rd U ds U' ds'):acC U' rd:= λl e w V hg=>hr l e w V (h.le.2.2 w V hg)
def Lw (w0:World) (U:Gh) (rd:Option Nat) (ds:List Deferred) (nt:Nat) (Q:bv→St→Prop):Exit→Act→World→Prop:= λe a w=>
 ∃e' σ ι U' ds' a0,e=kT e'∧Q e' σ∧ci w0 U' σ ι a0 w∧a0.tmps.size=nt∧a=sh ds' a0∧A3 w0.heap.size rd U ds U' ds'
theorem Lw.ext {w0:World} {U U':Gh} {rd:Option Nat} {ds ds':List Deferred} {nt:Nat} {Q:bv→St→Prop} {e:Exit} {a:Act} {w:World} (h:Lw w0 U' rd ds' nt Q e a w) (hx:A3 w0.heap.size rd U ds U' ds'):Lw w0 U rd ds nt Q e a w:=by
 obtain⟨e',σ,ι,U2,ds2,a0,h1,h2,h3,h4,h5,h6⟩:=h
 exact⟨e',σ,ι,U2,ds2,a0,h1,h2,h3,h4,h5,hx.trans h6⟩
variable {Q:bv→St→Prop}
theorem Lw.here {e':bv} {ι:Pl} (hq:Q e' σ) (hs:ci w0 U σ ι a w) (hz:a.tmps.size=nt):Lw w0 U rd ds nt Q (kT e') (sh ds a) w:=
 ⟨e',σ,ι,U,ds,a,rfl,hq,hs,hz,rfl,.refl⟩
def AW (P:Program) (nt:Nat) (c:aj) (σ:St) (Q:bv→St→Prop):Prop:=
 ∀(c':Code),cn P nt c'=some c→ ∀w0 U rd ds ι a w,acC U rd→ci w0 U σ ι a w→a.tmps.size=nt→c'.wpIn (FR rd) 0 P (Lw w0 U rd ds nt Q) (sh ds a) w
def acl (P:Program) (nt:Nat) (b:aj) (Q:bv→St→Prop):bv→St→Prop
 | .normal,σ=>AW P nt b σ Q
 | .exit i,σ=>Q (.exit i) σ
 | .ret,σ=>Q .ret σ
def UG (id:Nat) (Q:bv→St→Prop):bv→St→Prop
 | .normal,σ=>Q .normal σ
 | .exit i,σ=>if i=id then Q .normal σ else Q (.exit i) σ
 | .ret,σ=>Q .ret σ
section
variable {P : Program} {nt : Nat} {σ : St} {Q Q' : bv → St → Prop}
theorem AW.mono {c:aj} (h:AW P nt c σ Q) (hq: ∀e σ,Q e σ→Q' e σ):AW P nt c σ Q':=
 λc' hc w0 U rd ds ι a w hr hs hz=>wpIn_mono (h c' hc w0 U rd ds ι a w hr hs hz) λe a w ⟨e',σ',ι',U',ds',a0,h1,h2,h3⟩=>⟨e',σ',ι',U',ds',a0,h1,hq _ _ h2,h3⟩
theorem abB (h:Q .normal σ):AW P nt .skip σ Q:=by
 intro c' hc w0 U rd ds ι a w hI hs hz
 cases c'<;>simp[cn]at hc
 ·exact wpIn_skip (Lw.here (e':= .normal) h hs hz)
 all_goals(try(split at hc<;>simp at hc))
theorem acY (h:Q .ret σ):AW P nt .ret σ Q:=by
 intro c' hc w0 U rd ds ι a w hI hs hz
 cases c'<;>simp[cn]at hc
 all_goals(try(split at hc<;>simp at hc))
 exact wpIn_ret (Lw.here (e':= .ret) h hs hz)
variable {id:Nat}
theorem abx (h:Q (.exit id) σ):AW P nt (.exit id) σ Q:=by
 intro c' hc w0 U rd ds ι a w hI hs hz
 cases c'<;>simp[cn]at hc
 all_goals(try(split at hc<;>simp at hc))
 subst hc
 exact wpIn_exit (Lw.here (e':= .exit _) h hs hz)
theorem Cw {x y:aj} (h:AW P nt x σ (acl P nt y Q)):AW P nt (.seq x y) σ Q:=by
 intro c' hc w0 U rd ds ι a w hI hs hz
 cases c'<;>simp[cn]at hc
 all_goals(try(split at hc<;>simp at hc))
 rename_i b1 b2 c1 c2 h1 h2
 obtain⟨rfl,rfl⟩:=hc
 refine wpIn_seq (wpIn_mono (h _ h1 w0 U rd ds ι a w hI hs hz) ?_)
 rintro e a1 w1 ⟨e',σ',ι',U',ds',a0,rfl,hq,O,HA,rfl,hx⟩
 cases e' with
 |normal=>exact wpIn_mono (hq _ h2 w0 U' rd ds' ι' a0 w1 (hI.ext hx) O HA) λe a w h=>h.ext hx
 |exit id=>exact⟨.exit id,σ',ι',U',ds',a0,rfl,hq,O,HA,rfl,hx⟩
 |ret=>exact⟨.ret,σ',ι',U',ds',a0,rfl,hq,O,HA,rfl,hx⟩
theorem Ml {x:aj} (h:AW P nt x σ (UG id Q)):AW P nt (.block id x) σ Q:=by
 intro c' hc w0 U rd ds ι a w hI hs hz
 cases c'<;>simp[cn]at hc
 all_goals(try(split at hc<;>simp at hc))
 rename_i i1 c1
 obtain⟨rfl,h1⟩:i1=id∧cn P nt c1=some x:=by simp_all
 refine wpIn_block (wpIn_mono (h _ h1 w0 U rd ds ι a w hI hs hz) ?_)
 rintro e a1 w1 ⟨e',σ',ι',U',ds',a0,rfl,hq,O,HA,rfl,hx⟩
 cases e' with
 |normal=>exact⟨.normal,σ',ι',U',ds',a0,rfl,hq,O,HA,rfl,hx⟩
 |exit i=>
  simp only[UG]at hq
  by_cases hi:i=i1
  ·rw[if_pos hi]at hq
   simp only[kT,Exit.inBlock,if_pos hi]
   exact⟨.normal,σ',ι',U',ds',a0,rfl,hq,O,HA,rfl,hx⟩
  ·rw[if_neg hi]at hq
   simp only[kT,Exit.inBlock,if_neg hi]
   exact⟨.exit i,σ',ι',U',ds',a0,rfl,hq,O,HA,rfl,hx⟩
 |ret=>exact⟨.ret,σ',ι',U',ds',a0,rfl,hq,O,HA,rfl,hx⟩
theorem aaX {c:AX} {x y:aj} {t:Bool} (hc:c.ev σ.fr= .c (.pure (.val (.bool t)))) (h1:t=true→AW P nt x σ Q) (h2:t=false→AW P nt y σ Q):AW P nt (.cond c x y) σ Q:=by
 intro c' z3 w0 U rd ds ι a w hI hs hz
 cases c'<;>simp[cn]at z3
 all_goals(try(split at z3<;>simp at z3))
 rename_i o b1 b2 _ _ _ x1 x2 x3 g1 g2 g3
 obtain⟨rfl,rfl,rfl⟩:=z3
 have r1:=aq g1 hs
 rw[hc]at r1
 have ho:=(aU r1).1
 have q9:(sh ds a).eval o= .bool t:=by rw[re];exact ho
 cases t with
 |true=>exact wpIn_cond_true q9 (h1 rfl _ g2 w0 U rd ds ι a w hI hs hz)
 |false=>exact wpIn_cond_false q9 (h2 rfl _ g3 w0 U rd ds ι a w hI hs hz)
variable {w0:World}
theorem VT {U:Gh} {rd:Option Nat} {ds:List Deferred}: ∀e a w,LfQ ds (λe a w=> ∃σ ι,e= .normal∧Q .normal σ∧ci w0 U σ ι a w∧a.tmps.size=nt) e a w→Lw w0 U rd ds nt Q e a w:=by
 rintro e a w ⟨a0,rfl,σ,ι,rfl,hq,hs,hz⟩
 exact Lw.here (e':= .normal) hq hs hz
theorem jl {U:Gh}: ¬LetsOut (λe a w=> ∃σ ι,e= .normal∧Q .normal σ∧ci w0 U σ ι a w∧a.tmps.size=nt):=by
 rintro⟨_,_,_,_,h,_⟩
 cases h
theorem WE {gs:List AG} (h:kA P gs σ (Q .normal)):AW P nt (.region gs false) σ Q:=by
 intro c' hc w0 U rd ds ι a w hI hs hz
 cases c'<;>simp[cn]at hc
 all_goals(try(split at hc<;>simp at hc))
 rename_i id ops dr
 obtain⟨g1,h1,hg⟩:=hc
 cases dr with
 |false=>
  simp[nf]at hg
  subst hg
  refine wpIn_mono (wpIn_region_list (kE (ds:=ds) jl (eO h1) (fJ h1 h hs hz λσ' ι' a' w' hq O hY=>⟨σ',ι',rfl,hq,O,hY⟩))) VT
 |true=>
  simp only[nf,if_true]at hg
  rcases eI (P:=P) (ops:=ops.toList) (gs:=g1)with⟨x,e⟩|e<;>rw[e]at hg<;>simp at hg
theorem abO {gss:List (List (Bool×AG))} (h:EL P gss σ (Q .normal)):AW P nt (.draw gss) σ Q:=by
 intro c' hc w0 U rd ds ι a w hI hs hz
 cases c'<;>simp[cn]at hc
 all_goals(try(split at hc<;>simp at hc))
 rename_i id ops dr
 obtain⟨g1,h1,hg⟩:=hc
 cases dr with
 |false=>simp[nf]at hg
 |true=>
  simp only[nf,if_true]at hg
  refine wpIn_mono (wpIn_region_draw λt=>PI (ds:=ds) jl (eO h1) (Um h1 hg h hs hz (λσ' ι' a' w' hq O hY=>⟨σ',ι',rfl,hq,O,hY⟩) t)) VT
end
open Go.RowKit
def kH (N:Nat):AC→Prop
 | .ptr nm _=>nm<N
 | .eptr nm _ _ _=>nm<N
 | .ref nm=>nm<N
 | .mref nm=>nm<N
 | .clo _ caps=>go caps
 |_=>True
where go:List AC→Prop
 | []=>True
 | .ptr nm _::r=>nm<N∧go r
 | .mref nm::r=>nm<N∧go r
 | .ref nm::r=>nm<N∧go r
 | .pure _::r=>go r
 | .cptr _::r=>go r
 | .nils::r=>go r
 | .tsl _::r=>go r
 | .top::r=>go r
 |_::_=>False
def dw (N:Nat):List AC→Prop
 | []=>True
 |x::r=>kH N x∧dw N r
def kx (N:Nat):AV→Prop
 | .c x=>kH N x
 | .agg xs=>dw N xs
 | .tup []=>True
 | .tup _=>False
 | .top=>True
def Xl (N:Nat):List (MK×List AC)→Prop
 | []=>True
 |x::r=>dw N x.2∧Xl N r
def ad4 (N:Nat):List (List AC)→Prop
 | []=>True
 |x::r=>dw N x∧ad4 N r
def clB (N:Nat):bP→Prop
 | .var xs=>dw N xs
 | .map _ _ ents=>Xl N ents
 | .arn _ _ rows=>ad4 N rows
 |_=>True
def rn:List (Nat×Nat)→Nat→Nat
 | [],n=>n
 |(a,b)::r,n=>if a=n then b else rn r n
def dC (l:List (Nat×Nat)):AC→AC
 | .ptr nm off=> .ptr (rn l nm) off
 | .mref nm=> .mref (rn l nm)
 | .ref nm=> .ref (rn l nm)
 |x=>x
def c7 (l:List (Nat×Nat)):AC→AC
 | .ptr nm off=> .ptr (rn l nm) off
 | .eptr nm sz row off=> .eptr (rn l nm) sz row off
 | .ref nm=> .ref (rn l nm)
 | .mref nm=> .mref (rn l nm)
 | .clo f caps=> .clo f (caps.map (dC l))
 |x=>x
def dv (l:List (Nat×Nat)):AV→AV
 | .c x=> .c (c7 l x)
 | .agg xs=> .agg (xs.map (c7 l))
 |x=>x
def ad2 (l:List (Nat×Nat)):bP→bP
 | .var xs=> .var (xs.map (c7 l))
 | .map kt n ents=> .map kt n (ents.map λx=>(x.1,x.2.map (c7 l)))
 | .arn e sz rows=> .arn e sz (rows.map λr=>r.map (c7 l))
 |b=>b
def jy (l:List (Nat×Nat)) (fr:List (Nat×AV)) (N:Nat):List (Nat×AV)→Prop
 | []=>True
 |(t,v)::r=>(aZ fr t=dv l v∨v= .top)∧kx N v∧jy l fr N r
def Wb (n:Nat):List Nat→Prop
 | []=>True
 |m::r=>n≠m∧Wb n r
def wkM (l:List (Nat×Nat)) (mem:List (Nat×bP)) (N:Nat):List Nat→List (Nat×bP)→Prop
 |_, []=>True
 |seen,(nm,b)::r=>ar mem (rn l nm)=some (ad2 l b)∧nm<N∧clB N b∧Wb (rn l nm) seen∧wkM l mem N (rn l nm::seen) r
def wkL (N:Nat):List (Nat×Nat)→Prop
 | []=>True
 |(a,_)::r=>N≤a∧wkL N r
theorem adD {N:Nat}: ∀{l:List (Nat×Nat)},wkL N l→ ∀{n:Nat},n<N→rn l n=n
 | [],_,n,_=>rfl
 |(a,b)::r,h,n,hn=>by
  simp only[rn]
  rw[if_neg (by have:=h.1;omega)]
  exact adD h.2 hn
def Wk (l:List (Nat×Nat)) (σ σ':St):Prop:=jy l σ.fr σ'.nx σ'.fr∧wkM l σ.mem σ'.nx [] σ'.mem∧σ'.base=σ.base∧σ.base≤σ'.nx∧wkL σ.base l
section
variable {P : Program} {a : Act} {w w' w0 : World} {U : Gh} {ι : Pl} {σ σ' : St} {nt : Nat}
variable {V V':Nat→Prop}{N:Nat}{v:Value}{l:List (Nat×Nat)}
theorem dE.cl {N':Nat} {x:AC} (h:dE w V ι N (c7 l x) v) (hV: ∀b,V b→V' b) (hc:kH N' x):dE w V' (λn=>ι (rn l n)) N' x v:=by
 have hp: ∀{p:PC} {v:Value},d6 w V p v→d6 w V' p v:= λh=>h.mono (λb _ h=>hV b h) (λ_ _ _=>rfl)
 have hcp: ∀{cells:List PC} {v:Value},dE w V ι N (.cptr cells) v→dE w V' (λn=>ι (rn l n)) N' (.cptr cells) v:=by
  intro cells v h
  cases h with
  |cptr g hc=>
   refine .cptr g λj p hj=> ?_
   obtain⟨h1,h2,h3⟩:=hc j p hj
   exact⟨hV _ h1,h2,hp h3⟩
 cases x with
 |pure p=>cases h with|pure h=>exact .pure (hp h)
 |nils=>cases h;exact .nils
 |tsl rows=>cases h with|tsl h=>exact .tsl (hp h)
 |ptr nm off=>cases h with|ptr hn h=>exact .ptr hc h
 |eptr nm sz row off=>cases h with|eptr hn h=>exact .eptr hc h
 |cptr cells=>exact hcp h
 |ref nm=>
  have e:v=ι (rn l nm):=by cases h;rfl
  subst e
  cases h with
  |ref hn h=>exact .ref (ι:= λn=>ι (rn l n)) hc h
 |mref nm=>cases h with|mref hn h=>exact .mref hc h
 |top=>cases h with|top h=>exact .top h
 |clo f caps=>
  cases h with
  | @clo _ _ vs hl h=>
   refine .clo zS8 λi x hi=> ?_
   have key: ∀(l:List AC),kH.go N' l→ ∀(i:Nat) x,l[i]? =some x→(∀nm off,x= .ptr nm off→nm<N')∧(∀nm sz row off,x≠ .eptr nm sz row off)∧(∀nm,x= .ref nm→nm<N')∧(∀f cs,x≠ .clo f cs)∧(∀nm,x= .mref nm→nm<N'):=by
    intro l
    induction l with
    |nil=>intro _ i x hi;simp at hi
    |cons y ys ih=>
     intro hg i x hi
     cases i with
     |zero=>
      simp at hi
      subst hi
      cases y<;>simp_all [kH.go]
     |succ i=>
      simp at hi
      refine ih ?_ i x hi
      cases y<;>simp_all [kH.go]
   obtain⟨k1,k2,k3,k4,k5⟩:=key caps hc i x hi
   have hx:=h i (dC l x) (by rw[zC7,hi];rfl)
   generalize vs.toList[i]?.getD undef=z at hx ⊢
   cases x with
   |pure p=>cases hx with|pure h=>exact .pure (hp h)
   |nils=>cases hx;exact .nils
   |tsl rows=>cases hx with|tsl h=>exact .tsl (hp h)
   |ptr nm off=>cases hx with|ptr hn h=>exact .ptr (k1 _ _ rfl) h
   |eptr=>exact absurd rfl (k2 _ _ _ _)
   |cptr cells=>exact hcp hx
   |ref nm=>
    have e:z=ι (rn l nm):=by cases hx;rfl
    subst e
    cases hx with
    |ref hn h=>exact .ref (ι:= λn=>ι (rn l n)) (k3 _ rfl) h
   |mref nm=>cases hx with|mref hn h=>exact .mref (k5 _ rfl) h
   |top=>cases hx with|top h=>exact .top h
   |clo=>exact absurd rfl (k4 _ _)
theorem ab5 {V V':Nat→Prop} {N N':Nat} {l:List (Nat×Nat)}: ∀{xs:List AC} {vs:List Value},bf (dE w V ι N) (xs.map (c7 l)) vs→(∀b,V b→V' b)→dw N' xs→bf (dE w V' (λn=>ι (rn l n)) N') xs vs
 | [],vs,h,hV,hc=>by cases h;exact .nil
 |x::xs,vs,h,hV,hc=>by
  cases h with
  |cons h1 h2=>exact .cons (h1.cl hV hc.1) (ab5 h2 hV hc.2)
theorem aT.cl {N':Nat} {x:AV} (h:aT w V ι N (dv l x) v) (hV: ∀b,V b→V' b) (hc:kx N' x):aT w V' (λn=>ι (rn l n)) N' x v:=by
 cases x with
 |c x=>cases h with|c h=>exact .c (h.cl hV hc)
 |agg xs=>cases h with|agg h=>exact .agg (ab5 h hV hc)
 |tup xs=>
  cases xs with
  |nil=>cases h with|tup hl h=>exact .tup hl zR6
  |cons=>exact hc.elim
 |top=>exact .top
theorem abR {n:Nat}: ∀{l:List Nat},Wb n l→ ¬n∈l
 | [],_=>by simp
 |m::r,h=>by
  intro hm
  rcases zD7.1 hm with e|e
  ·exact h.1 e
  ·exact abR h.2 e
variable {n:Option Nat}{ps:List AC}
theorem ae4:iE n (ps.map (c7 l))=dv l (iE n ps):=by
 cases n with
 |none=>cases ps<;>rfl
 |some k=>rfl
theorem afy (h:dw N ps):kx N (iE n ps):=by
 cases n with
 |none=>
  cases ps with
  |nil=>exact trivial
  |cons p r=>exact h.1
 |some k=>exact h
theorem adF {V V':Nat→Prop} {N N':Nat} {l:List (Nat×Nat)} {kt:KT} {n:Option Nat}: ∀{xs:List (MK×List AC)} {es:List MapEntry},bf (F7 w V ι N kt n) (xs.map λx=>(x.1,x.2.map (c7 l))) es→(∀b,V b→V' b)→Xl N' xs→
  bf (F7 w V' (λn=>ι (rn l n)) N' kt n) xs es
 | [],es,h,hV,hc=>by cases h;exact .nil
 |x::xs,es,h,hV,hc=>by
  cases h with
  |cons h1 h2=>
   refine .cons ⟨h1.1, ?_⟩ (adF h2 hV hc.2)
   have h3:aT _ _ _ _ (iE n (List.map _ _)) _:=h1.2
   rw[ae4]at h3
   exact h3.cl hV (afy hc.1)
theorem aaB {mem mem':List (Nat×bP)}: ∀{seen:List Nat},wkM l mem N seen mem'→ ∀{nm:Nat} {b:bP},ar mem' nm=some b→ar mem (rn l nm)=some (ad2 l b)∧nm<N∧clB N b∧ ¬rn l nm∈seen:=by
 induction mem' with
 |nil=>intro seen h nm b hf;cases hf
 |cons x r ih=>
  obtain⟨k,c⟩:=x
  intro seen h nm b hf
  obtain⟨h1,h2,h3,h4,h5⟩:=h
  rw[im]at hf
  by_cases e:k=nm
  ·subst e
   rw[if_pos rfl]at hf
   cases hf
   exact⟨h1,h2,h3,abR h4⟩
  ·rw[if_neg e]at hf
   obtain⟨g1,g2,g3,g4⟩:=ih h5 hf
   exact⟨g1,g2,g3,λhm=>g4 (zC3 _ hm)⟩
theorem afD {mem mem':List (Nat×bP)}: ∀{seen:List Nat},wkM l mem N seen mem'→ ∀{nm nm':Nat} {b b':bP},ar mem' nm=some b→ar mem' nm'=some b'→rn l nm=rn l nm'→nm=nm':=by
 induction mem' with
 |nil=>intro seen h nm nm' b b' hf;cases hf
 |cons x r ih=>
  obtain⟨k,c⟩:=x
  intro seen h nm nm' b b' h1 h2 he
  have h5:=h.2.2.2.2
  rw[im]at h1 h2
  by_cases e:k=nm
  ·by_cases e':k=nm'
   ·omega
   ·rw[if_neg e']at h2
    have:=(aaB h5 h2).2.2.2
    subst e
    rw[←he]at this
    exact absurd zC5 this
  ·rw[if_neg e]at h1
   by_cases e':k=nm'
   ·have:=(aaB h5 h1).2.2.2
    subst e'
    rw[he]at this
    exact absurd zC5 this
   ·rw[if_neg e']at h2
    exact ih h5 h1 h2 he
theorem aav {fr fr':List (Nat×AV)} (h:jy l fr N fr') (t:Nat):(aZ fr t=dv l (aZ fr' t)∨aZ fr' t= .top)∧kx N (aZ fr' t):=by
 induction fr' with
 |nil=>exact⟨.inr rfl,trivial⟩
 |cons x r ih=>
  obtain⟨k,v⟩:=x
  obtain⟨h1,h2,h3⟩:=h
  rw[gz]
  by_cases e:k=t
  ·subst e
   rw[if_pos rfl]
   exact⟨h1,h2⟩
  ·rw[if_neg e]
   exact ih h3
theorem ac0 {N:Nat}: ∀{xs:List AC},dw N xs→ ∀{j:Nat} {x:AC},xs[j]? =some x→kH N x
 | [],_,j,x,h=>by cases h
 |y::r,hc,0,x,h=>by cases h;exact hc.1
 |y::r,hc,j+1,x,h=>ac0 (xs:=r) hc.2 h
theorem acu {N:Nat}: ∀{xs:List (List AC)},ad4 N xs→ ∀{j:Nat} {x:List AC},xs[j]? =some x→dw N x
 | [],_,j,x,h=>by cases h
 |y::r,hc,0,x,h=>by cases h;exact hc.1
 |y::r,hc,j+1,x,h=>acu (xs:=r) hc.2 h
theorem ae5 {N' sz:Nat} {rows:List (List AC)} {cells:List Value} (h:ZN w V ι N sz (rows.map λr=>r.map (c7 l)) cells) (hV: ∀b,V b→V' b) (hc:ad4 N' rows):ZN w V' (λn=>ι (rn l n)) N' sz rows cells:=by
 refine⟨by have:=h.1;rwa [zE3]at this,λi row hi=> ?_,λi row j p hi hj=> ?_⟩
 ·have:=h.2.1 i _ (by rw[zC7,hi];rfl)
  rwa [zE3]at this
 ·obtain⟨v,hv,hp⟩:=h.2.2 i _ j _ (by rw[zC7,hi];rfl) (by rw[zC7,hj];rfl)
  exact⟨v,hv,hp.cl hV (ac0 (acu hc hi) hj)⟩
theorem ci.wk (hs:ci w0 U σ ι a w) (h:Wk l σ σ'):ci w0 U σ' (λn=>ι (rn l n)) a w:=by
 obtain⟨hf,hm,hb1,hb2,hb3⟩:=h
 have hR: ∀b,aV w0.heap.size U ι σ.mem b→aV w0.heap.size U (λn=>ι (rn l n)) σ'.mem b:= λb h=>⟨h.1,λnm bx hn=>h.2 _ _ (aaB hm hn).1⟩
 refine⟨λt=> ?_,hs.defers,λnm bx hn=>(aaB hm hn).2.1,λnm bx hn=> ?_,λnm nm' b1 b2 b h1 h2 h3 h4=> ?_,hs.below,U.mono _ _ _ _ hs.keep (λb _ h=>hR b h) (λ_ _ _=>rfl),⟨by rw[hb1];exact hb2,λnm hn=> ?_⟩⟩
 ·obtain⟨h1,h2⟩:=aav hf t
  have hv:=hs.val t
  rcases h1 with h1|h1
  ·rw[h1]at hv
   exact hv.cl hR h2
  ·rw[h1];exact .top
 ·obtain⟨h1,h2,h3,_⟩:=aaB hm hn
  have hb:=hs.box _ _ h1
  cases bx with
  |var xs=>
   obtain⟨b',vs,T,g1,g2,g3,g4⟩:=hb
   exact⟨b',vs,T,g1,g2,g3,ab5 g4 hR h3⟩
  |arr e sz rows=>
   obtain⟨cells,k0,k1,k2,k3⟩:=hb
   exact⟨cells,k0,k1,k2,k3.mono (λb _ h=>hR b h) (λ_ _ _=>rfl)⟩
  |arn e sz rows=>
   obtain⟨cells,k0,k1,k2,k3⟩:=hb
   rw[zE3]at k1 k2
   exact⟨cells,k0,k1,k2,ae5 k3 hR h3⟩
  |map kt n ents=>
   obtain⟨b',es,clock,g1,g2,g3,g4,g5⟩:=hb
   exact⟨b',es,clock,g1,g2,g3,adF g4 hR h3,g5⟩
 ·exact afD hm h1 h2 (hs.apart _ _ _ _ _ (aaB hm h1).1 (aaB hm h2).1 h3 h4)
 ·rw[hb1]at hn
  rw[adD hb3 hn]
  exact hs.base.2 nm hn
variable {c:aj}{Q:bv→St→Prop}
theorem YA (l:List (Nat×Nat)) (hw:Wk l σ σ') (h:AW P nt c σ' Q):AW P nt c σ Q:=
 λc' hc w0 U rd ds ι a w hI hs hz=>h c' hc w0 U rd ds _ a w hI (hs.wk hw) hz
theorem dc (t e sz:Nat) (ht:aZ σ.fr t= .c .nils) (h0:0<sz)
  (h:AW P nt c {σ with fr:=(t,.c (.ref σ.nx))::σ.fr,mem:=(σ.nx,.arr e sz [])::σ.mem,nx:=σ.nx+1} Q):AW P nt c σ Q:=by
 intro c' hc w0 U rd ds ι a w hI hs hz
 obtain⟨ι',h1,h2,h3,h4⟩:=hs.newBox (w':=w) (pv:= .slice none 0 0) (bx:= .arr e sz []) (Below.refl _ _) (λb hb=>by simp[fE]at hb) (λι' e1 e2 hR=>⟨[],h0,by rw[e2];exact World.ownsRow_nil _ _ _ _,by simp,cZ.nil⟩)
 refine h c' hc w0 U rd ds ι' a w hI ⟨λs=> ?_,h1.defers,h1.names,h1.box,h1.apart,h1.below,h1.keep,h1.base⟩ hz
 rw[gz]
 by_cases es:t=s
 ·subst es
  rw[if_pos rfl]
  have hv:=hs.val t
  rw[ht]at hv
  rw[tX hv,←h2]
  exact .c (.ref (zF6 _) ⟨_,_,_,h2⟩)
 ·rw[if_neg es]
  exact h1.val s
theorem fU (nm i e sz:Nat) (xs:List AC) (hf:ar σ.mem nm=some (.var xs)) (hi:xs[i]? =some .nils) (h0:0<sz)
  (h:AW P nt c {σ with mem:=(σ.nx,.arr e sz [])::gF σ.mem nm (.var (xs.set i (.ref σ.nx))),nx:=σ.nx+1} Q):AW P nt c σ Q:=by
 intro c' hc w0 U rd ds ι a w hI hs hz
 obtain⟨ι',h1,h2,h3,h4⟩:=hs.newBox (w':=w) (pv:= .slice none 0 0) (bx:= .arr e sz []) (Below.refl _ _) (λb hb=>by simp[fE]at hb) (λι' e1 e2 hR=>⟨[],h0,by rw[e2];exact World.ownsRow_nil _ _ _ _,by simp,cZ.nil⟩)
 have hnm:=hs.names _ _ hf
 have hf1:ar ((σ.nx,bP.arr e sz [])::σ.mem) nm=some (.var xs):=by rw[im,if_neg zR5];exact hf
 obtain⟨b,vs,T,g1,g2,g3,g4⟩:=h1.box _ _ hf1
 have q5:=h1.setBox (cs:=vs) hf1 (b:=b) (by rw[g1];rfl) (bx:= .var (xs.set i (.ref σ.nx))) ⟨b,vs,T,g1,g2,setRow_heap _ _ _ _ _ _ g3,by
  rw[setRow_self w b vs T _ g3]
  refine bf.of_get (by rw[zH0];exact g4.length) λj x v hj hv=> ?_
  rw[zO5]at hj
  by_cases e1:i=j
  ·subst e1
   have Y:=(zB7.1 hi).1
   rw[if_pos rfl,if_pos Y]at hj
   cases hj
   obtain⟨v',hv',hr⟩:=g4.get hi
   rw[hv']at hv
   cases hv
   have:v= .slice none 0 0:=by cases hr;rfl
   rw[this,←h2]
   exact .ref (zF6 _) ⟨_,_,_,h2⟩
  ·rw[if_neg e1]at hj
   obtain⟨v',hv',hr⟩:=g4.get hj
   rw[hv']at hv
   cases hv
   exact hr⟩
 rw[setRow_self w b vs T _ g3]at q5
 have e5:gF ((σ.nx,bP.arr e sz [])::σ.mem) nm (.var (xs.set i (.ref σ.nx)))=(σ.nx,.arr e sz [])::gF σ.mem nm (.var (xs.set i (.ref σ.nx))):=by
  simp only[gF]
  rw[if_neg zR5]
 simp only[e5]at q5
 exact h c' hc w0 U rd ds ι' a w hI q5 hz
def acq {τ:Type} (mk:τ→St) (I:τ→Prop) (μ:τ→Nat) (t:τ) (Q:bv→St→Prop):bv→St→Prop
 | .normal,σ=> ∃t' l,I t'∧μ t'<μ t∧Wk l σ (mk t')
 | .exit i,σ=>Q (.exit i) σ
 | .ret,σ=>Q .ret σ
theorem al {τ:Type} {x:aj} (mk:τ→St) (I:τ→Prop) (μ:τ→Nat) (h0: ∃t l,I t∧Wk l σ (mk t)) (h: ∀t,I t→AW P nt x (mk t) (acq mk I μ t Q)):AW P nt (.loop x) σ Q:=by
 intro c' hc w0 U rd ds ι a w hI hs hz
 cases c'<;>simp[cn]at hc
 all_goals(try(split at hc<;>simp at hc))
 rename_i c1
 obtain⟨t,l,ht,hw⟩:=h0
 refine wpIn_loop_rounds (μ t+1) ?_
 have key: ∀n t U1 ds1 ι a w,A3 w0.heap.size rd U ds U1 ds1→μ t<n→I t→ci w0 U1 (mk t) ι a w→a.tmps.size=nt→Code.roundsIn (FR rd) 0 P c1 (Lw w0 U rd ds nt Q) n (sh ds1 a) w:=by
  intro n
  induction n with
  |zero=>intro t U1 ds1 ι a w hx hm;omega
  |succ n ih=>
   intro t U1 ds1 ι a w hx hm ht hs hz
   rw[roundsIn_succ]
   refine wpIn_mono (h t ht _ hc w0 U1 rd ds1 ι a w (hI.ext hx) hs hz) ?_
   rintro e a1 w1 ⟨e',σ',ι',U',ds',a0,rfl,hq,O,hY,rfl,q6⟩
   cases e' with
   |normal=>
    obtain⟨t',l',ht',Y,hwk⟩:=hq
    exact ih t' _ _ _ a0 w1 (hx.trans q6) zR5 ht' (O.wk hwk) hY
   |exit i=>exact⟨.exit i,σ',ι',U',ds',a0,rfl,hq,O,hY,rfl,hx.trans q6⟩
   |ret=>exact⟨.ret,σ',ι',U',ds',a0,rfl,hq,O,hY,rfl,hx.trans q6⟩
 exact key _ t _ _ _ a w .refl (zF6 _) ht (hs.wk hw) hz
end
open Go.RowKit
section
variable {P : Program} {a : Act} {w w' w0 : World} {U U2 : Gh} {ι : Pl} {σ : St}
def ads:Obj→Bool
 | .loop _=>true
 | .deferred _=>true
 |_=>false
variable {b:Nat}
theorem adI {off:Nat} {v:Value} (h:w.cell? ⟨b,off,none⟩=some v): ¬ ∃o,w.heap[b]? =some o∧ads o=true:=by
 rintro⟨o,h1,h2⟩
 obtain⟨o',h3,h4⟩:=cells_of_cell h
 rw[h1]at h3
 cases h3
 cases o<;>simp_all [ads,Obj.isCells]
structure wC (n:Nat) (w w':World):Prop where
 os:w'.os=w.os
 tape:w'.tape=w.tape
 output:w'.output=w.output
 size:w.heap.size≤w'.heap.size
 block: ∀b,b<w.heap.size→w'.heap[b]? =w.heap[b]? ∨(n≤b∧ ∃o,w.heap[b]? =some o∧ads o=true)
theorem wC.refl (n:Nat) (w:World):wC n w w:=⟨rfl,rfl,rfl,zB2 _,λ_ _=> .inl rfl⟩
variable {n:Nat}
theorem wC.trans {A B C:World} (h:wC n A B) (k:wC n B C):wC n A C:=by
 refine⟨k.os.trans h.os,k.tape.trans h.tape,k.output.trans h.output,zK3 h.size k.size,λb hb=> ?_⟩
 rcases h.block b hb with e|e
 ·rcases k.block b (zH1 hb h.size)with e2|⟨e2,o,e3,e4⟩
  ·exact .inl (e2.trans e)
  ·exact .inr ⟨e2,o,e▸e3,e4⟩
 ·exact .inr e
theorem wC.of_below {A B:World} (h:Below A.heap.size A B):wC n A B:=⟨h.os,h.tape,h.output,h.size,λb hb=> .inl (h.block b hb)⟩
theorem wC.putObj {D:Nat} {o:Obj} (o':Obj) (hD:n≤D) (ho:w.heap[D]? =some o) (hl:ads o=true):wC n w (w.putObj D o'):=by
 refine⟨rfl,rfl,rfl,by simp,λb hb=> ?_⟩
 by_cases e:b=D
 ·subst e
  exact .inr ⟨hD,o,ho,hl⟩
 ·exact .inl (World.putObj_heap_other e)
theorem wC.old {A B:World} (h:wC n A B) (hb:b<n) (Y:b<A.heap.size):B.heap[b]? =A.heap[b]? :=by
 rcases h.block b Y with e|⟨e,_⟩
 ·exact e
 ·omega
section
variable {V S : Nat → Prop} {N : Nat} (hS : ∀ b, S b → ∃ o, w.heap[b]? = some o ∧ ads o = true)
include hS
variable {v:Value}
theorem d6.ne {p:PC} (h:d6 w V p v):d6 w (λb=>V b∧ ¬S b) p v:=by
 induction h with
 |val h=>exact .val h
 |slice g hn hcc hm hr HI hp ih=>
  refine .slice g hn hcc hm hr (λi row j p h1 h2=> ?_) ih
  obtain⟨b,off,ha,hb,HC⟩:=HI i row j p h1 h2
  exact⟨b,off,ha,⟨hb,λh=>adI HC (hS _ h)⟩,HC⟩
 |fmap hb hm hl hk hp ih=>
  refine .fmap ⟨hb,λh=> ?_⟩ hm hl hk ih
  obtain⟨o,h1,h2⟩:=hS _ h
  rw[hm]at h1
  cases h1
  cases h2
theorem dE.ne {x:AC} (h:dE w V ι N x v):dE w (λb=>V b∧ ¬S b) ι N x v:=by
 induction h with
 |pure h=>exact .pure (h.ne hS)
 |nils=>exact .nils
 |tsl h=>exact .tsl (h.ne hS)
 |ptr hn h=>exact .ptr hn h
 |eptr hn h=>exact .eptr hn h
 |cptr g HI=>
  refine .cptr g λj p hj=> ?_
  obtain⟨h1,h2,h3⟩:=HI j p hj
  exact⟨⟨h1,λh=>adI h2 (hS _ h)⟩,h2,h3.ne hS⟩
 |ref hn h=>exact .ref hn h
 |clo hl h ih=>exact .clo hl λi x hx=>ih i x hx
 |mref hn h=>exact .mref hn h
 |top h=>exact .top h
theorem aT.ne {x:AV} (h:aT w V ι N x v):aT w (λb=>V b∧ ¬S b) ι N x v:=by
 induction h with
 |c h=>exact .c (h.ne hS)
 |agg h=>exact .agg (h.mono λ_ _ h=>h.ne hS)
 |tup hl h ih=>exact .tup hl λi x hx=>ih i x hx
 |top=>exact .top
end
theorem ci.not_lp (hs:ci w0 U σ ι a w) {nm:Nat} {bx:bP} (hn:ar σ.mem nm=some bx) (hb:fE (ι nm)=some b): ¬ ∃o,w.heap[b]? =some o∧ads o=true:=by
 rintro⟨o,h1,h2⟩
 have h:=hs.box nm bx hn
 cases bx with
 |var xs=>
  obtain⟨b',vs,T,g1,g2,g3,g4⟩:=h
  rw[g1]at hb
  cases hb
  rw[g3]at h1
  cases h1
  cases h2
 |arr e sz rows=>
  obtain⟨cells,k0,k1,k2⟩:=h
  rcases k1.2 with⟨h,_⟩|⟨g,cap,cur,h,_,hg,_⟩
  ·rw[h]at hb;cases hb
  ·rw[h]at hb
   cases hb
   rw[hg]at h1
   cases h1
   cases h2
 |arn e sz rows=>
  obtain⟨cells,k0,k1,k2⟩:=h
  rcases k1.2 with⟨h,_⟩|⟨g,cap,cur,h,_,hg,_⟩
  ·rw[h]at hb;cases hb
  ·rw[h]at hb
   cases hb
   rw[hg]at h1
   cases h1
   cases h2
 |map kt n ents=>
  obtain⟨b',es,clock,g1,g2,g3,g4⟩:=h
  rw[g1]at hb
  cases hb
  rw[g3]at h1
  cases h1
  cases h2
theorem ci.growL (hs:ci w0 U σ ι a w) (hn0:w0.heap.size≤n) (hg:wC n w w') (hp:U2.p=U.p) (hi:U2.ι0=U.ι0)
  (hG:U2.G w' (aV w0.heap.size U2 ι σ.mem)):ci w0 U2 σ ι a w':=by
 have hR:aV w0.heap.size U2 ι σ.mem=aV w0.heap.size U ι σ.mem:=by
  funext b
  unfold aV
  rw[hp]
 have hS: ∀b,(b<w.heap.size∧w'.heap[b]? ≠w.heap[b]?)→ ∃o,w.heap[b]? =some o∧ads o=true:=by
  rintro b ⟨h1,h2⟩
  rcases hg.block b h1 with e|⟨_,e⟩
  ·exact absurd e h2
  ·exact e
 have hV: ∀b,b<w.heap.size→(aV w0.heap.size U ι σ.mem b∧ ¬(b<w.heap.size∧w'.heap[b]? ≠w.heap[b]?))→aV w0.heap.size U2 ι σ.mem b:= λb _ h=>by rw[hR];exact h.1
 have hw: ∀b,b<w.heap.size→(aV w0.heap.size U ι σ.mem b∧ ¬(b<w.heap.size∧w'.heap[b]? ≠w.heap[b]?))→w'.heap[b]? =w.heap[b]? := λb hb h=>zD5 λe=>h.2 ⟨hb,e⟩
 refine⟨λt=>((hs.val t).ne hS).mono hV hw (λ_ _=>rfl) (zB2 _),hs.defers,hs.names,λnm bx hn=> ?_,hs.apart,hs.below.trans ⟨hg.os,hg.tape,hg.output,hg.size,λk hk=>hg.old zR5 (zH1 hk hs.below.size)⟩,hG,by rw[hi];exact hs.base⟩
 have hb:=hs.box nm bx hn
 have HW: ∀b,fE (ι nm)=some b→b<w.heap.size→w'.heap[b]? =w.heap[b]? := λb e Y=>by
  rcases hg.block b Y with e2|⟨_,e2⟩
  ·exact e2
  ·exact absurd e2 (hs.not_lp hn e)
 cases bx with
 |var xs=>
  obtain⟨b,vs,T,h1,h2,h3,h4⟩:=hb
  exact⟨b,vs,T,h1,h2,by rw[HW b (by rw[h1];rfl) (zC6.1 h3).1];exact h3,h4.mono λ_ _ h=>(h.ne hS).mono hV hw (λ_ _=>rfl) (zB2 _)⟩
 |arr e sz rows=>
  obtain⟨cells,h0,h1,h2,h3,h4,h5⟩:=hb
  refine⟨cells,h0, ?_,h2,h3,h4,λi row j p hi hj=> ?_⟩
  ·obtain⟨q1,q2⟩:=h1
   refine⟨q1, ?_⟩
   rcases q2 with q2|⟨g,cap,cur,e0,HG,q7,Hz⟩
   ·exact .inl q2
   ·exact .inr ⟨g,cap,cur,e0,HG,(HW g (by rw[e0];rfl) (zC6.1 q7).1).trans q7,Hz⟩
  ·obtain⟨v,hv,hpp⟩:=h5 i row j p hi hj
   exact⟨v,hv,(hpp.ne hS).mono hV hw⟩
 |arn e sz rows=>
  obtain⟨cells,h0,h1,h2,h3,h4,h5⟩:=hb
  refine⟨cells,h0, ?_,h2,h3,h4,λi row j p hi hj=> ?_⟩
  ·obtain⟨q1,q2⟩:=h1
   refine⟨q1, ?_⟩
   rcases q2 with q2|⟨g,cap,cur,e0,HG,q7,Hz⟩
   ·exact .inl q2
   ·exact .inr ⟨g,cap,cur,e0,HG,(HW g (by rw[e0];rfl) (zC6.1 q7).1).trans q7,Hz⟩
  ·obtain⟨v,hv,hpp⟩:=h5 i row j p hi hj
   exact⟨v,hv,(hpp.ne hS).mono hV hw (λ_ _=>rfl) (zB2 _)⟩
 |map kt n ents=>
  obtain⟨b,es,clock,h1,h2,h3,h4,h5⟩:=hb
  exact⟨b,es,clock,h1,h2,by rw[HW b (by rw[h1];rfl) (zC6.1 h3).1];exact h3,h4.mono λ_ _ h=>⟨h.1,(h.2.ne hS).mono hV hw (λ_ _=>rfl) (zB2 _)⟩,h5⟩
theorem ci.turn (hs:ci w0 U σ ι a w) {D:Nat} {o:Obj} (o':Obj) (ho:w.heap[D]? =some o) (hl:ads o=true) (hD:w0.heap.size≤D) (hp:U2.p=U.p) (hi:U2.ι0=U.ι0)
  (hG:U2.G (w.putObj D o') (aV w0.heap.size U2 ι σ.mem)):ci w0 U2 σ ι a (w.putObj D o'):=
 hs.growL hD (.putObj o' (zB2 _) ho hl) hp hi hG
variable {fn:Func}{R:Ending→World→Prop}
theorem OI {tmps:Array Value} {U':Gh} {ds':List Deferred} (hx:A3 w0.heap.size none U [] U' ds'): ∀{w:World},ci w0 U' σ ι a w→
  (∀w',ci w0 U σ ι a w'→ ∃v,(results fn tmps).run P w'= .ok v w'∧R (.returned v) w')→LeavesInM Fence.wide 0 P fn tmps R ds' .returning w:=by
 induction hx with
 |refl=>exact λhs h=>h _ hs
 | @mark U1 U2 ds1 D h hr hD hp hi hG ih=>
  intro w hs q8
  obtain⟨_,g2,g3,g4⟩:=hG _ _ hs.keep
  refine⟨by simp,.inl ⟨D,_,rfl,run_takeDeferred g3,ih (hs.turn (.deferred none) g3 rfl hD hp.symm hi.symm ?_) q8⟩⟩
  have e:aV w0.heap.size U1 ι σ.mem=aV w0.heap.size U2 ι σ.mem:=by
   funext b
   unfold aV
   rw[hp]
  rw[e]
  exact g4
theorem F0 {f:FuncId} {c:Code} {vs:Array Value} {nt:Nat} {Q:bv→St→Prop} (h1:P.funcs[f]? =some fn) (h2:fn.body=some c)
  (hw:c.wpIn (FR none) 0 P (Lw w0 U none [] nt Q) (sh [] {tmps:=vs++Array.replicate (fn.ntmps-vs.size) undef,defers:= []}) w)
  (hx: ∀i σ',¬Q (.exit i) σ') (q8: ∀{e:bv} {a':Act} {w':World} {σ':St} {ι':Pl},Q e σ'→ci w0 U σ' ι' a' w'→ ∃v,(results fn a'.tmps).run P w'= .ok v w'∧R (.returned v) w'):Calls P f vs w R:=by
 refine(callsIn_wide (n:=0)).1 (callsIn_of_wp_marks h1 h2 trivial (wpIn_mono hw ?_))
 rintro e a' w' ⟨e',σ',ι',U',ds',a0,rfl,hq,O,hz,rfl,q6⟩
 have hd:(sh ds' a0).defers=ds':=by
  show a0.defers++ds'=ds'
  rw[O.defers.1]
  rfl
 have key:LeavesInM Fence.wide 0 P fn (sh ds' a0).tmps R (sh ds' a0).defers .returning w':=by
  rw[hd]
  exact OI q6 O λw2 HP=>q8 (a':=a0) hq HP
 cases e' with
 |normal=>exact key
 |exit i=>exact absurd hq (hx _ _)
 |ret=>exact key
end
inductive AR where
 |t (n:Nat)
 |cell (n:Option Nat) (a:Nat)
def acv (P:Program):ResultVar→Option AR
 | .tmp t=>some (.t t)
 | .cell a t=>(oe P t).map λn=> .cell n a
def FF (P:Program):List ResultVar→Option (List AR)
 | []=>some []
 |r::rs=>match acv P r,FF P rs with
  |some x,some xs=>some (x::xs)
  |_,_=>none
def OE (n:Option Nat) (xs:List AC) (K:AV→Prop):Prop:=
 match n with
 |none=>match xs with
  |x::_=>K (.c x)
  | []=>False
 |some n=>cr (n≤xs.length) (K:=⟨K (.agg (xs.take n))⟩)
def JT (σ:St):AR→(AV→Prop)→Prop
 | .t n,K=>K (aZ σ.fr n)
 |.cell n a,K=>match aZ σ.fr a with
  |.c q=>match bR σ.mem q with
   |some xs=>OE n xs K
   |none=>False
  |_=>False
def nD (σ:St):List AR→List AV→(List AV→Prop)→Prop
 | [],acc,K=>K acc
 |r::rs,acc,K=>JT σ r λv=>nD σ rs (acc++ [v]) K
def kz:List AV→AV
 | [v]=>v
 |vs=> .tup vs
def SV (mem:List (Nat×bP)):AV→Option AV
 |.tup xs=>match bk mem xs with
  |some ys=>some (.tup ys)
  |none=>none
 |x=>cK mem x
def adP (rs:List AR) (res:AV):bv→St→Prop
 | .exit _,_=>False
 | .ret,σ=>nD σ rs [] λvs=>SV σ.mem (kz vs)=some res
 | .normal,σ=>nD σ rs [] λvs=>SV σ.mem (kz vs)=some res
def aI:List AV→Nat→List (Nat×AV)
 | [],_=> []
 |v::r,k=>(k,v)::aI r (k+1)
def f6:List AV→Prop
 | []=>True
 |v::r=>fB v∧f6 r
structure am (P:Program) (f:FuncId) (nt:Nat) (body:aj) (rs:List AR):Prop where
 is : ∃ fn c, P.funcs[f]? = some fn ∧ fn.body = some c ∧ (fn.name == "runtime.NumGoroutine") = false ∧ fn.ntmps = nt ∧ cn P nt c = some body ∧ FF P fn.results.toList = some rs
section
variable {P : Program} {a : Act} {w w' w0 : World} {U : Gh} {ι : Pl} {σ σ' : St} {nt : Nat}
theorem TK {t:TypeId} {n:Option Nat} {q:AC} {u:Value} {xs:List AC} {K:AV→Prop} (hs:ci w0 U σ ι a w) (ht:oe P t=some n) (hr:dE w (aV w0.heap.size U ι σ.mem) ι σ.nx q u) (hx:bR σ.mem q=some xs) (h:OE n xs K):
  ∃ad v u',u= .pointer (some ad)∧(loadVar t ad).run P w= .ok u' w∧aT w (aV w0.heap.size U ι σ.mem) ι σ.nx v u'∧K v:=by
 obtain⟨b,off,e1,hc⟩:=Ln hs hr hx
 cases n with
 |none=>
  simp only[OE]at h
  split at h
  ·rename_i z zs
   obtain⟨v,hv,hr⟩:=hc 0 z rfl
   exact⟨_,_,v,e1,Pd (P:=P) ht zV6,.c hr,h⟩
  ·exact h.elim
 |some n=>
  obtain⟨hle,h⟩:=h
  have hg: ∃ys:List Value,ys.length=n∧ ∀(j:Nat) x v,(xs.take n)[j]? =some x→ys[j]? =some v→w.cell? ⟨b,off+j,none⟩=some v∧dE w (aV w0.heap.size U ι σ.mem) ι σ.nx x v:=by
   refine⟨(List.range n).map λj=>(w.cell? ⟨b,off+j,none⟩).getD undef,by simp,λj x v hj hv=> ?_⟩
   have z4:j<n:=by have:=(zB7.1 hj).1;simp at this;omega
   rw[zJ6 z4]at hj
   obtain⟨u,hu,hr⟩:=hc j x hj
   simp[zC7,zL3 z4,hu]at hv
   subst hv
   exact⟨hu,hr⟩
  obtain⟨ys,hl,hy⟩:=hg
  have Y:(xs.take n).length=n:=by simp;omega
  refine⟨_,_,.agg ys.toArray,e1,Pt (P:=P) (w:=w) (ad:=⟨b,off,none⟩) ht (vs:=ys) hl λj v hv=> ?_,.agg (bf.of_get (by rw[Y];simp[hl]) λj x v hj hv=>(hy j x v hj zV6).2),h⟩
  have z4:j<(xs.take n).length:=by rw[Y,←hl];exact(zB7.1 hv).1
  rw[ju]
  exact(hy j _ v (zA7 z4) hv).1
def PF (tmps:Array Value):ResultVar→Sem Value
 | .tmp t=>pure (tmps.getD t undef)
 | .cell a t=>do loadVar t (←asAddr (tmps.getD a undef))
theorem ki (hs:ci w0 U σ ι a w): ∀{rvs:List ResultVar} {rs:List AR} {acc:List AV} {us:List Value} {K:List AV→Prop},FF P rvs=some rs→nD σ rs acc K→bf (aT w (aV w0.heap.size U ι σ.mem) ι σ.nx) acc us→
  ∃vs us',bf (aT w (aV w0.heap.size U ι σ.mem) ι σ.nx) vs (us++us')∧(rvs.mapM (PF a.tmps)).run P w= .ok us' w∧K vs
 |[],rs,acc,us,K,hc,h,hU=>by
  cases hc
  exact⟨acc, [],by simpa using hU,rfl,h⟩
 |r::rvs,rs,acc,us,K,hc,h,hU=>by
  unfold FF at hc
  split at hc
  ·rename_i x xs h1 h2
   cases hc
   have one: ∃v u,aT w (aV w0.heap.size U ι σ.mem) ι σ.nx v u∧(PF a.tmps r).run P w= .ok u w∧nD σ xs (acc++ [v]) K:=by
    simp only[nD]at h
    cases r with
    |tmp t=>
     cases h1
     exact⟨_,_,hs.val t,rfl,h⟩
    |cell ad t=>
     simp only[acv,zC1]at h1
     obtain⟨n,hn,rfl⟩:=h1
     simp only[JT]at h
     split at h
     ·rename_i q e
      have hq:=hs.val ad
      rw[e]at hq
      split at h
      ·rename_i xs' hx
       have hq':dE w (aV w0.heap.size U ι σ.mem) ι σ.nx q (a.tmps.getD ad undef):=by
        generalize a.tmps.getD ad undef=z at hq
        cases hq with|c hq=>exact hq
       obtain⟨Tx,v,u',e1,e2,e3,e4⟩:=TK (P:=P) hs hn hq' hx h
       exact⟨v,u',e3,by simp only[PF,Sem.run_bind,e1,asAddr,Sem.run_pure,Result.andThen_ok,e2],e4⟩
      ·exact h.elim
     ·exact h.elim
   obtain⟨v,u,hr,hrun,hk⟩:=one
   obtain⟨vs,us',g1,g2,g3⟩:=ki hs (us:=us++ [u]) h2 hk (hU.append (.cons hr .nil))
   exact⟨vs,u::us',by simpa using g1,by simp[List.mapM_cons,hrun,g2],g3⟩
  ·cases hc
theorem jF (fn:Func) (tmps:Array Value):results fn tmps=(do let vs←fn.results.mapM (PF tmps);pure (if h:vs.size=1 then vs[0]else .tuple vs)):=by
 unfold results
 congr 1
variable {V:Nat→Prop}
theorem Rt {x y:AV} {v:Value} (hs:ci w0 U σ ι a w) (h:aT w (aV w0.heap.size U ι σ.mem) ι σ.nx x v) (hp:SV σ.mem x=some y) (hV: ∀b,aV w0.heap.size U ι σ.mem b→V b) (hN: ∀b,w0.heap.size≤b→V b):aT w V (λ_=>undef) 0 y v:=by
 cases h with
 |c h=>exact D5 hs (.c h) hp hV (.inr hN)
 |agg h=>exact D5 hs (.agg h) hp hV (.inr hN)
 | @tup xs vs hl h=>
  simp only[SV]at hp
  split at hp
  ·cases hp
   have hE:bf (aT w (aV w0.heap.size U ι σ.mem) ι σ.nx) xs vs.toList:=bf.of_get zS8 λi x v hi hv=>by
    have:=h i x hi
    rw[hv]at this
    exact this
   have hr:=o6 hs hE hV (.inr hN) ‹_›
   refine .tup (by simpa using hr.length) λi x hi=> ?_
   obtain⟨v,hv,hx⟩:=hr.get hi
   rw[hv]
   exact hx
  ·cases hp
 |top=>cases hp
theorem iG {vs:List Value} {V:Nat→Prop} {N:Nat}: ∀{args:List AV} {us:List Value} {k:Nat},bf (aT w V ι N) args us→ ∀t,aT w V ι N (aZ (aI args k) t) ((us[t-k]?).getD undef)∨aZ (aI args k) t= .top
 | [],us,k,h,t=> .inr rfl
 |v::args,us,k,h,t=>by
  cases h with
  | @cons _ u _ us h1 h2=>
   show aT _ _ _ _ (if k=t then v else aZ (aI args (k+1)) t) _∨(if k=t then v else aZ (aI args (k+1)) t)= .top
   by_cases e:k=t
   ·subst e
    rw[if_pos rfl]
    left
    simpa using h1
   ·rw[if_neg e]
    rcases iG (vs:=vs) (k:=k+1) h2 t with h|h
    ·by_cases Y:k<t
     ·left
      have:t-k=(t-(k+1))+1:=by omega
      rw[this]
      simpa using h
     ·right
      clear h h1 h2
      have key: ∀(l:List AV) (j:Nat),t<j→aZ (aI l j) t= .top:=by
       intro l
       induction l with
       |nil=>intro j _;rfl
       |cons x l ih=>
        intro j hj
        show(if j=t then x else aZ (aI l (j+1)) t)=_
        rw[if_neg zR5]
        exact ih _ zR5
      exact key args (k+1) zR5
    ·exact .inr h
variable {args:List AV}{us:List Value}
theorem xl {N:Nat} (h:bf (aT w V ι N) args us):f6 args:=by
 induction h with
 |nil=>trivial
 |cons h _ ih=>exact⟨Sl h,ih⟩
theorem yV {N:Nat} {vs:List AV} (h:bf (aT w V ι N) vs us):aT w V ι N (kz vs) (if h:us.toArray.size=1 then us.toArray[0]else .tuple us.toArray):=by
 have tupled: ∀{vs:List AV} {us:List Value},bf (aT w V ι N) vs us→aT w V ι N (.tup vs) (.tuple us.toArray):= λh=>
  .tup (by simpa using h.length) λi x hi=>by
   obtain⟨v,hv,hx⟩:=h.get hi
   simp only[zJ9]
   rw[hv]
   exact hx
 cases h with
 |nil=>rw[dif_neg zR6];exact tupled .nil
 |cons h1 t=>
  cases t with
  |nil=>rw[dif_pos zR6];exact h1
  |cons h2 t=>
   rw[dif_neg zR6]
   exact tupled (.cons h1 (.cons h2 t))
variable {f:FuncId}{nt:Nat}{body:aj}{rs:List AR}{res:AV}
theorem ac.of (hf:am P f nt body rs) (HL:args.length≤nt) (h:f6 args→AW P nt body ⟨aI args 0, [],0,0⟩ (adP rs res)):ac P f args res:=by
 obtain⟨fn,c,h1,h2,h3,rfl,h5,h6⟩:=hf.is
 refine⟨⟨fn,h1,by rw[h2];rfl,h3⟩,λw U vs hG Z=> ?_⟩
 have HA:vs.size=args.length:=by rw[←zD0];exact Z.length.symm
 have hs:ci w (Gh.of U) ⟨aI args 0, [],0,0⟩ (λ_=>undef) {tmps:=vs++Array.replicate (fn.ntmps-vs.size) undef,defers:= []} w:=by
  refine⟨λt=> ?_,⟨rfl,hG⟩,(λnm bx hn=>by cases hn),(λnm bx hn=>by cases hn),(λnm nm' b1 b2 b hn=>by cases hn),Below.refl _ _,trivial,⟨zB2 _,λ_ h=>absurd h (zM0 _)⟩⟩
  have H0: ∀{x:AV} {v:Value},aT w U (λ_=>undef) 0 x v→aT w (aV w.heap.size (Gh.of U) (λ_=>undef) []) (λ_=>undef) 0 x v:= λh=>
   h.mono (λb _ h=>⟨.inl h,λnm bx hn=>by cases hn⟩) (λ_ _ _=>rfl) (λ_ _=>rfl) (zB2 _)
  rcases iG (vs:=vs.toList) (k:=0) Z t with h|h
  ·by_cases Y:t<vs.size
   ·have e:(vs++Array.replicate (fn.ntmps-vs.size) undef).getD t undef=(vs.toList[t-0]?).getD undef:=by
     simp[zC4,zI1,Y]
    rw[e]
    exact H0 h
   ·have:aZ (aI args 0) t= .top:=by
     have key: ∀(l:List AV) (j:Nat),j+l.length≤t→aZ (aI l j) t= .top:=by
      intro l
      induction l with
      |nil=>intro j _;rfl
      |cons x l ih=>
       intro j hj
       simp only[zG2]at hj
       show(if j=t then x else aZ (aI l (j+1)) t)=_
       rw[if_neg zR5]
       exact ih _ zR5
     exact key args 0 zR5
    show aT _ _ _ _ (aZ (aI args 0) t) _
    rw[this]
    exact .top
  ·show aT _ _ _ _ (aZ (aI args 0) t) _
   rw[h]
   exact .top
 have HE:(vs++Array.replicate (fn.ntmps-vs.size) undef).size=fn.ntmps:=by simp;omega
 have fin: ∀{a':Act} {w':World} {σ':St} {ι':Pl},nD σ' rs [] (λvs=>SV σ'.mem (kz vs)=some res)→ci w (Gh.of U) σ' ι' a' w'→ ∃v,(results fn a'.tmps).run P w'= .ok v w'∧ ∃v',Ending.returned v= .returned v'∧aT w' (λb=>U b∨w.heap.size≤b) (λ_=>undef) 0 res v'∧Below w.heap.size w w':=by
  intro a' w' σ' ι' HM O
  obtain⟨vs',us',g1,g2,g3⟩:=ki O (us:= []) h6 HM .nil
  refine⟨_, ?_,_,rfl,Rt O (yV (by simpa using g1)) g3 (λb h=>h.1) (λb h=> .inr h),O.below⟩
  rw[jF,zG8]
  simp[g2]
 refine F0 h1 h2 (h (xl Z) c h5 w (Gh.of U) none [] _ _ w (λ_ e=>by cases e) hs HE) (λi σ' h=>h) ?_
 intro e a' w' σ' ι' hq O
 cases e with
 |normal=>exact fin hq O
 |exit i=>exact hq.elim
 |ret=>exact fin hq O
def adL (rs:List AR) (res:AV) (mem:List (Nat×bP)) (nx base:Nat):bv→St→Prop
 | .exit _,_=>False
 | .ret,σ=>nD σ rs [] λvs=>kz vs=res∧σ.mem=mem∧σ.nx=nx∧σ.base=base
 | .normal,σ=>nD σ rs [] λvs=>kz vs=res∧σ.mem=mem∧σ.nx=nx∧σ.base=base
theorem bJ.of {mem mem':List (Nat×bP)} {nx nx':Nat} (hf:am P f nt body rs) (HL:args.length≤nt) (h:f6 args→AW P nt body ⟨aI args 0,mem,nx,nx⟩ (adL rs res mem' nx' nx)):bJ P f args mem nx res mem' nx':=by
 obtain⟨fn,c,h1,h2,h3,rfl,h5,h6⟩:=hf.is
 refine⟨⟨fn,h1,by rw[h2];rfl,h3⟩,λw0 U ι w vs h9 Z=> ?_⟩
 have HA:vs.size=args.length:=by rw[←zD0];exact Z.length.symm
 have hs:ci w0 U ⟨aI args 0,mem,nx,nx⟩ ι {tmps:=vs++Array.replicate (fn.ntmps-vs.size) undef,defers:= []} w:=by
  refine⟨λt=> ?_,⟨rfl,h9.defers.2⟩,h9.names,h9.box,h9.apart,h9.below,h9.keep,h9.base⟩
  rcases iG (vs:=vs.toList) (k:=0) Z t with h|h
  ·by_cases Y:t<vs.size
   ·have e:(vs++Array.replicate (fn.ntmps-vs.size) undef).getD t undef=(vs.toList[t-0]?).getD undef:=by
     simp[zC4,zI1,Y]
    rw[e]
    exact h
   ·have:aZ (aI args 0) t= .top:=by
     have key: ∀(l:List AV) (j:Nat),j+l.length≤t→aZ (aI l j) t= .top:=by
      intro l
      induction l with
      |nil=>intro j _;rfl
      |cons x l ih=>
       intro j hj
       simp only[zG2]at hj
       show(if j=t then x else aZ (aI l (j+1)) t)=_
       rw[if_neg zR5]
       exact ih _ zR5
     exact key args 0 zR5
    show aT _ _ _ _ (aZ (aI args 0) t) _
    rw[this]
    exact .top
  ·show aT _ _ _ _ (aZ (aI args 0) t) _
   rw[h]
   exact .top
 have HE:(vs++Array.replicate (fn.ntmps-vs.size) undef).size=fn.ntmps:=by simp;omega
 have fin: ∀{a':Act} {w':World} {σ':St} {ι':Pl},(nD σ' rs [] λvs=>kz vs=res∧σ'.mem=mem'∧σ'.nx=nx'∧σ'.base=nx)→ci w0 U σ' ι' a' w'→ ∃v,(results fn a'.tmps).run P w'= .ok v w'∧
   ∃v' ι',Ending.returned v= .returned v'∧ci w0 U ⟨[],mem',nx',nx⟩ ι' {tmps:= #[],defers:= []} w'∧aT w' (aV w0.heap.size U ι' mem') ι' nx' res v':=by
  intro a' w' σ' ι' HM O
  obtain⟨vs',us',g1,g2,rfl,rfl,rfl,rfl⟩:=ki O (us:= []) h6 HM .nil
  refine⟨_, ?_,_,ι',rfl,⟨λt=> .top,⟨rfl,O.defers.2⟩,O.names,O.box,O.apart,O.below,O.keep,O.base⟩,yV (by simpa using g1)⟩
  rw[jF,zG8]
  simp[g2]
 refine F0 h1 h2 (h (xl Z) c h5 w0 U none [] _ _ w (λ_ e=>by cases e) hs HE) (λi σ' h=>h) ?_
 intro e a' w' σ' ι' hq O
 cases e with
 |normal=>exact fin hq O
 |exit i=>exact hq.elim
 |ret=>exact fin hq O
theorem yE: ∀{l:List AV} {k:Nat} (i:Nat),aZ (aI l k) (k+i)=(l[i]?).getD .top
 | [],k,i=>by simp[aI,aZ]
 |v::l,k,0=>by simp[aI,aZ]
 |v::l,k,i+1=>by
  have:=yE (l:=l) (k:=k+1) i
  simp only[aI,aZ]
  rw[if_neg zR5,show k+(i+1)=k+1+i by omega,this]
  simp
def Wi (rs:List AR) (ress:List AV) (mem:List (Nat×bP)) (nx base:Nat):bv→St→Prop
 | .exit _,_=>False
 | .ret,σ=> ∃l rl,nD (bM l σ []).1 rs [] λvs=>ress.length=vs.length∧Wk rl {(bM l σ []).1 with fr:=aI vs 0} ⟨aI ress 0,mem,nx,base⟩
 | .normal,σ=> ∃l rl,nD (bM l σ []).1 rs [] λvs=>ress.length=vs.length∧Wk rl {(bM l σ []).1 with fr:=aI vs 0} ⟨aI ress 0,mem,nx,base⟩
theorem bJ.ofZ {mem mem':List (Nat×bP)} {nx nx':Nat} {ress:List AV} (hf:am P f nt body rs) (HL:args.length≤nt) (h:f6 args→AW P nt body ⟨aI args 0,mem,nx,nx⟩ (Wi rs ress mem' nx' nx)):bJ P f args mem nx (kz ress) mem' nx':=by
 obtain⟨fn,c,h1,h2,h3,rfl,h5,h6⟩:=hf.is
 refine⟨⟨fn,h1,by rw[h2];rfl,h3⟩,λw0 U ι w vs h9 Z=> ?_⟩
 have HA:vs.size=args.length:=by rw[←zD0];exact Z.length.symm
 have hs:ci w0 U ⟨aI args 0,mem,nx,nx⟩ ι {tmps:=vs++Array.replicate (fn.ntmps-vs.size) undef,defers:= []} w:=by
  refine⟨λt=> ?_,⟨rfl,h9.defers.2⟩,h9.names,h9.box,h9.apart,h9.below,h9.keep,h9.base⟩
  rcases iG (vs:=vs.toList) (k:=0) Z t with h|h
  ·by_cases Y:t<vs.size
   ·have e:(vs++Array.replicate (fn.ntmps-vs.size) undef).getD t undef=(vs.toList[t-0]?).getD undef:=by
     simp[zC4,zI1,Y]
    rw[e]
    exact h
   ·have:aZ (aI args 0) t= .top:=by
     have key: ∀(l:List AV) (j:Nat),j+l.length≤t→aZ (aI l j) t= .top:=by
      intro l
      induction l with
      |nil=>intro j _;rfl
      |cons x l ih=>
       intro j hj
       simp only[zG2]at hj
       show(if j=t then x else aZ (aI l (j+1)) t)=_
       rw[if_neg zR5]
       exact ih _ zR5
     exact key args 0 zR5
    show aT _ _ _ _ (aZ (aI args 0) t) _
    rw[this]
    exact .top
  ·show aT _ _ _ _ (aZ (aI args 0) t) _
   rw[h]
   exact .top
 have HE:(vs++Array.replicate (fn.ntmps-vs.size) undef).size=fn.ntmps:=by simp;omega
 have fin: ∀{a':Act} {w':World} {σ':St} {ι':Pl},(∃l rl,nD (bM l σ' []).1 rs [] λvs=>ress.length=vs.length∧Wk rl {(bM l σ' []).1 with fr:=aI vs 0} ⟨aI ress 0,mem',nx',nx⟩)→ci w0 U σ' ι' a' w'→ ∃v,(results fn a'.tmps).run P w'= .ok v w'∧
   ∃v' ι',Ending.returned v= .returned v'∧ci w0 U ⟨[],mem',nx',nx⟩ ι' {tmps:= #[],defers:= []} w'∧aT w' (aV w0.heap.size U ι' mem') ι' nx' (kz ress) v':=by
  rintro a' w' σ' ι' ⟨l,rl,HM⟩ O
  obtain⟨HP,_⟩:=uf (l:=l) (args:= []) (us:= []) O .nil rfl
  obtain⟨vs',us',g1,g2,hlen',hwk⟩:=ki HP (us:= []) h6 HM .nil
  have g1:bf (aT w' (aV w0.heap.size U ι' (bM l σ' []).1.mem) ι' (bM l σ' []).1.nx) vs' us':=by simpa using g1
  have hs3:ci w0 U {(bM l σ' []).1 with fr:=aI vs' 0} ι' {tmps:=us'.toArray,defers:= []} w':=by
   refine⟨λt=> ?_,⟨rfl,HP.defers.2⟩,HP.names,HP.box,HP.apart,HP.below,HP.keep,HP.base⟩
   rcases iG (vs:= []) (k:=0) g1 t with h|h
   ·have e:us'.toArray.getD t undef=(us'[t-0]?).getD undef:=by simp[zC4]
    rw[e];exact h
   ·show aT _ _ _ _ (aZ (aI vs' 0) t) _
    rw[h];exact .top
  have HY:=hs3.wk hwk
  have hE:bf (aT w' (aV w0.heap.size U (λn=>ι' (rn rl n)) mem') (λn=>ι' (rn rl n)) nx') ress us':=by
   refine bf.of_get (by rw[hlen',g1.length]) λi x u hx hu=> ?_
   have h:=HY.val i
   have e1:aZ (aI ress 0) i=x:=by
    have:=yE (l:=ress) (k:=0) i
    rw[zJ3]at this
    rw[this,hx];rfl
   have e2:(us'.toArray).getD i undef=u:=by simp[zC4,hu]
   simp only[e1,e2]at h
   exact h
  refine⟨_, ?_,_,λn=>ι' (rn rl n),rfl,⟨λt=> .top,⟨rfl,HY.defers.2⟩,HY.names,HY.box,HY.apart,HY.below,HY.keep,HY.base⟩,yV hE⟩
  rw[jF,zG8]
  simp[g2]
 refine F0 h1 h2 (h (xl Z) c h5 w0 U none [] _ _ w (λ_ e=>by cases e) hs HE) (λi σ' h=>h) ?_
 intro e a' w' σ' ι' hq O
 cases e with
 |normal=>exact fin hq O
 |exit i=>exact hq.elim
 |ret=>exact fin hq O
end
open Go.RowKit
def AWb (P:Program) (nt:Nat) (c:aj) (σ:St) [Q:vJ (bv→St→Prop)]:Prop:=AW P nt c σ Q.out
def gr (P:Program) (nt:Nat):aj→St→(bv→St→Prop)→Prop
 | .skip,σ,Q=>Q .normal σ
 | .region gs false,σ,Q=>kA P gs σ (Q .normal)
 | .region gs true,σ,Q=>AWb P nt (.region gs true) σ (Q:=⟨Q⟩)
 | .draw gss,σ,Q=>EL P gss σ (Q .normal)
 |.seq a b,σ,Q=>gr P nt a σ fun
  | .normal,σ=>gr P nt b σ Q
  | .exit i,σ=>Q (.exit i) σ
  | .ret,σ=>Q .ret σ
 |.cond c a b,σ,Q=>match c.ev σ.fr with
  | .c (.pure (.val (.bool t)))=>kg t (A:=⟨gr P nt a σ Q⟩) (B:=⟨gr P nt b σ Q⟩)
  |_=>False
 |.block id a,σ,Q=>gr P nt a σ fun
  | .normal,σ=>Q .normal σ
  | .exit i,σ=>if i=id then Q .normal σ else Q (.exit i) σ
  | .ret,σ=>Q .ret σ
 | .loop a,σ,Q=>AWb P nt (.loop a) σ (Q:=⟨Q⟩)
 | .rangeF f ps x y,σ,Q=>AWb P nt (.rangeF f ps x y) σ (Q:=⟨Q⟩)
 | .exit i,σ,Q=>Q (.exit i) σ
 | .ret,σ,Q=>Q .ret σ
theorem aa {P:Program} {nt:Nat}: ∀{c:aj} {σ:St} {Q:bv→St→Prop},gr P nt c σ Q→AW P nt c σ Q
 | .skip,σ,Q,h=>abB h
 | .region gs false,σ,Q,h=>WE h
 | .region gs true,σ,Q,h=>h
 | .draw gss,σ,Q,h=>abO h
 |.seq a b,σ,Q,h=>by
  simp only[gr]at h
  refine Cw ((aa (c:=a) h).mono ?_)
  intro e σ h
  cases e with
  |normal=>exact aa (c:=b) h
  |exit i=>exact h
  |ret=>exact h
 |.cond c a b,σ,Q,h=>by
  simp only[gr]at h
  split at h
  ·exact aaX ‹_› (λe=>aa (c:=a) (h.1 e)) (λe=>aa (c:=b) (h.2 e))
  ·exact h.elim
 |.block id a,σ,Q,h=>by
  simp only[gr]at h
  refine Ml ((aa (c:=a) h).mono ?_)
  intro e σ h
  cases e with
  |normal=>exact h
  |exit i=>exact h
  |ret=>exact h
 | .loop a,σ,Q,h=>h
 | .rangeF f ps x y,σ,Q,h=>h
 | .exit i,σ,Q,h=>abx h
 | .ret,σ,Q,h=>acY h
variable {c:aj}
theorem adi (t:Nat) (h:fB (aZ σ.fr t)→AW P nt c σ Q):AW P nt c σ Q:=
 λc' hc w0 U rd ds ι a w hI hs hz=>h (Sl (hs.val t)) c' hc w0 U rd ds ι a w hI hs hz
variable {pargs:List AV}{K:vJ (AV→St→Prop)}{res:AV}
theorem ah (h:ac P f pargs res) (hp:bk σ.mem args=some pargs) (hs:xm res=true∨args.all sO=true) (hk:K.out res σ): @JZ P g z f args σ K:=
 ⟨[],σ,args,.inl rfl,rfl,.inl ⟨pargs,hp,res,.inl ⟨h,hs⟩,hk⟩⟩
theorem dH (h:ac P f pargs res)(hk:K.out res σ)(hp:bk σ.mem args=some pargs:=by exact rfl)(hs:args.all sO=true:=by exact rfl):@JZ P g z f args σ K:=ah h hp (.inr hs) hk
theorem ak (h:ac P f pargs res)(hk:K.out res σ)(hp:bk σ.mem args=some pargs:=by exact rfl)(hs:xm res=true:=by exact rfl):@JZ P g z f args σ K:=ah h hp (.inl hs) hk
theorem bN {mem':List (Nat×bP)} {nx':Nat} (h:bJ P f args σ.mem σ.nx res mem' nx') (hk:K.out res {σ with mem:=mem',nx:=nx'}): @JZ P true z f args σ K:=
 ⟨[],σ,args,.inl rfl,rfl,.inr ⟨rfl,res,mem',nx',h,hk⟩⟩
theorem QK (l:List Nat) (h:AW P nt c (bM l σ []).1 Q):AW P nt c σ Q:=
 λc' hc w0 U rd ds ι a w hI hs hz=>h c' hc w0 U rd ds ι a w hI (uf (l:=l) (args:= []) (us:= []) hs .nil rfl).1 hz
theorem wrap_i64 {x:Int} (h1: -9223372036854775808≤x∧x≤9223372036854775807):IntKind.wrap .i64 x=x:=by
 rw[IntKind.wrap_i64];omega
theorem wrap_u64 {x:Int} (h1:0≤x∧x≤18446744073709551615):IntKind.wrap .u64 x=x:=by
 have:IntKind.wrap .u64 x=x%18446744073709551616:=by simp[IntKind.wrap,IntKind.bits,IntKind.signed]
 rw[this];omega
theorem a6:dO sz []:= λr h=>by cases h
theorem aE {r:List PC} (h:r.length=sz):dO sz [r]:= λx hx=>by
 rw[zG1]at hx;rw[hx];exact h
theorem aD {f:α→List PC} {l:List α} (h: ∀x,(f x).length=sz):dO sz (l.map f):= λr hr=>by
 obtain⟨x,_,rfl⟩:=zE0.1 hr;exact h x
abbrev I (n:Int):AV:= .c (.pure (.val (.int .i64 n)))
abbrev B (b:Bool):AV:= .c (.pure (.val (.bool b)))
abbrev S (s:ByteArray):AV:= .c (.pure (.val (.string s)))
abbrev c6 (xs:List Int):PC:= .slice (xs.map λn=> [.val (.int .i64 n)])
abbrev aF (xs:List Int):AV:= .c (.pure (c6 xs))
section
variable {P : Program} {nt : Nat} {σ : St} {Q : bv → St → Prop} {K : St → Prop}
theorem Wu:gr P nt .skip σ Q=Q .normal σ:=propext ⟨id,id⟩
theorem Sr {gs:List AG}:gr P nt (.region gs false) σ Q=kA P gs σ (Q .normal):=propext ⟨id,id⟩
theorem WF {gs:List AG}:gr P nt (.region gs true) σ Q=AWb P nt (.region gs true) σ (Q:=⟨Q⟩):=propext ⟨id,id⟩
theorem Uq {gss:List (List (Bool×AG))}:gr P nt (.draw gss) σ Q=EL P gss σ (Q .normal):=propext ⟨id,id⟩
variable {a:aj}
theorem Xw {b:aj}:gr P nt (.seq a b) σ Q=gr P nt a σ (λe σ=>match e with
  | .normal=>gr P nt b σ Q
  | .exit i=>Q (.exit i) σ
  | .ret=>Q .ret σ):=by
 simp only[gr]
 congr 1
 funext e σ
 cases e<;>rfl
theorem Wn {c:AX} {b:aj}:gr P nt (.cond c a b) σ Q=match c.ev σ.fr with
  | .c (.pure (.val (.bool t)))=>kg t (A:=⟨gr P nt a σ Q⟩) (B:=⟨gr P nt b σ Q⟩)
  |_=>False:=propext ⟨id,id⟩
theorem Uj {id:Nat}:gr P nt (.block id a) σ Q=gr P nt a σ (λe σ=>match e with
  | .normal=>Q .normal σ
  | .exit i=>if i=id then Q .normal σ else Q (.exit i) σ
  | .ret=>Q .ret σ):=by
 simp only[gr]
 congr 1
 funext e σ
 cases e<;>rfl
theorem Rx {f:AX} {ps:List Nat} {x y:aj}:gr P nt (.rangeF f ps x y) σ Q=AWb P nt (.rangeF f ps x y) σ (Q:=⟨Q⟩):=propext ⟨id,id⟩
theorem We:gr P nt (.loop a) σ Q=AWb P nt (.loop a) σ (Q:=⟨Q⟩):=propext ⟨id,id⟩
theorem Xg {i:Nat}:gr P nt (.exit i) σ Q=Q (.exit i) σ:=propext ⟨id,id⟩
theorem Zr:gr P nt .ret σ Q=Q .ret σ:=propext ⟨id,id⟩
theorem aay:kA P [] σ K=K σ:=propext ⟨id,id⟩
variable {d:Option Nat}{op:fA}
theorem Wd {r:List AG}:kA P (⟨d,none,op⟩::r) σ K=bC P op σ λv σ'=>kA P r (σ'.put d v) K:=propext ⟨id,id⟩
variable {want:Bool}
theorem UA {t:Nat} {r:List AG}:kA P (⟨d,some (t,want),op⟩::r) σ K=match aZ σ.fr t with
  | .c (.pure (.val (.bool b)))=>kg (b==want) (A:=⟨bC P op σ λv σ'=>kA P r (σ'.put d v) K⟩) (B:=⟨kA P r (σ.put d (.tup [])) K⟩)
  | .tup []=>kA P r (σ.put d (.tup [])) K
  |_=>False:=propext ⟨id,id⟩
theorem aan:mw P [] σ K=K σ:=propext ⟨id,id⟩
variable {r:List (Bool×AG)}
theorem Xo:mw P ((false,⟨d,none,op⟩)::r) σ K=bC P op σ λv σ'=>mw P r (σ'.put d v) K:=by
 have e: ∀(p:Prop),(@cr (false=true→p)= λK=>K.out):= λp=>funext λK=>QS (λe=>by cases e)
 simp only[mw,e]
theorem Wy:mw P ((true,⟨d,none,op⟩)::r) σ K=bC P op σ λv σ'=>cr (TM σ.mem σ'.mem) (K:=⟨mw P r (σ'.put d v) K⟩):=by
 simp only[mw,forall_const]
theorem TX {x:Bool} {t:Nat}:mw P ((x,⟨d,some (t,want),op⟩)::r) σ K=match aZ σ.fr t with
  | .c (.pure (.val (.bool b)))=>kg (b==want) (A:=⟨mw P ((x,⟨d,none,op⟩)::r) σ K⟩) (B:=⟨mw P r (σ.put d (.tup [])) K⟩)
  | .tup []=>mw P r (σ.put d (.tup [])) K
  |_=>False:=propext ⟨id,id⟩
variable {gs:List (Bool×AG)}
theorem Xk:EL P [gs] σ K=mw P gs σ K:=propext ⟨id,id⟩
theorem Xb {hs:List (Bool×AG)} {r:List (List (Bool×AG))}:EL P (gs::hs::r) σ K=X0 (A:=⟨mw P gs σ K⟩) (B:=⟨EL P (hs::r) σ K⟩):=propext ⟨id,id⟩
variable {m:List (Nat×bP)}
theorem WJ:TM m m=True:=eq_true (.inl rfl)
theorem WS {n:Nat} {b:bP}:TM m ((n,b)::m)=(ar m n=none):=propext ⟨λh=>by
 rcases h with h|⟨n',b',h1,h2⟩
 ·have:=congrArg List.length h
  simp at this
 ·cases h1
  exact h2,λh=> .inr ⟨n,b,rfl,h⟩⟩
end
section
variable {P : Program} {σ : St} {K : AV → St → Prop}
variable {x:AX}
theorem adu:bC P (.mv x) σ K=(K (x.ev σ.fr) σ):=propext ⟨id,id⟩
theorem YE {c:AX} {a:AX} {b:AX}:bC P (.pick c a b) σ K=(match c.ev σ.fr with
  | .c (.pure (.val (.bool t)))=>kg t (A:=⟨K (a.ev σ.fr) σ⟩) (B:=⟨K (b.ev σ.fr) σ⟩)
  |_=>False):=propext ⟨id,id⟩
theorem aa8:bC P (.box x) σ K=(match (x.ev σ.fr).cells with
  |some xs=>K (.c (.ptr σ.nx 0)) {σ with mem:=(σ.nx,.var xs)::σ.mem,nx:=σ.nx+1}
  |none=>False):=propext ⟨id,id⟩
variable {n:Option Nat}{p:AX}
theorem YF:bC P (.load n p) σ K=(match p.ev σ.fr with
  |.c q=>match bR σ.mem q with
   |some xs=>match n with
    |none=>match xs with
     |x::_=>K (.c x) σ
     | []=>False
    |some n=>cr (n≤xs.length) (K:=⟨K (.agg (xs.take n)) σ⟩)
   |none=>False
  |_=>False):=propext ⟨id,id⟩
variable {v:AX}
theorem WO {n:Nat}:bC P (.store n p v) σ K=(match (v.ev σ.fr).cells,p.ev σ.fr with
  |some ys,.c (.ptr nm off)=>match ar σ.mem nm with
   |some (.var xs)=>cr (ys.length=n∧off+n≤xs.length) (K:=⟨K (.tup []) {σ with mem:=gF σ.mem nm (.var (over xs off ys))}⟩)
   |_=>False
  |some ys,.c (.eptr nm sz row off)=>match ar σ.mem nm with
   |some (.arr e sz' rows)=>cr (sz=sz'∧ys.length=n∧off+n≤sz) (K:=⟨fD (Se ys) (K:=⟨λzs=>fD rows[row]? (K:=⟨λr=>
     K (.tup []) {σ with mem:=gF σ.mem nm (.arr e sz (rows.set row (over r off zs)))}⟩)⟩)⟩)
   |some (.arn e sz' rows)=>cr (sz=sz'∧ys.length=n∧off+n≤sz) (K:=⟨fD rows[row]? (K:=⟨λr=>
     K (.tup []) {σ with mem:=gF σ.mem nm (.arn e sz (rows.set row (over r off ys)))}⟩)⟩)
   |_=>False
  |_,_=>False):=propext ⟨id,id⟩
variable {y:AX}
theorem aaK {op:BinOp}:bC P (.bin op x y) σ K=(match x.ev σ.fr,y.ev σ.fr with
  |.c (.pure (.val a)),.c (.pure (.val b))=>match op with
   | .shl| .shr=>rE op a b λv=>K (.c (.pure (.val v))) σ
   |_=>IA op a b λv=>K (.c (.pure (.val v))) σ
  |_,_=>False):=propext ⟨id,id⟩
theorem abg {neg:Bool}:bC P (.eqb neg x y) σ K=(match x.ev σ.fr,y.ev σ.fr with
  | .c (.pure (.val (.bool a))),.c (.pure (.val (.bool b)))=>K (.c (.pure (.val (.bool ((a==b) !=neg))))) σ
  |_,_=>False):=propext ⟨id,id⟩
theorem aaR {neg:Bool} {l:List ET}:bC P (.eqs neg l x y) σ K=(match x.ev σ.fr,y.ev σ.fr with
  | .agg xs,.agg ys=>cr (PT l xs ys) (K:=⟨K (.c (.pure (.val (.bool (uM (Xs xs ys) !=neg))))) σ⟩)
  |_,_=>False):=propext ⟨id,id⟩
theorem Zt {op:UnOp}:bC P (.un op x) σ K=(match op,x.ev σ.fr with
  | .not,.c (.pure (.val (.bool b)))=>K (.c (.pure (.val (.bool (!b))))) σ
  | .neg,.c (.pure (.val (.int k n)))=>K (.c (.pure (.val (.int k (k.wrap (0-n)))))) σ
  | .xor,.c (.pure (.val (.int k n)))=>K (.c (.pure (.val (.int k (k.wrap (BitVec.ofInt k.bits (if k.signed then-1 else k.max)^^^BitVec.ofInt k.bits n).toNat))))) σ
  |_,_=>False):=propext ⟨id,id⟩
theorem Z5 {k:IntKind}:bC P (.conv k x) σ K=(match x.ev σ.fr with
  | .c (.pure (.val (.int _ n)))=>K (.c (.pure (.val (.int k (k.wrap n))))) σ
  |_=>False):=propext ⟨id,id⟩
variable {off:Nat}
theorem UR:bC P (.fieldA off p) σ K=(match p.ev σ.fr with
  | .c (.ptr nm o)=>K (.c (.ptr nm (o+off))) σ
  | .c (.cptr cells)=>K (.c (.cptr (cells.drop off))) σ
  | .c (.eptr nm sz row o)=>K (.c (.eptr nm sz row (o+off))) σ
  |_=>False):=propext ⟨id,id⟩
theorem WI:bC P (.field off n x) σ K=(match x.ev σ.fr with
  |.agg xs=>match n with
   |none=>match xs.drop off with
    |x::_=>K (.c x) σ
    | []=>False
   |some n=>cr (off+n≤xs.length) (K:=⟨K (.agg ((xs.drop off).take n)) σ⟩)
  |_=>False):=propext ⟨id,id⟩
variable {sz:Nat}{i:AX}
theorem Y4:bC P (.idxA sz x i) σ K=(match x.ev σ.fr,i.ev σ.fr with
  | .c (.pure (.slice rows)),.c (.pure (.val (.int _ i)))| .c (.tsl rows),.c (.pure (.val (.int _ i)))=>cr (0≤i) (K:=⟨fD rows[i.toNat]? (K:=⟨λr=>cr (r.length=sz∧0<sz) (K:=⟨K (.c (.cptr r)) σ⟩)⟩)⟩)
  |.c (.ref nm),.c (.pure (.val (.int _ i)))=>match ar σ.mem nm with
   |some (.arr _ sz' rows)=>cr (sz'=sz∧0<sz∧0≤i∧i<rows.length) (K:=⟨K (.c (.eptr nm sz i.toNat 0)) σ⟩)
   |some (.arn _ sz' rows)=>cr (sz'=sz∧0<sz∧0≤i∧i<rows.length) (K:=⟨K (.c (.eptr nm sz i.toNat 0)) σ⟩)
   |_=>False
  |_,_=>False):=propext ⟨id,id⟩
theorem X8 {len:Nat}:bC P (.idxR len sz x i) σ K=(match x.ev σ.fr,i.ev σ.fr with
  | .c (.ptr nm o),.c (.pure (.val (.int _ i)))=>cr (0≤i∧i<len) (K:=⟨K (.c (.ptr nm (o+i.toNat*sz))) σ⟩)
  | .c (.cptr cells),.c (.pure (.val (.int _ i)))=>cr (0≤i∧i<len) (K:=⟨K (.c (.cptr (cells.drop (i.toNat*sz)))) σ⟩)
  |_,_=>False):=propext ⟨id,id⟩
theorem Yj:bC P (.nilc x) σ K=(match x.ev σ.fr with
  | .c (.ptr nm o)=>K (.c (.ptr nm o)) σ
  | .c (.cptr cells)=>K (.c (.cptr cells)) σ
  | .c (.eptr nm sz row o)=>K (.c (.eptr nm sz row o)) σ
  | .c (.clo f caps)=>K (.c (.clo f caps)) σ
  |_=>False):=propext ⟨id,id⟩
theorem ZM:bC P (.idxS x i) σ K=(match x.ev σ.fr,i.ev σ.fr with
  | .c (.pure (.val (.string s))),.c (.pure (.val (.int _ i)))=>cr (0≤i) (K:=⟨fD s[i.toNat]? (K:=⟨λb=>K (.c (.pure (.val (.int .u8 b.toNat)))) σ⟩)⟩)
  |_,_=>False):=propext ⟨id,id⟩
variable {zero:List AC}
theorem Wj {parts:List (Nat×Nat×AX)}:bC P (.build zero parts) σ K=(bC.buildW σ parts zero λxs=>K (.agg xs) σ):=propext ⟨id,id⟩
variable {rows:List AX}
theorem Uc:bC P (.bslice sz rows) σ K=(bC.bsliceW σ sz rows [] λrs=>K (.c (.tsl rs)) σ):=propext ⟨id,id⟩
variable {bytes:Nat}
theorem Rp {e:Nat} {zero:List PC} {l:AX}:bC P (.mkslice e sz bytes zero l) σ K=(match l.ev σ.fr with
  | .c (.pure (.val (.int .i64 n)))=>cr (0≤n∧n≤281474976710656∧bytes*n≤281474976710656) (K:=⟨
    K (.c (.ref σ.nx)) {σ with mem:=(σ.nx,.arr e sz (List.replicate n.toNat zero))::σ.mem,nx:=σ.nx+1}⟩)
  |_=>False):=propext ⟨id,id⟩
variable {lo hi:Option AX}
theorem abA {mx:Option AX}:bC P (.slc sz x lo hi mx) σ K=(match x.ev σ.fr with
  | .c (.ref _)=>False
  |v=>fD (gd σ.mem v) (K:=⟨λrows=>fD (bC.boundOf σ lo) (K:=⟨λlo=>fD (bC.boundOf σ hi) (K:=⟨λhi=>fD (bC.boundOf σ mx) (K:=⟨λmx=>
   cr (dO sz rows∧0≤lo.getD 0∧lo.getD 0≤hi.getD rows.length∧hi.getD rows.length≤mx.getD rows.length∧mx.getD rows.length≤rows.length) (K:=⟨
   K (.c (if mx.isSome=true∧mx=hi then .tsl ((rows.take (hi.getD rows.length).toNat).drop (lo.getD 0).toNat)else .pure (.slice ((rows.take (hi.getD rows.length).toNat).drop (lo.getD 0).toNat)))) σ⟩)⟩)⟩)⟩)⟩)):=propext ⟨id,id⟩
theorem ZK:bC P (.slcS x lo hi) σ K=(match x.ev σ.fr,bC.boundOf σ lo,bC.boundOf σ hi with
  |.c (.pure (.val (.string s))),some lo,some hi=>cr (0≤lo.getD 0∧lo.getD 0≤hi.getD s.size∧hi.getD s.size≤s.size) (K:=⟨
   K (.c (.pure (.val (.string (s.extract (lo.getD 0).toNat (hi.getD s.size).toNat))))) σ⟩)
  |_,_,_=>False):=propext ⟨id,id⟩
theorem abS {i:Nat}:bC P (.ext x i) σ K=(match x.ev σ.fr with
  | .tup vs=>fD vs[i]? (K:=⟨λv=>K v σ⟩)
  |_=>False):=propext ⟨id,id⟩
theorem abC:bC P (.len x) σ K=(match x.ev σ.fr with
  | .c (.pure (.slice rows))| .c (.tsl rows)=>K (.c (.pure (.val (.int .i64 rows.length)))) σ
  | .c .nils=>K (.c (.pure (.val (.int .i64 0)))) σ
  |.c (.ref nm)=>match ar σ.mem nm with
   |some (.arr _ _ rows)=>K (.c (.pure (.val (.int .i64 rows.length)))) σ
   |some (.arn _ _ rows)=>K (.c (.pure (.val (.int .i64 rows.length)))) σ
   |_=>False
  |_=>False):=propext ⟨id,id⟩
theorem aai:bC P (.lenS x) σ K=(match x.ev σ.fr with
  | .c (.pure (.val (.string s)))=>K (.c (.pure (.val (.int .i64 s.size)))) σ
  |_=>False):=propext ⟨id,id⟩
theorem adq {mx:Bool}:bC P (.mm mx x y) σ K=(match x.ev σ.fr,y.ev σ.fr with
  | .c (.pure (.val (.int k a))),.c (.pure (.val (.int _ b)))=>K (.c (.pure (.val (.int k (if mx=true then max a b else min a b))))) σ
  |_,_=>False):=propext ⟨id,id⟩
theorem abs {z t:AX}:bC P (.mm4 x y z t) σ K=(match x.ev σ.fr,y.ev σ.fr,z.ev σ.fr,t.ev σ.fr with
  | .c (.pure (.val (.int k a))),.c (.pure (.val (.int _ b))),.c (.pure (.val (.int _ c))),.c (.pure (.val (.int _ d)))=>K (.c (.pure (.val (.int k (max (max (max a b) c) d))))) σ
  |_,_,_,_=>False):=propext ⟨id,id⟩
theorem XE:bC P .dead σ K=False:=propext ⟨id,id⟩
theorem Zn {neg:Bool}:bC P (.fnil neg x) σ K=(match x.ev σ.fr with
  | .c (.clo _ _)=>K (.c (.pure (.val (.bool neg)))) σ
  | .c (.pure (.val .nilFunc))=>K (.c (.pure (.val (.bool (!neg))))) σ
  |_=>False):=propext ⟨id,id⟩
theorem Zd {neg:Bool}:bC P (.snil neg x) σ K=(match x.ev σ.fr with
  | .c .nils=>K (.c (.pure (.val (.bool (!neg))))) σ
  | .c (.pure (.slice rows))| .c (.tsl rows)=>Q5 rows (A:=⟨K (.c (.pure (.val (.bool (!neg))))) σ⟩) (B:=⟨K (.c (.pure (.val (.bool neg)))) σ⟩)
  |.c (.ref nm)=>match ar σ.mem nm with
   |some (.arr _ _ rows)=>Q5 rows (A:=⟨K (.c (.pure (.val (.bool (!neg))))) σ⟩) (B:=⟨K (.c (.pure (.val (.bool neg)))) σ⟩)
   |_=>False
  |_=>False):=propext ⟨id,id⟩
theorem aa3 {e:Nat}:bC P (.app e sz bytes x y) σ K=(fD (gd σ.mem (y.ev σ.fr)) (K:=⟨λys=>Nn e sz bytes (x.ev σ.fr) (y.ev σ.fr) ys σ (K:=⟨K⟩)⟩)):=propext ⟨id,id⟩
theorem Yk {f:FuncId} {caps:List AX}:bC P (.mkfn f caps) σ K=(bC.mkfnW σ caps [] λxs=>K (.c (.clo f xs)) σ):=propext ⟨id,id⟩
theorem aaw {g z:Bool} {f:AX} {args:List AX}:bC P (.call g z f args) σ K=(match f.ev σ.fr with
  | .c (.clo f caps)=>JZ P g z f (args.map (·.ev σ.fr)++caps.map .c) σ (K:=⟨K⟩)
  |_=>False):=propext ⟨id,id⟩
theorem RI:bC P (.bsliceF sz rows) σ K=(bC.bsliceFW σ sz rows σ.mem [] λrs mem=>K (.c (.tsl rs)) {σ with mem:=mem}):=propext ⟨id,id⟩
variable {kt:KT}
theorem WN:bC P (.mkmap kt n) σ K=(K (.c (.mref σ.nx)) {σ with mem:=(σ.nx,.map kt n [])::σ.mem,nx:=σ.nx+1}):=propext ⟨id,id⟩
variable {k m:AX}
theorem YM {ok:Bool}:bC P (.mget kt n zero ok m k) σ K=(match k.ev σ.fr with
  |.c (.pure (.val kv))=>fD (N5 kt kv) (K:=⟨λmk=>match m.ev σ.fr with
   |.c (.mref nm)=>match ar σ.mem nm with
    |some (.map kt' n' ents)=>cr (kt'=kt∧n'=n) (K:=⟨wU (iv ents mk) (A:=⟨λps=>K (if ok=true then .tup [iE n ps,.c (.pure (.val (.bool true)))]else iE n ps) σ⟩)
     (B:=⟨K (if ok=true then .tup [iE n zero,.c (.pure (.val (.bool false)))]else iE n zero) σ⟩)⟩)
    |_=>False
   | .c (.pure (.fmap kt' n' es))=>cr (kt'=kt∧n'=n) (K:=⟨wU (iv (qI es) mk) (A:=⟨λps=>K (if ok=true then .tup [iE n ps,.c (.pure (.val (.bool true)))]else iE n ps) σ⟩)
     (B:=⟨K (if ok=true then .tup [iE n zero,.c (.pure (.val (.bool false)))]else iE n zero) σ⟩)⟩)
   |_=>False⟩)
  |_=>False):=propext ⟨id,id⟩
theorem XC:bC P (.mput kt n m k v) σ K=(match k.ev σ.fr with
  |.c (.pure (.val kv))=>fD (N5 kt kv) (K:=⟨λmk=>match m.ev σ.fr with
   |.c (.mref nm)=>fD (B9 n (v.ev σ.fr)) (K:=⟨λys=>match ar σ.mem nm with
    |some (.map kt' n' ents)=>cr (kt'=kt∧n'=n) (K:=⟨K (.tup []) {σ with mem:=gF σ.mem nm (.map kt n (DS ents mk ys))}⟩)
    |_=>False⟩)
   |_=>False⟩)
  |_=>False):=propext ⟨id,id⟩
theorem Xy:bC P (.ment kt n zero m k) σ K=(match k.ev σ.fr with
  |.c (.pure (.val kv))=>fD (N5 kt kv) (K:=⟨λmk=>match m.ev σ.fr with
   |.c (.mref nm)=>match ar σ.mem nm with
    |some (.map kt' n' ents)=>cr (kt'=kt∧n'=n) (K:=⟨wU (iv ents mk) (A:=⟨λps=>K (.tup [iE n ps,.c (.pure (.val (.int .i64 (WX ents mk))))]) σ⟩)
     (B:=⟨K (.tup [iE n zero,.c (.pure (.val (.int .i64 ents.length)))]) {σ with mem:=gF σ.mem nm (.map kt n (ents++ [(mk,zero)]))}⟩)⟩)
    |_=>False
   |_=>False⟩)
  |_=>False):=propext ⟨id,id⟩
theorem Zs {s:AX}:bC P (.eput kt n m s v) σ K=(match s.ev σ.fr with
  |.c (.pure (.val (.int _ i)))=>match m.ev σ.fr with
   |.c (.mref nm)=>fD (B9 n (v.ev σ.fr)) (K:=⟨λys=>match ar σ.mem nm with
    |some (.map kt' n' ents)=>cr (kt'=kt∧n'=n∧0≤i∧i<ents.length) (K:=⟨K (.tup []) {σ with mem:=gF σ.mem nm (.map kt n (Yx ents i.toNat ys))}⟩)
    |_=>False⟩)
   |_=>False
  |_=>False):=propext ⟨id,id⟩
end
section
variable {P : Program} {σ : St}
variable {sz:Nat}{acc:List (List PC)}
theorem Ru {K:List (List PC)→Prop}:bC.bsliceW σ sz [] acc K=K acc:=propext ⟨id,id⟩
variable {x:AX}{r:List AX}
theorem P0 {K:List (List PC)→Prop}:bC.bsliceW σ sz (x::r) acc K=(match (x.ev σ.fr).cells with
   |some ys=>fD (Se ys) (K:=⟨λzs=>cr (ys.length=sz) (K:=⟨bC.bsliceW σ sz r (acc++ [zs]) K⟩)⟩)
   |none=>False):=propext ⟨id,id⟩
variable {K:List (List PC)→List (Nat×bP)→Prop}{mem:List (Nat×bP)}
theorem P1:bC.bsliceFW σ sz [] mem acc K=K acc mem:=propext ⟨id,id⟩
theorem NW:bC.bsliceFW σ sz (x::r) mem acc K=(match (x.ev σ.fr).cells with
   |some ys=>fD (OR mem ys) (K:=⟨λz=>cr (ys.length=sz) (K:=⟨bC.bsliceFW σ sz r z.2 (acc++ [z.1]) K⟩)⟩)
   |none=>False):=propext ⟨id,id⟩
theorem TV {acc:List AC} {K:List AC→Prop}:bC.buildW σ [] acc K=K acc:=propext ⟨id,id⟩
theorem Tc {off n:Nat} {r:List (Nat×Nat×AX)} {acc:List AC} {K:List AC→Prop}:bC.buildW σ ((off,n,x)::r) acc K=(match (x.ev σ.fr).cells with
   |some ys=>cr (ys.length=n∧off+n≤acc.length) (K:=⟨bC.buildW σ r (over acc off ys) K⟩)
   |none=>False):=propext ⟨id,id⟩
theorem WZ {acc:List AC} {K:List AC→Prop}:bC.mkfnW σ [] acc K=K acc:=propext ⟨id,id⟩
theorem T6 {acc:List AC} {K:List AC→Prop}:bC.mkfnW σ (x::r) acc K=(match x.ev σ.fr with
   | .c y=>bC.mkfnW σ r (acc++ [y]) K
   |_=>False):=propext ⟨id,id⟩
end
def acM (n:Nat) (a b:Int):Int:=(BitVec.ofInt n a&&&BitVec.ofInt n b).toNat
def orI (n:Nat) (a b:Int):Int:=(BitVec.ofInt n a|||BitVec.ofInt n b).toNat
def afd (n:Nat) (a b:Int):Int:=(BitVec.ofInt n a^^^BitVec.ofInt n b).toNat
def aef (n:Nat) (a b:Int):Int:=(BitVec.ofInt n a&&& ~~~BitVec.ofInt n b).toNat
section
variable {k : IntKind} {a b : Int} {s u : ByteArray} {K : Value → Prop}
theorem Yq:qP .add k a b K=K (.int k (k.wrap (a+b))):=propext ⟨id,id⟩
theorem XW:qP .sub k a b K=K (.int k (k.wrap (a-b))):=propext ⟨id,id⟩
theorem Zl:qP .mul k a b K=K (.int k (k.wrap (a*b))):=propext ⟨id,id⟩
theorem Ya:qP .quo k a b K=cr (b≠0) (K:=⟨K (.int k (k.wrap (a.tdiv b)))⟩):=propext ⟨id,id⟩
theorem ZD:qP .rem k a b K=cr (b≠0) (K:=⟨K (.int k (a.tmod b))⟩):=propext ⟨id,id⟩
theorem Xz:qP .and k a b K=K (.int k (k.wrap (acM k.bits a b))):=propext ⟨id,id⟩
theorem abP:qP .or k a b K=K (.int k (k.wrap (orI k.bits a b))):=propext ⟨id,id⟩
theorem Yf:qP .xor k a b K=K (.int k (k.wrap (afd k.bits a b))):=propext ⟨id,id⟩
theorem Rz:qP .andNot k a b K=K (.int k (k.wrap (aef k.bits a b))):=propext ⟨id,id⟩
theorem Zp:qP .eql k a b K=K (.bool (a==b)):=propext ⟨id,id⟩
theorem aas:qP .neq k a b K=K (.bool (a !=b)):=propext ⟨id,id⟩
theorem XY:qP .lss k a b K=K (.bool (decide (a<b))):=propext ⟨id,id⟩
theorem Zg:qP .leq k a b K=K (.bool (decide (a≤b))):=propext ⟨id,id⟩
theorem YK:qP .gtr k a b K=K (.bool (decide (a>b))):=propext ⟨id,id⟩
theorem XR:qP .geq k a b K=K (.bool (decide (a≥b))):=propext ⟨id,id⟩
theorem XM:Ck .add s u K=cr (s.size+u.size≤9223372036854775807) (K:=⟨K (.string (s++u))⟩):=propext ⟨id,id⟩
theorem Zy:Ck .eql s u K=K (.bool (s.toList==u.toList)):=propext ⟨id,id⟩
theorem aaj:Ck .neq s u K=K (.bool (!(s.toList==u.toList))):=propext ⟨id,id⟩
theorem aat:Ck .lss s u K=K (.bool (Op.bytesLess s.toList u.toList)):=propext ⟨id,id⟩
theorem XF:Ck .leq s u K=K (.bool (Op.bytesLess s.toList u.toList||s.toList==u.toList)):=propext ⟨id,id⟩
theorem Y9:Ck .gtr s u K=K (.bool (!(Op.bytesLess s.toList u.toList||s.toList==u.toList))):=propext ⟨id,id⟩
theorem Zf:Ck .geq s u K=K (.bool (!(Op.bytesLess s.toList u.toList))):=propext ⟨id,id⟩
variable {op:BinOp}{k':IntKind}
theorem ai:IA op (.int k a) (.int k' b) K=cr (k=k') (K:=⟨qP op k a b K⟩):=propext ⟨id,id⟩
theorem Zc:IA op (.string s) (.string u) K=Ck op s u K:=propext ⟨id,id⟩
theorem Uu:zn .shl k a b K=K (.int k (k.wrap (a*2^(min b.toNat k.bits)))):=propext ⟨id,id⟩
theorem TN:zn .shr k a b K=K (.int k (a.fdiv (2^(min b.toNat k.bits)))):=propext ⟨id,id⟩
theorem TH:rE op (.int k a) (.int k' b) K=cr (0≤b) (K:=⟨zn op k a b K⟩):=propext ⟨id,id⟩
end
section
variable {σ : St} {K : List AV → Prop} {L : AV → Prop}
variable {acc:List AV}
theorem XI:nD σ [] acc K=K acc:=propext ⟨id,id⟩
theorem WP {r:AR} {rs:List AR}:nD σ (r::rs) acc K=JT σ r λv=>nD σ rs (acc++ [v]) K:=propext ⟨id,id⟩
theorem ZG {n:Nat}:JT σ (.t n) L=L (aZ σ.fr n):=propext ⟨id,id⟩
theorem Sj {n:Option Nat} {a:Nat}:JT σ (.cell n a) L=(match aZ σ.fr a with
  |.c q=>match bR σ.mem q with
   |some xs=>OE n xs L
   |none=>False
  |_=>False):=propext ⟨id,id⟩
variable {xs:List AC}
theorem WK {x:AC}:OE none (x::xs) L=L (.c x):=propext ⟨id,id⟩
theorem WQ {n:Nat}:OE (some n) xs L=cr (n≤xs.length) (K:=⟨L (.agg (xs.take n))⟩):=propext ⟨id,id⟩
end
theorem Y1:σ.put none v=σ:=rfl
theorem Yi {d:Nat}:σ.put (some d) v={σ with fr:=(d,v)::σ.fr}:=rfl
theorem av {m:Nat} {r:List (Nat×AV)}:aZ ((m,v)::r) n=if m=n then v else aZ r n:=by rw[aZ]
theorem J9 {mem:List (Nat×bP)}: ∀{l:List PC},xu mem (l.map .pure)=some l
 | []=>rfl
 |p::l=>by simp only[zB8,xu,co,J9 (l:=l)]
theorem Ps {α:Type} {mem:List (Nat×bP)} {k:α→MK} {p:α→PC}: ∀{l:List α},lB mem none (l.map λx=>(k x, [.pure (p x)]))=some (l.map λx=>(k x, [p x]))
 | []=>rfl
 |x::l=>by simp only[zB8,lB,pZ,co,Ps (l:=l)]
theorem ON {α:Type} {mem:List (Nat×bP)} {k:α→MK} {ps:α→List PC} {m:Nat}: ∀{l:List α},lB mem (some m) (l.map λx=>(k x,(ps x).map .pure))=some (l.map λx=>(k x,ps x))
 | []=>rfl
 |x::l=>by simp only[zB8,lB,pZ,J9,ON (l:=l)]
attribute [go_sem ↓] Ps ON
attribute [go_sem ↓] Wu Sr WF Uq aan Xo Wy TX Xk Xb WJ WS Xw Wn Uj We Rx Xg Zr aay Wd UA av
attribute [go_sem ↓] adu YE aa8 YF WO aaK abg aaR Zt Z5 UR WI Y4 X8 Yj ZM Wj Uc Rp abA ZK abS abC aai adq abs XE Zn Zd Wx aa3 Yk aaw RI WN YM XC Xy Zs AX.ev W8 WT Uk R3 TY Ug Y1 Yi
attribute [go_sem ↓] Yq XW Zl Ya ZD Xz abP Yf Rz Zp aas XY Zg YK XR XM Zy aaj aat XF Y9 Zf Uu TN
attribute [go_sem] ai Zc TH Ru P0 P1 NW TV Tc WZ T6
attribute [go_sem] PT Xs bM St.frz BZ Mh Om L5 HJ bR ar gF M9 AV.cells over bk cK DG c8 cQ GI dh bz co xu pZ lB Se pcA OR aa4 gd bC.boundOf aI B9 iE N5 MK.val
attribute [go_sem ↓] adP adL Wi XI WP ZG Sj WK WQ
attribute [go_sem] kz SV acl UG acq
open Go.RowKit Go.WideShapes
inductive TS where
 |int (k:IntKind)
 |bool
 |str
 |slice (l:List TS)
inductive Ik:TS→PC→Prop
 |int {k:IntKind} {n:Int} (h:(Lit.int k n).wf=true):Ik (.int k) (.val (.int k n))
 |bool {b:Bool}:Ik .bool (.val (.bool b))
 |str {s:ByteArray} (h:s.size≤maxLen):Ik .str (.val (.string s))
 |slice {l:List TS} {rows:List (List PC)} (hm:rows.length≤maxLen) (hl: ∀r∈rows,r.length=l.length) (h: ∀(r:List PC),r∈rows→ ∀(i:Nat) s p,l[i]? =some s→r[i]? =some p→Ik s p):Ik (.slice l) (.slice rows)
def FL (l:List TS) (ps:List PC):Prop:=ps.length=l.length∧ ∀(i:Nat) s p,l[i]? =some s→ps[i]? =some p→Ik s p
theorem FL.append {l l':List TS} {ps ps':List PC} (h:FL l ps) (h':FL l' ps'):FL (l++l') (ps++ps'):=by
 refine⟨by simp[h.1,h'.1],λi s p hs hp=> ?_⟩
 by_cases hi:i<l.length
 ·rw[zD8 hi]at hs
  rw[zD8 (by rw[h.1];exact hi)]at hp
  exact h.2 i s p hs hp
 ·rw[zD9 zR5]at hs
  rw[zD9 (by rw[h.1];omega),h.1]at hp
  exact h'.2 _ s p hs hp
theorem FL.one {s:TS} {p:PC} (h:Ik s p):FL [s] [p]:=by
 refine⟨rfl,λi s' p' hs hp=> ?_⟩
 cases i with
 |zero=>simp at hs hp;subst hs;subst hp;exact h
 |succ i=>simp at hs
def XV (P:Program) (f:TypeId→Option (List TS)):List Field→Nat→Nat→Option (List TS)
 | [],k,m=>if k=m then some []else none
 |fd::r,k,m=>if fd.offset=k then match f fd.type with
  |some l=>if l.length=P.cellsOf fd.type then match XV P f r (k+l.length) m with
   |some l'=>some (l++l')
   |none=>none else none
  |none=>none else none
def Uv (P:Program):Nat→TypeId→Option (List TS)
 |0,_=>none
 |n+1,t=>match P.underlying t with
  |some (.int k)=>some [.int k]
  |some .bool=>some [.bool]
  |some .string=>some [.str]
  |some (.slice e)=>match Uv P n e with
   |some l=>if l.length=P.cellsOf e then some [.slice l]else none
   |none=>none
  |some (.struct fs)=>XV P (Uv P n) fs.toList 0 (P.cellsOf t)
  |_=>none
theorem PK {X:Type} {Q:Nat→X→Prop}: ∀{n:Nat},(∀i,i<n→ ∃x,Q i x)→ ∃l:List X,l.length=n∧ ∀(i:Nat) x,l[i]? =some x→Q i x
 |0,_=>⟨[],rfl,λi x h=>by simp at h⟩
 |n+1,h=>by
  obtain⟨l,h1,h2⟩:=PK (n:=n) λi hi=>h i zR5
  obtain⟨x,hx⟩:=h n zR5
  refine⟨l++ [x],by simp[h1],λi y hy=> ?_⟩
  by_cases hi:i<l.length
  ·rw[zD8 hi]at hy
   exact h2 i y hy
  ·rw[zD9 zR5]at hy
   have:i=n:=by
    have:=(zB7.1 hy).1
    simp at this
    omega
   subst this
   simp[h1]at hy
   subst hy
   exact hx
section
variable {H : Type} {enc : TypeId × Value → H} {P : Program} {W : World} {base : Nat} {sp : Nat → Bool} {H1 : Bool}
abbrev OC:Nat→Prop:= λ_=>True
theorem ML {f:TypeId→Option (List TS)} {n:Nat} {cs:List Value} (ih: ∀t l cs x,f t=some l→DataW.trod enc P W base sp H1 n t cs=some x→ ∃ps,bf (d6 W OC) ps cs∧FL l ps):
  ∀{fs:List Field} {k m:Nat} {l:List TS},XV P f fs k m=some l→cs.length=m→(∀fd∈fs,∃x,DataW.trod enc P W base sp H1 n fd.type ((cs.drop fd.offset).take (P.cellsOf fd.type))=some x)→
   ∃ps,bf (d6 W OC) ps (cs.drop k)∧FL l ps
 |[],k,m,l,h,hm,_=>by
  unfold XV at h
  split at h
  ·cases h
   refine⟨[], ?_,rfl,λi s p hs=>by simp at hs⟩
   rw[zD6 zR5]
   exact .nil
  ·cases h
 |fd::fs,k,m,l,h,hm,hx=>by
  unfold XV at h
  split at h
  ·rename_i e
   split at h
   ·rename_i l1 h1
    split at h
    ·rename_i hc
     split at h
     ·rename_i l2 h2
      cases h
      obtain⟨x,hx1⟩:=hx fd zC5
      obtain⟨p1,g1,g2⟩:=ih _ _ _ _ h1 hx1
      obtain⟨p2,g3,g4⟩:=ML ih h2 hm λfd h=>hx fd (zC3 _ h)
      refine⟨p1++p2, ?_,g2.append g4⟩
      have:cs.drop k=(cs.drop k).take (P.cellsOf fd.type)++cs.drop (k+l1.length):=by
       rw[hc,←zK0,zF1]
      rw[this]
      subst e
      exact g1.append g3
     ·cases h
    ·cases h
   ·cases h
  ·cases h
theorem Dw: ∀{fuel sf:Nat} {t:TypeId} {l:List TS} {cs:List Value} {x:DataW H×List MemPlace},Uv P sf t=some l→DataW.trod enc P W base sp H1 fuel t cs=some x→ ∃ps,bf (d6 W OC) ps cs∧FL l ps
 |fuel,0,t,l,cs,x,h,_=>by cases h
 |fuel,sf+1,t,l,cs,x,h,hr=>by
  unfold Uv at h
  split at h
  ·rename_i k ht
   cases h
   obtain⟨n,rfl,_,hw⟩:=DataW.trod_int ht hr
   exact⟨[.val (.int k n)],.cons (.val rfl) .nil,.one (.int hw)⟩
  ·rename_i ht
   cases h
   obtain⟨b,rfl,_⟩:=DataW.trod_bool ht hr
   exact⟨[.val (.bool b)],.cons (.val rfl) .nil,.one .bool⟩
  ·rename_i ht
   cases h
   obtain⟨s,rfl,_,hm⟩:=DataW.trod_string ht hr
   exact⟨[.val (.string s)],.cons (.val rfl) .nil,.one (.str hm)⟩
  ·rename_i e ht
   split at h
   ·rename_i l' hl'
    split at h
    ·rename_i hc
     cases h
     rcases DataW.trod_slice ht hr with⟨rfl,_⟩|⟨a,len,cap,elems,rest,n,_,rfl,_,_,hle,hmx,HL,hel,_,_⟩
     ·exact⟨[.slice []],.cons (.slice (sz:=0) (λ_ _=>undef) rfl (zB2 _) zR6 (λi row h=>by simp at h) (λi row j p h=>by simp at h) (λi row j p h=>by simp at h)) .nil,.one (.slice zR6 (λr h=>by cases h) (λr h=>by cases h))⟩
     ·have hE: ∀i,i<len→ ∃x:List PC×List Value,W.cells? base (a.add (i*P.cellsOf e)) (P.cellsOf e)=some x.2∧bf (d6 W OC) x.1 x.2∧FL l' x.1:=by
       intro i hi
       have h1:=hel i hi
       rw[zA7 zR5]at h1
       obtain⟨cs',h2,h3⟩:=zI5.1 h1
       obtain⟨ps,h4,h5⟩:=Dw hl' h3
       exact⟨(ps,cs'),h2,h4,h5⟩
      obtain⟨L,hL,hQ⟩:=PK hE
      have row: ∀(i:Nat) r,(L.map Prod.fst)[i]? =some r→ ∃c,L[i]? =some (r,c)∧W.cells? base (a.add (i*P.cellsOf e)) (P.cellsOf e)=some c∧bf (d6 W OC) r c∧FL l' r:=by
       intro i r hr
       rw[zC7]at hr
       obtain⟨y,hy,rfl⟩:=zC1.1 hr
       exact⟨y.2,hy,hQ i y hy⟩
      unfold maxLen at hmx
      refine⟨[.slice (L.map Prod.fst)],.cons (.slice (sz:=P.cellsOf e) (λi j=>(((L[i]?).map Prod.snd).getD []).getD j undef) (by simp[hL]) hle zR5 ?_ ?_ ?_) .nil,.one (.slice (by unfold maxLen;simp[hL];omega) ?_ ?_)⟩
      ·intro i r hr
       obtain⟨c,_,_,_,h5⟩:=row i r hr
       rw[h5.1,hc]
      ·intro i r j p hr hp
       obtain⟨c,h1,h2,h3,h5⟩:=row i r hr
       obtain⟨v,hv,_⟩:=h3.get hp
       obtain⟨_,h6,h7⟩:=World.cells?_some h2
       have hj:j<P.cellsOf e:=by
        have:=(zB7.1 hv).1
        omega
       have h8:=h7 j hj
       rw[hv]at h8
       obtain⟨b,off,spot⟩:=a
       have hspot:spot=none:=by
        have hi0:0<L.length:=by
         have:=(zB7.1 h1).1
         omega
        obtain⟨g1,_,_⟩:=hQ 0 L[0] (zA7 hi0)
        obtain⟨_,g2,g3⟩:=World.cells?_some g1
        have g4:=g3 0 zR5
        rw[zA7 zR5]at g4
        simpa[Addr.add]using World.cell?_spot g4
       subst hspot
       rw[add_plain,add_plain]at h8
       refine⟨b,off,rfl,trivial, ?_⟩
       rw[←zN1,h8]
       simp[h1,hv]
      ·intro i r j p hr hp
       obtain⟨c,h1,h2,h3,h5⟩:=row i r hr
       obtain⟨v,hv,hrep⟩:=h3.get hp
       simpa[h1,hv]using hrep
      ·intro r hr
       obtain⟨i,hi⟩:=zI0.1 hr
       obtain⟨c,_,_,_,h5⟩:=row i r hi
       exact h5.1
      ·intro r hr
       obtain⟨i,hi⟩:=zI0.1 hr
       obtain⟨c,_,_,_,h5⟩:=row i r hi
       exact h5.2
    ·cases h
   ·cases h
  ·rename_i fs ht
   obtain⟨xs,n,_,_,hl,HL,hf⟩:=DataW.trod_struct ht hr
   have:=ML (n:=n) (λt l cs x h hx=>Dw (sf:=sf) h hx) h hl λfd hfd=>by
    obtain⟨i,hi⟩:=zI0.1 hfd
    have h1:=hf i fd zS7
    have hi':i<xs.length:=by
     have:=(zB7.1 hi).1
     simp at this
     omega
    exact⟨xs[i],by rw[h1,zA7 hi']⟩
   simpa using this
  ·cases h
def KD (P:Program) (t:TypeId):Bool:=match P.underlying t with
 |some (.struct _)=>true
 |_=>false
def ac2 (row:Bool) (ps:List PC):AV:=if row then .agg (ps.map .pure)else match ps with
 |p::_=> .c (.pure p)
 | []=> .top
theorem aaS {r:Reach} {b0:Nat} {t:TypeId} {v:Value} {d:DataW H} {p:List MemPlace} {sf:Nat} {l:List TS} (hs:Uv P sf t=some l) (hA:Value.okWide P W r b0 t v) (h:DataW.Trod enc P W base sp H1 t v d p):
  ∃ps,FL l ps∧aT W OC (λ_=>undef) 0 (ac2 (KD P t) ps) v:=by
 obtain⟨fuel,hf⟩:=h
 obtain⟨ps,h1,h2⟩:=Dw hs hf
 refine⟨ps,h2, ?_⟩
 have single: ∀{v:Value},v.cells= #[v]→bf (d6 W OC) ps v.cells.toList→aT W OC (λ_=>undef) 0 (ac2 false ps) v:=by
  intro v hv h
  rw[hv]at h
  cases h with
  |cons h t=>exact .c (.pure h)
 cases sf with
 |zero=>cases hs
 |succ sf=>
  unfold Uv at hs
  split at hs
  ·rename_i k ht
   obtain⟨n,rfl⟩:=okWide_int ht hA
   simp only[KD,ht]
   exact single rfl h1
  ·rename_i ht
   obtain⟨n,rfl⟩:=okWide_bool ht hA
   simp only[KD,ht]
   exact single rfl h1
  ·rename_i ht
   obtain⟨n,rfl⟩:=okWide_string ht hA
   simp only[KD,ht]
   exact single rfl h1
  ·rename_i e ht
   obtain⟨a,n,c,rfl⟩:=okWide_slice ht hA
   simp only[KD,ht]
   exact single rfl h1
  ·rename_i fs ht
   obtain⟨cs,rfl,_⟩:=okWide_struct ht hA
   simp only[KD,ht]
   have h1:bf (d6 W OC) ps cs.toList:=h1
   refine .agg (bf.of_get (by simpa using h1.length) λi x v hi hv=> ?_)
   simp only[zC7,zC1]at hi
   obtain⟨q,hq,rfl⟩:=hi
   obtain⟨u,hu,hr⟩:=h1.get hq
   have:u=v:=by
    rw[hv]at hu
    cases hu
    rfl
   subst this
   exact .pure hr
  ·cases hs
end
open Go.RowKit
section
variable {t : Bool} {A B : vJ Prop}
theorem Pm: @kg (!t) A B= @kg t B A:=by
 cases t
 ·exact propext ⟨λh=>⟨(λe=>by cases e),λ_=>h.1 rfl⟩,λh=>⟨λ_=>h.2 rfl,(λe=>by cases e)⟩⟩
 ·exact propext ⟨λh=>⟨λ_=>h.2 rfl,(λe=>by cases e)⟩,λh=>⟨(λe=>by cases e),λ_=>h.1 rfl⟩⟩
theorem UB: @kg (t==true) A B= @kg t A B:=by cases t<;>rfl
theorem TQ: @kg (t==false) A B= @kg t B A:=by
 have:(t==false)= !t:=by cases t<;>rfl
 rw[this,Pm]
end
class Vc (t:Bool) (p q:outParam Prop):Prop where
 pos:t=true→p
 neg:t=false→q
instance (priority:=low) testT (t:Bool):Vc t (t=true) (t=false):=⟨id,id⟩
instance afL (p:Prop) [Decidable p]:Vc (decide p) p (¬p):=⟨zI6,of_decide_eq_false⟩
instance afI (p:Prop):Vc (uM p) p (¬p):=⟨@zI6 p (Classical.propDecidable p), @of_decide_eq_false p (Classical.propDecidable p)⟩
theorem ab {t:Bool} {q:Prop} [T:Vc t p q] {A B:vJ Prop} (h1:p→A.out) (h2:q→B.out): @kg t A B:=⟨λe=>h1 (T.pos e),λe=>h2 (T.neg e)⟩
class zA0 (g:Prop)(x y:outParam Prop):Prop where
 out:x→y→g
instance zA2 {t:Bool}{p q:Prop}[T:Vc t p q]{A B:vJ Prop}:zA0 (@kg t A B) (p→A.out) (q→B.out):=⟨ab⟩
instance zA3 {A B:vJ Prop}:zA0 (@X0 A B) (True→A.out) (True→B.out):=⟨λa b=>⟨a ⟨⟩,b ⟨⟩⟩⟩
instance zA4 {r:_}{A B:vJ Prop}:zA0 (@Q5 r A B) ((∀ x ∈ r,x=[])→A.out) (True→B.out):=⟨λa b=>⟨a,b ⟨⟩⟩⟩
theorem zA1 {g x y:Prop}[T:zA0 g x y](h1:x)(h2:y):g:=T.out h1 h2
theorem aes:(uM p !=false)=uM p:=by cases uM p<;>rfl
theorem aeQ:(uM p !=true)= !uM p:=by cases uM p<;>rfl
theorem ni (h:p):uM p=true:= @zB1 p (Classical.propDecidable p) h
theorem kn (h: ¬p):uM p=false:= @zA9 p (Classical.propDecidable p) h
theorem afF:uM True=true:=ni trivial
theorem afB:uM False=false:=kn id
theorem UL [Decidable p]:uM p=decide p:=by by_cases h:p<;>simp[uM,h]
theorem abI {a b:Int}:(a==b)=decide (a=b):=rfl
theorem aa1 {a b:Int}:(a !=b)= !decide (a=b):=rfl
theorem eK {a:ByteArray}:a.toList=b.toList↔a=b:=by
 constructor
 ·intro h
  rw[ByteArray.toList_eq,ByteArray.toList_eq]at h
  exact Go.WideShapes.bytes_inj h
 ·intro h;rw[h]
theorem V0 {a:ByteArray}:(a.toList==b.toList)=decide (a=b):=by
 by_cases h:a=b
 ·subst h;simp
 ·have: ¬a.toList=b.toList:= λe=>h (eK.1 e)
  simp[h,this]
theorem abn {a:ByteArray}:(a.toList !=b.toList)= !decide (a=b):=by rw[bne,V0]
instance afu (s:ByteArray) (xs:List ByteArray):Decidable (s∈xs):=decidable_of_iff (∃x∈xs,x=s) zR6
theorem aey {a b:Bool}:((a==b) !=false)=(a==b):=by cases a<;>cases b<;>rfl
theorem VW {a b:Bool}:((a==b) !=true)= !(a==b):=by cases a<;>cases b<;>rfl
theorem I9 (hM:dO sz ys) (h1:ys.length*bytes≤140737488355328) (h2:ys.length≤140737488355328)
  (hk:K.out (.c (.ref σ.nx)) {σ with mem:=(σ.nx,.arr e sz ys)::σ.mem,nx:=σ.nx+1}): @Nn e sz bytes (.c .nils) y ys σ K:=
 ⟨hM,.inr (.inl ⟨rfl,.inl ⟨by simpa using h1,by simpa using h2,hk⟩⟩)⟩
theorem aP {nm:Nat} (hf:ar σ.mem nm=some (.arr e sz rows)) (z0:y≠ .c (.ref nm)) (hM:dO sz ys) (h1:(rows.length+ys.length)*bytes≤140737488355328) (h2:rows.length+ys.length≤140737488355328)
  (hk:K.out (.c (.ref σ.nx)) {σ with mem:=(σ.nx,.arr e sz (rows++ys))::M9 σ.mem nm,nx:=σ.nx+1}): @Nn e sz bytes (.c (.ref nm)) y ys σ K:=
 ⟨hM,.inl ⟨nm,rfl,z0,rows,hf,h1,h2,hk⟩⟩
abbrev dp {α:Type} (f:α→List PC) (xs:List α):PC:= .slice (xs.map f)
abbrev bF {α:Type} (f:α→List PC) (xs:List α):AV:= .c (.pure (dp f xs))
abbrev pI (n:Int):PC:= .val (.int .i64 n)
abbrev pS (s:ByteArray):PC:= .val (.string s)
abbrev pB (b:Bool):PC:= .val (.bool b)
theorem ae {β:Type} {f:α→β} {xs:List α} {k:Nat} (h:k<xs.length):(xs.map f)[k]? =some (f xs[k]):=by simp[h]
open Go.RowKit
def acK (rows:List (List PC)):Prop:= ∀r∈rows,∀p∈r,∃v,p= .val v
variable {cells:List Value}
theorem cZ.flat {w':World} {V V':Nat→Prop} (h:cZ w V sz rows cells) (hf:acK rows):cZ w' V' sz rows cells:=by
 refine⟨h.1,h.2.1,λi row j p hi hj=> ?_⟩
 obtain⟨v,hv,hp⟩:=h.2.2 i row j p hi hj
 obtain⟨u,rfl⟩:=hf row (zF0 hi) p (zF0 hj)
 refine⟨v,hv, ?_⟩
 cases hp with
 |val h=>exact .val h
def ae6 (P:Program) (f:FuncId) (args:List AV) (e sz:Nat) (rows:List (List PC)):Prop:=
 oT P f∧
 ∀(w:World) (U:Nat→Prop) (vs:Array Value),wY w→bf (aT w U (λ_=>undef) 0) args vs.toList→
  Calls P f vs w λen w'=> ∃v cells,en= .returned v∧0<sz∧w'.ownsRow w.heap.size e sz v rows.length cells∧rows.length≤9223372036854775807∧cZ w' (λ_=>False) sz rows cells∧Below w.heap.size w w'
def afp (rs:List AR) (e sz:Nat) (rows:List (List PC)):bv→St→Prop
 | .exit _,_=>False
 | .ret,σ=>nD σ rs [] λvs=> ∃nm,kz vs= .c (.ref nm)∧ar σ.mem nm=some (.arr e sz rows)
 | .normal,σ=>nD σ rs [] λvs=> ∃nm,kz vs= .c (.ref nm)∧ar σ.mem nm=some (.arr e sz rows)
theorem Dq {B B':Nat} {v:Value} (h:w.ownsRow B e sz v n cells) (hB:B'≤B):w.ownsRow B' e sz v n cells:=by
 refine⟨h.1, ?_⟩
 rcases h.2 with h|⟨g,cap,cur,e,hg,h⟩
 ·exact .inl h
 ·exact .inr ⟨g,cap,cur,e,zK3 hB hg,h⟩
variable {rs:List AR}
theorem ae6.of {body:aj} (hf:am P f nt body rs) (HL:args.length≤nt) (hfl:acK rows) (h:f6 args→AW P nt body ⟨aI args 0, [],0,0⟩ (afp rs e sz rows)):ae6 P f args e sz rows:=by
 obtain⟨fn,c,h1,h2,h3,rfl,h5,h6⟩:=hf.is
 refine⟨⟨fn,h1,by rw[h2];rfl,h3⟩,λw U vs hG Z=> ?_⟩
 have HA:vs.size=args.length:=by rw[←zD0];exact Z.length.symm
 have hs:ci w (Gh.of U) ⟨aI args 0, [],0,0⟩ (λ_=>undef) {tmps:=vs++Array.replicate (fn.ntmps-vs.size) undef,defers:= []} w:=by
  refine⟨λt=> ?_,⟨rfl,hG⟩,(λnm bx hn=>by cases hn),(λnm bx hn=>by cases hn),(λnm nm' b1 b2 b hn=>by cases hn),Below.refl _ _,trivial,⟨zB2 _,λ_ h=>absurd h (zM0 _)⟩⟩
  have H0: ∀{x:AV} {v:Value},aT w U (λ_=>undef) 0 x v→aT w (aV w.heap.size (Gh.of U) (λ_=>undef) []) (λ_=>undef) 0 x v:= λh=>
   h.mono (λb _ h=>⟨.inl h,λnm bx hn=>by cases hn⟩) (λ_ _ _=>rfl) (λ_ _=>rfl) (zB2 _)
  rcases iG (vs:=vs.toList) (k:=0) Z t with h|h
  ·by_cases Y:t<vs.size
   ·have e:(vs++Array.replicate (fn.ntmps-vs.size) undef).getD t undef=(vs.toList[t-0]?).getD undef:=by
     simp[zC4,zI1,Y]
    rw[e]
    exact H0 h
   ·have:aZ (aI args 0) t= .top:=by
     have key: ∀(l:List AV) (j:Nat),j+l.length≤t→aZ (aI l j) t= .top:=by
      intro l
      induction l with
      |nil=>intro j _;rfl
      |cons x l ih=>
       intro j hj
       simp only[zG2]at hj
       show(if j=t then x else aZ (aI l (j+1)) t)=_
       rw[if_neg zR5]
       exact ih _ zR5
     exact key args 0 zR5
    show aT _ _ _ _ (aZ (aI args 0) t) _
    rw[this]
    exact .top
  ·show aT _ _ _ _ (aZ (aI args 0) t) _
   rw[h]
   exact .top
 have HE:(vs++Array.replicate (fn.ntmps-vs.size) undef).size=fn.ntmps:=by simp;omega
 have fin: ∀{a':Act} {w':World} {σ':St} {ι':Pl},(nD σ' rs [] λvs=> ∃nm,kz vs= .c (.ref nm)∧ar σ'.mem nm=some (.arr e sz rows))→ci w (Gh.of U) σ' ι' a' w'→ ∃v,(results fn a'.tmps).run P w'= .ok v w'∧
   ∃v' cells,Ending.returned v= .returned v'∧0<sz∧w'.ownsRow w.heap.size e sz v' rows.length cells∧rows.length≤9223372036854775807∧cZ w' (λ_=>False) sz rows cells∧Below w.heap.size w w':=by
  intro a' w' σ' ι' HM O
  obtain⟨vs',us',g1,g2,nm,g3,g4⟩:=ki O (us:= []) h6 HM .nil
  have hp:=yV (by simpa using g1)
  rw[g3]at hp
  have hv:=SJ hp
  obtain⟨cells,k0,k1,k2,k3⟩:=O.box _ _ g4
  refine⟨(if h:us'.toArray.size=1 then us'.toArray[0]else .tuple us'.toArray), ?_,_,cells,rfl,k0, ?_,k2,k3.flat hfl,O.below⟩
  ·rw[jF,zG8]
   simp[g2]
  ·rw[hv];exact k1
 refine F0 h1 h2 (h (xl Z) c h5 w (Gh.of U) none [] _ _ w (λ_ e=>by cases e) hs HE) (λi σ' h=>h) ?_
 intro e a' w' σ' ι' hq O
 cases e with
 |normal=>exact fin hq O
 |exit i=>exact hq.elim
 |ret=>exact fin hq O
attribute [go_sem ↓] afp
def V8 (P:Program) (f:FuncId):Option (Nat×aj×List AR):=
 match P.funcs[f]? with
 |some fn => match fn.name == "runtime.NumGoroutine" with
  |false=>match fn.body with
   |some c=>match cn P fn.ntmps c with
    |some b=>match FF P fn.results.toList with
     |some rs=>some (fn.ntmps,b,rs)
     |none=>none
    |none=>none
   |none=>none
  |true=>none
 |none=>none
theorem t8 (h:V8 P f=some (nt,c,rs)):am P f nt c rs:=by
 unfold V8 at h
 split at h
 ·rename_i fn e1
  split at h
  ·rename_i e2
   split at h
   ·rename_i c0 e3
    split at h
    ·rename_i b e4
     split at h
     ·rename_i rs' e5
      cases h
      exact⟨fn,c0,e1,e3,e2,rfl,e4,e5⟩
     ·cases h
    ·cases h
   ·cases h
  ·cases h
 ·cases h
def aJ (P:Program) (f:FuncId):aj:=match V8 P f with
 |some (_,c,_)=>c
 |none=> .skip
theorem cI (h:V8 P f=some (nt,aJ P f,rs):=by kernel_rfl):am P f nt (aJ P f) rs:=t8 h
abbrev o_ (d:Nat) (x:fA):AG:=⟨some d,none,x⟩
abbrev m_ (d s:Nat):AG:=⟨some d,none,.mv (.t s)⟩
abbrev u_ (x:fA):AG:=⟨none,none,x⟩
abbrev k_ (n:Int):AX:= .k (.c (.pure (.val (.int .i64 n))))
abbrev i_ (n:Int):AC:= .pure (.val (.int .i64 n))
abbrev f_ (n:FuncId):AX:= .k (.c (.clo n []))
abbrev c_ (f:AX) (l:List AX):fA:= .call true true f l
abbrev b_ (b:Bool):AX:= .k (.c (.pure (.val (.bool b))))
abbrev g_ (d t:Nat) (w:Bool) (x:fA):AG:=⟨some d,some (t,w),x⟩
abbrev r_ (l:List AG):aj:= .region l false
abbrev l_ (n:Nat):fA:= .load none (.t n)
abbrev L_ (k n:Nat):fA:= .load (some k) (.t n)
abbrev a_ (k n:Nat):fA:= .fieldA k (.t n)
abbrev x_ (k a b:Nat):fA:= .idxA k (.t a) (.t b)
abbrev S_ (k a b:Nat):fA:= .store k (.t a) (.t b)
abbrev e_ (n k:Nat):fA:= .ext (.t n) k
abbrev z_ (n:Nat):fA:= .len (.t n)
abbrev w_ (n:Int):fA:= .mv (k_ n)
abbrev j_ (n:Nat):fA:= .bin .add (.t n) (k_ 1)
abbrev q_ (a b:Nat):fA:= .bin .lss (.t a) (.t b)
abbrev Q_ (o:BinOp) (a:Nat) (k:Int):fA:= .bin o (.t a) (k_ k)
abbrev C_ (f:FuncId) (l:List AX):fA:= .call true true (f_ f) l
abbrev P_ (d:Nat) (x:fA):Bool×AG:=(false,o_ d x)
abbrev M_ (d s:Nat):Bool×AG:=(false,m_ d s)
abbrev U_ (x:fA):Bool×AG:=(false,u_ x)
abbrev s_ (l:List AG) (c:aj):aj:= .seq (.region l false) c
abbrev y_ (n:Nat) (c d:aj):aj:= .cond (.t n) c d
abbrev X_ (n k:Nat):aj:= .cond (.t n) .skip (.exit k)
attribute [go_sem ↓] List.map_cons List.map_nil
attribute [go_sem] true_and and_true List.nil_append QS Int.toNat_natCast List.length_map List.length_cons List.length_nil Option.some.injEq not_true_eq_false not_false_eq_true Pm UB TQ abI aa1 V0 abn aey VW aes aeQ afF afB Bool.false_eq_true List.cons_append decide_true decide_false Nat.add_zero Nat.zero_add List.drop_succ_cons List.drop_zero List.take_succ_cons List.take_zero Option.map_some Option.map_none List.getElem?_cons_zero List.getElem?_cons_succ eq_self beq_self_eq_true Bool.bne_false Bool.bne_true Bool.true_beq Bool.false_beq
theorem zR7 (h:p:=by simp[gT,jy,dv,c7,dC,rn,yv,cK,bk,c8,cQ,bz,dh,co,av,ar,kx,kH,dw]):p:=h
theorem zS1 (h:p:=by simp[fA.tmps,ht]):p:=h
theorem zS2 (h:p:=by simp only[Bp];omega):p:=h
theorem zS3 (h:p:=by rw[ha];rfl):p:=h
theorem zS4 (h:p:=by rw[ha];simp):p:=h
theorem zS5 (h:p:=by unfold aH;omega):p:=h
theorem zS6 (h:p:=by unfold aM;omega):p:=h
theorem zT1 (h:p:=by unfold b6;omega):p:=h
theorem zT2 (h:p:=by simp only[execOp,ho,hu,e',e2'];rw[Sem.run_bind,zq ht h0 (by omega)];rfl):p:=h
theorem zT3 (h:p:=by rw[HR.out];simp only;rw[zO0,Nat.gcd_rec,zO0]):p:=h
theorem zT4 (h:p:=by simp[jO,ht]):p:=h
theorem zT5 (h:p:=by simp only[execOp,ho,hu,e2'];rw[Sem.run_bind,D h0 h1];rfl):p:=h
theorem zT6 (h:p:=by simp[execOp,ho,hu,yo hf hz];try rfl):p:=h
theorem zT8 (h:p:=by rw[h];rfl):p:=h
theorem zT9 (h:p:=by have:n*1≤n*inf.size:=Nat.mul_le_mul_left _ h0;omega):p:=h
theorem zU0 (h:p:=by rw[hn];simp):p:=h
theorem zU1 (h:p:=by rw[←HN.out];exact l):p:=h
theorem zU2 (h:p:=by rw[hι _ hn];exact h):p:=h
theorem zU3 (h:p:=by simpa using g1):p:=h
theorem zU5 (h:p:=by simp[execOp,ho,hu]):p:=h
theorem zU6 (h:p:=by rw[HK.out];exact q):p:=h
theorem zU7 (h:p:=by rw[h1];rfl):p:=h
theorem zU8 (h:p:=by simp[Program.plainKey,hu]):p:=h
theorem zU9 (h:p:=by rw[ho];intro c e;cases e):p:=h
theorem zV0 (h:p:=by rw[u];decide):p:=h
theorem zV1 (h:p:=by simp[fA.tmps,hu]):p:=h
theorem zV2 (h:p:=by simpa[oA]using h):p:=h
theorem zV3 (h:p:=by simp[ha,hb]):p:=h
theorem zV4 (h:p:=by rintro⟨_,h|h⟩;exact h1 h;exact h2 h):p:=h
theorem zV8 (h:p:=by rw[←HN.out];exact h6):p:=h
theorem zV9 (h:p:=by simpa using e):p:=h
theorem zW0 (h:p:=by repeat' first|simp(disch:=omega)only[go_sem, *]|apply ab<;>intro h<;>try omega):p:=h
theorem zW1 (h:p:=by repeat' first|simp(disch:=omega)only[go_sem]|((with_reducible refine ab ?_ ?_)<;>intro h<;>try first|omega|simp(disch:=omega)only[go_sem, *])):p:=h
theorem zW2 (h:p:=by repeat' first|simp(disch:=omega)only[go_sem, *]|apply ab<;>intro h<;>try omega|refine ak p1 ?_|refine ak p2 ?_):p:=h
theorem zW3 (h:p:=by repeat' first|simp(disch:=omega)only[go_sem, *,ae g,Ex.row_eq,wrap_i64]|apply ab<;>intro h<;>try omega|refine ak m ?_):p:=h
theorem zW4 (h:p:=by repeat' first|simp(disch:=omega)only[go_sem, *,t,u,w,z,A,wrap_i64]|apply ab<;>intro h<;>try omega|refine ak p1 ?_|refine ak p2 ?_|refine ak p3 ?_):p:=h
theorem zW5 (h:p:=by repeat' first|simp(disch:=omega)only[go_sem, *,zD1,zB3,show Int.toNat 1=1 from rfl,show Int.toNat 2=2 from rfl,show Int.toNat 3=3 from rfl,show Int.toNat 4=4 from rfl,show Int.toNat 5=5 from rfl,zF4,wrap_u64,wrap_i64]|apply ab<;>intro h<;>try omega|refine ak cl ?_|refine ak cm ?_):p:=h
theorem zW6 (h:p:=by repeat' first|simp(disch:=omega)only[go_sem, *]|apply ab<;>intro h<;>try omega|refine ak p ?_):p:=h
theorem zW7 (h:p:=by repeat' first|simp(disch:=omega)only[go_sem, *,ae hk,bU,h1,h2,i,h5,h6,decide_true,←zF9,q,zD3,zA8]|apply zA1<;>intro h<;>try omega|refine ak (ay _ _) ?_|refine ak (aY p.defs[k].ty) ?_|refine ak cA ?_|refine gO a6 (aD λx=>rfl) zU4 zR8 zR8 ?_|refine aP rfl zS0 (aD λx=>rfl) zR8 zR8 ?_|refine ak cR ?_|refine dH cI ?_|refine ak cT ?_):p:=h
theorem zW8 (h:p:=by repeat' first|simp(disch:=omega)only[go_sem, *,ae hk,bU,h1,h2,i,h5,h6,decide_true,←zF9,q,zD3,zA8,hd]|apply zA1<;>intro h<;>try omega|refine ak (ay _ _) ?_|refine ak (aY p.defs[k].ty) ?_|refine ak cA ?_|refine jn a6 ?_|refine no a6 (aD λx=>rfl) zR8 zR8 ?_|refine ak cR ?_|refine dH cI ?_|refine ak cT ?_):p:=h
theorem zW9 (h:p:=by repeat' first|simp(disch:=omega)only[go_sem, *,z2,z3,z4,z5,zD1,zB3,show Int.toNat 1=1 from rfl,show Int.toNat 2=2 from rfl,show Int.toNat 3=3 from rfl,show Int.toNat 4=4 from rfl,show Int.toNat 5=5 from rfl,zF4,wrap_u64,wrap_i64]|apply ab<;>intro h<;>try omega|refine ak cl ?_|refine ak cm ?_):p:=h
theorem zX0 (h:p:=by repeat' first|simp(disch:=omega)only[go_sem, *]|apply ab<;>intro h<;>try omega|refine ak p1 ?_):p:=h
theorem zX1 (h:p:=by repeat' first|simp(disch:=omega)only[go_sem,h1]|((with_reducible refine ab ?_ ?_)<;>intro h<;>try first|omega|simp(disch:=omega)only[go_sem, *,h1])|refine ak p2 ?_|refine ak bG ?_):p:=h
theorem zX2 (h:p:=by repeat' first|simp(disch:=omega)only[go_sem,↓ai, *,g,ha,zB8,zC9,zB3,nY,tQ,zB0,zB4,Ex.row_eq]|apply zA1<;>intro h<;>try omega|refine ak pa ?_|refine ak pb ?_|refine ak p2 ?_):p:=h
theorem zX3 (h:p:=by repeat' first|simp(disch:=omega)only[go_sem, *,g,ha,zB8,zC9,zB3,nY,tQ,zB0,zB4,Ex.row_eq]|apply ab<;>intro h<;>try omega|refine ak pa ?_|refine ak pb ?_|refine ak p2 ?_):p:=h
theorem zX4 (h:p:=by repeat' first|simp(disch:=omega)only[go_sem, *,g,ha,h0,zB8,zC9,zB3,nY,tQ,zB0,zB4,Ex.row_eq]|apply ab<;>intro h<;>try omega|refine ak pa ?_):p:=h
theorem zX5 (h:p:=by repeat' first|simp(disch:=omega)only[go_sem, *,h1,h3]|apply ab<;>intro h<;>try omega|refine ak p1 ?_|refine ak p2 ?_|refine ak p3 ?_):p:=h
theorem zX6 (h:p:=by repeat' first|simp(disch:=omega)only[go_sem,o0,zB3,ae]|((with_reducible refine ab ?_ ?_)<;>intro h<;>try first|omega|simp(disch:=omega)only[go_sem, *,o0,zB3,ae])|refine ak po ?_|refine ak px ?_):p:=h
theorem zX7 (h:p:=by repeat' first|simp(disch:=omega)only[go_sem,e1,ae g,wrap_i64]|((with_reducible refine ab ?_ ?_)<;>intro h<;>try first|omega|simp(disch:=omega)only[go_sem, *,e1,ae g,wrap_i64])|refine ak pa ?_):p:=h
theorem zX8 (h:p:=by repeat' first|simp(disch:=omega)only[go_sem,ae g,wrap_i64]|((with_reducible refine ab ?_ ?_)<;>intro h<;>try first|omega|simp(disch:=omega)only[go_sem, *,ae g,wrap_i64])|refine ak pa ?_):p:=h
theorem zX9 (h:p:=by repeat' first|simp(disch:=omega)only[go_sem,h8]|((with_reducible refine ab ?_ ?_)<;>intro h<;>try first|omega|simp(disch:=omega)only[go_sem, *,h8])|refine ak p1 ?_|refine ak p2 ?_):p:=h
theorem zY0 (h:p:=by repeat' first|simp(disch:=omega)only[go_sem]|((with_reducible refine ab ?_ ?_)<;>intro h<;>try first|omega|simp(disch:=omega)only[go_sem, *])|refine ak po ?_|refine ak (lL _) ?_):p:=h
theorem zY1 (h:p:=by repeat' first|simp(disch:=omega)only[go_sem, *,wrap_i64]|apply ab<;>intro h<;>try omega):p:=h
theorem zY2 (h:p:=by repeat' first|simp(disch:=omega)only[go_sem, *,w1,w2,w3,w4,w5,z0',c1]|apply ab<;>intro h<;>try omega|refine ak p1 ?_):p:=h
theorem zY3 (h:p:=by repeat' first|simp(disch:=omega)only[go_sem]|((with_reducible refine ab ?_ ?_)<;>intro h<;>try first|omega|simp(disch:=omega)only[go_sem, *])|refine ak p1 ?_|refine ak p2 ?_):p:=h
theorem zY4 (h:p:=by repeat' first|simp(disch:=omega)only[go_sem]|((with_reducible refine ab ?_ ?_)<;>intro h<;>try first|omega|simp(disch:=omega)only[go_sem, *])|refine ak po ?_|refine ak bG ?_):p:=h
theorem zY5 (h:p:=by repeat' first|simp(disch:=omega)only[go_sem, *,w1,w2,w3,w4,w5,z0']|apply ab<;>intro h<;>try omega|refine ak p1 ?_):p:=h
theorem zY6 (h:p:=by repeat' first|simp(disch:=omega)only[go_sem, *,g1,g2,g3,g4,g5,g6,g9,g10,g11,g12,g13,g14,zB3,show Int.toNat 1=1 from rfl]|apply zA1<;>intro h<;>try omega|refine ak cs ?_):p:=h
theorem zY7 (h:p:=by repeat' first|simp(disch:=omega)only[go_sem, *,g]|apply ab<;>intro h<;>try omega):p:=h
theorem zY8 (h:p:=by repeat' first|simp(disch:=omega)only[go_sem]|((with_reducible refine ab ?_ ?_)<;>intro h<;>try first|omega|simp(disch:=omega)only[go_sem, *])|refine ak p1 ?_):p:=h
theorem zY9 (h:p:=by repeat' first|simp(disch:=omega)only[go_sem]|((with_reducible refine ab ?_ ?_)<;>intro h<;>try first|omega|simp(disch:=omega)only[go_sem, *])|refine ak po ?_):p:=h
theorem zZ0 (h:p:=by repeat' first|simp(disch:=omega)only[go_sem, *,g,zB3,show Int.toNat 1=1 from rfl,show Int.toNat 2=2 from rfl]|apply zA1<;>intro h<;>try omega|refine ak cs ?_):p:=h
theorem zZ1 (h:p:=by repeat' first|simp(disch:=omega)only[go_sem, *,hn,q,u]|apply ab<;>intro h<;>try omega|refine ak pt ?_|refine ak p1 ?_|refine ak p2 ?_|refine ak p ?_):p:=h
theorem zZ2 (h:p:=by repeat' first|simp(disch:=omega)only[go_sem, *,ae i,gw,wrap_i64,h1,h2]|apply ab<;>intro h<;>try omega|refine ak (ay _ []) ?_|refine ak (bX _ _) ?_):p:=h
theorem zZ3 (h:p:=by repeat' first|simp(disch:=omega)only[go_sem, *,ae i,gw,wrap_i64,h1,h2]|apply ab<;>intro h<;>try omega|refine ak (ay _ _) ?_|refine ak (bX _ _) ?_):p:=h
theorem zZ4 (h:p:=by repeat' first|simp(disch:=omega)only[go_sem,↓ai, *,g,ha,h0,zB8,zC9,zB3,nY,tQ,zB0,zB4,Ex.row_eq]|apply zA1<;>intro h<;>try omega|refine ak pa ?_):p:=h
theorem zZ5 (h:p:=by repeat' first|simp(disch:=omega)only[go_sem, *]|apply zA1<;>intro h<;>try omega|refine ak ps ?_):p:=h
theorem zZ6 (h:p:=by repeat' first|simp(disch:=omega)only[go_sem, *]|apply ab<;>intro h<;>try omega|refine ak pt ?_|refine ak p1 ?_|refine ak p2 ?_|refine ak p ?_):p:=h
theorem zZ7 (h:p:=by repeat' first|simp(disch:=omega)only[go_sem, *,t,u,wrap_i64]|apply ab<;>intro h<;>try omega|refine ak p1 ?_|refine ak p2 ?_|refine ak p3 ?_):p:=h
theorem zZ8 (h:p:=by repeat' first|simp(disch:=omega)only[go_sem,↓ai, *,g,ha,h0,zB8,zC9,zB3,zB0,Ex.row_eq]|apply zA1<;>intro h<;>try omega|refine ak p1 ?_):p:=h
theorem zZ9 (h:p:=by repeat' first|simp(disch:=omega)only[go_sem, *,h3,f]|apply ab<;>intro h<;>try omega|refine ak p1 ?_|refine ak p2 ?_|refine ak p3 ?_):p:=h
theorem yA0 (h:p:=by repeat' first|simp(disch:=omega)only[go_sem, *,ae h0,Ex.row_eq,zB3]|apply ab<;>intro h<;>try omega|refine ak cT ?_|refine ak cR ?_):p:=h
theorem yA1 (h:p:=by repeat' first|simp(disch:=omega)only[go_sem, *,ae g,bU,wrap_i64]|apply ab<;>intro h<;>try omega|refine dH cI ?_|refine ak cL ?_):p:=h
theorem yA2 (h:p:=by repeat' first|simp(disch:=omega)only[go_sem, *,w,w1]|apply ab<;>intro h<;>try omega):p:=h
theorem yA3 (h:p:=by repeat' first|simp(disch:=omega)only[go_sem, *,w1,w2,w3,w4,w5,z0',c1,c2',c3']|apply ab<;>intro h<;>try omega|refine ak p1 ?_):p:=h
theorem yA4 (h:p:=by repeat' first|simp(disch:=omega)only[go_sem, *,u,hu,h4,zJ0,v1,v2,v3]|apply ab<;>intro h<;>try omega|refine ak (qb h1 h2) ?_):p:=h
theorem yA5 (h:p:=by repeat' first|simp(disch:=omega)only[go_sem,↓ai, *]|apply ab<;>intro h<;>try omega):p:=h
theorem yA6 (h:p:=by repeat' first|simp(disch:=omega)only[go_sem, *,zR3]|apply ab<;>intro h<;>try omega):p:=h
theorem yA7 (h:p:=by repeat' first|simp(disch:=omega)only[go_sem, *,hk]|apply ab<;>intro h<;>try omega):p:=h
theorem yA8 (h:p:=by repeat' first|simp(disch:=omega)only[go_sem, *,e2]|apply ab<;>intro h<;>try omega):p:=h
theorem yA9 (h:p:=by repeat' first|simp(disch:=omega)only[go_sem, *,ae i,gw,wrap_i64,h1]|apply ab<;>intro h<;>try omega|refine ak (ay _ []) ?_):p:=h
theorem yB0 (h:p:=by repeat' first|simp(disch:=omega)only[go_sem, *,ae i,gw,wrap_i64,h1]|apply ab<;>intro h<;>try omega|refine ak (ay _ _) ?_):p:=h
theorem yB1 (h:p:=by repeat' first|simp(disch:=omega)only[go_sem, *,g,h1,h2]|apply zA1<;>intro h<;>try omega|refine ak p1 ?_|refine ak bG ?_):p:=h
theorem yB2 (h:p:=by repeat' first|simp(disch:=omega)only[go_sem, *,h,h1,h2]|apply ab<;>intro h<;>try omega|refine ak p1 ?_|refine ak p2 ?_):p:=h
theorem yB3 (h:p:=by repeat' first|simp(disch:=omega)only[go_sem, *,h2]|apply ab<;>intro h<;>try omega|refine ak p1 ?_|refine ak p2 ?_):p:=h
theorem yB4 (h:p:=by repeat' first|simp(disch:=omega)only[go_sem, *,w4,w5,g,c,h1,h2]|apply ab<;>intro h<;>try omega|refine ak p1 ?_):p:=h
theorem yB5 (h:p:=by repeat' first|simp(disch:=omega)only[go_sem, *,w4,w5,g,c,h1,h2]|apply ab<;>intro h<;>try omega|refine ak p2 ?_):p:=h
theorem yB6 (h:p:=by repeat' first|simp(disch:=omega)only[go_sem, *]|apply ab<;>intro h<;>try omega|refine ak pv ?_|refine ak ps ?_):p:=h
theorem yB7 (h:p:=by repeat' first|simp(disch:=omega)only[go_sem, *]|apply ab<;>intro h<;>try omega|refine ak cA ?_|refine dH cD ?_):p:=h
theorem yB8 (h:p:=by repeat' first|simp(disch:=omega)only[go_sem, *,C,Ex.op]|apply ab<;>intro h<;>try omega|refine ak (cw _ _) ?_):p:=h
theorem yB9 (h:p:=by repeat' first|simp(disch:=omega)only[go_sem, *,v1,v2,v3,A,hz]|apply ab<;>intro h<;>try omega|refine ak p1 ?_):p:=h
theorem yC0 (h:p:=by repeat' first|simp(disch:=omega)only[go_sem, *,w,w2,e1,zJ0,hf]|apply ab<;>intro h<;>try omega|refine ak p ?_):p:=h
theorem yC1 (h:p:=by repeat' first|simp(disch:=omega)only[go_sem, *,ae b,wrap_i64]|apply ab<;>intro h<;>try omega|refine ak p4 ?_):p:=h
theorem yC2 (h:p:=by repeat' first|simp(disch:=omega)only[go_sem,↓ai, *,g,h1,h2]|apply zA1<;>intro h<;>try omega|refine ak p1 ?_):p:=h
theorem yC3 (h:p:=by repeat' first|simp(disch:=omega)only[go_sem, *,wrap_i64,zG5]|apply ab<;>intro h<;>try omega|refine ak p1 ?_):p:=h
theorem yC4 (h:p:=by repeat' first|simp(disch:=omega)only[go_sem, *,ae n,mP,wrap_i64,hm,zE1,hj]|apply ab<;>intro h<;>try omega):p:=h
theorem yC5 (h:p:=by repeat' first|simp(disch:=omega)only[go_sem, *,ae g,cP,h0]|apply ab<;>intro h<;>try omega|refine ak p1 ?_):p:=h
theorem yC6 (h:p:=by repeat' first|simp(disch:=omega)only[go_sem, *,ae o,wrap_i64,e1,E,ne_eq]|apply ab<;>intro h<;>try omega):p:=h
theorem yC7 (h:p:=by repeat' first|simp(disch:=omega)only[go_sem, *,ae n,mP,wrap_i64,hm,zG9]|apply ab<;>intro h<;>try omega):p:=h
theorem yC8 (h:p:=by repeat' first|simp(disch:=omega)only[go_sem, *,ae g,cP]|apply ab<;>intro h<;>try omega|refine ak p1 ?_):p:=h
theorem yC9 (h:p:=by repeat' first|simp(disch:=omega)only[go_sem, *,ae g]|apply ab<;>intro h<;>try omega|refine ak pn ?_):p:=h
theorem yD0 (h:p:=by repeat' first|simp(disch:=omega)only[go_sem, *,w,w1,w2,w3,hc,ne_eq]|apply ab<;>intro h<;>try omega):p:=h
theorem yD1 (h:p:=by repeat' first|simp(disch:=omega)only[go_sem, *,w1]|apply ab<;>intro h<;>try omega|refine ak pw ?_):p:=h
theorem yD2 (h:p:=by repeat' first|simp(disch:=omega)only[go_sem, *,w2]|apply ab<;>intro h<;>try omega|refine ak pw ?_):p:=h
theorem yD3 (h:p:=by repeat' first|simp(disch:=omega)only[go_sem, *,w3]|apply ab<;>intro h<;>try omega|refine ak pw ?_):p:=h
theorem yD4 (h:p:=by repeat' first|simp(disch:=omega)only[go_sem, *,h0]|apply ab<;>intro h<;>try omega|refine ak pv ?_):p:=h
theorem yD5 (h:p:=by repeat' first|simp(disch:=omega)only[go_sem, *,hv]|apply ab<;>intro h<;>try omega|refine ak cV ?_):p:=h
theorem yD6 (h:p:=by repeat' first|simp(disch:=omega)only[go_sem, *,h]|apply ab<;>intro h<;>try omega|refine ak p1 ?_):p:=h
theorem yD7 (h:p:=by repeat' first|simp(disch:=omega)only[go_sem, *]|apply ab<;>intro h<;>try omega|refine ak cV ?_):p:=h
theorem yD8 (h:p:=by repeat' first|simp(disch:=omega)only[go_sem, *]|apply ab<;>intro h<;>try omega|refine bN pn ?_):p:=h
theorem yD9 (h:p:=by repeat' first|simp(disch:=omega)only[go_sem, *]|apply ab<;>intro h<;>try omega|refine ak cC ?_):p:=h
theorem yE0 (h:p:=by repeat' first|simp(disch:=omega)only[go_sem, *,w1,w4,h1,h2]|apply ab<;>intro h<;>try omega):p:=h
theorem yE1 (h:p:=by repeat' first|simp(disch:=omega)only[go_sem, *,w2,w4,h1,h2]|apply ab<;>intro h<;>try omega):p:=h
theorem yE2 (h:p:=by repeat' first|simp(disch:=omega)only[go_sem, *,w3,w4,h1,h2]|apply ab<;>intro h<;>try omega):p:=h
theorem yE3 (h:p:=by repeat' first|simp(disch:=omega)only[go_sem, *,ae b,ae g]|apply ab<;>intro h<;>try omega):p:=h
theorem yE4 (h:p:=by repeat' first|simp(disch:=omega)only[go_sem, *,Ex.op]|apply ab<;>intro h<;>try omega):p:=h
theorem yE5 (h:p:=by repeat' first|simp(disch:=omega)only[go_sem, *,g,zB3]|apply ab<;>intro h<;>try omega):p:=h
theorem yE6 (h:p:=by repeat' first|simp(disch:=omega)only[go_sem, *,e1,e2]|apply ab<;>intro h<;>try omega):p:=h
theorem yE7 (h:p:=by repeat' first|simp(disch:=omega)only[go_sem,↓ai, *]|apply zA1<;>intro h<;>try omega):p:=h
theorem yE8 (h:p:=by repeat' first|simp(disch:=omega)only[go_sem, *,hi]|apply ab<;>intro h<;>try omega):p:=h
end Go.Abs
