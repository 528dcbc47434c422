import Derived.Test.YtjhkikmonejkjaaGreatDoorAbsP
import Derived.LoopN
import Derived.RangeFuncLeaves
import Derived.RangeFuncNested
import Derived.OrdersIn
import Derived.LoopNIn
import Derived.ChangeArms
import Derived.WideShapes
set_option linter.unusedVariables false
set_option linter.unusedSimpArgs false
namespace Go.Abs
open Go.RowKit
section
variable {P : Program} {o : Oper} {a : Act} {w w' w0 : World} {U : Gh} {ι : Pl} {σ : St} {next : Act → World → Prop} {Q : Exit → Act → World → Prop} {K : AV → St → Prop}
theorem wt {α:Type} {x:Option α} {p:α→Bool} (h:x.map p=some true): ∃z,x=some z∧p z=true:=by
 cases x with
 |none=>cases h
 |some z=>exact⟨z,rfl,by simpa using h⟩
theorem Mo {op:BinOp} {t t':TypeId} {x y:Operand} {p q:AX} {neg:Bool} (C:(op= .eql∧neg=false)∨(op= .neq∧neg=true)) (ht:LB P t=true) (hq:G1 q=true) (ho:o.op= .binOp op t x y t') (hx:aC x=some p) (hy:aC y=some q)
  (h:bh P (.snil neg p) σ K) (hs:bl w0 U σ ι a w) (hn:eA w0 U a o K next):o.wp P a w next Q:=by
 have r1:=al hx hs
 have r2:=al hy hs
 unfold G1 at hq
 split at hq
 ·have e2:a.eval y= .slice none 0 0:=tx r2
  unfold LB at ht
  split at ht
  ·rename_i et hT
   have key: ∀(ad:Option Addr) (n c:Nat),a.eval x= .slice ad n c→K (.c (.pure (.val (.bool (ad.isNone !=neg))))) σ→o.wp P a w next Q:=by
    intro ad n c hu hk
    have hr:(Op.equal t (.slice ad n c) (.slice none 0 0)).run P w= .ok ad.isNone w:=by
     show(Op.equalIn (9999+1) t (.slice ad n c) (.slice none 0 0)).run P w= .ok ad.isNone w
     unfold Op.equalIn
     cases ad<;>simp[run_underlying hT]
    have hg:(eqGuard op t x y (.slice ad n c) (.slice none 0 0)).run P w= .ok () w:=by unfold eqGuard;cases op<;>simp
    refine aA (u:= .bool (ad.isNone !=neg)) (w':=w) ?_ (hn _ σ ι _ w hk hs (ib _))
    simp only[execOp,ho,hu,e2]
    rw[Sem.run_bind,Sem.run_bind,hg]
    rcases C with⟨rfl,rfl⟩|⟨rfl,rfl⟩<;>simp[binOp,hr]
   have rows: ∀{V:Nat→Prop} {rs:List (List PC)} {ad:Option Addr} {n c:Nat},a.eval x= .slice ad n c→bH w V (.slice rs) (.slice ad n c)→ @Ib rs ⟨K (.c (.pure (.val (.bool (!neg))))) σ⟩ ⟨K (.c (.pure (.val (.bool neg)))) σ⟩→o.wp P a w next Q:=by
    intro V rs ad n c hu hr z4
    cases ad with
    |some ad=>exact key _ _ _ hu (by have:=z4.2;cases neg<;>exact this)
    |none=>
     refine key _ _ _ hu ?_
     have:=z4.1 (λr Zr=>by
      cases hr with
      | @slice sz _ _ _ _ g hn hc hm hr HI hp=>
       obtain⟨k,hk⟩:=List.mem_iff_getElem?.1 Zr
       cases r with
       |nil=>rfl
       |cons p0 r=>
        obtain⟨b,off,e,_⟩:=HI k _ 0 p0 hk rfl
        cases e)
     cases neg<;>exact this
   simp only[bh]at h
   split at h
   ·rename_i e
    rw[e]at r1
    generalize hu:a.eval x=u at r1
    cases r1 with
    |c r1=>
     cases r1
     exact key _ _ _ hu (by cases neg<;>exact h)
   ·rename_i rs e
    rw[e]at r1
    generalize hu:a.eval x=u at r1
    cases r1 with
    |c r1=>
     cases r1 with
     |pure r1=>
      have r1':=r1
      cases r1
      exact rows hu r1' h
   ·rename_i rs e
    rw[e]at r1
    generalize hu:a.eval x=u at r1
    cases r1 with
    |c r1=>
     cases r1 with
     |tsl r1=>exact rows hu r1 h
   ·rename_i nm e
    rw[e]at r1
    split at h
    ·rename_i rs hf
     have hv:=sW r1
     obtain⟨cells,k0,k1,k2,k3⟩:=hs.box _ _ hf
     rcases k1.2 with⟨e0,e1⟩|⟨g,cap,cur,e0,_⟩
     ·rw[e0]at hv
      refine key _ _ _ hv ?_
      have hz:rs= []:=List.eq_nil_of_length_eq_zero (by simpa using e1)
      subst hz
      have:=h.1 (by simp)
      cases neg<;>exact this
     ·rw[e0]at hv
      refine key _ _ _ hv ?_
      have:=h.2
      cases neg<;>exact this
    ·exact h.elim
   ·exact h.elim
  ·cases ht
 ·cases hq
set_option maxHeartbeats 1000000 in
theorem IT {dr:Bool} {ao:dV} (hc:bo P dr o.op=some ao) (h:bh P ao σ K) (hs:bl w0 U σ ι a w) (hn:eA w0 U a o K next):o.wp P a w next Q:=by
 cases C:o.op with
 |move x=>
  rw[C]at hc
  simp only[bo,Option.map_eq_some_iff]at hc
  obtain⟨y,hy,rfl⟩:=hc
  exact Sm (.inl C) hy h hs hn
 |assign x=>
  rw[C]at hc
  simp only[bo,Option.map_eq_some_iff]at hc
  obtain⟨y,hy,rfl⟩:=hc
  exact Sm (.inr C) hy h hs hn
 |pick c x y=>
  rw[C]at hc
  simp only[bo]at hc
  split at hc
  ·cases hc
   exact R8 C ‹_› ‹_› ‹_› h hs hn
  ·cases hc
 |alloc t=>
  rw[C]at hc
  simp only[bo,Option.map_eq_some_iff,Option.bind_eq_some_iff]at hc
  obtain⟨v,⟨z,h1,h2⟩,rfl⟩:=hc
  exact Qj C h1 h2 h hs hn
 |box t x=>
  rw[C]at hc
  simp only[bo,Option.map_eq_some_iff]at hc
  obtain⟨y,hy,rfl⟩:=hc
  exact SW C hy h hs hn
 |build t parts=>
  rw[C]at hc
  simp only[bo]at hc
  split at hc
  ·cases hc
   exact O3 C ‹_› ‹_› h hs hn
  ·cases hc
 |buildSlice t n parts=>
  rw[C]at hc
  simp only[bo]at hc
  split at hc
  ·split at hc
   ·rename_i hM
    obtain⟨h1,h2,h3,h4⟩:=hM
    obtain⟨z,hz,HM⟩:=wt h4
    cases hc
    split at h
    ·exact K7 C ‹_› ‹_› h1 h2 h3 hz (of_decide_eq_true HM) h hs hn
    ·exact Nl C ‹_› ‹_› h1 h2 h3 hz (of_decide_eq_true HM) h hs hn
   ·cases hc
  ·cases hc
 |load t p=>
  rw[C]at hc
  simp only[bo]at hc
  split at hc
  ·cases hc
   exact RK C ‹_› ‹_› h hs hn
  ·cases hc
 |store t p v=>
  rw[C]at hc
  simp only[bo]at hc
  split at hc
  ·cases hc
   exact OR C ‹_› ‹_› ‹_› h hs hn
  ·cases hc
 |binOp op t x y t'=>
  rw[C]at hc
  simp only[bo]at hc
  split at hc
  ·rename_i p q h1 h2
   split at hc
   ·split at hc
    ·cases hc
     rename_i hb
     unfold Ih at hb
     split at hb
     ·exact Qu (.inl ⟨rfl,rfl⟩) ‹_› C h1 h2 h hs hn
     ·cases hb
    ·split at hc
     ·simp only[Option.map_eq_some_iff]at hc
      obtain⟨l,hl,rfl⟩:=hc
      exact P0 (.inl ⟨rfl,rfl⟩) ‹_› hl C h1 h2 h hs hn
     split at hc
     ·split at hc
      ·cases hc
       exact LT (.inl ⟨rfl,rfl⟩) ‹_› ‹_› C h1 h2 h hs hn
      ·cases hc
     split at hc
     ·split at hc
      ·cases hc
       exact Mo (.inl ⟨rfl,rfl⟩) ‹_› ‹_› C h1 h2 h hs hn
      ·cases hc
     ·cases hc
      exact KM C h1 h2 h hs hn
   ·split at hc
    ·cases hc
     rename_i hb
     unfold Ih at hb
     split at hb
     ·exact Qu (.inr ⟨rfl,rfl⟩) ‹_› C h1 h2 h hs hn
     ·cases hb
    ·split at hc
     ·simp only[Option.map_eq_some_iff]at hc
      obtain⟨l,hl,rfl⟩:=hc
      exact P0 (.inr ⟨rfl,rfl⟩) ‹_› hl C h1 h2 h hs hn
     split at hc
     ·split at hc
      ·cases hc
       exact LT (.inr ⟨rfl,rfl⟩) ‹_› ‹_› C h1 h2 h hs hn
      ·cases hc
     split at hc
     ·split at hc
      ·cases hc
       exact Mo (.inr ⟨rfl,rfl⟩) ‹_› ‹_› C h1 h2 h hs hn
      ·cases hc
     ·cases hc
      exact KM C h1 h2 h hs hn
   ·cases hc
    exact KM C h1 h2 h hs hn
  ·cases hc
 |unOp op t x=>
  rw[C]at hc
  simp only[bo,Option.map_eq_some_iff]at hc
  obtain⟨y,hy,rfl⟩:=hc
  exact UZ C hy h hs hn
 |convert s d x=>
  rw[C]at hc
  simp only[bo]at hc
  split at hc
  ·cases hc
   exact RF C ‹_› ‹_› ‹_› h hs hn
  ·cases hc
 |nilCheck x=>
  rw[C]at hc
  simp only[bo,Option.map_eq_some_iff]at hc
  obtain⟨y,hy,rfl⟩:=hc
  exact R0 C hy h hs hn
 |slice t x lo hi mx=>
  rw[C]at hc
  simp only[bo]at hc
  split at hc
  ·rename_i e0 _ _ _ _ g0 g1 g2 g3 g4
   split at hc
   ·rename_i ZB
    split at hc
    ·rename_i hM
     cases hc
     exact SV C ZB ‹_› ‹_› ‹_› ‹_› hM.2 h hs hn
    ·cases hc
   ·cases hc
  ·rename_i e0 _ _ _ g0 g1 g2 g3 g4
   cases hc
   cases mx with
   |none=>exact QS C ‹_› ‹_› ‹_› ‹_› h hs hn
   |some m=>simp[mn]at g4
  ·cases hc
 |fieldAddr s x f=>
  rw[C]at hc
  simp only[bo]at hc
  split at hc
  ·split at hc
   ·cases hc
   ·cases hc
    exact Ny C ‹_› ‹_› ‹_› h hs hn
  ·cases hc
 |field s x f=>
  rw[C]at hc
  simp only[bo]at hc
  split at hc
  ·simp only[Option.map_eq_some_iff]at hc
   obtain⟨n,h1,rfl⟩:=hc
   exact P4 C ‹_› h1 ‹_› h hs hn
  ·cases hc
 |indexAddr t x i=>
  rw[C]at hc
  simp only[bo]at hc
  split at hc
  ·cases hc
   exact RR C ‹_› ‹_› ‹_› h hs hn
  ·split at hc
   ·simp only[Option.map_eq_some_iff]at hc
    obtain⟨n,h1,rfl⟩:=hc
    exact Rm C ‹_› h1 ‹_› ‹_› h hs hn
   ·cases hc
  ·cases hc
 |index t x i=>
  rw[C]at hc
  simp only[bo]at hc
  split at hc
  ·split at hc
   ·cases hc
    exact RJ C ‹_› ‹_› ‹_› h hs hn
   ·cases hc
  ·cases hc
 |makeSlice t l c=>
  rw[C]at hc
  simp only[bo]at hc
  split at hc
  ·rename_i e sz bytes p q h1 h2 h3
   split at hc
   ·rename_i hM
    obtain⟨rfl,h0,h4⟩:=hM
    obtain⟨z,hz,HM⟩:=wt h4
    simp only[Option.map_eq_some_iff,Option.bind_eq_some_iff]at hc
    obtain⟨zs,⟨z',hY,Zs⟩,rfl⟩:=hc
    rw[hz]at hY
    cases hY
    have hl:l= .tmp p:=by cases l<;>simp[aC]at h2;rw[h2]
    have ZC:c= .tmp p:=by cases c<;>simp[aC]at h3;rw[h3]
    subst hl
    subst ZC
    exact K6 C h1 h0 hz (of_decide_eq_true HM) Zs h hs hn
   ·cases hc
  ·cases hc
 |makeMap t r=>
  rw[C]at hc
  cases r with
  |none=>
   simp only[bo]at hc
   split at hc
   ·cases hc
    exact Qt C h hs hn
   ·cases hc
  |some r=>simp[bo]at hc
 |lookup t m k ok=>
  rw[C]at hc
  simp only[bo]at hc
  split at hc
  ·simp only[Option.map_eq_some_iff,Option.bind_eq_some_iff]at hc
   obtain⟨zs,⟨z,hz,HM⟩,rfl⟩:=hc
   exact RQ C ‹_› hz HM ‹_› ‹_› h hs hn
  ·cases hc
 |mapUpdate t m k v=>
  rw[C]at hc
  simp only[bo]at hc
  split at hc
  ·cases hc
   exact MG (.inl C) ‹_› ‹_› ‹_› ‹_› h hs hn
  ·cases hc
 |insert t m k v=>
  rw[C]at hc
  simp only[bo]at hc
  split at hc
  ·cases hc
   exact MG (.inr C) ‹_› ‹_› ‹_› ‹_› h hs hn
  ·cases hc
 |mapEntry t m k=>
  rw[C]at hc
  simp only[bo]at hc
  split at hc
  ·simp only[Option.map_eq_some_iff,Option.bind_eq_some_iff]at hc
   obtain⟨zs,⟨z,hz,HM⟩,rfl⟩:=hc
   exact Rc C ‹_› hz HM ‹_› ‹_› h hs hn
  ·cases hc
 |entryStore t m s v=>
  rw[C]at hc
  simp only[bo]at hc
  split at hc
  ·cases hc
   exact RG C ‹_› ‹_› ‹_› ‹_› h hs hn
  ·cases hc
 |extract x i=>
  rw[C]at hc
  simp only[bo,Option.map_eq_some_iff]at hc
  obtain⟨y,hy,rfl⟩:=hc
  exact Tj C hy h hs hn
 |makeFunc fn first caps=>
  rw[C]at hc
  cases fn with
  |func f=>
   simp only[bo]at hc
   split at hc
   ·simp only[Option.map_eq_some_iff]at hc
    obtain⟨y,hy,rfl⟩:=hc
    exact RA C ‹_› hy h hs hn
   ·cases hc
  |_=>simp[bo]at hc
 |call c=>
  rw[C]at hc
  obtain⟨callee,args,argTypes⟩:=c
  cases callee with
  |value f=>
   simp only[bo]at hc
   split at hc
   ·cases hc
    exact Rz rfl rfl C ‹_› ‹_› h hs hn
   ·cases hc
  |invoke r m=>simp[bo]at hc
  |builtin b=>
   cases b with
   |len=>
    simp only[bo]at hc
    split at hc
    ·split at hc
     ·cases hc
      exact Tn rfl ‹_› ‹_› C ‹_› ‹_› h hs hn
     ·cases hc
      exact RM rfl ‹_› ‹_› C ‹_› ‹_› h hs hn
     ·cases hc
    ·cases hc
   |min=>
    simp only[bo]at hc
    split at hc
    ·split at hc
     ·cases hc
      exact Sw (.inl ⟨rfl,rfl⟩) ‹_› C ‹_› ‹_› h hs hn
     ·cases hc
    ·cases hc
   |max=>
    simp only[bo]at hc
    split at hc
    ·split at hc
     ·cases hc
      exact Sw (.inr ⟨rfl,rfl⟩) ‹_› C ‹_› ‹_› h hs hn
     ·cases hc
    ·split at hc
     ·cases hc
      exact Tx rfl ‹_› C ‹_› ‹_› ‹_› ‹_› h hs hn
     ·cases hc
    ·cases hc
   |append=>
    simp only[bo]at hc
    split at hc
    ·split at hc
     ·rename_i Zt
      subst Zt
      split at hc
      ·split at hc
       ·rename_i hM
        obtain⟨h0,h4⟩:=hM
        obtain⟨z,hz,HM⟩:=wt h4
        cases hc
        exact TT rfl ‹_› ‹_› C ‹_› h0 hz (of_decide_eq_true HM) ‹_› ‹_› h hs hn
       ·cases hc
      ·cases hc
     ·cases hc
    ·cases hc
   |_=>simp[bo]at hc
 |makeInterface t x=>
  rw[C]at hc
  cases hc
  exact h.elim
 |panic x=>
  rw[C]at hc
  cases hc
  exact h.elim
 |_=>rw[C]at hc;simp[bo]at hc
end
open Go.RowKit
def wO (F:(AV→St→Prop)→Prop):Prop:= ∀K,F K→ ∃v σ',F (λv' τ=>v'=v∧τ=σ')∧K v σ'
theorem CK {α:Type} {o:Option α} {F:α→(AV→St→Prop)→Prop} {G:(AV→St→Prop)→Prop} (h: ∀x,wO (F x)) (h':wO G):wO λK=> @qp _ o ⟨λx=>F x K⟩ ⟨G K⟩:= λK hK=>by
 cases o with
 |none=>
  obtain⟨v,s,h1,h2⟩:=h' K (hK.2 rfl)
  exact⟨v,s,⟨(λx e=>by cases e),λ_=>h1⟩,h2⟩
 |some x=>
  obtain⟨v,s,h1,h2⟩:=h x K (hK.1 x rfl)
  exact⟨v,s,⟨λy e=>by cases e;exact h1,(λe=>by cases e)⟩,h2⟩
theorem bq {v:AV} {σ:St}:wO λK=>K v σ:= λK h=>⟨v,σ,⟨rfl,rfl⟩,h⟩
theorem aw:wO λ_=>False:= λK h=>h.elim
theorem bL {p:Prop} {F:(AV→St→Prop)→Prop} (h:wO F):wO λK=> @bO p ⟨F K⟩:= λK hK=>by
 obtain⟨v,s,h1,h2⟩:=h K hK.2
 exact⟨v,s,⟨hK.1,h1⟩,h2⟩
theorem dv {α:Type} {o:Option α} {F:α→(AV→St→Prop)→Prop} (h: ∀x,wO (F x)):wO λK=> @el _ o ⟨λx=>F x K⟩:= λK hK=>by
 obtain⟨x,e,hK⟩:=hK
 obtain⟨v,s,h1,h2⟩:=h x K hK
 exact⟨v,s,⟨x,e,h1⟩,h2⟩
theorem PU {t:Bool} {F G:(AV→St→Prop)→Prop} (h:wO F) (h':wO G):wO λK=> @gY t ⟨F K⟩ ⟨G K⟩:= λK hK=>by
 cases t with
 |true=>
  obtain⟨v,s,h1,h2⟩:=h K (hK.1 rfl)
  exact⟨v,s,⟨λ_=>h1,(λe=>by cases e)⟩,h2⟩
 |false=>
  obtain⟨v,s,h1,h2⟩:=h' K (hK.2 rfl)
  exact⟨v,s,⟨(λe=>by cases e),λ_=>h1⟩,h2⟩
theorem Ox {op:BinOp} {k:IntKind} {a b:Int} {σ:St}:wO λK=>mw op k a b λv=>K (.c (.pure (.val v))) σ:=by
 cases op<;>simp only[mw]<;>first|exact aw|exact bL bq|exact bq
theorem OX {op:BinOp} {a b:ByteArray} {σ:St}:wO λK=>wj op a b λv=>K (.c (.pure (.val v))) σ:=by
 cases op<;>simp only[wj]<;>first|exact aw|exact bL bq|exact bq
theorem Px {op:BinOp} {x y:Value} {σ:St}:wO λK=>Br op x y λv=>K (.c (.pure (.val v))) σ:=by
 unfold Br
 split
 ·exact bL Ox
 ·exact OX
 ·exact aw
theorem CW {op:BinOp} {x y:Value} {σ:St}:wO λK=>nE op x y λv=>K (.c (.pure (.val v))) σ:=by
 unfold nE
 split
 ·refine bL ?_
  cases op<;>simp only[sH]<;>first|exact aw|exact bq
 ·exact aw
theorem GH {σ:St} {F:List AC→(AV→St→Prop)→Prop} (hF: ∀x,wO (F x)): ∀{ps:List (Nat×Nat×AX)} {acc:List AC},wO λK=>bh.buildW σ ps acc λxs=>F xs K
 | [],acc=>hF acc
 |(off,n,x)::ps,acc=>by
  simp only[bh.buildW]
  split
  ·exact bL (GH hF)
  ·exact aw
theorem C7 {σ:St} {sz:Nat} {F:List (List PC)→(AV→St→Prop)→Prop} (hF: ∀x,wO (F x)): ∀{ps:List AX} {acc:List (List PC)},wO λK=>bh.bsliceW σ sz ps acc λxs=>F xs K
 | [],acc=>hF acc
 |x::ps,acc=>by
  simp only[bh.bsliceW]
  split
  ·exact dv λz=>bL (C7 hF)
  ·exact aw
theorem Ag {σ:St} {sz:Nat} {F:List (List PC)→List (Nat×bm)→(AV→St→Prop)→Prop} (hF: ∀x m,wO (F x m)): ∀{ps:List AX} {mem:List (Nat×bm)} {acc:List (List PC)},wO λK=>bh.bsliceFW σ sz ps mem acc λxs m=>F xs m K
 | [],mem,acc=>hF acc mem
 |x::ps,mem,acc=>by
  simp only[bh.bsliceFW]
  split
  ·exact dv λz=>bL (Ag hF)
  ·exact aw
theorem Je {σ:St} {F:List AC→(AV→St→Prop)→Prop} (hF: ∀x,wO (F x)): ∀{ps:List AX} {acc:List AC},wO λK=>bh.mkfnW σ ps acc λxs=>F xs K
 | [],acc=>hF acc
 |x::ps,acc=>by
  simp only[bh.mkfnW]
  split
  ·exact Je hF
  ·exact aw
theorem Pt {P:Program} {g z:Bool} {f:FuncId} {args:List AV} {σ:St}:wO λK=> @AD P g z f args σ ⟨K⟩:=by
 rintro K ⟨l,σ',args',hg,hz,(⟨pargs,h1,res,h2,h4⟩|⟨h1,res,m,n,h2,h4⟩)⟩
 ·exact⟨res,σ',⟨l,σ',args',hg,hz,.inl ⟨pargs,h1,res,h2,rfl,rfl⟩⟩,h4⟩
 ·exact⟨res,_,⟨l,σ',args',hg,hz,.inr ⟨h1,res,m,n,h2,rfl,rfl⟩⟩,h4⟩
theorem RZ {e sz bytes:Nat} {x y:AV} {ys:List (List PC)} {σ:St}:wO λK=> @Fu e sz bytes x y ys σ ⟨K⟩:=by
 rintro K ⟨hJ,h⟩
 rcases h with⟨nm,h1,h2,rows,h3,h4,h5,h6⟩|⟨h1,h|h⟩|⟨rows,h1,h2,⟨h3,h⟩|h|h⟩
 ·exact⟨_,_,⟨hJ,.inl ⟨nm,h1,h2,rows,h3,h4,h5,rfl,rfl⟩⟩,h6⟩
 ·exact⟨_,_,⟨hJ,.inr (.inl ⟨h1,.inl ⟨h.1,h.2.1,rfl,rfl⟩⟩)⟩,h.2.2⟩
 ·exact⟨_,_,⟨hJ,.inr (.inl ⟨h1,.inr ⟨h.1,h.2.1,rfl,rfl⟩⟩)⟩,h.2.2⟩
 ·exact⟨_,_,⟨hJ,.inr (.inr ⟨rows,h1,h2,.inl ⟨h3,h.1,h.2.1,rfl,rfl⟩⟩)⟩,h.2.2⟩
 ·exact⟨_,_,⟨hJ,.inr (.inr ⟨rows,h1,h2,.inr (.inl ⟨h.1,h.2.1,rfl,rfl⟩)⟩)⟩,h.2.2⟩
 ·exact⟨_,_,⟨hJ,.inr (.inr ⟨rows,h1,h2,.inr (.inr ⟨h.1,rfl,rfl⟩)⟩)⟩,h.2⟩
theorem Im {P:Program} {op:dV} {σ:St} (hH:op.gcall=false):wO (bh P op σ):=by
 have eta: ∀{F:(AV→St→Prop)→Prop},wO (λK=>F K)→wO F:= λh=>h
 apply eta
 cases op<;>simp only[bh]
 case mv=>exact bq
 case pick=>split;exact PU bq bq;exact aw
 case box=>split;exact bq;exact aw
 case load=>
  split
  ·split
   ·split
    ·split
     ·exact bq
     ·exact aw
    ·exact bL bq
   ·exact aw
  ·exact aw
 case store=>
  split
  ·split
   ·exact bL bq
   ·exact aw
  ·split
   ·exact bL (dv λz=>dv λr=>bq)
   ·exact bL (dv λr=>bq)
   ·exact aw
  ·exact aw
 case bin=>
  split
  ·split
   ·exact CW
   ·exact CW
   ·exact Px
  ·exact aw
 case eqb=>split;exact bq;exact aw
 case eqs=>split;exact bL bq;exact aw
 case un=>split<;>first|exact bq|exact aw
 case conv=>split;exact bq;exact aw
 case fieldA=>split<;>first|exact bq|exact aw
 case field=>
  split
  ·split
   ·split
    ·exact bq
    ·exact aw
   ·exact bL bq
  ·exact aw
 case idxA=>
  split
  ·exact bL (dv λr=>bL bq)
  ·exact bL (dv λr=>bL bq)
  ·split
   ·exact bL bq
   ·exact bL bq
   ·exact aw
  ·exact aw
 case idxR=>split<;>first|exact bL bq|exact aw
 case idxS=>split;exact bL (dv λb=>bq);exact aw
 case nilc=>split<;>first|exact bq|exact aw
 case build=>exact GH λx=>bq
 case bslice=>exact C7 λx=>bq
 case mkslice=>split;exact bL bq;exact aw
 case slc=>
  split
  ·exact aw
  ·exact dv λrows=>dv λlo=>dv λhi=>dv λmx=>bL bq
 case slcS=>split;exact bL bq;exact aw
 case ext=>split;exact dv λv=>bq;exact aw
 case len=>
  split
  ·exact bq
  ·exact bq
  ·exact bq
  ·split
   ·exact bq
   ·exact bq
   ·exact aw
  ·exact aw
 case lenS=>split;exact bq;exact aw
 case mm=>split;exact bq;exact aw
 case mm4=>split;exact bq;exact aw
 case dead=>exact aw
 case fnil=>split;exact bq;exact bq;exact aw
 case snil=>cases hH
 case app=>exact dv λys=>RZ
 case mkfn=>exact Je λx=>bq
 case call=>split;exact Pt;exact aw
 case bsliceF=>exact Ag λx m=>bq
 case mkmap=>exact bq
 case mget=>
  split
  ·refine dv λmk=> ?_
   split
   ·split
    ·exact bL (CK (λps=>bq) bq)
    ·exact aw
   ·exact bL (CK (λps=>bq) bq)
   ·exact aw
  ·exact aw
 case mput=>
  split
  ·refine dv λmk=> ?_
   split
   ·refine dv λys=> ?_
    split
    ·exact bL bq
    ·exact aw
   ·exact aw
  ·exact aw
 case ment=>
  split
  ·refine dv λmk=> ?_
   split
   ·split
    ·exact bL (CK (λps=>bq) bq)
    ·exact aw
   ·exact aw
  ·exact aw
 case eput=>
  split
  ·split
   ·refine dv λys=> ?_
    split
    ·exact bL bq
    ·exact aw
   ·exact aw
  ·exact aw
theorem bn {fr fr2:List (Nat×AV)} {x:AX} (h: ∀t∈x.tmps,aL fr2 t=aL fr t):x.ev fr2=x.ev fr:=by
 cases x with
 |t n=>exact h n (by simp[AX.tmps])
 |k v=>rfl
def iq (s s2:St) (F F2:(AV→St→Prop)→Prop):Prop:= ∀K K2,(∀v,K v s→K2 v s2)→F K→F2 K2
section
variable {s s2 : St}
theorem bF {v:AV}:iq s s2 (λK=>K v s) (λK=>K v s2):= λK K2 hk h=>hk v h
theorem aI {F2:(AV→St→Prop)→Prop}:iq s s2 (λ_=>False) F2:= λK K2 hk h=>h.elim
theorem di {p:Prop} {F F2:(AV→St→Prop)→Prop} (h:iq s s2 F F2):iq s s2 (λK=> @bO p ⟨F K⟩) (λK=> @bO p ⟨F2 K⟩):= λK K2 hk hK=>⟨hK.1,h K K2 hk hK.2⟩
theorem lj {α:Type} {o:Option α} {F F2:α→(AV→St→Prop)→Prop} (h: ∀x,iq s s2 (F x) (F2 x)):iq s s2 (λK=> @el _ o ⟨λx=>F x K⟩) (λK=> @el _ o ⟨λx=>F2 x K⟩):= λK K2 hk hK=>by
 obtain⟨x,e,hK⟩:=hK
 exact⟨x,e,h x K K2 hk hK⟩
theorem Qn {α:Type} {o o2:Option α} (ho: ∀x,o=some x→o2=some x) {F F2:α→(AV→St→Prop)→Prop} (h: ∀x,iq s s2 (F x) (F2 x)):iq s s2 (λK=> @el _ o ⟨λx=>F x K⟩) (λK=> @el _ o2 ⟨λx=>F2 x K⟩):= λK K2 hk hK=>by
 obtain⟨x,e,hK⟩:=hK
 exact⟨x,ho x e,h x K K2 hk hK⟩
theorem PP {t:Bool} {F G F2 G2:(AV→St→Prop)→Prop} (h:iq s s2 F F2) (h':iq s s2 G G2):iq s s2 (λK=> @gY t ⟨F K⟩ ⟨G K⟩) (λK=> @gY t ⟨F2 K⟩ ⟨G2 K⟩):= λK K2 hk hK=>
 ⟨λe=>h K K2 hk (hK.1 e),λe=>h' K K2 hk (hK.2 e)⟩
theorem Ig {rows:List (List PC)} {F G F2 G2:(AV→St→Prop)→Prop} (h:iq s s2 F F2) (h':iq s s2 G G2):iq s s2 (λK=> @Ib rows ⟨F K⟩ ⟨G K⟩) (λK=> @Ib rows ⟨F2 K⟩ ⟨G2 K⟩):= λK K2 hk hK=>
 ⟨λe=>h K K2 hk (hK.1 e),h' K K2 hk hK.2⟩
theorem Jh {α:Type} {o:Option α} {F F2:α→(AV→St→Prop)→Prop} {G G2:(AV→St→Prop)→Prop} (h: ∀x,iq s s2 (F x) (F2 x)) (h':iq s s2 G G2):iq s s2 (λK=> @qp _ o ⟨λx=>F x K⟩ ⟨G K⟩) (λK=> @qp _ o ⟨λx=>F2 x K⟩ ⟨G2 K⟩):= λK K2 hk hK=>
 ⟨λx e=>h x K K2 hk (hK.1 x e),λe=>h' K K2 hk (hK.2 e)⟩
theorem OC {op:BinOp} {k:IntKind} {a b:Int}:iq s s2 (λK=>mw op k a b λv=>K (.c (.pure (.val v))) s) (λK=>mw op k a b λv=>K (.c (.pure (.val v))) s2):=by
 cases op<;>simp only[mw]<;>first|exact aI|exact di bF|exact bF
theorem Og {op:BinOp} {a b:ByteArray}:iq s s2 (λK=>wj op a b λv=>K (.c (.pure (.val v))) s) (λK=>wj op a b λv=>K (.c (.pure (.val v))) s2):=by
 cases op<;>simp only[wj]<;>first|exact aI|exact di bF|exact bF
theorem Qg {op:BinOp} {x y:Value}:iq s s2 (λK=>Br op x y λv=>K (.c (.pure (.val v))) s) (λK=>Br op x y λv=>K (.c (.pure (.val v))) s2):=by
 unfold Br
 split
 ·exact di OC
 ·exact Og
 ·exact aI
theorem Em {op:BinOp} {x y:Value}:iq s s2 (λK=>nE op x y λv=>K (.c (.pure (.val v))) s) (λK=>nE op x y λv=>K (.c (.pure (.val v))) s2):=by
 unfold nE
 split
 ·refine di ?_
  cases op<;>simp only[sH]<;>first|exact aI|exact bF
 ·exact aI
theorem Gy {F F2:List AC→(AV→St→Prop)→Prop} (hF: ∀x,iq s s2 (F x) (F2 x)): ∀{ps:List (Nat×Nat×AX)} {acc:List AC},(∀t∈C6 ps,aL s2.fr t=aL s.fr t)→iq s s2 (λK=>bh.buildW s ps acc λxs=>F xs K) (λK=>bh.buildW s2 ps acc λxs=>F2 xs K)
 | [],acc,h=>hF acc
 |(off,n,x)::ps,acc,h=>by
  simp only[bh.buildW]
  rw[bn λt ht=>h t (by simp[C6,ht])]
  split
  ·exact di (Gy hF λt ht=>h t (by simp[C6,ht]))
  ·exact aI
theorem D9 {sz:Nat} {F F2:List (List PC)→(AV→St→Prop)→Prop} (hF: ∀x,iq s s2 (F x) (F2 x)): ∀{ps:List AX} {acc:List (List PC)},(∀t∈gh ps,aL s2.fr t=aL s.fr t)→iq s s2 (λK=>bh.bsliceW s sz ps acc λxs=>F xs K) (λK=>bh.bsliceW s2 sz ps acc λxs=>F2 xs K)
 | [],acc,h=>hF acc
 |x::ps,acc,h=>by
  simp only[bh.bsliceW]
  rw[bn λt ht=>h t (by simp[gh,ht])]
  split
  ·exact lj λz=>di (D9 hF λt ht=>h t (by simp[gh,ht]))
  ·exact aI
theorem Kf {F F2:List AC→(AV→St→Prop)→Prop} (hF: ∀x,iq s s2 (F x) (F2 x)): ∀{ps:List AX} {acc:List AC},(∀t∈gh ps,aL s2.fr t=aL s.fr t)→iq s s2 (λK=>bh.mkfnW s ps acc λxs=>F xs K) (λK=>bh.mkfnW s2 ps acc λxs=>F2 xs K)
 | [],acc,h=>hF acc
 |x::ps,acc,h=>by
  simp only[bh.mkfnW]
  rw[bn λt ht=>h t (by simp[gh,ht])]
  split
  ·exact Kf hF λt ht=>h t (by simp[gh,ht])
  ·exact aI
theorem rc {y:Option AX} (h: ∀t∈GS y,aL s2.fr t=aL s.fr t):bh.boundOf s2 y=bh.boundOf s y:=by
 cases y with
 |none=>rfl
 |some x=>simp only[bh.boundOf,bn (x:=x) h]
theorem Ls {fr fr2:List (Nat×AV)}: ∀{xs:List AX},(∀t∈gh xs,aL fr2 t=aL fr t)→xs.map (·.ev fr2)=xs.map (·.ev fr)
 | [],_=>rfl
 |x::xs,h=>by
  rw[List.map_cons,List.map_cons,bn λt ht=>h t (by simp[gh,ht]),Ls λt ht=>h t (by simp[gh,ht])]
end
theorem Pb {m m':List (Nat×bm)} (hm:jU m m') {q:AC} {xs:List AC} (h:bv m q=some xs):bv m' q=some xs:=by
 unfold bv at h ⊢
 split at h
 ·rename_i nm off
  split at h
  ·rename_i hf;rw[hm _ _ hf];exact h
  ·cases h
 ·exact h
 ·rename_i nm sz row off
  split at h
  ·rename_i hf;rw[hm _ _ hf];exact h
  ·rename_i hf;rw[hm _ _ hf];exact h
  ·cases h
 ·cases h
theorem PY {m m':List (Nat×bm)} (hm:jU m m') {x:AV} {rows:List (List PC)} (h:eL m x=some rows):eL m' x=some rows:=by
 unfold eL at h ⊢
 split at h
 ·exact h
 ·exact h
 ·exact h
 ·rename_i nm
  split at h
  ·rename_i hf;rw[hm _ _ hf];exact h
  ·cases h
 ·cases h
theorem Dv {m m':List (Nat×bm)} (hm:jU m m') {x:AC} {p:PC} (h:cG m x=some p):cG m' x=some p:=by
 unfold cG at h ⊢
 split at h
 ·exact h
 ·exact h
 ·exact h
 ·rename_i nm
  split at h
  ·rename_i hf;rw[hm _ _ hf];exact h
  ·cases h
 ·cases h
theorem Gm {m m':List (Nat×bm)} (hm:jU m m'): ∀{xs:List AC} {ps:List PC},um m xs=some ps→um m' xs=some ps
 | [],ps,h=>h
 |x::xs,ps,h=>by
  unfold um at h ⊢
  split at h
  ·rename_i h1 h2
   rw[Dv hm h1,Gm hm h2]
   exact h
  ·cases h
theorem KA {m m':List (Nat×bm)} (hm:jU m m') {n:Option Nat} {xs:List AC} {ps:List PC} (h:lJ m n xs=some ps):lJ m' n xs=some ps:=by
 unfold lJ at h ⊢
 split at h
 ·split at h
  ·rename_i h1;rw[Dv hm h1];exact h
  ·cases h
 ·cases h
 ·exact Gm hm h
theorem zU {m m':List (Nat×bm)} (hm:jU m m') {n:Option Nat}: ∀{xs:List (MK×List AC)} {ps:List (MK×List PC)},jd m n xs=some ps→jd m' n xs=some ps
 | [],ps,h=>h
 |x::xs,ps,h=>by
  unfold jd at h ⊢
  split at h
  ·rename_i h1 h2
   rw[KA hm h1,zU hm h2]
   exact h
  ·cases h
theorem Pv {m m':List (Nat×bm)} (hm:jU m m') {x:AC} {p:PC} (h:dn m x=some p):dn m' x=some p:=by
 unfold dn at h ⊢
 split at h
 ·rename_i nm
  split at h
  ·rename_i hf
   rw[hm _ _ hf]
   simp only
   split at h
   ·rename_i h1;rw[zU hm h1];exact h
   ·cases h
  ·cases h
 ·exact Dv hm h
theorem Gt {m m':List (Nat×bm)} (hm:jU m m'): ∀{xs:List AC} {ps:List PC},bC m xs=some ps→bC m' xs=some ps
 | [],ps,h=>h
 |x::xs,ps,h=>by
  unfold bC at h ⊢
  split at h
  ·rename_i h1 h2
   rw[Pv hm h1,Gt hm h2]
   exact h
  ·cases h
theorem Jv {m m':List (Nat×bm)} (hm:jU m m') {x y:AC} (h:dh m x=some y):dh m' x=some y:=by
 unfold dh at h ⊢
 split at h
 ·exact h
 ·exact h
 ·exact h
 ·rename_i nm
  split at h
  ·rename_i hf;rw[hm _ _ hf];exact h
  ·cases h
 ·exact h
 ·rename_i nm off
  split at h
  ·rename_i hf
   rw[hm _ _ hf]
   simp only
   split at h
   ·rename_i h1;rw[Gt hm h1];exact h
   ·cases h
  ·cases h
 ·rename_i nm
  split at h
  ·rename_i hf
   rw[hm _ _ hf]
   simp only
   split at h
   ·rename_i h1;rw[zU hm h1];exact h
   ·cases h
  ·cases h
 ·cases h
theorem Gc {m m':List (Nat×bm)} (hm:jU m m'): ∀{xs ys:List AC},AM m xs=some ys→AM m' xs=some ys
 | [],ps,h=>h
 |x::xs,ps,h=>by
  unfold AM at h ⊢
  split at h
  ·rename_i h1 h2
   rw[Jv hm h1,Gc hm h2]
   exact h
  ·cases h
theorem JV {m m':List (Nat×bm)} (hm:jU m m') {x y:AC} (h:dk m x=some y):dk m' x=some y:=by
 unfold dk at h ⊢
 split at h
 ·split at h
  ·rename_i h1;rw[Gc hm h1];exact h
  ·cases h
 ·exact Jv hm h
theorem F6 {m m':List (Nat×bm)} (hm:jU m m'): ∀{xs ys:List AC},An m xs=some ys→An m' xs=some ys
 | [],ps,h=>h
 |x::xs,ps,h=>by
  unfold An at h ⊢
  split at h
  ·rename_i h1 h2
   rw[JV hm h1,F6 hm h2]
   exact h
  ·cases h
theorem Oq {m m':List (Nat×bm)} (hm:jU m m') {x y:AV} (h:c9 m x=some y):c9 m' x=some y:=by
 unfold c9 at h ⊢
 split at h
 ·split at h
  ·rename_i h1;rw[JV hm h1];exact h
  ·cases h
 ·split at h
  ·rename_i h1;rw[F6 hm h1];exact h
  ·cases h
 ·cases h
theorem FE {m m':List (Nat×bm)} (hm:jU m m'): ∀{xs ys:List AV},ba m xs=some ys→ba m' xs=some ys
 | [],ps,h=>h
 |x::xs,ps,h=>by
  unfold ba at h ⊢
  split at h
  ·rename_i h1 h2
   rw[Oq hm h1,FE hm h2]
   exact h
  ·cases h
section
variable {P : Program} {op : dV}
theorem Ms {s s2:St} (he:op.eff=false) (hm:op.sens=true→jU s.mem s2.mem) (hf: ∀t∈op.tmps,aL s2.fr t=aL s.fr t):iq s s2 (bh P op s) (bh P op s2):=by
 have eta: ∀{F F2:(AV→St→Prop)→Prop},iq s s2 (λK=>F K) (λK=>F2 K)→iq s s2 F F2:= λh=>h
 apply eta
 cases op<;>simp only[bh]<;>simp[dV.eff]at he
 case mv=>rw[bn hf];exact bF
 case pick c a b=>
  rw[bn (x:=c) λt ht=>hf t (by simp[dV.tmps,ht]),bn (x:=a) λt ht=>hf t (by simp[dV.tmps,ht]),bn (x:=b) λt ht=>hf t (by simp[dV.tmps,ht])]
  split;exact PP bF bF;exact aI
 case load n p=>
  rw[bn (x:=p) λt ht=>hf t (by simp[dV.tmps,ht])]
  split
  ·split
   ·rename_i hl
    rw[Pb (hm rfl) hl]
    simp only
    split
    ·split
     ·exact bF
     ·exact aI
    ·exact di bF
   ·exact aI
  ·exact aI
 case bin op x y=>
  rw[bn (x:=x) λt ht=>hf t (by simp[dV.tmps,ht]),bn (x:=y) λt ht=>hf t (by simp[dV.tmps,ht])]
  split
  ·split
   ·exact Em
   ·exact Em
   ·exact Qg
  ·exact aI
 case eqb n x y=>
  rw[bn (x:=x) λt ht=>hf t (by simp[dV.tmps,ht]),bn (x:=y) λt ht=>hf t (by simp[dV.tmps,ht])]
  split;exact bF;exact aI
 case eqs n l x y=>
  rw[bn (x:=x) λt ht=>hf t (by simp[dV.tmps,ht]),bn (x:=y) λt ht=>hf t (by simp[dV.tmps,ht])]
  split;exact di bF;exact aI
 case un=>rw[bn hf];split<;>first|exact bF|exact aI
 case conv=>rw[bn hf];split;exact bF;exact aI
 case fieldA=>rw[bn hf];split<;>first|exact bF|exact aI
 case field=>
  rw[bn hf]
  split
  ·split
   ·split
    ·exact bF
    ·exact aI
   ·exact di bF
  ·exact aI
 case idxA sz x y=>
  rw[bn (x:=x) λt ht=>hf t (by simp[dV.tmps,ht]),bn (x:=y) λt ht=>hf t (by simp[dV.tmps,ht])]
  split
  ·exact di (lj λr=>di bF)
  ·exact di (lj λr=>di bF)
  ·split
   ·rename_i hl
    rw[hm rfl _ _ hl]
    exact di bF
   ·rename_i hl
    rw[hm rfl _ _ hl]
    exact di bF
   ·exact aI
  ·exact aI
 case idxR l sz x y=>
  rw[bn (x:=x) λt ht=>hf t (by simp[dV.tmps,ht]),bn (x:=y) λt ht=>hf t (by simp[dV.tmps,ht])]
  split<;>first|exact di bF|exact aI
 case idxS x y=>
  rw[bn (x:=x) λt ht=>hf t (by simp[dV.tmps,ht]),bn (x:=y) λt ht=>hf t (by simp[dV.tmps,ht])]
  split;exact di (lj λb=>bF);exact aI
 case nilc=>rw[bn hf];split<;>first|exact bF|exact aI
 case build=>exact Gy (λx=>bF) hf
 case bslice=>exact D9 (λx=>bF) hf
 case slc sz x l h m=>
  rw[bn (x:=x) λt ht=>hf t (by simp[dV.tmps,ht]),rc (y:=l) λt ht=>hf t (by simp[dV.tmps,ht]),rc (y:=h) λt ht=>hf t (by simp[dV.tmps,ht]),rc (y:=m) λt ht=>hf t (by simp[dV.tmps,ht])]
  split
  ·exact aI
  ·exact Qn (λrows hr=>PY (hm rfl) hr) λrows=>lj λlo=>lj λhi=>lj λmx=>di bF
 case slcS x l h=>
  rw[bn (x:=x) λt ht=>hf t (by simp[dV.tmps,ht]),rc (y:=l) λt ht=>hf t (by simp[dV.tmps,ht]),rc (y:=h) λt ht=>hf t (by simp[dV.tmps,ht])]
  split;exact di bF;exact aI
 case ext=>rw[bn hf];split;exact lj λv=>bF;exact aI
 case len=>
  rw[bn hf]
  split
  ·exact bF
  ·exact bF
  ·exact bF
  ·split
   ·rename_i hl
    rw[hm rfl _ _ hl]
    exact bF
   ·rename_i hl
    rw[hm rfl _ _ hl]
    exact bF
   ·exact aI
  ·exact aI
 case lenS=>rw[bn hf];split;exact bF;exact aI
 case mm4 x y z t=>
  rw[bn (x:=x) λu hu=>hf u (by simp[dV.tmps,hu]),bn (x:=y) λu hu=>hf u (by simp[dV.tmps,hu]),bn (x:=z) λu hu=>hf u (by simp[dV.tmps,hu]),bn (x:=t) λu hu=>hf u (by simp[dV.tmps,hu])]
  split;exact bF;exact aI
 case dead=>exact aI
 case mm m x y=>
  rw[bn (x:=x) λt ht=>hf t (by simp[dV.tmps,ht]),bn (x:=y) λt ht=>hf t (by simp[dV.tmps,ht])]
  split;exact bF;exact aI
 case fnil=>rw[bn hf];split;exact bF;exact bF;exact aI
 case snil=>
  rw[bn hf]
  split
  ·exact bF
  ·exact Ig bF bF
  ·exact Ig bF bF
  ·split
   ·rename_i hl
    rw[hm rfl _ _ hl]
    exact Ig bF bF
   ·exact aI
  ·exact aI
 case mkfn=>exact Kf (λx=>bF) hf
 case call g z f xs=>
  obtain⟨rfl,rfl⟩:=he
  rw[bn (x:=f) λt ht=>hf t (by simp[dV.tmps,ht]),Ls (xs:=xs) λt ht=>hf t (by simp[dV.tmps,ht])]
  split
  ·rintro K K2 hk ⟨l,σ',args',hl,hz,(⟨pargs,h1,res,h2,h4⟩|⟨h1,_⟩)⟩
   ·rcases hl with rfl|hl
    ·cases hz
     exact⟨[],_,_,.inl rfl,rfl,.inl ⟨pargs,FE (hm rfl) h1,res,h2,hk _ h4⟩⟩
    ·cases hl
   ·cases h1
  ·exact aI
 case mget kt n z ok m k=>
  rw[bn (x:=m) λt ht=>hf t (by simp[dV.tmps,ht]),bn (x:=k) λt ht=>hf t (by simp[dV.tmps,ht])]
  split
  ·refine lj λmk=> ?_
   split
   ·split
    ·rename_i hl
     rw[hm rfl _ _ hl]
     exact di (Jh (λps=>bF) bF)
    ·exact aI
   ·exact di (Jh (λps=>bF) bF)
   ·exact aI
  ·exact aI
theorem Ad {s s2:St} {sz:Nat} {F F2:List (List PC)→List (Nat×bm)→Prop} (hF: ∀x m,F x m→F2 x m): ∀{ps:List AX} {mem:List (Nat×bm)} {acc:List (List PC)},(∀t∈gh ps,aL s2.fr t=aL s.fr t)→bh.bsliceFW s sz ps mem acc F→bh.bsliceFW s2 sz ps mem acc F2
 | [],mem,acc,h,h1=>hF _ _ h1
 |x::ps,mem,acc,h,h1=>by
  simp only[bh.bsliceFW]at h1 ⊢
  rw[bn λt ht=>h t (by simp[gh,ht])]
  split at h1
  ·obtain⟨z,e,h2,h3⟩:=h1
   exact⟨z,e,h2,Ad hF (λt ht=>h t (by simp[gh,ht])) h3⟩
  ·exact h1.elim
theorem LY {fr fr2:List (Nat×AV)} {mem:List (Nat×bm)} {nx b:Nat} {K K2:AV→St→Prop} (he:op.eff=true) (hH:op.gcall=false) (hf: ∀t∈op.tmps,aL fr2 t=aL fr t) (hk: ∀v m n,K v ⟨fr,m,n,b⟩→K2 v ⟨fr2,m,n,b⟩) (h:bh P op ⟨fr,mem,nx,b⟩ K):bh P op ⟨fr2,mem,nx,b⟩ K2:=by
 cases op<;>simp[dV.eff]at he<;>simp only[bh]at h ⊢
 case box x=>
  rw[bn (x:=x) hf]
  split at h
  ·exact hk _ _ _ h
  ·exact h.elim
 case store n x y=>
  rw[bn (x:=x) λt ht=>hf t (by simp[dV.tmps,ht]),bn (x:=y) λt ht=>hf t (by simp[dV.tmps,ht])]
  split at h
  ·split at h
   ·exact⟨h.1,hk _ _ _ h.2⟩
   ·exact h.elim
  ·split at h
   ·obtain⟨h1,zs,h2,r,h3,h4⟩:=h
    exact⟨h1,zs,h2,r,h3,hk _ _ _ h4⟩
   ·obtain⟨h1,r,h3,h4⟩:=h
    exact⟨h1,r,h3,hk _ _ _ h4⟩
   ·exact h.elim
  ·exact h.elim
 case mkslice e sz b z x=>
  rw[bn (x:=x) hf]
  split at h
  ·exact⟨h.1,hk _ _ _ h.2⟩
  ·exact h.elim
 case call g z f xs=>
  simp only[dV.gcall]at hH
  subst hH
  rw[bn (x:=f) λt ht=>hf t (by simp[dV.tmps,ht]),Ls (xs:=xs) λt ht=>hf t (by simp[dV.tmps,ht])]
  split at h
  ·obtain⟨l,σ',args',hl,hz,h⟩:=h
   rcases hl with rfl|hl
   ·cases hz
    rcases h with⟨pargs,h1,res,h2,h4⟩|⟨h1,res,m,n,h2,h4⟩
    ·exact⟨[],_,_,.inl rfl,rfl,.inl ⟨pargs,h1,res,h2,hk _ _ _ h4⟩⟩
    ·exact⟨[],_,_,.inl rfl,rfl,.inr ⟨h1,res,m,n,h2,hk _ _ _ h4⟩⟩
   ·cases hl
  ·exact h.elim
 case bsliceF sz xs=>exact Ad (s:=⟨fr,mem,nx,b⟩) (s2:=⟨fr2,mem,nx,b⟩) (λx m h=>hk _ _ _ h) hf h
 case mkmap kt n=>exact hk _ _ _ h
 case mput kt n m k v=>
  rw[bn (x:=m) λt ht=>hf t (by simp[dV.tmps,ht]),bn (x:=k) λt ht=>hf t (by simp[dV.tmps,ht]),bn (x:=v) λt ht=>hf t (by simp[dV.tmps,ht])]
  split at h
  ·obtain⟨mk,ZD,h⟩:=h
   refine⟨mk,ZD, ?_⟩
   simp only at h ⊢
   split at h
   ·obtain⟨ys,H7,h⟩:=h
    refine⟨ys,H7, ?_⟩
    simp only at h ⊢
    split at h
    ·exact⟨h.1,hk _ _ _ h.2⟩
    ·exact h.elim
   ·exact h.elim
  ·exact h.elim
 case ment kt n z m k=>
  rw[bn (x:=m) λt ht=>hf t (by simp[dV.tmps,ht]),bn (x:=k) λt ht=>hf t (by simp[dV.tmps,ht])]
  split at h
  ·obtain⟨mk,ZD,h⟩:=h
   refine⟨mk,ZD, ?_⟩
   simp only at h ⊢
   split at h
   ·split at h
    ·exact⟨h.1,λx e=>hk _ _ _ (h.2.1 x e),λe=>hk _ _ _ (h.2.2 e)⟩
    ·exact h.elim
   ·exact h.elim
  ·exact h.elim
 case eput kt n m k v=>
  rw[bn (x:=m) λt ht=>hf t (by simp[dV.tmps,ht]),bn (x:=k) λt ht=>hf t (by simp[dV.tmps,ht]),bn (x:=v) λt ht=>hf t (by simp[dV.tmps,ht])]
  split at h
  ·split at h
   ·obtain⟨ys,H7,h⟩:=h
    refine⟨ys,H7, ?_⟩
    simp only at h ⊢
    split at h
    ·exact⟨h.1,hk _ _ _ h.2⟩
    ·exact h.elim
   ·exact h.elim
  ·exact h.elim
 case app e sz b x y=>
  rw[bn (x:=x) λt ht=>hf t (by simp[dV.tmps,ht]),bn (x:=y) λt ht=>hf t (by simp[dV.tmps,ht])]
  obtain⟨ys,H7,hJ,h⟩:=h
  refine⟨ys,H7,hJ, ?_⟩
  rcases h with⟨nm,h1,h2,rows,h3,h4,h5,h6⟩|⟨h1,h|h⟩|⟨rows,h1,h2,⟨h3,h⟩|h|h⟩
  ·exact .inl ⟨nm,h1,h2,rows,h3,h4,h5,hk _ _ _ h6⟩
  ·exact .inr (.inl ⟨h1,.inl ⟨h.1,h.2.1,hk _ _ _ h.2.2⟩⟩)
  ·exact .inr (.inl ⟨h1,.inr ⟨h.1,h.2.1,hk _ _ _ h.2.2⟩⟩)
  ·exact .inr (.inr ⟨rows,h1,h2,.inl ⟨h3,h.1,h.2.1,hk _ _ _ h.2.2⟩⟩)
  ·exact .inr (.inr ⟨rows,h1,h2,.inr (.inl ⟨h.1,h.2.1,hk _ _ _ h.2.2⟩)⟩)
  ·exact .inr (.inr ⟨rows,h1,h2,.inr (.inr ⟨h.1,hk _ _ _ h.2⟩)⟩)
end
open Go.RowKit
theorem oT {P:Program} {op:dV} {σ:St} {v:AV} {τ:St} (hH:op.gcall=false) (h:bh P op σ λv' τ'=>v'=v∧τ'=τ):τ.fr=σ.fr∧τ.base=σ.base∧(op.eff=false→τ=σ):=by
 by_cases he:op.eff=true
 ·obtain⟨fr,mem,nx,b⟩:=σ
  have h2:=LY (fr2:=fr) (K2:= λv' τ'=>(v'=v∧τ'=τ)∧τ'.fr=fr∧τ'.base=b) he hH (λ_ _=>rfl) (λv m n hk=>⟨hk,rfl,rfl⟩) h
  obtain⟨v2,s2,_,⟨_,h4⟩,h5⟩:=Im hH _ h2
  rw[←h4];exact⟨h5.1,h5.2,λe=>by rw[he]at e;cases e⟩
 ·have HQ:op.eff=false:=by simpa using he
  have h2:=Ms (s2:=σ) HQ (λ_ _ _ h=>h) (λ_ _=>rfl) (λv' τ'=>v'=v∧τ'=τ) (λv' τ'=>(v'=v∧τ'=τ)∧τ'=σ) (λv' hk=>⟨hk,rfl⟩) h
  obtain⟨v2,s2,_,⟨_,h4⟩,h5⟩:=Im hH _ h2
  subst h4
  subst h5
  exact⟨rfl,rfl,λ_=>rfl⟩
def kH (P:Program) (g:AG) (σ:St) (v:AV) (σ':St):Prop:=
 ((g.op.gcall=false∧(g.guard=none∨ ∃t want,g.guard=some (t,want)∧aL σ.fr t= .c (.pure (.val (.bool want)))))∧ ∃τ,(bh P g.op σ λv' τ'=>v'=v∧τ'=τ)∧σ'=τ.put g.dst v)∨
 (∃t want,g.guard=some (t,want)∧(aL σ.fr t= .tup []∨aL σ.fr t= .c (.pure (.val (.bool (!want)))))∧v= .tup []∧σ'=σ.put g.dst (.tup []))
theorem DS {P:Program} {K:St→Prop}: ∀{gs:List (Bool×AG)} {σ:St},(gs.all λy=> !y.2.op.gcall)=true→jj P gs σ K→ ∃(v:Nat→AV) (s:Nat→St),s 0=σ∧(∀k y,gs[k]? =some y→kH P y.2 (s k) (v k) (s (k+1))∧(y.1=true→jU (s k).mem (s (k+1)).mem))∧K (s gs.length)
 | [],σ,_,h=>⟨λ_=> .top,λ_=>σ,rfl,(λk g hk=>by simp at hk),h⟩
 |(x,g)::gs,σ,hC,h=>by
  simp only[List.all_cons,Bool.and_eq_true,Bool.not_eq_true']at hC
  have pmem: ∀{τ:St} {v:AV},(τ.put g.dst v).mem=τ.mem:= λ{τ v}=>by cases g.dst<;>rfl
  have one: ∃v σ',(kH P g σ v σ'∧(x=true→jU σ.mem σ'.mem))∧jj P gs σ' K:=by
   have run:(g.guard=none∨ ∃t want,g.guard=some (t,want)∧aL σ.fr t= .c (.pure (.val (.bool want))))→(bh P g.op σ λv σ'=> @bO (x=true→Ly σ.mem σ'.mem) ⟨jj P gs (σ'.put g.dst v) K⟩)→ ∃v σ',(kH P g σ v σ'∧(x=true→jU σ.mem σ'.mem))∧jj P gs σ' K:=by
    intro hg h
    obtain⟨v,τ,h1,h2,h3⟩:=Im hC.1 _ h
    exact⟨v,_,⟨.inl ⟨⟨hC.1,hg⟩,τ,h1,rfl⟩,by rw[pmem];exact λe=>RE (h2 e)⟩,h3⟩
   simp only[jj]at h
   split at h
   ·rename_i hg
    exact run (.inl hg) h
   ·rename_i t want hg
    split at h
    ·rename_i b hb
     by_cases e:b=want
     ·subst e
      exact run (.inr ⟨t,b,hg,hb⟩) (h.1 (by simp))
     ·refine⟨.tup [],_,⟨.inr ⟨t,want,hg,.inr ?_,rfl,rfl⟩,λ_=>by rw[pmem];exact λ_ _ h=>h⟩,h.2 (by simp[e])⟩
      rw[hb]
      cases b<;>cases want<;>simp_all
    ·rename_i hb
     exact⟨.tup [],_,⟨.inr ⟨t,want,hg,.inl hb,rfl,rfl⟩,λ_=>by rw[pmem];exact λ_ _ h=>h⟩,h⟩
    ·exact h.elim
  obtain⟨v0,σ1,h1,h2⟩:=one
  obtain⟨v,s,g1,g2,g3⟩:=DS hC.2 h2
  refine⟨λk=>match k with|0=>v0|k+1=>v k,λk=>match k with|0=>σ|k+1=>s k,rfl,λk g' hk=> ?_,g3⟩
  cases k with
  |zero=>
   simp at hk
   subst hk
   show kH P g σ v0 (s 0)∧(x=true→jU σ.mem (s 0).mem)
   rw[g1]
   exact h1
  |succ k=>exact g2 k g' (by simpa using hk)
theorem Cu: ∀{ops:List Oper} {k j:Nat} {o:Oper},tJ k ops=true→ops[j]? =some o→ ∀e∈o.after.toList,Region.binds .any e=true→e.on<k+j
 | [],k,j,o,h,hj=>by simp at hj
 |x::ops,k,j,o,h,hj=>by
  simp only[tJ,Bool.and_eq_true,List.all_eq_true,decide_eq_true_eq,Bool.or_eq_true,Bool.not_eq_true']at h
  cases j with
  |zero=>
   simp at hj
   subst hj
   intro e he hb
   rcases h.1 e he with h|h
   ·rw[hb]at h;cases h
   ·exact h
  |succ j=>
   simp at hj
   intro e he hb
   have:=Cu h.2 hj e he hb
   omega
theorem BS {acc:List (Nat×Nat)} {i:Nat}: ∀{ks:List Nat},(UI acc ks).testBit i=true→ ∃k∈ks,k=i∨(su acc k).testBit i=true
 | [],h=>by simp[UI]at h
 |k::r,h=>by
  simp only[UI]at h
  rw[Nat.testBit_or,Nat.testBit_or]at h
  simp only[Bool.or_eq_true]at h
  rcases h with(h|h)|h
  ·refine⟨k,List.mem_cons_self,.inl ?_⟩
   rw[Nat.testBit_two_pow]at h
   simpa using h
  ·exact⟨k,List.mem_cons_self,.inr h⟩
  ·obtain⟨k',h1,h2⟩:=BS h
   exact⟨k',List.mem_cons_of_mem _ h1,h2⟩
def Hk (ops:List Oper) (E:List (Nat×Nat)) (S:Nat→Bool):Prop:= ∀(j:Nat) o,ops[j]? =some o→S j=true→ ∀k∈zo E j o,S k=true
theorem kV {ops:List Oper} {E:List (Nat×Nat)} {S:Nat→Bool} (HC:Hk ops E S): ∀{ord:List Nat} {acc:List (Nat×Nat)},
  (∀k i,(su acc k).testBit i=true→S k=true→S i=true)→ ∀k i,(su (xo ops E ord acc) k).testBit i=true→S k=true→S i=true
 | [],acc,hR,k,i,h,hk=>hR k i h hk
 |j::r,acc,hR,k,i,h,hk=>by
  simp only[xo]at h
  refine kV HC (λk i h hk=> ?_) k i h hk
  simp only[su]at h
  split at h
  ·rename_i e
   subst e
   split at h
   ·rename_i o ho
    obtain⟨k',h1,h2⟩:=BS h
    have HN:=HC j o ho hk k' h1
    rcases h2 with rfl|h2
    ·exact HN
    ·exact hR _ _ h2 HN
   ·simp at h
  ·exact hR k i h hk
theorem C0 {ops:List Oper} {E:List (Nat×Nat)} {S:Nat→Bool} (HC:Hk ops E S) {j:Nat} {o:Oper} (ho:ops[j]? =some o) (hp: ∀k∈zo E j o,S k=true):
  ∀{ord:List Nat} {acc:List (Nat×Nat)},(∀k i,(su acc k).testBit i=true→S k=true→S i=true)→(∀i,(su acc j).testBit i=true→S i=true)→ ∀i,(su (xo ops E ord acc) j).testBit i=true→S i=true
 | [],acc,hR,hj,i,h=>hj i h
 |k::r,acc,hR,hj,i,h=>by
  simp only[xo]at h
  refine C0 HC ho hp (λk' i g hk=> ?_) (λi g=> ?_) i h
  ·clear h
   simp only[su]at g
   split at g
   ·rename_i e
    subst e
    split at g
    ·rename_i o' q8
     obtain⟨k'',h1,h2⟩:=BS g
     have HN:=HC _ o' q8 hk k'' h1
     rcases h2 with rfl|h2
     ·exact HN
     ·exact hR _ _ h2 HN
    ·simp at g
   ·exact hR k' i g hk
  ·clear h
   simp only[su]at g
   split at g
   ·rename_i e
    subst e
    rw[ho]at g
    obtain⟨k'',h1,h2⟩:=BS g
    have HN:=hp k'' h1
    rcases h2 with rfl|h2
    ·exact HN
    ·exact hR _ _ h2 HN
   ·exact hj i g
theorem sr (a:Act) (d:Option Nat) (v:Value):(a.put d v).tmps.size=a.tmps.size:=by
 cases d<;>simp[Act.put]
theorem s5 {a:Act} {t:Nat} {v:Value} (h:a.tmps.getD t undef=v) (hv:v≠undef):a.tmps[t]? =some v:=by
 simp only[Array.getD_eq_getD_getElem?]at h
 cases e:a.tmps[t]? with
 |none=>rw[e]at h;exact absurd h.symm hv
 |some u=>rw[e]at h;simp at h;rw[h]
def tn (gs:List AG) (k:Nat):Option Nat:=(gs[k]?).bind (·.dst)
def iU (gs:List AG) (k:Nat):Bool:=match gs[k]? with|some g=>g.op.eff|none=>false
def li (gs:List AG) (v:Nat→AV) (fr0:List (Nat×AV)) (S:Nat→Bool):Nat→List (Nat×AV)
 |0=>fr0
 |k+1=>if S k=true then(match tn gs k with|some d=>(d,v k)::li gs v fr0 S k|none=>li gs v fr0 S k)else li gs v fr0 S k
def fY (gs:List AG) (s:Nat→St) (S:Nat→Bool):Nat→List (Nat×bm)×Nat
 |0=>((s 0).mem,(s 0).nx)
 |k+1=>if S k=true∧iU gs k=true then((s (k+1)).mem,(s (k+1)).nx)else fY gs s S k
section
variable {P : Program} {gs : List AG} {v : Nat → AV} {s : Nat → St}
theorem Dl {σ:St} {d:Option Nat} {x:AV} {t:Nat}:aL (σ.put d x).fr t=if d=some t then x else aL σ.fr t:=by
 cases d with
 |none=>simp[St.put]
 |some d=>
  show(if d=t then x else aL σ.fr t)=_
  by_cases e:d=t<;>simp[e]
theorem fW {σ:St} {d:Option Nat} {x:AV}:(σ.put d x).mem=σ.mem∧(σ.put d x).nx=σ.nx:=by cases d<;>exact⟨rfl,rfl⟩
theorem Sd {g:AG} {σ σ':St} {x:AV} (h:kH P g σ x σ') (t:Nat):aL σ'.fr t=if g.dst=some t then x else aL σ.fr t:=by
 rcases h with⟨H8,τ,h1,rfl⟩|⟨_,_,_,_,rfl,rfl⟩
 ·rw[Dl,(oT H8.1 h1).1]
 ·rw[Dl]
theorem JI {g:AG} {σ σ':St} {x:AV} (h:kH P g σ x σ') (he:g.op.eff=false):σ'.mem=σ.mem∧σ'.nx=σ.nx:=by
 rcases h with⟨H8,τ,h1,rfl⟩|⟨_,_,_,_,rfl,rfl⟩
 ·rw[fW.1,fW.2,(oT H8.1 h1).2.2 he]
  exact⟨rfl,rfl⟩
 ·exact fW
theorem rU {σ:St} {d:Option Nat} {x:AV}:(σ.put d x).base=σ.base:=by cases d<;>rfl
theorem NT {g:AG} {σ σ':St} {x:AV} (h:kH P g σ x σ'):σ'.base=σ.base:=by
 rcases h with⟨H8,τ,h1,rfl⟩|⟨_,_,_,_,rfl,rfl⟩
 ·rw[rU,(oT H8.1 h1).2.1]
 ·exact rU
theorem wn (hA: ∀k g,gs[k]? =some g→kH P g (s k) (v k) (s (k+1))): ∀{i:Nat},i≤gs.length→(s i).base=(s 0).base
 |0,_=>rfl
 |i+1,h=>(NT (hA i _ (List.getElem?_eq_getElem (show i<gs.length by omega)))).trans (wn hA (by omega))
theorem nJ (hA: ∀k g,gs[k]? =some g→kH P g (s k) (v k) (s (k+1))) {S:Nat→Bool} {t i:Nat}: ∀{n:Nat},n≤gs.length→i≤n→(∀k,k<n→tn gs k=some t→(S k=true↔k<i))→aL (li gs v (s 0).fr S n) t=aL (s i).fr t
 |0,_,hi,_=>by
  obtain rfl:i=0:=by omega
  rfl
 |n+1,hn,hi,h=>by
  have hg:=List.getElem?_eq_getElem (show n<gs.length by omega)
  by_cases e:i=n+1
  ·subst e
   have ih:=nJ hA (S:=S) (t:=t) (i:=n) (n:=n) (by omega) (Nat.le_refl _) (λk hk hd=>⟨λ_=>hk,λ_=>(h k (by omega) hd).2 (by omega)⟩)
   rw[Sd (hA n _ hg) t]
   simp only[li]
   by_cases hd:tn gs n=some t
   ·rw[if_pos ((h n (by omega) hd).2 (by omega)),hd]
    have hU:gs[n].dst=some t:=by simpa[tn,hg]using hd
    rw[if_pos hU,dF,if_pos rfl]
   ·have hU: ¬gs[n].dst=some t:=by simpa[tn,hg]using hd
    rw[if_neg hU]
    split
    ·split
     ·rename_i d gN
      rw[dF,if_neg (λe=>hd (by rw[gN,e]))]
      exact ih
     ·exact ih
    ·exact ih
  ·have ih:=nJ hA (S:=S) (t:=t) (i:=i) (n:=n) (by omega) (by omega) (λk hk hd=>h k (by omega) hd)
   simp only[li]
   by_cases hd:tn gs n=some t
   ·rw[if_neg (λhs=>by have:=(h n (by omega) hd).1 hs;omega)]
    exact ih
   ·split
    ·split
     ·rename_i d gN
      rw[dF,if_neg (λe=>hd (by rw[gN,e]))]
      exact ih
     ·exact ih
    ·exact ih
theorem oP (hA: ∀k g,gs[k]? =some g→kH P g (s k) (v k) (s (k+1))) {S:Nat→Bool} {i:Nat}: ∀{n:Nat},n≤gs.length→i≤n→(∀k,k<n→iU gs k=true→(S k=true↔k<i))→fY gs s S n=((s i).mem,(s i).nx)
 |0,_,hi,_=>by
  obtain rfl:i=0:=by omega
  rfl
 |n+1,hn,hi,h=>by
  have hg:=List.getElem?_eq_getElem (show n<gs.length by omega)
  by_cases e:i=n+1
  ·subst e
   have ih:=oP hA (S:=S) (i:=n) (n:=n) (by omega) (Nat.le_refl _) (λk hk hd=>⟨λ_=>hk,λ_=>(h k (by omega) hd).2 (by omega)⟩)
   simp only[fY]
   by_cases he:iU gs n=true
   ·rw[if_pos ⟨(h n (by omega) he).2 (by omega),he⟩]
   ·rw[if_neg (λhh=>he hh.2),ih]
    have HQ:gs[n].op.eff=false:=by simpa[iU,hg]using he
    have:=JI (hA n _ hg) HQ
    rw[this.1,this.2]
  ·have ih:=oP hA (S:=S) (i:=i) (n:=n) (by omega) (by omega) (λk hk hd=>h k (by omega) hd)
   simp only[fY]
   rw[if_neg (λhh=>by have:=(h n (by omega) hh.2).1 hh.1;omega)]
   exact ih
theorem GQ (hA: ∀k g,gs[k]? =some g→kH P g (s k) (v k) (s (k+1))) {S:Nat→Bool} {p:Nat} (h1: ∀k,k<p→iU gs k=true→S k=true) (h2: ∀k,p≤k→k<gs.length→iU gs k=true→S k=true→jU (s k).mem (s (k+1)).mem)
  (h3: ∀k q,k<q→q<gs.length→iU gs k=true→iU gs q=true→S q=true→S k=true): ∀{n:Nat},n≤gs.length→p≤n→jU (s p).mem (fY gs s S n).1
 |0,hn,hp=>by
  obtain rfl:p=0:=by omega
  exact λ_ _ h=>h
 |n+1,hn,hp=>by
  by_cases e:p=n+1
  ·subst e
   have:=oP hA (S:= λk=>decide (k<n+1)) (i:=n+1) (n:=n+1) hn (Nat.le_refl _) (λk hk _=>by simp)
   have same: ∀m,m≤n+1→fY gs s S m=fY gs s (λk=>decide (k<n+1)) m:=by
    intro m
    induction m with
    |zero=>intro _;rfl
    |succ m ih=>
     intro hm
     simp only[fY]
     rw[ih (by omega)]
     by_cases he:iU gs m=true
     ·rw[if_pos ⟨h1 m (by omega) he,he⟩,if_pos ⟨by simp;omega,he⟩]
     ·rw[if_neg (λhh=>he hh.2),if_neg (λhh=>he hh.2)]
   rw[same _ (Nat.le_refl _),this]
   exact λ_ _ h=>h
  ·have ih:=GQ hA h1 h2 h3 (n:=n) (by omega) (by omega)
   simp only[fY]
   by_cases hs:S n=true∧iU gs n=true
   ·rw[if_pos hs]
    have key: ∀m,p≤m→m≤n+1→jU (s p).mem (s m).mem:=by
     intro m
     induction m with
     |zero=>
      intro hp _
      obtain rfl:p=0:=by omega
      exact λ_ _ h=>h
     |succ m ih=>
      intro hpm hm
      by_cases e:p=m+1
      ·subst e;exact λ_ _ h=>h
      ·have hk:=ih (by omega) (by omega)
       by_cases he:iU gs m=true
       ·have hS:S m=true:=by
         by_cases e2:m=n
         ·subst e2;exact hs.1
         ·exact h3 m n (by omega) (by omega) he hs.2 hs.1
        exact λnm bx hf=>h2 m (by omega) (by omega) he hS nm bx (hk nm bx hf)
       ·have hg:=List.getElem?_eq_getElem (show m<gs.length by omega)
        have HQ:gs[m].op.eff=false:=by simpa[iU,hg]using he
        rw[(JI (hA m _ hg) HQ).1]
        exact hk
    exact key (n+1) (by omega) (Nat.le_refl _)
   ·rw[if_neg hs]
    exact ih
def jz (S:Nat→Bool) (i:Nat):Nat→Bool:= λk=>if k=i then true else S k
theorem I5 {S:Nat→Bool} {i t:Nat} {fr0:List (Nat×AV)} (hi:S i=false): ∀{n:Nat},i<n→(tn gs i=some t→ ∀k,i<k→tn gs k=some t→S k=false)→aL (li gs v fr0 (jz S i) n) t=if tn gs i=some t then v i else aL (li gs v fr0 S n) t
 |0,hn,_=>by omega
 |n+1,hn,h=>by
  have same: ∀{m:Nat},m≤i→li gs v fr0 (jz S i) m=li gs v fr0 S m:=by
   intro m
   induction m with
   |zero=>intro _;rfl
   |succ m ih=>
    intro hm
    simp only[li]
    rw[ih (by omega)]
    have:jz S i m=S m:=if_neg (by omega)
    rw[this]
  by_cases e:i=n
  ·subst e
   simp only[li]
   rw[if_pos (show jz S i i=true from if_pos rfl),hi,if_neg (show ¬false=true from λe=>by cases e),same (Nat.le_refl _)]
   cases hd:tn gs i with
   |none=>simp
   |some d=>
    show aL ((d,v i)::li gs v fr0 S i) t=if some d=some t then v i else aL (li gs v fr0 S i) t
    rw[dF]
    by_cases e:d=t<;>simp[e]
  ·have ih:=I5 (fr0:=fr0) (t:=t) hi (n:=n) (by omega) h
   have ZE:jz S i n=S n:=if_neg (by omega)
   simp only[li]
   rw[ZE]
   by_cases hs:S n=true
   ·rw[if_pos hs,if_pos hs]
    split
    ·rename_i d hd
     rw[dF,dF]
     by_cases e2:d=t
     ·subst e2
      rw[if_pos rfl,if_pos rfl]
      by_cases e3:tn gs i=some d
      ·have:=h e3 n (by omega) hd
       rw[hs]at this
       cases this
      ·rw[if_neg e3]
     ·rw[if_neg e2,if_neg e2]
      exact ih
    ·exact ih
   ·rw[if_neg hs,if_neg hs]
    exact ih
theorem FV {S:Nat→Bool} {i:Nat} (hi:S i=false): ∀{n:Nat},i<n→(iU gs i=true→ ∀k,i<k→iU gs k=true→S k=false)→fY gs s (jz S i) n=if iU gs i=true then((s (i+1)).mem,(s (i+1)).nx)else fY gs s S n
 |0,hn,_=>by omega
 |n+1,hn,h=>by
  have same: ∀{m:Nat},m≤i→fY gs s (jz S i) m=fY gs s S m:=by
   intro m
   induction m with
   |zero=>intro _;rfl
   |succ m ih=>
    intro hm
    simp only[fY]
    rw[ih (by omega)]
    have:jz S i m=S m:=if_neg (by omega)
    rw[this]
  by_cases e:i=n
  ·subst e
   simp only[fY]
   have h1:jz S i i=true:=if_pos rfl
   rw[same (Nat.le_refl _)]
   by_cases he:iU gs i=true
   ·rw[if_pos ⟨h1,he⟩,if_pos he]
   ·rw[if_neg (λhh=>he hh.2),if_neg he,if_neg (λhh=>he hh.2)]
  ·have ih:=FV hi (n:=n) (by omega) h
   have ZE:jz S i n=S n:=if_neg (by omega)
   simp only[fY]
   rw[ZE]
   by_cases hs:S n=true∧iU gs n=true
   ·rw[if_pos hs,if_pos hs]
    by_cases he:iU gs i=true
    ·have:=h he n (by omega) hs.2
     rw[hs.1]at this
     cases this
    ·rw[if_neg he]
   ·rw[if_neg hs,if_neg hs]
    exact ih
end
theorem bl.fr {w0:World} {U:Gh} {σ:St} {ι:Pl} {a:Act} {w:World} (hs:bl w0 U σ ι a w) {fr:List (Nat×AV)} (h: ∀t,aL fr t=aL σ.fr t):bl w0 U ⟨fr,σ.mem,σ.nx,σ.base⟩ ι a w:=
 ⟨λt=>by have:=hs.val t;rw[←h t]at this;exact this,hs.defers,hs.names,hs.box,hs.apart,hs.below,hs.keep,hs.base⟩
open Go.RowKit
def MH (S:Nat→Bool):Nat→Nat
 |0=>0
 |n+1=>MH S n+if S n=true then 1 else 0
theorem Pq (S:Nat→Bool): ∀n,MH S n≤n
 |0=>Nat.le_refl _
 |n+1=>by have:=Pq S n;simp only[MH];split<;>omega
theorem Ma {S:Nat→Bool}: ∀{n:Nat},MH S n=n→ ∀k,k<n→S k=true
 |0,_,k,hk=>by omega
 |n+1,h,k,hk=>by
  have ZF:=Pq S n
  simp only[MH]at h
  split at h
  ·rename_i hn
   by_cases e:k=n
   ·rw[e];exact hn
   ·exact Ma (n:=n) (by omega) k (by omega)
  ·omega
theorem L7 {S:Nat→Bool} {i:Nat} (hi:S i=false): ∀{n:Nat},i<n→MH (jz S i) n=MH S n+1
 |0,h=>by omega
 |n+1,h=>by
  have same: ∀{m:Nat},m≤i→MH (jz S i) m=MH S m:=by
   intro m
   induction m with
   |zero=>intro _;rfl
   |succ m ih=>
    intro hm
    simp only[MH]
    rw[ih (by omega)]
    have:jz S i m=S m:=if_neg (by omega)
    rw[this]
  simp only[MH]
  by_cases e:i=n
  ·subst e
   rw[same (Nat.le_refl _),hi,show jz S i i=true from if_pos rfl]
   simp
  ·have:jz S i n=S n:=if_neg (by omega)
   rw[this,L7 hi (by omega)]
   omega
theorem Mq {P:Program} {dr:Bool} {nt:Nat} {ops:Array Oper}: ∀{l:List Oper} {gs:List AG},fK P dr nt ops l=some gs→l.length=gs.length∧ ∀(i:Nat) o,l[i]? =some o→ ∃g,gs[i]? =some g∧uK P dr nt ops o=some g
 | [],gs,h=>by cases h;exact⟨rfl,λi o hi=>by simp at hi⟩
 |o::l,gs,h=>by
  unfold fK at h
  split at h
  ·rename_i g gs' h1 h2
   cases h
   obtain⟨g1,g2⟩:=Mq h2
   refine⟨by simp[g1],λi o' hi=> ?_⟩
   cases i with
   |zero=>simp at hi;subst hi;exact⟨g,rfl,h1⟩
   |succ i=>exact g2 i o' (by simpa using hi)
  ·cases h
theorem Kq {P:Program} {dr:Bool} {nt:Nat} {ops:Array Oper} {o:Oper} {g:AG} (h:uK P dr nt ops o=some g):g.dst=o.dst∧(∀t,o.dst=some t→t<nt)∧bo P dr o.op=some g.op∧
  ((o.guard=none∧g.guard=none)∨ ∃j want t,o.guard=some (j,want)∧(ops[j]?).bind (·.dst)=some t∧g.guard=some (t,want)):=by
 unfold uK at h
 by_cases HF:KY nt o.dst=false
 ·rw[if_pos HF]at h;cases h
 ·rw[if_neg HF]at h
  have hd: ∀t,o.dst=some t→t<nt:=by
   intro t ht
   rw[ht]at HF
   simpa[KY]using HF
  split at h
  ·rename_i ao q9
   split at h
   ·rename_i hg
    cases h
    exact⟨rfl,hd,q9,.inl ⟨hg,rfl⟩⟩
   ·rename_i j want hg
    split at h
    ·rename_i t ht
     cases h
     exact⟨rfl,hd,q9,.inr ⟨j,want,t,hg,ht,rfl⟩⟩
    ·cases h
  ·cases h
section
variable {P : Program} {a : Act} {w w' w0 : World} {U : Gh} {ι : Pl} {σ : St} {nt : Nat} {dr : Bool}
theorem Iz {V:Nat→Prop} {N:Nat} {u:Value} (h:aK w V ι N (.tup []) u):u=undef:=by
 cases h with
 | @tup _ vs hl _=>
  have:vs= #[]:=Array.eq_empty_of_size_eq_zero (by simpa using hl.symm)
  rw[this]
  rfl
theorem Lu {ops:Array Oper} {Q:Exit→Act→World→Prop} {i:Nat} {o:Oper} {g:AG} {v:AV} {σ σ':St} {next:Act→World→Prop} (ho:ops[i]? =some o) (hg:uK P dr nt ops o=some g) (ZZ:kH P g σ v σ') (hs:bl w0 U σ ι a w) (hz:a.tmps.size=nt)
  (hn: ∀ι' a' w',bl w0 U σ' ι' a' w'→a'.tmps.size=nt→next a' w'):wpOp P ops Q i next a w:=by
 obtain⟨h1,h2,h3,h4⟩:=Kq hg
 have hd: ∀t,o.dst=some t→t<a.tmps.size:= λt ht=>by rw[hz];exact h2 t ht
 unfold wpOp
 rw[ho]
 have run:Region.wanted o (yielded ops a.tmps)=true→(∃τ,(bh P g.op σ λv' τ'=>v'=v∧τ'=τ)∧σ'=τ.put g.dst v)→(if Region.wanted o (yielded ops a.tmps)=true then o.wp P a w next Q∨(o.asks P a w∧LetsOut Q)else next (a.put o.dst undef) w):=by
  rintro hw ⟨τ,k1,rfl⟩
  rw[if_pos hw]
  left
  refine IT h3 k1 hs ?_
  rintro v' σ2 ι' u w' ⟨rfl,rfl⟩ J hr
  refine hn ι' _ w' ?_ (by rw[sr];exact hz)
  rw[h1]
  exact J.put hd hr
 rcases h4 with⟨k1,k2⟩|⟨j,want,t,k1,k2,k3⟩
 ·rcases ZZ with⟨_,hx⟩|⟨t,want,e,_⟩
  ·exact run (by simp[Region.wanted,k1]) hx
  ·rw[k2]at e;cases e
 ·have Z:=hs.val t
  rcases ZZ with⟨⟨_,gd⟩,hx⟩|⟨t',want',e,gd,rfl,rfl⟩
  ·rcases gd with e|⟨t',want',e,hb⟩
   ·rw[k3]at e;cases e
   ·rw[k3]at e
    cases e
    rw[hb]at Z
    have ge:=s5 (aQ Z).1 (by intro e;cases e)
    exact run (by simp[Region.wanted,k1,yielded,k2,ge]) hx
  ·rw[k3]at e
   cases e
   have hw: ¬Region.wanted o (yielded ops a.tmps)=true:=by
    rcases gd with hb|hb
    ·rw[hb]at Z
     have hu:=Iz Z
     have hy:yielded ops a.tmps j=none:=by
      unfold yielded
      simp only[k2,Option.bind_some]
      simp only[Array.getD_eq_getD_getElem?]at hu
      cases e':a.tmps[t]? with
      |none=>rfl
      |some z=>
       rw[e']at hu
       simp at hu
       subst hu
       rfl
     simp[Region.wanted,k1,hy]
    ·rw[hb]at Z
     have ge:=s5 (aQ Z).1 (by intro e;cases e)
     simp[Region.wanted,k1,yielded,k2,ge]
   show(if Region.wanted o (yielded ops a.tmps)=true then _ else next (a.put o.dst undef) w)
   rw[if_neg hw]
   refine hn ι _ w ?_ (by rw[sr];exact hz)
   rw[h1]
   exact hs.put hd fO
theorem kH.congr {g:AG} {v:AV} {σ σ' σ2:St} (h:kH P g σ v σ') (hf: ∀t∈g.looks,aL σ2.fr t=aL σ.fr t) (hm:g.op.eff=true→σ2.mem=σ.mem∧σ2.nx=σ.nx) (ZG:g.op.eff=false→g.op.sens=true→jU σ.mem σ2.mem) (HG:σ2.base=σ.base):
  ∃τ,kH P g σ2 v τ∧(∀t,aL τ.fr t=if g.dst=some t then v else aL σ2.fr t)∧(τ.mem,τ.nx)=(if g.op.eff=true then(σ'.mem,σ'.nx)else(σ2.mem,σ2.nx))∧τ.base=σ2.base:=by
 have ZH: ∀t∈g.op.tmps,aL σ2.fr t=aL σ.fr t:= λt ht=>hf t (by simp[AG.looks,ht])
 rcases h with⟨⟨hH,hg⟩,τ,h1,rfl⟩|⟨t,want,hg,hb,rfl,rfl⟩
 ·have Za:g.guard=none∨ ∃t want,g.guard=some (t,want)∧aL σ2.fr t= .c (.pure (.val (.bool want))):=by
   rcases hg with e|⟨t,want,e,hb⟩
   ·exact .inl e
   ·exact .inr ⟨t,want,e,by rw[hf t (by simp[AG.looks,e])];exact hb⟩
  by_cases he:g.op.eff=true
  ·obtain⟨m1,m2⟩:=hm he
   have k1:=(oT hH h1).1
   have k2:=(oT hH h1).2.1
   obtain⟨fr,mem,nx,b⟩:=σ
   obtain⟨fr2,mem2,nx2,b2⟩:=σ2
   simp only at m1 m2 ZH k1 k2 HG
   subst HG
   subst m1
   subst m2
   have h2:=LY (fr2:=fr2) (K2:= λv' τ'=>v'=v∧τ'=⟨fr2,τ.mem,τ.nx,τ.base⟩) he hH ZH (λv' m n hk=>by obtain⟨e1,e2⟩:=hk;subst e2;exact⟨e1,rfl⟩) h1
   refine⟨_,.inl ⟨⟨hH,Za⟩,_,h2,rfl⟩,λt=>Dl, ?_,by rw[rU];exact k2⟩
   rw[if_pos he,fW.1,fW.2,fW.1,fW.2]
  ·have HQ:g.op.eff=false:=by simpa using he
   have k1:=(oT hH h1).2.2 HQ
   subst k1
   have h2:=Ms (s2:=σ2) HQ (ZG HQ) ZH (λv' τ'=>v'=v∧τ'=τ) (λv' τ'=>v'=v∧τ'=σ2) (λv' hk=>⟨hk.1,rfl⟩) h1
   refine⟨_,.inl ⟨⟨hH,Za⟩,_,h2,rfl⟩,λt=>Dl, ?_,rU⟩
   rw[if_neg he,fW.1,fW.2]
 ·refine⟨_,.inr ⟨t,want,hg, ?_,rfl,rfl⟩,λt=>Dl, ?_,rU⟩
  ·rw[hf t (by simp[AG.looks,hg])]
   exact hb
  ·rw[fW.1,fW.2,fW.1,fW.2]
   split
   ·rename_i he
    rw[(hm he).1,(hm he).2]
   ·rfl
theorem Gw {g h:AG} {d:Nat} (hc:il g h=false) (hd:g.dst=some d):d∉h.looks∧h.dst≠some d:=by
 simp only[il,hd,Bool.or_eq_false_iff]at hc
 refine⟨λhm=> ?_,λe=> ?_⟩
 ·have:=hc.1.1.1.1
  simp[hm]at this
 ·have:=hc.1.1.1.2
  simp[e]at this
theorem Lx {g h:AG} {d:Nat} (hc:il g h=false) (hd:h.dst=some d):d∉g.looks:=by
 simp only[il,hd,Bool.or_eq_false_iff]at hc
 intro hm
 have:=hc.1.1.2
 simp[hm]at this
theorem oZ {g h:AG} (hc:il g h=false):(g.op.eff=true→h.op.eff=false∧h.op.sens=false):=by
 simp only[il,Bool.or_eq_false_iff]at hc
 have h1:=hc.1.2
 intro e
 rw[e]at h1
 simpa using h1
def M9 (ops:Array Oper):List Nat→Array Bool→Prop
 | [],L=>Region.ready .any ops L= []
 |i::r,L=>i∈Region.ready .any ops L∧M9 ops r (L.setIfInBounds i true)
theorem OZ {ops:Array Oper}: ∀(fuel t:Nat) (L:Array Bool),L.size=ops.size→MH (λk=>L.getD k false) ops.size+fuel=ops.size→M9 ops (Region.linearise.go .any ops fuel t L []) L
 |0,t,L,hL,Zu=>by
  show Region.ready .any ops L= []
  unfold Region.ready
  rw[List.filter_eq_nil_iff]
  intro k hk
  have HN:k<ops.size:=by simpa using hk
  have h1:=Ma (S:= λk=>L.getD k false) (n:=ops.size) (by omega) k HN
  have h2:L.getD k true=true:=by
   have:k<L.size:=by omega
   simp only[Array.getD_eq_getD_getElem?,Array.getElem?_eq_getElem this,Option.getD_some]at h1 ⊢
   exact h1
  rw[h2]
  simp
 |fuel+1,t,L,hL,Zu=>by
  simp only[Region.linearise.go]
  change M9 ops (match (Region.ready .any ops L)[t%(Region.ready .any ops L).length]? with
   |some i=>Region.linearise.go .any ops fuel (t/(Region.ready .any ops L).length) (L.setIfInBounds i true) [i]
   |none=> [].reverse) L
  cases hi:(Region.ready .any ops L)[t%(Region.ready .any ops L).length]? with
  |none=>
   cases hr:Region.ready .any ops L with
   |nil=>exact hr
   |cons x xs=>
    rw[hr]at hi
    have O:t%(x::xs).length<(x::xs).length:=Nat.mod_lt _ (by simp)
    simp at hi
    simp at O
    omega
  |some i=>
   simp only[]
   rw[linearise_go_acc,List.reverse_singleton,List.singleton_append]
   have HJ:=List.mem_of_getElem? hi
   refine⟨HJ,OZ _ _ _ (by simpa using hL) ?_⟩
   unfold Region.ready at HJ
   rw[List.mem_filter]at HJ
   obtain⟨h1,h2⟩:=HJ
   have Q1:i<ops.size:=by simpa using h1
   have Zb:i<L.size:=by omega
   simp only[Bool.and_eq_true,Bool.not_eq_true']at h2
   have hf:L.getD i false=false:=by
    have:=h2.1
    simp only[Array.getD_eq_getD_getElem?,Array.getElem?_eq_getElem Zb,Option.getD_some]at this ⊢
    exact this
   have hS:(λk=>(L.setIfInBounds i true).getD k false)=jz (λk=>L.getD k false) i:=by
    funext k
    simp only[jz,Array.getD_eq_getD_getElem?]
    by_cases e:k=i
    ·subst e;simp[Zb]
    ·rw[if_neg e,Array.getElem?_setIfInBounds_ne (Ne.symm e)]
   rw[hS,L7 hf Q1]
   omega
def QL (E:List (Nat×Nat)):List Nat→(Nat→Bool)→Prop
 | [],_=>True
 |i::r,S=>(∀p∈E,p.2=i→S p.1=true)∧QL E r (jz S i)
theorem LS: ∀{r:List Nat} {S:Nat→Bool},QL [] r S
 | [],S=>trivial
 |i::r,S=>⟨(λp hp=>by cases hp),LS⟩
theorem CA {E:List (Nat×Nat)} {x y:Nat}: ∀{r:List Nat} {S:Nat→Bool},S x=true→QL E r S→QL ((x,y)::E) r S
 | [],S,_,_=>trivial
 |i::r,S,hx,h=>⟨λp hp e=>by
   rcases List.mem_cons.1 hp with rfl|hp
   ·exact hx
   ·exact h.1 p hp e,CA (by simp only[jz];split<;>simp_all) h.2⟩
theorem FH {E:List (Nat×Nat)} {x y:Nat} (ZI:x≠y): ∀{r:List Nat} {S:Nat→Bool},QL E r S→QL ((x,y)::E) r S∨QL ((y,x)::E) r S
 | [],S,_=> .inl trivial
 |i::r,S,h=>by
  by_cases e1:i=x
  ·subst e1
   refine .inl ⟨λp hp e=> ?_,CA (by simp[jz]) h.2⟩
   rcases List.mem_cons.1 hp with rfl|hp
   ·exact absurd e.symm ZI
   ·exact h.1 p hp e
  ·by_cases e2:i=y
   ·subst e2
    refine .inr ⟨λp hp e=> ?_,CA (by simp[jz]) h.2⟩
    rcases List.mem_cons.1 hp with rfl|hp
    ·exact absurd e ZI
    ·exact h.1 p hp e
   ·rcases FH ZI h.2 with h'|h'
    ·refine .inl ⟨λp hp e=> ?_,h'⟩
     rcases List.mem_cons.1 hp with rfl|hp
     ·exact absurd e.symm e2
     ·exact h.1 p hp e
    ·refine .inr ⟨λp hp e=> ?_,h'⟩
     rcases List.mem_cons.1 hp with rfl|hp
     ·exact absurd e.symm e1
     ·exact h.1 p hp e
theorem oz {M:List (Nat×Nat)}: ∀{leaf:List (Nat×Bool×AG)},D5 M leaf=true→ ∀(p q:Nat) y z,p<q→leaf[p]? =some y→leaf[q]? =some z→En M y.1 y.2.2 z.1 z.2.1 z.2.2=true
 | [],_,p,q,y,z,_,hy,_=>by simp at hy
 |(i,x,g)::r,h,p,q,y,z,hpq,hy,hz=>by
  simp only[D5,Bool.and_eq_true,List.all_eq_true]at h
  cases q with
  |zero=>omega
  |succ q=>
   have hY:r[q]? =some z:=by simpa using hz
   cases p with
   |zero=>
    simp at hy
    subst hy
    exact h.1 z (List.mem_of_getElem? hY)
   |succ p=>exact oz h.2 p q y z (by omega) (by simpa using hy) hY
theorem FG: ∀{l:List Nat},Cy l=true→ ∀(p q:Nat) i,l[p]? =some i→l[q]? =some i→p=q
 | [],_,p,q,i,hp,_=>by simp at hp
 |x::r,h,p,q,i,hp,hq=>by
  simp only[Cy,Bool.and_eq_true,Bool.not_eq_true']at h
  have hx: ∀k,r[k]? =some x→False:= λk hk=>by
   have:=h.1
   rw[List.contains_iff_mem.2 (List.mem_of_getElem? hk)]at this
   cases this
  cases p with
  |zero=>
   simp at hp
   subst hp
   cases q with
   |zero=>rfl
   |succ q=>exact(hx q (by simpa using hq)).elim
  |succ p=>
   cases q with
   |zero=>
    simp at hq
    subst hq
    exact(hx p (by simpa using hp)).elim
   |succ q=>rw[FG h.2 p q i (by simpa using hp) (by simpa using hq)]
theorem KW {ops:Array Oper} {gs:List AG} {leaf:List (Nat×Bool×AG)} {E:List (Nat×Nat)} {ord:List Nat} {K:St→Prop} {Q:Exit→Act→World→Prop}
  (hc:fK P dr nt ops ops.toList=some gs) (HD:tJ 0 ops.toList=true) (hH:(gs.all λg=> !g.op.gcall)=true) (HR:D5 (xo ops.toList E ord []) leaf=true) (z5:leaf.map (·.1)=ord) (gg: ∀y∈leaf,gs[y.1]? =some y.2.2)
  (Zv:Cy ord=true) (hC: ∀i,i<gs.length→i∈ord) (h:jj P (sR leaf) σ K) (hs:bl w0 U σ ι a w) (hz:a.tmps.size=nt)
  (hq: ∀σ' ι' a' w',K σ'→bl w0 U σ' ι' a' w'→a'.tmps.size=nt→Q .normal a' w') {sched:List Nat} (HB:M9 ops sched (Array.replicate ops.size false)) (hJ:QL E sched (λ_=>false)):wpOps P ops Q sched a w:=by
 have Zc:((sR leaf).all λy=> !y.2.op.gcall)=true:=by
  rw[List.all_eq_true]
  intro y hy
  obtain⟨z,Zw,rfl⟩:=List.mem_map.1 hy
  exact List.all_eq_true.1 hH _ (List.mem_of_getElem? (gg z Zw))
 obtain⟨v,s,h9,z9,hK⟩:=DS Zc h
 obtain⟨HK,Zx⟩:=Mq hc
 have hn:ops.size=gs.length:=by rw[←HK,Array.length_toList]
 let gs':List AG:=leaf.map (·.2.2)
 have Zd:gs'.length=leaf.length:=by simp[gs']
 have Zy:(sR leaf).length=gs'.length:=by simp[sR,gs']
 rw[Zy]at hK
 have gd: ∀{p:Nat} {g:AG},gs'[p]? =some g→ ∃y,leaf[p]? =some y∧y.2.2=g:=by
  intro p g hp
  simp only[gs',List.getElem?_map,Option.map_eq_some_iff]at hp
  exact hp
 have hA: ∀k g,gs'[k]? =some g→kH P g (s k) (v k) (s (k+1)):=by
  intro k g hk
  obtain⟨y,hy,rfl⟩:=gd hk
  exact(z9 k y.2 (by simp[sR,hy])).1
 have ZJ: ∀k y,leaf[k]? =some y→y.2.1=true→jU (s k).mem (s (k+1)).mem:= λk y hy=>(z9 k y.2 (by simp[sR,hy])).2
 have gi: ∀{p:Nat} {y:Nat×Bool×AG},leaf[p]? =some y→ord[p]? =some y.1:=by
  intro p y hp
  rw[←z5,List.getElem?_map,hp]
  rfl
 let SS (L:Array Bool):Nat→Bool:= λp=>L.getD ((ord[p]?).getD 0) false
 let LL (L:Array Bool):Nat→Bool:= λi=>L.getD i false
 have HS: ∀(L:Array Bool) {p:Nat} {y:Nat×Bool×AG},leaf[p]? =some y→SS L p=LL L y.1:=by
  intro L p y hp
  simp only[SS,LL,gi hp,Option.getD_some]
 let stOf (L:Array Bool):St:=⟨li gs' v (s 0).fr (SS L) gs'.length,(fY gs' s (SS L) gs'.length).1,(fY gs' s (SS L) gs'.length).2,(s 0).base⟩
 have main: ∀(sched:List Nat) (L:Array Bool) (ι:Pl) (a:Act) (w:World),L.size=gs.length→Hk ops.toList E (LL L)→M9 ops sched L→QL E sched (LL L)→bl w0 U (stOf L) ι a w→a.tmps.size=nt→wpOps P ops Q sched a w:=by
  intro sched
  induction sched with
  |nil=>
   intro L ι a w hL HC HB hJ gj hz
   have hr:Region.ready .any ops L= []:=HB
   have all: ∀k,k<gs.length→LL L k=true:=by
    intro k
    induction k using Nat.strongRecOn with
    |_ k ih=>
     intro hk
     cases hS:LL L k with
     |true=>rfl
     |false=>
      exfalso
      have ZK:k<ops.size:=by omega
      have HJ:k∈Region.ready .any ops L:=by
       unfold Region.ready
       rw[List.mem_filter]
       refine⟨by simpa using ZK, ?_⟩
       have h1:L.getD k true=false:=by
        have:k<L.size:=by omega
        simp only[LL,Array.getD_eq_getD_getElem?,Array.getElem?_eq_getElem this,Option.getD_some]at hS ⊢
        exact hS
       rw[h1]
       simp only[Bool.not_false,Bool.true_and,Array.getElem?_eq_getElem ZK,Option.map_some,Option.getD_some,Array.all_eq_true]
       intro j hj
       simp only[Bool.or_eq_true,Bool.not_eq_true']
       cases Zz:Region.binds .any ops[k].after[j]with
       |false=>exact .inl rfl
       |true=>
        have:=Cu HD (j:=k) (o:=ops[k]) (by simp[ZK]) ops[k].after[j] (by simp) Zz
        right
        exact ih ops[k].after[j].on (by omega) (by omega)
      rw[hr]at HJ
      cases HJ
   have allS: ∀p,p<gs'.length→SS L p=true:=by
    intro p hp
    have hy:=List.getElem?_eq_getElem (show p<leaf.length by omega)
    rw[HS L hy]
    exact all _ (List.getElem?_eq_some_iff.1 (gg _ (List.mem_of_getElem? hy))).1
   have gq: ∀t,aL (li gs' v (s 0).fr (SS L) gs'.length) t=aL (s gs'.length).fr t:= λt=>
    nJ hA (Nat.le_refl _) (Nat.le_refl _) λk hk _=>⟨λ_=>hk,λ_=>allS k hk⟩
   have gt:=oP hA (S:=SS L) (i:=gs'.length) (Nat.le_refl _) (Nat.le_refl _) λk hk _=>⟨λ_=>hk,λ_=>allS k hk⟩
   show Q .normal a w
   refine hq (s gs'.length) ι a w hK ?_ hz
   have:=gj.fr (fr:=(s gs'.length).fr) λt=>(gq t).symm
   simp only[stOf,gt]at this
   rw[←wn hA (Nat.le_refl _)]at this
   exact this
  |cons i r ih=>
   intro L ι a w hL HC HB hJ gj hz
   obtain⟨hi,HB⟩:=HB
   obtain⟨Ze,hJ⟩:=hJ
   rw[wpOps_cons]
   unfold Region.ready at hi
   rw[List.mem_filter]at hi
   obtain⟨Z0,g6⟩:=hi
   have Q1:i<ops.size:=by simpa using Z0
   have Z1:i<gs.length:=by omega
   have ho:ops[i]? =some ops[i]:=Array.getElem?_eq_getElem Q1
   simp only[Bool.and_eq_true,Bool.not_eq_true',ho,Option.map_some,Option.getD_some,Array.all_eq_true]at g6
   obtain⟨g6,Z2⟩:=g6
   have ZL:LL L i=false:=by
    have:i<L.size:=by omega
    simp only[LL,Array.getD_eq_getD_getElem?,Array.getElem?_eq_getElem this,Option.getD_some]at g6 ⊢
    exact g6
   have ZM:ops.toList[i]? =some ops[i]:=by simp[Q1]
   have g7: ∀k∈zo E i ops[i],LL L k=true:=by
    intro k hk
    simp only[zo,List.mem_append,List.mem_filterMap]at hk
    rcases hk with⟨e,he,hk⟩|⟨p,hp,hk⟩
    ·split at hk
     ·rename_i hb
      cases hk
      obtain⟨j,hj,rfl⟩:=List.mem_iff_getElem.1 he
      have:=Z2 j (by simpa using hj)
      simp only[Bool.or_eq_true,Bool.not_eq_true']at this
      rcases this with h|h
      ·simp at hb
       rw[hb]at h
       cases h
      ·show L.getD _ false=true
       simpa[Array.getD_eq_getD_getElem?]using h
     ·cases hk
    ·split at hk
     ·rename_i e
      cases hk
      exact Ze p hp e
     ·cases hk
   obtain⟨g,hg,Z3⟩:=Zx i ops[i] ZM
   obtain⟨p,hp⟩: ∃p,ord[p]? =some i:=List.mem_iff_getElem?.1 (hC i Z1)
   have Z4:p<leaf.length:=by
    have:=(List.getElem?_eq_some_iff.1 hp).1
    rw[←z5,List.length_map]at this
    exact this
   have HW:=List.getElem?_eq_getElem Z4
   have H4:leaf[p].1=i:=by
    have:=gi HW
    rw[hp]at this
    cases this
    rfl
   have zg:leaf[p].2.2=g:=by
    have:=gg _ (List.mem_of_getElem? HW)
    rw[H4,hg]at this
    cases this
    rfl
   have g8:gs'[p]? =some g:=by simp only[gs',List.getElem?_map,HW,Option.map_some,zg]
   have Zf:p<gs'.length:=by omega
   have g9:SS L p=false:=by rw[HS L HW,H4];exact ZL
   have bit0: ∀k i,(su ([]:List (Nat×Nat)) k).testBit i=true→LL L k=true→LL L i=true:= λk i h _=>by simp[su]at h
   have bit1: ∀i',(su ([]:List (Nat×Nat)) i).testBit i'=true→LL L i'=true:= λi' h=>by simp[su]at h
   have bu: ∀q y,leaf[q]? =some y→q<p→il y.2.2 g=true→SS L q=true:=by
    intro q y hq O qs
    have hW:=oz HR q p y _ O hq HW
    rw[H4,zg]at hW
    simp only[En,qs,Bool.not_true,Bool.false_and,Bool.or_false]at hW
    rw[HS L hq]
    exact C0 HC ZM g7 bit0 bit1 _ hW
   have after: ∀q y,leaf[q]? =some y→p<q→il g y.2.2=true→SS L q=false:=by
    intro q y hq O qs
    cases hS:SS L q with
    |false=>rfl
    |true=>
     exfalso
     have hW:=oz HR p q _ y O HW hq
     rw[H4,zg]at hW
     simp only[En,qs,Bool.not_true,Bool.false_and,Bool.or_false]at hW
     rw[HS L hq]at hS
     have:=kV HC bit0 _ _ hW hS
     rw[ZL]at this
     cases this
   have yes: ∀{k:Nat},k<gs'.length→ ∃y,leaf[k]? =some y∧gs'[k]? =some y.2.2:=by
    intro k hk
    have hy:=List.getElem?_eq_getElem (show k<leaf.length by omega)
    exact⟨_,hy,by simp only[gs',List.getElem?_map,hy,Option.map_some]⟩
   have gq: ∀t∈g.looks,aL (stOf L).fr t=aL (s p).fr t:=by
    intro t ht
    refine nJ hA (Nat.le_refl _) (by omega) λk hk hd=> ?_
    obtain⟨y,hy,HH⟩:=yes hk
    have hU:y.2.2.dst=some t:=by simpa[tn,HH]using hd
    rcases Nat.lt_trichotomy k p with O|e|ZN
    ·refine⟨λ_=>O,λ_=>bu k _ hy O ?_⟩
     cases hx:il y.2.2 g with
     |true=>rfl
     |false=>exact absurd ht (Gw hx hU).1
    ·subst e
     rw[g9]
     exact⟨(λe=>by cases e),(λe=>by omega)⟩
    ·refine⟨λhS=> ?_,λe=>by omega⟩
     have:il g y.2.2=true:=by
      cases hx:il g y.2.2 with
      |true=>rfl
      |false=>exact absurd ht (Lx hx hU)
     rw[after k _ hy ZN this]at hS
     cases hS
   have gt:g.op.eff=true→(stOf L).mem=(s p).mem∧(stOf L).nx=(s p).nx:=by
    intro he
    have:=oP hA (S:=SS L) (i:=p) (n:=gs'.length) (Nat.le_refl _) (by omega) λk hk hd=>by
     obtain⟨y,hy,HH⟩:=yes hk
     have hU:y.2.2.op.eff=true:=by simpa[iU,HH]using hd
     rcases Nat.lt_trichotomy k p with O|e|ZN
     ·refine⟨λ_=>O,λ_=>bu k _ hy O ?_⟩
      cases hx:il y.2.2 g with
      |true=>rfl
      |false=>
       have:=(oZ hx hU).1
       rw[he]at this;cases this
     ·subst e
      rw[g9]
      exact⟨(λe=>by cases e),(λe=>by omega)⟩
     ·refine⟨λhS=> ?_,λe=>by omega⟩
      have:il g y.2.2=true:=by
       cases hx:il g y.2.2 with
       |true=>rfl
       |false=>
        have:=(oZ hx he).1
        rw[hU]at this;cases this
      rw[after k _ hy ZN this]at hS
      cases hS
    simp only[stOf,this]
    exact⟨trivial,trivial⟩
   have ZG:g.op.eff=false→g.op.sens=true→jU (s p).mem (stOf L).mem:=by
    intro zz Zg
    refine GQ hA (S:=SS L) (p:=p) (λk hk hd=> ?_) (λk hpk hk hd hS=> ?_) (λk q Z5 hq hd gN hS=> ?_) (Nat.le_refl _) (by omega)
    ·obtain⟨y,hy,HH⟩:=yes (show k<gs'.length by omega)
     have hU:y.2.2.op.eff=true:=by simpa[iU,HH]using hd
     refine bu k _ hy hk ?_
     cases hx:il y.2.2 g with
     |true=>rfl
     |false=>
      have:=(oZ hx hU).2
      rw[Zg]at this;cases this
    ·obtain⟨y,hy,HH⟩:=yes hk
     have hU:y.2.2.op.eff=true:=by simpa[iU,HH]using hd
     have hne':p≠k:=by
      rintro rfl
      rw[g9]at hS
      cases hS
     have hW:=oz HR p k _ y (by omega) HW hy
     rw[H4,zg]at hW
     simp only[En,Bool.or_eq_true,Bool.and_eq_true,Zg,hU]at hW
     rcases hW with hW|⟨_,hW⟩
     ·exfalso
      rw[HS L hy]at hS
      have:=kV HC bit0 _ _ hW hS
      rw[ZL]at this
      cases this
     ·simp at hW
      exact ZJ k y hy hW
    ·obtain⟨y,hy,HH⟩:=yes (show k<gs'.length by omega)
     obtain⟨z,hY,Z6⟩:=yes hq
     have hU:y.2.2.op.eff=true:=by simpa[iU,HH]using hd
     have Zh:z.2.2.op.eff=true:=by simpa[iU,Z6]using gN
     have hW:=oz HR k q y z Z5 hy hY
     have Z7:il y.2.2 z.2.2=true:=by
      cases hx:il y.2.2 z.2.2 with
      |true=>rfl
      |false=>
       have:=(oZ hx hU).1
       rw[Zh]at this;cases this
     simp only[En,Z7,Bool.not_true,Bool.false_and,Bool.or_false]at hW
     rw[HS L hY]at hS
     rw[HS L hy]
     exact kV HC bit0 _ _ hW hS
   obtain⟨τ,k1,k2,k3,k4⟩:=(hA p g g8).congr (σ2:=stOf L) gq gt ZG (wn hA (by omega)).symm
   refine Lu ho Z3 k1 gj hz λι' a' w' ZO hY=> ?_
   have ZP:LL (L.setIfInBounds i true)=jz (LL L) i:=by
    funext k
    simp only[LL,jz,Array.getD_eq_getD_getElem?]
    by_cases e:k=i
    ·subst e
     simp[show k<L.size by omega]
    ·rw[if_neg e,Array.getElem?_setIfInBounds_ne (Ne.symm e)]
   have Zi: ∀q,q<gs'.length→SS (L.setIfInBounds i true) q=jz (SS L) p q:=by
    intro q hq
    obtain⟨y,hy,_⟩:=yes hq
    rw[HS _ hy,ZP]
    simp only[jz]
    by_cases e:q=p
    ·subst e
     rw[HW]at hy
     cases hy
     rw[if_pos H4,if_pos rfl]
    ·rw[if_neg e,HS L hy,if_neg]
     intro e2
     have h1:=gi hy
     rw[e2]at h1
     exact e (FG Zv q p i h1 hp)
   have frS: ∀(S S':Nat→Bool) n,(∀q,q<n→S q=S' q)→li gs' v (s 0).fr S n=li gs' v (s 0).fr S' n:=by
    intro S S' n
    induction n with
    |zero=>intro _;rfl
    |succ n ih=>intro hq;simp only[li];rw[ih λq ZQ=>hq q (by omega),hq n (by omega)]
   have memS: ∀(S S':Nat→Bool) n,(∀q,q<n→S q=S' q)→fY gs' s S n=fY gs' s S' n:=by
    intro S S' n
    induction n with
    |zero=>intro _;rfl
    |succ n ih=>intro hq;simp only[fY];rw[ih λq ZQ=>hq q (by omega),hq n (by omega)]
   refine ih _ ι' a' w' (by simpa using hL) ?_ HB (by rw[ZP];exact hJ) ?_ hY
   ·intro j o hj HY k hk
    rw[ZP]at HY ⊢
    simp only[jz]at HY ⊢
    split
    ·rfl
    ·split at HY
     ·rename_i e1
      subst e1
      rw[ZM]at hj
      cases hj
      exact g7 k hk
     ·exact HC j o hj HY k hk
   ·have Zj: ∀t,aL (li gs' v (s 0).fr (SS (L.setIfInBounds i true)) gs'.length) t=aL τ.fr t:=by
     intro t
     rw[frS _ _ _ Zi,I5 g9 Zf λhd k O HT=> ?_,k2 t]
     ·have e:tn gs' p=g.dst:=by simp[tn,g8]
      rw[e]
     ·have hU:g.dst=some t:=by simpa[tn,g8]using hd
      have ZR:k<gs'.length:=by
       unfold tn at HT
       cases hh:gs'[k]? with
       |none=>rw[hh]at HT;cases HT
       |some x=>exact(List.getElem?_eq_some_iff.1 hh).1
      obtain⟨y,hy,HH⟩:=yes ZR
      refine after k _ hy O ?_
      cases hx:il g y.2.2 with
      |true=>rfl
      |false=>exact absurd (by simpa[tn,HH]using HT) (Gw hx hU).2
    have Z8:fY gs' s (SS (L.setIfInBounds i true)) gs'.length=(τ.mem,τ.nx):=by
     rw[memS _ _ _ Zi,FV g9 Zf λhd k O HT=> ?_,k3]
     ·have e:iU gs' p=g.op.eff:=by simp[iU,g8]
      rw[e]
     ·have hU:g.op.eff=true:=by simpa[iU,g8]using hd
      have ZR:k<gs'.length:=by
       unfold iU at HT
       cases hh:gs'[k]? with
       |none=>rw[hh]at HT;cases HT
       |some x=>exact(List.getElem?_eq_some_iff.1 hh).1
      obtain⟨y,hy,HH⟩:=yes ZR
      refine after k _ hy O ?_
      cases hx:il g y.2.2 with
      |true=>rfl
      |false=>
       have h5:=(oZ hx hU).1
       have h6:y.2.2.op.eff=true:=by simpa[iU,HH]using HT
       rw[h6]at h5
       cases h5
    have:=ZO.fr (fr:=li gs' v (s 0).fr (SS (L.setIfInBounds i true)) gs'.length) Zj
    rw[k4]at this
    simp only[stOf,Z8]at this ⊢
    exact this
 have none: ∀k,LL (Array.replicate ops.size false) k=false:=by
  intro k
  simp only[LL,Array.getD_eq_getD_getElem?,Array.getElem?_replicate]
  split<;>simp
 have noneS: ∀k,SS (Array.replicate ops.size false) k=false:= λk=>none _
 refine main sched _ ι a w (by simp[hn]) (λj o hj HY=> ?_) HB ?_ ?_ hz
 ·rw[none]at HY;cases HY
 ·have:LL (Array.replicate ops.size false)= λ_=>false:=funext none
  rw[this];exact hJ
 ·have gq: ∀t,aL (li gs' v (s 0).fr (SS (Array.replicate ops.size false)) gs'.length) t=aL σ.fr t:=by
   intro t
   rw[←h9]
   exact nJ hA (i:=0) (Nat.le_refl _) (by omega) λk hk _=>by rw[noneS k];exact⟨(λe=>by cases e),(λe=>by omega)⟩
  have gt:=oP hA (S:=SS (Array.replicate ops.size false)) (i:=0) (n:=gs'.length) (Nat.le_refl _) (by omega) λk hk _=>by rw[noneS k];exact⟨(λe=>by cases e),(λe=>by omega)⟩
  have:=hs.fr (fr:=li gs' v (s 0).fr (SS (Array.replicate ops.size false)) gs'.length) gq
  simp only[stOf,gt]
  simp only[h9]at this ⊢
  exact this
theorem x8 {gs:List AG} {M:List (Nat×Nat)}: ∀{ord:List Nat} {prev:List (Nat×AG)} {leaf:List (Nat×Bool×AG)},Ia gs M prev ord=some leaf→leaf.map (·.1)=ord∧ ∀y∈leaf,gs[y.1]? =some y.2.2
 | [],prev,leaf,h=>by cases h;exact⟨rfl,λy hy=>by cases hy⟩
 |k::r,prev,leaf,h=>by
  unfold Ia at h
  split at h
  ·rename_i g hg
   split at h
   ·rename_i l hl
    cases h
    obtain⟨h1,h2⟩:=x8 hl
    refine⟨by rw[List.map_cons,h1],λy hy=> ?_⟩
    rcases List.mem_cons.1 hy with rfl|hy
    ·exact hg
    ·exact h2 y hy
   ·cases h
  ·cases h
theorem rF {ops:Array Oper} {gs:List AG} {K:St→Prop} {Q:Exit→Act→World→Prop}
  (hc:fK P dr nt ops ops.toList=some gs) (HD:tJ 0 ops.toList=true) (hH:(gs.all λg=> !g.op.gcall)=true) (hs:bl w0 U σ ι a w) (hz:a.tmps.size=nt)
  (hq: ∀σ' ι' a' w',K σ'→bl w0 U σ' ι' a' w'→a'.tmps.size=nt→Q .normal a' w') {sched:List Nat} (HB:M9 ops sched (Array.replicate ops.size false)):
  ∀{f:Nat} {E:List (Nat×Nat)} {gss:List (List (Nat×Bool×AG))},DT ops.toList gs f E=some gss→(∀leaf∈gss,jj P (sR leaf) σ K)→QL E sched (λ_=>false)→wpOps P ops Q sched a w
 |0,E,gss,h,_,_=>by cases h
 |f+1,E,gss,h,hC,hJ=>by
  unfold DT at h
  split at h
  ·cases h
  ·rename_i ord _
   split at h
   ·cases h
   ·rename_i leaf hb
    split at h
    ·split at h
     ·rename_i ZA
      cases h
      simp only[Bool.and_eq_true,List.all_eq_true,List.mem_range]at ZA
      obtain⟨⟨⟨h1,h2⟩,h3⟩,h4⟩:=ZA
      obtain⟨k1,k2⟩:=x8 hb
      exact KW hc HD hH h1 k1 k2 h2 (λi hi=>List.contains_iff_mem.1 (h3 i hi)) (hC leaf List.mem_cons_self) hs hz hq HB hJ
     ·cases h
    ·rename_i i k _
     split at h
     ·cases h
     ·rename_i zz
      split at h
      ·rename_i ga gb ha ge
       cases h
       rcases FH zz hJ with h'|h'
       ·exact rF hc HD hH hs hz hq HB ha (λleaf hl=>hC leaf (List.mem_append_left _ hl)) h'
       ·exact rF hc HD hH hs hz hq HB ge (λleaf hl=>hC leaf (List.mem_append_right _ hl)) h'
      ·cases h
theorem K5 {ops:Array Oper} {gs:List AG} {gss:List (List (Bool×AG))} {K:St→Prop} {Q:Exit→Act→World→Prop} (hc:fK P dr nt ops ops.toList=some gs) (hd:oa P ops.toList gs= .draw gss) (h:ym P gss σ K) (hs:bl w0 U σ ι a w) (hz:a.tmps.size=nt)
  (hq: ∀σ' ι' a' w',K σ'→bl w0 U σ' ι' a' w'→a'.tmps.size=nt→Q .normal a' w'): ∀t,wpOps P ops Q (Region.schedule (P.follows .mixedOrders) ops t) a {w with drawn:=w.drawn+1}:=by
 unfold oa at hd
 split at hd
 ·rename_i hM
  simp only[Bool.and_eq_true]at hM
  obtain⟨⟨Zk,HD⟩,hH⟩:=hM
  split at hd
  ·rename_i l hl
   cases hd
   have J:bl w0 U σ ι a {w with drawn:=w.drawn+1}:=hs.grow ⟨rfl,rfl,rfl,Nat.le_refl _,λ_ _=>rfl⟩
   intro t
   simp only[Region.schedule,Zk,Bool.true_or,if_true]
   refine rF hc HD hH J hz hq (OZ _ _ _ (by simp) ?_) hl (λleaf Z9=>GI h _ (List.mem_map_of_mem Z9)) LS
   have h0: ∀n,MH (λk=>(Array.replicate ops.size false).getD k false) n=0:=by
    intro n
    induction n with
    |zero=>rfl
    |succ n ih=>
     simp only[MH,ih]
     rw[if_neg]
     simp only[Array.getD_eq_getD_getElem?,Array.getElem?_replicate]
     split<;>simp
   rw[h0]
   omega
  ·cases hd
 ·cases hd
end
open Go.RowKit
section
variable {P : Program} {a : Act} {w w' w0 : World} {U : Gh} {ι : Pl} {σ : St} {nt : Nat} {dr : Bool}
theorem lp {ops:Array Oper} {Q:Exit→Act→World→Prop} {K:St→Prop}: ∀{l:List Oper} {gs:List AG} {σ:St} {ι:Pl} {a:Act} {w:World},fK P dr nt ops l=some gs→lB P gs σ K→bl w0 U σ ι a w→a.tmps.size=nt→
  (∀σ' ι' a' w',K σ'→bl w0 U σ' ι' a' w'→a'.tmps.size=nt→Q .normal a' w')→wpList P ops Q l a w
 |[],gs,σ,ι,a,w,hc,h,hs,HA,hq=>by
  cases hc
  exact hq σ ι a w h hs HA
 |o::l,gs,σ,ι,a,w,hc,h,hs,HA,hq=>by
  unfold fK at hc
  split at hc
  ·rename_i g gs' h1 h2
   cases hc
   unfold uK at h1
   by_cases HF:KY nt o.dst=false
   ·rw[if_pos HF]at h1;cases h1
   ·rw[if_neg HF]at h1
    have hd: ∀t,o.dst=some t→t<a.tmps.size:=by
     intro t ht
     rw[ht]at HF
     have h5:t<nt:=by simpa[KY]using HF
     rw[HA]
     exact h5
    split at h1
    ·rename_i ao q9
     have run: ∀{K':AV→St→Prop},bh P ao σ K'→(∀v σ',K' v σ'→lB P gs' (σ'.put o.dst v) K)→o.wp P a w (wpList P ops Q l) Q:=by
      intro K' C hk
      refine IT q9 C hs ?_
      intro v σ' ι' u w' hv J hr
      exact lp h2 (hk v σ' hv) (J.put hd hr) (by rw[sr];exact HA) hq
     have skip:lB P gs' (σ.put o.dst (.tup [])) K→wpList P ops Q l (a.put o.dst undef) w:= λhk=>
      lp h2 hk (hs.put hd fO) (by rw[sr];exact HA) hq
     unfold wpList
     split at h1
     ·rename_i q0
      cases h1
      simp only[lB]at h
      rw[if_pos (by simp[Region.wanted,q0])]
      exact .inl (run h λ_ _ h=>h)
     ·rename_i j want q0
      split at h1
      ·rename_i t ht
       cases h1
       simp only[lB]at h
       have Z:=hs.val t
       split at h
       ·rename_i b e
        rw[e]at Z
        have hb:=s5 (aQ Z).1 (by intro e;cases e)
        have hy:yielded ops a.tmps j=some b:=by simp[yielded,ht,hb]
        by_cases z0:b=want
        ·rw[if_pos (by simp[Region.wanted,q0,hy,z0])]
         exact .inl (run (h.1 (by simp[z0])) λ_ _ h=>h)
        ·rw[if_neg (by simp[Region.wanted,q0,hy,z0])]
         exact skip (h.2 (by simp[z0]))
       ·rename_i e
        rw[e]at Z
        have hu:a.tmps.getD t undef=undef:=by
         generalize a.tmps.getD t undef=z at Z
         cases Z with
         | @tup _ vs hl _=>
          have:vs= #[]:=Array.eq_empty_of_size_eq_zero (by simpa using hl.symm)
          rw[this]
          rfl
        have hy:yielded ops a.tmps j=none:=by
         unfold yielded
         simp only[ht,Option.bind_some]
         simp only[Array.getD_eq_getD_getElem?]at hu
         cases e':a.tmps[t]? with
         |none=>rfl
         |some z=>
          rw[e']at hu
          simp at hu
          subst hu
          rfl
        rw[if_neg (by simp[Region.wanted,q0,hy])]
        exact skip h
       ·exact h.elim
      ·cases h1
    ·cases h1
  ·cases hc
end
section
variable {P : Program}
theorem iy {ops:List Oper} {gs:List AG}:(∃gss,oa P ops gs= .draw gss)∨oa P ops gs= .region gs true:=by
 unfold oa
 split
 ·split
  ·exact .inl ⟨_,rfl⟩
  ·exact .inr rfl
 ·exact .inr rfl
theorem fD {dr:Bool} {ops:List Oper} {gs:List AG}:(∃x,nQ P dr ops gs= .draw x)∨(∃x,nQ P dr ops gs= .region gs x):=by
 unfold nQ
 split
 ·rcases iy (P:=P) (ops:=ops) (gs:=gs)with⟨x,e⟩|e
  ·exact .inl ⟨x,e⟩
  ·exact .inr ⟨true,e⟩
 ·exact .inr ⟨false,rfl⟩
@[simp] theorem Ug {dr:Bool} {ops:List Oper} {gs:List AG}:(nQ P dr ops gs= .skip)=False:=eq_false λh=>by
 rcases fD (P:=P) (dr:=dr) (ops:=ops) (gs:=gs)with⟨x,e⟩|⟨x,e⟩<;>rw[e]at h<;>cases h
@[simp] theorem UD {dr:Bool} {ops:List Oper} {gs:List AG}:(nQ P dr ops gs= .ret)=False:=eq_false λh=>by
 rcases fD (P:=P) (dr:=dr) (ops:=ops) (gs:=gs)with⟨x,e⟩|⟨x,e⟩<;>rw[e]at h<;>cases h
@[simp] theorem Uh {dr:Bool} {ops:List Oper} {gs:List AG} {i:Nat}:(nQ P dr ops gs= .exit i)=False:=eq_false λh=>by
 rcases fD (P:=P) (dr:=dr) (ops:=ops) (gs:=gs)with⟨x,e⟩|⟨x,e⟩<;>rw[e]at h<;>cases h
@[simp] theorem UX {dr:Bool} {ops:List Oper} {gs:List AG} {x y:ah}:(nQ P dr ops gs= .seq x y)=False:=eq_false λh=>by
 rcases fD (P:=P) (dr:=dr) (ops:=ops) (gs:=gs)with⟨x,e⟩|⟨x,e⟩<;>rw[e]at h<;>cases h
@[simp] theorem Ud {dr:Bool} {ops:List Oper} {gs:List AG} {c:AX} {x y:ah}:(nQ P dr ops gs= .cond c x y)=False:=eq_false λh=>by
 rcases fD (P:=P) (dr:=dr) (ops:=ops) (gs:=gs)with⟨x,e⟩|⟨x,e⟩<;>rw[e]at h<;>cases h
@[simp] theorem T8 {dr:Bool} {ops:List Oper} {gs:List AG} {i:Nat} {x:ah}:(nQ P dr ops gs= .block i x)=False:=eq_false λh=>by
 rcases fD (P:=P) (dr:=dr) (ops:=ops) (gs:=gs)with⟨x,e⟩|⟨x,e⟩<;>rw[e]at h<;>cases h
@[simp] theorem Uc {dr:Bool} {ops:List Oper} {gs:List AG} {x:ah}:(nQ P dr ops gs= .loop x)=False:=eq_false λh=>by
 rcases fD (P:=P) (dr:=dr) (ops:=ops) (gs:=gs)with⟨x,e⟩|⟨x,e⟩<;>rw[e]at h<;>cases h
@[simp] theorem SB {dr:Bool} {ops:List Oper} {gs:List AG} {f:AX} {ps:List Nat} {x y:ah}:(nQ P dr ops gs= .rangeF f ps x y)=False:=eq_false λh=>by
 rcases fD (P:=P) (dr:=dr) (ops:=ops) (gs:=gs)with⟨x,e⟩|⟨x,e⟩<;>rw[e]at h<;>cases h
end
inductive bk where
 |normal
 |exit (id:Nat)
 |ret
def o8:bk→Exit
 | .normal=> .normal
 | .exit id=> .exit id
 | .ret=> .ret
def FR (rd:Option Nat):Fence:={Fence.wide with round:=rd}
def sh (ds:List Deferred) (a:Act):Act:={a with defers:=a.defers++ds}
def Lf (ds:List Deferred) (K:Act→World→Prop):Act→World→Prop:= λa' w'=> ∃a0,a'=sh ds a0∧K a0 w'
def VR (ds:List Deferred) (Q:Exit→Act→World→Prop):Exit→Act→World→Prop:= λe a' w'=> ∃a0,a'=sh ds a0∧Q e a0 w'
theorem zq {ds:List Deferred} {a:Act} {d:Option Tmp} {v:Value}:(sh ds a).put d v=sh ds (a.put d v):=by cases d<;>rfl
theorem G8 {ds:List Deferred} {a:Act}:(sh ds a).eval=a.eval:=by
 funext x
 cases x<;>rfl
theorem Ir {P:Program} {rd:Option Nat} {n:Nat} {f:FuncId} {args:Array Value} {w:World} {R:Ending→World→Prop} (h:Calls P f args w R):CallsIn (FR rd) n P f args w R:=
 (callsIn_wide (n:=n)).2 h
theorem TN {P:Program} {rd:Option Nat} {n:Nat} {row:String} {args:Array Value} {w:World} {R:Value→World→Prop} (h:Rows P row args w R):RowsIn (FR rd) n P row args w R:=by
 intro c cs _
 obtain⟨v,w',hr,hs⟩:=h c cs
 exact⟨v,w',hr,stepsIn_wide.2 hs⟩
theorem Sk {P:Program} {rd:Option Nat} {ds:List Deferred} {n:Nat} {o:Oper} {a:Act} {w:World} {next:Act→World→Prop} {Q:Exit→Act→World→Prop}
  (hd: ∀c,o.op≠ .defer c) (hl: ¬LetsOut Q) (h:o.wp P a w next Q):o.wpIn (FR rd) n P (sh ds a) w (Lf ds next) (VR ds Q):=by
 refine⟨λ_ _=>trivial, ?_⟩
 rw[Oper.semAt_eq _ _ _ hd,G8]
 unfold Oper.wp at h
 generalize (execOp a.eval o).run P w=r at h
 cases r with
 |ok nx w'=>
  cases nx<;>simp only[Oper.upon,Oper.uponIn]at h ⊢
  case value v=>exact⟨_,zq,h⟩
  case skip=>exact⟨_,zq,h⟩
  case defer d=>
   refine⟨{a with defers:=d::a.defers}.put o.dst undef, ?_,h⟩
   cases o.dst<;>rfl
  case enter f args=>
   refine⟨by simp[FR,Fence.wide],Ir (h.mono λe w'' h=> ?_)⟩
   cases e with
   |returned v=>exact⟨_,zq,h⟩
   |panicked ch=>exact⟨_,rfl,h⟩
   |outgrown=>exact absurd h hl
  case row row args=>
   exact⟨by simp[FR,Fence.wide],TN (h.mono λv w'' h=>⟨_,zq,h⟩)⟩
 |halt hh w'=>
  cases hh<;>simp only[Oper.upon,Oper.uponIn]at h ⊢
  case panic v=>exact⟨_,rfl,h⟩
theorem J3 {P:Program} {dr:Bool} {nt:Nat} {ops:Array Oper} {o:Oper} {g:AG} (h:uK P dr nt ops o=some g): ∀c,o.op≠ .defer c:=by
 intro c e
 unfold uK at h
 rw[e]at h
 split at h
 ·cases h
 ·simp[bo]at h
theorem jr {P:Program} {dr:Bool} {nt:Nat} {ops:Array Oper}: ∀{l:List Oper} {gs:List AG},fK P dr nt ops l=some gs→ ∀o∈l,∀c,o.op≠ .defer c
 | [],_,_,o,ho=>by cases ho
 |x::l,gs,h,o,ho=>by
  unfold fK at h
  split at h
  ·rename_i g gs' h1 h2
   rcases List.mem_cons.1 ho with rfl|ho
   ·exact J3 h1
   ·exact jr h2 o ho
  ·cases h
theorem tE {P:Program} {rd:Option Nat} {ds:List Deferred} {n:Nat} {ops:Array Oper} {Q:Exit→Act→World→Prop} (hl: ¬LetsOut Q): ∀{l:List Oper} {a:Act} {w:World},(∀o∈l,∀c,o.op≠ .defer c)→
  wpList P ops Q l a w→wpListIn (FR rd) n P ops (VR ds Q) l (sh ds a) w
 | [],a,w,_,h=>⟨a,rfl,h⟩
 |o::l,a,w,hd,h=>by
  unfold wpList at h
  unfold wpListIn
  by_cases hw:Region.wanted o (yielded ops a.tmps)=true
  ·rw[if_pos hw]at h
   have H0:Region.wanted o (yielded ops (sh ds a).tmps)=true:=hw
   rw[if_pos H0]
   rcases h with h|⟨_,h⟩
   ·have:=Sk (rd:=rd) (ds:=ds) (n:=n) (hd o List.mem_cons_self) hl h
    refine Oper.wpIn_mono (λa' w' ⟨a0,e,hk⟩=> ?_) this
    subst e
    exact tE hl (λo ho=>hd o (List.mem_cons_of_mem _ ho)) hk
   ·exact absurd h hl
  ·rw[if_neg hw]at h
   have H0: ¬Region.wanted o (yielded ops (sh ds a).tmps)=true:=hw
   rw[if_neg H0,zq]
   exact⟨λ_ _=>trivial,tE hl (λo ho=>hd o (List.mem_cons_of_mem _ ho)) h⟩
theorem He {P:Program} {rd:Option Nat} {ds:List Deferred} {n:Nat} {ops:Array Oper} {Q:Exit→Act→World→Prop} (hl: ¬LetsOut Q) (hd: ∀o∈ops.toList,∀c,o.op≠ .defer c): ∀{l:List Nat} {a:Act} {w:World},
  wpOps P ops Q l a w→wpOpsIn (FR rd) n P ops (VR ds Q) l (sh ds a) w
 | [],a,w,h=>⟨a,rfl,h⟩
 |i::l,a,w,h=>by
  unfold wpOps at h
  unfold wpOpsIn
  cases ho:ops[i]? with
  |none=>
   rw[ho]at h
   exact He hl hd h
  |some o=>
   rw[ho]at h
   have hm:o∈ops.toList:=Array.mem_toList_iff.2 (Array.mem_of_getElem? ho)
   dsimp only at h ⊢
   by_cases hw:Region.wanted o (yielded ops a.tmps)=true
   ·rw[if_pos hw]at h
    have H0:Region.wanted o (yielded ops (sh ds a).tmps)=true:=hw
    rw[if_pos H0]
    rcases h with h|⟨_,h⟩
    ·have:=Sk (rd:=rd) (ds:=ds) (n:=n) (hd o hm) hl h
     refine Oper.wpIn_mono (λa' w' ⟨a0,e,hk⟩=> ?_) this
     subst e
     exact He hl hd hk
    ·exact absurd h hl
   ·rw[if_neg hw]at h
    have H0: ¬Region.wanted o (yielded ops (sh ds a).tmps)=true:=hw
    rw[if_neg H0,zq]
    exact⟨λ_ _=>trivial,He hl hd h⟩
def Pu (U:Gh) (rd:Option Nat):Prop:= ∀l,rd=some l→ ∀w V,U.G w V→ ∃r,w.heap[l]? =some (.loop r)
inductive Jk (B:Nat) (rd:Option Nat) (U:Gh) (ds:List Deferred):Gh→List Deferred→Prop
 |refl:Jk B rd U ds U ds
 |mark {U' U'':Gh} {ds':List Deferred} {D:Nat} (h:Jk B rd U ds U' ds') (hr:rd=none) (hD:B≤D) (hp:U''.p=U'.p) (hi:U''.ι0=U'.ι0)
   (hG: ∀w V,U''.G w V→U'.G w V∧V D∧w.heap[D]? =some (.deferred (some []))∧U'.G (w.putObj D (.deferred none)) V):Jk B rd U ds U'' ({target:= .collected D,args:= #[]}::ds')
theorem Jk.trans {B:Nat} {rd:Option Nat} {U U' U'':Gh} {ds ds' ds'':List Deferred} (h:Jk B rd U ds U' ds') (h':Jk B rd U' ds' U'' ds''):Jk B rd U ds U'' ds'':=by
 induction h' with
 |refl=>exact h
 |mark _ hr hD hp hi hG ih=>exact .mark ih hr hD hp hi hG
theorem Jk.le {B:Nat} {rd:Option Nat} {U U':Gh} {ds ds':List Deferred} (h:Jk B rd U ds U' ds'):U'.p=U.p∧U'.ι0=U.ι0∧ ∀w V,U'.G w V→U.G w V:=by
 induction h with
 |refl=>exact⟨rfl,rfl,λ_ _ h=>h⟩
 |mark _ _ _ hp hi hG ih=>exact⟨hp.trans ih.1,hi.trans ih.2.1,λw V h=>ih.2.2 w V (hG w V h).1⟩
theorem Jk.inRound {B l:Nat} {U U':Gh} {ds ds':List Deferred} (h:Jk B (some l) U ds U' ds'):U'=U∧ds'=ds:=by
 cases h with
 |refl=>exact⟨rfl,rfl⟩
 |mark _ hr=>cases hr
theorem Pu.ext {B:Nat} {rd:Option Nat} {U U':Gh} {ds ds':List Deferred} (hr:Pu U rd) (h:Jk B rd U ds U' ds'):Pu U' rd:= λl e w V hg=>hr l e w V (h.le.2.2 w V hg)
def yK (w0:World) (U:Gh) (rd:Option Nat) (ds:List Deferred) (nt:Nat) (Q:bk→St→Prop):Exit→Act→World→Prop:= λe a w=>
 ∃e' σ ι U' ds' a0,e=o8 e'∧Q e' σ∧bl w0 U' σ ι a0 w∧a0.tmps.size=nt∧a=sh ds' a0∧Jk w0.heap.size rd U ds U' ds'
theorem yK.ext {w0:World} {U U':Gh} {rd:Option Nat} {ds ds':List Deferred} {nt:Nat} {Q:bk→St→Prop} {e:Exit} {a:Act} {w:World} (h:yK w0 U' rd ds' nt Q e a w) (hx:Jk w0.heap.size rd U ds U' ds'):yK w0 U rd ds nt Q e a w:=by
 obtain⟨e',σ,ι,U2,ds2,a0,h1,h2,h3,h4,h5,h6⟩:=h
 exact⟨e',σ,ι,U2,ds2,a0,h1,h2,h3,h4,h5,hx.trans h6⟩
theorem yK.here {w0:World} {U:Gh} {rd:Option Nat} {ds:List Deferred} {nt:Nat} {Q:bk→St→Prop} {e':bk} {σ:St} {ι:Pl} {a:Act} {w:World} (hq:Q e' σ) (hs:bl w0 U σ ι a w) (hz:a.tmps.size=nt):yK w0 U rd ds nt Q (o8 e') (sh ds a) w:=
 ⟨e',σ,ι,U,ds,a,rfl,hq,hs,hz,rfl,.refl⟩
def AW (P:Program) (nt:Nat) (c:ah) (σ:St) (Q:bk→St→Prop):Prop:=
 ∀(c':Code),dq P nt c'=some c→ ∀w0 U rd ds ι a w,Pu U rd→bl w0 U σ ι a w→a.tmps.size=nt→c'.wpIn (FR rd) 0 P (yK w0 U rd ds nt Q) (sh ds a) w
def SQ (P:Program) (nt:Nat) (b:ah) (Q:bk→St→Prop):bk→St→Prop
 | .normal,σ=>AW P nt b σ Q
 | .exit i,σ=>Q (.exit i) σ
 | .ret,σ=>Q .ret σ
def Lj (id:Nat) (Q:bk→St→Prop):bk→St→Prop
 | .normal,σ=>Q .normal σ
 | .exit i,σ=>if i=id then Q .normal σ else Q (.exit i) σ
 | .ret,σ=>Q .ret σ
section
variable {P : Program} {nt : Nat} {σ : St} {Q Q' : bk → St → Prop}
theorem AW.mono {c:ah} (h:AW P nt c σ Q) (hq: ∀e σ,Q e σ→Q' e σ):AW P nt c σ Q':=
 λc' hc w0 U rd ds ι a w hr hs hz=>wpIn_mono (h c' hc w0 U rd ds ι a w hr hs hz) λe a w ⟨e',σ',ι',U',ds',a0,h1,h2,h3⟩=>⟨e',σ',ι',U',ds',a0,h1,hq _ _ h2,h3⟩
theorem Mx (h:Q .normal σ):AW P nt .skip σ Q:=by
 intro c' hc w0 U rd ds ι a w hE hs hz
 cases c'<;>simp[dq]at hc
 ·exact wpIn_skip (yK.here (e':= .normal) h hs hz)
 all_goals(try(split at hc<;>simp at hc))
theorem Lt (h:Q .ret σ):AW P nt .ret σ Q:=by
 intro c' hc w0 U rd ds ι a w hE hs hz
 cases c'<;>simp[dq]at hc
 all_goals(try(split at hc<;>simp at hc))
 exact wpIn_ret (yK.here (e':= .ret) h hs hz)
theorem Q9 {id:Nat} (h:Q (.exit id) σ):AW P nt (.exit id) σ Q:=by
 intro c' hc w0 U rd ds ι a w hE hs hz
 cases c'<;>simp[dq]at hc
 all_goals(try(split at hc<;>simp at hc))
 subst hc
 exact wpIn_exit (yK.here (e':= .exit _) h hs hz)
theorem zV {x y:ah} (h:AW P nt x σ (SQ P nt y Q)):AW P nt (.seq x y) σ Q:=by
 intro c' hc w0 U rd ds ι a w hE hs hz
 cases c'<;>simp[dq]at hc
 all_goals(try(split at hc<;>simp at hc))
 rename_i b1 b2 c1 c2 h1 h2
 obtain⟨rfl,rfl⟩:=hc
 refine wpIn_seq (wpIn_mono (h _ h1 w0 U rd ds ι a w hE hs hz) ?_)
 rintro e a1 w1 ⟨e',σ',ι',U',ds',a0,rfl,hq,J,HA,rfl,hx⟩
 cases e' with
 |normal=>exact wpIn_mono (hq _ h2 w0 U' rd ds' ι' a0 w1 (hE.ext hx) J HA) λe a w h=>h.ext hx
 |exit id=>exact⟨.exit id,σ',ι',U',ds',a0,rfl,hq,J,HA,rfl,hx⟩
 |ret=>exact⟨.ret,σ',ι',U',ds',a0,rfl,hq,J,HA,rfl,hx⟩
theorem OW {x:ah} {id:Nat} (h:AW P nt x σ (Lj id Q)):AW P nt (.block id x) σ Q:=by
 intro c' hc w0 U rd ds ι a w hE hs hz
 cases c'<;>simp[dq]at hc
 all_goals(try(split at hc<;>simp at hc))
 rename_i i1 c1
 obtain⟨rfl,h1⟩:i1=id∧dq P nt c1=some x:=by simp_all
 refine wpIn_block (wpIn_mono (h _ h1 w0 U rd ds ι a w hE hs hz) ?_)
 rintro e a1 w1 ⟨e',σ',ι',U',ds',a0,rfl,hq,J,HA,rfl,hx⟩
 cases e' with
 |normal=>exact⟨.normal,σ',ι',U',ds',a0,rfl,hq,J,HA,rfl,hx⟩
 |exit i=>
  simp only[Lj]at hq
  by_cases hi:i=i1
  ·rw[if_pos hi]at hq
   simp only[o8,Exit.inBlock,if_pos hi]
   exact⟨.normal,σ',ι',U',ds',a0,rfl,hq,J,HA,rfl,hx⟩
  ·rw[if_neg hi]at hq
   simp only[o8,Exit.inBlock,if_neg hi]
   exact⟨.exit i,σ',ι',U',ds',a0,rfl,hq,J,HA,rfl,hx⟩
 |ret=>exact⟨.ret,σ',ι',U',ds',a0,rfl,hq,J,HA,rfl,hx⟩
theorem Hy {c:AX} {x y:ah} {t:Bool} (hc:c.ev σ.fr= .c (.pure (.val (.bool t)))) (h1:t=true→AW P nt x σ Q) (h2:t=false→AW P nt y σ Q):AW P nt (.cond c x y) σ Q:=by
 intro c' z2 w0 U rd ds ι a w hE hs hz
 cases c'<;>simp[dq]at z2
 all_goals(try(split at z2<;>simp at z2))
 rename_i o b1 b2 _ _ _ x1 x2 x3 g1 g2 g3
 obtain⟨rfl,rfl,rfl⟩:=z2
 have r1:=al g1 hs
 rw[hc]at r1
 have ho:=(aQ r1).1
 have q8:(sh ds a).eval o= .bool t:=by rw[G8];exact ho
 cases t with
 |true=>exact wpIn_cond_true q8 (h1 rfl _ g2 w0 U rd ds ι a w hE hs hz)
 |false=>exact wpIn_cond_false q8 (h2 rfl _ g3 w0 U rd ds ι a w hE hs hz)
theorem LM {w0:World} {U:Gh} {rd:Option Nat} {ds:List Deferred}: ∀e a w,VR ds (λe a w=> ∃σ ι,e= .normal∧Q .normal σ∧bl w0 U σ ι a w∧a.tmps.size=nt) e a w→yK w0 U rd ds nt Q e a w:=by
 rintro e a w ⟨a0,rfl,σ,ι,rfl,hq,hs,hz⟩
 exact yK.here (e':= .normal) hq hs hz
theorem sG {w0:World} {U:Gh}: ¬LetsOut (λe a w=> ∃σ ι,e= .normal∧Q .normal σ∧bl w0 U σ ι a w∧a.tmps.size=nt):=by
 rintro⟨_,_,_,_,h,_⟩
 cases h
theorem Nx {gs:List AG} (h:lB P gs σ (Q .normal)):AW P nt (.region gs false) σ Q:=by
 intro c' hc w0 U rd ds ι a w hE hs hz
 cases c'<;>simp[dq]at hc
 all_goals(try(split at hc<;>simp at hc))
 rename_i id ops dr
 obtain⟨g1,h1,hg⟩:=hc
 cases dr with
 |false=>
  simp[nQ]at hg
  subst hg
  refine wpIn_mono (wpIn_region_list (tE (ds:=ds) sG (jr h1) (lp h1 h hs hz λσ' ι' a' w' hq J hY=>⟨σ',ι',rfl,hq,J,hY⟩))) LM
 |true=>
  simp only[nQ,if_true]at hg
  rcases iy (P:=P) (ops:=ops.toList) (gs:=g1)with⟨x,e⟩|e<;>rw[e]at hg<;>simp at hg
theorem QW {gss:List (List (Bool×AG))} (h:ym P gss σ (Q .normal)):AW P nt (.draw gss) σ Q:=by
 intro c' hc w0 U rd ds ι a w hE hs hz
 cases c'<;>simp[dq]at hc
 all_goals(try(split at hc<;>simp at hc))
 rename_i id ops dr
 obtain⟨g1,h1,hg⟩:=hc
 cases dr with
 |false=>simp[nQ]at hg
 |true=>
  simp only[nQ,if_true]at hg
  refine wpIn_mono (wpIn_region_draw λt=>He (ds:=ds) sG (jr h1) (K5 h1 hg h hs hz (λσ' ι' a' w' hq J hY=>⟨σ',ι',rfl,hq,J,hY⟩) t)) LM
end
open Go.RowKit
def j9 (N:Nat):AC→Prop
 | .ptr nm _=>nm<N
 | .eptr nm _ _ _=>nm<N
 | .ref nm=>nm<N
 | .mref nm=>nm<N
 | .clo _ caps=>go caps
 |_=>True
where go:List AC→Prop
 | []=>True
 | .ptr nm _::r=>nm<N∧go r
 | .mref nm::r=>nm<N∧go r
 | .ref nm::r=>nm<N∧go r
 | .pure _::r=>go r
 | .cptr _::r=>go r
 | .nils::r=>go r
 | .tsl _::r=>go r
 | .top::r=>go r
 |_::_=>False
def dl (N:Nat):List AC→Prop
 | []=>True
 |x::r=>j9 N x∧dl N r
def kW (N:Nat):AV→Prop
 | .c x=>j9 N x
 | .agg xs=>dl N xs
 | .tup []=>True
 | .tup _=>False
 | .top=>True
def KE (N:Nat):List (MK×List AC)→Prop
 | []=>True
 |x::r=>dl N x.2∧KE N r
def R4 (N:Nat):List (List AC)→Prop
 | []=>True
 |x::r=>dl N x∧R4 N r
def Wo (N:Nat):bm→Prop
 | .var xs=>dl N xs
 | .map _ _ ents=>KE N ents
 | .arn _ _ rows=>R4 N rows
 |_=>True
def rn:List (Nat×Nat)→Nat→Nat
 | [],n=>n
 |(a,b)::r,n=>if a=n then b else rn r n
def dM (l:List (Nat×Nat)):AC→AC
 | .ptr nm off=> .ptr (rn l nm) off
 | .mref nm=> .mref (rn l nm)
 | .ref nm=> .ref (rn l nm)
 |x=>x
def cz (l:List (Nat×Nat)):AC→AC
 | .ptr nm off=> .ptr (rn l nm) off
 | .eptr nm sz row off=> .eptr (rn l nm) sz row off
 | .ref nm=> .ref (rn l nm)
 | .mref nm=> .mref (rn l nm)
 | .clo f caps=> .clo f (caps.map (dM l))
 |x=>x
def du (l:List (Nat×Nat)):AV→AV
 | .c x=> .c (cz l x)
 | .agg xs=> .agg (xs.map (cz l))
 |x=>x
def Tf (l:List (Nat×Nat)):bm→bm
 | .var xs=> .var (xs.map (cz l))
 | .map kt n ents=> .map kt n (ents.map λx=>(x.1,x.2.map (cz l)))
 | .arn e sz rows=> .arn e sz (rows.map λr=>r.map (cz l))
 |b=>b
def kf (l:List (Nat×Nat)) (fr:List (Nat×AV)) (N:Nat):List (Nat×AV)→Prop
 | []=>True
 |(t,v)::r=>(aL fr t=du l v∨v= .top)∧kW N v∧kf l fr N r
def JD (n:Nat):List Nat→Prop
 | []=>True
 |m::r=>n≠m∧JD n r
def UL (l:List (Nat×Nat)) (mem:List (Nat×bm)) (N:Nat):List Nat→List (Nat×bm)→Prop
 |_, []=>True
 |seen,(nm,b)::r=>am mem (rn l nm)=some (Tf l b)∧nm<N∧Wo N b∧JD (rn l nm) seen∧UL l mem N (rn l nm::seen) r
def VP (N:Nat):List (Nat×Nat)→Prop
 | []=>True
 |(a,_)::r=>N≤a∧VP N r
theorem N8 {N:Nat}: ∀{l:List (Nat×Nat)},VP N l→ ∀{n:Nat},n<N→rn l n=n
 | [],_,n,_=>rfl
 |(a,b)::r,h,n,hn=>by
  simp only[rn]
  rw[if_neg (by have:=h.1;omega)]
  exact N8 h.2 hn
def Wk (l:List (Nat×Nat)) (σ σ':St):Prop:=kf l σ.fr σ'.nx σ'.fr∧UL l σ.mem σ'.nx [] σ'.mem∧σ'.base=σ.base∧σ.base≤σ'.nx∧VP σ.base l
section
variable {P : Program} {a : Act} {w w' w0 : World} {U : Gh} {ι : Pl} {σ σ' : St} {nt : Nat}
theorem bz.cl {V V':Nat→Prop} {N N':Nat} {x:AC} {v:Value} {l:List (Nat×Nat)} (h:bz w V ι N (cz l x) v) (hV: ∀b,V b→V' b) (hc:j9 N' x):bz w V' (λn=>ι (rn l n)) N' x v:=by
 have hp: ∀{p:PC} {v:Value},bH w V p v→bH w V' p v:= λh=>h.mono (λb _ h=>hV b h) (λ_ _ _=>rfl)
 have Zl: ∀{cells:List PC} {v:Value},bz w V ι N (.cptr cells) v→bz w V' (λn=>ι (rn l n)) N' (.cptr cells) v:=by
  intro cells v h
  cases h with
  |cptr g hc=>
   refine .cptr g λj p hj=> ?_
   obtain⟨h1,h2,h3⟩:=hc j p hj
   exact⟨hV _ h1,h2,hp h3⟩
 cases x with
 |pure p=>cases h with|pure h=>exact .pure (hp h)
 |nils=>cases h;exact .nils
 |tsl rows=>cases h with|tsl h=>exact .tsl (hp h)
 |ptr nm off=>cases h with|ptr hn h=>exact .ptr hc h
 |eptr nm sz row off=>cases h with|eptr hn h=>exact .eptr hc h
 |cptr cells=>exact Zl h
 |ref nm=>
  have e:v=ι (rn l nm):=by cases h;rfl
  subst e
  cases h with
  |ref hn h=>exact .ref (ι:= λn=>ι (rn l n)) hc h
 |mref nm=>cases h with|mref hn h=>exact .mref hc h
 |top=>cases h with|top h=>exact .top h
 |clo f caps=>
  cases h with
  | @clo _ _ vs hl h=>
   refine .clo (by simpa using hl) λi x hi=> ?_
   have key: ∀(l:List AC),j9.go N' l→ ∀(i:Nat) x,l[i]? =some x→(∀nm off,x= .ptr nm off→nm<N')∧(∀nm sz row off,x≠ .eptr nm sz row off)∧(∀nm,x= .ref nm→nm<N')∧(∀f cs,x≠ .clo f cs)∧(∀nm,x= .mref nm→nm<N'):=by
    intro l
    induction l with
    |nil=>intro _ i x hi;simp at hi
    |cons y ys ih=>
     intro hg i x hi
     cases i with
     |zero=>
      simp at hi
      subst hi
      cases y<;>simp_all [j9.go]
     |succ i=>
      simp at hi
      refine ih ?_ i x hi
      cases y<;>simp_all [j9.go]
   obtain⟨k1,k2,k3,k4,k5⟩:=key caps hc i x hi
   have hx:=h i (dM l x) (by rw[List.getElem?_map,hi];rfl)
   generalize vs.toList[i]?.getD undef=z at hx ⊢
   cases x with
   |pure p=>cases hx with|pure h=>exact .pure (hp h)
   |nils=>cases hx;exact .nils
   |tsl rows=>cases hx with|tsl h=>exact .tsl (hp h)
   |ptr nm off=>cases hx with|ptr hn h=>exact .ptr (k1 _ _ rfl) h
   |eptr=>exact absurd rfl (k2 _ _ _ _)
   |cptr cells=>exact Zl hx
   |ref nm=>
    have e:z=ι (rn l nm):=by cases hx;rfl
    subst e
    cases hx with
    |ref hn h=>exact .ref (ι:= λn=>ι (rn l n)) (k3 _ rfl) h
   |mref nm=>cases hx with|mref hn h=>exact .mref (k5 _ rfl) h
   |top=>cases hx with|top h=>exact .top h
   |clo=>exact absurd rfl (k4 _ _)
theorem G4 {V V':Nat→Prop} {N N':Nat} {l:List (Nat×Nat)}: ∀{xs:List AC} {vs:List Value},aJ (bz w V ι N) (xs.map (cz l)) vs→(∀b,V b→V' b)→dl N' xs→aJ (bz w V' (λn=>ι (rn l n)) N') xs vs
 | [],vs,h,hV,hc=>by cases h;exact .nil
 |x::xs,vs,h,hV,hc=>by
  cases h with
  |cons h1 h2=>exact .cons (h1.cl hV hc.1) (G4 h2 hV hc.2)
theorem aK.cl {V V':Nat→Prop} {N N':Nat} {x:AV} {v:Value} {l:List (Nat×Nat)} (h:aK w V ι N (du l x) v) (hV: ∀b,V b→V' b) (hc:kW N' x):aK w V' (λn=>ι (rn l n)) N' x v:=by
 cases x with
 |c x=>cases h with|c h=>exact .c (h.cl hV hc)
 |agg xs=>cases h with|agg h=>exact .agg (G4 h hV hc)
 |tup xs=>
  cases xs with
  |nil=>cases h with|tup hl h=>exact .tup hl (by simp)
  |cons=>exact hc.elim
 |top=>exact .top
theorem Gr {n:Nat}: ∀{l:List Nat},JD n l→ ¬n∈l
 | [],_=>by simp
 |m::r,h=>by
  intro hm
  rcases List.mem_cons.1 hm with e|e
  ·exact h.1 e
  ·exact Gr h.2 e
theorem PX {l:List (Nat×Nat)} {n:Option Nat} {ps:List AC}:eF n (ps.map (cz l))=du l (eF n ps):=by
 cases n with
 |none=>cases ps<;>rfl
 |some k=>rfl
theorem RB {N:Nat} {n:Option Nat} {ps:List AC} (h:dl N ps):kW N (eF n ps):=by
 cases n with
 |none=>
  cases ps with
  |nil=>exact trivial
  |cons p r=>exact h.1
 |some k=>exact h
theorem MF {V V':Nat→Prop} {N N':Nat} {l:List (Nat×Nat)} {kt:KT} {n:Option Nat}: ∀{xs:List (MK×List AC)} {es:List MapEntry},aJ (iL w V ι N kt n) (xs.map λx=>(x.1,x.2.map (cz l))) es→(∀b,V b→V' b)→KE N' xs→
  aJ (iL w V' (λn=>ι (rn l n)) N' kt n) xs es
 | [],es,h,hV,hc=>by cases h;exact .nil
 |x::xs,es,h,hV,hc=>by
  cases h with
  |cons h1 h2=>
   refine .cons ⟨h1.1, ?_⟩ (MF h2 hV hc.2)
   have h3:aK _ _ _ _ (eF n (List.map _ _)) _:=h1.2
   rw[PX]at h3
   exact h3.cl hV (RB hc.1)
theorem md {l:List (Nat×Nat)} {mem mem':List (Nat×bm)} {N:Nat}: ∀{seen:List Nat},UL l mem N seen mem'→ ∀{nm:Nat} {b:bm},am mem' nm=some b→am mem (rn l nm)=some (Tf l b)∧nm<N∧Wo N b∧ ¬rn l nm∈seen:=by
 induction mem' with
 |nil=>intro seen h nm b hf;cases hf
 |cons x r ih=>
  obtain⟨k,c⟩:=x
  intro seen h nm b hf
  obtain⟨h1,h2,h3,h4,h5⟩:=h
  rw[bt]at hf
  by_cases e:k=nm
  ·subst e
   rw[if_pos rfl]at hf
   cases hf
   exact⟨h1,h2,h3,Gr h4⟩
  ·rw[if_neg e]at hf
   obtain⟨g1,g2,g3,g4⟩:=ih h5 hf
   exact⟨g1,g2,g3,λhm=>g4 (List.mem_cons_of_mem _ hm)⟩
theorem RD {l:List (Nat×Nat)} {mem mem':List (Nat×bm)} {N:Nat}: ∀{seen:List Nat},UL l mem N seen mem'→ ∀{nm nm':Nat} {b b':bm},am mem' nm=some b→am mem' nm'=some b'→rn l nm=rn l nm'→nm=nm':=by
 induction mem' with
 |nil=>intro seen h nm nm' b b' hf;cases hf
 |cons x r ih=>
  obtain⟨k,c⟩:=x
  intro seen h nm nm' b b' h1 h2 he
  have h5:=h.2.2.2.2
  rw[bt]at h1 h2
  by_cases e:k=nm
  ·by_cases e':k=nm'
   ·omega
   ·rw[if_neg e']at h2
    have:=(md h5 h2).2.2.2
    subst e
    rw[←he]at this
    exact absurd List.mem_cons_self this
  ·rw[if_neg e]at h1
   by_cases e':k=nm'
   ·have:=(md h5 h1).2.2.2
    subst e'
    rw[he]at this
    exact absurd List.mem_cons_self this
   ·rw[if_neg e']at h2
    exact ih h5 h1 h2 he
theorem D7 {l:List (Nat×Nat)} {fr fr':List (Nat×AV)} {N:Nat} (h:kf l fr N fr') (t:Nat):(aL fr t=du l (aL fr' t)∨aL fr' t= .top)∧kW N (aL fr' t):=by
 induction fr' with
 |nil=>exact⟨.inr rfl,trivial⟩
 |cons x r ih=>
  obtain⟨k,v⟩:=x
  obtain⟨h1,h2,h3⟩:=h
  rw[dF]
  by_cases e:k=t
  ·subst e
   rw[if_pos rfl]
   exact⟨h1,h2⟩
  ·rw[if_neg e]
   exact ih h3
theorem Kr {N:Nat}: ∀{xs:List AC},dl N xs→ ∀{j:Nat} {x:AC},xs[j]? =some x→j9 N x
 | [],_,j,x,h=>by cases h
 |y::r,hc,0,x,h=>by cases h;exact hc.1
 |y::r,hc,j+1,x,h=>Kr (xs:=r) hc.2 h
theorem Kh {N:Nat}: ∀{xs:List (List AC)},R4 N xs→ ∀{j:Nat} {x:List AC},xs[j]? =some x→dl N x
 | [],_,j,x,h=>by cases h
 |y::r,hc,0,x,h=>by cases h;exact hc.1
 |y::r,hc,j+1,x,h=>Kh (xs:=r) hc.2 h
theorem Of {V V':Nat→Prop} {N N' sz:Nat} {l:List (Nat×Nat)} {rows:List (List AC)} {cells:List Value} (h:fM w V ι N sz (rows.map λr=>r.map (cz l)) cells) (hV: ∀b,V b→V' b) (hc:R4 N' rows):fM w V' (λn=>ι (rn l n)) N' sz rows cells:=by
 refine⟨by have:=h.1;rwa [List.length_map]at this,λi row hi=> ?_,λi row j p hi hj=> ?_⟩
 ·have:=h.2.1 i _ (by rw[List.getElem?_map,hi];rfl)
  rwa [List.length_map]at this
 ·obtain⟨v,hv,hp⟩:=h.2.2 i _ j _ (by rw[List.getElem?_map,hi];rfl) (by rw[List.getElem?_map,hj];rfl)
  exact⟨v,hv,hp.cl hV (Kr (Kh hc hi) hj)⟩
theorem bl.wk {l:List (Nat×Nat)} (hs:bl w0 U σ ι a w) (h:Wk l σ σ'):bl w0 U σ' (λn=>ι (rn l n)) a w:=by
 obtain⟨hf,hm,Zm,hb2,hb3⟩:=h
 have hI: ∀b,aB w0.heap.size U ι σ.mem b→aB w0.heap.size U (λn=>ι (rn l n)) σ'.mem b:= λb h=>⟨h.1,λnm bx hn=>h.2 _ _ (md hm hn).1⟩
 refine⟨λt=> ?_,hs.defers,λnm bx hn=>(md hm hn).2.1,λnm bx hn=> ?_,λnm nm' b1 b2 b h1 h2 h3 h4=> ?_,hs.below,U.mono _ _ _ _ hs.keep (λb _ h=>hI b h) (λ_ _ _=>rfl),⟨by rw[Zm];exact hb2,λnm hn=> ?_⟩⟩
 ·obtain⟨h1,h2⟩:=D7 hf t
  have hv:=hs.val t
  rcases h1 with h1|h1
  ·rw[h1]at hv
   exact hv.cl hI h2
  ·rw[h1];exact .top
 ·obtain⟨h1,h2,h3,_⟩:=md hm hn
  have hb:=hs.box _ _ h1
  cases bx with
  |var xs=>
   obtain⟨b',vs,T,g1,g2,g3,g4⟩:=hb
   exact⟨b',vs,T,g1,g2,g3,G4 g4 hI h3⟩
  |arr e sz rows=>
   obtain⟨cells,k0,k1,k2,k3⟩:=hb
   exact⟨cells,k0,k1,k2,k3.mono (λb _ h=>hI b h) (λ_ _ _=>rfl)⟩
  |arn e sz rows=>
   obtain⟨cells,k0,k1,k2,k3⟩:=hb
   rw[List.length_map]at k1 k2
   exact⟨cells,k0,k1,k2,Of k3 hI h3⟩
  |map kt n ents=>
   obtain⟨b',es,clock,g1,g2,g3,g4,g5⟩:=hb
   exact⟨b',es,clock,g1,g2,g3,MF g4 hI h3,g5⟩
 ·exact RD hm h1 h2 (hs.apart _ _ _ _ _ (md hm h1).1 (md hm h2).1 h3 h4)
 ·rw[Zm]at hn
  rw[N8 hb3 hn]
  exact hs.base.2 nm hn
theorem ST {c:ah} {Q:bk→St→Prop} (l:List (Nat×Nat)) (hw:Wk l σ σ') (h:AW P nt c σ' Q):AW P nt c σ Q:=
 λc' hc w0 U rd ds ι a w hE hs hz=>h c' hc w0 U rd ds _ a w hE (hs.wk hw) hz
theorem co {c:ah} {Q:bk→St→Prop} (t e sz:Nat) (ht:aL σ.fr t= .c .nils) (h0:0<sz)
  (h:AW P nt c {σ with fr:=(t,.c (.ref σ.nx))::σ.fr,mem:=(σ.nx,.arr e sz [])::σ.mem,nx:=σ.nx+1} Q):AW P nt c σ Q:=by
 intro c' hc w0 U rd ds ι a w hE hs hz
 obtain⟨ι',h1,h2,h3,h4⟩:=hs.newBox (w':=w) (pv:= .slice none 0 0) (bx:= .arr e sz []) (Below.refl _ _) (λb hb=>by simp[bc]at hb) (λι' e1 e2 hI=>⟨[],h0,by rw[e2];exact World.ownsRow_nil _ _ _ _,by simp,aO.nil⟩)
 refine h c' hc w0 U rd ds ι' a w hE ⟨λs=> ?_,h1.defers,h1.names,h1.box,h1.apart,h1.below,h1.keep,h1.base⟩ hz
 rw[dF]
 by_cases es:t=s
 ·subst es
  rw[if_pos rfl]
  have hv:=hs.val t
  rw[ht]at hv
  rw[tx hv,←h2]
  exact .c (.ref (Nat.lt_succ_self _) ⟨_,_,_,h2⟩)
 ·rw[if_neg es]
  exact h1.val s
theorem jn {c:ah} {Q:bk→St→Prop} (nm i e sz:Nat) (xs:List AC) (hf:am σ.mem nm=some (.var xs)) (hi:xs[i]? =some .nils) (h0:0<sz)
  (h:AW P nt c {σ with mem:=(σ.nx,.arr e sz [])::dG σ.mem nm (.var (xs.set i (.ref σ.nx))),nx:=σ.nx+1} Q):AW P nt c σ Q:=by
 intro c' hc w0 U rd ds ι a w hE hs hz
 obtain⟨ι',h1,h2,h3,h4⟩:=hs.newBox (w':=w) (pv:= .slice none 0 0) (bx:= .arr e sz []) (Below.refl _ _) (λb hb=>by simp[bc]at hb) (λι' e1 e2 hI=>⟨[],h0,by rw[e2];exact World.ownsRow_nil _ _ _ _,by simp,aO.nil⟩)
 have hnm:=hs.names _ _ hf
 have Zn:am ((σ.nx,bm.arr e sz [])::σ.mem) nm=some (.var xs):=by rw[bt,if_neg (by omega)];exact hf
 obtain⟨b,vs,T,g1,g2,g3,g4⟩:=h1.box _ _ Zn
 have q3:=h1.setBox (cs:=vs) Zn (b:=b) (by rw[g1];rfl) (bx:= .var (xs.set i (.ref σ.nx))) ⟨b,vs,T,g1,g2,setRow_heap _ _ _ _ _ _ g3,by
  rw[setRow_self w b vs T _ g3]
  refine aJ.of_get (by rw[List.length_set];exact g4.length) λj x v hj hv=> ?_
  rw[List.getElem?_set]at hj
  by_cases e1:i=j
  ·subst e1
   have O:=(List.getElem?_eq_some_iff.1 hi).1
   rw[if_pos rfl,if_pos O]at hj
   cases hj
   obtain⟨v',ZS,hr⟩:=g4.get hi
   rw[ZS]at hv
   cases hv
   have:v= .slice none 0 0:=by cases hr;rfl
   rw[this,←h2]
   exact .ref (Nat.lt_succ_self _) ⟨_,_,_,h2⟩
  ·rw[if_neg e1]at hj
   obtain⟨v',ZS,hr⟩:=g4.get hj
   rw[ZS]at hv
   cases hv
   exact hr⟩
 rw[setRow_self w b vs T _ g3]at q3
 have e5:dG ((σ.nx,bm.arr e sz [])::σ.mem) nm (.var (xs.set i (.ref σ.nx)))=(σ.nx,.arr e sz [])::dG σ.mem nm (.var (xs.set i (.ref σ.nx))):=by
  simp only[dG]
  rw[if_neg (by omega)]
 simp only[e5]at q3
 exact h c' hc w0 U rd ds ι' a w hE q3 hz
def Se {τ:Type} (mk:τ→St) (I:τ→Prop) (μ:τ→Nat) (t:τ) (Q:bk→St→Prop):bk→St→Prop
 | .normal,σ=> ∃t' l,I t'∧μ t'<μ t∧Wk l σ (mk t')
 | .exit i,σ=>Q (.exit i) σ
 | .ret,σ=>Q .ret σ
theorem ai {τ:Type} {x:ah} {Q:bk→St→Prop} (mk:τ→St) (I:τ→Prop) (μ:τ→Nat) (h0: ∃t l,I t∧Wk l σ (mk t)) (h: ∀t,I t→AW P nt x (mk t) (Se mk I μ t Q)):AW P nt (.loop x) σ Q:=by
 intro c' hc w0 U rd ds ι a w hE hs hz
 cases c'<;>simp[dq]at hc
 all_goals(try(split at hc<;>simp at hc))
 rename_i c1
 obtain⟨t,l,ht,hw⟩:=h0
 refine wpIn_loop_rounds (μ t+1) ?_
 have key: ∀n t U1 ds1 ι a w,Jk w0.heap.size rd U ds U1 ds1→μ t<n→I t→bl w0 U1 (mk t) ι a w→a.tmps.size=nt→Code.roundsIn (FR rd) 0 P c1 (yK w0 U rd ds nt Q) n (sh ds1 a) w:=by
  intro n
  induction n with
  |zero=>intro t U1 ds1 ι a w hx hm;omega
  |succ n ih=>
   intro t U1 ds1 ι a w hx hm ht hs hz
   rw[roundsIn_succ]
   refine wpIn_mono (h t ht _ hc w0 U1 rd ds1 ι a w (hE.ext hx) hs hz) ?_
   rintro e a1 w1 ⟨e',σ',ι',U',ds',a0,rfl,hq,J,hY,rfl,q4⟩
   cases e' with
   |normal=>
    obtain⟨t',l',ht',O,ZT⟩:=hq
    exact ih t' _ _ _ a0 w1 (hx.trans q4) (by omega) ht' (J.wk ZT) hY
   |exit i=>exact⟨.exit i,σ',ι',U',ds',a0,rfl,hq,J,hY,rfl,hx.trans q4⟩
   |ret=>exact⟨.ret,σ',ι',U',ds',a0,rfl,hq,J,hY,rfl,hx.trans q4⟩
 exact key _ t _ _ _ a w .refl (Nat.lt_succ_self _) ht (hs.wk hw) hz
end
open Go.RowKit
section
variable {P : Program} {a : Act} {w w' w0 : World} {U U2 : Gh} {ι : Pl} {σ : St}
def Hp:Obj→Bool
 | .loop _=>true
 | .deferred _=>true
 |_=>false
theorem L6 {b off:Nat} {v:Value} (h:w.cell? ⟨b,off,none⟩=some v): ¬ ∃o,w.heap[b]? =some o∧Hp o=true:=by
 rintro⟨o,h1,h2⟩
 obtain⟨o',h3,h4⟩:=cells_of_cell h
 rw[h1]at h3
 cases h3
 cases o<;>simp_all [Hp,Obj.isCells]
structure xt (n:Nat) (w w':World):Prop where
 os:w'.os=w.os
 tape:w'.tape=w.tape
 output:w'.output=w.output
 size:w.heap.size≤w'.heap.size
 block: ∀b,b<w.heap.size→w'.heap[b]? =w.heap[b]? ∨(n≤b∧ ∃o,w.heap[b]? =some o∧Hp o=true)
theorem xt.of_below {n:Nat} {A B:World} (h:Below A.heap.size A B):xt n A B:=⟨h.os,h.tape,h.output,h.size,λb hb=> .inl (h.block b hb)⟩
theorem xt.putObj {n D:Nat} {o:Obj} (o':Obj) (hD:n≤D) (ho:w.heap[D]? =some o) (hl:Hp o=true):xt n w (w.putObj D o'):=by
 refine⟨rfl,rfl,rfl,by simp,λb hb=> ?_⟩
 by_cases e:b=D
 ·subst e
  exact .inr ⟨hD,o,ho,hl⟩
 ·exact .inl (World.putObj_heap_other e)
theorem xt.old {n:Nat} {A B:World} (h:xt n A B) {b:Nat} (hb:b<n) (O:b<A.heap.size):B.heap[b]? =A.heap[b]? :=by
 rcases h.block b O with e|⟨e,_⟩
 ·exact e
 ·omega
section
variable {V S : Nat → Prop} {N : Nat} (hS : ∀ b, S b → ∃ o, w.heap[b]? = some o ∧ Hp o = true)
include hS
theorem bH.ne {p:PC} {v:Value} (h:bH w V p v):bH w (λb=>V b∧ ¬S b) p v:=by
 induction h with
 |val h=>exact .val h
 |slice g hn ZC hm hr HI hp ih=>
  refine .slice g hn ZC hm hr (λi row j p h1 h2=> ?_) ih
  obtain⟨b,off,ha,hb,HC⟩:=HI i row j p h1 h2
  exact⟨b,off,ha,⟨hb,λh=>L6 HC (hS _ h)⟩,HC⟩
 |fmap hb hm hl hk hp ih=>
  refine .fmap ⟨hb,λh=> ?_⟩ hm hl hk ih
  obtain⟨o,h1,h2⟩:=hS _ h
  rw[hm]at h1
  cases h1
  cases h2
theorem bz.ne {x:AC} {v:Value} (h:bz w V ι N x v):bz w (λb=>V b∧ ¬S b) ι N x v:=by
 induction h with
 |pure h=>exact .pure (h.ne hS)
 |nils=>exact .nils
 |tsl h=>exact .tsl (h.ne hS)
 |ptr hn h=>exact .ptr hn h
 |eptr hn h=>exact .eptr hn h
 |cptr g HI=>
  refine .cptr g λj p hj=> ?_
  obtain⟨h1,h2,h3⟩:=HI j p hj
  exact⟨⟨h1,λh=>L6 h2 (hS _ h)⟩,h2,h3.ne hS⟩
 |ref hn h=>exact .ref hn h
 |clo hl h ih=>exact .clo hl λi x hx=>ih i x hx
 |mref hn h=>exact .mref hn h
 |top h=>exact .top h
theorem aK.ne {x:AV} {v:Value} (h:aK w V ι N x v):aK w (λb=>V b∧ ¬S b) ι N x v:=by
 induction h with
 |c h=>exact .c (h.ne hS)
 |agg h=>exact .agg (h.mono λ_ _ h=>h.ne hS)
 |tup hl h ih=>exact .tup hl λi x hx=>ih i x hx
 |top=>exact .top
end
theorem bl.not_lp (hs:bl w0 U σ ι a w) {nm b:Nat} {bx:bm} (hn:am σ.mem nm=some bx) (hb:bc (ι nm)=some b): ¬ ∃o,w.heap[b]? =some o∧Hp o=true:=by
 rintro⟨o,h1,h2⟩
 have h:=hs.box nm bx hn
 cases bx with
 |var xs=>
  obtain⟨b',vs,T,g1,g2,g3,g4⟩:=h
  rw[g1]at hb
  cases hb
  rw[g3]at h1
  cases h1
  cases h2
 |arr e sz rows=>
  obtain⟨cells,k0,k1,k2⟩:=h
  rcases k1.2 with⟨h,_⟩|⟨g,cap,cur,h,_,hg,_⟩
  ·rw[h]at hb;cases hb
  ·rw[h]at hb
   cases hb
   rw[hg]at h1
   cases h1
   cases h2
 |arn e sz rows=>
  obtain⟨cells,k0,k1,k2⟩:=h
  rcases k1.2 with⟨h,_⟩|⟨g,cap,cur,h,_,hg,_⟩
  ·rw[h]at hb;cases hb
  ·rw[h]at hb
   cases hb
   rw[hg]at h1
   cases h1
   cases h2
 |map kt n ents=>
  obtain⟨b',es,clock,g1,g2,g3,g4⟩:=h
  rw[g1]at hb
  cases hb
  rw[g3]at h1
  cases h1
  cases h2
theorem bl.growL (hs:bl w0 U σ ι a w) {n:Nat} (hn0:w0.heap.size≤n) (hg:xt n w w') (hp:U2.p=U.p) (hi:U2.ι0=U.ι0)
  (hG:U2.G w' (aB w0.heap.size U2 ι σ.mem)):bl w0 U2 σ ι a w':=by
 have hI:aB w0.heap.size U2 ι σ.mem=aB w0.heap.size U ι σ.mem:=by
  funext b
  unfold aB
  rw[hp]
 have hS: ∀b,(b<w.heap.size∧w'.heap[b]? ≠w.heap[b]?)→ ∃o,w.heap[b]? =some o∧Hp o=true:=by
  rintro b ⟨h1,h2⟩
  rcases hg.block b h1 with e|⟨_,e⟩
  ·exact absurd e h2
  ·exact e
 have hV: ∀b,b<w.heap.size→(aB w0.heap.size U ι σ.mem b∧ ¬(b<w.heap.size∧w'.heap[b]? ≠w.heap[b]?))→aB w0.heap.size U2 ι σ.mem b:= λb _ h=>by rw[hI];exact h.1
 have hw: ∀b,b<w.heap.size→(aB w0.heap.size U ι σ.mem b∧ ¬(b<w.heap.size∧w'.heap[b]? ≠w.heap[b]?))→w'.heap[b]? =w.heap[b]? := λb hb h=>Classical.byContradiction λe=>h.2 ⟨hb,e⟩
 refine⟨λt=>((hs.val t).ne hS).mono hV hw (λ_ _=>rfl) (Nat.le_refl _),hs.defers,hs.names,λnm bx hn=> ?_,hs.apart,hs.below.trans ⟨hg.os,hg.tape,hg.output,hg.size,λk hk=>hg.old (by omega) (Nat.lt_of_lt_of_le hk hs.below.size)⟩,hG,by rw[hi];exact hs.base⟩
 have hb:=hs.box nm bx hn
 have HV: ∀b,bc (ι nm)=some b→b<w.heap.size→w'.heap[b]? =w.heap[b]? := λb e O=>by
  rcases hg.block b O with e2|⟨_,e2⟩
  ·exact e2
  ·exact absurd e2 (hs.not_lp hn e)
 cases bx with
 |var xs=>
  obtain⟨b,vs,T,h1,h2,h3,h4⟩:=hb
  exact⟨b,vs,T,h1,h2,by rw[HV b (by rw[h1];rfl) (Array.getElem?_eq_some_iff.1 h3).1];exact h3,h4.mono λ_ _ h=>(h.ne hS).mono hV hw (λ_ _=>rfl) (Nat.le_refl _)⟩
 |arr e sz rows=>
  obtain⟨cells,h0,h1,h2,h3,h4,h5⟩:=hb
  refine⟨cells,h0, ?_,h2,h3,h4,λi row j p hi hj=> ?_⟩
  ·obtain⟨q1,q2⟩:=h1
   refine⟨q1, ?_⟩
   rcases q2 with q2|⟨g,cap,cur,e0,HG,q5,H1⟩
   ·exact .inl q2
   ·exact .inr ⟨g,cap,cur,e0,HG,(HV g (by rw[e0];rfl) (Array.getElem?_eq_some_iff.1 q5).1).trans q5,H1⟩
  ·obtain⟨v,hv,ZU⟩:=h5 i row j p hi hj
   exact⟨v,hv,(ZU.ne hS).mono hV hw⟩
 |arn e sz rows=>
  obtain⟨cells,h0,h1,h2,h3,h4,h5⟩:=hb
  refine⟨cells,h0, ?_,h2,h3,h4,λi row j p hi hj=> ?_⟩
  ·obtain⟨q1,q2⟩:=h1
   refine⟨q1, ?_⟩
   rcases q2 with q2|⟨g,cap,cur,e0,HG,q5,H1⟩
   ·exact .inl q2
   ·exact .inr ⟨g,cap,cur,e0,HG,(HV g (by rw[e0];rfl) (Array.getElem?_eq_some_iff.1 q5).1).trans q5,H1⟩
  ·obtain⟨v,hv,ZU⟩:=h5 i row j p hi hj
   exact⟨v,hv,(ZU.ne hS).mono hV hw (λ_ _=>rfl) (Nat.le_refl _)⟩
 |map kt n ents=>
  obtain⟨b,es,clock,h1,h2,h3,h4,h5⟩:=hb
  exact⟨b,es,clock,h1,h2,by rw[HV b (by rw[h1];rfl) (Array.getElem?_eq_some_iff.1 h3).1];exact h3,h4.mono λ_ _ h=>⟨h.1,(h.2.ne hS).mono hV hw (λ_ _=>rfl) (Nat.le_refl _)⟩,h5⟩
theorem bl.turn (hs:bl w0 U σ ι a w) {D:Nat} {o:Obj} (o':Obj) (ho:w.heap[D]? =some o) (hl:Hp o=true) (hD:w0.heap.size≤D) (hp:U2.p=U.p) (hi:U2.ι0=U.ι0)
  (hG:U2.G (w.putObj D o') (aB w0.heap.size U2 ι σ.mem)):bl w0 U2 σ ι a (w.putObj D o'):=
 hs.growL hD (.putObj o' (Nat.le_refl _) ho hl) hp hi hG
theorem MU {fn:Func} {tmps:Array Value} {R:Ending→World→Prop} {U':Gh} {ds':List Deferred} (hx:Jk w0.heap.size none U [] U' ds'): ∀{w:World},bl w0 U' σ ι a w→
  (∀w',bl w0 U σ ι a w'→ ∃v,(results fn tmps).run P w'= .ok v w'∧R (.returned v) w')→LeavesInM Fence.wide 0 P fn tmps R ds' .returning w:=by
 induction hx with
 |refl=>exact λhs h=>h _ hs
 | @mark U1 U2 ds1 D h hr hD hp hi hG ih=>
  intro w hs q6
  obtain⟨_,g2,g3,g4⟩:=hG _ _ hs.keep
  refine⟨by simp,.inl ⟨D,_,rfl,run_takeDeferred g3,ih (hs.turn (.deferred none) g3 rfl hD hp.symm hi.symm ?_) q6⟩⟩
  have e:aB w0.heap.size U1 ι σ.mem=aB w0.heap.size U2 ι σ.mem:=by
   funext b
   unfold aB
   rw[hp]
  rw[e]
  exact g4
theorem tC {f:FuncId} {fn:Func} {c:Code} {vs:Array Value} {nt:Nat} {Q:bk→St→Prop} {R:Ending→World→Prop} (h1:P.funcs[f]? =some fn) (h2:fn.body=some c)
  (hw:c.wpIn (FR none) 0 P (yK w0 U none [] nt Q) (sh [] {tmps:=vs++Array.replicate (fn.ntmps-vs.size) undef,defers:= []}) w)
  (hx: ∀i σ',¬Q (.exit i) σ') (q6: ∀{e:bk} {a':Act} {w':World} {σ':St} {ι':Pl},Q e σ'→bl w0 U σ' ι' a' w'→ ∃v,(results fn a'.tmps).run P w'= .ok v w'∧R (.returned v) w'):Calls P f vs w R:=by
 refine(callsIn_wide (n:=0)).1 (callsIn_of_wp_marks h1 h2 trivial (wpIn_mono hw ?_))
 rintro e a' w' ⟨e',σ',ι',U',ds',a0,rfl,hq,J,hz,rfl,q4⟩
 have hd:(sh ds' a0).defers=ds':=by
  show a0.defers++ds'=ds'
  rw[J.defers.1]
  rfl
 have key:LeavesInM Fence.wide 0 P fn (sh ds' a0).tmps R (sh ds' a0).defers .returning w':=by
  rw[hd]
  exact MU q4 J λw2 HP=>q6 (a':=a0) hq HP
 cases e' with
 |normal=>exact key
 |exit i=>exact absurd hq (hx _ _)
 |ret=>exact key
end
inductive AR where
 |t (n:Nat)
 |cell (n:Option Nat) (a:Nat)
def SH (P:Program):ResultVar→Option AR
 | .tmp t=>some (.t t)
 | .cell a t=>(kA P t).map λn=> .cell n a
def Da (P:Program):List ResultVar→Option (List AR)
 | []=>some []
 |r::rs=>match SH P r,Da P rs with
  |some x,some xs=>some (x::xs)
  |_,_=>none
def Gb (n:Option Nat) (xs:List AC) (K:AV→Prop):Prop:=
 match n with
 |none=>match xs with
  |x::_=>K (.c x)
  | []=>False
 |some n=>bO (n≤xs.length) (K:=⟨K (.agg (xs.take n))⟩)
def Dc (σ:St):AR→(AV→Prop)→Prop
 | .t n,K=>K (aL σ.fr n)
 |.cell n a,K=>match aL σ.fr a with
  |.c q=>match bv σ.mem q with
   |some xs=>Gb n xs K
   |none=>False
  |_=>False
def kb (σ:St):List AR→List AV→(List AV→Prop)→Prop
 | [],acc,K=>K acc
 |r::rs,acc,K=>Dc σ r λv=>kb σ rs (acc++ [v]) K
def fZ:List AV→AV
 | [v]=>v
 |vs=> .tup vs
def M7 (mem:List (Nat×bm)):AV→Option AV
 |.tup xs=>match ba mem xs with
  |some ys=>some (.tup ys)
  |none=>none
 |x=>c9 mem x
def UT (rs:List AR) (res:AV):bk→St→Prop
 | .exit _,_=>False
 | .ret,σ=>kb σ rs [] λvs=>M7 σ.mem (fZ vs)=some res
 | .normal,σ=>kb σ rs [] λvs=>M7 σ.mem (fZ vs)=some res
def aS:List AV→Nat→List (Nat×AV)
 | [],_=> []
 |v::r,k=>(k,v)::aS r (k+1)
def fL:List AV→Prop
 | []=>True
 |v::r=>eW v∧fL r
structure aq (P:Program) (f:FuncId) (nt:Nat) (body:ah) (rs:List AR):Prop where
 is : ∃ fn c, P.funcs[f]? = some fn ∧ fn.body = some c ∧ (fn.name == "runtime.NumGoroutine") = false ∧ fn.ntmps = nt ∧ dq P nt c = some body ∧ Da P fn.results.toList = some rs
section
variable {P : Program} {a : Act} {w w' w0 : World} {U : Gh} {ι : Pl} {σ σ' : St} {nt : Nat}
theorem KS {t:TypeId} {n:Option Nat} {q:AC} {u:Value} {xs:List AC} {K:AV→Prop} (hs:bl w0 U σ ι a w) (ht:kA P t=some n) (hr:bz w (aB w0.heap.size U ι σ.mem) ι σ.nx q u) (hx:bv σ.mem q=some xs) (h:Gb n xs K):
  ∃ad v u',u= .pointer (some ad)∧(loadVar t ad).run P w= .ok u' w∧aK w (aB w0.heap.size U ι σ.mem) ι σ.nx v u'∧K v:=by
 obtain⟨b,off,e1,hc⟩:=Ca hs hr hx
 cases n with
 |none=>
  simp only[Gb]at h
  split at h
  ·rename_i z zs
   obtain⟨v,hv,hr⟩:=hc 0 z rfl
   exact⟨_,_,v,e1,F9 (P:=P) ht (by simpa using hv),.c hr,h⟩
  ·exact h.elim
 |some n=>
  obtain⟨ZF,h⟩:=h
  have hg: ∃ys:List Value,ys.length=n∧ ∀(j:Nat) x v,(xs.take n)[j]? =some x→ys[j]? =some v→w.cell? ⟨b,off+j,none⟩=some v∧bz w (aB w0.heap.size U ι σ.mem) ι σ.nx x v:=by
   refine⟨(List.range n).map λj=>(w.cell? ⟨b,off+j,none⟩).getD undef,by simp,λj x v hj hv=> ?_⟩
   have z3:j<n:=by have:=(List.getElem?_eq_some_iff.1 hj).1;simp at this;omega
   rw[List.getElem?_take_of_lt z3]at hj
   obtain⟨u,hu,hr⟩:=hc j x hj
   simp[List.getElem?_map,List.getElem?_range z3,hu]at hv
   subst hv
   exact⟨hu,hr⟩
  obtain⟨ys,hl,hy⟩:=hg
  have O:(xs.take n).length=n:=by simp;omega
  refine⟨_,_,.agg ys.toArray,e1,F3 (P:=P) (w:=w) (ad:=⟨b,off,none⟩) ht (vs:=ys) hl λj v hv=> ?_,.agg (aJ.of_get (by rw[O];simp[hl]) λj x v hj hv=>(hy j x v hj (by simpa using hv)).2),h⟩
  have z3:j<(xs.take n).length:=by rw[O,←hl];exact(List.getElem?_eq_some_iff.1 hv).1
  rw[fR]
  exact(hy j _ v (List.getElem?_eq_getElem z3) hv).1
def Hx (tmps:Array Value):ResultVar→Sem Value
 | .tmp t=>pure (tmps.getD t undef)
 | .cell a t=>do loadVar t (←asAddr (tmps.getD a undef))
theorem lm (hs:bl w0 U σ ι a w): ∀{rvs:List ResultVar} {rs:List AR} {acc:List AV} {us:List Value} {K:List AV→Prop},Da P rvs=some rs→kb σ rs acc K→aJ (aK w (aB w0.heap.size U ι σ.mem) ι σ.nx) acc us→
  ∃vs us',aJ (aK w (aB w0.heap.size U ι σ.mem) ι σ.nx) vs (us++us')∧(rvs.mapM (Hx a.tmps)).run P w= .ok us' w∧K vs
 |[],rs,acc,us,K,hc,h,hR=>by
  cases hc
  exact⟨acc, [],by simpa using hR,rfl,h⟩
 |r::rvs,rs,acc,us,K,hc,h,hR=>by
  unfold Da at hc
  split at hc
  ·rename_i x xs h1 h2
   cases hc
   have one: ∃v u,aK w (aB w0.heap.size U ι σ.mem) ι σ.nx v u∧(Hx a.tmps r).run P w= .ok u w∧kb σ xs (acc++ [v]) K:=by
    simp only[kb]at h
    cases r with
    |tmp t=>
     cases h1
     exact⟨_,_,hs.val t,rfl,h⟩
    |cell ad t=>
     simp only[SH,Option.map_eq_some_iff]at h1
     obtain⟨n,hn,rfl⟩:=h1
     simp only[Dc]at h
     split at h
     ·rename_i q e
      have hq:=hs.val ad
      rw[e]at hq
      split at h
      ·rename_i xs' hx
       have ZQ:bz w (aB w0.heap.size U ι σ.mem) ι σ.nx q (a.tmps.getD ad undef):=by
        generalize a.tmps.getD ad undef=z at hq
        cases hq with|c hq=>exact hq
       obtain⟨adr,v,u',e1,e2,e3,e4⟩:=KS (P:=P) hs hn ZQ hx h
       exact⟨v,u',e3,by simp only[Hx,Sem.run_bind,e1,asAddr,Sem.run_pure,Result.andThen_ok,e2],e4⟩
      ·exact h.elim
     ·exact h.elim
   obtain⟨v,u,hr,Zo,hk⟩:=one
   obtain⟨vs,us',g1,g2,g3⟩:=lm hs (us:=us++ [u]) h2 hk (hR.append (.cons hr .nil))
   exact⟨vs,u::us',by simpa using g1,by simp[List.mapM_cons,Zo,g2],g3⟩
  ·cases hc
theorem mg (fn:Func) (tmps:Array Value):results fn tmps=(do let vs←fn.results.mapM (Hx tmps);pure (if h:vs.size=1 then vs[0]else .tuple vs)):=by
 unfold results
 congr 1
theorem Qw {V:Nat→Prop} {x y:AV} {v:Value} (hs:bl w0 U σ ι a w) (h:aK w (aB w0.heap.size U ι σ.mem) ι σ.nx x v) (hp:M7 σ.mem x=some y) (hV: ∀b,aB w0.heap.size U ι σ.mem b→V b) (hN: ∀b,w0.heap.size≤b→V b):aK w V (λ_=>undef) 0 y v:=by
 cases h with
 |c h=>exact yW hs (.c h) hp hV (.inr hN)
 |agg h=>exact yW hs (.agg h) hp hV (.inr hN)
 | @tup xs vs hl h=>
  simp only[M7]at hp
  split at hp
  ·cases hp
   have hC:aJ (aK w (aB w0.heap.size U ι σ.mem) ι σ.nx) xs vs.toList:=aJ.of_get (by simpa using hl) λi x v hi hv=>by
    have:=h i x hi
    rw[hv]at this
    exact this
   have hr:=js hs hC hV (.inr hN) ‹_›
   refine .tup (by simpa using hr.length) λi x hi=> ?_
   obtain⟨v,hv,hx⟩:=hr.get hi
   rw[hv]
   exact hx
  ·cases hp
 |top=>cases hp
theorem jv {vs:List Value} {V:Nat→Prop} {N:Nat}: ∀{args:List AV} {us:List Value} {k:Nat},aJ (aK w V ι N) args us→ ∀t,aK w V ι N (aL (aS args k) t) ((us[t-k]?).getD undef)∨aL (aS args k) t= .top
 | [],us,k,h,t=> .inr rfl
 |v::args,us,k,h,t=>by
  cases h with
  | @cons _ u _ us h1 h2=>
   show aK _ _ _ _ (if k=t then v else aL (aS args (k+1)) t) _∨(if k=t then v else aL (aS args (k+1)) t)= .top
   by_cases e:k=t
   ·subst e
    rw[if_pos rfl]
    left
    simpa using h1
   ·rw[if_neg e]
    rcases jv (vs:=vs) (k:=k+1) h2 t with h|h
    ·by_cases O:k<t
     ·left
      have:t-k=(t-(k+1))+1:=by omega
      rw[this]
      simpa using h
     ·right
      clear h h1 h2
      have key: ∀(l:List AV) (j:Nat),t<j→aL (aS l j) t= .top:=by
       intro l
       induction l with
       |nil=>intro j _;rfl
       |cons x l ih=>
        intro j hj
        show(if j=t then x else aL (aS l (j+1)) t)=_
        rw[if_neg (by omega)]
        exact ih _ (by omega)
      exact key args (k+1) (by omega)
    ·exact .inr h
theorem tg {V:Nat→Prop} {N:Nat} {args:List AV} {us:List Value} (h:aJ (aK w V ι N) args us):fL args:=by
 induction h with
 |nil=>trivial
 |cons h _ ih=>exact⟨I9 h,ih⟩
theorem qY {V:Nat→Prop} {N:Nat} {vs:List AV} {us:List Value} (h:aJ (aK w V ι N) vs us):aK w V ι N (fZ vs) (if h:us.toArray.size=1 then us.toArray[0]else .tuple us.toArray):=by
 have tupled: ∀{vs:List AV} {us:List Value},aJ (aK w V ι N) vs us→aK w V ι N (.tup vs) (.tuple us.toArray):= λh=>
  .tup (by simpa using h.length) λi x hi=>by
   obtain⟨v,hv,hx⟩:=h.get hi
   simp only[List.toList_toArray]
   rw[hv]
   exact hx
 cases h with
 |nil=>rw[dif_neg (by simp)];exact tupled .nil
 |cons h1 t=>
  cases t with
  |nil=>rw[dif_pos (by simp)];exact h1
  |cons h2 t=>
   rw[dif_neg (by simp)]
   exact tupled (.cons h1 (.cons h2 t))
theorem af.of {f:FuncId} {nt:Nat} {body:ah} {rs:List AR} {args:List AV} {res:AV} (hf:aq P f nt body rs) (HK:args.length≤nt) (h:fL args→AW P nt body ⟨aS args 0, [],0,0⟩ (UT rs res)):af P f args res:=by
 obtain⟨fn,c,h1,h2,h3,rfl,h5,h6⟩:=hf.is
 refine⟨⟨fn,h1,by rw[h2];rfl,h3⟩,λw U vs hG Y=> ?_⟩
 have HA:vs.size=args.length:=by rw[←Array.length_toList];exact Y.length.symm
 have hs:bl w (Gh.of U) ⟨aS args 0, [],0,0⟩ (λ_=>undef) {tmps:=vs++Array.replicate (fn.ntmps-vs.size) undef,defers:= []} w:=by
  refine⟨λt=> ?_,⟨rfl,hG⟩,(λnm bx hn=>by cases hn),(λnm bx hn=>by cases hn),(λnm nm' b1 b2 b hn=>by cases hn),Below.refl _ _,trivial,⟨Nat.le_refl _,λ_ h=>absurd h (Nat.not_lt_zero _)⟩⟩
  have H2: ∀{x:AV} {v:Value},aK w U (λ_=>undef) 0 x v→aK w (aB w.heap.size (Gh.of U) (λ_=>undef) []) (λ_=>undef) 0 x v:= λh=>
   h.mono (λb _ h=>⟨.inl h,λnm bx hn=>by cases hn⟩) (λ_ _ _=>rfl) (λ_ _=>rfl) (Nat.le_refl _)
  rcases jv (vs:=vs.toList) (k:=0) Y t with h|h
  ·by_cases O:t<vs.size
   ·have e:(vs++Array.replicate (fn.ntmps-vs.size) undef).getD t undef=(vs.toList[t-0]?).getD undef:=by
     simp[Array.getD_eq_getD_getElem?,Array.getElem?_append,O]
    rw[e]
    exact H2 h
   ·have:aL (aS args 0) t= .top:=by
     have key: ∀(l:List AV) (j:Nat),j+l.length≤t→aL (aS l j) t= .top:=by
      intro l
      induction l with
      |nil=>intro j _;rfl
      |cons x l ih=>
       intro j hj
       simp only[List.length_cons]at hj
       show(if j=t then x else aL (aS l (j+1)) t)=_
       rw[if_neg (by omega)]
       exact ih _ (by omega)
     exact key args 0 (by omega)
    show aK _ _ _ _ (aL (aS args 0) t) _
    rw[this]
    exact .top
  ·show aK _ _ _ _ (aL (aS args 0) t) _
   rw[h]
   exact .top
 have HE:(vs++Array.replicate (fn.ntmps-vs.size) undef).size=fn.ntmps:=by simp;omega
 have fin: ∀{a':Act} {w':World} {σ':St} {ι':Pl},kb σ' rs [] (λvs=>M7 σ'.mem (fZ vs)=some res)→bl w (Gh.of U) σ' ι' a' w'→ ∃v,(results fn a'.tmps).run P w'= .ok v w'∧ ∃v',Ending.returned v= .returned v'∧aK w' (λb=>U b∨w.heap.size≤b) (λ_=>undef) 0 res v'∧Below w.heap.size w w':=by
  intro a' w' σ' ι' HL J
  obtain⟨vs',us',g1,g2,g3⟩:=lm J (us:= []) h6 HL .nil
  refine⟨_, ?_,_,rfl,Qw J (qY (by simpa using g1)) g3 (λb h=>h.1) (λb h=> .inr h),J.below⟩
  rw[mg,Array.mapM_eq_mapM_toList]
  simp[g2]
 refine tC h1 h2 (h (tg Y) c h5 w (Gh.of U) none [] _ _ w (λ_ e=>by cases e) hs HE) (λi σ' h=>h) ?_
 intro e a' w' σ' ι' hq J
 cases e with
 |normal=>exact fin hq J
 |exit i=>exact hq.elim
 |ret=>exact fin hq J
def Nc (rs:List AR) (res:AV) (mem:List (Nat×bm)) (nx base:Nat):bk→St→Prop
 | .exit _,_=>False
 | .ret,σ=>kb σ rs [] λvs=>fZ vs=res∧σ.mem=mem∧σ.nx=nx∧σ.base=base
 | .normal,σ=>kb σ rs [] λvs=>fZ vs=res∧σ.mem=mem∧σ.nx=nx∧σ.base=base
theorem bb.of {f:FuncId} {nt:Nat} {body:ah} {rs:List AR} {args:List AV} {mem mem':List (Nat×bm)} {nx nx':Nat} {res:AV} (hf:aq P f nt body rs) (HK:args.length≤nt) (h:fL args→AW P nt body ⟨aS args 0,mem,nx,nx⟩ (Nc rs res mem' nx' nx)):bb P f args mem nx res mem' nx':=by
 obtain⟨fn,c,h1,h2,h3,rfl,h5,h6⟩:=hf.is
 refine⟨⟨fn,h1,by rw[h2];rfl,h3⟩,λw0 U ι w vs h9 Y=> ?_⟩
 have HA:vs.size=args.length:=by rw[←Array.length_toList];exact Y.length.symm
 have hs:bl w0 U ⟨aS args 0,mem,nx,nx⟩ ι {tmps:=vs++Array.replicate (fn.ntmps-vs.size) undef,defers:= []} w:=by
  refine⟨λt=> ?_,⟨rfl,h9.defers.2⟩,h9.names,h9.box,h9.apart,h9.below,h9.keep,h9.base⟩
  rcases jv (vs:=vs.toList) (k:=0) Y t with h|h
  ·by_cases O:t<vs.size
   ·have e:(vs++Array.replicate (fn.ntmps-vs.size) undef).getD t undef=(vs.toList[t-0]?).getD undef:=by
     simp[Array.getD_eq_getD_getElem?,Array.getElem?_append,O]
    rw[e]
    exact h
   ·have:aL (aS args 0) t= .top:=by
     have key: ∀(l:List AV) (j:Nat),j+l.length≤t→aL (aS l j) t= .top:=by
      intro l
      induction l with
      |nil=>intro j _;rfl
      |cons x l ih=>
       intro j hj
       simp only[List.length_cons]at hj
       show(if j=t then x else aL (aS l (j+1)) t)=_
       rw[if_neg (by omega)]
       exact ih _ (by omega)
     exact key args 0 (by omega)
    show aK _ _ _ _ (aL (aS args 0) t) _
    rw[this]
    exact .top
  ·show aK _ _ _ _ (aL (aS args 0) t) _
   rw[h]
   exact .top
 have HE:(vs++Array.replicate (fn.ntmps-vs.size) undef).size=fn.ntmps:=by simp;omega
 have fin: ∀{a':Act} {w':World} {σ':St} {ι':Pl},(kb σ' rs [] λvs=>fZ vs=res∧σ'.mem=mem'∧σ'.nx=nx'∧σ'.base=nx)→bl w0 U σ' ι' a' w'→ ∃v,(results fn a'.tmps).run P w'= .ok v w'∧
   ∃v' ι',Ending.returned v= .returned v'∧bl w0 U ⟨[],mem',nx',nx⟩ ι' {tmps:= #[],defers:= []} w'∧aK w' (aB w0.heap.size U ι' mem') ι' nx' res v':=by
  intro a' w' σ' ι' HL J
  obtain⟨vs',us',g1,g2,rfl,rfl,rfl,rfl⟩:=lm J (us:= []) h6 HL .nil
  refine⟨_, ?_,_,ι',rfl,⟨λt=> .top,⟨rfl,J.defers.2⟩,J.names,J.box,J.apart,J.below,J.keep,J.base⟩,qY (by simpa using g1)⟩
  rw[mg,Array.mapM_eq_mapM_toList]
  simp[g2]
 refine tC h1 h2 (h (tg Y) c h5 w0 U none [] _ _ w (λ_ e=>by cases e) hs HE) (λi σ' h=>h) ?_
 intro e a' w' σ' ι' hq J
 cases e with
 |normal=>exact fin hq J
 |exit i=>exact hq.elim
 |ret=>exact fin hq J
theorem AA: ∀{l:List AV} {k:Nat} (i:Nat),aL (aS l k) (k+i)=(l[i]?).getD .top
 | [],k,i=>by simp[aS,aL]
 |v::l,k,0=>by simp[aS,aL]
 |v::l,k,i+1=>by
  have:=AA (l:=l) (k:=k+1) i
  simp only[aS,aL]
  rw[if_neg (by omega),show k+(i+1)=k+1+i by omega,this]
  simp
def Vs (rs:List AR) (ress:List AV) (mem:List (Nat×bm)) (nx base:Nat):bk→St→Prop
 | .exit _,_=>False
 | .ret,σ=> ∃l rl,kb (bU l σ []).1 rs [] λvs=>ress.length=vs.length∧Wk rl {(bU l σ []).1 with fr:=aS vs 0} ⟨aS ress 0,mem,nx,base⟩
 | .normal,σ=> ∃l rl,kb (bU l σ []).1 rs [] λvs=>ress.length=vs.length∧Wk rl {(bU l σ []).1 with fr:=aS vs 0} ⟨aS ress 0,mem,nx,base⟩
theorem bb.ofZ {f:FuncId} {nt:Nat} {body:ah} {rs:List AR} {args:List AV} {mem mem':List (Nat×bm)} {nx nx':Nat} {ress:List AV} (hf:aq P f nt body rs) (HK:args.length≤nt) (h:fL args→AW P nt body ⟨aS args 0,mem,nx,nx⟩ (Vs rs ress mem' nx' nx)):bb P f args mem nx (fZ ress) mem' nx':=by
 obtain⟨fn,c,h1,h2,h3,rfl,h5,h6⟩:=hf.is
 refine⟨⟨fn,h1,by rw[h2];rfl,h3⟩,λw0 U ι w vs h9 Y=> ?_⟩
 have HA:vs.size=args.length:=by rw[←Array.length_toList];exact Y.length.symm
 have hs:bl w0 U ⟨aS args 0,mem,nx,nx⟩ ι {tmps:=vs++Array.replicate (fn.ntmps-vs.size) undef,defers:= []} w:=by
  refine⟨λt=> ?_,⟨rfl,h9.defers.2⟩,h9.names,h9.box,h9.apart,h9.below,h9.keep,h9.base⟩
  rcases jv (vs:=vs.toList) (k:=0) Y t with h|h
  ·by_cases O:t<vs.size
   ·have e:(vs++Array.replicate (fn.ntmps-vs.size) undef).getD t undef=(vs.toList[t-0]?).getD undef:=by
     simp[Array.getD_eq_getD_getElem?,Array.getElem?_append,O]
    rw[e]
    exact h
   ·have:aL (aS args 0) t= .top:=by
     have key: ∀(l:List AV) (j:Nat),j+l.length≤t→aL (aS l j) t= .top:=by
      intro l
      induction l with
      |nil=>intro j _;rfl
      |cons x l ih=>
       intro j hj
       simp only[List.length_cons]at hj
       show(if j=t then x else aL (aS l (j+1)) t)=_
       rw[if_neg (by omega)]
       exact ih _ (by omega)
     exact key args 0 (by omega)
    show aK _ _ _ _ (aL (aS args 0) t) _
    rw[this]
    exact .top
  ·show aK _ _ _ _ (aL (aS args 0) t) _
   rw[h]
   exact .top
 have HE:(vs++Array.replicate (fn.ntmps-vs.size) undef).size=fn.ntmps:=by simp;omega
 have fin: ∀{a':Act} {w':World} {σ':St} {ι':Pl},(∃l rl,kb (bU l σ' []).1 rs [] λvs=>ress.length=vs.length∧Wk rl {(bU l σ' []).1 with fr:=aS vs 0} ⟨aS ress 0,mem',nx',nx⟩)→bl w0 U σ' ι' a' w'→ ∃v,(results fn a'.tmps).run P w'= .ok v w'∧
   ∃v' ι',Ending.returned v= .returned v'∧bl w0 U ⟨[],mem',nx',nx⟩ ι' {tmps:= #[],defers:= []} w'∧aK w' (aB w0.heap.size U ι' mem') ι' nx' (fZ ress) v':=by
  rintro a' w' σ' ι' ⟨l,rl,HL⟩ J
  obtain⟨HP,_⟩:=tB (l:=l) (args:= []) (us:= []) J .nil rfl
  obtain⟨vs',us',g1,g2,ZV,ZT⟩:=lm HP (us:= []) h6 HL .nil
  have g1:aJ (aK w' (aB w0.heap.size U ι' (bU l σ' []).1.mem) ι' (bU l σ' []).1.nx) vs' us':=by simpa using g1
  have hs3:bl w0 U {(bU l σ' []).1 with fr:=aS vs' 0} ι' {tmps:=us'.toArray,defers:= []} w':=by
   refine⟨λt=> ?_,⟨rfl,HP.defers.2⟩,HP.names,HP.box,HP.apart,HP.below,HP.keep,HP.base⟩
   rcases jv (vs:= []) (k:=0) g1 t with h|h
   ·have e:us'.toArray.getD t undef=(us'[t-0]?).getD undef:=by simp[Array.getD_eq_getD_getElem?]
    rw[e];exact h
   ·show aK _ _ _ _ (aL (aS vs' 0) t) _
    rw[h];exact .top
  have HX:=hs3.wk ZT
  have hC:aJ (aK w' (aB w0.heap.size U (λn=>ι' (rn rl n)) mem') (λn=>ι' (rn rl n)) nx') ress us':=by
   refine aJ.of_get (by rw[ZV,g1.length]) λi x u hx hu=> ?_
   have h:=HX.val i
   have e1:aL (aS ress 0) i=x:=by
    have:=AA (l:=ress) (k:=0) i
    rw[Nat.zero_add]at this
    rw[this,hx];rfl
   have e2:(us'.toArray).getD i undef=u:=by simp[Array.getD_eq_getD_getElem?,hu]
   simp only[e1,e2]at h
   exact h
  refine⟨_, ?_,_,λn=>ι' (rn rl n),rfl,⟨λt=> .top,⟨rfl,HX.defers.2⟩,HX.names,HX.box,HX.apart,HX.below,HX.keep,HX.base⟩,qY hC⟩
  rw[mg,Array.mapM_eq_mapM_toList]
  simp[g2]
 refine tC h1 h2 (h (tg Y) c h5 w0 U none [] _ _ w (λ_ e=>by cases e) hs HE) (λi σ' h=>h) ?_
 intro e a' w' σ' ι' hq J
 cases e with
 |normal=>exact fin hq J
 |exit i=>exact hq.elim
 |ret=>exact fin hq J
end
open Go.RowKit
def Uf (P:Program) (nt:Nat) (c:ah) (σ:St) [Q:qD (bk→St→Prop)]:Prop:=AW P nt c σ Q.out
def ir (P:Program) (nt:Nat):ah→St→(bk→St→Prop)→Prop
 | .skip,σ,Q=>Q .normal σ
 | .region gs false,σ,Q=>lB P gs σ (Q .normal)
 | .region gs true,σ,Q=>Uf P nt (.region gs true) σ (Q:=⟨Q⟩)
 | .draw gss,σ,Q=>ym P gss σ (Q .normal)
 |.seq a b,σ,Q=>ir P nt a σ fun
  | .normal,σ=>ir P nt b σ Q
  | .exit i,σ=>Q (.exit i) σ
  | .ret,σ=>Q .ret σ
 |.cond c a b,σ,Q=>match c.ev σ.fr with
  | .c (.pure (.val (.bool t)))=>gY t (A:=⟨ir P nt a σ Q⟩) (B:=⟨ir P nt b σ Q⟩)
  |_=>False
 |.block id a,σ,Q=>ir P nt a σ fun
  | .normal,σ=>Q .normal σ
  | .exit i,σ=>if i=id then Q .normal σ else Q (.exit i) σ
  | .ret,σ=>Q .ret σ
 | .loop a,σ,Q=>Uf P nt (.loop a) σ (Q:=⟨Q⟩)
 | .rangeF f ps x y,σ,Q=>Uf P nt (.rangeF f ps x y) σ (Q:=⟨Q⟩)
 | .exit i,σ,Q=>Q (.exit i) σ
 | .ret,σ,Q=>Q .ret σ
theorem aa {P:Program} {nt:Nat}: ∀{c:ah} {σ:St} {Q:bk→St→Prop},ir P nt c σ Q→AW P nt c σ Q
 | .skip,σ,Q,h=>Mx h
 | .region gs false,σ,Q,h=>Nx h
 | .region gs true,σ,Q,h=>h
 | .draw gss,σ,Q,h=>QW h
 |.seq a b,σ,Q,h=>by
  simp only[ir]at h
  refine zV ((aa (c:=a) h).mono ?_)
  intro e σ h
  cases e with
  |normal=>exact aa (c:=b) h
  |exit i=>exact h
  |ret=>exact h
 |.cond c a b,σ,Q,h=>by
  simp only[ir]at h
  split at h
  ·exact Hy ‹_› (λe=>aa (c:=a) (h.1 e)) (λe=>aa (c:=b) (h.2 e))
  ·exact h.elim
 |.block id a,σ,Q,h=>by
  simp only[ir]at h
  refine OW ((aa (c:=a) h).mono ?_)
  intro e σ h
  cases e with
  |normal=>exact h
  |exit i=>exact h
  |ret=>exact h
 | .loop a,σ,Q,h=>h
 | .rangeF f ps x y,σ,Q,h=>h
 | .exit i,σ,Q,h=>Q9 h
 | .ret,σ,Q,h=>Lt h
theorem T9 {P:Program} {nt:Nat} {c:ah} {σ:St} {Q:bk→St→Prop} (t:Nat) (h:eW (aL σ.fr t)→AW P nt c σ Q):AW P nt c σ Q:=
 λc' hc w0 U rd ds ι a w hE hs hz=>h (I9 (hs.val t)) c' hc w0 U rd ds ι a w hE hs hz
theorem ae {P:Program} {g z:Bool} {f:FuncId} {args pargs:List AV} {σ:St} {K:qD (AV→St→Prop)} {res:AV} (h:af P f pargs res) (hp:ba σ.mem args=some pargs) (hs:rg res=true∨args.all kc=true) (hk:K.out res σ): @AD P g z f args σ K:=
 ⟨[],σ,args,.inl rfl,rfl,.inl ⟨pargs,hp,res,.inl ⟨h,hs⟩,hk⟩⟩
theorem o5 {P:Program} {g z:Bool} {f:FuncId} {args pargs:List AV} {σ:St} {K:qD (AV→St→Prop)} {res:AV} (h:af P f pargs res) (hp:ba σ.mem args=some pargs) (hs:args.all kc=true) (hk:K.out res σ): @AD P g z f args σ K:=ae h hp (.inr hs) hk
theorem av {P:Program} {g z:Bool} {f:FuncId} {args pargs:List AV} {σ:St} {K:qD (AV→St→Prop)} {res:AV} (h:af P f pargs res) (hp:ba σ.mem args=some pargs) (hs:rg res=true) (hk:K.out res σ): @AD P g z f args σ K:=ae h hp (.inl hs) hk
theorem aU {P:Program} {z:Bool} {f:FuncId} {args:List AV} {σ:St} {K:qD (AV→St→Prop)} {res:AV} {mem':List (Nat×bm)} {nx':Nat} (h:bb P f args σ.mem σ.nx res mem' nx') (hk:K.out res {σ with mem:=mem',nx:=nx'}): @AD P true z f args σ K:=
 ⟨[],σ,args,.inl rfl,rfl,.inr ⟨rfl,res,mem',nx',h,hk⟩⟩
theorem T7 (l:List Nat) {P:Program} {nt:Nat} {c:ah} {σ:St} {Q:bk→St→Prop} (h:AW P nt c (bU l σ []).1 Q):AW P nt c σ Q:=
 λc' hc w0 U rd ds ι a w hE hs hz=>h c' hc w0 U rd ds ι a w hE (tB (l:=l) (args:= []) (us:= []) hs .nil rfl).1 hz
theorem wrap_i64 {x:Int} (h1: -9223372036854775808≤x∧x≤9223372036854775807):IntKind.wrap .i64 x=x:=by
 rw[IntKind.wrap_i64];omega
theorem wrap_u64 {x:Int} (h1:0≤x∧x≤18446744073709551615):IntKind.wrap .u64 x=x:=by
 have:IntKind.wrap .u64 x=x%18446744073709551616:=by simp[IntKind.wrap,IntKind.bits,IntKind.signed]
 rw[this];omega
theorem aN {sz:Nat}:bV sz []:= λr h=>by cases h
theorem ak {sz:Nat} {r:List PC} (h:r.length=sz):bV sz [r]:= λx hx=>by
 rw[List.mem_singleton]at hx;rw[hx];exact h
theorem aG {α:Type} {sz:Nat} {f:α→List PC} {l:List α} (h: ∀x,(f x).length=sz):bV sz (l.map f):= λr hr=>by
 obtain⟨x,_,rfl⟩:=List.mem_map.1 hr;exact h x
abbrev I (n:Int):AV:= .c (.pure (.val (.int .i64 n)))
abbrev B (b:Bool):AV:= .c (.pure (.val (.bool b)))
abbrev S (s:ByteArray):AV:= .c (.pure (.val (.string s)))
abbrev ce (xs:List Int):PC:= .slice (xs.map λn=> [.val (.int .i64 n)])
abbrev bw (xs:List Int):AV:= .c (.pure (ce xs))
section
variable {P : Program} {nt : Nat} {σ : St} {Q : bk → St → Prop} {K : St → Prop}
theorem NA:ir P nt .skip σ Q=Q .normal σ:=propext ⟨id,id⟩
theorem J7 {gs:List AG}:ir P nt (.region gs false) σ Q=lB P gs σ (Q .normal):=propext ⟨id,id⟩
theorem MV {gs:List AG}:ir P nt (.region gs true) σ Q=Uf P nt (.region gs true) σ (Q:=⟨Q⟩):=propext ⟨id,id⟩
theorem KD {gss:List (List (Bool×AG))}:ir P nt (.draw gss) σ Q=ym P gss σ (Q .normal):=propext ⟨id,id⟩
theorem PG {a b:ah}:ir P nt (.seq a b) σ Q=ir P nt a σ (λe σ=>match e with
  | .normal=>ir P nt b σ Q
  | .exit i=>Q (.exit i) σ
  | .ret=>Q .ret σ):=by
 simp only[ir]
 congr 1
 funext e σ
 cases e<;>rfl
theorem NB {c:AX} {a b:ah}:ir P nt (.cond c a b) σ Q=match c.ev σ.fr with
  | .c (.pure (.val (.bool t)))=>gY t (A:=⟨ir P nt a σ Q⟩) (B:=⟨ir P nt b σ Q⟩)
  |_=>False:=propext ⟨id,id⟩
theorem KR {id:Nat} {a:ah}:ir P nt (.block id a) σ Q=ir P nt a σ (λe σ=>match e with
  | .normal=>Q .normal σ
  | .exit i=>if i=id then Q .normal σ else Q (.exit i) σ
  | .ret=>Q .ret σ):=by
 simp only[ir]
 congr 1
 funext e σ
 cases e<;>rfl
theorem J8 {f:AX} {ps:List Nat} {x y:ah}:ir P nt (.rangeF f ps x y) σ Q=Uf P nt (.rangeF f ps x y) σ (Q:=⟨Q⟩):=propext ⟨id,id⟩
theorem NP {a:ah}:ir P nt (.loop a) σ Q=Uf P nt (.loop a) σ (Q:=⟨Q⟩):=propext ⟨id,id⟩
theorem Nd {i:Nat}:ir P nt (.exit i) σ Q=Q (.exit i) σ:=propext ⟨id,id⟩
theorem OA:ir P nt .ret σ Q=Q .ret σ:=propext ⟨id,id⟩
theorem OH:lB P [] σ K=K σ:=propext ⟨id,id⟩
theorem Nt {d:Option Nat} {op:dV} {r:List AG}:lB P (⟨d,none,op⟩::r) σ K=bh P op σ λv σ'=>lB P r (σ'.put d v) K:=propext ⟨id,id⟩
theorem KJ {d:Option Nat} {op:dV} {t:Nat} {want:Bool} {r:List AG}:lB P (⟨d,some (t,want),op⟩::r) σ K=match aL σ.fr t with
  | .c (.pure (.val (.bool b)))=>gY (b==want) (A:=⟨bh P op σ λv σ'=>lB P r (σ'.put d v) K⟩) (B:=⟨lB P r (σ.put d (.tup [])) K⟩)
  | .tup []=>lB P r (σ.put d (.tup [])) K
  |_=>False:=propext ⟨id,id⟩
theorem O2:jj P [] σ K=K σ:=propext ⟨id,id⟩
theorem MN {d:Option Nat} {op:dV} {r:List (Bool×AG)}:jj P ((false,⟨d,none,op⟩)::r) σ K=bh P op σ λv σ'=>jj P r (σ'.put d v) K:=by
 have e: ∀(p:Prop),(@bO (false=true→p)= λK=>K.out):= λp=>funext λK=>Ha (λe=>by cases e)
 simp only[jj,e]
theorem No {d:Option Nat} {op:dV} {r:List (Bool×AG)}:jj P ((true,⟨d,none,op⟩)::r) σ K=bh P op σ λv σ'=>bO (Ly σ.mem σ'.mem) (K:=⟨jj P r (σ'.put d v) K⟩):=by
 simp only[jj,forall_const]
theorem Ll {d:Option Nat} {x:Bool} {op:dV} {t:Nat} {want:Bool} {r:List (Bool×AG)}:jj P ((x,⟨d,some (t,want),op⟩)::r) σ K=match aL σ.fr t with
  | .c (.pure (.val (.bool b)))=>gY (b==want) (A:=⟨jj P ((x,⟨d,none,op⟩)::r) σ K⟩) (B:=⟨jj P r (σ.put d (.tup [])) K⟩)
  | .tup []=>jj P r (σ.put d (.tup [])) K
  |_=>False:=propext ⟨id,id⟩
theorem M5 {gs:List (Bool×AG)}:ym P [gs] σ K=jj P gs σ K:=propext ⟨id,id⟩
theorem NI {gs hs:List (Bool×AG)} {r:List (List (Bool×AG))}:ym P (gs::hs::r) σ K=P1 (A:=⟨jj P gs σ K⟩) (B:=⟨ym P (hs::r) σ K⟩):=propext ⟨id,id⟩
theorem NC {m:List (Nat×bm)}:Ly m m=True:=eq_true (.inl rfl)
theorem Nr {m:List (Nat×bm)} {n:Nat} {b:bm}:Ly m ((n,b)::m)=(am m n=none):=propext ⟨λh=>by
 rcases h with h|⟨n',b',h1,h2⟩
 ·have:=congrArg List.length h
  simp at this
 ·cases h1
  exact h2,λh=> .inr ⟨n,b,rfl,h⟩⟩
end
section
variable {P : Program} {σ : St} {K : AV → St → Prop}
theorem TV {x:AX}:bh P (.mv x) σ K=(K (x.ev σ.fr) σ):=propext ⟨id,id⟩
theorem Qe {c:AX} {a:AX} {b:AX}:bh P (.pick c a b) σ K=(match c.ev σ.fr with
  | .c (.pure (.val (.bool t)))=>gY t (A:=⟨K (a.ev σ.fr) σ⟩) (B:=⟨K (b.ev σ.fr) σ⟩)
  |_=>False):=propext ⟨id,id⟩
theorem Q4 {x:AX}:bh P (.box x) σ K=(match (x.ev σ.fr).cells with
  |some xs=>K (.c (.ptr σ.nx 0)) {σ with mem:=(σ.nx,.var xs)::σ.mem,nx:=σ.nx+1}
  |none=>False):=propext ⟨id,id⟩
theorem QI {n:Option Nat} {p:AX}:bh P (.load n p) σ K=(match p.ev σ.fr with
  |.c q=>match bv σ.mem q with
   |some xs=>match n with
    |none=>match xs with
     |x::_=>K (.c x) σ
     | []=>False
    |some n=>bO (n≤xs.length) (K:=⟨K (.agg (xs.take n)) σ⟩)
   |none=>False
  |_=>False):=propext ⟨id,id⟩
theorem M2 {n:Nat} {p:AX} {v:AX}:bh P (.store n p v) σ K=(match (v.ev σ.fr).cells,p.ev σ.fr with
  |some ys,.c (.ptr nm off)=>match am σ.mem nm with
   |some (.var xs)=>bO (ys.length=n∧off+n≤xs.length) (K:=⟨K (.tup []) {σ with mem:=dG σ.mem nm (.var (over xs off ys))}⟩)
   |_=>False
  |some ys,.c (.eptr nm sz row off)=>match am σ.mem nm with
   |some (.arr e sz' rows)=>bO (sz=sz'∧ys.length=n∧off+n≤sz) (K:=⟨el (Kk ys) (K:=⟨λzs=>el rows[row]? (K:=⟨λr=>
     K (.tup []) {σ with mem:=dG σ.mem nm (.arr e sz (rows.set row (over r off zs)))}⟩)⟩)⟩)
   |some (.arn e sz' rows)=>bO (sz=sz'∧ys.length=n∧off+n≤sz) (K:=⟨el rows[row]? (K:=⟨λr=>
     K (.tup []) {σ with mem:=dG σ.mem nm (.arn e sz (rows.set row (over r off ys)))}⟩)⟩)
   |_=>False
  |_,_=>False):=propext ⟨id,id⟩
theorem R6 {op:BinOp} {x:AX} {y:AX}:bh P (.bin op x y) σ K=(match x.ev σ.fr,y.ev σ.fr with
  |.c (.pure (.val a)),.c (.pure (.val b))=>match op with
   | .shl| .shr=>nE op a b λv=>K (.c (.pure (.val v))) σ
   |_=>Br op a b λv=>K (.c (.pure (.val v))) σ
  |_,_=>False):=propext ⟨id,id⟩
theorem Q6 {neg:Bool} {x:AX} {y:AX}:bh P (.eqb neg x y) σ K=(match x.ev σ.fr,y.ev σ.fr with
  | .c (.pure (.val (.bool a))),.c (.pure (.val (.bool b)))=>K (.c (.pure (.val (.bool ((a==b) !=neg))))) σ
  |_,_=>False):=propext ⟨id,id⟩
theorem Rb {neg:Bool} {l:List ET} {x:AX} {y:AX}:bh P (.eqs neg l x y) σ K=(match x.ev σ.fr,y.ev σ.fr with
  | .agg xs,.agg ys=>bO (Hr l xs ys) (K:=⟨K (.c (.pure (.val (.bool (ni (NW xs ys) !=neg))))) σ⟩)
  |_,_=>False):=propext ⟨id,id⟩
theorem Ot {op:UnOp} {x:AX}:bh P (.un op x) σ K=(match op,x.ev σ.fr with
  | .not,.c (.pure (.val (.bool b)))=>K (.c (.pure (.val (.bool (!b))))) σ
  | .neg,.c (.pure (.val (.int k n)))=>K (.c (.pure (.val (.int k (k.wrap (0-n)))))) σ
  | .xor,.c (.pure (.val (.int k n)))=>K (.c (.pure (.val (.int k (k.wrap (BitVec.ofInt k.bits (if k.signed then-1 else k.max)^^^BitVec.ofInt k.bits n).toNat))))) σ
  |_,_=>False):=propext ⟨id,id⟩
theorem P8 {k:IntKind} {x:AX}:bh P (.conv k x) σ K=(match x.ev σ.fr with
  | .c (.pure (.val (.int _ n)))=>K (.c (.pure (.val (.int k (k.wrap n))))) σ
  |_=>False):=propext ⟨id,id⟩
theorem Lw {off:Nat} {p:AX}:bh P (.fieldA off p) σ K=(match p.ev σ.fr with
  | .c (.ptr nm o)=>K (.c (.ptr nm (o+off))) σ
  | .c (.cptr cells)=>K (.c (.cptr (cells.drop off))) σ
  | .c (.eptr nm sz row o)=>K (.c (.eptr nm sz row (o+off))) σ
  |_=>False):=propext ⟨id,id⟩
theorem MJ {off:Nat} {n:Option Nat} {x:AX}:bh P (.field off n x) σ K=(match x.ev σ.fr with
  |.agg xs=>match n with
   |none=>match xs.drop off with
    |x::_=>K (.c x) σ
    | []=>False
   |some n=>bO (off+n≤xs.length) (K:=⟨K (.agg ((xs.drop off).take n)) σ⟩)
  |_=>False):=propext ⟨id,id⟩
theorem Qh {sz:Nat} {x:AX} {i:AX}:bh P (.idxA sz x i) σ K=(match x.ev σ.fr,i.ev σ.fr with
  | .c (.pure (.slice rows)),.c (.pure (.val (.int _ i)))| .c (.tsl rows),.c (.pure (.val (.int _ i)))=>bO (0≤i) (K:=⟨el rows[i.toNat]? (K:=⟨λr=>bO (r.length=sz∧0<sz) (K:=⟨K (.c (.cptr r)) σ⟩)⟩)⟩)
  |.c (.ref nm),.c (.pure (.val (.int _ i)))=>match am σ.mem nm with
   |some (.arr _ sz' rows)=>bO (sz'=sz∧0<sz∧0≤i∧i<rows.length) (K:=⟨K (.c (.eptr nm sz i.toNat 0)) σ⟩)
   |some (.arn _ sz' rows)=>bO (sz'=sz∧0<sz∧0≤i∧i<rows.length) (K:=⟨K (.c (.eptr nm sz i.toNat 0)) σ⟩)
   |_=>False
  |_,_=>False):=propext ⟨id,id⟩
theorem Ql {len:Nat} {sz:Nat} {x:AX} {i:AX}:bh P (.idxR len sz x i) σ K=(match x.ev σ.fr,i.ev σ.fr with
  | .c (.ptr nm o),.c (.pure (.val (.int _ i)))=>bO (0≤i∧i<len) (K:=⟨K (.c (.ptr nm (o+i.toNat*sz))) σ⟩)
  | .c (.cptr cells),.c (.pure (.val (.int _ i)))=>bO (0≤i∧i<len) (K:=⟨K (.c (.cptr (cells.drop (i.toNat*sz)))) σ⟩)
  |_,_=>False):=propext ⟨id,id⟩
theorem Oz {x:AX}:bh P (.nilc x) σ K=(match x.ev σ.fr with
  | .c (.ptr nm o)=>K (.c (.ptr nm o)) σ
  | .c (.cptr cells)=>K (.c (.cptr cells)) σ
  | .c (.eptr nm sz row o)=>K (.c (.eptr nm sz row o)) σ
  | .c (.clo f caps)=>K (.c (.clo f caps)) σ
  |_=>False):=propext ⟨id,id⟩
theorem Oo {x:AX} {i:AX}:bh P (.idxS x i) σ K=(match x.ev σ.fr,i.ev σ.fr with
  | .c (.pure (.val (.string s))),.c (.pure (.val (.int _ i)))=>bO (0≤i) (K:=⟨el s[i.toNat]? (K:=⟨λb=>K (.c (.pure (.val (.int .u8 b.toNat)))) σ⟩)⟩)
  |_,_=>False):=propext ⟨id,id⟩
theorem NR {zero:List AC} {parts:List (Nat×Nat×AX)}:bh P (.build zero parts) σ K=(bh.buildW σ parts zero λxs=>K (.agg xs) σ):=propext ⟨id,id⟩
theorem Lk {sz:Nat} {rows:List AX}:bh P (.bslice sz rows) σ K=(bh.bsliceW σ sz rows [] λrs=>K (.c (.tsl rs)) σ):=propext ⟨id,id⟩
theorem J6 {e:Nat} {sz:Nat} {bytes:Nat} {zero:List PC} {l:AX}:bh P (.mkslice e sz bytes zero l) σ K=(match l.ev σ.fr with
  | .c (.pure (.val (.int .i64 n)))=>bO (0≤n∧n≤281474976710656∧bytes*n≤281474976710656) (K:=⟨
    K (.c (.ref σ.nx)) {σ with mem:=(σ.nx,.arr e sz (List.replicate n.toNat zero))::σ.mem,nx:=σ.nx+1}⟩)
  |_=>False):=propext ⟨id,id⟩
theorem RH {sz:Nat} {x:AX} {lo:Option AX} {hi:Option AX} {mx:Option AX}:bh P (.slc sz x lo hi mx) σ K=(match x.ev σ.fr with
  | .c (.ref _)=>False
  |v=>el (eL σ.mem v) (K:=⟨λrows=>el (bh.boundOf σ lo) (K:=⟨λlo=>el (bh.boundOf σ hi) (K:=⟨λhi=>el (bh.boundOf σ mx) (K:=⟨λmx=>
   bO (bV sz rows∧0≤lo.getD 0∧lo.getD 0≤hi.getD rows.length∧hi.getD rows.length≤mx.getD rows.length∧mx.getD rows.length≤rows.length) (K:=⟨
   K (.c (if mx.isSome=true∧mx=hi then .tsl ((rows.take (hi.getD rows.length).toNat).drop (lo.getD 0).toNat)else .pure (.slice ((rows.take (hi.getD rows.length).toNat).drop (lo.getD 0).toNat)))) σ⟩)⟩)⟩)⟩)⟩)):=propext ⟨id,id⟩
theorem O9 {x:AX} {lo:Option AX} {hi:Option AX}:bh P (.slcS x lo hi) σ K=(match x.ev σ.fr,bh.boundOf σ lo,bh.boundOf σ hi with
  |.c (.pure (.val (.string s))),some lo,some hi=>bO (0≤lo.getD 0∧lo.getD 0≤hi.getD s.size∧hi.getD s.size≤s.size) (K:=⟨
   K (.c (.pure (.val (.string (s.extract (lo.getD 0).toNat (hi.getD s.size).toNat))))) σ⟩)
  |_,_,_=>False):=propext ⟨id,id⟩
theorem QR {x:AX} {i:Nat}:bh P (.ext x i) σ K=(match x.ev σ.fr with
  | .tup vs=>el vs[i]? (K:=⟨λv=>K v σ⟩)
  |_=>False):=propext ⟨id,id⟩
theorem Rd {x:AX}:bh P (.len x) σ K=(match x.ev σ.fr with
  | .c (.pure (.slice rows))| .c (.tsl rows)=>K (.c (.pure (.val (.int .i64 rows.length)))) σ
  | .c .nils=>K (.c (.pure (.val (.int .i64 0)))) σ
  |.c (.ref nm)=>match am σ.mem nm with
   |some (.arr _ _ rows)=>K (.c (.pure (.val (.int .i64 rows.length)))) σ
   |some (.arn _ _ rows)=>K (.c (.pure (.val (.int .i64 rows.length)))) σ
   |_=>False
  |_=>False):=propext ⟨id,id⟩
theorem P2 {x:AX}:bh P (.lenS x) σ K=(match x.ev σ.fr with
  | .c (.pure (.val (.string s)))=>K (.c (.pure (.val (.int .i64 s.size)))) σ
  |_=>False):=propext ⟨id,id⟩
theorem Tg {mx:Bool} {x:AX} {y:AX}:bh P (.mm mx x y) σ K=(match x.ev σ.fr,y.ev σ.fr with
  | .c (.pure (.val (.int k a))),.c (.pure (.val (.int _ b)))=>K (.c (.pure (.val (.int k (if mx=true then max a b else min a b))))) σ
  |_,_=>False):=propext ⟨id,id⟩
theorem RN {x y z t:AX}:bh P (.mm4 x y z t) σ K=(match x.ev σ.fr,y.ev σ.fr,z.ev σ.fr,t.ev σ.fr with
  | .c (.pure (.val (.int k a))),.c (.pure (.val (.int _ b))),.c (.pure (.val (.int _ c))),.c (.pure (.val (.int _ d)))=>K (.c (.pure (.val (.int k (max (max (max a b) c) d))))) σ
  |_,_,_,_=>False):=propext ⟨id,id⟩
theorem Pc:bh P .dead σ K=False:=propext ⟨id,id⟩
theorem O7 {neg:Bool} {x:AX}:bh P (.fnil neg x) σ K=(match x.ev σ.fr with
  | .c (.clo _ _)=>K (.c (.pure (.val (.bool neg)))) σ
  | .c (.pure (.val .nilFunc))=>K (.c (.pure (.val (.bool (!neg))))) σ
  |_=>False):=propext ⟨id,id⟩
theorem Qb {neg:Bool} {x:AX}:bh P (.snil neg x) σ K=(match x.ev σ.fr with
  | .c .nils=>K (.c (.pure (.val (.bool (!neg))))) σ
  | .c (.pure (.slice rows))| .c (.tsl rows)=>Ib rows (A:=⟨K (.c (.pure (.val (.bool (!neg))))) σ⟩) (B:=⟨K (.c (.pure (.val (.bool neg)))) σ⟩)
  |.c (.ref nm)=>match am σ.mem nm with
   |some (.arr _ _ rows)=>Ib rows (A:=⟨K (.c (.pure (.val (.bool (!neg))))) σ⟩) (B:=⟨K (.c (.pure (.val (.bool neg)))) σ⟩)
   |_=>False
  |_=>False):=propext ⟨id,id⟩
theorem RS {e:Nat} {sz:Nat} {bytes:Nat} {x:AX} {y:AX}:bh P (.app e sz bytes x y) σ K=(el (eL σ.mem (y.ev σ.fr)) (K:=⟨λys=>Fu e sz bytes (x.ev σ.fr) (y.ev σ.fr) ys σ (K:=⟨K⟩)⟩)):=propext ⟨id,id⟩
theorem OD {f:FuncId} {caps:List AX}:bh P (.mkfn f caps) σ K=(bh.mkfnW σ caps [] λxs=>K (.c (.clo f xs)) σ):=propext ⟨id,id⟩
theorem N4 {g z:Bool} {f:AX} {args:List AX}:bh P (.call g z f args) σ K=(match f.ev σ.fr with
  | .c (.clo f caps)=>AD P g z f (args.map (·.ev σ.fr)++caps.map .c) σ (K:=⟨K⟩)
  |_=>False):=propext ⟨id,id⟩
theorem I7 {sz:Nat} {rows:List AX}:bh P (.bsliceF sz rows) σ K=(bh.bsliceFW σ sz rows σ.mem [] λrs mem=>K (.c (.tsl rs)) {σ with mem:=mem}):=propext ⟨id,id⟩
theorem Nz {kt:KT} {n:Option Nat}:bh P (.mkmap kt n) σ K=(K (.c (.mref σ.nx)) {σ with mem:=(σ.nx,.map kt n [])::σ.mem,nx:=σ.nx+1}):=propext ⟨id,id⟩
theorem QB {kt:KT} {n:Option Nat} {zero:List AC} {ok:Bool} {m:AX} {k:AX}:bh P (.mget kt n zero ok m k) σ K=(match k.ev σ.fr with
  |.c (.pure (.val kv))=>el (EA kt kv) (K:=⟨λmk=>match m.ev σ.fr with
   |.c (.mref nm)=>match am σ.mem nm with
    |some (.map kt' n' ents)=>bO (kt'=kt∧n'=n) (K:=⟨qp (eC ents mk) (A:=⟨λps=>K (if ok=true then .tup [eF n ps,.c (.pure (.val (.bool true)))]else eF n ps) σ⟩)
     (B:=⟨K (if ok=true then .tup [eF n zero,.c (.pure (.val (.bool false)))]else eF n zero) σ⟩)⟩)
    |_=>False
   | .c (.pure (.fmap kt' n' es))=>bO (kt'=kt∧n'=n) (K:=⟨qp (eC (lR es) mk) (A:=⟨λps=>K (if ok=true then .tup [eF n ps,.c (.pure (.val (.bool true)))]else eF n ps) σ⟩)
     (B:=⟨K (if ok=true then .tup [eF n zero,.c (.pure (.val (.bool false)))]else eF n zero) σ⟩)⟩)
   |_=>False⟩)
  |_=>False):=propext ⟨id,id⟩
theorem Qo {kt:KT} {n:Option Nat} {m:AX} {k:AX} {v:AX}:bh P (.mput kt n m k v) σ K=(match k.ev σ.fr with
  |.c (.pure (.val kv))=>el (EA kt kv) (K:=⟨λmk=>match m.ev σ.fr with
   |.c (.mref nm)=>el (vY n (v.ev σ.fr)) (K:=⟨λys=>match am σ.mem nm with
    |some (.map kt' n' ents)=>bO (kt'=kt∧n'=n) (K:=⟨K (.tup []) {σ with mem:=dG σ.mem nm (.map kt n (Be ents mk ys))}⟩)
    |_=>False⟩)
   |_=>False⟩)
  |_=>False):=propext ⟨id,id⟩
theorem Ob {kt:KT} {n:Option Nat} {zero:List AC} {m:AX} {k:AX}:bh P (.ment kt n zero m k) σ K=(match k.ev σ.fr with
  |.c (.pure (.val kv))=>el (EA kt kv) (K:=⟨λmk=>match m.ev σ.fr with
   |.c (.mref nm)=>match am σ.mem nm with
    |some (.map kt' n' ents)=>bO (kt'=kt∧n'=n) (K:=⟨qp (eC ents mk) (A:=⟨λps=>K (.tup [eF n ps,.c (.pure (.val (.int .i64 (NO ents mk))))]) σ⟩)
     (B:=⟨K (.tup [eF n zero,.c (.pure (.val (.int .i64 ents.length)))]) {σ with mem:=dG σ.mem nm (.map kt n (ents++ [(mk,zero)]))}⟩)⟩)
    |_=>False
   |_=>False⟩)
  |_=>False):=propext ⟨id,id⟩
theorem PH {kt:KT} {n:Option Nat} {m:AX} {s:AX} {v:AX}:bh P (.eput kt n m s v) σ K=(match s.ev σ.fr with
  |.c (.pure (.val (.int _ i)))=>match m.ev σ.fr with
   |.c (.mref nm)=>el (vY n (v.ev σ.fr)) (K:=⟨λys=>match am σ.mem nm with
    |some (.map kt' n' ents)=>bO (kt'=kt∧n'=n∧0≤i∧i<ents.length) (K:=⟨K (.tup []) {σ with mem:=dG σ.mem nm (.map kt n (C4 ents i.toNat ys))}⟩)
    |_=>False⟩)
   |_=>False
  |_=>False):=propext ⟨id,id⟩
end
section
variable {P : Program} {σ : St}
theorem I8 {sz:Nat} {acc:List (List PC)} {K:List (List PC)→Prop}:bh.bsliceW σ sz [] acc K=K acc:=propext ⟨id,id⟩
theorem Hz {sz:Nat} {x:AX} {r:List AX} {acc:List (List PC)} {K:List (List PC)→Prop}:bh.bsliceW σ sz (x::r) acc K=(match (x.ev σ.fr).cells with
   |some ys=>el (Kk ys) (K:=⟨λzs=>bO (ys.length=sz) (K:=⟨bh.bsliceW σ sz r (acc++ [zs]) K⟩)⟩)
   |none=>False):=propext ⟨id,id⟩
theorem Ic {sz:Nat} {mem:List (Nat×bm)} {acc:List (List PC)} {K:List (List PC)→List (Nat×bm)→Prop}:bh.bsliceFW σ sz [] mem acc K=K acc mem:=propext ⟨id,id⟩
theorem EK {sz:Nat} {x:AX} {r:List AX} {mem:List (Nat×bm)} {acc:List (List PC)} {K:List (List PC)→List (Nat×bm)→Prop}:bh.bsliceFW σ sz (x::r) mem acc K=(match (x.ev σ.fr).cells with
   |some ys=>el (GD mem ys) (K:=⟨λz=>bO (ys.length=sz) (K:=⟨bh.bsliceFW σ sz r z.2 (acc++ [z.1]) K⟩)⟩)
   |none=>False):=propext ⟨id,id⟩
theorem KN {acc:List AC} {K:List AC→Prop}:bh.buildW σ [] acc K=K acc:=propext ⟨id,id⟩
theorem Jr {off n:Nat} {x:AX} {r:List (Nat×Nat×AX)} {acc:List AC} {K:List AC→Prop}:bh.buildW σ ((off,n,x)::r) acc K=(match (x.ev σ.fr).cells with
   |some ys=>bO (ys.length=n∧off+n≤acc.length) (K:=⟨bh.buildW σ r (over acc off ys) K⟩)
   |none=>False):=propext ⟨id,id⟩
theorem ML {acc:List AC} {K:List AC→Prop}:bh.mkfnW σ [] acc K=K acc:=propext ⟨id,id⟩
theorem K4 {x:AX} {r:List AX} {acc:List AC} {K:List AC→Prop}:bh.mkfnW σ (x::r) acc K=(match x.ev σ.fr with
   | .c y=>bh.mkfnW σ r (acc++ [y]) K
   |_=>False):=propext ⟨id,id⟩
end
def Ti (n:Nat) (a b:Int):Int:=(BitVec.ofInt n a&&&BitVec.ofInt n b).toNat
def WF (n:Nat) (a b:Int):Int:=(BitVec.ofInt n a|||BitVec.ofInt n b).toNat
def V4 (n:Nat) (a b:Int):Int:=(BitVec.ofInt n a^^^BitVec.ofInt n b).toNat
def Vc (n:Nat) (a b:Int):Int:=(BitVec.ofInt n a&&& ~~~BitVec.ofInt n b).toNat
section
variable {k : IntKind} {a b : Int} {s u : ByteArray} {K : Value → Prop}
theorem Pp:mw .add k a b K=K (.int k (k.wrap (a+b))):=propext ⟨id,id⟩
theorem OL:mw .sub k a b K=K (.int k (k.wrap (a-b))):=propext ⟨id,id⟩
theorem Oa:mw .mul k a b K=K (.int k (k.wrap (a*b))):=propext ⟨id,id⟩
theorem Qc:mw .quo k a b K=bO (b≠0) (K:=⟨K (.int k (k.wrap (a.tdiv b)))⟩):=propext ⟨id,id⟩
theorem PA:mw .rem k a b K=bO (b≠0) (K:=⟨K (.int k (a.tmod b))⟩):=propext ⟨id,id⟩
theorem OQ:mw .and k a b K=K (.int k (k.wrap (Ti k.bits a b))):=propext ⟨id,id⟩
theorem Rj:mw .or k a b K=K (.int k (k.wrap (WF k.bits a b))):=propext ⟨id,id⟩
theorem Oh:mw .xor k a b K=K (.int k (k.wrap (V4 k.bits a b))):=propext ⟨id,id⟩
theorem IV:mw .andNot k a b K=K (.int k (k.wrap (Vc k.bits a b))):=propext ⟨id,id⟩
theorem PT:mw .eql k a b K=K (.bool (a==b)):=propext ⟨id,id⟩
theorem OY:mw .neq k a b K=K (.bool (a !=b)):=propext ⟨id,id⟩
theorem PL:mw .lss k a b K=K (.bool (decide (a<b))):=propext ⟨id,id⟩
theorem O4:mw .leq k a b K=K (.bool (decide (a≤b))):=propext ⟨id,id⟩
theorem PM:mw .gtr k a b K=K (.bool (decide (a>b))):=propext ⟨id,id⟩
theorem P5:mw .geq k a b K=K (.bool (decide (a≥b))):=propext ⟨id,id⟩
theorem Ph:wj .add s u K=bO (s.size+u.size≤9223372036854775807) (K:=⟨K (.string (s++u))⟩):=propext ⟨id,id⟩
theorem P3:wj .eql s u K=K (.bool (s.toList==u.toList)):=propext ⟨id,id⟩
theorem OE:wj .neq s u K=K (.bool (!(s.toList==u.toList))):=propext ⟨id,id⟩
theorem Od:wj .lss s u K=K (.bool (Op.bytesLess s.toList u.toList)):=propext ⟨id,id⟩
theorem QE:wj .leq s u K=K (.bool (Op.bytesLess s.toList u.toList||s.toList==u.toList)):=propext ⟨id,id⟩
theorem PV:wj .gtr s u K=K (.bool (!(Op.bytesLess s.toList u.toList||s.toList==u.toList))):=propext ⟨id,id⟩
theorem PB:wj .geq s u K=K (.bool (!(Op.bytesLess s.toList u.toList))):=propext ⟨id,id⟩
theorem OO {op:BinOp} {k':IntKind}:Br op (.int k a) (.int k' b) K=bO (k=k') (K:=⟨mw op k a b K⟩):=propext ⟨id,id⟩
theorem OU {op:BinOp}:Br op (.string s) (.string u) K=wj op s u K:=propext ⟨id,id⟩
theorem KX:sH .shl k a b K=K (.int k (k.wrap (a*2^(min b.toNat k.bits)))):=propext ⟨id,id⟩
theorem Ln:sH .shr k a b K=K (.int k (a.fdiv (2^(min b.toNat k.bits)))):=propext ⟨id,id⟩
theorem Lm {op:BinOp} {k':IntKind}:nE op (.int k a) (.int k' b) K=bO (0≤b) (K:=⟨sH op k a b K⟩):=propext ⟨id,id⟩
end
section
variable {σ : St} {K : List AV → Prop} {L : AV → Prop}
theorem Oc {acc:List AV}:kb σ [] acc K=K acc:=propext ⟨id,id⟩
theorem NJ {r:AR} {rs:List AR} {acc:List AV}:kb σ (r::rs) acc K=Dc σ r λv=>kb σ rs (acc++ [v]) K:=propext ⟨id,id⟩
theorem Qr {n:Nat}:Dc σ (.t n) L=L (aL σ.fr n):=propext ⟨id,id⟩
theorem IA {n:Option Nat} {a:Nat}:Dc σ (.cell n a) L=(match aL σ.fr a with
  |.c q=>match bv σ.mem q with
   |some xs=>Gb n xs L
   |none=>False
  |_=>False):=propext ⟨id,id⟩
theorem NF {x:AC} {xs:List AC}:Gb none (x::xs) L=L (.c x):=propext ⟨id,id⟩
theorem NM {n:Nat} {xs:List AC}:Gb (some n) xs L=bO (n≤xs.length) (K:=⟨L (.agg (xs.take n))⟩):=propext ⟨id,id⟩
end
theorem Pm {σ:St} {v:AV}:σ.put none v=σ:=rfl
theorem OP {σ:St} {d:Nat} {v:AV}:σ.put (some d) v={σ with fr:=(d,v)::σ.fr}:=rfl
theorem aD {m n:Nat} {v:AV} {r:List (Nat×AV)}:aL ((m,v)::r) n=if m=n then v else aL r n:=by rw[aL]
theorem CC {mem:List (Nat×bm)}: ∀{l:List PC},um mem (l.map .pure)=some l
 | []=>rfl
 |p::l=>by simp only[List.map_cons,um,cG,CC (l:=l)]
theorem Gk {α:Type} {mem:List (Nat×bm)} {k:α→MK} {p:α→PC}: ∀{l:List α},jd mem none (l.map λx=>(k x, [.pure (p x)]))=some (l.map λx=>(k x, [p x]))
 | []=>rfl
 |x::l=>by simp only[List.map_cons,jd,lJ,cG,Gk (l:=l)]
theorem FI {α:Type} {mem:List (Nat×bm)} {k:α→MK} {ps:α→List PC} {m:Nat}: ∀{l:List α},jd mem (some m) (l.map λx=>(k x,(ps x).map .pure))=some (l.map λx=>(k x,ps x))
 | []=>rfl
 |x::l=>by simp only[List.map_cons,jd,lJ,CC,FI (l:=l)]
attribute [go_sem ↓] Gk FI
attribute [go_sem ↓] NA J7 MV KD O2 MN No Ll M5 NI NC Nr PG NB KR NP J8 Nd OA OH Nt KJ aD
attribute [go_sem ↓] TV Qe Q4 QI M2 R6 Q6 Rb Ot P8 Lw MJ Qh Ql Oz Oo NR Lk J6 RH O9 QR Rd P2 Tg RN Pc O7 Qb Ng RS OD N4 I7 Nz QB Qo Ob PH AX.ev M4 MT KV IC KP Le Pm OP
attribute [go_sem ↓] Pp OL Oa Qc PA OQ Rj Oh IV PT OY PL O4 PM P5 Ph P3 OE Od QE PV PB KX Ln
attribute [go_sem] OO OU Lm I8 Hz Ic EK KN Jr ML K4
attribute [go_sem] Hr NW bU St.frz zF Np QU NK E7 bv am dG sV AV.cells over ba c9 An dk dh AM dn bC cG um lJ jd Kk Wc GD OB eL bh.boundOf aS vY eF EA MK.val
attribute [go_sem ↓] UT Nc Vs Oc NJ Qr IA NF NM
attribute [go_sem] fZ M7 SQ Lj Se
open Go.RowKit Go.WideShapes
inductive TS where
 |int (k:IntKind)
 |bool
 |str
 |slice (l:List TS)
inductive BO:TS→PC→Prop
 |int {k:IntKind} {n:Int} (h:(Lit.int k n).wf=true):BO (.int k) (.val (.int k n))
 |bool {b:Bool}:BO .bool (.val (.bool b))
 |str {s:ByteArray} (h:s.size≤maxLen):BO .str (.val (.string s))
 |slice {l:List TS} {rows:List (List PC)} (hm:rows.length≤maxLen) (hl: ∀r∈rows,r.length=l.length) (h: ∀(r:List PC),r∈rows→ ∀(i:Nat) s p,l[i]? =some s→r[i]? =some p→BO s p):BO (.slice l) (.slice rows)
def nr (l:List TS) (ps:List PC):Prop:=ps.length=l.length∧ ∀(i:Nat) s p,l[i]? =some s→ps[i]? =some p→BO s p
theorem nr.append {l l':List TS} {ps ps':List PC} (h:nr l ps) (h':nr l' ps'):nr (l++l') (ps++ps'):=by
 refine⟨by simp[h.1,h'.1],λi s p hs hp=> ?_⟩
 by_cases hi:i<l.length
 ·rw[List.getElem?_append_left hi]at hs
  rw[List.getElem?_append_left (by rw[h.1];exact hi)]at hp
  exact h.2 i s p hs hp
 ·rw[List.getElem?_append_right (by omega)]at hs
  rw[List.getElem?_append_right (by rw[h.1];omega),h.1]at hp
  exact h'.2 _ s p hs hp
theorem nr.one {s:TS} {p:PC} (h:BO s p):nr [s] [p]:=by
 refine⟨rfl,λi s' p' hs hp=> ?_⟩
 cases i with
 |zero=>simp at hs hp;subst hs;subst hp;exact h
 |succ i=>simp at hs
def Oe (P:Program) (f:TypeId→Option (List TS)):List Field→Nat→Nat→Option (List TS)
 | [],k,m=>if k=m then some []else none
 |fd::r,k,m=>if fd.offset=k then match f fd.type with
  |some l=>if l.length=P.cellsOf fd.type then match Oe P f r (k+l.length) m with
   |some l'=>some (l++l')
   |none=>none else none
  |none=>none else none
def K9 (P:Program):Nat→TypeId→Option (List TS)
 |0,_=>none
 |n+1,t=>match P.underlying t with
  |some (.int k)=>some [.int k]
  |some .bool=>some [.bool]
  |some .string=>some [.str]
  |some (.slice e)=>match K9 P n e with
   |some l=>if l.length=P.cellsOf e then some [.slice l]else none
   |none=>none
  |some (.struct fs)=>Oe P (K9 P n) fs.toList 0 (P.cellsOf t)
  |_=>none
theorem Ho {X:Type} {Q:Nat→X→Prop}: ∀{n:Nat},(∀i,i<n→ ∃x,Q i x)→ ∃l:List X,l.length=n∧ ∀(i:Nat) x,l[i]? =some x→Q i x
 |0,_=>⟨[],rfl,λi x h=>by simp at h⟩
 |n+1,h=>by
  obtain⟨l,h1,h2⟩:=Ho (n:=n) λi hi=>h i (by omega)
  obtain⟨x,hx⟩:=h n (by omega)
  refine⟨l++ [x],by simp[h1],λi y hy=> ?_⟩
  by_cases hi:i<l.length
  ·rw[List.getElem?_append_left hi]at hy
   exact h2 i y hy
  ·rw[List.getElem?_append_right (by omega)]at hy
   have:i=n:=by
    have:=(List.getElem?_eq_some_iff.1 hy).1
    simp at this
    omega
   subst this
   simp[h1]at hy
   subst hy
   exact hx
section
variable {H : Type} {enc : TypeId × Value → H} {P : Program} {W : World} {base : Nat} {sp : Nat → Bool} {H3 : Bool}
abbrev GF:Nat→Prop:= λ_=>True
theorem C2 {f:TypeId→Option (List TS)} {n:Nat} {cs:List Value} (ih: ∀t l cs x,f t=some l→DataW.trod enc P W base sp H3 n t cs=some x→ ∃ps,aJ (bH W GF) ps cs∧nr l ps):
  ∀{fs:List Field} {k m:Nat} {l:List TS},Oe P f fs k m=some l→cs.length=m→(∀fd∈fs,∃x,DataW.trod enc P W base sp H3 n fd.type ((cs.drop fd.offset).take (P.cellsOf fd.type))=some x)→
   ∃ps,aJ (bH W GF) ps (cs.drop k)∧nr l ps
 |[],k,m,l,h,hm,_=>by
  unfold Oe at h
  split at h
  ·cases h
   refine⟨[], ?_,rfl,λi s p hs=>by simp at hs⟩
   rw[List.drop_eq_nil_of_le (by omega)]
   exact .nil
  ·cases h
 |fd::fs,k,m,l,h,hm,hx=>by
  unfold Oe at h
  split at h
  ·rename_i e
   split at h
   ·rename_i l1 h1
    split at h
    ·rename_i hc
     split at h
     ·rename_i l2 h2
      cases h
      obtain⟨x,hx1⟩:=hx fd List.mem_cons_self
      obtain⟨p1,g1,g2⟩:=ih _ _ _ _ h1 hx1
      obtain⟨p2,g3,g4⟩:=C2 ih h2 hm λfd h=>hx fd (List.mem_cons_of_mem _ h)
      refine⟨p1++p2, ?_,g2.append g4⟩
      have:cs.drop k=(cs.drop k).take (P.cellsOf fd.type)++cs.drop (k+l1.length):=by
       rw[hc,←List.drop_drop,List.take_append_drop]
      rw[this]
      subst e
      exact g1.append g3
     ·cases h
    ·cases h
   ·cases h
  ·cases h
theorem yg: ∀{fuel sf:Nat} {t:TypeId} {l:List TS} {cs:List Value} {x:DataW H×List MemPlace},K9 P sf t=some l→DataW.trod enc P W base sp H3 fuel t cs=some x→ ∃ps,aJ (bH W GF) ps cs∧nr l ps
 |fuel,0,t,l,cs,x,h,_=>by cases h
 |fuel,sf+1,t,l,cs,x,h,hr=>by
  unfold K9 at h
  split at h
  ·rename_i k ht
   cases h
   obtain⟨n,rfl,_,hw⟩:=DataW.trod_int ht hr
   exact⟨[.val (.int k n)],.cons (.val rfl) .nil,.one (.int hw)⟩
  ·rename_i ht
   cases h
   obtain⟨b,rfl,_⟩:=DataW.trod_bool ht hr
   exact⟨[.val (.bool b)],.cons (.val rfl) .nil,.one .bool⟩
  ·rename_i ht
   cases h
   obtain⟨s,rfl,_,hm⟩:=DataW.trod_string ht hr
   exact⟨[.val (.string s)],.cons (.val rfl) .nil,.one (.str hm)⟩
  ·rename_i e ht
   split at h
   ·rename_i l' Zd
    split at h
    ·rename_i hc
     cases h
     rcases DataW.trod_slice ht hr with⟨rfl,_⟩|⟨a,len,cap,elems,rest,n,_,rfl,_,_,ZF,hmx,HK,ZB,_,_⟩
     ·exact⟨[.slice []],.cons (.slice (sz:=0) (λ_ _=>undef) rfl (Nat.le_refl _) (by simp) (λi row h=>by simp at h) (λi row j p h=>by simp at h) (λi row j p h=>by simp at h)) .nil,.one (.slice (by simp) (λr h=>by cases h) (λr h=>by cases h))⟩
     ·have hC: ∀i,i<len→ ∃x:List PC×List Value,W.cells? base (a.add (i*P.cellsOf e)) (P.cellsOf e)=some x.2∧aJ (bH W GF) x.1 x.2∧nr l' x.1:=by
       intro i hi
       have h1:=ZB i hi
       rw[List.getElem?_eq_getElem (by omega)]at h1
       obtain⟨cs',h2,h3⟩:=Option.bind_eq_some_iff.1 h1
       obtain⟨ps,h4,h5⟩:=yg Zd h3
       exact⟨(ps,cs'),h2,h4,h5⟩
      obtain⟨L,hL,hQ⟩:=Ho hC
      have row: ∀(i:Nat) r,(L.map Prod.fst)[i]? =some r→ ∃c,L[i]? =some (r,c)∧W.cells? base (a.add (i*P.cellsOf e)) (P.cellsOf e)=some c∧aJ (bH W GF) r c∧nr l' r:=by
       intro i r hr
       rw[List.getElem?_map]at hr
       obtain⟨y,hy,rfl⟩:=Option.map_eq_some_iff.1 hr
       exact⟨y.2,hy,hQ i y hy⟩
      unfold maxLen at hmx
      refine⟨[.slice (L.map Prod.fst)],.cons (.slice (sz:=P.cellsOf e) (λi j=>(((L[i]?).map Prod.snd).getD []).getD j undef) (by simp[hL]) ZF (by omega) ?_ ?_ ?_) .nil,.one (.slice (by unfold maxLen;simp[hL];omega) ?_ ?_)⟩
      ·intro i r hr
       obtain⟨c,_,_,_,h5⟩:=row i r hr
       rw[h5.1,hc]
      ·intro i r j p hr hp
       obtain⟨c,h1,h2,h3,h5⟩:=row i r hr
       obtain⟨v,hv,_⟩:=h3.get hp
       obtain⟨_,h6,h7⟩:=World.cells?_some h2
       have hj:j<P.cellsOf e:=by
        have:=(List.getElem?_eq_some_iff.1 hv).1
        omega
       have h8:=h7 j hj
       rw[hv]at h8
       obtain⟨b,off,spot⟩:=a
       have ZW:spot=none:=by
        have hi0:0<L.length:=by
         have:=(List.getElem?_eq_some_iff.1 h1).1
         omega
        obtain⟨g1,_,_⟩:=hQ 0 L[0] (List.getElem?_eq_getElem hi0)
        obtain⟨_,g2,g3⟩:=World.cells?_some g1
        have g4:=g3 0 (by omega)
        rw[List.getElem?_eq_getElem (by omega)]at g4
        simpa[Addr.add]using World.cell?_spot g4
       subst ZW
       rw[add_plain,add_plain]at h8
       refine⟨b,off,rfl,trivial, ?_⟩
       rw[←Nat.add_assoc,h8]
       simp[h1,hv]
      ·intro i r j p hr hp
       obtain⟨c,h1,h2,h3,h5⟩:=row i r hr
       obtain⟨v,hv,Zp⟩:=h3.get hp
       simpa[h1,hv]using Zp
      ·intro r hr
       obtain⟨i,hi⟩:=List.mem_iff_getElem?.1 hr
       obtain⟨c,_,_,_,h5⟩:=row i r hi
       exact h5.1
      ·intro r hr
       obtain⟨i,hi⟩:=List.mem_iff_getElem?.1 hr
       obtain⟨c,_,_,_,h5⟩:=row i r hi
       exact h5.2
    ·cases h
   ·cases h
  ·rename_i fs ht
   obtain⟨xs,n,_,_,hl,HK,hf⟩:=DataW.trod_struct ht hr
   have:=C2 (n:=n) (λt l cs x h hx=>yg (sf:=sf) h hx) h hl λfd hfd=>by
    obtain⟨i,hi⟩:=List.mem_iff_getElem?.1 hfd
    have h1:=hf i fd (by simpa using hi)
    have hi':i<xs.length:=by
     have:=(List.getElem?_eq_some_iff.1 hi).1
     simp at this
     omega
    exact⟨xs[i],by rw[h1,List.getElem?_eq_getElem hi']⟩
   simpa using this
  ·cases h
def AK (P:Program) (t:TypeId):Bool:=match P.underlying t with
 |some (.struct _)=>true
 |_=>false
def Sb (row:Bool) (ps:List PC):AV:=if row then .agg (ps.map .pure)else match ps with
 |p::_=> .c (.pure p)
 | []=> .top
theorem LA {r:Reach} {b0:Nat} {t:TypeId} {v:Value} {d:DataW H} {p:List MemPlace} {sf:Nat} {l:List TS} (hs:K9 P sf t=some l) (Z:Value.okWide P W r b0 t v) (h:DataW.Trod enc P W base sp H3 t v d p):
  ∃ps,nr l ps∧aK W GF (λ_=>undef) 0 (Sb (AK P t) ps) v:=by
 obtain⟨fuel,hf⟩:=h
 obtain⟨ps,h1,h2⟩:=yg hs hf
 refine⟨ps,h2, ?_⟩
 have single: ∀{v:Value},v.cells= #[v]→aJ (bH W GF) ps v.cells.toList→aK W GF (λ_=>undef) 0 (Sb false ps) v:=by
  intro v hv h
  rw[hv]at h
  cases h with
  |cons h t=>exact .c (.pure h)
 cases sf with
 |zero=>cases hs
 |succ sf=>
  unfold K9 at hs
  split at hs
  ·rename_i k ht
   obtain⟨n,rfl⟩:=okWide_int ht Z
   simp only[AK,ht]
   exact single rfl h1
  ·rename_i ht
   obtain⟨n,rfl⟩:=okWide_bool ht Z
   simp only[AK,ht]
   exact single rfl h1
  ·rename_i ht
   obtain⟨n,rfl⟩:=okWide_string ht Z
   simp only[AK,ht]
   exact single rfl h1
  ·rename_i e ht
   obtain⟨a,n,c,rfl⟩:=okWide_slice ht Z
   simp only[AK,ht]
   exact single rfl h1
  ·rename_i fs ht
   obtain⟨cs,rfl,_⟩:=okWide_struct ht Z
   simp only[AK,ht]
   have h1:aJ (bH W GF) ps cs.toList:=h1
   refine .agg (aJ.of_get (by simpa using h1.length) λi x v hi hv=> ?_)
   simp only[List.getElem?_map,Option.map_eq_some_iff]at hi
   obtain⟨q,hq,rfl⟩:=hi
   obtain⟨u,hu,hr⟩:=h1.get hq
   have:u=v:=by
    rw[hv]at hu
    cases hu
    rfl
   subst this
   exact .pure hr
  ·cases hs
end
open Go.RowKit
section
variable {t : Bool} {A B : qD Prop}
theorem Gl: @gY (!t) A B= @gY t B A:=by
 cases t
 ·exact propext ⟨λh=>⟨(λe=>by cases e),λ_=>h.1 rfl⟩,λh=>⟨λ_=>h.2 rfl,(λe=>by cases e)⟩⟩
 ·exact propext ⟨λh=>⟨λ_=>h.2 rfl,(λe=>by cases e)⟩,λh=>⟨(λe=>by cases e),λ_=>h.1 rfl⟩⟩
theorem La: @gY (t==true) A B= @gY t A B:=by cases t<;>rfl
theorem K3: @gY (t==false) A B= @gY t B A:=by
 have:(t==false)= !t:=by cases t<;>rfl
 rw[this,Gl]
end
class MI (t:Bool) (p q:outParam Prop):Prop where
 pos:t=true→p
 neg:t=false→q
instance (priority:=low) testT (t:Bool):MI t (t=true) (t=false):=⟨id,id⟩
instance WD (p:Prop) [Decidable p]:MI (decide p) p (¬p):=⟨of_decide_eq_true,of_decide_eq_false⟩
instance Wx (p:Prop):MI (ni p) p (¬p):=⟨@of_decide_eq_true p (Classical.propDecidable p), @of_decide_eq_false p (Classical.propDecidable p)⟩
theorem ab {t:Bool} {p q:Prop} [T:MI t p q] {A B:qD Prop} (h1:p→A.out) (h2:q→B.out): @gY t A B:=⟨λe=>h1 (T.pos e),λe=>h2 (T.neg e)⟩
theorem Uk {p:Prop}:(ni p !=false)=ni p:=by cases ni p<;>rfl
theorem Vb {p:Prop}:(ni p !=true)= !ni p:=by cases ni p<;>rfl
theorem gz {p:Prop} (h:p):ni p=true:= @decide_eq_true p (Classical.propDecidable p) h
theorem fa {p:Prop} (h: ¬p):ni p=false:= @decide_eq_false p (Classical.propDecidable p) h
theorem VU:ni True=true:=gz trivial
theorem V9:ni False=false:=fa id
theorem Lc {p:Prop} [Decidable p]:ni p=decide p:=by by_cases h:p<;>simp[ni,h]
theorem Rv {a b:Int}:(a==b)=decide (a=b):=rfl
theorem Rr {a b:Int}:(a !=b)= !decide (a=b):=rfl
theorem aj {a b:ByteArray}:a.toList=b.toList↔a=b:=by
 constructor
 ·intro h
  rw[ByteArray.toList_eq,ByteArray.toList_eq]at h
  exact Go.WideShapes.bytes_inj h
 ·intro h;rw[h]
theorem LI {a b:ByteArray}:(a.toList==b.toList)=decide (a=b):=by
 by_cases h:a=b
 ·subst h;simp
 ·have: ¬a.toList=b.toList:= λe=>h (aj.1 e)
  simp[h,this]
theorem QV {a b:ByteArray}:(a.toList !=b.toList)= !decide (a=b):=by rw[bne,LI]
instance VW (s:ByteArray) (xs:List ByteArray):Decidable (s∈xs):=decidable_of_iff (∃x∈xs,x=s) (by simp)
theorem UG {a b:Bool}:((a==b) !=false)=(a==b):=by cases a<;>cases b<;>rfl
theorem Mp {a b:Bool}:((a==b) !=true)= !(a==b):=by cases a<;>cases b<;>rfl
theorem G3 {e sz bytes:Nat} {y:AV} {ys:List (List PC)} {σ:St} {K:qD (AV→St→Prop)} (hJ:bV sz ys) (h1:ys.length*bytes≤140737488355328) (h2:ys.length≤140737488355328)
  (hk:K.out (.c (.ref σ.nx)) {σ with mem:=(σ.nx,.arr e sz ys)::σ.mem,nx:=σ.nx+1}): @Fu e sz bytes (.c .nils) y ys σ K:=
 ⟨hJ,.inr (.inl ⟨rfl,.inl ⟨by simpa using h1,by simpa using h2,hk⟩⟩)⟩
theorem aF {e sz bytes nm:Nat} {y:AV} {rows ys:List (List PC)} {σ:St} {K:qD (AV→St→Prop)} (hf:am σ.mem nm=some (.arr e sz rows)) (zz:y≠ .c (.ref nm)) (hJ:bV sz ys) (h1:(rows.length+ys.length)*bytes≤140737488355328) (h2:rows.length+ys.length≤140737488355328)
  (hk:K.out (.c (.ref σ.nx)) {σ with mem:=(σ.nx,.arr e sz (rows++ys))::sV σ.mem nm,nx:=σ.nx+1}): @Fu e sz bytes (.c (.ref nm)) y ys σ K:=
 ⟨hJ,.inl ⟨nm,rfl,zz,rows,hf,h1,h2,hk⟩⟩
abbrev cZ {α:Type} (f:α→List PC) (xs:List α):PC:= .slice (xs.map f)
abbrev bZ {α:Type} (f:α→List PC) (xs:List α):AV:= .c (.pure (cZ f xs))
abbrev pI (n:Int):PC:= .val (.int .i64 n)
abbrev pS (s:ByteArray):PC:= .val (.string s)
abbrev pB (b:Bool):PC:= .val (.bool b)
theorem ac {α β:Type} {f:α→β} {xs:List α} {k:Nat} (h:k<xs.length):(xs.map f)[k]? =some (f xs[k]):=by simp[h]
open Go.RowKit
def oN (rows:List (List PC)):Prop:= ∀r∈rows,∀p∈r,∃v,p= .val v
theorem aO.flat {w w':World} {V V':Nat→Prop} {sz:Nat} {rows:List (List PC)} {cells:List Value} (h:aO w V sz rows cells) (hf:oN rows):aO w' V' sz rows cells:=by
 refine⟨h.1,h.2.1,λi row j p hi hj=> ?_⟩
 obtain⟨v,hv,hp⟩:=h.2.2 i row j p hi hj
 obtain⟨u,rfl⟩:=hf row (List.mem_of_getElem? hi) p (List.mem_of_getElem? hj)
 refine⟨v,hv, ?_⟩
 cases hp with
 |val h=>exact .val h
def mh (P:Program) (f:FuncId) (args:List AV) (e sz:Nat) (rows:List (List PC)):Prop:=
 la P f∧
 ∀(w:World) (U:Nat→Prop) (vs:Array Value),qQ w→aJ (aK w U (λ_=>undef) 0) args vs.toList→
  Calls P f vs w λen w'=> ∃v cells,en= .returned v∧0<sz∧w'.ownsRow w.heap.size e sz v rows.length cells∧rows.length≤9223372036854775807∧aO w' (λ_=>False) sz rows cells∧Below w.heap.size w w'
def UR (rs:List AR) (e sz:Nat) (rows:List (List PC)):bk→St→Prop
 | .exit _,_=>False
 | .ret,σ=>kb σ rs [] λvs=> ∃nm,fZ vs= .c (.ref nm)∧am σ.mem nm=some (.arr e sz rows)
 | .normal,σ=>kb σ rs [] λvs=> ∃nm,fZ vs= .c (.ref nm)∧am σ.mem nm=some (.arr e sz rows)
theorem pd {w:World} {B B' e sz n:Nat} {v:Value} {cells:List Value} (h:w.ownsRow B e sz v n cells) (hB:B'≤B):w.ownsRow B' e sz v n cells:=by
 refine⟨h.1, ?_⟩
 rcases h.2 with h|⟨g,cap,cur,e,hg,h⟩
 ·exact .inl h
 ·exact .inr ⟨g,cap,cur,e,Nat.le_trans hB hg,h⟩
theorem mh.of {P:Program} {f:FuncId} {nt:Nat} {body:ah} {rs:List AR} {args:List AV} {e sz:Nat} {rows:List (List PC)} (hf:aq P f nt body rs) (HK:args.length≤nt) (ZX:oN rows) (h:fL args→AW P nt body ⟨aS args 0, [],0,0⟩ (UR rs e sz rows)):mh P f args e sz rows:=by
 obtain⟨fn,c,h1,h2,h3,rfl,h5,h6⟩:=hf.is
 refine⟨⟨fn,h1,by rw[h2];rfl,h3⟩,λw U vs hG Y=> ?_⟩
 have HA:vs.size=args.length:=by rw[←Array.length_toList];exact Y.length.symm
 have hs:bl w (Gh.of U) ⟨aS args 0, [],0,0⟩ (λ_=>undef) {tmps:=vs++Array.replicate (fn.ntmps-vs.size) undef,defers:= []} w:=by
  refine⟨λt=> ?_,⟨rfl,hG⟩,(λnm bx hn=>by cases hn),(λnm bx hn=>by cases hn),(λnm nm' b1 b2 b hn=>by cases hn),Below.refl _ _,trivial,⟨Nat.le_refl _,λ_ h=>absurd h (Nat.not_lt_zero _)⟩⟩
  have H2: ∀{x:AV} {v:Value},aK w U (λ_=>undef) 0 x v→aK w (aB w.heap.size (Gh.of U) (λ_=>undef) []) (λ_=>undef) 0 x v:= λh=>
   h.mono (λb _ h=>⟨.inl h,λnm bx hn=>by cases hn⟩) (λ_ _ _=>rfl) (λ_ _=>rfl) (Nat.le_refl _)
  rcases jv (vs:=vs.toList) (k:=0) Y t with h|h
  ·by_cases O:t<vs.size
   ·have e:(vs++Array.replicate (fn.ntmps-vs.size) undef).getD t undef=(vs.toList[t-0]?).getD undef:=by
     simp[Array.getD_eq_getD_getElem?,Array.getElem?_append,O]
    rw[e]
    exact H2 h
   ·have:aL (aS args 0) t= .top:=by
     have key: ∀(l:List AV) (j:Nat),j+l.length≤t→aL (aS l j) t= .top:=by
      intro l
      induction l with
      |nil=>intro j _;rfl
      |cons x l ih=>
       intro j hj
       simp only[List.length_cons]at hj
       show(if j=t then x else aL (aS l (j+1)) t)=_
       rw[if_neg (by omega)]
       exact ih _ (by omega)
     exact key args 0 (by omega)
    show aK _ _ _ _ (aL (aS args 0) t) _
    rw[this]
    exact .top
  ·show aK _ _ _ _ (aL (aS args 0) t) _
   rw[h]
   exact .top
 have HE:(vs++Array.replicate (fn.ntmps-vs.size) undef).size=fn.ntmps:=by simp;omega
 have fin: ∀{a':Act} {w':World} {σ':St} {ι':Pl},(kb σ' rs [] λvs=> ∃nm,fZ vs= .c (.ref nm)∧am σ'.mem nm=some (.arr e sz rows))→bl w (Gh.of U) σ' ι' a' w'→ ∃v,(results fn a'.tmps).run P w'= .ok v w'∧
   ∃v' cells,Ending.returned v= .returned v'∧0<sz∧w'.ownsRow w.heap.size e sz v' rows.length cells∧rows.length≤9223372036854775807∧aO w' (λ_=>False) sz rows cells∧Below w.heap.size w w':=by
  intro a' w' σ' ι' HL J
  obtain⟨vs',us',g1,g2,nm,g3,g4⟩:=lm J (us:= []) h6 HL .nil
  have hp:=qY (by simpa using g1)
  rw[g3]at hp
  have hv:=sW hp
  obtain⟨cells,k0,k1,k2,k3⟩:=J.box _ _ g4
  refine⟨(if h:us'.toArray.size=1 then us'.toArray[0]else .tuple us'.toArray), ?_,_,cells,rfl,k0, ?_,k2,k3.flat ZX,J.below⟩
  ·rw[mg,Array.mapM_eq_mapM_toList]
   simp[g2]
  ·rw[hv];exact k1
 refine tC h1 h2 (h (tg Y) c h5 w (Gh.of U) none [] _ _ w (λ_ e=>by cases e) hs HE) (λi σ' h=>h) ?_
 intro e a' w' σ' ι' hq J
 cases e with
 |normal=>exact fin hq J
 |exit i=>exact hq.elim
 |ret=>exact fin hq J
theorem mh.inner {P:Program} {f:FuncId} {args pargs:List AV} {e sz:Nat} {rows:List (List PC)} {mem:List (Nat×bm)} {nx:Nat} (h:mh P f pargs e sz rows) (ZX:oN rows) (hp:ba mem args=some pargs):
  bb P f args mem nx (.c (.ref nx)) ((nx,.arr e sz rows)::mem) (nx+1):=by
 refine⟨h.1,λw0 U ι w vs hs hr=> ?_⟩
 have hB:=hs.below.size
 refine(h.2 w (λ_=>True) vs hs.glob (js (σ:=⟨[],mem,nx,nx⟩) (V:= λ_=>True) hs hr (λ_ _=>trivial) (.inr λ_ _=>trivial) hp)).mono ?_
 rintro en w' ⟨v,cells,rfl,h0,q7,hm,ZY,Zq⟩
 obtain⟨ι',k1,k2,k3,k4⟩:=hs.newBox (pv:=v) (bx:= .arr e sz rows) Zq (λb hb=>by
  rcases q7.2 with⟨e,_⟩|⟨g,cap,cur,e,hg,_⟩
  ·rw[e]at hb;cases hb
  ·rw[e]at hb
   simp[bc]at hb
   omega) (λι' e1 e2 hI=>⟨cells,h0,by rw[e2];exact pd q7 hB,hm,ZY.flat ZX⟩)
 refine⟨v,ι',rfl,k1, ?_⟩
 rw[←k2]
 refine .c (.ref (Nat.lt_succ_self _) ?_)
 rw[k2]
 rcases q7.2 with⟨e,_⟩|⟨g,cap,cur,e,_⟩
 ·exact⟨_,_,_,e⟩
 ·exact⟨_,_,_,e⟩
attribute [go_sem ↓] UR
def LO (P:Program) (f:FuncId):Option (Nat×ah×List AR):=
 match P.funcs[f]? with
 |some fn => match fn.name == "runtime.NumGoroutine" with
  |false=>match fn.body with
   |some c=>match dq P fn.ntmps c with
    |some b=>match Da P fn.results.toList with
     |some rs=>some (fn.ntmps,b,rs)
     |none=>none
    |none=>none
   |none=>none
  |true=>none
 |none=>none
theorem ag {P:Program} {f:FuncId} {nt:Nat} {c:ah} {rs:List AR} (h:LO P f=some (nt,c,rs)):aq P f nt c rs:=by
 unfold LO at h
 split at h
 ·rename_i fn e1
  split at h
  ·rename_i e2
   split at h
   ·rename_i c0 e3
    split at h
    ·rename_i b e4
     split at h
     ·rename_i rs' e5
      cases h
      exact⟨fn,c0,e1,e3,e2,rfl,e4,e5⟩
     ·cases h
    ·cases h
   ·cases h
  ·cases h
 ·cases h
def WB (P:Program) (f:FuncId):ah:=match LO P f with
 |some (_,c,_)=>c
 |none=> .skip
theorem cI {P:Program} {f:FuncId} {nt:Nat} {rs:List AR} (h:LO P f=some (nt,WB P f,rs):=by kernel_rfl):aq P f nt (WB P f) rs:=ag h
abbrev o_ (d:Nat) (x:dV):AG:=⟨some d,none,x⟩
abbrev m_ (d s:Nat):AG:=⟨some d,none,.mv (.t s)⟩
abbrev u_ (x:dV):AG:=⟨none,none,x⟩
abbrev k_ (n:Int):AX:= .k (.c (.pure (.val (.int .i64 n))))
abbrev i_ (n:Int):AC:= .pure (.val (.int .i64 n))
abbrev f_ (n:FuncId):AX:= .k (.c (.clo n []))
abbrev c_ (f:AX) (l:List AX):dV:= .call true true f l
abbrev b_ (b:Bool):AX:= .k (.c (.pure (.val (.bool b))))
abbrev g_ (d t:Nat) (w:Bool) (x:dV):AG:=⟨some d,some (t,w),x⟩
abbrev r_ (l:List AG):ah:= .region l false
abbrev l_ (n:Nat):dV:= .load none (.t n)
abbrev L_ (k n:Nat):dV:= .load (some k) (.t n)
abbrev a_ (k n:Nat):dV:= .fieldA k (.t n)
abbrev x_ (k a b:Nat):dV:= .idxA k (.t a) (.t b)
abbrev S_ (k a b:Nat):dV:= .store k (.t a) (.t b)
abbrev e_ (n k:Nat):dV:= .ext (.t n) k
abbrev z_ (n:Nat):dV:= .len (.t n)
abbrev w_ (n:Int):dV:= .mv (k_ n)
abbrev j_ (n:Nat):dV:= .bin .add (.t n) (k_ 1)
abbrev q_ (a b:Nat):dV:= .bin .lss (.t a) (.t b)
abbrev Q_ (o:BinOp) (a:Nat) (k:Int):dV:= .bin o (.t a) (k_ k)
abbrev C_ (f:FuncId) (l:List AX):dV:= .call true true (f_ f) l
abbrev P_ (d:Nat) (x:dV):Bool×AG:=(false,o_ d x)
abbrev M_ (d s:Nat):Bool×AG:=(false,m_ d s)
abbrev U_ (x:dV):Bool×AG:=(false,u_ x)
abbrev s_ (l:List AG) (c:ah):ah:= .seq (.region l false) c
abbrev y_ (n:Nat) (c d:ah):ah:= .cond (.t n) c d
abbrev X_ (n k:Nat):ah:= .cond (.t n) .skip (.exit k)
attribute [go_sem ↓] List.map_cons List.map_nil
attribute [go_sem] true_and and_true List.nil_append Ha Int.toNat_natCast List.length_map List.length_cons List.length_nil Option.some.injEq not_true_eq_false not_false_eq_true Gl La K3 Rv Rr LI QV UG Mp Uk Vb VU V9 Bool.false_eq_true List.cons_append decide_true decide_false Nat.add_zero Nat.zero_add List.drop_succ_cons List.drop_zero List.take_succ_cons List.take_zero Option.map_some Option.map_none List.getElem?_cons_zero List.getElem?_cons_succ eq_self beq_self_eq_true Bool.bne_false Bool.bne_true Bool.true_beq Bool.false_beq
end Go.Abs
