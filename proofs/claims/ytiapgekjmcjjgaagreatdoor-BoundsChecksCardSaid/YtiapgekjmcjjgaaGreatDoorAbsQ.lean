import Derived.Test.YtiapgekjmcjjgaaGreatDoorAbsP
import Derived.LoopN
import Derived.RangeFuncLeaves
import Derived.RangeFuncNested
import Derived.OrdersIn
import Derived.LoopNIn
import Derived.ChangeArms
import Derived.WideShapes
set_option linter.unusedVariables false
set_option linter.unusedSimpArgs false
namespace Go.Abs
open Go.RowKit
section
variable {P : Program} {o : Oper} {a : Act} {w w' w0 : World} {U : Gh} {ι : Pl} {σ : St} {next : Act → World → Prop} {Q : Exit → Act → World → Prop} {K : AV → St → Prop}
theorem um {α:Type} {x:Option α} {p:α→Bool} (h:x.map p=some true): ∃z,x=some z∧p z=true:=by
 cases x with
 |none=>cases h
 |some z=>exact⟨z,rfl,by simpa using h⟩
theorem LK {op:BinOp} {t t':TypeId} {x y:Operand} {p q:AX} {neg:Bool} (C:(op= .eql∧neg=false)∨(op= .neq∧neg=true)) (ht:KX P t=true) (hq:EE q=true) (ho:o.op= .binOp op t x y t') (hx:aL x=some p) (hy:aL y=some q)
  (h:bR P (.snil neg p) σ K) (hs:bV w0 U σ ι a w) (hn:fL w0 U a o K next):o.wp P a w next Q:=by
 have r1:=aB hx hs
 have r2:=aB hy hs
 unfold EE at hq
 split at hq
 ·have e2:a.eval y= .slice none 0 0:=rO r2
  unfold KX at ht
  split at ht
  ·rename_i et hT
   have key: ∀(ad:Option Addr) (n c:Nat),a.eval x= .slice ad n c→K (.c (.pure (.val (.bool (ad.isNone !=neg))))) σ→o.wp P a w next Q:=by
    intro ad n c hu hk
    have hr:(Op.equal t (.slice ad n c) (.slice none 0 0)).run P w= .ok ad.isNone w:=by
     show(Op.equalIn (9999+1) t (.slice ad n c) (.slice none 0 0)).run P w= .ok ad.isNone w
     unfold Op.equalIn
     cases ad<;>simp[run_underlying hT]
    have hg:(eqGuard op t x y (.slice ad n c) (.slice none 0 0)).run P w= .ok () w:=by unfold eqGuard;cases op<;>simp
    refine aG (u:= .bool (ad.isNone !=neg)) (w':=w) ?_ (hn _ σ ι _ w hk hs (iB _))
    simp only[execOp,ho,hu,e2]
    rw[Sem.run_bind,Sem.run_bind,hg]
    rcases C with⟨rfl,rfl⟩|⟨rfl,rfl⟩<;>simp[binOp,hr]
   have rows: ∀{V:Nat→Prop} {rs:List (List PC)} {ad:Option Addr} {n c:Nat},a.eval x= .slice ad n c→co w V (.slice rs) (.slice ad n c)→ @Ei rs ⟨K (.c (.pure (.val (.bool (!neg))))) σ⟩ ⟨K (.c (.pure (.val (.bool neg)))) σ⟩→o.wp P a w next Q:=by
    intro V rs ad n c hu hr z3
    cases ad with
    |some ad=>exact key _ _ _ hu (by have:=z3.2;cases neg<;>exact this)
    |none=>
     refine key _ _ _ hu ?_
     have:=z3.1 (λr Zo=>by
      cases hr with
      | @slice sz _ _ _ _ g hn hc hm hr HF hp=>
       obtain⟨k,hk⟩:=List.mem_iff_getElem?.1 Zo
       cases r with
       |nil=>rfl
       |cons p0 r=>
        obtain⟨b,off,e,_⟩:=HF k _ 0 p0 hk rfl
        cases e)
     cases neg<;>exact this
   simp only[bR]at h
   split at h
   ·rename_i e
    rw[e]at r1
    generalize hu:a.eval x=u at r1
    cases r1 with
    |c r1=>
     cases r1
     exact key _ _ _ hu (by cases neg<;>exact h)
   ·rename_i rs e
    rw[e]at r1
    generalize hu:a.eval x=u at r1
    cases r1 with
    |c r1=>
     cases r1 with
     |pure r1=>
      have r1':=r1
      cases r1
      exact rows hu r1' h
   ·rename_i rs e
    rw[e]at r1
    generalize hu:a.eval x=u at r1
    cases r1 with
    |c r1=>
     cases r1 with
     |tsl r1=>exact rows hu r1 h
   ·rename_i nm e
    rw[e]at r1
    split at h
    ·rename_i rs hf
     have hv:=vc r1
     obtain⟨cells,k0,k1,k2,k3⟩:=hs.box _ _ hf
     rcases k1.2 with⟨e0,e1⟩|⟨g,cap,cur,e0,_⟩
     ·rw[e0]at hv
      refine key _ _ _ hv ?_
      have hz:rs= []:=List.eq_nil_of_length_eq_zero (by simpa using e1)
      subst hz
      have:=h.1 (by simp)
      cases neg<;>exact this
     ·rw[e0]at hv
      refine key _ _ _ hv ?_
      have:=h.2
      cases neg<;>exact this
    ·exact h.elim
   ·exact h.elim
  ·cases ht
 ·cases hq
set_option maxHeartbeats 1000000 in
theorem G7 {dr:Bool} {ao:fq} (hc:bZ P dr o.op=some ao) (h:bR P ao σ K) (hs:bV w0 U σ ι a w) (hn:fL w0 U a o K next):o.wp P a w next Q:=by
 cases C:o.op with
 |move x=>
  rw[C]at hc
  simp only[bZ,Option.map_eq_some_iff]at hc
  obtain⟨y,hy,rfl⟩:=hc
  exact RX (.inl C) hy h hs hn
 |assign x=>
  rw[C]at hc
  simp only[bZ,Option.map_eq_some_iff]at hc
  obtain⟨y,hy,rfl⟩:=hc
  exact RX (.inr C) hy h hs hn
 |pick c x y=>
  rw[C]at hc
  simp only[bZ]at hc
  split at hc
  ·cases hc
   exact Ro C ‹_› ‹_› ‹_› h hs hn
  ·cases hc
 |alloc t=>
  rw[C]at hc
  simp only[bZ,Option.map_eq_some_iff,Option.bind_eq_some_iff]at hc
  obtain⟨v,⟨z,h1,h2⟩,rfl⟩:=hc
  exact OA C h1 h2 h hs hn
 |box t x=>
  rw[C]at hc
  simp only[bZ,Option.map_eq_some_iff]at hc
  obtain⟨y,hy,rfl⟩:=hc
  exact Sv C hy h hs hn
 |build t parts=>
  rw[C]at hc
  simp only[bZ]at hc
  split at hc
  ·cases hc
   exact On C ‹_› ‹_› h hs hn
  ·cases hc
 |buildSlice t n parts=>
  rw[C]at hc
  simp only[bZ]at hc
  split at hc
  ·split at hc
   ·rename_i hJ
    obtain⟨h1,h2,h3,h4⟩:=hJ
    obtain⟨z,hz,HT⟩:=um h4
    cases hc
    split at h
    ·exact JX C ‹_› ‹_› h1 h2 h3 hz (of_decide_eq_true HT) h hs hn
    ·exact Mp C ‹_› ‹_› h1 h2 h3 hz (of_decide_eq_true HT) h hs hn
   ·cases hc
  ·cases hc
 |load t p=>
  rw[C]at hc
  simp only[bZ]at hc
  split at hc
  ·cases hc
   exact Q0 C ‹_› ‹_› h hs hn
  ·cases hc
 |store t p v=>
  rw[C]at hc
  simp only[bZ]at hc
  split at hc
  ·cases hc
   exact OP C ‹_› ‹_› ‹_› h hs hn
  ·cases hc
 |binOp op t x y t'=>
  rw[C]at hc
  simp only[bZ]at hc
  split at hc
  ·rename_i p q h1 h2
   split at hc
   ·split at hc
    ·cases hc
     rename_i hb
     unfold ES at hb
     split at hb
     ·exact NB (.inl ⟨rfl,rfl⟩) ‹_› C h1 h2 h hs hn
     ·cases hb
    ·split at hc
     ·simp only[Option.map_eq_some_iff]at hc
      obtain⟨l,hl,rfl⟩:=hc
      exact Ny (.inl ⟨rfl,rfl⟩) ‹_› hl C h1 h2 h hs hn
     split at hc
     ·split at hc
      ·cases hc
       exact Lb (.inl ⟨rfl,rfl⟩) ‹_› ‹_› C h1 h2 h hs hn
      ·cases hc
     split at hc
     ·split at hc
      ·cases hc
       exact LK (.inl ⟨rfl,rfl⟩) ‹_› ‹_› C h1 h2 h hs hn
      ·cases hc
     ·cases hc
      exact J2 C h1 h2 h hs hn
   ·split at hc
    ·cases hc
     rename_i hb
     unfold ES at hb
     split at hb
     ·exact NB (.inr ⟨rfl,rfl⟩) ‹_› C h1 h2 h hs hn
     ·cases hb
    ·split at hc
     ·simp only[Option.map_eq_some_iff]at hc
      obtain⟨l,hl,rfl⟩:=hc
      exact Ny (.inr ⟨rfl,rfl⟩) ‹_› hl C h1 h2 h hs hn
     split at hc
     ·split at hc
      ·cases hc
       exact Lb (.inr ⟨rfl,rfl⟩) ‹_› ‹_› C h1 h2 h hs hn
      ·cases hc
     split at hc
     ·split at hc
      ·cases hc
       exact LK (.inr ⟨rfl,rfl⟩) ‹_› ‹_› C h1 h2 h hs hn
      ·cases hc
     ·cases hc
      exact J2 C h1 h2 h hs hn
   ·cases hc
    exact J2 C h1 h2 h hs hn
  ·cases hc
 |unOp op t x=>
  rw[C]at hc
  simp only[bZ,Option.map_eq_some_iff]at hc
  obtain⟨y,hy,rfl⟩:=hc
  exact TV C hy h hs hn
 |convert s d x=>
  rw[C]at hc
  simp only[bZ]at hc
  split at hc
  ·cases hc
   exact Qx C ‹_› ‹_› ‹_› h hs hn
  ·cases hc
 |nilCheck x=>
  rw[C]at hc
  simp only[bZ,Option.map_eq_some_iff]at hc
  obtain⟨y,hy,rfl⟩:=hc
  exact Ru C hy h hs hn
 |slice t x lo hi mx=>
  rw[C]at hc
  simp only[bZ]at hc
  split at hc
  ·rename_i e0 _ _ _ _ g0 g1 g2 g3 g4
   split at hc
   ·rename_i ZA
    split at hc
    ·rename_i hJ
     cases hc
     exact SJ C ZA ‹_› ‹_› ‹_› ‹_› hJ.2 h hs hn
    ·cases hc
   ·cases hc
  ·rename_i e0 _ _ _ g0 g1 g2 g3 g4
   cases hc
   cases mx with
   |none=>exact QN C ‹_› ‹_› ‹_› ‹_› h hs hn
   |some m=>simp[lq]at g4
  ·cases hc
 |fieldAddr s x f=>
  rw[C]at hc
  simp only[bZ]at hc
  split at hc
  ·split at hc
   ·cases hc
   ·cases hc
    exact MA C ‹_› ‹_› ‹_› h hs hn
  ·cases hc
 |field s x f=>
  rw[C]at hc
  simp only[bZ]at hc
  split at hc
  ·simp only[Option.map_eq_some_iff]at hc
   obtain⟨n,h1,rfl⟩:=hc
   exact NG C ‹_› h1 ‹_› h hs hn
  ·cases hc
 |indexAddr t x i=>
  rw[C]at hc
  simp only[bZ]at hc
  split at hc
  ·cases hc
   exact Rk C ‹_› ‹_› ‹_› h hs hn
  ·split at hc
   ·simp only[Option.map_eq_some_iff]at hc
    obtain⟨n,h1,rfl⟩:=hc
    exact RL C ‹_› h1 ‹_› ‹_› h hs hn
   ·cases hc
  ·cases hc
 |index t x i=>
  rw[C]at hc
  simp only[bZ]at hc
  split at hc
  ·split at hc
   ·cases hc
    exact RK C ‹_› ‹_› ‹_› h hs hn
   ·cases hc
  ·cases hc
 |makeSlice t l c=>
  rw[C]at hc
  simp only[bZ]at hc
  split at hc
  ·rename_i e sz bytes p q h1 h2 h3
   split at hc
   ·rename_i hJ
    obtain⟨rfl,h0,h4⟩:=hJ
    obtain⟨z,hz,HT⟩:=um h4
    simp only[Option.map_eq_some_iff,Option.bind_eq_some_iff]at hc
    obtain⟨zs,⟨z',hW,Zp⟩,rfl⟩:=hc
    rw[hz]at hW
    cases hW
    have hl:l= .tmp p:=by cases l<;>simp[aL]at h2;rw[h2]
    have ZB:c= .tmp p:=by cases c<;>simp[aL]at h3;rw[h3]
    subst hl
    subst ZB
    exact Jm C h1 h0 hz (of_decide_eq_true HT) Zp h hs hn
   ·cases hc
  ·cases hc
 |makeMap t r=>
  rw[C]at hc
  cases r with
  |none=>
   simp only[bZ]at hc
   split at hc
   ·cases hc
    exact OZ C h hs hn
   ·cases hc
  |some r=>simp[bZ]at hc
 |lookup t m k ok=>
  rw[C]at hc
  simp only[bZ]at hc
  split at hc
  ·simp only[Option.map_eq_some_iff,Option.bind_eq_some_iff]at hc
   obtain⟨zs,⟨z,hz,HT⟩,rfl⟩:=hc
   exact QZ C ‹_› hz HT ‹_› ‹_› h hs hn
  ·cases hc
 |mapUpdate t m k v=>
  rw[C]at hc
  simp only[bZ]at hc
  split at hc
  ·cases hc
   exact KY (.inl C) ‹_› ‹_› ‹_› ‹_› h hs hn
  ·cases hc
 |insert t m k v=>
  rw[C]at hc
  simp only[bZ]at hc
  split at hc
  ·cases hc
   exact KY (.inr C) ‹_› ‹_› ‹_› ‹_› h hs hn
  ·cases hc
 |extract x i=>
  rw[C]at hc
  simp only[bZ,Option.map_eq_some_iff]at hc
  obtain⟨y,hy,rfl⟩:=hc
  exact Tc C hy h hs hn
 |makeFunc fn first caps=>
  rw[C]at hc
  cases fn with
  |func f=>
   simp only[bZ]at hc
   split at hc
   ·simp only[Option.map_eq_some_iff]at hc
    obtain⟨y,hy,rfl⟩:=hc
    exact Q6 C ‹_› hy h hs hn
   ·cases hc
  |_=>simp[bZ]at hc
 |call c=>
  rw[C]at hc
  obtain⟨callee,args,argTypes⟩:=c
  cases callee with
  |value f=>
   simp only[bZ]at hc
   split at hc
   ·cases hc
    exact Qq rfl rfl C ‹_› ‹_› h hs hn
   ·cases hc
  |invoke r m=>simp[bZ]at hc
  |builtin b=>
   cases b with
   |len=>
    simp only[bZ]at hc
    split at hc
    ·split at hc
     ·cases hc
      exact Tj rfl ‹_› ‹_› C ‹_› ‹_› h hs hn
     ·cases hc
      exact Q8 rfl ‹_› ‹_› C ‹_› ‹_› h hs hn
     ·cases hc
    ·cases hc
   |min=>
    simp only[bZ]at hc
    split at hc
    ·split at hc
     ·cases hc
      exact RU (.inl ⟨rfl,rfl⟩) ‹_› C ‹_› ‹_› h hs hn
     ·cases hc
    ·cases hc
   |max=>
    simp only[bZ]at hc
    split at hc
    ·split at hc
     ·cases hc
      exact RU (.inr ⟨rfl,rfl⟩) ‹_› C ‹_› ‹_› h hs hn
     ·cases hc
    ·split at hc
     ·cases hc
      exact SL rfl ‹_› C ‹_› ‹_› ‹_› ‹_› h hs hn
     ·cases hc
    ·cases hc
   |append=>
    simp only[bZ]at hc
    split at hc
    ·split at hc
     ·rename_i Zq
      subst Zq
      split at hc
      ·split at hc
       ·rename_i hJ
        obtain⟨h0,h4⟩:=hJ
        obtain⟨z,hz,HT⟩:=um h4
        cases hc
        exact Sz rfl ‹_› ‹_› C ‹_› h0 hz (of_decide_eq_true HT) ‹_› ‹_› h hs hn
       ·cases hc
      ·cases hc
     ·cases hc
    ·cases hc
   |_=>simp[bZ]at hc
 |makeInterface t x=>
  rw[C]at hc
  cases hc
  exact h.elim
 |panic x=>
  rw[C]at hc
  cases hc
  exact h.elim
 |_=>rw[C]at hc;simp[bZ]at hc
end
open Go.RowKit
def vO (F:(AV→St→Prop)→Prop):Prop:= ∀K,F K→ ∃v σ',F (λv' τ=>v'=v∧τ=σ')∧K v σ'
theorem GK {α:Type} {o:Option α} {F:α→(AV→St→Prop)→Prop} {G:(AV→St→Prop)→Prop} (h: ∀x,vO (F x)) (h':vO G):vO λK=> @sZ _ o ⟨λx=>F x K⟩ ⟨G K⟩:= λK hK=>by
 cases o with
 |none=>
  obtain⟨v,s,h1,h2⟩:=h' K (hK.2 rfl)
  exact⟨v,s,⟨(λx e=>by cases e),λ_=>h1⟩,h2⟩
 |some x=>
  obtain⟨v,s,h1,h2⟩:=h x K (hK.1 x rfl)
  exact⟨v,s,⟨λy e=>by cases e;exact h1,(λe=>by cases e)⟩,h2⟩
theorem cm {v:AV} {σ:St}:vO λK=>K v σ:= λK h=>⟨v,σ,⟨rfl,rfl⟩,h⟩
theorem aH:vO λ_=>False:= λK h=>h.elim
theorem cY {p:Prop} {F:(AV→St→Prop)→Prop} (h:vO F):vO λK=> @db p ⟨F K⟩:= λK hK=>by
 obtain⟨v,s,h1,h2⟩:=h K hK.2
 exact⟨v,s,⟨hK.1,h1⟩,h2⟩
theorem ff {α:Type} {o:Option α} {F:α→(AV→St→Prop)→Prop} (h: ∀x,vO (F x)):vO λK=> @fU _ o ⟨λx=>F x K⟩:= λK hK=>by
 obtain⟨x,e,hK⟩:=hK
 obtain⟨v,s,h1,h2⟩:=h x K hK
 exact⟨v,s,⟨x,e,h1⟩,h2⟩
theorem Pt {t:Bool} {F G:(AV→St→Prop)→Prop} (h:vO F) (h':vO G):vO λK=> @iC t ⟨F K⟩ ⟨G K⟩:= λK hK=>by
 cases t with
 |true=>
  obtain⟨v,s,h1,h2⟩:=h K (hK.1 rfl)
  exact⟨v,s,⟨λ_=>h1,(λe=>by cases e)⟩,h2⟩
 |false=>
  obtain⟨v,s,h1,h2⟩:=h' K (hK.2 rfl)
  exact⟨v,s,⟨(λe=>by cases e),λ_=>h1⟩,h2⟩
theorem PR {op:BinOp} {k:IntKind} {a b:Int} {σ:St}:vO λK=>lA op k a b λv=>K (.c (.pure (.val v))) σ:=by
 cases op<;>simp only[lA]<;>first|exact aH|exact cY cm|exact cm
theorem Pz {op:BinOp} {a b:ByteArray} {σ:St}:vO λK=>tE op a b λv=>K (.c (.pure (.val v))) σ:=by
 cases op<;>simp only[tE]<;>first|exact aH|exact cY cm|exact cm
theorem Oi {op:BinOp} {x y:Value} {σ:St}:vO λK=>yJ op x y λv=>K (.c (.pure (.val v))) σ:=by
 unfold yJ
 split
 ·exact cY PR
 ·exact Pz
 ·exact aH
theorem BR {op:BinOp} {x y:Value} {σ:St}:vO λK=>mN op x y λv=>K (.c (.pure (.val v))) σ:=by
 unfold mN
 split
 ·refine cY ?_
  cases op<;>simp only[rh]<;>first|exact aH|exact cm
 ·exact aH
theorem DG {σ:St} {F:List AC→(AV→St→Prop)→Prop} (hF: ∀x,vO (F x)): ∀{ps:List (Nat×Nat×AX)} {acc:List AC},vO λK=>bR.buildW σ ps acc λxs=>F xs K
 | [],acc=>hF acc
 |(off,n,x)::ps,acc=>by
  simp only[bR.buildW]
  split
  ·exact cY (DG hF)
  ·exact aH
theorem By {σ:St} {sz:Nat} {F:List (List PC)→(AV→St→Prop)→Prop} (hF: ∀x,vO (F x)): ∀{ps:List AX} {acc:List (List PC)},vO λK=>bR.bsliceW σ sz ps acc λxs=>F xs K
 | [],acc=>hF acc
 |x::ps,acc=>by
  simp only[bR.bsliceW]
  split
  ·exact ff λz=>cY (By hF)
  ·exact aH
theorem xE {σ:St} {sz:Nat} {F:List (List PC)→List (Nat×bk)→(AV→St→Prop)→Prop} (hF: ∀x m,vO (F x m)): ∀{ps:List AX} {mem:List (Nat×bk)} {acc:List (List PC)},vO λK=>bR.bsliceFW σ sz ps mem acc λxs m=>F xs m K
 | [],mem,acc=>hF acc mem
 |x::ps,mem,acc=>by
  simp only[bR.bsliceFW]
  split
  ·exact ff λz=>cY (xE hF)
  ·exact aH
theorem IW {σ:St} {F:List AC→(AV→St→Prop)→Prop} (hF: ∀x,vO (F x)): ∀{ps:List AX} {acc:List AC},vO λK=>bR.mkfnW σ ps acc λxs=>F xs K
 | [],acc=>hF acc
 |x::ps,acc=>by
  simp only[bR.mkfnW]
  split
  ·exact IW hF
  ·exact aH
theorem O9 {P:Program} {g z:Bool} {f:FuncId} {args:List AV} {σ:St}:vO λK=> @qi P g z f args σ ⟨K⟩:=by
 rintro K ⟨l,σ',args',hg,hz,(⟨pargs,h1,res,h2,h4⟩|⟨h1,res,m,n,h2,h4⟩)⟩
 ·exact⟨res,σ',⟨l,σ',args',hg,hz,.inl ⟨pargs,h1,res,h2,rfl,rfl⟩⟩,h4⟩
 ·exact⟨res,_,⟨l,σ',args',hg,hz,.inr ⟨h1,res,m,n,h2,rfl,rfl⟩⟩,h4⟩
theorem QD {e sz bytes:Nat} {x y:AV} {ys:List (List PC)} {σ:St}:vO λK=> @zS e sz bytes x y ys σ ⟨K⟩:=by
 rintro K ⟨hE,h⟩
 rcases h with⟨nm,h1,h2,rows,h3,h4,h5,h6⟩|⟨h1,h|h⟩|⟨rows,h1,h2,⟨h3,h⟩|h|h⟩
 ·exact⟨_,_,⟨hE,.inl ⟨nm,h1,h2,rows,h3,h4,h5,rfl,rfl⟩⟩,h6⟩
 ·exact⟨_,_,⟨hE,.inr (.inl ⟨h1,.inl ⟨h.1,h.2.1,rfl,rfl⟩⟩)⟩,h.2.2⟩
 ·exact⟨_,_,⟨hE,.inr (.inl ⟨h1,.inr ⟨h.1,h.2.1,rfl,rfl⟩⟩)⟩,h.2.2⟩
 ·exact⟨_,_,⟨hE,.inr (.inr ⟨rows,h1,h2,.inl ⟨h3,h.1,h.2.1,rfl,rfl⟩⟩)⟩,h.2.2⟩
 ·exact⟨_,_,⟨hE,.inr (.inr ⟨rows,h1,h2,.inr (.inl ⟨h.1,h.2.1,rfl,rfl⟩)⟩)⟩,h.2.2⟩
 ·exact⟨_,_,⟨hE,.inr (.inr ⟨rows,h1,h2,.inr (.inr ⟨h.1,rfl,rfl⟩)⟩)⟩,h.2⟩
theorem Ek {P:Program} {op:fq} {σ:St} (hH:op.gcall=false):vO (bR P op σ):=by
 have eta: ∀{F:(AV→St→Prop)→Prop},vO (λK=>F K)→vO F:= λh=>h
 apply eta
 cases op<;>simp only[bR]
 case mv=>exact cm
 case pick=>split;exact Pt cm cm;exact aH
 case box=>split;exact cm;exact aH
 case load=>
  split
  ·split
   ·split
    ·split
     ·exact cm
     ·exact aH
    ·exact cY cm
   ·exact aH
  ·exact aH
 case store=>
  split
  ·split
   ·exact cY cm
   ·exact aH
  ·split
   ·exact cY (ff λz=>ff λr=>cm)
   ·exact cY (ff λr=>cm)
   ·exact aH
  ·exact aH
 case bin=>
  split
  ·split
   ·exact BR
   ·exact BR
   ·exact Oi
  ·exact aH
 case eqb=>split;exact cm;exact aH
 case eqs=>split;exact cY cm;exact aH
 case un=>split<;>first|exact cm|exact aH
 case conv=>split;exact cm;exact aH
 case fieldA=>split<;>first|exact cm|exact aH
 case field=>
  split
  ·split
   ·split
    ·exact cm
    ·exact aH
   ·exact cY cm
  ·exact aH
 case idxA=>
  split
  ·exact cY (ff λr=>cY cm)
  ·exact cY (ff λr=>cY cm)
  ·split
   ·exact cY cm
   ·exact cY cm
   ·exact aH
  ·exact aH
 case idxR=>split<;>first|exact cY cm|exact aH
 case idxS=>split;exact cY (ff λb=>cm);exact aH
 case nilc=>split<;>first|exact cm|exact aH
 case build=>exact DG λx=>cm
 case bslice=>exact By λx=>cm
 case mkslice=>split;exact cY cm;exact aH
 case slc=>
  split
  ·exact aH
  ·exact ff λrows=>ff λlo=>ff λhi=>ff λmx=>cY cm
 case slcS=>split;exact cY cm;exact aH
 case ext=>split;exact ff λv=>cm;exact aH
 case len=>
  split
  ·exact cm
  ·exact cm
  ·exact cm
  ·split
   ·exact cm
   ·exact cm
   ·exact aH
  ·exact aH
 case lenS=>split;exact cm;exact aH
 case mm=>split;exact cm;exact aH
 case mm4=>split;exact cm;exact aH
 case dead=>exact aH
 case fnil=>split;exact cm;exact cm;exact aH
 case snil=>cases hH
 case app=>exact ff λys=>QD
 case mkfn=>exact IW λx=>cm
 case call=>split;exact O9;exact aH
 case bsliceF=>exact xE λx m=>cm
 case mkmap=>exact cm
 case mget=>
  split
  ·refine ff λmk=> ?_
   split
   ·split
    ·exact cY (GK (λps=>cm) cm)
    ·exact aH
   ·exact cY (GK (λps=>cm) cm)
   ·exact aH
  ·exact aH
 case mput=>
  split
  ·refine ff λmk=> ?_
   split
   ·refine ff λys=> ?_
    split
    ·exact cY cm
    ·exact aH
   ·exact aH
  ·exact aH
theorem cg {fr fr2:List (Nat×AV)} {x:AX} (h: ∀t∈x.tmps,bc fr2 t=bc fr t):x.ev fr2=x.ev fr:=by
 cases x with
 |t n=>exact h n (by simp[AX.tmps])
 |k v=>rfl
def iP (s s2:St) (F F2:(AV→St→Prop)→Prop):Prop:= ∀K K2,(∀v,K v s→K2 v s2)→F K→F2 K2
section
variable {s s2 : St}
theorem ct {v:AV}:iP s s2 (λK=>K v s) (λK=>K v s2):= λK K2 hk h=>hk v h
theorem aO {F2:(AV→St→Prop)→Prop}:iP s s2 (λ_=>False) F2:= λK K2 hk h=>h.elim
theorem dO {p:Prop} {F F2:(AV→St→Prop)→Prop} (h:iP s s2 F F2):iP s s2 (λK=> @db p ⟨F K⟩) (λK=> @db p ⟨F2 K⟩):= λK K2 hk hK=>⟨hK.1,h K K2 hk hK.2⟩
theorem kZ {α:Type} {o:Option α} {F F2:α→(AV→St→Prop)→Prop} (h: ∀x,iP s s2 (F x) (F2 x)):iP s s2 (λK=> @fU _ o ⟨λx=>F x K⟩) (λK=> @fU _ o ⟨λx=>F2 x K⟩):= λK K2 hk hK=>by
 obtain⟨x,e,hK⟩:=hK
 exact⟨x,e,h x K K2 hk hK⟩
theorem Pe {α:Type} {o o2:Option α} (ho: ∀x,o=some x→o2=some x) {F F2:α→(AV→St→Prop)→Prop} (h: ∀x,iP s s2 (F x) (F2 x)):iP s s2 (λK=> @fU _ o ⟨λx=>F x K⟩) (λK=> @fU _ o2 ⟨λx=>F2 x K⟩):= λK K2 hk hK=>by
 obtain⟨x,e,hK⟩:=hK
 exact⟨x,ho x e,h x K K2 hk hK⟩
theorem NY {t:Bool} {F G F2 G2:(AV→St→Prop)→Prop} (h:iP s s2 F F2) (h':iP s s2 G G2):iP s s2 (λK=> @iC t ⟨F K⟩ ⟨G K⟩) (λK=> @iC t ⟨F2 K⟩ ⟨G2 K⟩):= λK K2 hk hK=>
 ⟨λe=>h K K2 hk (hK.1 e),λe=>h' K K2 hk (hK.2 e)⟩
theorem Fa {rows:List (List PC)} {F G F2 G2:(AV→St→Prop)→Prop} (h:iP s s2 F F2) (h':iP s s2 G G2):iP s s2 (λK=> @Ei rows ⟨F K⟩ ⟨G K⟩) (λK=> @Ei rows ⟨F2 K⟩ ⟨G2 K⟩):= λK K2 hk hK=>
 ⟨λe=>h K K2 hk (hK.1 e),h' K K2 hk hK.2⟩
theorem GW {α:Type} {o:Option α} {F F2:α→(AV→St→Prop)→Prop} {G G2:(AV→St→Prop)→Prop} (h: ∀x,iP s s2 (F x) (F2 x)) (h':iP s s2 G G2):iP s s2 (λK=> @sZ _ o ⟨λx=>F x K⟩ ⟨G K⟩) (λK=> @sZ _ o ⟨λx=>F2 x K⟩ ⟨G2 K⟩):= λK K2 hk hK=>
 ⟨λx e=>h x K K2 hk (hK.1 x e),λe=>h' K K2 hk (hK.2 e)⟩
theorem Oh {op:BinOp} {k:IntKind} {a b:Int}:iP s s2 (λK=>lA op k a b λv=>K (.c (.pure (.val v))) s) (λK=>lA op k a b λv=>K (.c (.pure (.val v))) s2):=by
 cases op<;>simp only[lA]<;>first|exact aO|exact dO ct|exact ct
theorem OF {op:BinOp} {a b:ByteArray}:iP s s2 (λK=>tE op a b λv=>K (.c (.pure (.val v))) s) (λK=>tE op a b λv=>K (.c (.pure (.val v))) s2):=by
 cases op<;>simp only[tE]<;>first|exact aO|exact dO ct|exact ct
theorem OX {op:BinOp} {x y:Value}:iP s s2 (λK=>yJ op x y λv=>K (.c (.pure (.val v))) s) (λK=>yJ op x y λv=>K (.c (.pure (.val v))) s2):=by
 unfold yJ
 split
 ·exact dO Oh
 ·exact OF
 ·exact aO
theorem zO {op:BinOp} {x y:Value}:iP s s2 (λK=>mN op x y λv=>K (.c (.pure (.val v))) s) (λK=>mN op x y λv=>K (.c (.pure (.val v))) s2):=by
 unfold mN
 split
 ·refine dO ?_
  cases op<;>simp only[rh]<;>first|exact aO|exact ct
 ·exact aO
theorem CZ {F F2:List AC→(AV→St→Prop)→Prop} (hF: ∀x,iP s s2 (F x) (F2 x)): ∀{ps:List (Nat×Nat×AX)} {acc:List AC},(∀t∈Be ps,bc s2.fr t=bc s.fr t)→iP s s2 (λK=>bR.buildW s ps acc λxs=>F xs K) (λK=>bR.buildW s2 ps acc λxs=>F2 xs K)
 | [],acc,h=>hF acc
 |(off,n,x)::ps,acc,h=>by
  simp only[bR.buildW]
  rw[cg λt ht=>h t (by simp[Be,ht])]
  split
  ·exact dO (CZ hF λt ht=>h t (by simp[Be,ht]))
  ·exact aO
theorem As {sz:Nat} {F F2:List (List PC)→(AV→St→Prop)→Prop} (hF: ∀x,iP s s2 (F x) (F2 x)): ∀{ps:List AX} {acc:List (List PC)},(∀t∈gV ps,bc s2.fr t=bc s.fr t)→iP s s2 (λK=>bR.bsliceW s sz ps acc λxs=>F xs K) (λK=>bR.bsliceW s2 sz ps acc λxs=>F2 xs K)
 | [],acc,h=>hF acc
 |x::ps,acc,h=>by
  simp only[bR.bsliceW]
  rw[cg λt ht=>h t (by simp[gV,ht])]
  split
  ·exact kZ λz=>dO (As hF λt ht=>h t (by simp[gV,ht]))
  ·exact aO
theorem He {F F2:List AC→(AV→St→Prop)→Prop} (hF: ∀x,iP s s2 (F x) (F2 x)): ∀{ps:List AX} {acc:List AC},(∀t∈gV ps,bc s2.fr t=bc s.fr t)→iP s s2 (λK=>bR.mkfnW s ps acc λxs=>F xs K) (λK=>bR.mkfnW s2 ps acc λxs=>F2 xs K)
 | [],acc,h=>hF acc
 |x::ps,acc,h=>by
  simp only[bR.mkfnW]
  rw[cg λt ht=>h t (by simp[gV,ht])]
  split
  ·exact He hF λt ht=>h t (by simp[gV,ht])
  ·exact aO
theorem qE {y:Option AX} (h: ∀t∈D4 y,bc s2.fr t=bc s.fr t):bR.boundOf s2 y=bR.boundOf s y:=by
 cases y with
 |none=>rfl
 |some x=>simp only[bR.boundOf,cg (x:=x) h]
theorem Kj {fr fr2:List (Nat×AV)}: ∀{xs:List AX},(∀t∈gV xs,bc fr2 t=bc fr t)→xs.map (·.ev fr2)=xs.map (·.ev fr)
 | [],_=>rfl
 |x::xs,h=>by
  rw[List.map_cons,List.map_cons,cg λt ht=>h t (by simp[gV,ht]),Kj λt ht=>h t (by simp[gV,ht])]
end
theorem Nw {m m':List (Nat×bk)} (hm:jP m m') {q:AC} {xs:List AC} (h:b8 m q=some xs):b8 m' q=some xs:=by
 unfold b8 at h ⊢
 split at h
 ·rename_i nm off
  split at h
  ·rename_i hf;rw[hm _ _ hf];exact h
  ·cases h
 ·exact h
 ·rename_i nm sz row off
  split at h
  ·rename_i hf;rw[hm _ _ hf];exact h
  ·rename_i hf;rw[hm _ _ hf];exact h
  ·cases h
 ·cases h
theorem Pk {m m':List (Nat×bk)} (hm:jP m m') {x:AV} {rows:List (List PC)} (h:fK m x=some rows):fK m' x=some rows:=by
 unfold fK at h ⊢
 split at h
 ·exact h
 ·exact h
 ·exact h
 ·rename_i nm
  split at h
  ·rename_i hf;rw[hm _ _ hf];exact h
  ·cases h
 ·cases h
theorem AK {m m':List (Nat×bk)} (hm:jP m m') {x:AC} {p:PC} (h:dS m x=some p):dS m' x=some p:=by
 unfold dS at h ⊢
 split at h
 ·exact h
 ·exact h
 ·exact h
 ·rename_i nm
  split at h
  ·rename_i hf;rw[hm _ _ hf];exact h
  ·cases h
 ·cases h
theorem Ea {m m':List (Nat×bk)} (hm:jP m m'): ∀{xs:List AC} {ps:List PC},tf m xs=some ps→tf m' xs=some ps
 | [],ps,h=>h
 |x::xs,ps,h=>by
  unfold tf at h ⊢
  split at h
  ·rename_i h1 h2
   rw[AK hm h1,Ea hm h2]
   exact h
  ·cases h
theorem JB {m m':List (Nat×bk)} (hm:jP m m') {n:Option Nat} {xs:List AC} {ps:List PC} (h:mO m n xs=some ps):mO m' n xs=some ps:=by
 unfold mO at h ⊢
 split at h
 ·split at h
  ·rename_i h1;rw[AK hm h1];exact h
  ·cases h
 ·cases h
 ·exact Ea hm h
theorem wJ {m m':List (Nat×bk)} (hm:jP m m') {n:Option Nat}: ∀{xs:List (MK×List AC)} {ps:List (MK×List PC)},kH m n xs=some ps→kH m' n xs=some ps
 | [],ps,h=>h
 |x::xs,ps,h=>by
  unfold kH at h ⊢
  split at h
  ·rename_i h1 h2
   rw[JB hm h1,wJ hm h2]
   exact h
  ·cases h
theorem Od {m m':List (Nat×bk)} (hm:jP m m') {x:AC} {p:PC} (h:eE m x=some p):eE m' x=some p:=by
 unfold eE at h ⊢
 split at h
 ·rename_i nm
  split at h
  ·rename_i hf
   rw[hm _ _ hf]
   simp only
   split at h
   ·rename_i h1;rw[wJ hm h1];exact h
   ·cases h
  ·cases h
 ·exact AK hm h
theorem Dj {m m':List (Nat×bk)} (hm:jP m m'): ∀{xs:List AC} {ps:List PC},cJ m xs=some ps→cJ m' xs=some ps
 | [],ps,h=>h
 |x::xs,ps,h=>by
  unfold cJ at h ⊢
  split at h
  ·rename_i h1 h2
   rw[Od hm h1,Dj hm h2]
   exact h
  ·cases h
theorem Gc {m m':List (Nat×bk)} (hm:jP m m') {x y:AC} (h:dX m x=some y):dX m' x=some y:=by
 unfold dX at h ⊢
 split at h
 ·exact h
 ·exact h
 ·exact h
 ·rename_i nm
  split at h
  ·rename_i hf;rw[hm _ _ hf];exact h
  ·cases h
 ·exact h
 ·rename_i nm off
  split at h
  ·rename_i hf
   rw[hm _ _ hf]
   simp only
   split at h
   ·rename_i h1;rw[Dj hm h1];exact h
   ·cases h
  ·cases h
 ·rename_i nm
  split at h
  ·rename_i hf
   rw[hm _ _ hf]
   simp only
   split at h
   ·rename_i h1;rw[wJ hm h1];exact h
   ·cases h
  ·cases h
 ·cases h
theorem DQ {m m':List (Nat×bk)} (hm:jP m m'): ∀{xs ys:List AC},xx m xs=some ys→xx m' xs=some ys
 | [],ps,h=>h
 |x::xs,ps,h=>by
  unfold xx at h ⊢
  split at h
  ·rename_i h1 h2
   rw[Gc hm h1,DQ hm h2]
   exact h
  ·cases h
theorem Ik {m m':List (Nat×bk)} (hm:jP m m') {x y:AC} (h:ee m x=some y):ee m' x=some y:=by
 unfold ee at h ⊢
 split at h
 ·split at h
  ·rename_i h1;rw[DQ hm h1];exact h
  ·cases h
 ·exact Gc hm h
theorem C5 {m m':List (Nat×bk)} (hm:jP m m'): ∀{xs ys:List AC},ti m xs=some ys→ti m' xs=some ys
 | [],ps,h=>h
 |x::xs,ps,h=>by
  unfold ti at h ⊢
  split at h
  ·rename_i h1 h2
   rw[Ik hm h1,C5 hm h2]
   exact h
  ·cases h
theorem Nu {m m':List (Nat×bk)} (hm:jP m m') {x y:AV} (h:dQ m x=some y):dQ m' x=some y:=by
 unfold dQ at h ⊢
 split at h
 ·split at h
  ·rename_i h1;rw[Ik hm h1];exact h
  ·cases h
 ·split at h
  ·rename_i h1;rw[C5 hm h1];exact h
  ·cases h
 ·cases h
theorem DH {m m':List (Nat×bk)} (hm:jP m m'): ∀{xs ys:List AV},bN m xs=some ys→bN m' xs=some ys
 | [],ps,h=>h
 |x::xs,ps,h=>by
  unfold bN at h ⊢
  split at h
  ·rename_i h1 h2
   rw[Nu hm h1,DH hm h2]
   exact h
  ·cases h
section
variable {P : Program} {op : fq}
theorem KO {s s2:St} (he:op.eff=false) (hm:op.sens=true→jP s.mem s2.mem) (hf: ∀t∈op.tmps,bc s2.fr t=bc s.fr t):iP s s2 (bR P op s) (bR P op s2):=by
 have eta: ∀{F F2:(AV→St→Prop)→Prop},iP s s2 (λK=>F K) (λK=>F2 K)→iP s s2 F F2:= λh=>h
 apply eta
 cases op<;>simp only[bR]<;>simp[fq.eff]at he
 case mv=>rw[cg hf];exact ct
 case pick c a b=>
  rw[cg (x:=c) λt ht=>hf t (by simp[fq.tmps,ht]),cg (x:=a) λt ht=>hf t (by simp[fq.tmps,ht]),cg (x:=b) λt ht=>hf t (by simp[fq.tmps,ht])]
  split;exact NY ct ct;exact aO
 case load n p=>
  rw[cg (x:=p) λt ht=>hf t (by simp[fq.tmps,ht])]
  split
  ·split
   ·rename_i hl
    rw[Nw (hm rfl) hl]
    simp only
    split
    ·split
     ·exact ct
     ·exact aO
    ·exact dO ct
   ·exact aO
  ·exact aO
 case bin op x y=>
  rw[cg (x:=x) λt ht=>hf t (by simp[fq.tmps,ht]),cg (x:=y) λt ht=>hf t (by simp[fq.tmps,ht])]
  split
  ·split
   ·exact zO
   ·exact zO
   ·exact OX
  ·exact aO
 case eqb n x y=>
  rw[cg (x:=x) λt ht=>hf t (by simp[fq.tmps,ht]),cg (x:=y) λt ht=>hf t (by simp[fq.tmps,ht])]
  split;exact ct;exact aO
 case eqs n l x y=>
  rw[cg (x:=x) λt ht=>hf t (by simp[fq.tmps,ht]),cg (x:=y) λt ht=>hf t (by simp[fq.tmps,ht])]
  split;exact dO ct;exact aO
 case un=>rw[cg hf];split<;>first|exact ct|exact aO
 case conv=>rw[cg hf];split;exact ct;exact aO
 case fieldA=>rw[cg hf];split<;>first|exact ct|exact aO
 case field=>
  rw[cg hf]
  split
  ·split
   ·split
    ·exact ct
    ·exact aO
   ·exact dO ct
  ·exact aO
 case idxA sz x y=>
  rw[cg (x:=x) λt ht=>hf t (by simp[fq.tmps,ht]),cg (x:=y) λt ht=>hf t (by simp[fq.tmps,ht])]
  split
  ·exact dO (kZ λr=>dO ct)
  ·exact dO (kZ λr=>dO ct)
  ·split
   ·rename_i hl
    rw[hm rfl _ _ hl]
    exact dO ct
   ·rename_i hl
    rw[hm rfl _ _ hl]
    exact dO ct
   ·exact aO
  ·exact aO
 case idxR l sz x y=>
  rw[cg (x:=x) λt ht=>hf t (by simp[fq.tmps,ht]),cg (x:=y) λt ht=>hf t (by simp[fq.tmps,ht])]
  split<;>first|exact dO ct|exact aO
 case idxS x y=>
  rw[cg (x:=x) λt ht=>hf t (by simp[fq.tmps,ht]),cg (x:=y) λt ht=>hf t (by simp[fq.tmps,ht])]
  split;exact dO (kZ λb=>ct);exact aO
 case nilc=>rw[cg hf];split<;>first|exact ct|exact aO
 case build=>exact CZ (λx=>ct) hf
 case bslice=>exact As (λx=>ct) hf
 case slc sz x l h m=>
  rw[cg (x:=x) λt ht=>hf t (by simp[fq.tmps,ht]),qE (y:=l) λt ht=>hf t (by simp[fq.tmps,ht]),qE (y:=h) λt ht=>hf t (by simp[fq.tmps,ht]),qE (y:=m) λt ht=>hf t (by simp[fq.tmps,ht])]
  split
  ·exact aO
  ·exact Pe (λrows hr=>Pk (hm rfl) hr) λrows=>kZ λlo=>kZ λhi=>kZ λmx=>dO ct
 case slcS x l h=>
  rw[cg (x:=x) λt ht=>hf t (by simp[fq.tmps,ht]),qE (y:=l) λt ht=>hf t (by simp[fq.tmps,ht]),qE (y:=h) λt ht=>hf t (by simp[fq.tmps,ht])]
  split;exact dO ct;exact aO
 case ext=>rw[cg hf];split;exact kZ λv=>ct;exact aO
 case len=>
  rw[cg hf]
  split
  ·exact ct
  ·exact ct
  ·exact ct
  ·split
   ·rename_i hl
    rw[hm rfl _ _ hl]
    exact ct
   ·rename_i hl
    rw[hm rfl _ _ hl]
    exact ct
   ·exact aO
  ·exact aO
 case lenS=>rw[cg hf];split;exact ct;exact aO
 case mm4 x y z t=>
  rw[cg (x:=x) λu hu=>hf u (by simp[fq.tmps,hu]),cg (x:=y) λu hu=>hf u (by simp[fq.tmps,hu]),cg (x:=z) λu hu=>hf u (by simp[fq.tmps,hu]),cg (x:=t) λu hu=>hf u (by simp[fq.tmps,hu])]
  split;exact ct;exact aO
 case dead=>exact aO
 case mm m x y=>
  rw[cg (x:=x) λt ht=>hf t (by simp[fq.tmps,ht]),cg (x:=y) λt ht=>hf t (by simp[fq.tmps,ht])]
  split;exact ct;exact aO
 case fnil=>rw[cg hf];split;exact ct;exact ct;exact aO
 case snil=>
  rw[cg hf]
  split
  ·exact ct
  ·exact Fa ct ct
  ·exact Fa ct ct
  ·split
   ·rename_i hl
    rw[hm rfl _ _ hl]
    exact Fa ct ct
   ·exact aO
  ·exact aO
 case mkfn=>exact He (λx=>ct) hf
 case call g z f xs=>
  obtain⟨rfl,rfl⟩:=he
  rw[cg (x:=f) λt ht=>hf t (by simp[fq.tmps,ht]),Kj (xs:=xs) λt ht=>hf t (by simp[fq.tmps,ht])]
  split
  ·rintro K K2 hk ⟨l,σ',args',hl,hz,(⟨pargs,h1,res,h2,h4⟩|⟨h1,_⟩)⟩
   ·rcases hl with rfl|hl
    ·cases hz
     exact⟨[],_,_,.inl rfl,rfl,.inl ⟨pargs,DH (hm rfl) h1,res,h2,hk _ h4⟩⟩
    ·cases hl
   ·cases h1
  ·exact aO
 case mget kt n z ok m k=>
  rw[cg (x:=m) λt ht=>hf t (by simp[fq.tmps,ht]),cg (x:=k) λt ht=>hf t (by simp[fq.tmps,ht])]
  split
  ·refine kZ λmk=> ?_
   split
   ·split
    ·rename_i hl
     rw[hm rfl _ _ hl]
     exact dO (GW (λps=>ct) ct)
    ·exact aO
   ·exact dO (GW (λps=>ct) ct)
   ·exact aO
  ·exact aO
theorem xI {s s2:St} {sz:Nat} {F F2:List (List PC)→List (Nat×bk)→Prop} (hF: ∀x m,F x m→F2 x m): ∀{ps:List AX} {mem:List (Nat×bk)} {acc:List (List PC)},(∀t∈gV ps,bc s2.fr t=bc s.fr t)→bR.bsliceFW s sz ps mem acc F→bR.bsliceFW s2 sz ps mem acc F2
 | [],mem,acc,h,h1=>hF _ _ h1
 |x::ps,mem,acc,h,h1=>by
  simp only[bR.bsliceFW]at h1 ⊢
  rw[cg λt ht=>h t (by simp[gV,ht])]
  split at h1
  ·obtain⟨z,e,h2,h3⟩:=h1
   exact⟨z,e,h2,xI hF (λt ht=>h t (by simp[gV,ht])) h3⟩
  ·exact h1.elim
theorem LC {fr fr2:List (Nat×AV)} {mem:List (Nat×bk)} {nx b:Nat} {K K2:AV→St→Prop} (he:op.eff=true) (hH:op.gcall=false) (hf: ∀t∈op.tmps,bc fr2 t=bc fr t) (hk: ∀v m n,K v ⟨fr,m,n,b⟩→K2 v ⟨fr2,m,n,b⟩) (h:bR P op ⟨fr,mem,nx,b⟩ K):bR P op ⟨fr2,mem,nx,b⟩ K2:=by
 cases op<;>simp[fq.eff]at he<;>simp only[bR]at h ⊢
 case box x=>
  rw[cg (x:=x) hf]
  split at h
  ·exact hk _ _ _ h
  ·exact h.elim
 case store n x y=>
  rw[cg (x:=x) λt ht=>hf t (by simp[fq.tmps,ht]),cg (x:=y) λt ht=>hf t (by simp[fq.tmps,ht])]
  split at h
  ·split at h
   ·exact⟨h.1,hk _ _ _ h.2⟩
   ·exact h.elim
  ·split at h
   ·obtain⟨h1,zs,h2,r,h3,h4⟩:=h
    exact⟨h1,zs,h2,r,h3,hk _ _ _ h4⟩
   ·obtain⟨h1,r,h3,h4⟩:=h
    exact⟨h1,r,h3,hk _ _ _ h4⟩
   ·exact h.elim
  ·exact h.elim
 case mkslice e sz b z x=>
  rw[cg (x:=x) hf]
  split at h
  ·exact⟨h.1,hk _ _ _ h.2⟩
  ·exact h.elim
 case call g z f xs=>
  simp only[fq.gcall]at hH
  subst hH
  rw[cg (x:=f) λt ht=>hf t (by simp[fq.tmps,ht]),Kj (xs:=xs) λt ht=>hf t (by simp[fq.tmps,ht])]
  split at h
  ·obtain⟨l,σ',args',hl,hz,h⟩:=h
   rcases hl with rfl|hl
   ·cases hz
    rcases h with⟨pargs,h1,res,h2,h4⟩|⟨h1,res,m,n,h2,h4⟩
    ·exact⟨[],_,_,.inl rfl,rfl,.inl ⟨pargs,h1,res,h2,hk _ _ _ h4⟩⟩
    ·exact⟨[],_,_,.inl rfl,rfl,.inr ⟨h1,res,m,n,h2,hk _ _ _ h4⟩⟩
   ·cases hl
  ·exact h.elim
 case bsliceF sz xs=>exact xI (s:=⟨fr,mem,nx,b⟩) (s2:=⟨fr2,mem,nx,b⟩) (λx m h=>hk _ _ _ h) hf h
 case mkmap kt n=>exact hk _ _ _ h
 case mput kt n m k v=>
  rw[cg (x:=m) λt ht=>hf t (by simp[fq.tmps,ht]),cg (x:=k) λt ht=>hf t (by simp[fq.tmps,ht]),cg (x:=v) λt ht=>hf t (by simp[fq.tmps,ht])]
  split at h
  ·obtain⟨mk,Zr,h⟩:=h
   refine⟨mk,Zr, ?_⟩
   simp only at h ⊢
   split at h
   ·obtain⟨ys,ZC,h⟩:=h
    refine⟨ys,ZC, ?_⟩
    simp only at h ⊢
    split at h
    ·exact⟨h.1,hk _ _ _ h.2⟩
    ·exact h.elim
   ·exact h.elim
  ·exact h.elim
 case app e sz b x y=>
  rw[cg (x:=x) λt ht=>hf t (by simp[fq.tmps,ht]),cg (x:=y) λt ht=>hf t (by simp[fq.tmps,ht])]
  obtain⟨ys,ZC,hE,h⟩:=h
  refine⟨ys,ZC,hE, ?_⟩
  rcases h with⟨nm,h1,h2,rows,h3,h4,h5,h6⟩|⟨h1,h|h⟩|⟨rows,h1,h2,⟨h3,h⟩|h|h⟩
  ·exact .inl ⟨nm,h1,h2,rows,h3,h4,h5,hk _ _ _ h6⟩
  ·exact .inr (.inl ⟨h1,.inl ⟨h.1,h.2.1,hk _ _ _ h.2.2⟩⟩)
  ·exact .inr (.inl ⟨h1,.inr ⟨h.1,h.2.1,hk _ _ _ h.2.2⟩⟩)
  ·exact .inr (.inr ⟨rows,h1,h2,.inl ⟨h3,h.1,h.2.1,hk _ _ _ h.2.2⟩⟩)
  ·exact .inr (.inr ⟨rows,h1,h2,.inr (.inl ⟨h.1,h.2.1,hk _ _ _ h.2.2⟩)⟩)
  ·exact .inr (.inr ⟨rows,h1,h2,.inr (.inr ⟨h.1,hk _ _ _ h.2⟩)⟩)
end
open Go.RowKit
theorem nI {P:Program} {op:fq} {σ:St} {v:AV} {τ:St} (hH:op.gcall=false) (h:bR P op σ λv' τ'=>v'=v∧τ'=τ):τ.fr=σ.fr∧τ.base=σ.base∧(op.eff=false→τ=σ):=by
 by_cases he:op.eff=true
 ·obtain⟨fr,mem,nx,b⟩:=σ
  have h2:=LC (fr2:=fr) (K2:= λv' τ'=>(v'=v∧τ'=τ)∧τ'.fr=fr∧τ'.base=b) he hH (λ_ _=>rfl) (λv m n hk=>⟨hk,rfl,rfl⟩) h
  obtain⟨v2,s2,_,⟨_,h4⟩,h5⟩:=Ek hH _ h2
  rw[←h4];exact⟨h5.1,h5.2,λe=>by rw[he]at e;cases e⟩
 ·have HN:op.eff=false:=by simpa using he
  have h2:=KO (s2:=σ) HN (λ_ _ _ h=>h) (λ_ _=>rfl) (λv' τ'=>v'=v∧τ'=τ) (λv' τ'=>(v'=v∧τ'=τ)∧τ'=σ) (λv' hk=>⟨hk,rfl⟩) h
  obtain⟨v2,s2,_,⟨_,h4⟩,h5⟩:=Ek hH _ h2
  subst h4
  subst h5
  exact⟨rfl,rfl,λ_=>rfl⟩
def kx (P:Program) (g:AG) (σ:St) (v:AV) (σ':St):Prop:=
 ((g.op.gcall=false∧(g.guard=none∨ ∃t want,g.guard=some (t,want)∧bc σ.fr t= .c (.pure (.val (.bool want)))))∧ ∃τ,(bR P g.op σ λv' τ'=>v'=v∧τ'=τ)∧σ'=τ.put g.dst v)∨
 (∃t want,g.guard=some (t,want)∧(bc σ.fr t= .tup []∨bc σ.fr t= .c (.pure (.val (.bool (!want)))))∧v= .tup []∧σ'=σ.put g.dst (.tup []))
theorem A7 {P:Program} {K:St→Prop}: ∀{gs:List (Bool×AG)} {σ:St},(gs.all λy=> !y.2.op.gcall)=true→jA P gs σ K→ ∃(v:Nat→AV) (s:Nat→St),s 0=σ∧(∀k y,gs[k]? =some y→kx P y.2 (s k) (v k) (s (k+1))∧(y.1=true→jP (s k).mem (s (k+1)).mem))∧K (s gs.length)
 | [],σ,_,h=>⟨λ_=> .top,λ_=>σ,rfl,(λk g hk=>by simp at hk),h⟩
 |(x,g)::gs,σ,hC,h=>by
  simp only[List.all_cons,Bool.and_eq_true,Bool.not_eq_true']at hC
  have pmem: ∀{τ:St} {v:AV},(τ.put g.dst v).mem=τ.mem:= λ{τ v}=>by cases g.dst<;>rfl
  have one: ∃v σ',(kx P g σ v σ'∧(x=true→jP σ.mem σ'.mem))∧jA P gs σ' K:=by
   have run:(g.guard=none∨ ∃t want,g.guard=some (t,want)∧bc σ.fr t= .c (.pure (.val (.bool want))))→(bR P g.op σ λv σ'=> @db (x=true→JT σ.mem σ'.mem) ⟨jA P gs (σ'.put g.dst v) K⟩)→ ∃v σ',(kx P g σ v σ'∧(x=true→jP σ.mem σ'.mem))∧jA P gs σ' K:=by
    intro hg h
    obtain⟨v,τ,h1,h2,h3⟩:=Ek hC.1 _ h
    exact⟨v,_,⟨.inl ⟨⟨hC.1,hg⟩,τ,h1,rfl⟩,by rw[pmem];exact λe=>RF (h2 e)⟩,h3⟩
   simp only[jA]at h
   split at h
   ·rename_i hg
    exact run (.inl hg) h
   ·rename_i t want hg
    split at h
    ·rename_i b hb
     by_cases e:b=want
     ·subst e
      exact run (.inr ⟨t,b,hg,hb⟩) (h.1 (by simp))
     ·refine⟨.tup [],_,⟨.inr ⟨t,want,hg,.inr ?_,rfl,rfl⟩,λ_=>by rw[pmem];exact λ_ _ h=>h⟩,h.2 (by simp[e])⟩
      rw[hb]
      cases b<;>cases want<;>simp_all
    ·rename_i hb
     exact⟨.tup [],_,⟨.inr ⟨t,want,hg,.inl hb,rfl,rfl⟩,λ_=>by rw[pmem];exact λ_ _ h=>h⟩,h⟩
    ·exact h.elim
  obtain⟨v0,σ1,h1,h2⟩:=one
  obtain⟨v,s,g1,g2,g3⟩:=A7 hC.2 h2
  refine⟨λk=>match k with|0=>v0|k+1=>v k,λk=>match k with|0=>σ|k+1=>s k,rfl,λk g' hk=> ?_,g3⟩
  cases k with
  |zero=>
   simp at hk
   subst hk
   show kx P g σ v0 (s 0)∧(x=true→jP σ.mem (s 0).mem)
   rw[g1]
   exact h1
  |succ k=>exact g2 k g' (by simpa using hk)
theorem Ar: ∀{ops:List Oper} {k j:Nat} {o:Oper},rW k ops=true→ops[j]? =some o→ ∀e∈o.after.toList,Region.binds .any e=true→e.on<k+j
 | [],k,j,o,h,hj=>by simp at hj
 |x::ops,k,j,o,h,hj=>by
  simp only[rW,Bool.and_eq_true,List.all_eq_true,decide_eq_true_eq,Bool.or_eq_true,Bool.not_eq_true']at h
  cases j with
  |zero=>
   simp at hj
   subst hj
   intro e he hb
   rcases h.1 e he with h|h
   ·rw[hb]at h;cases h
   ·exact h
  |succ j=>
   simp at hj
   intro e he hb
   have:=Ar h.2 hj e he hb
   omega
theorem yS {acc:List (Nat×Nat)} {i:Nat}: ∀{ks:List Nat},(T3 acc ks).testBit i=true→ ∃k∈ks,k=i∨(qB acc k).testBit i=true
 | [],h=>by simp[T3]at h
 |k::r,h=>by
  simp only[T3]at h
  rw[Nat.testBit_or,Nat.testBit_or]at h
  simp only[Bool.or_eq_true]at h
  rcases h with(h|h)|h
  ·refine⟨k,List.mem_cons_self,.inl ?_⟩
   rw[Nat.testBit_two_pow]at h
   simpa using h
  ·exact⟨k,List.mem_cons_self,.inr h⟩
  ·obtain⟨k',h1,h2⟩:=yS h
   exact⟨k',List.mem_cons_of_mem _ h1,h2⟩
def Eh (ops:List Oper) (E:List (Nat×Nat)) (S:Nat→Bool):Prop:= ∀(j:Nat) o,ops[j]? =some o→S j=true→ ∀k∈wj E j o,S k=true
theorem kW {ops:List Oper} {E:List (Nat×Nat)} {S:Nat→Bool} (HA:Eh ops E S): ∀{ord:List Nat} {acc:List (Nat×Nat)},
  (∀k i,(qB acc k).testBit i=true→S k=true→S i=true)→ ∀k i,(qB (vR ops E ord acc) k).testBit i=true→S k=true→S i=true
 | [],acc,hP,k,i,h,hk=>hP k i h hk
 |j::r,acc,hP,k,i,h,hk=>by
  simp only[vR]at h
  refine kW HA (λk i h hk=> ?_) k i h hk
  simp only[qB]at h
  split at h
  ·rename_i e
   subst e
   split at h
   ·rename_i o ho
    obtain⟨k',h1,h2⟩:=yS h
    have HK:=HA j o ho hk k' h1
    rcases h2 with rfl|h2
    ·exact HK
    ·exact hP _ _ h2 HK
   ·simp at h
  ·exact hP k i h hk
theorem Bu {ops:List Oper} {E:List (Nat×Nat)} {S:Nat→Bool} (HA:Eh ops E S) {j:Nat} {o:Oper} (ho:ops[j]? =some o) (hp: ∀k∈wj E j o,S k=true):
  ∀{ord:List Nat} {acc:List (Nat×Nat)},(∀k i,(qB acc k).testBit i=true→S k=true→S i=true)→(∀i,(qB acc j).testBit i=true→S i=true)→ ∀i,(qB (vR ops E ord acc) j).testBit i=true→S i=true
 | [],acc,hP,hj,i,h=>hj i h
 |k::r,acc,hP,hj,i,h=>by
  simp only[vR]at h
  refine Bu HA ho hp (λk' i g hk=> ?_) (λi g=> ?_) i h
  ·clear h
   simp only[qB]at g
   split at g
   ·rename_i e
    subst e
    split at g
    ·rename_i o' q7
     obtain⟨k'',h1,h2⟩:=yS g
     have HK:=HA _ o' q7 hk k'' h1
     rcases h2 with rfl|h2
     ·exact HK
     ·exact hP _ _ h2 HK
    ·simp at g
   ·exact hP k' i g hk
  ·clear h
   simp only[qB]at g
   split at g
   ·rename_i e
    subst e
    rw[ho]at g
    obtain⟨k'',h1,h2⟩:=yS g
    have HK:=hp k'' h1
    rcases h2 with rfl|h2
    ·exact HK
    ·exact hP _ _ h2 HK
   ·exact hj i g
theorem rF (a:Act) (d:Option Nat) (v:Value):(a.put d v).tmps.size=a.tmps.size:=by
 cases d<;>simp[Act.put]
theorem qM {a:Act} {t:Nat} {v:Value} (h:a.tmps.getD t undef=v) (hv:v≠undef):a.tmps[t]? =some v:=by
 simp only[Array.getD_eq_getD_getElem?]at h
 cases e:a.tmps[t]? with
 |none=>rw[e]at h;exact absurd h.symm hv
 |some u=>rw[e]at h;simp at h;rw[h]
def rD (gs:List AG) (k:Nat):Option Nat:=(gs[k]?).bind (·.dst)
def jp (gs:List AG) (k:Nat):Bool:=match gs[k]? with|some g=>g.op.eff|none=>false
def kM (gs:List AG) (v:Nat→AV) (fr0:List (Nat×AV)) (S:Nat→Bool):Nat→List (Nat×AV)
 |0=>fr0
 |k+1=>if S k=true then(match rD gs k with|some d=>(d,v k)::kM gs v fr0 S k|none=>kM gs v fr0 S k)else kM gs v fr0 S k
def gO (gs:List AG) (s:Nat→St) (S:Nat→Bool):Nat→List (Nat×bk)×Nat
 |0=>((s 0).mem,(s 0).nx)
 |k+1=>if S k=true∧jp gs k=true then((s (k+1)).mem,(s (k+1)).nx)else gO gs s S k
section
variable {P : Program} {gs : List AG} {v : Nat → AV} {s : Nat → St}
theorem Ab {σ:St} {d:Option Nat} {x:AV} {t:Nat}:bc (σ.put d x).fr t=if d=some t then x else bc σ.fr t:=by
 cases d with
 |none=>simp[St.put]
 |some d=>
  show(if d=t then x else bc σ.fr t)=_
  by_cases e:d=t<;>simp[e]
theorem gH {σ:St} {d:Option Nat} {x:AV}:(σ.put d x).mem=σ.mem∧(σ.put d x).nx=σ.nx:=by cases d<;>exact⟨rfl,rfl⟩
theorem Re {g:AG} {σ σ':St} {x:AV} (h:kx P g σ x σ') (t:Nat):bc σ'.fr t=if g.dst=some t then x else bc σ.fr t:=by
 rcases h with⟨gD,τ,h1,rfl⟩|⟨_,_,_,_,rfl,rfl⟩
 ·rw[Ab,(nI gD.1 h1).1]
 ·rw[Ab]
theorem Ha {g:AG} {σ σ':St} {x:AV} (h:kx P g σ x σ') (he:g.op.eff=false):σ'.mem=σ.mem∧σ'.nx=σ.nx:=by
 rcases h with⟨gD,τ,h1,rfl⟩|⟨_,_,_,_,rfl,rfl⟩
 ·rw[gH.1,gH.2,(nI gD.1 h1).2.2 he]
  exact⟨rfl,rfl⟩
 ·exact gH
theorem qt {σ:St} {d:Option Nat} {x:AV}:(σ.put d x).base=σ.base:=by cases d<;>rfl
theorem Mc {g:AG} {σ σ':St} {x:AV} (h:kx P g σ x σ'):σ'.base=σ.base:=by
 rcases h with⟨gD,τ,h1,rfl⟩|⟨_,_,_,_,rfl,rfl⟩
 ·rw[qt,(nI gD.1 h1).2.1]
 ·exact qt
theorem tS (hA: ∀k g,gs[k]? =some g→kx P g (s k) (v k) (s (k+1))): ∀{i:Nat},i≤gs.length→(s i).base=(s 0).base
 |0,_=>rfl
 |i+1,h=>(Mc (hA i _ (List.getElem?_eq_getElem (show i<gs.length by omega)))).trans (tS hA (by omega))
theorem nb (hA: ∀k g,gs[k]? =some g→kx P g (s k) (v k) (s (k+1))) {S:Nat→Bool} {t i:Nat}: ∀{n:Nat},n≤gs.length→i≤n→(∀k,k<n→rD gs k=some t→(S k=true↔k<i))→bc (kM gs v (s 0).fr S n) t=bc (s i).fr t
 |0,_,hi,_=>by
  obtain rfl:i=0:=by omega
  rfl
 |n+1,hn,hi,h=>by
  have hg:=List.getElem?_eq_getElem (show n<gs.length by omega)
  by_cases e:i=n+1
  ·subst e
   have ih:=nb hA (S:=S) (t:=t) (i:=n) (n:=n) (by omega) (Nat.le_refl _) (λk hk hd=>⟨λ_=>hk,λ_=>(h k (by omega) hd).2 (by omega)⟩)
   rw[Re (hA n _ hg) t]
   simp only[kM]
   by_cases hd:rD gs n=some t
   ·rw[if_pos ((h n (by omega) hd).2 (by omega)),hd]
    have hR:gs[n].dst=some t:=by simpa[rD,hg]using hd
    rw[if_pos hR,fy,if_pos rfl]
   ·have hR: ¬gs[n].dst=some t:=by simpa[rD,hg]using hd
    rw[if_neg hR]
    split
    ·split
     ·rename_i d gd
      rw[fy,if_neg (λe=>hd (by rw[gd,e]))]
      exact ih
     ·exact ih
    ·exact ih
  ·have ih:=nb hA (S:=S) (t:=t) (i:=i) (n:=n) (by omega) (by omega) (λk hk hd=>h k (by omega) hd)
   simp only[kM]
   by_cases hd:rD gs n=some t
   ·rw[if_neg (λhs=>by have:=(h n (by omega) hd).1 hs;omega)]
    exact ih
   ·split
    ·split
     ·rename_i d gd
      rw[fy,if_neg (λe=>hd (by rw[gd,e]))]
      exact ih
     ·exact ih
    ·exact ih
theorem nr (hA: ∀k g,gs[k]? =some g→kx P g (s k) (v k) (s (k+1))) {S:Nat→Bool} {i:Nat}: ∀{n:Nat},n≤gs.length→i≤n→(∀k,k<n→jp gs k=true→(S k=true↔k<i))→gO gs s S n=((s i).mem,(s i).nx)
 |0,_,hi,_=>by
  obtain rfl:i=0:=by omega
  rfl
 |n+1,hn,hi,h=>by
  have hg:=List.getElem?_eq_getElem (show n<gs.length by omega)
  by_cases e:i=n+1
  ·subst e
   have ih:=nr hA (S:=S) (i:=n) (n:=n) (by omega) (Nat.le_refl _) (λk hk hd=>⟨λ_=>hk,λ_=>(h k (by omega) hd).2 (by omega)⟩)
   simp only[gO]
   by_cases he:jp gs n=true
   ·rw[if_pos ⟨(h n (by omega) he).2 (by omega),he⟩]
   ·rw[if_neg (λhh=>he hh.2),ih]
    have HN:gs[n].op.eff=false:=by simpa[jp,hg]using he
    have:=Ha (hA n _ hg) HN
    rw[this.1,this.2]
  ·have ih:=nr hA (S:=S) (i:=i) (n:=n) (by omega) (by omega) (λk hk hd=>h k (by omega) hd)
   simp only[gO]
   rw[if_neg (λhh=>by have:=(h n (by omega) hh.2).1 hh.1;omega)]
   exact ih
theorem CN (hA: ∀k g,gs[k]? =some g→kx P g (s k) (v k) (s (k+1))) {S:Nat→Bool} {p:Nat} (h1: ∀k,k<p→jp gs k=true→S k=true) (h2: ∀k,p≤k→k<gs.length→jp gs k=true→S k=true→jP (s k).mem (s (k+1)).mem)
  (h3: ∀k q,k<q→q<gs.length→jp gs k=true→jp gs q=true→S q=true→S k=true): ∀{n:Nat},n≤gs.length→p≤n→jP (s p).mem (gO gs s S n).1
 |0,hn,hp=>by
  obtain rfl:p=0:=by omega
  exact λ_ _ h=>h
 |n+1,hn,hp=>by
  by_cases e:p=n+1
  ·subst e
   have:=nr hA (S:= λk=>decide (k<n+1)) (i:=n+1) (n:=n+1) hn (Nat.le_refl _) (λk hk _=>by simp)
   have same: ∀m,m≤n+1→gO gs s S m=gO gs s (λk=>decide (k<n+1)) m:=by
    intro m
    induction m with
    |zero=>intro _;rfl
    |succ m ih=>
     intro hm
     simp only[gO]
     rw[ih (by omega)]
     by_cases he:jp gs m=true
     ·rw[if_pos ⟨h1 m (by omega) he,he⟩,if_pos ⟨by simp;omega,he⟩]
     ·rw[if_neg (λhh=>he hh.2),if_neg (λhh=>he hh.2)]
   rw[same _ (Nat.le_refl _),this]
   exact λ_ _ h=>h
  ·have ih:=CN hA h1 h2 h3 (n:=n) (by omega) (by omega)
   simp only[gO]
   by_cases hs:S n=true∧jp gs n=true
   ·rw[if_pos hs]
    have key: ∀m,p≤m→m≤n+1→jP (s p).mem (s m).mem:=by
     intro m
     induction m with
     |zero=>
      intro hp _
      obtain rfl:p=0:=by omega
      exact λ_ _ h=>h
     |succ m ih=>
      intro hpm hm
      by_cases e:p=m+1
      ·subst e;exact λ_ _ h=>h
      ·have hk:=ih (by omega) (by omega)
       by_cases he:jp gs m=true
       ·have hS:S m=true:=by
         by_cases e2:m=n
         ·subst e2;exact hs.1
         ·exact h3 m n (by omega) (by omega) he hs.2 hs.1
        exact λnm bx hf=>h2 m (by omega) (by omega) he hS nm bx (hk nm bx hf)
       ·have hg:=List.getElem?_eq_getElem (show m<gs.length by omega)
        have HN:gs[m].op.eff=false:=by simpa[jp,hg]using he
        rw[(Ha (hA m _ hg) HN).1]
        exact hk
    exact key (n+1) (by omega) (Nat.le_refl _)
   ·rw[if_neg hs]
    exact ih
def fI (S:Nat→Bool) (i:Nat):Nat→Bool:= λk=>if k=i then true else S k
theorem IL {S:Nat→Bool} {i t:Nat} {fr0:List (Nat×AV)} (hi:S i=false): ∀{n:Nat},i<n→(rD gs i=some t→ ∀k,i<k→rD gs k=some t→S k=false)→bc (kM gs v fr0 (fI S i) n) t=if rD gs i=some t then v i else bc (kM gs v fr0 S n) t
 |0,hn,_=>by omega
 |n+1,hn,h=>by
  have same: ∀{m:Nat},m≤i→kM gs v fr0 (fI S i) m=kM gs v fr0 S m:=by
   intro m
   induction m with
   |zero=>intro _;rfl
   |succ m ih=>
    intro hm
    simp only[kM]
    rw[ih (by omega)]
    have:fI S i m=S m:=if_neg (by omega)
    rw[this]
  by_cases e:i=n
  ·subst e
   simp only[kM]
   rw[if_pos (show fI S i i=true from if_pos rfl),hi,if_neg (show ¬false=true from λe=>by cases e),same (Nat.le_refl _)]
   cases hd:rD gs i with
   |none=>simp
   |some d=>
    show bc ((d,v i)::kM gs v fr0 S i) t=if some d=some t then v i else bc (kM gs v fr0 S i) t
    rw[fy]
    by_cases e:d=t<;>simp[e]
  ·have ih:=IL (fr0:=fr0) (t:=t) hi (n:=n) (by omega) h
   have ZD:fI S i n=S n:=if_neg (by omega)
   simp only[kM]
   rw[ZD]
   by_cases hs:S n=true
   ·rw[if_pos hs,if_pos hs]
    split
    ·rename_i d hd
     rw[fy,fy]
     by_cases e2:d=t
     ·subst e2
      rw[if_pos rfl,if_pos rfl]
      by_cases e3:rD gs i=some d
      ·have:=h e3 n (by omega) hd
       rw[hs]at this
       cases this
      ·rw[if_neg e3]
     ·rw[if_neg e2,if_neg e2]
      exact ih
    ·exact ih
   ·rw[if_neg hs,if_neg hs]
    exact ih
theorem DN {S:Nat→Bool} {i:Nat} (hi:S i=false): ∀{n:Nat},i<n→(jp gs i=true→ ∀k,i<k→jp gs k=true→S k=false)→gO gs s (fI S i) n=if jp gs i=true then((s (i+1)).mem,(s (i+1)).nx)else gO gs s S n
 |0,hn,_=>by omega
 |n+1,hn,h=>by
  have same: ∀{m:Nat},m≤i→gO gs s (fI S i) m=gO gs s S m:=by
   intro m
   induction m with
   |zero=>intro _;rfl
   |succ m ih=>
    intro hm
    simp only[gO]
    rw[ih (by omega)]
    have:fI S i m=S m:=if_neg (by omega)
    rw[this]
  by_cases e:i=n
  ·subst e
   simp only[gO]
   have h1:fI S i i=true:=if_pos rfl
   rw[same (Nat.le_refl _)]
   by_cases he:jp gs i=true
   ·rw[if_pos ⟨h1,he⟩,if_pos he]
   ·rw[if_neg (λhh=>he hh.2),if_neg he,if_neg (λhh=>he hh.2)]
  ·have ih:=DN hi (n:=n) (by omega) h
   have ZD:fI S i n=S n:=if_neg (by omega)
   simp only[gO]
   rw[ZD]
   by_cases hs:S n=true∧jp gs n=true
   ·rw[if_pos hs,if_pos hs]
    by_cases he:jp gs i=true
    ·have:=h he n (by omega) hs.2
     rw[hs.1]at this
     cases this
    ·rw[if_neg he]
   ·rw[if_neg hs,if_neg hs]
    exact ih
end
theorem bV.fr {w0:World} {U:Gh} {σ:St} {ι:Pl} {a:Act} {w:World} (hs:bV w0 U σ ι a w) {fr:List (Nat×AV)} (h: ∀t,bc fr t=bc σ.fr t):bV w0 U ⟨fr,σ.mem,σ.nx,σ.base⟩ ι a w:=
 ⟨λt=>by have:=hs.val t;rw[←h t]at this;exact this,hs.defers,hs.names,hs.box,hs.apart,hs.below,hs.keep,hs.base⟩
open Go.RowKit
def KB (S:Nat→Bool):Nat→Nat
 |0=>0
 |n+1=>KB S n+if S n=true then 1 else 0
theorem NS (S:Nat→Bool): ∀n,KB S n≤n
 |0=>Nat.le_refl _
 |n+1=>by have:=NS S n;simp only[KB];split<;>omega
theorem LE {S:Nat→Bool}: ∀{n:Nat},KB S n=n→ ∀k,k<n→S k=true
 |0,_,k,hk=>by omega
 |n+1,h,k,hk=>by
  have ZE:=NS S n
  simp only[KB]at h
  split at h
  ·rename_i hn
   by_cases e:k=n
   ·rw[e];exact hn
   ·exact LE (n:=n) (by omega) k (by omega)
  ·omega
theorem Ld {S:Nat→Bool} {i:Nat} (hi:S i=false): ∀{n:Nat},i<n→KB (fI S i) n=KB S n+1
 |0,h=>by omega
 |n+1,h=>by
  have same: ∀{m:Nat},m≤i→KB (fI S i) m=KB S m:=by
   intro m
   induction m with
   |zero=>intro _;rfl
   |succ m ih=>
    intro hm
    simp only[KB]
    rw[ih (by omega)]
    have:fI S i m=S m:=if_neg (by omega)
    rw[this]
  simp only[KB]
  by_cases e:i=n
  ·subst e
   rw[same (Nat.le_refl _),hi,show fI S i i=true from if_pos rfl]
   simp
  ·have:fI S i n=S n:=if_neg (by omega)
   rw[this,Ld hi (by omega)]
   omega
theorem LI {P:Program} {dr:Bool} {nt:Nat} {ops:Array Oper}: ∀{l:List Oper} {gs:List AG},gk P dr nt ops l=some gs→l.length=gs.length∧ ∀(i:Nat) o,l[i]? =some o→ ∃g,gs[i]? =some g∧tg P dr nt ops o=some g
 | [],gs,h=>by cases h;exact⟨rfl,λi o hi=>by simp at hi⟩
 |o::l,gs,h=>by
  unfold gk at h
  split at h
  ·rename_i g gs' h1 h2
   cases h
   obtain⟨g1,g2⟩:=LI h2
   refine⟨by simp[g1],λi o' hi=> ?_⟩
   cases i with
   |zero=>simp at hi;subst hi;exact⟨g,rfl,h1⟩
   |succ i=>exact g2 i o' (by simpa using hi)
  ·cases h
theorem Gu {P:Program} {dr:Bool} {nt:Nat} {ops:Array Oper} {o:Oper} {g:AG} (h:tg P dr nt ops o=some g):g.dst=o.dst∧(∀t,o.dst=some t→t<nt)∧bZ P dr o.op=some g.op∧
  ((o.guard=none∧g.guard=none)∨ ∃j want t,o.guard=some (j,want)∧(ops[j]?).bind (·.dst)=some t∧g.guard=some (t,want)):=by
 unfold tg at h
 by_cases HC:J7 nt o.dst=false
 ·rw[if_pos HC]at h;cases h
 ·rw[if_neg HC]at h
  have hd: ∀t,o.dst=some t→t<nt:=by
   intro t ht
   rw[ht]at HC
   simpa[J7]using HC
  split at h
  ·rename_i ao q8
   split at h
   ·rename_i hg
    cases h
    exact⟨rfl,hd,q8,.inl ⟨hg,rfl⟩⟩
   ·rename_i j want hg
    split at h
    ·rename_i t ht
     cases h
     exact⟨rfl,hd,q8,.inr ⟨j,want,t,hg,ht,rfl⟩⟩
    ·cases h
  ·cases h
section
variable {P : Program} {a : Act} {w w' w0 : World} {U : Gh} {ι : Pl} {σ : St} {nt : Nat} {dr : Bool}
theorem EL {V:Nat→Prop} {N:Nat} {u:Value} (h:aX w V ι N (.tup []) u):u=undef:=by
 cases h with
 | @tup _ vs hl _=>
  have:vs= #[]:=Array.eq_empty_of_size_eq_zero (by simpa using hl.symm)
  rw[this]
  rfl
theorem JR {ops:Array Oper} {Q:Exit→Act→World→Prop} {i:Nat} {o:Oper} {g:AG} {v:AV} {σ σ':St} {next:Act→World→Prop} (ho:ops[i]? =some o) (hg:tg P dr nt ops o=some g) (ZX:kx P g σ v σ') (hs:bV w0 U σ ι a w) (hz:a.tmps.size=nt)
  (hn: ∀ι' a' w',bV w0 U σ' ι' a' w'→a'.tmps.size=nt→next a' w'):wpOp P ops Q i next a w:=by
 obtain⟨h1,h2,h3,h4⟩:=Gu hg
 have hd: ∀t,o.dst=some t→t<a.tmps.size:= λt ht=>by rw[hz];exact h2 t ht
 unfold wpOp
 rw[ho]
 have run:Region.wanted o (yielded ops a.tmps)=true→(∃τ,(bR P g.op σ λv' τ'=>v'=v∧τ'=τ)∧σ'=τ.put g.dst v)→(if Region.wanted o (yielded ops a.tmps)=true then o.wp P a w next Q∨(o.asks P a w∧LetsOut Q)else next (a.put o.dst undef) w):=by
  rintro hw ⟨τ,k1,rfl⟩
  rw[if_pos hw]
  left
  refine G7 h3 k1 hs ?_
  rintro v' σ2 ι' u w' ⟨rfl,rfl⟩ J hr
  refine hn ι' _ w' ?_ (by rw[rF];exact hz)
  rw[h1]
  exact J.put hd hr
 rcases h4 with⟨k1,k2⟩|⟨j,want,t,k1,k2,k3⟩
 ·rcases ZX with⟨_,hx⟩|⟨t,want,e,_⟩
  ·exact run (by simp[Region.wanted,k1]) hx
  ·rw[k2]at e;cases e
 ·have Y:=hs.val t
  rcases ZX with⟨⟨_,ge⟩,hx⟩|⟨t',want',e,ge,rfl,rfl⟩
  ·rcases ge with e|⟨t',want',e,hb⟩
   ·rw[k3]at e;cases e
   ·rw[k3]at e
    cases e
    rw[hb]at Y
    have gg:=qM (bo Y).1 (by intro e;cases e)
    exact run (by simp[Region.wanted,k1,yielded,k2,gg]) hx
  ·rw[k3]at e
   cases e
   have hw: ¬Region.wanted o (yielded ops a.tmps)=true:=by
    rcases ge with hb|hb
    ·rw[hb]at Y
     have hu:=EL Y
     have hy:yielded ops a.tmps j=none:=by
      unfold yielded
      simp only[k2,Option.bind_some]
      simp only[Array.getD_eq_getD_getElem?]at hu
      cases e':a.tmps[t]? with
      |none=>rfl
      |some z=>
       rw[e']at hu
       simp at hu
       subst hu
       rfl
     simp[Region.wanted,k1,hy]
    ·rw[hb]at Y
     have gg:=qM (bo Y).1 (by intro e;cases e)
     simp[Region.wanted,k1,yielded,k2,gg]
   show(if Region.wanted o (yielded ops a.tmps)=true then _ else next (a.put o.dst undef) w)
   rw[if_neg hw]
   refine hn ι _ w ?_ (by rw[rF];exact hz)
   rw[h1]
   exact hs.put hd ip
theorem kx.congr {g:AG} {v:AV} {σ σ' σ2:St} (h:kx P g σ v σ') (hf: ∀t∈g.looks,bc σ2.fr t=bc σ.fr t) (hm:g.op.eff=true→σ2.mem=σ.mem∧σ2.nx=σ.nx) (ZF:g.op.eff=false→g.op.sens=true→jP σ.mem σ2.mem) (HD:σ2.base=σ.base):
  ∃τ,kx P g σ2 v τ∧(∀t,bc τ.fr t=if g.dst=some t then v else bc σ2.fr t)∧(τ.mem,τ.nx)=(if g.op.eff=true then(σ'.mem,σ'.nx)else(σ2.mem,σ2.nx))∧τ.base=σ2.base:=by
 have ZG: ∀t∈g.op.tmps,bc σ2.fr t=bc σ.fr t:= λt ht=>hf t (by simp[AG.looks,ht])
 rcases h with⟨⟨hH,hg⟩,τ,h1,rfl⟩|⟨t,want,hg,hb,rfl,rfl⟩
 ·have ZY:g.guard=none∨ ∃t want,g.guard=some (t,want)∧bc σ2.fr t= .c (.pure (.val (.bool want))):=by
   rcases hg with e|⟨t,want,e,hb⟩
   ·exact .inl e
   ·exact .inr ⟨t,want,e,by rw[hf t (by simp[AG.looks,e])];exact hb⟩
  by_cases he:g.op.eff=true
  ·obtain⟨m1,m2⟩:=hm he
   have k1:=(nI hH h1).1
   have k2:=(nI hH h1).2.1
   obtain⟨fr,mem,nx,b⟩:=σ
   obtain⟨fr2,mem2,nx2,b2⟩:=σ2
   simp only at m1 m2 ZG k1 k2 HD
   subst HD
   subst m1
   subst m2
   have h2:=LC (fr2:=fr2) (K2:= λv' τ'=>v'=v∧τ'=⟨fr2,τ.mem,τ.nx,τ.base⟩) he hH ZG (λv' m n hk=>by obtain⟨e1,e2⟩:=hk;subst e2;exact⟨e1,rfl⟩) h1
   refine⟨_,.inl ⟨⟨hH,ZY⟩,_,h2,rfl⟩,λt=>Ab, ?_,by rw[qt];exact k2⟩
   rw[if_pos he,gH.1,gH.2,gH.1,gH.2]
  ·have HN:g.op.eff=false:=by simpa using he
   have k1:=(nI hH h1).2.2 HN
   subst k1
   have h2:=KO (s2:=σ2) HN (ZF HN) ZG (λv' τ'=>v'=v∧τ'=τ) (λv' τ'=>v'=v∧τ'=σ2) (λv' hk=>⟨hk.1,rfl⟩) h1
   refine⟨_,.inl ⟨⟨hH,ZY⟩,_,h2,rfl⟩,λt=>Ab, ?_,qt⟩
   rw[if_neg he,gH.1,gH.2]
 ·refine⟨_,.inr ⟨t,want,hg, ?_,rfl,rfl⟩,λt=>Ab, ?_,qt⟩
  ·rw[hf t (by simp[AG.looks,hg])]
   exact hb
  ·rw[gH.1,gH.2,gH.1,gH.2]
   split
   ·rename_i he
    rw[(hm he).1,(hm he).2]
   ·rfl
theorem DA {g h:AG} {d:Nat} (hc:iL g h=false) (hd:g.dst=some d):d∉h.looks∧h.dst≠some d:=by
 simp only[iL,hd,Bool.or_eq_false_iff]at hc
 refine⟨λhm=> ?_,λe=> ?_⟩
 ·have:=hc.1.1.1.1
  simp[hm]at this
 ·have:=hc.1.1.1.2
  simp[e]at this
theorem Ko {g h:AG} {d:Nat} (hc:iL g h=false) (hd:h.dst=some d):d∉g.looks:=by
 simp only[iL,hd,Bool.or_eq_false_iff]at hc
 intro hm
 have:=hc.1.1.2
 simp[hm]at this
theorem no {g h:AG} (hc:iL g h=false):(g.op.eff=true→h.op.eff=false∧h.op.sens=false):=by
 simp only[iL,Bool.or_eq_false_iff]at hc
 have h1:=hc.1.2
 intro e
 rw[e]at h1
 simpa using h1
def L5 (ops:Array Oper):List Nat→Array Bool→Prop
 | [],L=>Region.ready .any ops L= []
 |i::r,L=>i∈Region.ready .any ops L∧L5 ops r (L.setIfInBounds i true)
theorem O2 {ops:Array Oper}: ∀(fuel t:Nat) (L:Array Bool),L.size=ops.size→KB (λk=>L.getD k false) ops.size+fuel=ops.size→L5 ops (Region.linearise.go .any ops fuel t L []) L
 |0,t,L,hL,Zs=>by
  show Region.ready .any ops L= []
  unfold Region.ready
  rw[List.filter_eq_nil_iff]
  intro k hk
  have HK:k<ops.size:=by simpa using hk
  have h1:=LE (S:= λk=>L.getD k false) (n:=ops.size) (by omega) k HK
  have h2:L.getD k true=true:=by
   have:k<L.size:=by omega
   simp only[Array.getD_eq_getD_getElem?,Array.getElem?_eq_getElem this,Option.getD_some]at h1 ⊢
   exact h1
  rw[h2]
  simp
 |fuel+1,t,L,hL,Zs=>by
  simp only[Region.linearise.go]
  change L5 ops (match (Region.ready .any ops L)[t%(Region.ready .any ops L).length]? with
   |some i=>Region.linearise.go .any ops fuel (t/(Region.ready .any ops L).length) (L.setIfInBounds i true) [i]
   |none=> [].reverse) L
  cases hi:(Region.ready .any ops L)[t%(Region.ready .any ops L).length]? with
  |none=>
   cases hr:Region.ready .any ops L with
   |nil=>exact hr
   |cons x xs=>
    rw[hr]at hi
    have O:t%(x::xs).length<(x::xs).length:=Nat.mod_lt _ (by simp)
    simp at hi
    simp at O
    omega
  |some i=>
   simp only[]
   rw[linearise_go_acc,List.reverse_singleton,List.singleton_append]
   have HG:=List.mem_of_getElem? hi
   refine⟨HG,O2 _ _ _ (by simpa using hL) ?_⟩
   unfold Region.ready at HG
   rw[List.mem_filter]at HG
   obtain⟨h1,h2⟩:=HG
   have q9:i<ops.size:=by simpa using h1
   have ZZ:i<L.size:=by omega
   simp only[Bool.and_eq_true,Bool.not_eq_true']at h2
   have hf:L.getD i false=false:=by
    have:=h2.1
    simp only[Array.getD_eq_getD_getElem?,Array.getElem?_eq_getElem ZZ,Option.getD_some]at this ⊢
    exact this
   have hS:(λk=>(L.setIfInBounds i true).getD k false)=fI (λk=>L.getD k false) i:=by
    funext k
    simp only[fI,Array.getD_eq_getD_getElem?]
    by_cases e:k=i
    ·subst e;simp[ZZ]
    ·rw[if_neg e,Array.getElem?_setIfInBounds_ne (Ne.symm e)]
   rw[hS,Ld hf q9]
   omega
def Qp (E:List (Nat×Nat)):List Nat→(Nat→Bool)→Prop
 | [],_=>True
 |i::r,S=>(∀p∈E,p.2=i→S p.1=true)∧Qp E r (fI S i)
theorem KD: ∀{r:List Nat} {S:Nat→Bool},Qp [] r S
 | [],S=>trivial
 |i::r,S=>⟨(λp hp=>by cases hp),KD⟩
theorem zA {E:List (Nat×Nat)} {x y:Nat}: ∀{r:List Nat} {S:Nat→Bool},S x=true→Qp E r S→Qp ((x,y)::E) r S
 | [],S,_,_=>trivial
 |i::r,S,hx,h=>⟨λp hp e=>by
   rcases List.mem_cons.1 hp with rfl|hp
   ·exact hx
   ·exact h.1 p hp e,zA (by simp only[fI];split<;>simp_all) h.2⟩
theorem CL {E:List (Nat×Nat)} {x y:Nat} (ZH:x≠y): ∀{r:List Nat} {S:Nat→Bool},Qp E r S→Qp ((x,y)::E) r S∨Qp ((y,x)::E) r S
 | [],S,_=> .inl trivial
 |i::r,S,h=>by
  by_cases e1:i=x
  ·subst e1
   refine .inl ⟨λp hp e=> ?_,zA (by simp[fI]) h.2⟩
   rcases List.mem_cons.1 hp with rfl|hp
   ·exact absurd e.symm ZH
   ·exact h.1 p hp e
  ·by_cases e2:i=y
   ·subst e2
    refine .inr ⟨λp hp e=> ?_,zA (by simp[fI]) h.2⟩
    rcases List.mem_cons.1 hp with rfl|hp
    ·exact absurd e ZH
    ·exact h.1 p hp e
   ·rcases CL ZH h.2 with h'|h'
    ·refine .inl ⟨λp hp e=> ?_,h'⟩
     rcases List.mem_cons.1 hp with rfl|hp
     ·exact absurd e.symm e2
     ·exact h.1 p hp e
    ·refine .inr ⟨λp hp e=> ?_,h'⟩
     rcases List.mem_cons.1 hp with rfl|hp
     ·exact absurd e.symm e1
     ·exact h.1 p hp e
theorem nO {M:List (Nat×Nat)}: ∀{leaf:List (Nat×Bool×AG)},Am M leaf=true→ ∀(p q:Nat) y z,p<q→leaf[p]? =some y→leaf[q]? =some z→Aj M y.1 y.2.2 z.1 z.2.1 z.2.2=true
 | [],_,p,q,y,z,_,hy,_=>by simp at hy
 |(i,x,g)::r,h,p,q,y,z,hpq,hy,hz=>by
  simp only[Am,Bool.and_eq_true,List.all_eq_true]at h
  cases q with
  |zero=>omega
  |succ q=>
   have hW:r[q]? =some z:=by simpa using hz
   cases p with
   |zero=>
    simp at hy
    subst hy
    exact h.1 z (List.mem_of_getElem? hW)
   |succ p=>exact nO h.2 p q y z (by omega) (by simpa using hy) hW
theorem CX: ∀{l:List Nat},zU l=true→ ∀(p q:Nat) i,l[p]? =some i→l[q]? =some i→p=q
 | [],_,p,q,i,hp,_=>by simp at hp
 |x::r,h,p,q,i,hp,hq=>by
  simp only[zU,Bool.and_eq_true,Bool.not_eq_true']at h
  have hx: ∀k,r[k]? =some x→False:= λk hk=>by
   have:=h.1
   rw[List.contains_iff_mem.2 (List.mem_of_getElem? hk)]at this
   cases this
  cases p with
  |zero=>
   simp at hp
   subst hp
   cases q with
   |zero=>rfl
   |succ q=>exact(hx q (by simpa using hq)).elim
  |succ p=>
   cases q with
   |zero=>
    simp at hq
    subst hq
    exact(hx p (by simpa using hp)).elim
   |succ q=>rw[CX h.2 p q i (by simpa using hp) (by simpa using hq)]
theorem J5 {ops:Array Oper} {gs:List AG} {leaf:List (Nat×Bool×AG)} {E:List (Nat×Nat)} {ord:List Nat} {K:St→Prop} {Q:Exit→Act→World→Prop}
  (hc:gk P dr nt ops ops.toList=some gs) (HB:rW 0 ops.toList=true) (hH:(gs.all λg=> !g.op.gcall)=true) (HP:Am (vR ops.toList E ord []) leaf=true) (z4:leaf.map (·.1)=ord) (gt: ∀y∈leaf,gs[y.1]? =some y.2.2)
  (Zt:zU ord=true) (hC: ∀i,i<gs.length→i∈ord) (h:jA P (qd leaf) σ K) (hs:bV w0 U σ ι a w) (hz:a.tmps.size=nt)
  (hq: ∀σ' ι' a' w',K σ'→bV w0 U σ' ι' a' w'→a'.tmps.size=nt→Q .normal a' w') {sched:List Nat} (hY:L5 ops sched (Array.replicate ops.size false)) (hE:Qp E sched (λ_=>false)):wpOps P ops Q sched a w:=by
 have Za:((qd leaf).all λy=> !y.2.op.gcall)=true:=by
  rw[List.all_eq_true]
  intro y hy
  obtain⟨z,Zu,rfl⟩:=List.mem_map.1 hy
  exact List.all_eq_true.1 hH _ (List.mem_of_getElem? (gt z Zu))
 obtain⟨v,s,hX,z5,hK⟩:=A7 Za h
 obtain⟨HM,Zv⟩:=LI hc
 have hn:ops.size=gs.length:=by rw[←HM,Array.length_toList]
 let gs':List AG:=leaf.map (·.2.2)
 have Zb:gs'.length=leaf.length:=by simp[gs']
 have Zw:(qd leaf).length=gs'.length:=by simp[qd,gs']
 rw[Zw]at hK
 have ge: ∀{p:Nat} {g:AG},gs'[p]? =some g→ ∃y,leaf[p]? =some y∧y.2.2=g:=by
  intro p g hp
  simp only[gs',List.getElem?_map,Option.map_eq_some_iff]at hp
  exact hp
 have hA: ∀k g,gs'[k]? =some g→kx P g (s k) (v k) (s (k+1)):=by
  intro k g hk
  obtain⟨y,hy,rfl⟩:=ge hk
  exact(z5 k y.2 (by simp[qd,hy])).1
 have ZI: ∀k y,leaf[k]? =some y→y.2.1=true→jP (s k).mem (s (k+1)).mem:= λk y hy=>(z5 k y.2 (by simp[qd,hy])).2
 have g6: ∀{p:Nat} {y:Nat×Bool×AG},leaf[p]? =some y→ord[p]? =some y.1:=by
  intro p y hp
  rw[←z4,List.getElem?_map,hp]
  rfl
 let SS (L:Array Bool):Nat→Bool:= λp=>L.getD ((ord[p]?).getD 0) false
 let LL (L:Array Bool):Nat→Bool:= λi=>L.getD i false
 have HQ: ∀(L:Array Bool) {p:Nat} {y:Nat×Bool×AG},leaf[p]? =some y→SS L p=LL L y.1:=by
  intro L p y hp
  simp only[SS,LL,g6 hp,Option.getD_some]
 let stOf (L:Array Bool):St:=⟨kM gs' v (s 0).fr (SS L) gs'.length,(gO gs' s (SS L) gs'.length).1,(gO gs' s (SS L) gs'.length).2,(s 0).base⟩
 have main: ∀(sched:List Nat) (L:Array Bool) (ι:Pl) (a:Act) (w:World),L.size=gs.length→Eh ops.toList E (LL L)→L5 ops sched L→Qp E sched (LL L)→bV w0 U (stOf L) ι a w→a.tmps.size=nt→wpOps P ops Q sched a w:=by
  intro sched
  induction sched with
  |nil=>
   intro L ι a w hL HA hY hE g7 hz
   have hr:Region.ready .any ops L= []:=hY
   have all: ∀k,k<gs.length→LL L k=true:=by
    intro k
    induction k using Nat.strongRecOn with
    |_ k ih=>
     intro hk
     cases hS:LL L k with
     |true=>rfl
     |false=>
      exfalso
      have ZJ:k<ops.size:=by omega
      have HG:k∈Region.ready .any ops L:=by
       unfold Region.ready
       rw[List.mem_filter]
       refine⟨by simpa using ZJ, ?_⟩
       have h1:L.getD k true=false:=by
        have:k<L.size:=by omega
        simp only[LL,Array.getD_eq_getD_getElem?,Array.getElem?_eq_getElem this,Option.getD_some]at hS ⊢
        exact hS
       rw[h1]
       simp only[Bool.not_false,Bool.true_and,Array.getElem?_eq_getElem ZJ,Option.map_some,Option.getD_some,Array.all_eq_true]
       intro j hj
       simp only[Bool.or_eq_true,Bool.not_eq_true']
       cases Zx:Region.binds .any ops[k].after[j]with
       |false=>exact .inl rfl
       |true=>
        have:=Ar HB (j:=k) (o:=ops[k]) (by simp[ZJ]) ops[k].after[j] (by simp) Zx
        right
        exact ih ops[k].after[j].on (by omega) (by omega)
      rw[hr]at HG
      cases HG
   have allS: ∀p,p<gs'.length→SS L p=true:=by
    intro p hp
    have hy:=List.getElem?_eq_getElem (show p<leaf.length by omega)
    rw[HQ L hy]
    exact all _ (List.getElem?_eq_some_iff.1 (gt _ (List.mem_of_getElem? hy))).1
   have g8: ∀t,bc (kM gs' v (s 0).fr (SS L) gs'.length) t=bc (s gs'.length).fr t:= λt=>
    nb hA (Nat.le_refl _) (Nat.le_refl _) λk hk _=>⟨λ_=>hk,λ_=>allS k hk⟩
   have g9:=nr hA (S:=SS L) (i:=gs'.length) (Nat.le_refl _) (Nat.le_refl _) λk hk _=>⟨λ_=>hk,λ_=>allS k hk⟩
   show Q .normal a w
   refine hq (s gs'.length) ι a w hK ?_ hz
   have:=g7.fr (fr:=(s gs'.length).fr) λt=>(g8 t).symm
   simp only[stOf,g9]at this
   rw[←tS hA (Nat.le_refl _)]at this
   exact this
  |cons i r ih=>
   intro L ι a w hL HA hY hE g7 hz
   obtain⟨hi,hY⟩:=hY
   obtain⟨Zc,hE⟩:=hE
   rw[wpOps_cons]
   unfold Region.ready at hi
   rw[List.mem_filter]at hi
   obtain⟨Zy,G1⟩:=hi
   have q9:i<ops.size:=by simpa using Zy
   have Zz:i<gs.length:=by omega
   have ho:ops[i]? =some ops[i]:=Array.getElem?_eq_getElem q9
   simp only[Bool.and_eq_true,Bool.not_eq_true',ho,Option.map_some,Option.getD_some,Array.all_eq_true]at G1
   obtain⟨G1,Z0⟩:=G1
   have ZK:LL L i=false:=by
    have:i<L.size:=by omega
    simp only[LL,Array.getD_eq_getD_getElem?,Array.getElem?_eq_getElem this,Option.getD_some]at G1 ⊢
    exact G1
   have ZL:ops.toList[i]? =some ops[i]:=by simp[q9]
   have G3: ∀k∈wj E i ops[i],LL L k=true:=by
    intro k hk
    simp only[wj,List.mem_append,List.mem_filterMap]at hk
    rcases hk with⟨e,he,hk⟩|⟨p,hp,hk⟩
    ·split at hk
     ·rename_i hb
      cases hk
      obtain⟨j,hj,rfl⟩:=List.mem_iff_getElem.1 he
      have:=Z0 j (by simpa using hj)
      simp only[Bool.or_eq_true,Bool.not_eq_true']at this
      rcases this with h|h
      ·simp at hb
       rw[hb]at h
       cases h
      ·show L.getD _ false=true
       simpa[Array.getD_eq_getD_getElem?]using h
     ·cases hk
    ·split at hk
     ·rename_i e
      cases hk
      exact Zc p hp e
     ·cases hk
   obtain⟨g,hg,Z1⟩:=Zv i ops[i] ZL
   obtain⟨p,hp⟩: ∃p,ord[p]? =some i:=List.mem_iff_getElem?.1 (hC i Zz)
   have Z2:p<leaf.length:=by
    have:=(List.getElem?_eq_some_iff.1 hp).1
    rw[←z4,List.length_map]at this
    exact this
   have HW:=List.getElem?_eq_getElem Z2
   have H7:leaf[p].1=i:=by
    have:=g6 HW
    rw[hp]at this
    cases this
    rfl
   have Q1:leaf[p].2.2=g:=by
    have:=gt _ (List.mem_of_getElem? HW)
    rw[H7,hg]at this
    cases this
    rfl
   have qm:gs'[p]? =some g:=by simp only[gs',List.getElem?_map,HW,Option.map_some,Q1]
   have Zd:p<gs'.length:=by omega
   have qp:SS L p=false:=by rw[HQ L HW,H7];exact ZK
   have bit0: ∀k i,(qB ([]:List (Nat×Nat)) k).testBit i=true→LL L k=true→LL L i=true:= λk i h _=>by simp[qB]at h
   have bit1: ∀i',(qB ([]:List (Nat×Nat)) i).testBit i'=true→LL L i'=true:= λi' h=>by simp[qB]at h
   have cU: ∀q y,leaf[q]? =some y→q<p→iL y.2.2 g=true→SS L q=true:=by
    intro q y hq O qs
    have hU:=nO HP q p y _ O hq HW
    rw[H7,Q1]at hU
    simp only[Aj,qs,Bool.not_true,Bool.false_and,Bool.or_false]at hU
    rw[HQ L hq]
    exact Bu HA ZL G3 bit0 bit1 _ hU
   have after: ∀q y,leaf[q]? =some y→p<q→iL g y.2.2=true→SS L q=false:=by
    intro q y hq O qs
    cases hS:SS L q with
    |false=>rfl
    |true=>
     exfalso
     have hU:=nO HP p q _ y O HW hq
     rw[H7,Q1]at hU
     simp only[Aj,qs,Bool.not_true,Bool.false_and,Bool.or_false]at hU
     rw[HQ L hq]at hS
     have:=kW HA bit0 _ _ hU hS
     rw[ZK]at this
     cases this
   have yes: ∀{k:Nat},k<gs'.length→ ∃y,leaf[k]? =some y∧gs'[k]? =some y.2.2:=by
    intro k hk
    have hy:=List.getElem?_eq_getElem (show k<leaf.length by omega)
    exact⟨_,hy,by simp only[gs',List.getElem?_map,hy,Option.map_some]⟩
   have g8: ∀t∈g.looks,bc (stOf L).fr t=bc (s p).fr t:=by
    intro t ht
    refine nb hA (Nat.le_refl _) (by omega) λk hk hd=> ?_
    obtain⟨y,hy,HE⟩:=yes hk
    have hR:y.2.2.dst=some t:=by simpa[rD,HE]using hd
    rcases Nat.lt_trichotomy k p with O|e|ZM
    ·refine⟨λ_=>O,λ_=>cU k _ hy O ?_⟩
     cases hx:iL y.2.2 g with
     |true=>rfl
     |false=>exact absurd ht (DA hx hR).1
    ·subst e
     rw[qp]
     exact⟨(λe=>by cases e),(λe=>by omega)⟩
    ·refine⟨λhS=> ?_,λe=>by omega⟩
     have:iL g y.2.2=true:=by
      cases hx:iL g y.2.2 with
      |true=>rfl
      |false=>exact absurd ht (Ko hx hR)
     rw[after k _ hy ZM this]at hS
     cases hS
   have g9:g.op.eff=true→(stOf L).mem=(s p).mem∧(stOf L).nx=(s p).nx:=by
    intro he
    have:=nr hA (S:=SS L) (i:=p) (n:=gs'.length) (Nat.le_refl _) (by omega) λk hk hd=>by
     obtain⟨y,hy,HE⟩:=yes hk
     have hR:y.2.2.op.eff=true:=by simpa[jp,HE]using hd
     rcases Nat.lt_trichotomy k p with O|e|ZM
     ·refine⟨λ_=>O,λ_=>cU k _ hy O ?_⟩
      cases hx:iL y.2.2 g with
      |true=>rfl
      |false=>
       have:=(no hx hR).1
       rw[he]at this;cases this
     ·subst e
      rw[qp]
      exact⟨(λe=>by cases e),(λe=>by omega)⟩
     ·refine⟨λhS=> ?_,λe=>by omega⟩
      have:iL g y.2.2=true:=by
       cases hx:iL g y.2.2 with
       |true=>rfl
       |false=>
        have:=(no hx he).1
        rw[hR]at this;cases this
      rw[after k _ hy ZM this]at hS
      cases hS
    simp only[stOf,this]
    exact⟨trivial,trivial⟩
   have ZF:g.op.eff=false→g.op.sens=true→jP (s p).mem (stOf L).mem:=by
    intro zg Ze
    refine CN hA (S:=SS L) (p:=p) (λk hk hd=> ?_) (λk hpk hk hd hS=> ?_) (λk q Z3 hq hd gd hS=> ?_) (Nat.le_refl _) (by omega)
    ·obtain⟨y,hy,HE⟩:=yes (show k<gs'.length by omega)
     have hR:y.2.2.op.eff=true:=by simpa[jp,HE]using hd
     refine cU k _ hy hk ?_
     cases hx:iL y.2.2 g with
     |true=>rfl
     |false=>
      have:=(no hx hR).2
      rw[Ze]at this;cases this
    ·obtain⟨y,hy,HE⟩:=yes hk
     have hR:y.2.2.op.eff=true:=by simpa[jp,HE]using hd
     have hne':p≠k:=by
      rintro rfl
      rw[qp]at hS
      cases hS
     have hU:=nO HP p k _ y (by omega) HW hy
     rw[H7,Q1]at hU
     simp only[Aj,Bool.or_eq_true,Bool.and_eq_true,Ze,hR]at hU
     rcases hU with hU|⟨_,hU⟩
     ·exfalso
      rw[HQ L hy]at hS
      have:=kW HA bit0 _ _ hU hS
      rw[ZK]at this
      cases this
     ·simp at hU
      exact ZI k y hy hU
    ·obtain⟨y,hy,HE⟩:=yes (show k<gs'.length by omega)
     obtain⟨z,hW,Z4⟩:=yes hq
     have hR:y.2.2.op.eff=true:=by simpa[jp,HE]using hd
     have Zf:z.2.2.op.eff=true:=by simpa[jp,Z4]using gd
     have hU:=nO HP k q y z Z3 hy hW
     have Z5:iL y.2.2 z.2.2=true:=by
      cases hx:iL y.2.2 z.2.2 with
      |true=>rfl
      |false=>
       have:=(no hx hR).1
       rw[Zf]at this;cases this
     simp only[Aj,Z5,Bool.not_true,Bool.false_and,Bool.or_false]at hU
     rw[HQ L hW]at hS
     rw[HQ L hy]
     exact kW HA bit0 _ _ hU hS
   obtain⟨τ,k1,k2,k3,k4⟩:=(hA p g qm).congr (σ2:=stOf L) g8 g9 ZF (tS hA (by omega)).symm
   refine JR ho Z1 k1 g7 hz λι' a' w' ZN hW=> ?_
   have ZO:LL (L.setIfInBounds i true)=fI (LL L) i:=by
    funext k
    simp only[LL,fI,Array.getD_eq_getD_getElem?]
    by_cases e:k=i
    ·subst e
     simp[show k<L.size by omega]
    ·rw[if_neg e,Array.getElem?_setIfInBounds_ne (Ne.symm e)]
   have Zg: ∀q,q<gs'.length→SS (L.setIfInBounds i true) q=fI (SS L) p q:=by
    intro q hq
    obtain⟨y,hy,_⟩:=yes hq
    rw[HQ _ hy,ZO]
    simp only[fI]
    by_cases e:q=p
    ·subst e
     rw[HW]at hy
     cases hy
     rw[if_pos H7,if_pos rfl]
    ·rw[if_neg e,HQ L hy,if_neg]
     intro e2
     have h1:=g6 hy
     rw[e2]at h1
     exact e (CX Zt q p i h1 hp)
   have frS: ∀(S S':Nat→Bool) n,(∀q,q<n→S q=S' q)→kM gs' v (s 0).fr S n=kM gs' v (s 0).fr S' n:=by
    intro S S' n
    induction n with
    |zero=>intro _;rfl
    |succ n ih=>intro hq;simp only[kM];rw[ih λq ZP=>hq q (by omega),hq n (by omega)]
   have memS: ∀(S S':Nat→Bool) n,(∀q,q<n→S q=S' q)→gO gs' s S n=gO gs' s S' n:=by
    intro S S' n
    induction n with
    |zero=>intro _;rfl
    |succ n ih=>intro hq;simp only[gO];rw[ih λq ZP=>hq q (by omega),hq n (by omega)]
   refine ih _ ι' a' w' (by simpa using hL) ?_ hY (by rw[ZO];exact hE) ?_ hW
   ·intro j o hj H0 k hk
    rw[ZO]at H0 ⊢
    simp only[fI]at H0 ⊢
    split
    ·rfl
    ·split at H0
     ·rename_i e1
      subst e1
      rw[ZL]at hj
      cases hj
      exact G3 k hk
     ·exact HA j o hj H0 k hk
   ·have Zh: ∀t,bc (kM gs' v (s 0).fr (SS (L.setIfInBounds i true)) gs'.length) t=bc τ.fr t:=by
     intro t
     rw[frS _ _ _ Zg,IL qp Zd λhd k O HR=> ?_,k2 t]
     ·have e:rD gs' p=g.dst:=by simp[rD,qm]
      rw[e]
     ·have hR:g.dst=some t:=by simpa[rD,qm]using hd
      have ZQ:k<gs'.length:=by
       unfold rD at HR
       cases hh:gs'[k]? with
       |none=>rw[hh]at HR;cases HR
       |some x=>exact(List.getElem?_eq_some_iff.1 hh).1
      obtain⟨y,hy,HE⟩:=yes ZQ
      refine after k _ hy O ?_
      cases hx:iL g y.2.2 with
      |true=>rfl
      |false=>exact absurd (by simpa[rD,HE]using HR) (DA hx hR).2
    have Z6:gO gs' s (SS (L.setIfInBounds i true)) gs'.length=(τ.mem,τ.nx):=by
     rw[memS _ _ _ Zg,DN qp Zd λhd k O HR=> ?_,k3]
     ·have e:jp gs' p=g.op.eff:=by simp[jp,qm]
      rw[e]
     ·have hR:g.op.eff=true:=by simpa[jp,qm]using hd
      have ZQ:k<gs'.length:=by
       unfold jp at HR
       cases hh:gs'[k]? with
       |none=>rw[hh]at HR;cases HR
       |some x=>exact(List.getElem?_eq_some_iff.1 hh).1
      obtain⟨y,hy,HE⟩:=yes ZQ
      refine after k _ hy O ?_
      cases hx:iL g y.2.2 with
      |true=>rfl
      |false=>
       have h5:=(no hx hR).1
       have h6:y.2.2.op.eff=true:=by simpa[jp,HE]using HR
       rw[h6]at h5
       cases h5
    have:=ZN.fr (fr:=kM gs' v (s 0).fr (SS (L.setIfInBounds i true)) gs'.length) Zh
    rw[k4]at this
    simp only[stOf,Z6]at this ⊢
    exact this
 have none: ∀k,LL (Array.replicate ops.size false) k=false:=by
  intro k
  simp only[LL,Array.getD_eq_getD_getElem?,Array.getElem?_replicate]
  split<;>simp
 have noneS: ∀k,SS (Array.replicate ops.size false) k=false:= λk=>none _
 refine main sched _ ι a w (by simp[hn]) (λj o hj H0=> ?_) hY ?_ ?_ hz
 ·rw[none]at H0;cases H0
 ·have:LL (Array.replicate ops.size false)= λ_=>false:=funext none
  rw[this];exact hE
 ·have g8: ∀t,bc (kM gs' v (s 0).fr (SS (Array.replicate ops.size false)) gs'.length) t=bc σ.fr t:=by
   intro t
   rw[←hX]
   exact nb hA (i:=0) (Nat.le_refl _) (by omega) λk hk _=>by rw[noneS k];exact⟨(λe=>by cases e),(λe=>by omega)⟩
  have g9:=nr hA (S:=SS (Array.replicate ops.size false)) (i:=0) (n:=gs'.length) (Nat.le_refl _) (by omega) λk hk _=>by rw[noneS k];exact⟨(λe=>by cases e),(λe=>by omega)⟩
  have:=hs.fr (fr:=kM gs' v (s 0).fr (SS (Array.replicate ops.size false)) gs'.length) g8
  simp only[stOf,g9]
  simp only[hX]at this ⊢
  exact this
theorem uV {gs:List AG} {M:List (Nat×Nat)}: ∀{ord:List Nat} {prev:List (Nat×AG)} {leaf:List (Nat×Bool×AG)},EU gs M prev ord=some leaf→leaf.map (·.1)=ord∧ ∀y∈leaf,gs[y.1]? =some y.2.2
 | [],prev,leaf,h=>by cases h;exact⟨rfl,λy hy=>by cases hy⟩
 |k::r,prev,leaf,h=>by
  unfold EU at h
  split at h
  ·rename_i g hg
   split at h
   ·rename_i l hl
    cases h
    obtain⟨h1,h2⟩:=uV hl
    refine⟨by rw[List.map_cons,h1],λy hy=> ?_⟩
    rcases List.mem_cons.1 hy with rfl|hy
    ·exact hg
    ·exact h2 y hy
   ·cases h
  ·cases h
theorem rj {ops:Array Oper} {gs:List AG} {K:St→Prop} {Q:Exit→Act→World→Prop}
  (hc:gk P dr nt ops ops.toList=some gs) (HB:rW 0 ops.toList=true) (hH:(gs.all λg=> !g.op.gcall)=true) (hs:bV w0 U σ ι a w) (hz:a.tmps.size=nt)
  (hq: ∀σ' ι' a' w',K σ'→bV w0 U σ' ι' a' w'→a'.tmps.size=nt→Q .normal a' w') {sched:List Nat} (hY:L5 ops sched (Array.replicate ops.size false)):
  ∀{f:Nat} {E:List (Nat×Nat)} {gss:List (List (Nat×Bool×AG))},zX ops.toList gs f E=some gss→(∀leaf∈gss,jA P (qd leaf) σ K)→Qp E sched (λ_=>false)→wpOps P ops Q sched a w
 |0,E,gss,h,_,_=>by cases h
 |f+1,E,gss,h,hC,hE=>by
  unfold zX at h
  split at h
  ·cases h
  ·rename_i ord _
   split at h
   ·cases h
   ·rename_i leaf hb
    split at h
    ·split at h
     ·rename_i z9
      cases h
      simp only[Bool.and_eq_true,List.all_eq_true,List.mem_range]at z9
      obtain⟨⟨⟨h1,h2⟩,h3⟩,h4⟩:=z9
      obtain⟨k1,k2⟩:=uV hb
      exact J5 hc HB hH h1 k1 k2 h2 (λi hi=>List.contains_iff_mem.1 (h3 i hi)) (hC leaf List.mem_cons_self) hs hz hq hY hE
     ·cases h
    ·rename_i i k _
     split at h
     ·cases h
     ·rename_i zg
      split at h
      ·rename_i ga gb ha gg
       cases h
       rcases CL zg hE with h'|h'
       ·exact rj hc HB hH hs hz hq hY ha (λleaf hl=>hC leaf (List.mem_append_left _ hl)) h'
       ·exact rj hc HB hH hs hz hq hY gg (λleaf hl=>hC leaf (List.mem_append_right _ hl)) h'
      ·cases h
theorem JV {ops:Array Oper} {gs:List AG} {gss:List (List (Bool×AG))} {K:St→Prop} {Q:Exit→Act→World→Prop} (hc:gk P dr nt ops ops.toList=some gs) (hd:nj P ops.toList gs= .draw gss) (h:vN P gss σ K) (hs:bV w0 U σ ι a w) (hz:a.tmps.size=nt)
  (hq: ∀σ' ι' a' w',K σ'→bV w0 U σ' ι' a' w'→a'.tmps.size=nt→Q .normal a' w'): ∀t,wpOps P ops Q (Region.schedule (P.follows .mixedOrders) ops t) a {w with drawn:=w.drawn+1}:=by
 unfold nj at hd
 split at hd
 ·rename_i hJ
  simp only[Bool.and_eq_true]at hJ
  obtain⟨⟨Zi,HB⟩,hH⟩:=hJ
  split at hd
  ·rename_i l hl
   cases hd
   have J:bV w0 U σ ι a {w with drawn:=w.drawn+1}:=hs.grow ⟨rfl,rfl,rfl,Nat.le_refl _,λ_ _=>rfl⟩
   intro t
   simp only[Region.schedule,Zi,Bool.true_or,if_true]
   refine rj hc HB hH J hz hq (O2 _ _ _ (by simp) ?_) hl (λleaf Z7=>Dk h _ (List.mem_map_of_mem Z7)) KD
   have h0: ∀n,KB (λk=>(Array.replicate ops.size false).getD k false) n=0:=by
    intro n
    induction n with
    |zero=>rfl
    |succ n ih=>
     simp only[KB,ih]
     rw[if_neg]
     simp only[Array.getD_eq_getD_getElem?,Array.getElem?_replicate]
     split<;>simp
   rw[h0]
   omega
  ·cases hd
 ·cases hd
end
open Go.RowKit
section
variable {P : Program} {a : Act} {w w' w0 : World} {U : Gh} {ι : Pl} {σ : St} {nt : Nat} {dr : Bool}
theorem lk {ops:Array Oper} {Q:Exit→Act→World→Prop} {K:St→Prop}: ∀{l:List Oper} {gs:List AG} {σ:St} {ι:Pl} {a:Act} {w:World},gk P dr nt ops l=some gs→lK P gs σ K→bV w0 U σ ι a w→a.tmps.size=nt→
  (∀σ' ι' a' w',K σ'→bV w0 U σ' ι' a' w'→a'.tmps.size=nt→Q .normal a' w')→wpList P ops Q l a w
 |[],gs,σ,ι,a,w,hc,h,hs,h9,hq=>by
  cases hc
  exact hq σ ι a w h hs h9
 |o::l,gs,σ,ι,a,w,hc,h,hs,h9,hq=>by
  unfold gk at hc
  split at hc
  ·rename_i g gs' h1 h2
   cases hc
   unfold tg at h1
   by_cases HC:J7 nt o.dst=false
   ·rw[if_pos HC]at h1;cases h1
   ·rw[if_neg HC]at h1
    have hd: ∀t,o.dst=some t→t<a.tmps.size:=by
     intro t ht
     rw[ht]at HC
     have h5:t<nt:=by simpa[J7]using HC
     rw[h9]
     exact h5
    split at h1
    ·rename_i ao q8
     have run: ∀{K':AV→St→Prop},bR P ao σ K'→(∀v σ',K' v σ'→lK P gs' (σ'.put o.dst v) K)→o.wp P a w (wpList P ops Q l) Q:=by
      intro K' C hk
      refine G7 q8 C hs ?_
      intro v σ' ι' u w' hv J hr
      exact lk h2 (hk v σ' hv) (J.put hd hr) (by rw[rF];exact h9) hq
     have skip:lK P gs' (σ.put o.dst (.tup [])) K→wpList P ops Q l (a.put o.dst undef) w:= λhk=>
      lk h2 hk (hs.put hd ip) (by rw[rF];exact h9) hq
     unfold wpList
     split at h1
     ·rename_i qw
      cases h1
      simp only[lK]at h
      rw[if_pos (by simp[Region.wanted,qw])]
      exact .inl (run h λ_ _ h=>h)
     ·rename_i j want qw
      split at h1
      ·rename_i t ht
       cases h1
       simp only[lK]at h
       have Y:=hs.val t
       split at h
       ·rename_i b e
        rw[e]at Y
        have hb:=qM (bo Y).1 (by intro e;cases e)
        have hy:yielded ops a.tmps j=some b:=by simp[yielded,ht,hb]
        by_cases z0:b=want
        ·rw[if_pos (by simp[Region.wanted,qw,hy,z0])]
         exact .inl (run (h.1 (by simp[z0])) λ_ _ h=>h)
        ·rw[if_neg (by simp[Region.wanted,qw,hy,z0])]
         exact skip (h.2 (by simp[z0]))
       ·rename_i e
        rw[e]at Y
        have hu:a.tmps.getD t undef=undef:=by
         generalize a.tmps.getD t undef=z at Y
         cases Y with
         | @tup _ vs hl _=>
          have:vs= #[]:=Array.eq_empty_of_size_eq_zero (by simpa using hl.symm)
          rw[this]
          rfl
        have hy:yielded ops a.tmps j=none:=by
         unfold yielded
         simp only[ht,Option.bind_some]
         simp only[Array.getD_eq_getD_getElem?]at hu
         cases e':a.tmps[t]? with
         |none=>rfl
         |some z=>
          rw[e']at hu
          simp at hu
          subst hu
          rfl
        rw[if_neg (by simp[Region.wanted,qw,hy])]
        exact skip h
       ·exact h.elim
      ·cases h1
    ·cases h1
  ·cases hc
end
section
variable {P : Program}
theorem iX {ops:List Oper} {gs:List AG}:(∃gss,nj P ops gs= .draw gss)∨nj P ops gs= .region gs true:=by
 unfold nj
 split
 ·split
  ·exact .inl ⟨_,rfl⟩
  ·exact .inr rfl
 ·exact .inr rfl
theorem gm {dr:Bool} {ops:List Oper} {gs:List AG}:(∃x,nQ P dr ops gs= .draw x)∨(∃x,nQ P dr ops gs= .region gs x):=by
 unfold nQ
 split
 ·rcases iX (P:=P) (ops:=ops) (gs:=gs)with⟨x,e⟩|e
  ·exact .inl ⟨x,e⟩
  ·exact .inr ⟨true,e⟩
 ·exact .inr ⟨false,rfl⟩
@[simp] theorem TI {dr:Bool} {ops:List Oper} {gs:List AG}:(nQ P dr ops gs= .skip)=False:=eq_false λh=>by
 rcases gm (P:=P) (dr:=dr) (ops:=ops) (gs:=gs)with⟨x,e⟩|⟨x,e⟩<;>rw[e]at h<;>cases h
@[simp] theorem U5 {dr:Bool} {ops:List Oper} {gs:List AG}:(nQ P dr ops gs= .ret)=False:=eq_false λh=>by
 rcases gm (P:=P) (dr:=dr) (ops:=ops) (gs:=gs)with⟨x,e⟩|⟨x,e⟩<;>rw[e]at h<;>cases h
@[simp] theorem Tt {dr:Bool} {ops:List Oper} {gs:List AG} {i:Nat}:(nQ P dr ops gs= .exit i)=False:=eq_false λh=>by
 rcases gm (P:=P) (dr:=dr) (ops:=ops) (gs:=gs)with⟨x,e⟩|⟨x,e⟩<;>rw[e]at h<;>cases h
@[simp] theorem T8 {dr:Bool} {ops:List Oper} {gs:List AG} {x y:bi}:(nQ P dr ops gs= .seq x y)=False:=eq_false λh=>by
 rcases gm (P:=P) (dr:=dr) (ops:=ops) (gs:=gs)with⟨x,e⟩|⟨x,e⟩<;>rw[e]at h<;>cases h
@[simp] theorem Tv {dr:Bool} {ops:List Oper} {gs:List AG} {c:AX} {x y:bi}:(nQ P dr ops gs= .cond c x y)=False:=eq_false λh=>by
 rcases gm (P:=P) (dr:=dr) (ops:=ops) (gs:=gs)with⟨x,e⟩|⟨x,e⟩<;>rw[e]at h<;>cases h
@[simp] theorem Th {dr:Bool} {ops:List Oper} {gs:List AG} {i:Nat} {x:bi}:(nQ P dr ops gs= .block i x)=False:=eq_false λh=>by
 rcases gm (P:=P) (dr:=dr) (ops:=ops) (gs:=gs)with⟨x,e⟩|⟨x,e⟩<;>rw[e]at h<;>cases h
@[simp] theorem Tu {dr:Bool} {ops:List Oper} {gs:List AG} {x:bi}:(nQ P dr ops gs= .loop x)=False:=eq_false λh=>by
 rcases gm (P:=P) (dr:=dr) (ops:=ops) (gs:=gs)with⟨x,e⟩|⟨x,e⟩<;>rw[e]at h<;>cases h
@[simp] theorem Sc {dr:Bool} {ops:List Oper} {gs:List AG} {f:AX} {ps:List Nat} {x y:bi}:(nQ P dr ops gs= .rangeF f ps x y)=False:=eq_false λh=>by
 rcases gm (P:=P) (dr:=dr) (ops:=ops) (gs:=gs)with⟨x,e⟩|⟨x,e⟩<;>rw[e]at h<;>cases h
end
inductive bP where
 |normal
 |exit (id:Nat)
 |ret
def nZ:bP→Exit
 | .normal=> .normal
 | .exit id=> .exit id
 | .ret=> .ret
def FR (rd:Option Nat):Fence:={Fence.wide with round:=rd}
def sh (ds:List Deferred) (a:Act):Act:={a with defers:=a.defers++ds}
def Lf (ds:List Deferred) (K:Act→World→Prop):Act→World→Prop:= λa' w'=> ∃a0,a'=sh ds a0∧K a0 w'
def Vd (ds:List Deferred) (Q:Exit→Act→World→Prop):Exit→Act→World→Prop:= λe a' w'=> ∃a0,a'=sh ds a0∧Q e a0 w'
theorem wH {ds:List Deferred} {a:Act} {d:Option Tmp} {v:Value}:(sh ds a).put d v=sh ds (a.put d v):=by cases d<;>rfl
theorem Ft {ds:List Deferred} {a:Act}:(sh ds a).eval=a.eval:=by
 funext x
 cases x<;>rfl
theorem EH {P:Program} {rd:Option Nat} {n:Nat} {f:FuncId} {args:Array Value} {w:World} {R:Ending→World→Prop} (h:Calls P f args w R):CallsIn (FR rd) n P f args w R:=
 (callsIn_wide (n:=n)).2 h
theorem Ss {P:Program} {rd:Option Nat} {n:Nat} {row:String} {args:Array Value} {w:World} {R:Value→World→Prop} (h:Rows P row args w R):RowsIn (FR rd) n P row args w R:=by
 intro c cs _
 obtain⟨v,w',hr,hs⟩:=h c cs
 exact⟨v,w',hr,stepsIn_wide.2 hs⟩
theorem RY {P:Program} {rd:Option Nat} {ds:List Deferred} {n:Nat} {o:Oper} {a:Act} {w:World} {next:Act→World→Prop} {Q:Exit→Act→World→Prop}
  (hd: ∀c,o.op≠ .defer c) (hl: ¬LetsOut Q) (h:o.wp P a w next Q):o.wpIn (FR rd) n P (sh ds a) w (Lf ds next) (Vd ds Q):=by
 refine⟨λ_ _=>trivial, ?_⟩
 rw[Oper.semAt_eq _ _ _ hd,Ft]
 unfold Oper.wp at h
 generalize (execOp a.eval o).run P w=r at h
 cases r with
 |ok nx w'=>
  cases nx<;>simp only[Oper.upon,Oper.uponIn]at h ⊢
  case value v=>exact⟨_,wH,h⟩
  case skip=>exact⟨_,wH,h⟩
  case defer d=>
   refine⟨{a with defers:=d::a.defers}.put o.dst undef, ?_,h⟩
   cases o.dst<;>rfl
  case enter f args=>
   refine⟨by simp[FR,Fence.wide],EH (h.mono λe w'' h=> ?_)⟩
   cases e with
   |returned v=>exact⟨_,wH,h⟩
   |panicked ch=>exact⟨_,rfl,h⟩
   |outgrown=>exact absurd h hl
  case row row args=>
   exact⟨by simp[FR,Fence.wide],Ss (h.mono λv w'' h=>⟨_,wH,h⟩)⟩
 |halt hh w'=>
  cases hh<;>simp only[Oper.upon,Oper.uponIn]at h ⊢
  case panic v=>exact⟨_,rfl,h⟩
theorem Ho {P:Program} {dr:Bool} {nt:Nat} {ops:Array Oper} {o:Oper} {g:AG} (h:tg P dr nt ops o=some g): ∀c,o.op≠ .defer c:=by
 intro c e
 unfold tg at h
 rw[e]at h
 split at h
 ·cases h
 ·simp[bZ]at h
theorem jE {P:Program} {dr:Bool} {nt:Nat} {ops:Array Oper}: ∀{l:List Oper} {gs:List AG},gk P dr nt ops l=some gs→ ∀o∈l,∀c,o.op≠ .defer c
 | [],_,_,o,ho=>by cases ho
 |x::l,gs,h,o,ho=>by
  unfold gk at h
  split at h
  ·rename_i g gs' h1 h2
   rcases List.mem_cons.1 ho with rfl|ho
   ·exact Ho h1
   ·exact jE h2 o ho
  ·cases h
theorem rQ {P:Program} {rd:Option Nat} {ds:List Deferred} {n:Nat} {ops:Array Oper} {Q:Exit→Act→World→Prop} (hl: ¬LetsOut Q): ∀{l:List Oper} {a:Act} {w:World},(∀o∈l,∀c,o.op≠ .defer c)→
  wpList P ops Q l a w→wpListIn (FR rd) n P ops (Vd ds Q) l (sh ds a) w
 | [],a,w,_,h=>⟨a,rfl,h⟩
 |o::l,a,w,hd,h=>by
  unfold wpList at h
  unfold wpListIn
  by_cases hw:Region.wanted o (yielded ops a.tmps)=true
  ·rw[if_pos hw]at h
   have H1:Region.wanted o (yielded ops (sh ds a).tmps)=true:=hw
   rw[if_pos H1]
   rcases h with h|⟨_,h⟩
   ·have:=RY (rd:=rd) (ds:=ds) (n:=n) (hd o List.mem_cons_self) hl h
    refine Oper.wpIn_mono (λa' w' ⟨a0,e,hk⟩=> ?_) this
    subst e
    exact rQ hl (λo ho=>hd o (List.mem_cons_of_mem _ ho)) hk
   ·exact absurd h hl
  ·rw[if_neg hw]at h
   have H1: ¬Region.wanted o (yielded ops (sh ds a).tmps)=true:=hw
   rw[if_neg H1,wH]
   exact⟨λ_ _=>trivial,rQ hl (λo ho=>hd o (List.mem_cons_of_mem _ ho)) h⟩
theorem EQ {P:Program} {rd:Option Nat} {ds:List Deferred} {n:Nat} {ops:Array Oper} {Q:Exit→Act→World→Prop} (hl: ¬LetsOut Q) (hd: ∀o∈ops.toList,∀c,o.op≠ .defer c): ∀{l:List Nat} {a:Act} {w:World},
  wpOps P ops Q l a w→wpOpsIn (FR rd) n P ops (Vd ds Q) l (sh ds a) w
 | [],a,w,h=>⟨a,rfl,h⟩
 |i::l,a,w,h=>by
  unfold wpOps at h
  unfold wpOpsIn
  cases ho:ops[i]? with
  |none=>
   rw[ho]at h
   exact EQ hl hd h
  |some o=>
   rw[ho]at h
   have hm:o∈ops.toList:=Array.mem_toList_iff.2 (Array.mem_of_getElem? ho)
   dsimp only at h ⊢
   by_cases hw:Region.wanted o (yielded ops a.tmps)=true
   ·rw[if_pos hw]at h
    have H1:Region.wanted o (yielded ops (sh ds a).tmps)=true:=hw
    rw[if_pos H1]
    rcases h with h|⟨_,h⟩
    ·have:=RY (rd:=rd) (ds:=ds) (n:=n) (hd o hm) hl h
     refine Oper.wpIn_mono (λa' w' ⟨a0,e,hk⟩=> ?_) this
     subst e
     exact EQ hl hd hk
    ·exact absurd h hl
   ·rw[if_neg hw]at h
    have H1: ¬Region.wanted o (yielded ops (sh ds a).tmps)=true:=hw
    rw[if_neg H1,wH]
    exact⟨λ_ _=>trivial,EQ hl hd h⟩
def O4 (U:Gh) (rd:Option Nat):Prop:= ∀l,rd=some l→ ∀w V,U.G w V→ ∃r,w.heap[l]? =some (.loop r)
inductive Iz (B:Nat) (rd:Option Nat) (U:Gh) (ds:List Deferred):Gh→List Deferred→Prop
 |refl:Iz B rd U ds U ds
 |mark {U' U'':Gh} {ds':List Deferred} {D:Nat} (h:Iz B rd U ds U' ds') (hr:rd=none) (hD:B≤D) (hp:U''.p=U'.p) (hi:U''.ι0=U'.ι0)
   (hG: ∀w V,U''.G w V→U'.G w V∧V D∧w.heap[D]? =some (.deferred (some []))∧U'.G (w.putObj D (.deferred none)) V):Iz B rd U ds U'' ({target:= .collected D,args:= #[]}::ds')
theorem Iz.trans {B:Nat} {rd:Option Nat} {U U' U'':Gh} {ds ds' ds'':List Deferred} (h:Iz B rd U ds U' ds') (h':Iz B rd U' ds' U'' ds''):Iz B rd U ds U'' ds'':=by
 induction h' with
 |refl=>exact h
 |mark _ hr hD hp hi hG ih=>exact .mark ih hr hD hp hi hG
theorem Iz.le {B:Nat} {rd:Option Nat} {U U':Gh} {ds ds':List Deferred} (h:Iz B rd U ds U' ds'):U'.p=U.p∧U'.ι0=U.ι0∧ ∀w V,U'.G w V→U.G w V:=by
 induction h with
 |refl=>exact⟨rfl,rfl,λ_ _ h=>h⟩
 |mark _ _ _ hp hi hG ih=>exact⟨hp.trans ih.1,hi.trans ih.2.1,λw V h=>ih.2.2 w V (hG w V h).1⟩
theorem Iz.inRound {B l:Nat} {U U':Gh} {ds ds':List Deferred} (h:Iz B (some l) U ds U' ds'):U'=U∧ds'=ds:=by
 cases h with
 |refl=>exact⟨rfl,rfl⟩
 |mark _ hr=>cases hr
theorem O4.ext {B:Nat} {rd:Option Nat} {U U':Gh} {ds ds':List Deferred} (hr:O4 U rd) (h:Iz B rd U ds U' ds'):O4 U' rd:= λl e w V hg=>hr l e w V (h.le.2.2 w V hg)
def vL (w0:World) (U:Gh) (rd:Option Nat) (ds:List Deferred) (nt:Nat) (Q:bP→St→Prop):Exit→Act→World→Prop:= λe a w=>
 ∃e' σ ι U' ds' a0,e=nZ e'∧Q e' σ∧bV w0 U' σ ι a0 w∧a0.tmps.size=nt∧a=sh ds' a0∧Iz w0.heap.size rd U ds U' ds'
theorem vL.ext {w0:World} {U U':Gh} {rd:Option Nat} {ds ds':List Deferred} {nt:Nat} {Q:bP→St→Prop} {e:Exit} {a:Act} {w:World} (h:vL w0 U' rd ds' nt Q e a w) (hx:Iz w0.heap.size rd U ds U' ds'):vL w0 U rd ds nt Q e a w:=by
 obtain⟨e',σ,ι,U2,ds2,a0,h1,h2,h3,h4,h5,h6⟩:=h
 exact⟨e',σ,ι,U2,ds2,a0,h1,h2,h3,h4,h5,hx.trans h6⟩
theorem vL.here {w0:World} {U:Gh} {rd:Option Nat} {ds:List Deferred} {nt:Nat} {Q:bP→St→Prop} {e':bP} {σ:St} {ι:Pl} {a:Act} {w:World} (hq:Q e' σ) (hs:bV w0 U σ ι a w) (hz:a.tmps.size=nt):vL w0 U rd ds nt Q (nZ e') (sh ds a) w:=
 ⟨e',σ,ι,U,ds,a,rfl,hq,hs,hz,rfl,.refl⟩
def AW (P:Program) (nt:Nat) (c:bi) (σ:St) (Q:bP→St→Prop):Prop:=
 ∀(c':Code),d8 P nt c'=some c→ ∀w0 U rd ds ι a w,O4 U rd→bV w0 U σ ι a w→a.tmps.size=nt→c'.wpIn (FR rd) 0 P (vL w0 U rd ds nt Q) (sh ds a) w
def RN (P:Program) (nt:Nat) (b:bi) (Q:bP→St→Prop):bP→St→Prop
 | .normal,σ=>AW P nt b σ Q
 | .exit i,σ=>Q (.exit i) σ
 | .ret,σ=>Q .ret σ
def Jr (id:Nat) (Q:bP→St→Prop):bP→St→Prop
 | .normal,σ=>Q .normal σ
 | .exit i,σ=>if i=id then Q .normal σ else Q (.exit i) σ
 | .ret,σ=>Q .ret σ
section
variable {P : Program} {nt : Nat} {σ : St} {Q Q' : bP → St → Prop}
theorem AW.mono {c:bi} (h:AW P nt c σ Q) (hq: ∀e σ,Q e σ→Q' e σ):AW P nt c σ Q':=
 λc' hc w0 U rd ds ι a w hr hs hz=>wpIn_mono (h c' hc w0 U rd ds ι a w hr hs hz) λe a w ⟨e',σ',ι',U',ds',a0,h1,h2,h3⟩=>⟨e',σ',ι',U',ds',a0,h1,hq _ _ h2,h3⟩
theorem kK (h:Q .normal σ):AW P nt .skip σ Q:=by
 intro c' hc w0 U rd ds ι a w Z hs hz
 cases c'<;>simp[d8]at hc
 ·exact wpIn_skip (vL.here (e':= .normal) h hs hz)
 all_goals(try(split at hc<;>simp at hc))
theorem lV (h:Q .ret σ):AW P nt .ret σ Q:=by
 intro c' hc w0 U rd ds ι a w Z hs hz
 cases c'<;>simp[d8]at hc
 all_goals(try(split at hc<;>simp at hc))
 exact wpIn_ret (vL.here (e':= .ret) h hs hz)
theorem Q7 {id:Nat} (h:Q (.exit id) σ):AW P nt (.exit id) σ Q:=by
 intro c' hc w0 U rd ds ι a w Z hs hz
 cases c'<;>simp[d8]at hc
 all_goals(try(split at hc<;>simp at hc))
 subst hc
 exact wpIn_exit (vL.here (e':= .exit _) h hs hz)
theorem bU {x y:bi} (h:AW P nt x σ (RN P nt y Q)):AW P nt (.seq x y) σ Q:=by
 intro c' hc w0 U rd ds ι a w Z hs hz
 cases c'<;>simp[d8]at hc
 all_goals(try(split at hc<;>simp at hc))
 rename_i b1 b2 c1 c2 h1 h2
 obtain⟨rfl,rfl⟩:=hc
 refine wpIn_seq (wpIn_mono (h _ h1 w0 U rd ds ι a w Z hs hz) ?_)
 rintro e a1 w1 ⟨e',σ',ι',U',ds',a0,rfl,hq,J,h9,rfl,hx⟩
 cases e' with
 |normal=>exact wpIn_mono (hq _ h2 w0 U' rd ds' ι' a0 w1 (Z.ext hx) J h9) λe a w h=>h.ext hx
 |exit id=>exact⟨.exit id,σ',ι',U',ds',a0,rfl,hq,J,h9,rfl,hx⟩
 |ret=>exact⟨.ret,σ',ι',U',ds',a0,rfl,hq,J,h9,rfl,hx⟩
theorem uE {x:bi} {id:Nat} (h:AW P nt x σ (Jr id Q)):AW P nt (.block id x) σ Q:=by
 intro c' hc w0 U rd ds ι a w Z hs hz
 cases c'<;>simp[d8]at hc
 all_goals(try(split at hc<;>simp at hc))
 rename_i i1 c1
 obtain⟨rfl,h1⟩:i1=id∧d8 P nt c1=some x:=by simp_all
 refine wpIn_block (wpIn_mono (h _ h1 w0 U rd ds ι a w Z hs hz) ?_)
 rintro e a1 w1 ⟨e',σ',ι',U',ds',a0,rfl,hq,J,h9,rfl,hx⟩
 cases e' with
 |normal=>exact⟨.normal,σ',ι',U',ds',a0,rfl,hq,J,h9,rfl,hx⟩
 |exit i=>
  simp only[Jr]at hq
  by_cases hi:i=i1
  ·rw[if_pos hi]at hq
   simp only[nZ,Exit.inBlock,if_pos hi]
   exact⟨.normal,σ',ι',U',ds',a0,rfl,hq,J,h9,rfl,hx⟩
  ·rw[if_neg hi]at hq
   simp only[nZ,Exit.inBlock,if_neg hi]
   exact⟨.exit i,σ',ι',U',ds',a0,rfl,hq,J,h9,rfl,hx⟩
 |ret=>exact⟨.ret,σ',ι',U',ds',a0,rfl,hq,J,h9,rfl,hx⟩
theorem fw {c:AX} {x y:bi} {t:Bool} (hc:c.ev σ.fr= .c (.pure (.val (.bool t)))) (h1:t=true→AW P nt x σ Q) (h2:t=false→AW P nt y σ Q):AW P nt (.cond c x y) σ Q:=by
 intro c' z1 w0 U rd ds ι a w Z hs hz
 cases c'<;>simp[d8]at z1
 all_goals(try(split at z1<;>simp at z1))
 rename_i o b1 b2 _ _ _ x1 x2 x3 g1 g2 g3
 obtain⟨rfl,rfl,rfl⟩:=z1
 have r1:=aB g1 hs
 rw[hc]at r1
 have ho:=(bo r1).1
 have q7:(sh ds a).eval o= .bool t:=by rw[Ft];exact ho
 cases t with
 |true=>exact wpIn_cond_true q7 (h1 rfl _ g2 w0 U rd ds ι a w Z hs hz)
 |false=>exact wpIn_cond_false q7 (h2 rfl _ g3 w0 U rd ds ι a w Z hs hz)
theorem KE {w0:World} {U:Gh} {rd:Option Nat} {ds:List Deferred}: ∀e a w,Vd ds (λe a w=> ∃σ ι,e= .normal∧Q .normal σ∧bV w0 U σ ι a w∧a.tmps.size=nt) e a w→vL w0 U rd ds nt Q e a w:=by
 rintro e a w ⟨a0,rfl,σ,ι,rfl,hq,hs,hz⟩
 exact vL.here (e':= .normal) hq hs hz
theorem qL {w0:World} {U:Gh}: ¬LetsOut (λe a w=> ∃σ ι,e= .normal∧Q .normal σ∧bV w0 U σ ι a w∧a.tmps.size=nt):=by
 rintro⟨_,_,_,_,h,_⟩
 cases h
theorem Mx {gs:List AG} (h:lK P gs σ (Q .normal)):AW P nt (.region gs false) σ Q:=by
 intro c' hc w0 U rd ds ι a w Z hs hz
 cases c'<;>simp[d8]at hc
 all_goals(try(split at hc<;>simp at hc))
 rename_i id ops dr
 obtain⟨g1,h1,hg⟩:=hc
 cases dr with
 |false=>
  simp[nQ]at hg
  subst hg
  refine wpIn_mono (wpIn_region_list (rQ (ds:=ds) qL (jE h1) (lk h1 h hs hz λσ' ι' a' w' hq J hW=>⟨σ',ι',rfl,hq,J,hW⟩))) KE
 |true=>
  simp only[nQ,if_true]at hg
  rcases iX (P:=P) (ops:=ops.toList) (gs:=g1)with⟨x,e⟩|e<;>rw[e]at hg<;>simp at hg
theorem Rn {gss:List (List (Bool×AG))} (h:vN P gss σ (Q .normal)):AW P nt (.draw gss) σ Q:=by
 intro c' hc w0 U rd ds ι a w Z hs hz
 cases c'<;>simp[d8]at hc
 all_goals(try(split at hc<;>simp at hc))
 rename_i id ops dr
 obtain⟨g1,h1,hg⟩:=hc
 cases dr with
 |false=>simp[nQ]at hg
 |true=>
  simp only[nQ,if_true]at hg
  refine wpIn_mono (wpIn_region_draw λt=>EQ (ds:=ds) qL (jE h1) (JV h1 hg h hs hz (λσ' ι' a' w' hq J hW=>⟨σ',ι',rfl,hq,J,hW⟩) t)) KE
end
open Go.RowKit
def j8 (N:Nat):AC→Prop
 | .ptr nm _=>nm<N
 | .eptr nm _ _ _=>nm<N
 | .ref nm=>nm<N
 | .mref nm=>nm<N
 | .clo _ caps=>go caps
 |_=>True
where go:List AC→Prop
 | []=>True
 | .ptr nm _::r=>nm<N∧go r
 | .mref nm::r=>nm<N∧go r
 | .ref nm::r=>nm<N∧go r
 | .pure _::r=>go r
 | .cptr _::r=>go r
 | .nils::r=>go r
 | .tsl _::r=>go r
 | .top::r=>go r
 |_::_=>False
def dV (N:Nat):List AC→Prop
 | []=>True
 |x::r=>j8 N x∧dV N r
def mj (N:Nat):AV→Prop
 | .c x=>j8 N x
 | .agg xs=>dV N xs
 | .tup []=>True
 | .tup _=>False
 | .top=>True
def LW (N:Nat):List (MK×List AC)→Prop
 | []=>True
 |x::r=>dV N x.2∧LW N r
def H9 (N:Nat):List (List AC)→Prop
 | []=>True
 |x::r=>dV N x∧H9 N r
def TA (N:Nat):bk→Prop
 | .var xs=>dV N xs
 | .map _ _ ents=>LW N ents
 | .arn _ _ rows=>H9 N rows
 |_=>True
def rn:List (Nat×Nat)→Nat→Nat
 | [],n=>n
 |(a,b)::r,n=>if a=n then b else rn r n
def fk (l:List (Nat×Nat)):AC→AC
 | .ptr nm off=> .ptr (rn l nm) off
 | .mref nm=> .mref (rn l nm)
 | .ref nm=> .ref (rn l nm)
 |x=>x
def dE (l:List (Nat×Nat)):AC→AC
 | .ptr nm off=> .ptr (rn l nm) off
 | .eptr nm sz row off=> .eptr (rn l nm) sz row off
 | .ref nm=> .ref (rn l nm)
 | .mref nm=> .mref (rn l nm)
 | .clo f caps=> .clo f (caps.map (fk l))
 |x=>x
def eF (l:List (Nat×Nat)):AV→AV
 | .c x=> .c (dE l x)
 | .agg xs=> .agg (xs.map (dE l))
 |x=>x
def MQ (l:List (Nat×Nat)):bk→bk
 | .var xs=> .var (xs.map (dE l))
 | .map kt n ents=> .map kt n (ents.map λx=>(x.1,x.2.map (dE l)))
 | .arn e sz rows=> .arn e sz (rows.map λr=>r.map (dE l))
 |b=>b
def kY (l:List (Nat×Nat)) (fr:List (Nat×AV)) (N:Nat):List (Nat×AV)→Prop
 | []=>True
 |(t,v)::r=>(bc fr t=eF l v∨v= .top)∧mj N v∧kY l fr N r
def iI (n:Nat):List Nat→Prop
 | []=>True
 |m::r=>n≠m∧iI n r
def Qd (l:List (Nat×Nat)) (mem:List (Nat×bk)) (N:Nat):List Nat→List (Nat×bk)→Prop
 |_, []=>True
 |seen,(nm,b)::r=>al mem (rn l nm)=some (MQ l b)∧nm<N∧TA N b∧iI (rn l nm) seen∧Qd l mem N (rn l nm::seen) r
def eg (N:Nat):List (Nat×Nat)→Prop
 | []=>True
 |(a,_)::r=>N≤a∧eg N r
theorem Kq {N:Nat}: ∀{l:List (Nat×Nat)},eg N l→ ∀{n:Nat},n<N→rn l n=n
 | [],_,n,_=>rfl
 |(a,b)::r,h,n,hn=>by
  simp only[rn]
  rw[if_neg (by have:=h.1;omega)]
  exact Kq h.2 hn
def Wk (l:List (Nat×Nat)) (σ σ':St):Prop:=kY l σ.fr σ'.nx σ'.fr∧Qd l σ.mem σ'.nx [] σ'.mem∧σ'.base=σ.base∧σ.base≤σ'.nx∧eg σ.base l
section
variable {P : Program} {a : Act} {w w' w0 : World} {U : Gh} {ι : Pl} {σ σ' : St} {nt : Nat}
theorem b7.cl {V V':Nat→Prop} {N N':Nat} {x:AC} {v:Value} {l:List (Nat×Nat)} (h:b7 w V ι N (dE l x) v) (hV: ∀b,V b→V' b) (hc:j8 N' x):b7 w V' (λn=>ι (rn l n)) N' x v:=by
 have hp: ∀{p:PC} {v:Value},co w V p v→co w V' p v:= λh=>h.mono (λb _ h=>hV b h) (λ_ _ _=>rfl)
 have Zj: ∀{cells:List PC} {v:Value},b7 w V ι N (.cptr cells) v→b7 w V' (λn=>ι (rn l n)) N' (.cptr cells) v:=by
  intro cells v h
  cases h with
  |cptr g hc=>
   refine .cptr g λj p hj=> ?_
   obtain⟨h1,h2,h3⟩:=hc j p hj
   exact⟨hV _ h1,h2,hp h3⟩
 cases x with
 |pure p=>cases h with|pure h=>exact .pure (hp h)
 |nils=>cases h;exact .nils
 |tsl rows=>cases h with|tsl h=>exact .tsl (hp h)
 |ptr nm off=>cases h with|ptr hn h=>exact .ptr hc h
 |eptr nm sz row off=>cases h with|eptr hn h=>exact .eptr hc h
 |cptr cells=>exact Zj h
 |ref nm=>
  have e:v=ι (rn l nm):=by cases h;rfl
  subst e
  cases h with
  |ref hn h=>exact .ref (ι:= λn=>ι (rn l n)) hc h
 |mref nm=>cases h with|mref hn h=>exact .mref hc h
 |top=>cases h with|top h=>exact .top h
 |clo f caps=>
  cases h with
  | @clo _ _ vs hl h=>
   refine .clo (by simpa using hl) λi x hi=> ?_
   have key: ∀(l:List AC),j8.go N' l→ ∀(i:Nat) x,l[i]? =some x→(∀nm off,x= .ptr nm off→nm<N')∧(∀nm sz row off,x≠ .eptr nm sz row off)∧(∀nm,x= .ref nm→nm<N')∧(∀f cs,x≠ .clo f cs)∧(∀nm,x= .mref nm→nm<N'):=by
    intro l
    induction l with
    |nil=>intro _ i x hi;simp at hi
    |cons y ys ih=>
     intro hg i x hi
     cases i with
     |zero=>
      simp at hi
      subst hi
      cases y<;>simp_all [j8.go]
     |succ i=>
      simp at hi
      refine ih ?_ i x hi
      cases y<;>simp_all [j8.go]
   obtain⟨k1,k2,k3,k4,k5⟩:=key caps hc i x hi
   have hx:=h i (fk l x) (by rw[List.getElem?_map,hi];rfl)
   generalize vs.toList[i]?.getD undef=z at hx ⊢
   cases x with
   |pure p=>cases hx with|pure h=>exact .pure (hp h)
   |nils=>cases hx;exact .nils
   |tsl rows=>cases hx with|tsl h=>exact .tsl (hp h)
   |ptr nm off=>cases hx with|ptr hn h=>exact .ptr (k1 _ _ rfl) h
   |eptr=>exact absurd rfl (k2 _ _ _ _)
   |cptr cells=>exact Zj hx
   |ref nm=>
    have e:z=ι (rn l nm):=by cases hx;rfl
    subst e
    cases hx with
    |ref hn h=>exact .ref (ι:= λn=>ι (rn l n)) (k3 _ rfl) h
   |mref nm=>cases hx with|mref hn h=>exact .mref (k5 _ rfl) h
   |top=>cases hx with|top h=>exact .top h
   |clo=>exact absurd rfl (k4 _ _)
theorem Fo {V V':Nat→Prop} {N N':Nat} {l:List (Nat×Nat)}: ∀{xs:List AC} {vs:List Value},aM (b7 w V ι N) (xs.map (dE l)) vs→(∀b,V b→V' b)→dV N' xs→aM (b7 w V' (λn=>ι (rn l n)) N') xs vs
 | [],vs,h,hV,hc=>by cases h;exact .nil
 |x::xs,vs,h,hV,hc=>by
  cases h with
  |cons h1 h2=>exact .cons (h1.cl hV hc.1) (Fo h2 hV hc.2)
theorem aX.cl {V V':Nat→Prop} {N N':Nat} {x:AV} {v:Value} {l:List (Nat×Nat)} (h:aX w V ι N (eF l x) v) (hV: ∀b,V b→V' b) (hc:mj N' x):aX w V' (λn=>ι (rn l n)) N' x v:=by
 cases x with
 |c x=>cases h with|c h=>exact .c (h.cl hV hc)
 |agg xs=>cases h with|agg h=>exact .agg (Fo h hV hc)
 |tup xs=>
  cases xs with
  |nil=>cases h with|tup hl h=>exact .tup hl (by simp)
  |cons=>exact hc.elim
 |top=>exact .top
theorem Ec {n:Nat}: ∀{l:List Nat},iI n l→ ¬n∈l
 | [],_=>by simp
 |m::r,h=>by
  intro hm
  rcases List.mem_cons.1 hm with e|e
  ·exact h.1 e
  ·exact Ec h.2 e
theorem Ph {l:List (Nat×Nat)} {n:Option Nat} {ps:List AC}:gx n (ps.map (dE l))=eF l (gx n ps):=by
 cases n with
 |none=>cases ps<;>rfl
 |some k=>rfl
theorem QF {N:Nat} {n:Option Nat} {ps:List AC} (h:dV N ps):mj N (gx n ps):=by
 cases n with
 |none=>
  cases ps with
  |nil=>exact trivial
  |cons p r=>exact h.1
 |some k=>exact h
theorem KF {V V':Nat→Prop} {N N':Nat} {l:List (Nat×Nat)} {kt:KT} {n:Option Nat}: ∀{xs:List (MK×List AC)} {es:List MapEntry},aM (jd w V ι N kt n) (xs.map λx=>(x.1,x.2.map (dE l))) es→(∀b,V b→V' b)→LW N' xs→
  aM (jd w V' (λn=>ι (rn l n)) N' kt n) xs es
 | [],es,h,hV,hc=>by cases h;exact .nil
 |x::xs,es,h,hV,hc=>by
  cases h with
  |cons h1 h2=>
   refine .cons ⟨h1.1, ?_⟩ (KF h2 hV hc.2)
   have h3:aX _ _ _ _ (gx n (List.map _ _)) _:=h1.2
   rw[Ph]at h3
   exact h3.cl hV (QF hc.1)
theorem mh {l:List (Nat×Nat)} {mem mem':List (Nat×bk)} {N:Nat}: ∀{seen:List Nat},Qd l mem N seen mem'→ ∀{nm:Nat} {b:bk},al mem' nm=some b→al mem (rn l nm)=some (MQ l b)∧nm<N∧TA N b∧ ¬rn l nm∈seen:=by
 induction mem' with
 |nil=>intro seen h nm b hf;cases hf
 |cons x r ih=>
  obtain⟨k,c⟩:=x
  intro seen h nm b hf
  obtain⟨h1,h2,h3,h4,h5⟩:=h
  rw[bT]at hf
  by_cases e:k=nm
  ·subst e
   rw[if_pos rfl]at hf
   cases hf
   exact⟨h1,h2,h3,Ec h4⟩
  ·rw[if_neg e]at hf
   obtain⟨g1,g2,g3,g4⟩:=ih h5 hf
   exact⟨g1,g2,g3,λhm=>g4 (List.mem_cons_of_mem _ hm)⟩
theorem Qz {l:List (Nat×Nat)} {mem mem':List (Nat×bk)} {N:Nat}: ∀{seen:List Nat},Qd l mem N seen mem'→ ∀{nm nm':Nat} {b b':bk},al mem' nm=some b→al mem' nm'=some b'→rn l nm=rn l nm'→nm=nm':=by
 induction mem' with
 |nil=>intro seen h nm nm' b b' hf;cases hf
 |cons x r ih=>
  obtain⟨k,c⟩:=x
  intro seen h nm nm' b b' h1 h2 he
  have h5:=h.2.2.2.2
  rw[bT]at h1 h2
  by_cases e:k=nm
  ·by_cases e':k=nm'
   ·omega
   ·rw[if_neg e']at h2
    have:=(mh h5 h2).2.2.2
    subst e
    rw[←he]at this
    exact absurd List.mem_cons_self this
  ·rw[if_neg e]at h1
   by_cases e':k=nm'
   ·have:=(mh h5 h1).2.2.2
    subst e'
    rw[he]at this
    exact absurd List.mem_cons_self this
   ·rw[if_neg e']at h2
    exact ih h5 h1 h2 he
theorem Bj {l:List (Nat×Nat)} {fr fr':List (Nat×AV)} {N:Nat} (h:kY l fr N fr') (t:Nat):(bc fr t=eF l (bc fr' t)∨bc fr' t= .top)∧mj N (bc fr' t):=by
 induction fr' with
 |nil=>exact⟨.inr rfl,trivial⟩
 |cons x r ih=>
  obtain⟨k,v⟩:=x
  obtain⟨h1,h2,h3⟩:=h
  rw[fy]
  by_cases e:k=t
  ·subst e
   rw[if_pos rfl]
   exact⟨h1,h2⟩
  ·rw[if_neg e]
   exact ih h3
theorem Hi {N:Nat}: ∀{xs:List AC},dV N xs→ ∀{j:Nat} {x:AC},xs[j]? =some x→j8 N x
 | [],_,j,x,h=>by cases h
 |y::r,hc,0,x,h=>by cases h;exact hc.1
 |y::r,hc,j+1,x,h=>Hi (xs:=r) hc.2 h
theorem GU {N:Nat}: ∀{xs:List (List AC)},H9 N xs→ ∀{j:Nat} {x:List AC},xs[j]? =some x→dV N x
 | [],_,j,x,h=>by cases h
 |y::r,hc,0,x,h=>by cases h;exact hc.1
 |y::r,hc,j+1,x,h=>GU (xs:=r) hc.2 h
theorem Nq {V V':Nat→Prop} {N N' sz:Nat} {l:List (Nat×Nat)} {rows:List (List AC)} {cells:List Value} (h:gF w V ι N sz (rows.map λr=>r.map (dE l)) cells) (hV: ∀b,V b→V' b) (hc:H9 N' rows):gF w V' (λn=>ι (rn l n)) N' sz rows cells:=by
 refine⟨by have:=h.1;rwa [List.length_map]at this,λi row hi=> ?_,λi row j p hi hj=> ?_⟩
 ·have:=h.2.1 i _ (by rw[List.getElem?_map,hi];rfl)
  rwa [List.length_map]at this
 ·obtain⟨v,hv,hp⟩:=h.2.2 i _ j _ (by rw[List.getElem?_map,hi];rfl) (by rw[List.getElem?_map,hj];rfl)
  exact⟨v,hv,hp.cl hV (Hi (GU hc hi) hj)⟩
theorem bV.wk {l:List (Nat×Nat)} (hs:bV w0 U σ ι a w) (h:Wk l σ σ'):bV w0 U σ' (λn=>ι (rn l n)) a w:=by
 obtain⟨hf,hm,Zk,Z8,Z9⟩:=h
 have hM: ∀b,aE w0.heap.size U ι σ.mem b→aE w0.heap.size U (λn=>ι (rn l n)) σ'.mem b:= λb h=>⟨h.1,λnm bx hn=>h.2 _ _ (mh hm hn).1⟩
 refine⟨λt=> ?_,hs.defers,λnm bx hn=>(mh hm hn).2.1,λnm bx hn=> ?_,λnm nm' b1 b2 b h1 h2 h3 h4=> ?_,hs.below,U.mono _ _ _ _ hs.keep (λb _ h=>hM b h) (λ_ _ _=>rfl),⟨by rw[Zk];exact Z8,λnm hn=> ?_⟩⟩
 ·obtain⟨h1,h2⟩:=Bj hf t
  have hv:=hs.val t
  rcases h1 with h1|h1
  ·rw[h1]at hv
   exact hv.cl hM h2
  ·rw[h1];exact .top
 ·obtain⟨h1,h2,h3,_⟩:=mh hm hn
  have hb:=hs.box _ _ h1
  cases bx with
  |var xs=>
   obtain⟨b',vs,T,g1,g2,g3,g4⟩:=hb
   exact⟨b',vs,T,g1,g2,g3,Fo g4 hM h3⟩
  |arr e sz rows=>
   obtain⟨cells,k0,k1,k2,k3⟩:=hb
   exact⟨cells,k0,k1,k2,k3.mono (λb _ h=>hM b h) (λ_ _ _=>rfl)⟩
  |arn e sz rows=>
   obtain⟨cells,k0,k1,k2,k3⟩:=hb
   rw[List.length_map]at k1 k2
   exact⟨cells,k0,k1,k2,Nq k3 hM h3⟩
  |map kt n ents=>
   obtain⟨b',es,clock,g1,g2,g3,g4⟩:=hb
   exact⟨b',es,clock,g1,g2,g3,KF g4 hM h3⟩
 ·exact Qz hm h1 h2 (hs.apart _ _ _ _ _ (mh hm h1).1 (mh hm h2).1 h3 h4)
 ·rw[Zk]at hn
  rw[Kq Z9 hn]
  exact hs.base.2 nm hn
theorem dv {c:bi} {Q:bP→St→Prop} (t e sz:Nat) (ht:bc σ.fr t= .c .nils) (h0:0<sz)
  (h:AW P nt c {σ with fr:=(t,.c (.ref σ.nx))::σ.fr,mem:=(σ.nx,.arr e sz [])::σ.mem,nx:=σ.nx+1} Q):AW P nt c σ Q:=by
 intro c' hc w0 U rd ds ι a w Z hs hz
 obtain⟨ι',h1,h2,h3,h4⟩:=hs.newBox (w':=w) (pv:= .slice none 0 0) (bx:= .arr e sz []) (Below.refl _ _) (λb hb=>by simp[bI]at hb) (λι' e1 e2 hM=>⟨[],h0,by rw[e2];exact World.ownsRow_nil _ _ _ _,by simp,bu.nil⟩)
 refine h c' hc w0 U rd ds ι' a w Z ⟨λs=> ?_,h1.defers,h1.names,h1.box,h1.apart,h1.below,h1.keep,h1.base⟩ hz
 rw[fy]
 by_cases es:t=s
 ·subst es
  rw[if_pos rfl]
  have hv:=hs.val t
  rw[ht]at hv
  rw[rO hv,←h2]
  exact .c (.ref (Nat.lt_succ_self _) ⟨_,_,_,h2⟩)
 ·rw[if_neg es]
  exact h1.val s
theorem ci {c:bi} {Q:bP→St→Prop} (nm i e sz:Nat) (xs:List AC) (hf:al σ.mem nm=some (.var xs)) (hi:xs[i]? =some .nils) (h0:0<sz)
  (h:AW P nt c {σ with mem:=(σ.nx,.arr e sz [])::dJ σ.mem nm (.var (xs.set i (.ref σ.nx))),nx:=σ.nx+1} Q):AW P nt c σ Q:=by
 intro c' hc w0 U rd ds ι a w Z hs hz
 obtain⟨ι',h1,h2,h3,h4⟩:=hs.newBox (w':=w) (pv:= .slice none 0 0) (bx:= .arr e sz []) (Below.refl _ _) (λb hb=>by simp[bI]at hb) (λι' e1 e2 hM=>⟨[],h0,by rw[e2];exact World.ownsRow_nil _ _ _ _,by simp,bu.nil⟩)
 have hnm:=hs.names _ _ hf
 have Zl:al ((σ.nx,bk.arr e sz [])::σ.mem) nm=some (.var xs):=by rw[bT,if_neg (by omega)];exact hf
 obtain⟨b,vs,T,g1,g2,g3,g4⟩:=h1.box _ _ Zl
 have q0:=h1.setBox (cs:=vs) Zl (b:=b) (by rw[g1];rfl) (bx:= .var (xs.set i (.ref σ.nx))) ⟨b,vs,T,g1,g2,setRow_heap _ _ _ _ _ _ g3,by
  rw[setRow_self w b vs T _ g3]
  refine aM.of_get (by rw[List.length_set];exact g4.length) λj x v hj hv=> ?_
  rw[List.getElem?_set]at hj
  by_cases e1:i=j
  ·subst e1
   have O:=(List.getElem?_eq_some_iff.1 hi).1
   rw[if_pos rfl,if_pos O]at hj
   cases hj
   obtain⟨v',ZR,hr⟩:=g4.get hi
   rw[ZR]at hv
   cases hv
   have:v= .slice none 0 0:=by cases hr;rfl
   rw[this,←h2]
   exact .ref (Nat.lt_succ_self _) ⟨_,_,_,h2⟩
  ·rw[if_neg e1]at hj
   obtain⟨v',ZR,hr⟩:=g4.get hj
   rw[ZR]at hv
   cases hv
   exact hr⟩
 rw[setRow_self w b vs T _ g3]at q0
 have e5:dJ ((σ.nx,bk.arr e sz [])::σ.mem) nm (.var (xs.set i (.ref σ.nx)))=(σ.nx,.arr e sz [])::dJ σ.mem nm (.var (xs.set i (.ref σ.nx))):=by
  simp only[dJ]
  rw[if_neg (by omega)]
 simp only[e5]at q0
 exact h c' hc w0 U rd ds ι' a w Z q0 hz
def Si {τ:Type} (mk:τ→St) (I:τ→Prop) (μ:τ→Nat) (t:τ) (Q:bP→St→Prop):bP→St→Prop
 | .normal,σ=> ∃t' l,I t'∧μ t'<μ t∧Wk l σ (mk t')
 | .exit i,σ=>Q (.exit i) σ
 | .ret,σ=>Q .ret σ
theorem ai {τ:Type} {x:bi} {Q:bP→St→Prop} (mk:τ→St) (I:τ→Prop) (μ:τ→Nat) (h0: ∃t l,I t∧Wk l σ (mk t)) (h: ∀t,I t→AW P nt x (mk t) (Si mk I μ t Q)):AW P nt (.loop x) σ Q:=by
 intro c' hc w0 U rd ds ι a w Z hs hz
 cases c'<;>simp[d8]at hc
 all_goals(try(split at hc<;>simp at hc))
 rename_i c1
 obtain⟨t,l,ht,hw⟩:=h0
 refine wpIn_loop_rounds (μ t+1) ?_
 have key: ∀n t U1 ds1 ι a w,Iz w0.heap.size rd U ds U1 ds1→μ t<n→I t→bV w0 U1 (mk t) ι a w→a.tmps.size=nt→Code.roundsIn (FR rd) 0 P c1 (vL w0 U rd ds nt Q) n (sh ds1 a) w:=by
  intro n
  induction n with
  |zero=>intro t U1 ds1 ι a w hx hm;omega
  |succ n ih=>
   intro t U1 ds1 ι a w hx hm ht hs hz
   rw[roundsIn_succ]
   refine wpIn_mono (h t ht _ hc w0 U1 rd ds1 ι a w (Z.ext hx) hs hz) ?_
   rintro e a1 w1 ⟨e',σ',ι',U',ds',a0,rfl,hq,J,hW,rfl,q4⟩
   cases e' with
   |normal=>
    obtain⟨t',l',ht',O,ZS⟩:=hq
    exact ih t' _ _ _ a0 w1 (hx.trans q4) (by omega) ht' (J.wk ZS) hW
   |exit i=>exact⟨.exit i,σ',ι',U',ds',a0,rfl,hq,J,hW,rfl,hx.trans q4⟩
   |ret=>exact⟨.ret,σ',ι',U',ds',a0,rfl,hq,J,hW,rfl,hx.trans q4⟩
 exact key _ t _ _ _ a w .refl (Nat.lt_succ_self _) ht (hs.wk hw) hz
end
open Go.RowKit
section
variable {P : Program} {a : Act} {w w' w0 : World} {U U2 : Gh} {ι : Pl} {σ : St}
def Ey:Obj→Bool
 | .loop _=>true
 | .deferred _=>true
 |_=>false
theorem Lk {b off:Nat} {v:Value} (h:w.cell? ⟨b,off,none⟩=some v): ¬ ∃o,w.heap[b]? =some o∧Ey o=true:=by
 rintro⟨o,h1,h2⟩
 obtain⟨o',h3,h4⟩:=cells_of_cell h
 rw[h1]at h3
 cases h3
 cases o<;>simp_all [Ey,Obj.isCells]
structure vC (n:Nat) (w w':World):Prop where
 os:w'.os=w.os
 tape:w'.tape=w.tape
 output:w'.output=w.output
 size:w.heap.size≤w'.heap.size
 block: ∀b,b<w.heap.size→w'.heap[b]? =w.heap[b]? ∨(n≤b∧ ∃o,w.heap[b]? =some o∧Ey o=true)
theorem vC.of_below {n:Nat} {A B:World} (h:Below A.heap.size A B):vC n A B:=⟨h.os,h.tape,h.output,h.size,λb hb=> .inl (h.block b hb)⟩
theorem vC.putObj {n D:Nat} {o:Obj} (o':Obj) (hD:n≤D) (ho:w.heap[D]? =some o) (hl:Ey o=true):vC n w (w.putObj D o'):=by
 refine⟨rfl,rfl,rfl,by simp,λb hb=> ?_⟩
 by_cases e:b=D
 ·subst e
  exact .inr ⟨hD,o,ho,hl⟩
 ·exact .inl (World.putObj_heap_other e)
theorem vC.old {n:Nat} {A B:World} (h:vC n A B) {b:Nat} (hb:b<n) (O:b<A.heap.size):B.heap[b]? =A.heap[b]? :=by
 rcases h.block b O with e|⟨e,_⟩
 ·exact e
 ·omega
section
variable {V S : Nat → Prop} {N : Nat} (hS : ∀ b, S b → ∃ o, w.heap[b]? = some o ∧ Ey o = true)
include hS
theorem co.ne {p:PC} {v:Value} (h:co w V p v):co w (λb=>V b∧ ¬S b) p v:=by
 induction h with
 |val h=>exact .val h
 |slice g hn ZB hm hr HF hp ih=>
  refine .slice g hn ZB hm hr (λi row j p h1 h2=> ?_) ih
  obtain⟨b,off,ha,hb,HA⟩:=HF i row j p h1 h2
  exact⟨b,off,ha,⟨hb,λh=>Lk HA (hS _ h)⟩,HA⟩
 |fmap hb hm hl hk hp ih=>
  refine .fmap ⟨hb,λh=> ?_⟩ hm hl hk ih
  obtain⟨o,h1,h2⟩:=hS _ h
  rw[hm]at h1
  cases h1
  cases h2
theorem b7.ne {x:AC} {v:Value} (h:b7 w V ι N x v):b7 w (λb=>V b∧ ¬S b) ι N x v:=by
 induction h with
 |pure h=>exact .pure (h.ne hS)
 |nils=>exact .nils
 |tsl h=>exact .tsl (h.ne hS)
 |ptr hn h=>exact .ptr hn h
 |eptr hn h=>exact .eptr hn h
 |cptr g HF=>
  refine .cptr g λj p hj=> ?_
  obtain⟨h1,h2,h3⟩:=HF j p hj
  exact⟨⟨h1,λh=>Lk h2 (hS _ h)⟩,h2,h3.ne hS⟩
 |ref hn h=>exact .ref hn h
 |clo hl h ih=>exact .clo hl λi x hx=>ih i x hx
 |mref hn h=>exact .mref hn h
 |top h=>exact .top h
theorem aX.ne {x:AV} {v:Value} (h:aX w V ι N x v):aX w (λb=>V b∧ ¬S b) ι N x v:=by
 induction h with
 |c h=>exact .c (h.ne hS)
 |agg h=>exact .agg (h.mono λ_ _ h=>h.ne hS)
 |tup hl h ih=>exact .tup hl λi x hx=>ih i x hx
 |top=>exact .top
end
theorem bV.not_lp (hs:bV w0 U σ ι a w) {nm b:Nat} {bx:bk} (hn:al σ.mem nm=some bx) (hb:bI (ι nm)=some b): ¬ ∃o,w.heap[b]? =some o∧Ey o=true:=by
 rintro⟨o,h1,h2⟩
 have h:=hs.box nm bx hn
 cases bx with
 |var xs=>
  obtain⟨b',vs,T,g1,g2,g3,g4⟩:=h
  rw[g1]at hb
  cases hb
  rw[g3]at h1
  cases h1
  cases h2
 |arr e sz rows=>
  obtain⟨cells,k0,k1,k2⟩:=h
  rcases k1.2 with⟨h,_⟩|⟨g,cap,cur,h,_,hg,_⟩
  ·rw[h]at hb;cases hb
  ·rw[h]at hb
   cases hb
   rw[hg]at h1
   cases h1
   cases h2
 |arn e sz rows=>
  obtain⟨cells,k0,k1,k2⟩:=h
  rcases k1.2 with⟨h,_⟩|⟨g,cap,cur,h,_,hg,_⟩
  ·rw[h]at hb;cases hb
  ·rw[h]at hb
   cases hb
   rw[hg]at h1
   cases h1
   cases h2
 |map kt n ents=>
  obtain⟨b',es,clock,g1,g2,g3,g4⟩:=h
  rw[g1]at hb
  cases hb
  rw[g3]at h1
  cases h1
  cases h2
theorem bV.growL (hs:bV w0 U σ ι a w) {n:Nat} (hn0:w0.heap.size≤n) (hg:vC n w w') (hp:U2.p=U.p) (hi:U2.ι0=U.ι0)
  (hG:U2.G w' (aE w0.heap.size U2 ι σ.mem)):bV w0 U2 σ ι a w':=by
 have hM:aE w0.heap.size U2 ι σ.mem=aE w0.heap.size U ι σ.mem:=by
  funext b
  unfold aE
  rw[hp]
 have hS: ∀b,(b<w.heap.size∧w'.heap[b]? ≠w.heap[b]?)→ ∃o,w.heap[b]? =some o∧Ey o=true:=by
  rintro b ⟨h1,h2⟩
  rcases hg.block b h1 with e|⟨_,e⟩
  ·exact absurd e h2
  ·exact e
 have hV: ∀b,b<w.heap.size→(aE w0.heap.size U ι σ.mem b∧ ¬(b<w.heap.size∧w'.heap[b]? ≠w.heap[b]?))→aE w0.heap.size U2 ι σ.mem b:= λb _ h=>by rw[hM];exact h.1
 have hw: ∀b,b<w.heap.size→(aE w0.heap.size U ι σ.mem b∧ ¬(b<w.heap.size∧w'.heap[b]? ≠w.heap[b]?))→w'.heap[b]? =w.heap[b]? := λb hb h=>Classical.byContradiction λe=>h.2 ⟨hb,e⟩
 refine⟨λt=>((hs.val t).ne hS).mono hV hw (λ_ _=>rfl) (Nat.le_refl _),hs.defers,hs.names,λnm bx hn=> ?_,hs.apart,hs.below.trans ⟨hg.os,hg.tape,hg.output,hg.size,λk hk=>hg.old (by omega) (Nat.lt_of_lt_of_le hk hs.below.size)⟩,hG,by rw[hi];exact hs.base⟩
 have hb:=hs.box nm bx hn
 have HS: ∀b,bI (ι nm)=some b→b<w.heap.size→w'.heap[b]? =w.heap[b]? := λb e O=>by
  rcases hg.block b O with e2|⟨_,e2⟩
  ·exact e2
  ·exact absurd e2 (hs.not_lp hn e)
 cases bx with
 |var xs=>
  obtain⟨b,vs,T,h1,h2,h3,h4⟩:=hb
  exact⟨b,vs,T,h1,h2,by rw[HS b (by rw[h1];rfl) (Array.getElem?_eq_some_iff.1 h3).1];exact h3,h4.mono λ_ _ h=>(h.ne hS).mono hV hw (λ_ _=>rfl) (Nat.le_refl _)⟩
 |arr e sz rows=>
  obtain⟨cells,h0,h1,h2,h3,h4,h5⟩:=hb
  refine⟨cells,h0, ?_,h2,h3,h4,λi row j p hi hj=> ?_⟩
  ·obtain⟨q1,q2⟩:=h1
   refine⟨q1, ?_⟩
   rcases q2 with q2|⟨g,cap,cur,e0,HD,q5,H2⟩
   ·exact .inl q2
   ·exact .inr ⟨g,cap,cur,e0,HD,(HS g (by rw[e0];rfl) (Array.getElem?_eq_some_iff.1 q5).1).trans q5,H2⟩
  ·obtain⟨v,hv,ZT⟩:=h5 i row j p hi hj
   exact⟨v,hv,(ZT.ne hS).mono hV hw⟩
 |arn e sz rows=>
  obtain⟨cells,h0,h1,h2,h3,h4,h5⟩:=hb
  refine⟨cells,h0, ?_,h2,h3,h4,λi row j p hi hj=> ?_⟩
  ·obtain⟨q1,q2⟩:=h1
   refine⟨q1, ?_⟩
   rcases q2 with q2|⟨g,cap,cur,e0,HD,q5,H2⟩
   ·exact .inl q2
   ·exact .inr ⟨g,cap,cur,e0,HD,(HS g (by rw[e0];rfl) (Array.getElem?_eq_some_iff.1 q5).1).trans q5,H2⟩
  ·obtain⟨v,hv,ZT⟩:=h5 i row j p hi hj
   exact⟨v,hv,(ZT.ne hS).mono hV hw (λ_ _=>rfl) (Nat.le_refl _)⟩
 |map kt n ents=>
  obtain⟨b,es,clock,h1,h2,h3,h4⟩:=hb
  exact⟨b,es,clock,h1,h2,by rw[HS b (by rw[h1];rfl) (Array.getElem?_eq_some_iff.1 h3).1];exact h3,h4.mono λ_ _ h=>⟨h.1,(h.2.ne hS).mono hV hw (λ_ _=>rfl) (Nat.le_refl _)⟩⟩
theorem bV.turn (hs:bV w0 U σ ι a w) {D:Nat} {o:Obj} (o':Obj) (ho:w.heap[D]? =some o) (hl:Ey o=true) (hD:w0.heap.size≤D) (hp:U2.p=U.p) (hi:U2.ι0=U.ι0)
  (hG:U2.G (w.putObj D o') (aE w0.heap.size U2 ι σ.mem)):bV w0 U2 σ ι a (w.putObj D o'):=
 hs.growL hD (.putObj o' (Nat.le_refl _) ho hl) hp hi hG
theorem LT {fn:Func} {tmps:Array Value} {R:Ending→World→Prop} {U':Gh} {ds':List Deferred} (hx:Iz w0.heap.size none U [] U' ds'): ∀{w:World},bV w0 U' σ ι a w→
  (∀w',bV w0 U σ ι a w'→ ∃v,(results fn tmps).run P w'= .ok v w'∧R (.returned v) w')→LeavesInM Fence.wide 0 P fn tmps R ds' .returning w:=by
 induction hx with
 |refl=>exact λhs h=>h _ hs
 | @mark U1 U2 ds1 D h hr hD hp hi hG ih=>
  intro w hs q6
  obtain⟨_,g2,g3,g4⟩:=hG _ _ hs.keep
  refine⟨by simp,.inl ⟨D,_,rfl,run_takeDeferred g3,ih (hs.turn (.deferred none) g3 rfl hD hp.symm hi.symm ?_) q6⟩⟩
  have e:aE w0.heap.size U1 ι σ.mem=aE w0.heap.size U2 ι σ.mem:=by
   funext b
   unfold aE
   rw[hp]
  rw[e]
  exact g4
theorem wX {f:FuncId} {fn:Func} {c:Code} {vs:Array Value} {nt:Nat} {Q:bP→St→Prop} {R:Ending→World→Prop} (h1:P.funcs[f]? =some fn) (h2:fn.body=some c)
  (hw:c.wpIn (FR none) 0 P (vL w0 U none [] nt Q) (sh [] {tmps:=vs++Array.replicate (fn.ntmps-vs.size) undef,defers:= []}) w)
  (hx: ∀i σ',¬Q (.exit i) σ') (q6: ∀{e:bP} {a':Act} {w':World} {σ':St} {ι':Pl},Q e σ'→bV w0 U σ' ι' a' w'→ ∃v,(results fn a'.tmps).run P w'= .ok v w'∧R (.returned v) w'):Calls P f vs w R:=by
 refine(callsIn_wide (n:=0)).1 (callsIn_of_wp_marks h1 h2 trivial (wpIn_mono hw ?_))
 rintro e a' w' ⟨e',σ',ι',U',ds',a0,rfl,hq,J,hz,rfl,q4⟩
 have hd:(sh ds' a0).defers=ds':=by
  show a0.defers++ds'=ds'
  rw[J.defers.1]
  rfl
 have key:LeavesInM Fence.wide 0 P fn (sh ds' a0).tmps R (sh ds' a0).defers .returning w':=by
  rw[hd]
  exact LT q4 J λw2 HL=>q6 (a':=a0) hq HL
 cases e' with
 |normal=>exact key
 |exit i=>exact absurd hq (hx _ _)
 |ret=>exact key
end
inductive AR where
 |t (n:Nat)
 |cell (n:Option Nat) (a:Nat)
def Sa (P:Program):ResultVar→Option AR
 | .tmp t=>some (.t t)
 | .cell a t=>(kF P t).map λn=> .cell n a
def An (P:Program):List ResultVar→Option (List AR)
 | []=>some []
 |r::rs=>match Sa P r,An P rs with
  |some x,some xs=>some (x::xs)
  |_,_=>none
def CY (n:Option Nat) (xs:List AC) (K:AV→Prop):Prop:=
 match n with
 |none=>match xs with
  |x::_=>K (.c x)
  | []=>False
 |some n=>db (n≤xs.length) (K:=⟨K (.agg (xs.take n))⟩)
def Af (σ:St):AR→(AV→Prop)→Prop
 | .t n,K=>K (bc σ.fr n)
 |.cell n a,K=>match bc σ.fr a with
  |.c q=>match b8 σ.mem q with
   |some xs=>CY n xs K
   |none=>False
  |_=>False
def kV (σ:St):List AR→List AV→(List AV→Prop)→Prop
 | [],acc,K=>K acc
 |r::rs,acc,K=>Af σ r λv=>kV σ rs (acc++ [v]) K
def fm:List AV→AV
 | [v]=>v
 |vs=> .tup vs
def J3 (mem:List (Nat×bk)):AV→Option AV
 |.tup xs=>match bN mem xs with
  |some ys=>some (.tup ys)
  |none=>none
 |x=>dQ mem x
def Vb (rs:List AR) (res:AV):bP→St→Prop
 | .exit _,_=>False
 | .ret,σ=>kV σ rs [] λvs=>J3 σ.mem (fm vs)=some res
 | .normal,σ=>kV σ rs [] λvs=>J3 σ.mem (fm vs)=some res
def bO:List AV→Nat→List (Nat×AV)
 | [],_=> []
 |v::r,k=>(k,v)::bO r (k+1)
def qq:List AV→Prop
 | []=>True
 |v::r=>gw v∧qq r
structure mL (P:Program) (f:FuncId) (nt:Nat) (body:bi) (rs:List AR):Prop where
 is : ∃ fn c, P.funcs[f]? = some fn ∧ fn.body = some c ∧ (fn.name == "runtime.NumGoroutine") = false ∧ fn.ntmps = nt ∧ d8 P nt c = some body ∧ An P fn.results.toList = some rs
section
variable {P : Program} {a : Act} {w w' w0 : World} {U : Gh} {ι : Pl} {σ σ' : St} {nt : Nat}
theorem J9 {t:TypeId} {n:Option Nat} {q:AC} {u:Value} {xs:List AC} {K:AV→Prop} (hs:bV w0 U σ ι a w) (ht:kF P t=some n) (hr:b7 w (aE w0.heap.size U ι σ.mem) ι σ.nx q u) (hx:b8 σ.mem q=some xs) (h:CY n xs K):
  ∃ad v u',u= .pointer (some ad)∧(loadVar t ad).run P w= .ok u' w∧aX w (aE w0.heap.size U ι σ.mem) ι σ.nx v u'∧K v:=by
 obtain⟨b,off,e1,hc⟩:=BP hs hr hx
 cases n with
 |none=>
  simp only[CY]at h
  split at h
  ·rename_i z zs
   obtain⟨v,hv,hr⟩:=hc 0 z rfl
   exact⟨_,_,v,e1,Da (P:=P) ht (by simpa using hv),.c hr,h⟩
  ·exact h.elim
 |some n=>
  obtain⟨ZE,h⟩:=h
  have hg: ∃ys:List Value,ys.length=n∧ ∀(j:Nat) x v,(xs.take n)[j]? =some x→ys[j]? =some v→w.cell? ⟨b,off+j,none⟩=some v∧b7 w (aE w0.heap.size U ι σ.mem) ι σ.nx x v:=by
   refine⟨(List.range n).map λj=>(w.cell? ⟨b,off+j,none⟩).getD undef,by simp,λj x v hj hv=> ?_⟩
   have z2:j<n:=by have:=(List.getElem?_eq_some_iff.1 hj).1;simp at this;omega
   rw[List.getElem?_take_of_lt z2]at hj
   obtain⟨u,hu,hr⟩:=hc j x hj
   simp[List.getElem?_map,List.getElem?_range z2,hu]at hv
   subst hv
   exact⟨hu,hr⟩
  obtain⟨ys,hl,hy⟩:=hg
  have O:(xs.take n).length=n:=by simp;omega
  refine⟨_,_,.agg ys.toArray,e1,DF (P:=P) (w:=w) (ad:=⟨b,off,none⟩) ht (vs:=ys) hl λj v hv=> ?_,.agg (aM.of_get (by rw[O];simp[hl]) λj x v hj hv=>(hy j x v hj (by simpa using hv)).2),h⟩
  have z2:j<(xs.take n).length:=by rw[O,←hl];exact(List.getElem?_eq_some_iff.1 hv).1
  rw[gI]
  exact(hy j _ v (List.getElem?_eq_getElem z2) hv).1
def Ez (tmps:Array Value):ResultVar→Sem Value
 | .tmp t=>pure (tmps.getD t undef)
 | .cell a t=>do loadVar t (←asAddr (tmps.getD a undef))
theorem nT (hs:bV w0 U σ ι a w): ∀{rvs:List ResultVar} {rs:List AR} {acc:List AV} {us:List Value} {K:List AV→Prop},An P rvs=some rs→kV σ rs acc K→aM (aX w (aE w0.heap.size U ι σ.mem) ι σ.nx) acc us→
  ∃vs us',aM (aX w (aE w0.heap.size U ι σ.mem) ι σ.nx) vs (us++us')∧(rvs.mapM (Ez a.tmps)).run P w= .ok us' w∧K vs
 |[],rs,acc,us,K,hc,h,hP=>by
  cases hc
  exact⟨acc, [],by simpa using hP,rfl,h⟩
 |r::rvs,rs,acc,us,K,hc,h,hP=>by
  unfold An at hc
  split at hc
  ·rename_i x xs h1 h2
   cases hc
   have one: ∃v u,aX w (aE w0.heap.size U ι σ.mem) ι σ.nx v u∧(Ez a.tmps r).run P w= .ok u w∧kV σ xs (acc++ [v]) K:=by
    simp only[kV]at h
    cases r with
    |tmp t=>
     cases h1
     exact⟨_,_,hs.val t,rfl,h⟩
    |cell ad t=>
     simp only[Sa,Option.map_eq_some_iff]at h1
     obtain⟨n,hn,rfl⟩:=h1
     simp only[Af]at h
     split at h
     ·rename_i q e
      have hq:=hs.val ad
      rw[e]at hq
      split at h
      ·rename_i xs' hx
       have ZP:b7 w (aE w0.heap.size U ι σ.mem) ι σ.nx q (a.tmps.getD ad undef):=by
        generalize a.tmps.getD ad undef=z at hq
        cases hq with|c hq=>exact hq
       obtain⟨adr,v,u',e1,e2,e3,e4⟩:=J9 (P:=P) hs hn ZP hx h
       exact⟨v,u',e3,by simp only[Ez,Sem.run_bind,e1,asAddr,Sem.run_pure,Result.andThen_ok,e2],e4⟩
      ·exact h.elim
     ·exact h.elim
   obtain⟨v,u,hr,Zm,hk⟩:=one
   obtain⟨vs,us',g1,g2,g3⟩:=nT hs (us:=us++ [u]) h2 hk (hP.append (.cons hr .nil))
   exact⟨vs,u::us',by simpa using g1,by simp[List.mapM_cons,Zm,g2],g3⟩
  ·cases hc
theorem oH (fn:Func) (tmps:Array Value):results fn tmps=(do let vs←fn.results.mapM (Ez tmps);pure (if h:vs.size=1 then vs[0]else .tuple vs)):=by
 unfold results
 congr 1
theorem GV {V:Nat→Prop} {x y:AV} {v:Value} (hs:bV w0 U σ ι a w) (h:aX w (aE w0.heap.size U ι σ.mem) ι σ.nx x v) (hp:J3 σ.mem x=some y) (hV: ∀b,aE w0.heap.size U ι σ.mem b→V b) (hN: ∀b,w0.heap.size≤b→V b):aX w V (λ_=>undef) 0 y v:=by
 cases h with
 |c h=>exact vr hs (.c h) hp hV (.inr hN)
 |agg h=>exact vr hs (.agg h) hp hV (.inr hN)
 | @tup xs vs hl h=>
  simp only[J3]at hp
  split at hp
  ·cases hp
   have hC:aM (aX w (aE w0.heap.size U ι σ.mem) ι σ.nx) xs vs.toList:=aM.of_get (by simpa using hl) λi x v hi hv=>by
    have:=h i x hi
    rw[hv]at this
    exact this
   have hr:=ll hs hC hV (.inr hN) ‹_›
   refine .tup (by simpa using hr.length) λi x hi=> ?_
   obtain⟨v,hv,hx⟩:=hr.get hi
   rw[hv]
   exact hx
  ·cases hp
 |top=>cases hp
theorem li {vs:List Value} {V:Nat→Prop} {N:Nat}: ∀{args:List AV} {us:List Value} {k:Nat},aM (aX w V ι N) args us→ ∀t,aX w V ι N (bc (bO args k) t) ((us[t-k]?).getD undef)∨bc (bO args k) t= .top
 | [],us,k,h,t=> .inr rfl
 |v::args,us,k,h,t=>by
  cases h with
  | @cons _ u _ us h1 h2=>
   show aX _ _ _ _ (if k=t then v else bc (bO args (k+1)) t) _∨(if k=t then v else bc (bO args (k+1)) t)= .top
   by_cases e:k=t
   ·subst e
    rw[if_pos rfl]
    left
    simpa using h1
   ·rw[if_neg e]
    rcases li (vs:=vs) (k:=k+1) h2 t with h|h
    ·by_cases O:k<t
     ·left
      have:t-k=(t-(k+1))+1:=by omega
      rw[this]
      simpa using h
     ·right
      clear h h1 h2
      have key: ∀(l:List AV) (j:Nat),t<j→bc (bO l j) t= .top:=by
       intro l
       induction l with
       |nil=>intro j _;rfl
       |cons x l ih=>
        intro j hj
        show(if j=t then x else bc (bO l (j+1)) t)=_
        rw[if_neg (by omega)]
        exact ih _ (by omega)
      exact key args (k+1) (by omega)
    ·exact .inr h
theorem u4 {V:Nat→Prop} {N:Nat} {args:List AV} {us:List Value} (h:aM (aX w V ι N) args us):qq args:=by
 induction h with
 |nil=>trivial
 |cons h _ ih=>exact⟨Hh h,ih⟩
theorem uT {V:Nat→Prop} {N:Nat} {vs:List AV} {us:List Value} (h:aM (aX w V ι N) vs us):aX w V ι N (fm vs) (if h:us.toArray.size=1 then us.toArray[0]else .tuple us.toArray):=by
 have tupled: ∀{vs:List AV} {us:List Value},aM (aX w V ι N) vs us→aX w V ι N (.tup vs) (.tuple us.toArray):= λh=>
  .tup (by simpa using h.length) λi x hi=>by
   obtain⟨v,hv,hx⟩:=h.get hi
   simp only[List.toList_toArray]
   rw[hv]
   exact hx
 cases h with
 |nil=>rw[dif_neg (by simp)];exact tupled .nil
 |cons h1 t=>
  cases t with
  |nil=>rw[dif_pos (by simp)];exact h1
  |cons h2 t=>
   rw[dif_neg (by simp)]
   exact tupled (.cons h1 (.cons h2 t))
theorem ac.of {f:FuncId} {nt:Nat} {body:bi} {rs:List AR} {args:List AV} {res:AV} (hf:mL P f nt body rs) (HM:args.length≤nt) (h:qq args→AW P nt body ⟨bO args 0, [],0,0⟩ (Vb rs res)):ac P f args res:=by
 obtain⟨fn,c,h1,h2,h3,rfl,h5,h6⟩:=hf.is
 refine⟨⟨fn,h1,by rw[h2];rfl,h3⟩,λw U vs hG hI=> ?_⟩
 have h9:vs.size=args.length:=by rw[←Array.length_toList];exact hI.length.symm
 have hs:bV w (Gh.of U) ⟨bO args 0, [],0,0⟩ (λ_=>undef) {tmps:=vs++Array.replicate (fn.ntmps-vs.size) undef,defers:= []} w:=by
  refine⟨λt=> ?_,⟨rfl,hG⟩,(λnm bx hn=>by cases hn),(λnm bx hn=>by cases hn),(λnm nm' b1 b2 b hn=>by cases hn),Below.refl _ _,trivial,⟨Nat.le_refl _,λ_ h=>absurd h (Nat.not_lt_zero _)⟩⟩
  have ZU: ∀{x:AV} {v:Value},aX w U (λ_=>undef) 0 x v→aX w (aE w.heap.size (Gh.of U) (λ_=>undef) []) (λ_=>undef) 0 x v:= λh=>
   h.mono (λb _ h=>⟨.inl h,λnm bx hn=>by cases hn⟩) (λ_ _ _=>rfl) (λ_ _=>rfl) (Nat.le_refl _)
  rcases li (vs:=vs.toList) (k:=0) hI t with h|h
  ·by_cases O:t<vs.size
   ·have e:(vs++Array.replicate (fn.ntmps-vs.size) undef).getD t undef=(vs.toList[t-0]?).getD undef:=by
     simp[Array.getD_eq_getD_getElem?,Array.getElem?_append,O]
    rw[e]
    exact ZU h
   ·have:bc (bO args 0) t= .top:=by
     have key: ∀(l:List AV) (j:Nat),j+l.length≤t→bc (bO l j) t= .top:=by
      intro l
      induction l with
      |nil=>intro j _;rfl
      |cons x l ih=>
       intro j hj
       simp only[List.length_cons]at hj
       show(if j=t then x else bc (bO l (j+1)) t)=_
       rw[if_neg (by omega)]
       exact ih _ (by omega)
     exact key args 0 (by omega)
    show aX _ _ _ _ (bc (bO args 0) t) _
    rw[this]
    exact .top
  ·show aX _ _ _ _ (bc (bO args 0) t) _
   rw[h]
   exact .top
 have HI:(vs++Array.replicate (fn.ntmps-vs.size) undef).size=fn.ntmps:=by simp;omega
 have fin: ∀{a':Act} {w':World} {σ':St} {ι':Pl},kV σ' rs [] (λvs=>J3 σ'.mem (fm vs)=some res)→bV w (Gh.of U) σ' ι' a' w'→ ∃v,(results fn a'.tmps).run P w'= .ok v w'∧ ∃v',Ending.returned v= .returned v'∧aX w' (λb=>U b∨w.heap.size≤b) (λ_=>undef) 0 res v'∧Below w.heap.size w w':=by
  intro a' w' σ' ι' HY J
  obtain⟨vs',us',g1,g2,g3⟩:=nT J (us:= []) h6 HY .nil
  refine⟨_, ?_,_,rfl,GV J (uT (by simpa using g1)) g3 (λb h=>h.1) (λb h=> .inr h),J.below⟩
  rw[oH,Array.mapM_eq_mapM_toList]
  simp[g2]
 refine wX h1 h2 (h (u4 hI) c h5 w (Gh.of U) none [] _ _ w (λ_ e=>by cases e) hs HI) (λi σ' h=>h) ?_
 intro e a' w' σ' ι' hq J
 cases e with
 |normal=>exact fin hq J
 |exit i=>exact hq.elim
 |ret=>exact fin hq J
def yu (rs:List AR) (res:AV) (mem:List (Nat×bk)) (nx base:Nat):bP→St→Prop
 | .exit _,_=>False
 | .ret,σ=>kV σ rs [] λvs=>fm vs=res∧σ.mem=mem∧σ.nx=nx∧σ.base=base
 | .normal,σ=>kV σ rs [] λvs=>fm vs=res∧σ.mem=mem∧σ.nx=nx∧σ.base=base
theorem aw.of {f:FuncId} {nt:Nat} {body:bi} {rs:List AR} {args:List AV} {mem mem':List (Nat×bk)} {nx nx':Nat} {res:AV} (hf:mL P f nt body rs) (HM:args.length≤nt) (h:qq args→AW P nt body ⟨bO args 0,mem,nx,nx⟩ (yu rs res mem' nx' nx)):aw P f args mem nx res mem' nx':=by
 obtain⟨fn,c,h1,h2,h3,rfl,h5,h6⟩:=hf.is
 refine⟨⟨fn,h1,by rw[h2];rfl,h3⟩,λw0 U ι w vs hX hI=> ?_⟩
 have h9:vs.size=args.length:=by rw[←Array.length_toList];exact hI.length.symm
 have hs:bV w0 U ⟨bO args 0,mem,nx,nx⟩ ι {tmps:=vs++Array.replicate (fn.ntmps-vs.size) undef,defers:= []} w:=by
  refine⟨λt=> ?_,⟨rfl,hX.defers.2⟩,hX.names,hX.box,hX.apart,hX.below,hX.keep,hX.base⟩
  rcases li (vs:=vs.toList) (k:=0) hI t with h|h
  ·by_cases O:t<vs.size
   ·have e:(vs++Array.replicate (fn.ntmps-vs.size) undef).getD t undef=(vs.toList[t-0]?).getD undef:=by
     simp[Array.getD_eq_getD_getElem?,Array.getElem?_append,O]
    rw[e]
    exact h
   ·have:bc (bO args 0) t= .top:=by
     have key: ∀(l:List AV) (j:Nat),j+l.length≤t→bc (bO l j) t= .top:=by
      intro l
      induction l with
      |nil=>intro j _;rfl
      |cons x l ih=>
       intro j hj
       simp only[List.length_cons]at hj
       show(if j=t then x else bc (bO l (j+1)) t)=_
       rw[if_neg (by omega)]
       exact ih _ (by omega)
     exact key args 0 (by omega)
    show aX _ _ _ _ (bc (bO args 0) t) _
    rw[this]
    exact .top
  ·show aX _ _ _ _ (bc (bO args 0) t) _
   rw[h]
   exact .top
 have HI:(vs++Array.replicate (fn.ntmps-vs.size) undef).size=fn.ntmps:=by simp;omega
 have fin: ∀{a':Act} {w':World} {σ':St} {ι':Pl},(kV σ' rs [] λvs=>fm vs=res∧σ'.mem=mem'∧σ'.nx=nx'∧σ'.base=nx)→bV w0 U σ' ι' a' w'→ ∃v,(results fn a'.tmps).run P w'= .ok v w'∧
   ∃v' ι',Ending.returned v= .returned v'∧bV w0 U ⟨[],mem',nx',nx⟩ ι' {tmps:= #[],defers:= []} w'∧aX w' (aE w0.heap.size U ι' mem') ι' nx' res v':=by
  intro a' w' σ' ι' HY J
  obtain⟨vs',us',g1,g2,rfl,rfl,rfl,rfl⟩:=nT J (us:= []) h6 HY .nil
  refine⟨_, ?_,_,ι',rfl,⟨λt=> .top,⟨rfl,J.defers.2⟩,J.names,J.box,J.apart,J.below,J.keep,J.base⟩,uT (by simpa using g1)⟩
  rw[oH,Array.mapM_eq_mapM_toList]
  simp[g2]
 refine wX h1 h2 (h (u4 hI) c h5 w0 U none [] _ _ w (λ_ e=>by cases e) hs HI) (λi σ' h=>h) ?_
 intro e a' w' σ' ι' hq J
 cases e with
 |normal=>exact fin hq J
 |exit i=>exact hq.elim
 |ret=>exact fin hq J
theorem xw: ∀{l:List AV} {k:Nat} (i:Nat),bc (bO l k) (k+i)=(l[i]?).getD .top
 | [],k,i=>by simp[bO,bc]
 |v::l,k,0=>by simp[bO,bc]
 |v::l,k,i+1=>by
  have:=xw (l:=l) (k:=k+1) i
  simp only[bO,bc]
  rw[if_neg (by omega),show k+(i+1)=k+1+i by omega,this]
  simp
def Uk (rs:List AR) (ress:List AV) (mem:List (Nat×bk)) (nx base:Nat):bP→St→Prop
 | .exit _,_=>False
 | .ret,σ=> ∃l rl,kV (aQ l σ []).1 rs [] λvs=>ress.length=vs.length∧Wk rl {(aQ l σ []).1 with fr:=bO vs 0} ⟨bO ress 0,mem,nx,base⟩
 | .normal,σ=> ∃l rl,kV (aQ l σ []).1 rs [] λvs=>ress.length=vs.length∧Wk rl {(aQ l σ []).1 with fr:=bO vs 0} ⟨bO ress 0,mem,nx,base⟩
theorem aw.ofZ {f:FuncId} {nt:Nat} {body:bi} {rs:List AR} {args:List AV} {mem mem':List (Nat×bk)} {nx nx':Nat} {ress:List AV} (hf:mL P f nt body rs) (HM:args.length≤nt) (h:qq args→AW P nt body ⟨bO args 0,mem,nx,nx⟩ (Uk rs ress mem' nx' nx)):aw P f args mem nx (fm ress) mem' nx':=by
 obtain⟨fn,c,h1,h2,h3,rfl,h5,h6⟩:=hf.is
 refine⟨⟨fn,h1,by rw[h2];rfl,h3⟩,λw0 U ι w vs hX hI=> ?_⟩
 have h9:vs.size=args.length:=by rw[←Array.length_toList];exact hI.length.symm
 have hs:bV w0 U ⟨bO args 0,mem,nx,nx⟩ ι {tmps:=vs++Array.replicate (fn.ntmps-vs.size) undef,defers:= []} w:=by
  refine⟨λt=> ?_,⟨rfl,hX.defers.2⟩,hX.names,hX.box,hX.apart,hX.below,hX.keep,hX.base⟩
  rcases li (vs:=vs.toList) (k:=0) hI t with h|h
  ·by_cases O:t<vs.size
   ·have e:(vs++Array.replicate (fn.ntmps-vs.size) undef).getD t undef=(vs.toList[t-0]?).getD undef:=by
     simp[Array.getD_eq_getD_getElem?,Array.getElem?_append,O]
    rw[e]
    exact h
   ·have:bc (bO args 0) t= .top:=by
     have key: ∀(l:List AV) (j:Nat),j+l.length≤t→bc (bO l j) t= .top:=by
      intro l
      induction l with
      |nil=>intro j _;rfl
      |cons x l ih=>
       intro j hj
       simp only[List.length_cons]at hj
       show(if j=t then x else bc (bO l (j+1)) t)=_
       rw[if_neg (by omega)]
       exact ih _ (by omega)
     exact key args 0 (by omega)
    show aX _ _ _ _ (bc (bO args 0) t) _
    rw[this]
    exact .top
  ·show aX _ _ _ _ (bc (bO args 0) t) _
   rw[h]
   exact .top
 have HI:(vs++Array.replicate (fn.ntmps-vs.size) undef).size=fn.ntmps:=by simp;omega
 have fin: ∀{a':Act} {w':World} {σ':St} {ι':Pl},(∃l rl,kV (aQ l σ' []).1 rs [] λvs=>ress.length=vs.length∧Wk rl {(aQ l σ' []).1 with fr:=bO vs 0} ⟨bO ress 0,mem',nx',nx⟩)→bV w0 U σ' ι' a' w'→ ∃v,(results fn a'.tmps).run P w'= .ok v w'∧
   ∃v' ι',Ending.returned v= .returned v'∧bV w0 U ⟨[],mem',nx',nx⟩ ι' {tmps:= #[],defers:= []} w'∧aX w' (aE w0.heap.size U ι' mem') ι' nx' (fm ress) v':=by
  rintro a' w' σ' ι' ⟨l,rl,HY⟩ J
  obtain⟨HL,_⟩:=rH (l:=l) (args:= []) (us:= []) J .nil rfl
  obtain⟨vs',us',g1,g2,ZV,ZS⟩:=nT HL (us:= []) h6 HY .nil
  have g1:aM (aX w' (aE w0.heap.size U ι' (aQ l σ' []).1.mem) ι' (aQ l σ' []).1.nx) vs' us':=by simpa using g1
  have hs3:bV w0 U {(aQ l σ' []).1 with fr:=bO vs' 0} ι' {tmps:=us'.toArray,defers:= []} w':=by
   refine⟨λt=> ?_,⟨rfl,HL.defers.2⟩,HL.names,HL.box,HL.apart,HL.below,HL.keep,HL.base⟩
   rcases li (vs:= []) (k:=0) g1 t with h|h
   ·have e:us'.toArray.getD t undef=(us'[t-0]?).getD undef:=by simp[Array.getD_eq_getD_getElem?]
    rw[e];exact h
   ·show aX _ _ _ _ (bc (bO vs' 0) t) _
    rw[h];exact .top
  have HZ:=hs3.wk ZS
  have hC:aM (aX w' (aE w0.heap.size U (λn=>ι' (rn rl n)) mem') (λn=>ι' (rn rl n)) nx') ress us':=by
   refine aM.of_get (by rw[ZV,g1.length]) λi x u hx hu=> ?_
   have h:=HZ.val i
   have e1:bc (bO ress 0) i=x:=by
    have:=xw (l:=ress) (k:=0) i
    rw[Nat.zero_add]at this
    rw[this,hx];rfl
   have e2:(us'.toArray).getD i undef=u:=by simp[Array.getD_eq_getD_getElem?,hu]
   simp only[e1,e2]at h
   exact h
  refine⟨_, ?_,_,λn=>ι' (rn rl n),rfl,⟨λt=> .top,⟨rfl,HZ.defers.2⟩,HZ.names,HZ.box,HZ.apart,HZ.below,HZ.keep,HZ.base⟩,uT hC⟩
  rw[oH,Array.mapM_eq_mapM_toList]
  simp[g2]
 refine wX h1 h2 (h (u4 hI) c h5 w0 U none [] _ _ w (λ_ e=>by cases e) hs HI) (λi σ' h=>h) ?_
 intro e a' w' σ' ι' hq J
 cases e with
 |normal=>exact fin hq J
 |exit i=>exact hq.elim
 |ret=>exact fin hq J
end
open Go.RowKit
def TJ (P:Program) (nt:Nat) (c:bi) (σ:St) [Q:mZ (bP→St→Prop)]:Prop:=AW P nt c σ Q.out
def iO (P:Program) (nt:Nat):bi→St→(bP→St→Prop)→Prop
 | .skip,σ,Q=>Q .normal σ
 | .region gs false,σ,Q=>lK P gs σ (Q .normal)
 | .region gs true,σ,Q=>TJ P nt (.region gs true) σ (Q:=⟨Q⟩)
 | .draw gss,σ,Q=>vN P gss σ (Q .normal)
 |.seq a b,σ,Q=>iO P nt a σ fun
  | .normal,σ=>iO P nt b σ Q
  | .exit i,σ=>Q (.exit i) σ
  | .ret,σ=>Q .ret σ
 |.cond c a b,σ,Q=>match c.ev σ.fr with
  | .c (.pure (.val (.bool t)))=>iC t (A:=⟨iO P nt a σ Q⟩) (B:=⟨iO P nt b σ Q⟩)
  |_=>False
 |.block id a,σ,Q=>iO P nt a σ fun
  | .normal,σ=>Q .normal σ
  | .exit i,σ=>if i=id then Q .normal σ else Q (.exit i) σ
  | .ret,σ=>Q .ret σ
 | .loop a,σ,Q=>TJ P nt (.loop a) σ (Q:=⟨Q⟩)
 | .rangeF f ps x y,σ,Q=>TJ P nt (.rangeF f ps x y) σ (Q:=⟨Q⟩)
 | .exit i,σ,Q=>Q (.exit i) σ
 | .ret,σ,Q=>Q .ret σ
theorem aa {P:Program} {nt:Nat}: ∀{c:bi} {σ:St} {Q:bP→St→Prop},iO P nt c σ Q→AW P nt c σ Q
 | .skip,σ,Q,h=>kK h
 | .region gs false,σ,Q,h=>Mx h
 | .region gs true,σ,Q,h=>h
 | .draw gss,σ,Q,h=>Rn h
 |.seq a b,σ,Q,h=>by
  simp only[iO]at h
  refine bU ((aa (c:=a) h).mono ?_)
  intro e σ h
  cases e with
  |normal=>exact aa (c:=b) h
  |exit i=>exact h
  |ret=>exact h
 |.cond c a b,σ,Q,h=>by
  simp only[iO]at h
  split at h
  ·exact fw ‹_› (λe=>aa (c:=a) (h.1 e)) (λe=>aa (c:=b) (h.2 e))
  ·exact h.elim
 |.block id a,σ,Q,h=>by
  simp only[iO]at h
  refine uE ((aa (c:=a) h).mono ?_)
  intro e σ h
  cases e with
  |normal=>exact h
  |exit i=>exact h
  |ret=>exact h
 | .loop a,σ,Q,h=>h
 | .rangeF f ps x y,σ,Q,h=>h
 | .exit i,σ,Q,h=>Q7 h
 | .ret,σ,Q,h=>lV h
theorem Kb {P:Program} {nt:Nat} {c:bi} {σ:St} {Q:bP→St→Prop} (t:Nat) (h:gw (bc σ.fr t)→AW P nt c σ Q):AW P nt c σ Q:=
 λc' hc w0 U rd ds ι a w Z hs hz=>h (Hh (hs.val t)) c' hc w0 U rd ds ι a w Z hs hz
theorem bA {P:Program} {g z:Bool} {f:FuncId} {args pargs:List AV} {σ:St} {K:mZ (AV→St→Prop)} {res:AV} (h:ac P f pargs res) (hp:bN σ.mem args=some pargs) (hs:nh res=true∨args.all gA=true) (hk:K.out res σ): @qi P g z f args σ K:=
 ⟨[],σ,args,.inl rfl,rfl,.inl ⟨pargs,hp,res,.inl ⟨h,hs⟩,hk⟩⟩
theorem aW {P:Program} {g z:Bool} {f:FuncId} {args pargs:List AV} {σ:St} {K:mZ (AV→St→Prop)} {res:AV} (h:ac P f pargs res) (hp:bN σ.mem args=some pargs) (hs:args.all gA=true) (hk:K.out res σ): @qi P g z f args σ K:=bA h hp (.inr hs) hk
theorem aq {P:Program} {g z:Bool} {f:FuncId} {args pargs:List AV} {σ:St} {K:mZ (AV→St→Prop)} {res:AV} (h:ac P f pargs res) (hp:bN σ.mem args=some pargs) (hs:nh res=true) (hk:K.out res σ): @qi P g z f args σ K:=bA h hp (.inl hs) hk
theorem ap {P:Program} {z:Bool} {f:FuncId} {args:List AV} {σ:St} {K:mZ (AV→St→Prop)} {res:AV} {mem':List (Nat×bk)} {nx':Nat} (h:aw P f args σ.mem σ.nx res mem' nx') (hk:K.out res {σ with mem:=mem',nx:=nx'}): @qi P true z f args σ K:=
 ⟨[],σ,args,.inl rfl,rfl,.inr ⟨rfl,res,mem',nx',h,hk⟩⟩
theorem QK (l:List Nat) {P:Program} {g:Bool} {f:FuncId} {args args' pargs:List AV} {σ σ':St} {K:mZ (AV→St→Prop)} {res:AV} (h:ac P f pargs res) (hz:aQ l σ args=(σ',args')) (hp:bN σ'.mem args'=some pargs) (hs:nh res=true∨args'.all gA=true) (hk:K.out res σ'): @qi P g true f args σ K:=
 ⟨l,σ',args',.inr rfl,hz,.inl ⟨pargs,hp,res,.inl ⟨h,hs⟩,hk⟩⟩
theorem Pw (l:List Nat) {P:Program} {f:FuncId} {args args':List AV} {σ σ':St} {K:mZ (AV→St→Prop)} {res:AV} {mem':List (Nat×bk)} {nx':Nat} (hz:aQ l σ args=(σ',args')) (h:aw P f args' σ'.mem σ'.nx res mem' nx') (hk:K.out res {σ' with mem:=mem',nx:=nx'}): @qi P true true f args σ K:=
 ⟨l,σ',args',.inr rfl,hz,.inr ⟨rfl,res,mem',nx',h,hk⟩⟩
theorem qZ (l:List Nat) {P:Program} {nt:Nat} {c:bi} {σ:St} {Q:bP→St→Prop} (h:AW P nt c (aQ l σ []).1 Q):AW P nt c σ Q:=
 λc' hc w0 U rd ds ι a w Z hs hz=>h c' hc w0 U rd ds ι a w Z (rH (l:=l) (args:= []) (us:= []) hs .nil rfl).1 hz
theorem Tr (nm e sz:Nat) (rows:List (List PC)) {P:Program} {nt:Nat} {c:bi} {σ:St} {Q:bP→St→Prop} (hf:al σ.mem nm=some (.arr e sz rows)) (h:AW P nt c {σ with mem:=dJ σ.mem nm (.arn e sz (rows.map λr=>r.map .pure))} Q):AW P nt c σ Q:=
 λc' hc w0 U rd ds ι a w Z hs hz=>h c' hc w0 U rd ds ι a w Z (hs.rebox hf (by
  obtain⟨cells,g0,g1,g2,g3,g4,g5⟩:=hs.box _ _ hf
  refine⟨cells,g0,by rw[List.length_map];exact g1,by rw[List.length_map];exact g2,by rw[List.length_map];exact g3,λi row hi=> ?_,λi row j p hi hj=> ?_⟩
  ·rw[List.getElem?_map,Option.map_eq_some_iff]at hi
   obtain⟨r,hi,rfl⟩:=hi
   rw[List.length_map]
   exact g4 _ _ hi
  ·rw[List.getElem?_map,Option.map_eq_some_iff]at hi
   obtain⟨r,hi,rfl⟩:=hi
   rw[List.getElem?_map,Option.map_eq_some_iff]at hj
   obtain⟨q,hj,rfl⟩:=hj
   obtain⟨v,hv,hp⟩:=g5 _ _ _ _ hi hj
   exact⟨v,hv,.pure hp⟩)) hz
theorem SD (nm e sz:Nat) (rows:List (List PC)) {P:Program} {nt:Nat} {c:bi} {σ:St} {Q:bP→St→Prop} (hf:al σ.mem nm=some (.arn e sz (rows.map λr=>r.map .pure))) (h:AW P nt c {σ with mem:=dJ σ.mem nm (.arr e sz rows)} Q):AW P nt c σ Q:=
 λc' hc w0 U rd ds ι a w Z hs hz=>h c' hc w0 U rd ds ι a w Z (hs.rebox hf (by
  obtain⟨cells,g0,g1,g2,g3,g4,g5⟩:=hs.box _ _ hf
  rw[List.length_map]at g1 g2 g3
  refine⟨cells,g0,g1,g2,g3,λi row hi=> ?_,λi row j p hi hj=> ?_⟩
  ·have:=g4 i _ (by rw[List.getElem?_map,hi];rfl)
   rwa [List.length_map]at this
  ·obtain⟨v,hv,hp⟩:=g5 i _ j _ (by rw[List.getElem?_map,hi];rfl) (by rw[List.getElem?_map,hj];rfl)
   cases hp with
   |pure hp=>exact⟨v,hv,hp⟩)) hz
theorem wrap_i64 {x:Int} (h1: -9223372036854775808≤x∧x≤9223372036854775807):IntKind.wrap .i64 x=x:=by
 rw[IntKind.wrap_i64];omega
theorem wrap_u64 {x:Int} (h1:0≤x∧x≤18446744073709551615):IntKind.wrap .u64 x=x:=by
 have:IntKind.wrap .u64 x=x%18446744073709551616:=by simp[IntKind.wrap,IntKind.bits,IntKind.signed]
 rw[this];omega
theorem aZ {sz:Nat}:aK sz []:= λr h=>by cases h
theorem an {sz:Nat} {r:List PC} (h:r.length=sz):aK sz [r]:= λx hx=>by
 rw[List.mem_singleton]at hx;rw[hx];exact h
theorem ar {α:Type} {sz:Nat} {f:α→List PC} {l:List α} (h: ∀x,(f x).length=sz):aK sz (l.map f):= λr hr=>by
 obtain⟨x,_,rfl⟩:=List.mem_map.1 hr;exact h x
theorem jI {sz:Nat} {r s:List (List PC)} (h:aK sz r) (h':aK sz s):aK sz (r++s):= λx hx=>by
 rcases List.mem_append.1 hx with e|e
 ·exact h x e
 ·exact h' x e
theorem xA {sz n:Nat} {r:List (List PC)} (h:aK sz r):aK sz (r.take n):= λx hx=>h x (List.mem_of_mem_take hx)
theorem xC {sz n:Nat} {r:List (List PC)} (h:aK sz r):aK sz (r.drop n):= λx hx=>h x (List.mem_of_mem_drop hx)
abbrev I (n:Int):AV:= .c (.pure (.val (.int .i64 n)))
abbrev B (b:Bool):AV:= .c (.pure (.val (.bool b)))
abbrev S (s:ByteArray):AV:= .c (.pure (.val (.string s)))
abbrev qN (xs:List Int):PC:= .slice (xs.map λn=> [.val (.int .i64 n)])
abbrev iE (xs:List Int):AV:= .c (.pure (qN xs))
section
variable {P : Program} {nt : Nat} {σ : St} {Q : bP → St → Prop} {K : St → Prop}
theorem Mb:iO P nt .skip σ Q=Q .normal σ:=propext ⟨id,id⟩
theorem GA {gs:List AG}:iO P nt (.region gs false) σ Q=lK P gs σ (Q .normal):=propext ⟨id,id⟩
theorem MJ {gs:List AG}:iO P nt (.region gs true) σ Q=TJ P nt (.region gs true) σ (Q:=⟨Q⟩):=propext ⟨id,id⟩
theorem Ki {gss:List (List (Bool×AG))}:iO P nt (.draw gss) σ Q=vN P gss σ (Q .normal):=propext ⟨id,id⟩
theorem PJ {a b:bi}:iO P nt (.seq a b) σ Q=iO P nt a σ (λe σ=>match e with
  | .normal=>iO P nt b σ Q
  | .exit i=>Q (.exit i) σ
  | .ret=>Q .ret σ):=by
 simp only[iO]
 congr 1
 funext e σ
 cases e<;>rfl
theorem Mu {c:AX} {a b:bi}:iO P nt (.cond c a b) σ Q=match c.ev σ.fr with
  | .c (.pure (.val (.bool t)))=>iC t (A:=⟨iO P nt a σ Q⟩) (B:=⟨iO P nt b σ Q⟩)
  |_=>False:=propext ⟨id,id⟩
theorem Jj {id:Nat} {a:bi}:iO P nt (.block id a) σ Q=iO P nt a σ (λe σ=>match e with
  | .normal=>Q .normal σ
  | .exit i=>if i=id then Q .normal σ else Q (.exit i) σ
  | .ret=>Q .ret σ):=by
 simp only[iO]
 congr 1
 funext e σ
 cases e<;>rfl
theorem F1 {f:AX} {ps:List Nat} {x y:bi}:iO P nt (.rangeF f ps x y) σ Q=TJ P nt (.rangeF f ps x y) σ (Q:=⟨Q⟩):=propext ⟨id,id⟩
theorem Nj {a:bi}:iO P nt (.loop a) σ Q=TJ P nt (.loop a) σ (Q:=⟨Q⟩):=propext ⟨id,id⟩
theorem M9 {i:Nat}:iO P nt (.exit i) σ Q=Q (.exit i) σ:=propext ⟨id,id⟩
theorem NE:iO P nt .ret σ Q=Q .ret σ:=propext ⟨id,id⟩
theorem PP:lK P [] σ K=K σ:=propext ⟨id,id⟩
theorem MZ {d:Option Nat} {op:fq} {r:List AG}:lK P (⟨d,none,op⟩::r) σ K=bR P op σ λv σ'=>lK P r (σ'.put d v) K:=propext ⟨id,id⟩
theorem Ke {d:Option Nat} {op:fq} {t:Nat} {want:Bool} {r:List AG}:lK P (⟨d,some (t,want),op⟩::r) σ K=match bc σ.fr t with
  | .c (.pure (.val (.bool b)))=>iC (b==want) (A:=⟨bR P op σ λv σ'=>lK P r (σ'.put d v) K⟩) (B:=⟨lK P r (σ.put d (.tup [])) K⟩)
  | .tup []=>lK P r (σ.put d (.tup [])) K
  |_=>False:=propext ⟨id,id⟩
theorem Ov:jA P [] σ K=K σ:=propext ⟨id,id⟩
theorem M6 {d:Option Nat} {op:fq} {r:List (Bool×AG)}:jA P ((false,⟨d,none,op⟩)::r) σ K=bR P op σ λv σ'=>jA P r (σ'.put d v) K:=by
 have e: ∀(p:Prop),(@db (false=true→p)= λK=>K.out):= λp=>funext λK=>EB (λe=>by cases e)
 simp only[jA,e]
theorem MX {d:Option Nat} {op:fq} {r:List (Bool×AG)}:jA P ((true,⟨d,none,op⟩)::r) σ K=bR P op σ λv σ'=>db (JT σ.mem σ'.mem) (K:=⟨jA P r (σ'.put d v) K⟩):=by
 simp only[jA,forall_const]
theorem Jw {d:Option Nat} {x:Bool} {op:fq} {t:Nat} {want:Bool} {r:List (Bool×AG)}:jA P ((x,⟨d,some (t,want),op⟩)::r) σ K=match bc σ.fr t with
  | .c (.pure (.val (.bool b)))=>iC (b==want) (A:=⟨jA P ((x,⟨d,none,op⟩)::r) σ K⟩) (B:=⟨jA P r (σ.put d (.tup [])) K⟩)
  | .tup []=>jA P r (σ.put d (.tup [])) K
  |_=>False:=propext ⟨id,id⟩
theorem Md {gs:List (Bool×AG)}:vN P [gs] σ K=jA P gs σ K:=propext ⟨id,id⟩
theorem Nf {gs hs:List (Bool×AG)} {r:List (List (Bool×AG))}:vN P (gs::hs::r) σ K=Qb (A:=⟨jA P gs σ K⟩) (B:=⟨vN P (hs::r) σ K⟩):=propext ⟨id,id⟩
theorem Na {m:List (Nat×bk)}:JT m m=True:=eq_true (.inl rfl)
theorem M2 {m:List (Nat×bk)} {n:Nat} {b:bk}:JT m ((n,b)::m)=(al m n=none):=propext ⟨λh=>by
 rcases h with h|⟨n',b',h1,h2⟩
 ·have:=congrArg List.length h
  simp at this
 ·cases h1
  exact h2,λh=> .inr ⟨n,b,rfl,h⟩⟩
end
section
variable {P : Program} {σ : St} {K : AV → St → Prop}
theorem S5 {x:AX}:bR P (.mv x) σ K=(K (x.ev σ.fr) σ):=propext ⟨id,id⟩
theorem P6 {c:AX} {a:AX} {b:AX}:bR P (.pick c a b) σ K=(match c.ev σ.fr with
  | .c (.pure (.val (.bool t)))=>iC t (A:=⟨K (a.ev σ.fr) σ⟩) (B:=⟨K (b.ev σ.fr) σ⟩)
  |_=>False):=propext ⟨id,id⟩
theorem RH {x:AX}:bR P (.box x) σ K=(match (x.ev σ.fr).cells with
  |some xs=>K (.c (.ptr σ.nx 0)) {σ with mem:=(σ.nx,.var xs)::σ.mem,nx:=σ.nx+1}
  |none=>False):=propext ⟨id,id⟩
theorem PF {n:Option Nat} {p:AX}:bR P (.load n p) σ K=(match p.ev σ.fr with
  |.c q=>match b8 σ.mem q with
   |some xs=>match n with
    |none=>match xs with
     |x::_=>K (.c x) σ
     | []=>False
    |some n=>db (n≤xs.length) (K:=⟨K (.agg (xs.take n)) σ⟩)
   |none=>False
  |_=>False):=propext ⟨id,id⟩
theorem MR {n:Nat} {p:AX} {v:AX}:bR P (.store n p v) σ K=(match (v.ev σ.fr).cells,p.ev σ.fr with
  |some ys,.c (.ptr nm off)=>match al σ.mem nm with
   |some (.var xs)=>db (ys.length=n∧off+n≤xs.length) (K:=⟨K (.tup []) {σ with mem:=dJ σ.mem nm (.var (over xs off ys))}⟩)
   |_=>False
  |some ys,.c (.eptr nm sz row off)=>match al σ.mem nm with
   |some (.arr e sz' rows)=>db (sz=sz'∧ys.length=n∧off+n≤sz) (K:=⟨fU (IM ys) (K:=⟨λzs=>fU rows[row]? (K:=⟨λr=>
     K (.tup []) {σ with mem:=dJ σ.mem nm (.arr e sz (rows.set row (over r off zs)))}⟩)⟩)⟩)
   |some (.arn e sz' rows)=>db (sz=sz'∧ys.length=n∧off+n≤sz) (K:=⟨fU rows[row]? (K:=⟨λr=>
     K (.tup []) {σ with mem:=dJ σ.mem nm (.arn e sz (rows.set row (over r off ys)))}⟩)⟩)
   |_=>False
  |_,_=>False):=propext ⟨id,id⟩
theorem QG {op:BinOp} {x:AX} {y:AX}:bR P (.bin op x y) σ K=(match x.ev σ.fr,y.ev σ.fr with
  |.c (.pure (.val a)),.c (.pure (.val b))=>match op with
   | .shl| .shr=>mN op a b λv=>K (.c (.pure (.val v))) σ
   |_=>yJ op a b λv=>K (.c (.pure (.val v))) σ
  |_,_=>False):=propext ⟨id,id⟩
theorem QU {neg:Bool} {x:AX} {y:AX}:bR P (.eqb neg x y) σ K=(match x.ev σ.fr,y.ev σ.fr with
  | .c (.pure (.val (.bool a))),.c (.pure (.val (.bool b)))=>K (.c (.pure (.val (.bool ((a==b) !=neg))))) σ
  |_,_=>False):=propext ⟨id,id⟩
theorem Ry {neg:Bool} {l:List ET} {x:AX} {y:AX}:bR P (.eqs neg l x y) σ K=(match x.ev σ.fr,y.ev σ.fr with
  | .agg xs,.agg ys=>db (wY l xs ys) (K:=⟨K (.c (.pure (.val (.bool (wA (I4 xs ys) !=neg))))) σ⟩)
  |_,_=>False):=propext ⟨id,id⟩
theorem N9 {op:UnOp} {x:AX}:bR P (.un op x) σ K=(match op,x.ev σ.fr with
  | .not,.c (.pure (.val (.bool b)))=>K (.c (.pure (.val (.bool (!b))))) σ
  | .neg,.c (.pure (.val (.int k n)))=>K (.c (.pure (.val (.int k (k.wrap (0-n)))))) σ
  | .xor,.c (.pure (.val (.int k n)))=>K (.c (.pure (.val (.int k (k.wrap (BitVec.ofInt k.bits (if k.signed then-1 else k.max)^^^BitVec.ofInt k.bits n).toNat))))) σ
  |_,_=>False):=propext ⟨id,id⟩
theorem Qh {k:IntKind} {x:AX}:bR P (.conv k x) σ K=(match x.ev σ.fr with
  | .c (.pure (.val (.int _ n)))=>K (.c (.pure (.val (.int k (k.wrap n))))) σ
  |_=>False):=propext ⟨id,id⟩
theorem Jp {off:Nat} {p:AX}:bR P (.fieldA off p) σ K=(match p.ev σ.fr with
  | .c (.ptr nm o)=>K (.c (.ptr nm (o+off))) σ
  | .c (.cptr cells)=>K (.c (.cptr (cells.drop off))) σ
  | .c (.eptr nm sz row o)=>K (.c (.eptr nm sz row (o+off))) σ
  |_=>False):=propext ⟨id,id⟩
theorem MH {off:Nat} {n:Option Nat} {x:AX}:bR P (.field off n x) σ K=(match x.ev σ.fr with
  |.agg xs=>match n with
   |none=>match xs.drop off with
    |x::_=>K (.c x) σ
    | []=>False
   |some n=>db (off+n≤xs.length) (K:=⟨K (.agg ((xs.drop off).take n)) σ⟩)
  |_=>False):=propext ⟨id,id⟩
theorem N5 {sz:Nat} {x:AX} {i:AX}:bR P (.idxA sz x i) σ K=(match x.ev σ.fr,i.ev σ.fr with
  | .c (.pure (.slice rows)),.c (.pure (.val (.int _ i)))| .c (.tsl rows),.c (.pure (.val (.int _ i)))=>db (0≤i) (K:=⟨fU rows[i.toNat]? (K:=⟨λr=>db (r.length=sz∧0<sz) (K:=⟨K (.c (.cptr r)) σ⟩)⟩)⟩)
  |.c (.ref nm),.c (.pure (.val (.int _ i)))=>match al σ.mem nm with
   |some (.arr _ sz' rows)=>db (sz'=sz∧0<sz∧0≤i∧i<rows.length) (K:=⟨K (.c (.eptr nm sz i.toNat 0)) σ⟩)
   |some (.arn _ sz' rows)=>db (sz'=sz∧0<sz∧0≤i∧i<rows.length) (K:=⟨K (.c (.eptr nm sz i.toNat 0)) σ⟩)
   |_=>False
  |_,_=>False):=propext ⟨id,id⟩
theorem ND {len:Nat} {sz:Nat} {x:AX} {i:AX}:bR P (.idxR len sz x i) σ K=(match x.ev σ.fr,i.ev σ.fr with
  | .c (.ptr nm o),.c (.pure (.val (.int _ i)))=>db (0≤i∧i<len) (K:=⟨K (.c (.ptr nm (o+i.toNat*sz))) σ⟩)
  | .c (.cptr cells),.c (.pure (.val (.int _ i)))=>db (0≤i∧i<len) (K:=⟨K (.c (.cptr (cells.drop (i.toNat*sz)))) σ⟩)
  |_,_=>False):=propext ⟨id,id⟩
theorem N6 {x:AX}:bR P (.nilc x) σ K=(match x.ev σ.fr with
  | .c (.ptr nm o)=>K (.c (.ptr nm o)) σ
  | .c (.cptr cells)=>K (.c (.cptr cells)) σ
  | .c (.eptr nm sz row o)=>K (.c (.eptr nm sz row o)) σ
  | .c (.clo f caps)=>K (.c (.clo f caps)) σ
  |_=>False):=propext ⟨id,id⟩
theorem Pv {x:AX} {i:AX}:bR P (.idxS x i) σ K=(match x.ev σ.fr,i.ev σ.fr with
  | .c (.pure (.val (.string s))),.c (.pure (.val (.int _ i)))=>db (0≤i) (K:=⟨fU s[i.toNat]? (K:=⟨λb=>K (.c (.pure (.val (.int .u8 b.toNat)))) σ⟩)⟩)
  |_,_=>False):=propext ⟨id,id⟩
theorem Mf {zero:List AC} {parts:List (Nat×Nat×AX)}:bR P (.build zero parts) σ K=(bR.buildW σ parts zero λxs=>K (.agg xs) σ):=propext ⟨id,id⟩
theorem I7 {sz:Nat} {rows:List AX}:bR P (.bslice sz rows) σ K=(bR.bsliceW σ sz rows [] λrs=>K (.c (.tsl rs)) σ):=propext ⟨id,id⟩
theorem IP {e:Nat} {sz:Nat} {bytes:Nat} {zero:List PC} {l:AX}:bR P (.mkslice e sz bytes zero l) σ K=(match l.ev σ.fr with
  | .c (.pure (.val (.int .i64 n)))=>db (0≤n∧n≤281474976710656∧bytes*n≤281474976710656) (K:=⟨
    K (.c (.ref σ.nx)) {σ with mem:=(σ.nx,.arr e sz (List.replicate n.toNat zero))::σ.mem,nx:=σ.nx+1}⟩)
  |_=>False):=propext ⟨id,id⟩
theorem QL {sz:Nat} {x:AX} {lo:Option AX} {hi:Option AX} {mx:Option AX}:bR P (.slc sz x lo hi mx) σ K=(match x.ev σ.fr with
  | .c (.ref _)=>False
  |v=>fU (fK σ.mem v) (K:=⟨λrows=>fU (bR.boundOf σ lo) (K:=⟨λlo=>fU (bR.boundOf σ hi) (K:=⟨λhi=>fU (bR.boundOf σ mx) (K:=⟨λmx=>
   db (aK sz rows∧0≤lo.getD 0∧lo.getD 0≤hi.getD rows.length∧hi.getD rows.length≤mx.getD rows.length∧mx.getD rows.length≤rows.length) (K:=⟨
   K (.c (if mx.isSome=true∧mx=hi then .tsl ((rows.take (hi.getD rows.length).toNat).drop (lo.getD 0).toNat)else .pure (.slice ((rows.take (hi.getD rows.length).toNat).drop (lo.getD 0).toNat)))) σ⟩)⟩)⟩)⟩)⟩)):=propext ⟨id,id⟩
theorem OH {x:AX} {lo:Option AX} {hi:Option AX}:bR P (.slcS x lo hi) σ K=(match x.ev σ.fr,bR.boundOf σ lo,bR.boundOf σ hi with
  |.c (.pure (.val (.string s))),some lo,some hi=>db (0≤lo.getD 0∧lo.getD 0≤hi.getD s.size∧hi.getD s.size≤s.size) (K:=⟨
   K (.c (.pure (.val (.string (s.extract (lo.getD 0).toNat (hi.getD s.size).toNat))))) σ⟩)
  |_,_,_=>False):=propext ⟨id,id⟩
theorem QQ {x:AX} {i:Nat}:bR P (.ext x i) σ K=(match x.ev σ.fr with
  | .tup vs=>fU vs[i]? (K:=⟨λv=>K v σ⟩)
  |_=>False):=propext ⟨id,id⟩
theorem QT {x:AX}:bR P (.len x) σ K=(match x.ev σ.fr with
  | .c (.pure (.slice rows))| .c (.tsl rows)=>K (.c (.pure (.val (.int .i64 rows.length)))) σ
  | .c .nils=>K (.c (.pure (.val (.int .i64 0)))) σ
  |.c (.ref nm)=>match al σ.mem nm with
   |some (.arr _ _ rows)=>K (.c (.pure (.val (.int .i64 rows.length)))) σ
   |some (.arn _ _ rows)=>K (.c (.pure (.val (.int .i64 rows.length)))) σ
   |_=>False
  |_=>False):=propext ⟨id,id⟩
theorem PI {x:AX}:bR P (.lenS x) σ K=(match x.ev σ.fr with
  | .c (.pure (.val (.string s)))=>K (.c (.pure (.val (.int .i64 s.size)))) σ
  |_=>False):=propext ⟨id,id⟩
theorem Tf {mx:Bool} {x:AX} {y:AX}:bR P (.mm mx x y) σ K=(match x.ev σ.fr,y.ev σ.fr with
  | .c (.pure (.val (.int k a))),.c (.pure (.val (.int _ b)))=>K (.c (.pure (.val (.int k (if mx=true then max a b else min a b))))) σ
  |_,_=>False):=propext ⟨id,id⟩
theorem QP {x y z t:AX}:bR P (.mm4 x y z t) σ K=(match x.ev σ.fr,y.ev σ.fr,z.ev σ.fr,t.ev σ.fr with
  | .c (.pure (.val (.int k a))),.c (.pure (.val (.int _ b))),.c (.pure (.val (.int _ c))),.c (.pure (.val (.int _ d)))=>K (.c (.pure (.val (.int k (max (max (max a b) c) d))))) σ
  |_,_,_,_=>False):=propext ⟨id,id⟩
theorem NR:bR P .dead σ K=False:=propext ⟨id,id⟩
theorem NO {neg:Bool} {x:AX}:bR P (.fnil neg x) σ K=(match x.ev σ.fr with
  | .c (.clo _ _)=>K (.c (.pure (.val (.bool neg)))) σ
  | .c (.pure (.val .nilFunc))=>K (.c (.pure (.val (.bool (!neg))))) σ
  |_=>False):=propext ⟨id,id⟩
theorem OJ {neg:Bool} {x:AX}:bR P (.snil neg x) σ K=(match x.ev σ.fr with
  | .c .nils=>K (.c (.pure (.val (.bool (!neg))))) σ
  | .c (.pure (.slice rows))| .c (.tsl rows)=>Ei rows (A:=⟨K (.c (.pure (.val (.bool (!neg))))) σ⟩) (B:=⟨K (.c (.pure (.val (.bool neg)))) σ⟩)
  |.c (.ref nm)=>match al σ.mem nm with
   |some (.arr _ _ rows)=>Ei rows (A:=⟨K (.c (.pure (.val (.bool (!neg))))) σ⟩) (B:=⟨K (.c (.pure (.val (.bool neg)))) σ⟩)
   |_=>False
  |_=>False):=propext ⟨id,id⟩
theorem Rx {e:Nat} {sz:Nat} {bytes:Nat} {x:AX} {y:AX}:bR P (.app e sz bytes x y) σ K=(fU (fK σ.mem (y.ev σ.fr)) (K:=⟨λys=>zS e sz bytes (x.ev σ.fr) (y.ev σ.fr) ys σ (K:=⟨K⟩)⟩)):=propext ⟨id,id⟩
theorem Pr {f:FuncId} {caps:List AX}:bR P (.mkfn f caps) σ K=(bR.mkfnW σ caps [] λxs=>K (.c (.clo f xs)) σ):=propext ⟨id,id⟩
theorem Pb {g z:Bool} {f:AX} {args:List AX}:bR P (.call g z f args) σ K=(match f.ev σ.fr with
  | .c (.clo f caps)=>qi P g z f (args.map (·.ev σ.fr)++caps.map .c) σ (K:=⟨K⟩)
  |_=>False):=propext ⟨id,id⟩
theorem GS {sz:Nat} {rows:List AX}:bR P (.bsliceF sz rows) σ K=(bR.bsliceFW σ sz rows σ.mem [] λrs mem=>K (.c (.tsl rs)) {σ with mem:=mem}):=propext ⟨id,id⟩
theorem LY {kt:KT} {n:Option Nat}:bR P (.mkmap kt n) σ K=(K (.c (.mref σ.nx)) {σ with mem:=(σ.nx,.map kt n [])::σ.mem,nx:=σ.nx+1}):=propext ⟨id,id⟩
theorem Nr {kt:KT} {n:Option Nat} {zero:List AC} {ok:Bool} {m:AX} {k:AX}:bR P (.mget kt n zero ok m k) σ K=(match k.ev σ.fr with
  |.c (.pure (.val kv))=>fU (FY kt kv) (K:=⟨λmk=>match m.ev σ.fr with
   |.c (.mref nm)=>match al σ.mem nm with
    |some (.map kt' n' ents)=>db (kt'=kt∧n'=n) (K:=⟨sZ (jb ents mk) (A:=⟨λps=>K (if ok=true then .tup [gx n ps,.c (.pure (.val (.bool true)))]else gx n ps) σ⟩)
     (B:=⟨K (if ok=true then .tup [gx n zero,.c (.pure (.val (.bool false)))]else gx n zero) σ⟩)⟩)
    |_=>False
   | .c (.pure (.fmap kt' n' es))=>db (kt'=kt∧n'=n) (K:=⟨sZ (jb (oN es) mk) (A:=⟨λps=>K (if ok=true then .tup [gx n ps,.c (.pure (.val (.bool true)))]else gx n ps) σ⟩)
     (B:=⟨K (if ok=true then .tup [gx n zero,.c (.pure (.val (.bool false)))]else gx n zero) σ⟩)⟩)
   |_=>False⟩)
  |_=>False):=propext ⟨id,id⟩
theorem Ox {kt:KT} {n:Option Nat} {m:AX} {k:AX} {v:AX}:bR P (.mput kt n m k v) σ K=(match k.ev σ.fr with
  |.c (.pure (.val kv))=>fU (FY kt kv) (K:=⟨λmk=>match m.ev σ.fr with
   |.c (.mref nm)=>fU (Bg n (v.ev σ.fr)) (K:=⟨λys=>match al σ.mem nm with
    |some (.map kt' n' ents)=>db (kt'=kt∧n'=n) (K:=⟨K (.tup []) {σ with mem:=dJ σ.mem nm (.map kt n (x9 ents mk ys))}⟩)
    |_=>False⟩)
   |_=>False⟩)
  |_=>False):=propext ⟨id,id⟩
end
section
variable {P : Program} {σ : St}
theorem HU {sz:Nat} {acc:List (List PC)} {K:List (List PC)→Prop}:bR.bsliceW σ sz [] acc K=K acc:=propext ⟨id,id⟩
theorem Fv {sz:Nat} {x:AX} {r:List AX} {acc:List (List PC)} {K:List (List PC)→Prop}:bR.bsliceW σ sz (x::r) acc K=(match (x.ev σ.fr).cells with
   |some ys=>fU (IM ys) (K:=⟨λzs=>db (ys.length=sz) (K:=⟨bR.bsliceW σ sz r (acc++ [zs]) K⟩)⟩)
   |none=>False):=propext ⟨id,id⟩
theorem E8 {sz:Nat} {mem:List (Nat×bk)} {acc:List (List PC)} {K:List (List PC)→List (Nat×bk)→Prop}:bR.bsliceFW σ sz [] mem acc K=K acc mem:=propext ⟨id,id⟩
theorem Cj {sz:Nat} {x:AX} {r:List AX} {mem:List (Nat×bk)} {acc:List (List PC)} {K:List (List PC)→List (Nat×bk)→Prop}:bR.bsliceFW σ sz (x::r) mem acc K=(match (x.ev σ.fr).cells with
   |some ys=>fU (DO mem ys) (K:=⟨λz=>db (ys.length=sz) (K:=⟨bR.bsliceFW σ sz r z.2 (acc++ [z.1]) K⟩)⟩)
   |none=>False):=propext ⟨id,id⟩
theorem Jf {acc:List AC} {K:List AC→Prop}:bR.buildW σ [] acc K=K acc:=propext ⟨id,id⟩
theorem F4 {off n:Nat} {x:AX} {r:List (Nat×Nat×AX)} {acc:List AC} {K:List AC→Prop}:bR.buildW σ ((off,n,x)::r) acc K=(match (x.ev σ.fr).cells with
   |some ys=>db (ys.length=n∧off+n≤acc.length) (K:=⟨bR.buildW σ r (over acc off ys) K⟩)
   |none=>False):=propext ⟨id,id⟩
theorem Nh {acc:List AC} {K:List AC→Prop}:bR.mkfnW σ [] acc K=K acc:=propext ⟨id,id⟩
theorem JK {x:AX} {r:List AX} {acc:List AC} {K:List AC→Prop}:bR.mkfnW σ (x::r) acc K=(match x.ev σ.fr with
   | .c y=>bR.mkfnW σ r (acc++ [y]) K
   |_=>False):=propext ⟨id,id⟩
end
def SM (n:Nat) (a b:Int):Int:=(BitVec.ofInt n a&&&BitVec.ofInt n b).toNat
def Wn (n:Nat) (a b:Int):Int:=(BitVec.ofInt n a|||BitVec.ofInt n b).toNat
def V4 (n:Nat) (a b:Int):Int:=(BitVec.ofInt n a^^^BitVec.ofInt n b).toNat
def Ut (n:Nat) (a b:Int):Int:=(BitVec.ofInt n a&&& ~~~BitVec.ofInt n b).toNat
section
variable {k : IntKind} {a b : Int} {s u : ByteArray} {K : Value → Prop}
theorem Ps:lA .add k a b K=K (.int k (k.wrap (a+b))):=propext ⟨id,id⟩
theorem O8:lA .sub k a b K=K (.int k (k.wrap (a-b))):=propext ⟨id,id⟩
theorem Qa:lA .mul k a b K=K (.int k (k.wrap (a*b))):=propext ⟨id,id⟩
theorem Qe:lA .quo k a b K=db (b≠0) (K:=⟨K (.int k (k.wrap (a.tdiv b)))⟩):=propext ⟨id,id⟩
theorem NQ:lA .rem k a b K=db (b≠0) (K:=⟨K (.int k (a.tmod b))⟩):=propext ⟨id,id⟩
theorem PA:lA .and k a b K=K (.int k (k.wrap (SM k.bits a b))):=propext ⟨id,id⟩
theorem RB:lA .or k a b K=K (.int k (k.wrap (Wn k.bits a b))):=propext ⟨id,id⟩
theorem NC:lA .xor k a b K=K (.int k (k.wrap (V4 k.bits a b))):=propext ⟨id,id⟩
theorem G4:lA .andNot k a b K=K (.int k (k.wrap (Ut k.bits a b))):=propext ⟨id,id⟩
theorem Ol:lA .eql k a b K=K (.bool (a==b)):=propext ⟨id,id⟩
theorem Qg:lA .neq k a b K=K (.bool (a !=b)):=propext ⟨id,id⟩
theorem Po:lA .lss k a b K=K (.bool (decide (a<b))):=propext ⟨id,id⟩
theorem NN:lA .leq k a b K=K (.bool (decide (a≤b))):=propext ⟨id,id⟩
theorem P4:lA .gtr k a b K=K (.bool (decide (a>b))):=propext ⟨id,id⟩
theorem PB:lA .geq k a b K=K (.bool (decide (a≥b))):=propext ⟨id,id⟩
theorem Pm:tE .add s u K=db (s.size+u.size≤9223372036854775807) (K:=⟨K (.string (s++u))⟩):=propext ⟨id,id⟩
theorem N3:tE .eql s u K=K (.bool (s.toList==u.toList)):=propext ⟨id,id⟩
theorem OY:tE .neq s u K=K (.bool (!(s.toList==u.toList))):=propext ⟨id,id⟩
theorem PY:tE .lss s u K=K (.bool (Op.bytesLess s.toList u.toList)):=propext ⟨id,id⟩
theorem OT:tE .leq s u K=K (.bool (Op.bytesLess s.toList u.toList||s.toList==u.toList)):=propext ⟨id,id⟩
theorem O7:tE .gtr s u K=K (.bool (!(Op.bytesLess s.toList u.toList||s.toList==u.toList))):=propext ⟨id,id⟩
theorem NU:tE .geq s u K=K (.bool (!(Op.bytesLess s.toList u.toList))):=propext ⟨id,id⟩
theorem Ns {op:BinOp} {k':IntKind}:yJ op (.int k a) (.int k' b) K=db (k=k') (K:=⟨lA op k a b K⟩):=propext ⟨id,id⟩
theorem O6 {op:BinOp}:yJ op (.string s) (.string u) K=tE op s u K:=propext ⟨id,id⟩
theorem Ku:rh .shl k a b K=K (.int k (k.wrap (a*2^(min b.toNat k.bits)))):=propext ⟨id,id⟩
theorem Js:rh .shr k a b K=K (.int k (a.fdiv (2^(min b.toNat k.bits)))):=propext ⟨id,id⟩
theorem JY {op:BinOp} {k':IntKind}:mN op (.int k a) (.int k' b) K=db (0≤b) (K:=⟨rh op k a b K⟩):=propext ⟨id,id⟩
end
section
variable {σ : St} {K : List AV → Prop} {L : AV → Prop}
theorem Ot {acc:List AV}:kV σ [] acc K=K acc:=propext ⟨id,id⟩
theorem LS {r:AR} {rs:List AR} {acc:List AV}:kV σ (r::rs) acc K=Af σ r λv=>kV σ rs (acc++ [v]) K:=propext ⟨id,id⟩
theorem OG {n:Nat}:Af σ (.t n) L=L (bc σ.fr n):=propext ⟨id,id⟩
theorem Gr {n:Option Nat} {a:Nat}:Af σ (.cell n a) L=(match bc σ.fr a with
  |.c q=>match b8 σ.mem q with
   |some xs=>CY n xs L
   |none=>False
  |_=>False):=propext ⟨id,id⟩
theorem LZ {x:AC} {xs:List AC}:CY none (x::xs) L=L (.c x):=propext ⟨id,id⟩
theorem Mw {n:Nat} {xs:List AC}:CY (some n) xs L=db (n≤xs.length) (K:=⟨L (.agg (xs.take n))⟩):=propext ⟨id,id⟩
end
theorem P0 {σ:St} {v:AV}:σ.put none v=σ:=rfl
theorem PZ {σ:St} {d:Nat} {v:AV}:σ.put (some d) v={σ with fr:=(d,v)::σ.fr}:=rfl
theorem aJ {m n:Nat} {v:AV} {r:List (Nat×AV)}:bc ((m,v)::r) n=if m=n then v else bc r n:=by rw[bc]
theorem y8 {mem:List (Nat×bk)}: ∀{l:List PC},tf mem (l.map .pure)=some l
 | []=>rfl
 |p::l=>by simp only[List.map_cons,tf,dS,y8 (l:=l)]
theorem DW {α:Type} {mem:List (Nat×bk)} {k:α→MK} {p:α→PC}: ∀{l:List α},kH mem none (l.map λx=>(k x, [.pure (p x)]))=some (l.map λx=>(k x, [p x]))
 | []=>rfl
 |x::l=>by simp only[List.map_cons,kH,mO,dS,DW (l:=l)]
theorem Du {α:Type} {mem:List (Nat×bk)} {k:α→MK} {ps:α→List PC} {m:Nat}: ∀{l:List α},kH mem (some m) (l.map λx=>(k x,(ps x).map .pure))=some (l.map λx=>(k x,ps x))
 | []=>rfl
 |x::l=>by simp only[List.map_cons,kH,mO,y8,Du (l:=l)]
attribute [go_sem ↓] DW Du
attribute [go_sem ↓] Mb GA MJ Ki Ov M6 MX Jw Md Nf Na M2 PJ Mu Jj Nj F1 M9 NE PP MZ Ke aJ
attribute [go_sem ↓] S5 P6 RH PF MR QG QU Ry N9 Qh Jp MH N5 ND N6 Pv Mf I7 IP QL OH QQ QT PI Tf QP NR NO OJ M8 Rx Pr Pb GS LY Nr Ox AX.ev LV Me JW Ir Jd J4 P0 PZ
attribute [go_sem ↓] Ps O8 Qa Qe NQ PA RB NC G4 Ol Qg Po NN P4 PB Pm N3 OY PY OT O7 NU Ku Js
attribute [go_sem] Ns O6 JY HU Fv E8 Cj Jf F4 Nh JK
attribute [go_sem] wY I4 aQ St.frz gS nG ub vm kJ b8 al dJ lz AV.cells over bN dQ ti ee dX xx eE cJ dS tf mO kH IM VJ DO Pd fK bR.boundOf bO Bg gx FY MK.val
attribute [go_sem ↓] Vb yu Uk Ot LS OG Gr LZ Mw
attribute [go_sem] fm J3 RN Jr Si
open Go.RowKit Go.WideShapes
inductive TS where
 |int (k:IntKind)
 |bool
 |str
 |slice (l:List TS)
inductive AA:TS→PC→Prop
 |int {k:IntKind} {n:Int} (h:(Lit.int k n).wf=true):AA (.int k) (.val (.int k n))
 |bool {b:Bool}:AA .bool (.val (.bool b))
 |str {s:ByteArray} (h:s.size≤maxLen):AA .str (.val (.string s))
 |slice {l:List TS} {rows:List (List PC)} (hm:rows.length≤maxLen) (hl: ∀r∈rows,r.length=l.length) (h: ∀(r:List PC),r∈rows→ ∀(i:Nat) s p,l[i]? =some s→r[i]? =some p→AA s p):AA (.slice l) (.slice rows)
def nJ (l:List TS) (ps:List PC):Prop:=ps.length=l.length∧ ∀(i:Nat) s p,l[i]? =some s→ps[i]? =some p→AA s p
theorem nJ.append {l l':List TS} {ps ps':List PC} (h:nJ l ps) (h':nJ l' ps'):nJ (l++l') (ps++ps'):=by
 refine⟨by simp[h.1,h'.1],λi s p hs hp=> ?_⟩
 by_cases hi:i<l.length
 ·rw[List.getElem?_append_left hi]at hs
  rw[List.getElem?_append_left (by rw[h.1];exact hi)]at hp
  exact h.2 i s p hs hp
 ·rw[List.getElem?_append_right (by omega)]at hs
  rw[List.getElem?_append_right (by rw[h.1];omega),h.1]at hp
  exact h'.2 _ s p hs hp
theorem nJ.one {s:TS} {p:PC} (h:AA s p):nJ [s] [p]:=by
 refine⟨rfl,λi s' p' hs hp=> ?_⟩
 cases i with
 |zero=>simp at hs hp;subst hs;subst hp;exact h
 |succ i=>simp at hs
def Pi (P:Program) (f:TypeId→Option (List TS)):List Field→Nat→Nat→Option (List TS)
 | [],k,m=>if k=m then some []else none
 |fd::r,k,m=>if fd.offset=k then match f fd.type with
  |some l=>if l.length=P.cellsOf fd.type then match Pi P f r (k+l.length) m with
   |some l'=>some (l++l')
   |none=>none else none
  |none=>none else none
def I8 (P:Program):Nat→TypeId→Option (List TS)
 |0,_=>none
 |n+1,t=>match P.underlying t with
  |some (.int k)=>some [.int k]
  |some .bool=>some [.bool]
  |some .string=>some [.str]
  |some (.slice e)=>match I8 P n e with
   |some l=>if l.length=P.cellsOf e then some [.slice l]else none
   |none=>none
  |some (.struct fs)=>Pi P (I8 P n) fs.toList 0 (P.cellsOf t)
  |_=>none
theorem Et {X:Type} {Q:Nat→X→Prop}: ∀{n:Nat},(∀i,i<n→ ∃x,Q i x)→ ∃l:List X,l.length=n∧ ∀(i:Nat) x,l[i]? =some x→Q i x
 |0,_=>⟨[],rfl,λi x h=>by simp at h⟩
 |n+1,h=>by
  obtain⟨l,h1,h2⟩:=Et (n:=n) λi hi=>h i (by omega)
  obtain⟨x,hx⟩:=h n (by omega)
  refine⟨l++ [x],by simp[h1],λi y hy=> ?_⟩
  by_cases hi:i<l.length
  ·rw[List.getElem?_append_left hi]at hy
   exact h2 i y hy
  ·rw[List.getElem?_append_right (by omega)]at hy
   have:i=n:=by
    have:=(List.getElem?_eq_some_iff.1 hy).1
    simp at this
    omega
   subst this
   simp[h1]at hy
   subst hy
   exact hx
section
variable {H : Type} {enc : TypeId × Value → H} {P : Program} {W : World} {base : Nat} {sp : Nat → Bool} {H3 : Bool}
abbrev Dh:Nat→Prop:= λ_=>True
theorem BF {f:TypeId→Option (List TS)} {n:Nat} {cs:List Value} (ih: ∀t l cs x,f t=some l→DataW.trod enc P W base sp H3 n t cs=some x→ ∃ps,aM (co W Dh) ps cs∧nJ l ps):
  ∀{fs:List Field} {k m:Nat} {l:List TS},Pi P f fs k m=some l→cs.length=m→(∀fd∈fs,∃x,DataW.trod enc P W base sp H3 n fd.type ((cs.drop fd.offset).take (P.cellsOf fd.type))=some x)→
   ∃ps,aM (co W Dh) ps (cs.drop k)∧nJ l ps
 |[],k,m,l,h,hm,_=>by
  unfold Pi at h
  split at h
  ·cases h
   refine⟨[], ?_,rfl,λi s p hs=>by simp at hs⟩
   rw[List.drop_eq_nil_of_le (by omega)]
   exact .nil
  ·cases h
 |fd::fs,k,m,l,h,hm,hx=>by
  unfold Pi at h
  split at h
  ·rename_i e
   split at h
   ·rename_i l1 h1
    split at h
    ·rename_i hc
     split at h
     ·rename_i l2 h2
      cases h
      obtain⟨x,hx1⟩:=hx fd List.mem_cons_self
      obtain⟨p1,g1,g2⟩:=ih _ _ _ _ h1 hx1
      obtain⟨p2,g3,g4⟩:=BF ih h2 hm λfd h=>hx fd (List.mem_cons_of_mem _ h)
      refine⟨p1++p2, ?_,g2.append g4⟩
      have:cs.drop k=(cs.drop k).take (P.cellsOf fd.type)++cs.drop (k+l1.length):=by
       rw[hc,←List.drop_drop,List.take_append_drop]
      rw[this]
      subst e
      exact g1.append g3
     ·cases h
    ·cases h
   ·cases h
  ·cases h
theorem vJ: ∀{fuel sf:Nat} {t:TypeId} {l:List TS} {cs:List Value} {x:DataW H×List MemPlace},I8 P sf t=some l→DataW.trod enc P W base sp H3 fuel t cs=some x→ ∃ps,aM (co W Dh) ps cs∧nJ l ps
 |fuel,0,t,l,cs,x,h,_=>by cases h
 |fuel,sf+1,t,l,cs,x,h,hr=>by
  unfold I8 at h
  split at h
  ·rename_i k ht
   cases h
   obtain⟨n,rfl,_,hw⟩:=DataW.trod_int ht hr
   exact⟨[.val (.int k n)],.cons (.val rfl) .nil,.one (.int hw)⟩
  ·rename_i ht
   cases h
   obtain⟨b,rfl,_⟩:=DataW.trod_bool ht hr
   exact⟨[.val (.bool b)],.cons (.val rfl) .nil,.one .bool⟩
  ·rename_i ht
   cases h
   obtain⟨s,rfl,_,hm⟩:=DataW.trod_string ht hr
   exact⟨[.val (.string s)],.cons (.val rfl) .nil,.one (.str hm)⟩
  ·rename_i e ht
   split at h
   ·rename_i l' Zb
    split at h
    ·rename_i hc
     cases h
     rcases DataW.trod_slice ht hr with⟨rfl,_⟩|⟨a,len,cap,elems,rest,n,_,rfl,_,_,ZE,hmx,HM,ZA,_,_⟩
     ·exact⟨[.slice []],.cons (.slice (sz:=0) (λ_ _=>undef) rfl (Nat.le_refl _) (by simp) (λi row h=>by simp at h) (λi row j p h=>by simp at h) (λi row j p h=>by simp at h)) .nil,.one (.slice (by simp) (λr h=>by cases h) (λr h=>by cases h))⟩
     ·have hC: ∀i,i<len→ ∃x:List PC×List Value,W.cells? base (a.add (i*P.cellsOf e)) (P.cellsOf e)=some x.2∧aM (co W Dh) x.1 x.2∧nJ l' x.1:=by
       intro i hi
       have h1:=ZA i hi
       rw[List.getElem?_eq_getElem (by omega)]at h1
       obtain⟨cs',h2,h3⟩:=Option.bind_eq_some_iff.1 h1
       obtain⟨ps,h4,h5⟩:=vJ Zb h3
       exact⟨(ps,cs'),h2,h4,h5⟩
      obtain⟨L,hL,hQ⟩:=Et hC
      have row: ∀(i:Nat) r,(L.map Prod.fst)[i]? =some r→ ∃c,L[i]? =some (r,c)∧W.cells? base (a.add (i*P.cellsOf e)) (P.cellsOf e)=some c∧aM (co W Dh) r c∧nJ l' r:=by
       intro i r hr
       rw[List.getElem?_map]at hr
       obtain⟨y,hy,rfl⟩:=Option.map_eq_some_iff.1 hr
       exact⟨y.2,hy,hQ i y hy⟩
      unfold maxLen at hmx
      refine⟨[.slice (L.map Prod.fst)],.cons (.slice (sz:=P.cellsOf e) (λi j=>(((L[i]?).map Prod.snd).getD []).getD j undef) (by simp[hL]) ZE (by omega) ?_ ?_ ?_) .nil,.one (.slice (by unfold maxLen;simp[hL];omega) ?_ ?_)⟩
      ·intro i r hr
       obtain⟨c,_,_,_,h5⟩:=row i r hr
       rw[h5.1,hc]
      ·intro i r j p hr hp
       obtain⟨c,h1,h2,h3,h5⟩:=row i r hr
       obtain⟨v,hv,_⟩:=h3.get hp
       obtain⟨_,h6,h7⟩:=World.cells?_some h2
       have hj:j<P.cellsOf e:=by
        have:=(List.getElem?_eq_some_iff.1 hv).1
        omega
       have h8:=h7 j hj
       rw[hv]at h8
       obtain⟨b,off,spot⟩:=a
       have ZW:spot=none:=by
        have hi0:0<L.length:=by
         have:=(List.getElem?_eq_some_iff.1 h1).1
         omega
        obtain⟨g1,_,_⟩:=hQ 0 L[0] (List.getElem?_eq_getElem hi0)
        obtain⟨_,g2,g3⟩:=World.cells?_some g1
        have g4:=g3 0 (by omega)
        rw[List.getElem?_eq_getElem (by omega)]at g4
        simpa[Addr.add]using World.cell?_spot g4
       subst ZW
       rw[add_plain,add_plain]at h8
       refine⟨b,off,rfl,trivial, ?_⟩
       rw[←Nat.add_assoc,h8]
       simp[h1,hv]
      ·intro i r j p hr hp
       obtain⟨c,h1,h2,h3,h5⟩:=row i r hr
       obtain⟨v,hv,Zn⟩:=h3.get hp
       simpa[h1,hv]using Zn
      ·intro r hr
       obtain⟨i,hi⟩:=List.mem_iff_getElem?.1 hr
       obtain⟨c,_,_,_,h5⟩:=row i r hi
       exact h5.1
      ·intro r hr
       obtain⟨i,hi⟩:=List.mem_iff_getElem?.1 hr
       obtain⟨c,_,_,_,h5⟩:=row i r hi
       exact h5.2
    ·cases h
   ·cases h
  ·rename_i fs ht
   obtain⟨xs,n,_,_,hl,HM,hf⟩:=DataW.trod_struct ht hr
   have:=BF (n:=n) (λt l cs x h hx=>vJ (sf:=sf) h hx) h hl λfd hfd=>by
    obtain⟨i,hi⟩:=List.mem_iff_getElem?.1 hfd
    have h1:=hf i fd (by simpa using hi)
    have hi':i<xs.length:=by
     have:=(List.getElem?_eq_some_iff.1 hi).1
     simp at this
     omega
    exact⟨xs[i],by rw[h1,List.getElem?_eq_getElem hi']⟩
   simpa using this
  ·cases h
def zD (P:Program) (t:TypeId):Bool:=match P.underlying t with
 |some (.struct _)=>true
 |_=>false
def Sp (row:Bool) (ps:List PC):AV:=if row then .agg (ps.map .pure)else match ps with
 |p::_=> .c (.pure p)
 | []=> .top
theorem Qv {r:Reach} {b0:Nat} {t:TypeId} {v:Value} {d:DataW H} {p:List MemPlace} {sf:Nat} {l:List TS} (hs:I8 P sf t=some l) (Y:Value.okWide P W r b0 t v) (h:DataW.Trod enc P W base sp H3 t v d p):
  ∃ps,nJ l ps∧aX W Dh (λ_=>undef) 0 (Sp (zD P t) ps) v:=by
 obtain⟨fuel,hf⟩:=h
 obtain⟨ps,h1,h2⟩:=vJ hs hf
 refine⟨ps,h2, ?_⟩
 have single: ∀{v:Value},v.cells= #[v]→aM (co W Dh) ps v.cells.toList→aX W Dh (λ_=>undef) 0 (Sp false ps) v:=by
  intro v hv h
  rw[hv]at h
  cases h with
  |cons h t=>exact .c (.pure h)
 cases sf with
 |zero=>cases hs
 |succ sf=>
  unfold I8 at hs
  split at hs
  ·rename_i k ht
   obtain⟨n,rfl⟩:=okWide_int ht Y
   simp only[zD,ht]
   exact single rfl h1
  ·rename_i ht
   obtain⟨n,rfl⟩:=okWide_bool ht Y
   simp only[zD,ht]
   exact single rfl h1
  ·rename_i ht
   obtain⟨n,rfl⟩:=okWide_string ht Y
   simp only[zD,ht]
   exact single rfl h1
  ·rename_i e ht
   obtain⟨a,n,c,rfl⟩:=okWide_slice ht Y
   simp only[zD,ht]
   exact single rfl h1
  ·rename_i fs ht
   obtain⟨cs,rfl,_⟩:=okWide_struct ht Y
   simp only[zD,ht]
   have h1:aM (co W Dh) ps cs.toList:=h1
   refine .agg (aM.of_get (by simpa using h1.length) λi x v hi hv=> ?_)
   simp only[List.getElem?_map,Option.map_eq_some_iff]at hi
   obtain⟨q,hq,rfl⟩:=hi
   obtain⟨u,hu,hr⟩:=h1.get hq
   have:u=v:=by
    rw[hv]at hu
    cases hu
    rfl
   subst this
   exact .pure hr
  ·cases hs
end
open Go.RowKit
section
variable {t : Bool} {A B : mZ Prop}
theorem C8: @iC (!t) A B= @iC t B A:=by
 cases t
 ·exact propext ⟨λh=>⟨(λe=>by cases e),λ_=>h.1 rfl⟩,λh=>⟨λ_=>h.2 rfl,(λe=>by cases e)⟩⟩
 ·exact propext ⟨λh=>⟨λ_=>h.2 rfl,(λe=>by cases e)⟩,λh=>⟨(λe=>by cases e),λ_=>h.1 rfl⟩⟩
theorem JP: @iC (t==true) A B= @iC t A B:=by cases t<;>rfl
theorem Ks: @iC (t==false) A B= @iC t B A:=by
 have:(t==false)= !t:=by cases t<;>rfl
 rw[this,C8]
end
class LN (t:Bool) (p q:outParam Prop):Prop where
 pos:t=true→p
 neg:t=false→q
instance (priority:=low) testT (t:Bool):LN t (t=true) (t=false):=⟨id,id⟩
instance V8 (p:Prop) [Decidable p]:LN (decide p) p (¬p):=⟨of_decide_eq_true,of_decide_eq_false⟩
instance We (p:Prop):LN (wA p) p (¬p):=⟨@of_decide_eq_true p (Classical.propDecidable p), @of_decide_eq_false p (Classical.propDecidable p)⟩
theorem ab {t:Bool} {p q:Prop} [T:LN t p q] {A B:mZ Prop} (h1:p→A.out) (h2:q→B.out): @iC t A B:=⟨λe=>h1 (T.pos e),λe=>h2 (T.neg e)⟩
theorem U6 {p:Prop}:(wA p !=false)=wA p:=by cases wA p<;>rfl
theorem Ud {p:Prop}:(wA p !=true)= !wA p:=by cases wA p<;>rfl
theorem l9 {p:Prop} (h:p):wA p=true:= @decide_eq_true p (Classical.propDecidable p) h
theorem jz {p:Prop} (h: ¬p):wA p=false:= @decide_eq_false p (Classical.propDecidable p) h
theorem Sy:wA True=true:=l9 trivial
theorem SQ:wA False=false:=jz id
theorem Rh {a b:Int}:(a==b)=decide (a=b):=rfl
theorem QA {a b:Int}:(a !=b)= !decide (a=b):=rfl
theorem lL {a b:ByteArray}:a.toList=b.toList↔a=b:=by
 constructor
 ·intro h
  rw[ByteArray.toList_eq,ByteArray.toList_eq]at h
  exact Go.WideShapes.bytes_inj h
 ·intro h;rw[h]
theorem KG {a b:ByteArray}:(a.toList==b.toList)=decide (a=b):=by
 by_cases h:a=b
 ·subst h;simp
 ·have: ¬a.toList=b.toList:= λe=>h (lL.1 e)
  simp[h,this]
theorem Rc {a b:ByteArray}:(a.toList !=b.toList)= !decide (a=b):=by rw[bne,KG]
instance Vj (s:ByteArray) (xs:List ByteArray):Decidable (s∈xs):=decidable_of_iff (∃x∈xs,x=s) (by simp)
theorem UN {a b:Bool}:((a==b) !=false)=(a==b):=by cases a<;>cases b<;>rfl
theorem KS {a b:Bool}:((a==b) !=true)= !(a==b):=by cases a<;>cases b<;>rfl
theorem ia {e sz bytes:Nat} {y:AV} {ys:List (List PC)} {σ:St} {K:mZ (AV→St→Prop)} (hE:aK sz ys) (h1:ys.length*bytes≤140737488355328) (h2:ys.length≤140737488355328)
  (hk:K.out (.c (.ref σ.nx)) {σ with mem:=(σ.nx,.arr e sz ys)::σ.mem,nx:=σ.nx+1}): @zS e sz bytes (.c .nils) y ys σ K:=
 ⟨hE,.inr (.inl ⟨rfl,.inl ⟨by simpa using h1,by simpa using h2,hk⟩⟩)⟩
theorem vq {e sz bytes:Nat} {y:AV} {ys:List (List PC)} {σ:St} {K:mZ (AV→St→Prop)} (hE:aK sz ys) (h1:ys.length*bytes≤140737488355328) (h2:ys.length≤140737488355328)
  (hk:K.out (.c (.pure (.slice ys))) σ): @zS e sz bytes (.c .nils) y ys σ K:=
 ⟨hE,.inr (.inl ⟨rfl,.inr ⟨by simpa using h1,by simpa using h2,hk⟩⟩)⟩
theorem aA {e sz bytes nm:Nat} {y:AV} {rows ys:List (List PC)} {σ:St} {K:mZ (AV→St→Prop)} (hf:al σ.mem nm=some (.arr e sz rows)) (zg:y≠ .c (.ref nm)) (hE:aK sz ys) (h1:(rows.length+ys.length)*bytes≤140737488355328) (h2:rows.length+ys.length≤140737488355328)
  (hk:K.out (.c (.ref σ.nx)) {σ with mem:=(σ.nx,.arr e sz (rows++ys))::lz σ.mem nm,nx:=σ.nx+1}): @zS e sz bytes (.c (.ref nm)) y ys σ K:=
 ⟨hE,.inl ⟨nm,rfl,zg,rows,hf,h1,h2,hk⟩⟩
abbrev dp {α:Type} (f:α→List PC) (xs:List α):PC:= .slice (xs.map f)
abbrev i6 {α:Type} (f:α→List PC) (xs:List α):AV:= .c (.pure (dp f xs))
abbrev pI (n:Int):PC:= .val (.int .i64 n)
abbrev pS (s:ByteArray):PC:= .val (.string s)
abbrev pB (b:Bool):PC:= .val (.bool b)
theorem ah {α β:Type} {f:α→β} {xs:List α} {k:Nat} (h:k<xs.length):(xs.map f)[k]? =some (f xs[k]):=by simp[h]
open Go.RowKit
def VX (rs:List AR) (e sz:Nat) (rows:List (List PC)):bP→St→Prop
 | .exit _,_=>False
 | .ret,σ=>kV σ rs [] λvs=> ∃nm,fm vs= .c (.ref nm)∧al σ.mem nm=some (.arr e sz rows)
 | .normal,σ=>kV σ rs [] λvs=> ∃nm,fm vs= .c (.ref nm)∧al σ.mem nm=some (.arr e sz rows)
theorem ol {w:World} {B B' e sz n:Nat} {v:Value} {cells:List Value} (h:w.ownsRow B e sz v n cells) (hB:B'≤B):w.ownsRow B' e sz v n cells:=by
 refine⟨h.1, ?_⟩
 rcases h.2 with h|⟨g,cap,cur,e,hg,h⟩
 ·exact .inl h
 ·exact .inr ⟨g,cap,cur,e,Nat.le_trans hB hg,h⟩
attribute [go_sem ↓] VX
def Ls (P:Program) (f:FuncId):Option (Nat×bi×List AR):=
 match P.funcs[f]? with
 |some fn => match fn.name == "runtime.NumGoroutine" with
  |false=>match fn.body with
   |some c=>match d8 P fn.ntmps c with
    |some b=>match An P fn.results.toList with
     |some rs=>some (fn.ntmps,b,rs)
     |none=>none
    |none=>none
   |none=>none
  |true=>none
 |none=>none
theorem eN {P:Program} {f:FuncId} {nt:Nat} {c:bi} {rs:List AR} (h:Ls P f=some (nt,c,rs)):mL P f nt c rs:=by
 unfold Ls at h
 split at h
 ·rename_i fn e1
  split at h
  ·rename_i e2
   split at h
   ·rename_i c0 e3
    split at h
    ·rename_i b e4
     split at h
     ·rename_i rs' e5
      cases h
      exact⟨fn,c0,e1,e3,e2,rfl,e4,e5⟩
     ·cases h
    ·cases h
   ·cases h
  ·cases h
 ·cases h
def bh (P:Program) (f:FuncId):bi:=match Ls P f with
 |some (_,c,_)=>c
 |none=> .skip
theorem cI {P:Program} {f:FuncId} {nt:Nat} {rs:List AR} (h:Ls P f=some (nt,bh P f,rs):=by kernel_rfl):mL P f nt (bh P f) rs:=eN h
abbrev o_ (d:Nat) (x:fq):AG:=⟨some d,none,x⟩
abbrev m_ (d s:Nat):AG:=⟨some d,none,.mv (.t s)⟩
abbrev u_ (x:fq):AG:=⟨none,none,x⟩
abbrev k_ (n:Int):AX:= .k (.c (.pure (.val (.int .i64 n))))
abbrev i_ (n:Int):AC:= .pure (.val (.int .i64 n))
abbrev f_ (n:FuncId):AX:= .k (.c (.clo n []))
abbrev c_ (f:AX) (l:List AX):fq:= .call true true f l
abbrev b_ (b:Bool):AX:= .k (.c (.pure (.val (.bool b))))
abbrev g_ (d t:Nat) (w:Bool) (x:fq):AG:=⟨some d,some (t,w),x⟩
abbrev r_ (l:List AG):bi:= .region l false
abbrev l_ (n:Nat):fq:= .load none (.t n)
abbrev L_ (k n:Nat):fq:= .load (some k) (.t n)
abbrev a_ (k n:Nat):fq:= .fieldA k (.t n)
abbrev x_ (k a b:Nat):fq:= .idxA k (.t a) (.t b)
abbrev S_ (k a b:Nat):fq:= .store k (.t a) (.t b)
abbrev e_ (n k:Nat):fq:= .ext (.t n) k
abbrev z_ (n:Nat):fq:= .len (.t n)
abbrev w_ (n:Int):fq:= .mv (k_ n)
abbrev j_ (n:Nat):fq:= .bin .add (.t n) (k_ 1)
abbrev q_ (a b:Nat):fq:= .bin .lss (.t a) (.t b)
abbrev Q_ (o:BinOp) (a:Nat) (k:Int):fq:= .bin o (.t a) (k_ k)
abbrev C_ (f:FuncId) (l:List AX):fq:= .call true true (f_ f) l
abbrev P_ (d:Nat) (x:fq):Bool×AG:=(false,o_ d x)
abbrev M_ (d s:Nat):Bool×AG:=(false,m_ d s)
abbrev U_ (x:fq):Bool×AG:=(false,u_ x)
abbrev s_ (l:List AG) (c:bi):bi:= .seq (.region l false) c
abbrev y_ (n:Nat) (c d:bi):bi:= .cond (.t n) c d
abbrev X_ (n k:Nat):bi:= .cond (.t n) .skip (.exit k)
attribute [go_sem ↓] List.map_cons List.map_nil
attribute [go_sem] true_and and_true List.nil_append EB Int.toNat_natCast List.length_map List.length_cons List.length_nil Option.some.injEq not_true_eq_false not_false_eq_true C8 JP Ks Rh QA KG Rc UN KS U6 Ud Sy SQ Bool.false_eq_true List.cons_append decide_true decide_false Nat.add_zero Nat.zero_add List.drop_succ_cons List.drop_zero List.take_succ_cons List.take_zero Option.map_some Option.map_none List.getElem?_cons_zero List.getElem?_cons_succ eq_self beq_self_eq_true Bool.bne_false Bool.bne_true Bool.true_beq Bool.false_beq
end Go.Abs
