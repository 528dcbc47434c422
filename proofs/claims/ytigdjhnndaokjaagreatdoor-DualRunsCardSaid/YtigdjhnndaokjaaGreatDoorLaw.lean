import Derived.Test.YtigdjhnndaokjaaGreatDoorCodes
import Derived.ProofKit
import Derived.OpenShut
import Derived.SizedLaws
set_option linter.unusedVariables false
set_option linter.unusedSimpArgs false
set_option maxRecDepth 20000
open Go.Proofs.Tryz renaming prog→Pa0
namespace Go.Proofs.YtigdjhnndaokjaaGreatDoor
open Go.Abs Go.RowKit
attribute [simp] Wk jy wkM wkL av dv c7 dC ad2 rn kx kH dw clB Wb ar JE kH.go
attribute [go_sem_proc ↓] reduceIte
attribute [go_sem_proc] Nat.reduceEqDiff reduceCtorEq Int.reduceEq
def aH (x:Int):Prop:= -9223372036854775808≤x∧x≤9223372036854775807
instance (x:Int):Decidable (aH x):=by unfold aH;infer_instance
abbrev U (n:Int):AV:= .c (.pure (.val (.int .u64 n)))
abbrev DW (xs:List ByteArray):AV:=bF (λs=> [pS s]) xs
def ct (p:Nat→Prop) (k:Nat):Prop:= ∀j,j<k→p j
theorem ct.zero {p:Nat→Prop}:ct p 0:= λj h=>by omega
theorem ct.succ {p:Nat→Prop} {k:Nat} (h:ct p k) (hk:p k):ct p (k+1):= λj hj=>by
 by_cases e:j=k
 ·rw[e];exact hk
 ·exact h j zR5
variable {p:PC}
theorem dk (h:Ik (.int .i64) p): ∃n,p=pI n∧aH n:=by
 cases h with
 | @int _ n h=>
  refine⟨n,rfl, ?_⟩
  simp only[Lit.wf,zE9,decide_eq_true_eq]at h
  exact h
theorem EN (h:Ik .str p): ∃s,p=pS s∧s.size≤maxLen:=by
 cases h with
 | @str s h=>exact⟨s,rfl,h⟩
theorem adp (h:Ik .bool p): ∃b,p=pB b:=by
 cases h with
 | @bool b=>exact⟨b,rfl⟩
variable {l:List TS}
theorem rK {α:Type} (f:α→List PC) (Q:α→Prop) (o: ∀r,FL l r→ ∃x,r=f x∧Q x) (h:Ik (.slice l) p): ∃xs:List α,p=dp f xs∧(∀x∈xs,Q x)∧xs.length≤maxLen:=by
 cases h with
 | @slice _ rows hm hl h=>
  have key: ∀rs:List (List PC),(∀r∈rs,FL l r)→ ∃xs:List α,rs=xs.map f∧ ∀x∈xs,Q x:=by
   intro rs
   induction rs with
   |nil=>intro _;exact⟨[],rfl,by simp⟩
   |cons r rs ih=>
    intro hr
    obtain⟨x,hx,hq⟩:=o r (hr r zC5)
    obtain⟨xs,g,w⟩:=ih λr h=>hr r (zC3 _ h)
    refine⟨x::xs,by rw[hx,g];rfl,λy hy=> ?_⟩
    rcases zD7.1 hy with rfl|hy
    ·exact hq
    ·exact w y hy
  obtain⟨xs,g,hq⟩:=key rows λr hr=>⟨hl r hr,h r hr⟩
  refine⟨xs,by rw[g],hq,by rw[g]at hm;simpa using hm⟩
variable {ps:List PC}
theorem wg {s:TS} (h:FL [s] ps): ∃p,ps= [p]∧Ik s p:=by
 obtain⟨h1,h2⟩:=h
 match ps with
 | [p]=>exact⟨p,rfl,h2 0 s p rfl rfl⟩
 | []=>simp at h1
 |_::_::_=>simp at h1
theorem cN {s:TS} (h:FL (s::l) ps): ∃p r,ps=p::r∧Ik s p∧FL l r:=by
 obtain⟨h1,h2⟩:=h
 match ps with
 |p::r=>exact⟨p,r,rfl,h2 0 s p rfl rfl,by simpa using h1,λi s p hi hp=>h2 (i+1) s p zS7 zV7⟩
 | []=>simp at h1
theorem adf (h:Ik (.slice [.int .i64]) p): ∃xs,p=c6 xs∧(∀x∈xs,aH x)∧xs.length≤maxLen:=
 rK (λn=> [pI n]) aH (λr hr=>by
  obtain⟨p,rfl,hp⟩:=wg hr
  obtain⟨n,rfl,hn⟩:=dk hp
  exact⟨n,rfl,hn⟩) h
theorem Yt (h:Ik (.slice [.str]) p): ∃xs:List ByteArray,p=dp (λs=> [pS s]) xs∧xs.length≤maxLen:=by
 obtain⟨xs,h1,_,h2⟩:=rK (λs:ByteArray=> [pS s]) (λ_=>True) (λr hr=>by
  obtain⟨p,rfl,hp⟩:=wg hr
  obtain⟨n,rfl,hn⟩:=EN hp
  exact⟨n,rfl,trivial⟩) h
 exact⟨xs,h1,h2⟩
open Go.ChangeShapes Go.WideShapes Go.ChangeAt Go.RowKit Go.Abs
theorem ac8:ownKnob Tryz.prog.godebug=none:=by kernel_rfl
theorem TU:laidOutB Pa0=true:=by kernel_rfl
theorem SU {H:Type} {enc:TypeId×Value→H} {P:Program} (hl:laidOutB P=true) {W W':World} (hb:Below W.heap.size W W'):
  ∀(ts:List TypeId) (vs:List Value) (ds:List (DataW H)) (ps:List MemPlace),(ts.all λt=>P.readableRec t&&decide (t<P.types.size))=true→
   DataW.TrodAll enc P W 0 (λ_=>true) true ts vs ds ps→(∀x∈ps,x.block<W.heap.size)→
   DataW.TrodAll enc P W' 0 (λb=>decide (b<W.heap.size)) true ts vs ds ps
 | [], [], [],ps,_,h,_=>h
 |t::ts,v::vs,d::ds,ps,a,h,m=>by
  obtain⟨p,q,h1,h2,rfl⟩:=h
  simp only[zJ8,zE9,decide_eq_true_eq]at a
  exact⟨p,q,Below.trod hl a.1.1 a.1.2 h1 hb (λx hx=>m x (by simp[hx])),
   SU hl hb ts vs ds q a.2 h2 (λx hx=>m x (by simp[hx])),rfl⟩
 | [], [],_::_,_,_,h,_=>h.elim
 | [],_::_,_,_,_,h,_=>h.elim
 |_::_, [],_,_,_,h,_=>h.elim
 |_::_,_::_, [],_,_,h,_=>h.elim
theorem Y8 {H:Type} {enc:TypeId×Value→H} {f:Func} {s:ChangeSpec} {W W':World} {args:Array Value} {ds gs:List (DataW H)} {cd:List MemPlace}
  (a:(f.params.toList.all λt=>Tryz.prog.readableRec t&&decide (t<Tryz.prog.types.size))=true)
  (z:f.resultTypes= #[4]) (u:s.vars= []) (hW:DataW.Whole enc Pa0 f.params.toList s.vars false W args.toList ds gs cd)
  (hr:(s.fn H (ds++gs)).results= [.lit (.bool true)]) (ha:(s.fn H (ds++gs)).args=ds) (hv:(s.fn H (ds++gs)).vars= []) (hx:Below W.heap.size W W'):
  s.post enc Pa0 f false true false false W args (.bool true) W':=by
 have m:=hW.lt
 have A:=hW
 obtain⟨p,q,hA,hV,rfl,_,_⟩:=hW
 rw[u]at hV
 obtain⟨rfl,rfl⟩:=trodVars_none hV
 refine⟨ds, [],p++ [], [],p, [],A, ?_, ?_, ?_,hx.frame _,λh=>by cases h⟩
 ·rw[hr,z]
  exact trodAll_mk1 (shut_bool Tryz.underlying4 true)
 ·rw[ha]
  exact SU TU hx _ _ _ _ a hA (λx hx=>m x (by simpa using hx))
 ·rw[hv,u]
  rfl
theorem WU {f:FuncId} {args:List AV} {vs:Array Value} {W:World} (h:ac Pa0 f args (Go.Abs.B true)) (hG:wY W) (hr:bf (aT W OC (λ_=>undef) 0) args vs.toList):
  Calls Pa0 f vs W λe W'=>e= .returned (.bool true)∧Below W.heap.size W W':=by
 refine(h.2 W OC vs hG hr).mono λe W' ⟨v,he,hv,hb⟩=> ?_
 cases hv with
 |c hv=>
  cases hv with
  |pure hv=>
   cases hv
   exact⟨he,hb⟩
end Go.Proofs.YtigdjhnndaokjaaGreatDoor
