import Derived.Test.YtjhkikmonejkjaaGreatDoorCodes
import Derived.ProofKit
import Derived.OpenShut
import Derived.SizedLaws
set_option linter.unusedVariables false
set_option linter.unusedSimpArgs false
set_option maxRecDepth 20000
open Go.Proofs.Tryz renaming prog→Ya
namespace Go.Proofs.YtjhkikmonejkjaaGreatDoor
open Go.Abs Go.RowKit
attribute [simp] Wk kf UL VP aD du cz dM Tf rn kW j9 dl Wo JD am dp j9.go
attribute [go_sem_proc ↓] reduceIte
attribute [go_sem_proc] Nat.reduceEqDiff reduceCtorEq Int.reduceEq
def aX (x:Int):Prop:= -9223372036854775808≤x∧x≤9223372036854775807
instance (x:Int):Decidable (aX x):=by unfold aX;infer_instance
abbrev U (n:Int):AV:= .c (.pure (.val (.int .u64 n)))
abbrev iA (xs:List ByteArray):AV:=bZ (λs=> [pS s]) xs
def bI (p:Nat→Prop) (k:Nat):Prop:= ∀j,j<k→p j
theorem bI.zero {p:Nat→Prop}:bI p 0:= λj h=>by omega
theorem bI.succ {p:Nat→Prop} {k:Nat} (h:bI p k) (hk:p k):bI p (k+1):= λj hj=>by
 by_cases e:j=k
 ·rw[e];exact hk
 ·exact h j (by omega)
theorem de {p:PC} (h:BO (.int .i64) p): ∃n,p=pI n∧aX n:=by
 cases h with
 | @int _ n h=>
  refine⟨n,rfl, ?_⟩
  simp only[Lit.wf,Bool.and_eq_true,decide_eq_true_eq]at h
  exact h
theorem yo {p:PC} (h:BO .str p): ∃s,p=pS s∧s.size≤maxLen:=by
 cases h with
 | @str s h=>exact⟨s,rfl,h⟩
theorem TO {p:PC} (h:BO .bool p): ∃b,p=pB b:=by
 cases h with
 | @bool b=>exact⟨b,rfl⟩
theorem nz {α:Type} {l:List TS} (f:α→List PC) (Q:α→Prop) (o: ∀r,nr l r→ ∃x,r=f x∧Q x) {p:PC} (h:BO (.slice l) p): ∃xs:List α,p=cZ f xs∧(∀x∈xs,Q x)∧xs.length≤maxLen:=by
 cases h with
 | @slice _ rows hm hl h=>
  have key: ∀rs:List (List PC),(∀r∈rs,nr l r)→ ∃xs:List α,rs=xs.map f∧ ∀x∈xs,Q x:=by
   intro rs
   induction rs with
   |nil=>intro _;exact⟨[],rfl,by simp⟩
   |cons r rs ih=>
    intro hr
    obtain⟨x,hx,hq⟩:=o r (hr r List.mem_cons_self)
    obtain⟨xs,g,w⟩:=ih λr h=>hr r (List.mem_cons_of_mem _ h)
    refine⟨x::xs,by rw[hx,g];rfl,λy hy=> ?_⟩
    rcases List.mem_cons.1 hy with rfl|hy
    ·exact hq
    ·exact w y hy
  obtain⟨xs,g,hq⟩:=key rows λr hr=>⟨hl r hr,h r hr⟩
  refine⟨xs,by rw[g],hq,by rw[g]at hm;simpa using hm⟩
theorem ot {s:TS} {ps:List PC} (h:nr [s] ps): ∃p,ps= [p]∧BO s p:=by
 obtain⟨h1,h2⟩:=h
 match ps with
 | [p]=>exact⟨p,rfl,h2 0 s p rfl rfl⟩
 | []=>simp at h1
 |_::_::_=>simp at h1
theorem cN {s:TS} {l:List TS} {ps:List PC} (h:nr (s::l) ps): ∃p r,ps=p::r∧BO s p∧nr l r:=by
 obtain⟨h1,h2⟩:=h
 match ps with
 |p::r=>exact⟨p,r,rfl,h2 0 s p rfl rfl,by simpa using h1,λi s p hi hp=>h2 (i+1) s p (by simpa using hi) (by simpa using hp)⟩
 | []=>simp at h1
theorem N7 {p:PC} (h:BO (.slice [.int .i64]) p): ∃xs,p=ce xs∧(∀x∈xs,aX x)∧xs.length≤maxLen:=
 nz (λn=> [pI n]) aX (λr hr=>by
  obtain⟨p,rfl,hp⟩:=ot hr
  obtain⟨n,rfl,hn⟩:=de hp
  exact⟨n,rfl,hn⟩) h
theorem Om {p:PC} (h:BO (.slice [.str]) p): ∃xs:List ByteArray,p=cZ (λs=> [pS s]) xs∧xs.length≤maxLen:=by
 obtain⟨xs,h1,_,h2⟩:=nz (λs:ByteArray=> [pS s]) (λ_=>True) (λr hr=>by
  obtain⟨p,rfl,hp⟩:=ot hr
  obtain⟨n,rfl,hn⟩:=yo hp
  exact⟨n,rfl,trivial⟩) h
 exact⟨xs,h1,h2⟩
open Go.ChangeShapes Go.WideShapes Go.ChangeAt Go.RowKit Go.Abs
theorem T0:ownKnob Tryz.prog.godebug=none:=by kernel_rfl
theorem KI:laidOutB Ya=true:=by kernel_rfl
theorem IN {H:Type} {enc:TypeId×Value→H} {P:Program} (hl:laidOutB P=true) {W W':World} (hb:Below W.heap.size W W'):
  ∀(ts:List TypeId) (vs:List Value) (ds:List (DataW H)) (ps:List MemPlace),(ts.all λt=>P.readableRec t&&decide (t<P.types.size))=true→
   DataW.TrodAll enc P W 0 (λ_=>true) true ts vs ds ps→(∀x∈ps,x.block<W.heap.size)→
   DataW.TrodAll enc P W' 0 (λb=>decide (b<W.heap.size)) true ts vs ds ps
 | [], [], [],ps,_,h,_=>h
 |t::ts,v::vs,d::ds,ps,a,h,m=>by
  obtain⟨p,q,h1,h2,rfl⟩:=h
  simp only[List.all_cons,Bool.and_eq_true,decide_eq_true_eq]at a
  exact⟨p,q,Below.trod hl a.1.1 a.1.2 h1 hb (λx hx=>m x (by simp[hx])),
   IN hl hb ts vs ds q a.2 h2 (λx hx=>m x (by simp[hx])),rfl⟩
 | [], [],_::_,_,_,h,_=>h.elim
 | [],_::_,_,_,_,h,_=>h.elim
 |_::_, [],_,_,_,h,_=>h.elim
 |_::_,_::_, [],_,_,h,_=>h.elim
theorem PO {H:Type} {enc:TypeId×Value→H} {f:Func} {s:ChangeSpec} {W W':World} {args:Array Value} {ds gs:List (DataW H)} {bu:List MemPlace}
  (a:(f.params.toList.all λt=>Tryz.prog.readableRec t&&decide (t<Tryz.prog.types.size))=true)
  (z:f.resultTypes= #[4]) (u:s.vars= []) (hW:DataW.Whole enc Ya f.params.toList s.vars false W args.toList ds gs bu)
  (hr:(s.fn H (ds++gs)).results= [.lit (.bool true)]) (ha:(s.fn H (ds++gs)).args=ds) (hv:(s.fn H (ds++gs)).vars= []) (hx:Below W.heap.size W W'):
  s.post enc Ya f false true false false W args (.bool true) W':=by
 have m:=hW.lt
 have A:=hW
 obtain⟨p,q,hA,hV,rfl,_,_⟩:=hW
 rw[u]at hV
 obtain⟨rfl,rfl⟩:=trodVars_none hV
 refine⟨ds, [],p++ [], [],p, [],A, ?_, ?_, ?_,hx.frame _,λh=>by cases h⟩
 ·rw[hr,z]
  exact trodAll_mk1 (shut_bool Tryz.underlying4 true)
 ·rw[ha]
  exact IN KI hx _ _ _ _ a hA (λx hx=>m x (by simpa using hx))
 ·rw[hv,u]
  rfl
theorem NS {f:FuncId} {args:List AV} {vs:Array Value} {W:World} (h:af Ya f args (Go.Abs.B true)) (hG:qQ W) (hr:aJ (aK W GF (λ_=>undef) 0) args vs.toList):
  Calls Ya f vs W λe W'=>e= .returned (.bool true)∧Below W.heap.size W W':=by
 refine(h.2 W GF vs hG hr).mono λe W' ⟨v,he,hv,hb⟩=> ?_
 cases hv with
 |c hv=>
  cases hv with
  |pure hv=>
   cases hv
   exact⟨he,hb⟩
end Go.Proofs.YtjhkikmonejkjaaGreatDoor
