import Derived.Test.YthbcbaembicdbaaGreatDoorCodesB
import Derived.ProofKit
import Derived.OpenShut
import Derived.SizedLaws
set_option linter.unusedVariables false
set_option linter.unusedSimpArgs false
set_option maxRecDepth 20000
namespace Go.Proofs.YthbcbaembicdbaaGreatDoor
open Go.Abs Go.RowKit
attribute [simp] Wk ij VN e7 aA c7 b8 dp QH rn ja gQ cw ZT jO al am gQ.go
attribute [go_sem_proc ↓] reduceIte
attribute [go_sem_proc] Nat.reduceEqDiff reduceCtorEq Int.reduceEq
def ar (x:Int):Prop:= -9223372036854775808≤x∧x≤9223372036854775807
instance (x:Int):Decidable (ar x):=by unfold ar;infer_instance
def vp (x:Int):Int×Bool:=if ar x then(x,true)else(0,false)
abbrev U (n:Int):AV:= .c (.pure (.val (.int .u64 n)))
abbrev aOk (x:Int×Bool):AV:= .tup [I x.1,Go.Abs.B x.2]
theorem C7 {x:Int} (h:ar x):vp x=(x,true):=if_pos h
theorem UA {x:Int} (h: ¬ar x):vp x=(0,false):=if_neg h
theorem Uq {a b:Int} (ha:ar a) (hb:ar b) (h0:b≠0) (hm: ¬(b= -1∧a= -9223372036854775808)):(IntKind.wrap .i64 (a*b)).tdiv b=a↔ar (a*b):=by
 obtain⟨ha1,ha2⟩:=ha
 obtain⟨hb1,hb2⟩:=hb
 constructor
 ·intro h
  rw[IntKind.wrap_i64]at h
  generalize hw:(a*b+9223372036854775808)%18446744073709551616-9223372036854775808=w at h
  have hb1':ar w:=by unfold ar;omega
  have key:=Int.tmod_def w b
  have hr1:(w.tmod b).natAbs<b.natAbs:=by rw[Int.natAbs_tmod];exact Nat.mod_lt _ (by omega)
  rw[h]at key
  generalize hr:w.tmod b=r at key hr1
  have hr2:r.natAbs<9223372036854775808:=by omega
  have e:a*b=b*a:=Int.mul_comm a b
  generalize hp:b*a=p at key e
  rw[e]at hw ⊢
  have:r=0:=by omega
  unfold ar at hb1' ⊢
  omega
 ·intro h
  rw[wrap_i64 h,Int.mul_tdiv_cancel a h0]
theorem RP {a b:Int} (ha:ar a) (hb:ar b) (h0:b≠0) (hm: ¬(b= -1∧a= -9223372036854775808)):IntKind.wrap .i64 ((IntKind.wrap .i64 (a*b)).tdiv b)=a↔ar (a*b):=by
 rw[wrap_i64,Uq ha hb h0 hm]
 have hw:ar (IntKind.wrap .i64 (a*b)):=by rw[IntKind.wrap_i64];unfold ar;omega
 have hne: ¬(b= -1∧IntKind.wrap .i64 (a*b)= -9223372036854775808):=by
  rintro⟨rfl,h⟩
  rw[IntKind.wrap_i64]at h
  unfold ar at ha
  omega
 generalize IntKind.wrap .i64 (a*b)=x at hw hne
 unfold ar at hw
 have h2:(x.tdiv b).natAbs≤x.natAbs:=by rw[Int.natAbs_tdiv];exact Nat.div_le_self _ _
 by_cases e:x= -9223372036854775808
 ·by_cases e1:b=1
  ·subst e1;simp;omega
  ·have h3:2≤b.natAbs:=by omega
   have h4:(x.tdiv b).natAbs≤x.natAbs/2:=by rw[Int.natAbs_tdiv];exact Nat.div_le_div_left h3 (by omega)
   omega
 ·omega
abbrev om (xs:List ByteArray):AV:=gG (λs=> [pS s]) xs
def fY (p:Nat→Prop) (k:Nat):Prop:= ∀j,j<k→p j
theorem fY.zero {p:Nat→Prop}:fY p 0:= λj h=>by omega
theorem fY.succ {p:Nat→Prop} {k:Nat} (h:fY p k) (hk:p k):fY p (k+1):= λj hj=>by
 by_cases e:j=k
 ·rw[e];exact hk
 ·exact h j (by omega)
theorem dK {p:PC} (h:FS (.int .i64) p): ∃n,p=pI n∧ar n:=by
 cases h with
 | @int _ n h=>
  refine⟨n,rfl, ?_⟩
  simp only[Lit.wf,Bool.and_eq_true,decide_eq_true_eq]at h
  exact h
theorem zQ {p:PC} (h:FS .str p): ∃s,p=pS s∧s.size≤maxLen:=by
 cases h with
 | @str s h=>exact⟨s,rfl,h⟩
theorem YP {p:PC} (h:FS .bool p): ∃b,p=pB b:=by
 cases h with
 | @bool b=>exact⟨b,rfl⟩
theorem vC {α:Type} {l:List TS} (f:α→List PC) (Q:α→Prop) (hrow: ∀r,qp l r→ ∃x,r=f x∧Q x) {p:PC} (h:FS (.slice l) p): ∃xs:List α,p=dg f xs∧(∀x∈xs,Q x)∧xs.length≤maxLen:=by
 cases h with
 | @slice _ rows hm hl h=>
  have key: ∀rs:List (List PC),(∀r∈rs,qp l r)→ ∃xs:List α,rs=xs.map f∧ ∀x∈xs,Q x:=by
   intro rs
   induction rs with
   |nil=>intro _;exact⟨[],rfl,by simp⟩
   |cons r rs ih=>
    intro hr
    obtain⟨x,hx,hq⟩:=hrow r (hr r List.mem_cons_self)
    obtain⟨xs,hxs,hqs⟩:=ih λr h=>hr r (List.mem_cons_of_mem _ h)
    refine⟨x::xs,by rw[hx,hxs];rfl,λy hy=> ?_⟩
    rcases List.mem_cons.1 hy with rfl|hy
    ·exact hq
    ·exact hqs y hy
  obtain⟨xs,hxs,hq⟩:=key rows λr hr=>⟨hl r hr,h r hr⟩
  refine⟨xs,by rw[hxs],hq,by rw[hxs]at hm;simpa using hm⟩
theorem xg {s:TS} {ps:List PC} (h:qp [s] ps): ∃p,ps= [p]∧FS s p:=by
 obtain⟨h1,h2⟩:=h
 match ps with
 | [p]=>exact⟨p,rfl,h2 0 s p rfl rfl⟩
 | []=>simp at h1
 |_::_::_=>simp at h1
theorem dB {s:TS} {l:List TS} {ps:List PC} (h:qp (s::l) ps): ∃p r,ps=p::r∧FS s p∧qp l r:=by
 obtain⟨h1,h2⟩:=h
 match ps with
 |p::r=>exact⟨p,r,rfl,h2 0 s p rfl rfl,by simpa using h1,λi s p hi hp=>h2 (i+1) s p (by simpa using hi) (by simpa using hp)⟩
 | []=>simp at h1
theorem VI {p:PC} (h:FS (.slice [.str]) p): ∃xs:List ByteArray,p=dg (λs=> [pS s]) xs∧xs.length≤maxLen:=by
 obtain⟨xs,h1,_,h2⟩:=vC (λs:ByteArray=> [pS s]) (λ_=>True) (λr hr=>by
  obtain⟨p,rfl,hp⟩:=xg hr
  obtain⟨n,rfl,hn⟩:=zQ hp
  exact⟨n,rfl,trivial⟩) h
 exact⟨xs,h1,h2⟩
open Go.ChangeShapes Go.WideShapes Go.ChangeAt Go.RowKit Go.Abs
theorem Zd:ownKnob Tryz.prog.godebug=none:=by kernel_rfl
theorem NG:laidOutB Tryz.prog=true:=by kernel_rfl
theorem K6 {H:Type} {enc:TypeId×Value→H} {P:Program} (hl:laidOutB P=true) {W W':World} (hb:Below W.heap.size W W'):
  ∀(ts:List TypeId) (vs:List Value) (ds:List (DataW H)) (ps:List MemPlace),(ts.all λt=>P.readableRec t&&decide (t<P.types.size))=true→
   DataW.TrodAll enc P W 0 (λ_=>true) true ts vs ds ps→(∀x∈ps,x.block<W.heap.size)→
   DataW.TrodAll enc P W' 0 (λb=>decide (b<W.heap.size)) true ts vs ds ps
 | [], [], [],ps,_,h,_=>h
 |t::ts,v::vs,d::ds,ps,hts,h,hlt=>by
  obtain⟨p,q,h1,h2,rfl⟩:=h
  simp only[List.all_cons,Bool.and_eq_true,decide_eq_true_eq]at hts
  exact⟨p,q,Below.trod hl hts.1.1 hts.1.2 h1 hb (λx hx=>hlt x (by simp[hx])),
   K6 hl hb ts vs ds q hts.2 h2 (λx hx=>hlt x (by simp[hx])),rfl⟩
 | [], [],_::_,_,_,h,_=>h.elim
 | [],_::_,_,_,_,h,_=>h.elim
 |_::_, [],_,_,_,h,_=>h.elim
 |_::_,_::_, [],_,_,h,_=>h.elim
theorem TA {H:Type} {enc:TypeId×Value→H} {f:Func} {s:ChangeSpec} {W W':World} {args:Array Value} {ds gs:List (DataW H)} {fe:List MemPlace}
  (hts:(f.params.toList.all λt=>Tryz.prog.readableRec t&&decide (t<Tryz.prog.types.size))=true)
  (hrt:f.resultTypes= #[4]) (hsv:s.vars= []) (hW:DataW.Whole enc Tryz.prog f.params.toList s.vars false W args.toList ds gs fe)
  (hr:(s.fn H (ds++gs)).results= [.lit (.bool true)]) (ha:(s.fn H (ds++gs)).args=ds) (hv:(s.fn H (ds++gs)).vars= []) (hx:Below W.heap.size W W'):
  s.post enc Tryz.prog f false true false false W args (.bool true) W':=by
 have hlt:=hW.lt
 have hW':=hW
 obtain⟨p,q,hA,hV,rfl,_,_⟩:=hW
 rw[hsv]at hV
 obtain⟨rfl,rfl⟩:=trodVars_none hV
 refine⟨ds, [],p++ [], [],p, [],hW', ?_, ?_, ?_,hx.frame _,λh=>by cases h⟩
 ·rw[hr,hrt]
  exact trodAll_mk1 (shut_bool Tryz.underlying4 true)
 ·rw[ha]
  exact K6 NG hx _ _ _ _ hts hA (λx hx=>hlt x (by simpa using hx))
 ·rw[hv,hsv]
  rfl
theorem QX {f:FuncId} {args:List AV} {vs:Array Value} {W:World} (h:af Tryz.prog f args (Go.Abs.B true)) (hG:mN W) (hr:aJ (aN W Hn (λ_=>undef) 0) args vs.toList):
  Calls Tryz.prog f vs W λe W'=>e= .returned (.bool true)∧Below W.heap.size W W':=by
 refine(h.2 W Hn vs hG hr).mono λe W' ⟨v,he,hv,hb⟩=> ?_
 cases hv with
 |c hv=>
  cases hv with
  |pure hv=>
   cases hv
   exact⟨he,hb⟩
end Go.Proofs.YthbcbaembicdbaaGreatDoor
