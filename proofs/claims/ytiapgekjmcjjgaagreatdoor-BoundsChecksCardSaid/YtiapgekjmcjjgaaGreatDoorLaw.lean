import Derived.Test.YtiapgekjmcjjgaaGreatDoorCodesB
import Derived.ProofKit
import Derived.OpenShut
import Derived.SizedLaws
set_option linter.unusedVariables false
set_option linter.unusedSimpArgs false
set_option maxRecDepth 20000
open Go.Proofs.Tryz renaming prog→Ya
namespace Go.Proofs.YtiapgekjmcjjgaaGreatDoor
open Go.Abs Go.RowKit
attribute [simp] Wk kY Qd eg aJ eF dE fk MQ rn mj j8 dV TA iI al aj j8.go
attribute [go_sem_proc ↓] reduceIte
attribute [go_sem_proc] Nat.reduceEqDiff reduceCtorEq Int.reduceEq
def am (x:Int):Prop:= -9223372036854775808≤x∧x≤9223372036854775807
instance (x:Int):Decidable (am x):=by unfold am;infer_instance
def dg (x:Int):Int×Bool:=if am x then(x,true)else(0,false)
abbrev U (n:Int):AV:= .c (.pure (.val (.int .u64 n)))
abbrev Ts (x:Int×Bool):AV:= .tup [I x.1,Go.Abs.B x.2]
theorem el {x:Int} (h:am x):dg x=(x,true):=if_pos h
theorem i9 {x:Int} (h: ¬am x):dg x=(0,false):=if_neg h
theorem Pu {a b:Int} (ha:am a) (hb:am b) (h0:b≠0) (hm: ¬(b= -1∧a= -9223372036854775808)):(IntKind.wrap .i64 (a*b)).tdiv b=a↔am (a*b):=by
 obtain⟨J,K⟩:=ha
 obtain⟨L,M⟩:=hb
 constructor
 ·intro h
  rw[IntKind.wrap_i64]at h
  generalize hw:(a*b+9223372036854775808)%18446744073709551616-9223372036854775808=w at h
  have u:am w:=by unfold am;omega
  have key:=Int.tmod_def w b
  have C:(w.tmod b).natAbs<b.natAbs:=by rw[Int.natAbs_tmod];exact Nat.mod_lt _ (by omega)
  rw[h]at key
  generalize hr:w.tmod b=r at key C
  have N:r.natAbs<9223372036854775808:=by omega
  have e:a*b=b*a:=Int.mul_comm a b
  generalize hp:b*a=p at key e
  rw[e]at hw ⊢
  have:r=0:=by omega
  unfold am at u ⊢
  omega
 ·intro h
  rw[wrap_i64 h,Int.mul_tdiv_cancel a h0]
theorem we {a b:Int} (ha:am a) (hb:am b) (h0:b≠0) (hm: ¬(b= -1∧a= -9223372036854775808)):IntKind.wrap .i64 ((IntKind.wrap .i64 (a*b)).tdiv b)=a↔am (a*b):=by
 rw[wrap_i64,Pu ha hb h0 hm]
 have hw:am (IntKind.wrap .i64 (a*b)):=by rw[IntKind.wrap_i64];unfold am;omega
 have D: ¬(b= -1∧IntKind.wrap .i64 (a*b)= -9223372036854775808):=by
  rintro⟨rfl,h⟩
  rw[IntKind.wrap_i64]at h
  unfold am at ha
  omega
 generalize IntKind.wrap .i64 (a*b)=x at hw D
 unfold am at hw
 have h2:(x.tdiv b).natAbs≤x.natAbs:=by rw[Int.natAbs_tdiv];exact Nat.div_le_self _ _
 by_cases e:x= -9223372036854775808
 ·by_cases e1:b=1
  ·subst e1;simp;omega
  ·have h3:2≤b.natAbs:=by omega
   have h4:(x.tdiv b).natAbs≤x.natAbs/2:=by rw[Int.natAbs_tdiv];exact Nat.div_le_div_left h3 (by omega)
   omega
 ·omega
abbrev lO (xs:List ByteArray):AV:=i6 (λs=> [pS s]) xs
def dZ (p:Nat→Prop) (k:Nat):Prop:= ∀j,j<k→p j
theorem dZ.zero {p:Nat→Prop}:dZ p 0:= λj h=>by omega
theorem dZ.succ {p:Nat→Prop} {k:Nat} (h:dZ p k) (hk:p k):dZ p (k+1):= λj hj=>by
 by_cases e:j=k
 ·rw[e];exact hk
 ·exact h j (by omega)
theorem dI {p:PC} (h:AA (.int .i64) p): ∃n,p=pI n∧am n:=by
 cases h with
 | @int _ n h=>
  refine⟨n,rfl, ?_⟩
  simp only[Lit.wf,Bool.and_eq_true,decide_eq_true_eq]at h
  exact h
theorem xJ {p:PC} (h:AA .str p): ∃s,p=pS s∧s.size≤maxLen:=by
 cases h with
 | @str s h=>exact⟨s,rfl,h⟩
theorem Tk {p:PC} (h:AA .bool p): ∃b,p=pB b:=by
 cases h with
 | @bool b=>exact⟨b,rfl⟩
theorem tI {α:Type} {l:List TS} (f:α→List PC) (Q:α→Prop) (z: ∀r,nJ l r→ ∃x,r=f x∧Q x) {p:PC} (h:AA (.slice l) p): ∃xs:List α,p=dp f xs∧(∀x∈xs,Q x)∧xs.length≤maxLen:=by
 cases h with
 | @slice _ rows hm hl h=>
  have key: ∀rs:List (List PC),(∀r∈rs,nJ l r)→ ∃xs:List α,rs=xs.map f∧ ∀x∈xs,Q x:=by
   intro rs
   induction rs with
   |nil=>intro _;exact⟨[],rfl,by simp⟩
   |cons r rs ih=>
    intro hr
    obtain⟨x,hx,hq⟩:=z r (hr r List.mem_cons_self)
    obtain⟨xs,m,E⟩:=ih λr h=>hr r (List.mem_cons_of_mem _ h)
    refine⟨x::xs,by rw[hx,m];rfl,λy hy=> ?_⟩
    rcases List.mem_cons.1 hy with rfl|hy
    ·exact hq
    ·exact E y hy
  obtain⟨xs,m,hq⟩:=key rows λr hr=>⟨hl r hr,h r hr⟩
  refine⟨xs,by rw[m],hq,by rw[m]at hm;simpa using hm⟩
theorem uw {s:TS} {ps:List PC} (h:nJ [s] ps): ∃p,ps= [p]∧AA s p:=by
 obtain⟨h1,h2⟩:=h
 match ps with
 | [p]=>exact⟨p,rfl,h2 0 s p rfl rfl⟩
 | []=>simp at h1
 |_::_::_=>simp at h1
theorem dH {s:TS} {l:List TS} {ps:List PC} (h:nJ (s::l) ps): ∃p r,ps=p::r∧AA s p∧nJ l r:=by
 obtain⟨h1,h2⟩:=h
 match ps with
 |p::r=>exact⟨p,r,rfl,h2 0 s p rfl rfl,by simpa using h1,λi s p hi hp=>h2 (i+1) s p (by simpa using hi) (by simpa using hp)⟩
 | []=>simp at h1
theorem OD {p:PC} (h:AA (.slice [.str]) p): ∃xs:List ByteArray,p=dp (λs=> [pS s]) xs∧xs.length≤maxLen:=by
 obtain⟨xs,h1,_,h2⟩:=tI (λs:ByteArray=> [pS s]) (λ_=>True) (λr hr=>by
  obtain⟨p,rfl,hp⟩:=uw hr
  obtain⟨n,rfl,hn⟩:=xJ hp
  exact⟨n,rfl,trivial⟩) h
 exact⟨xs,h1,h2⟩
open Go.ChangeShapes Go.WideShapes Go.ChangeAt Go.RowKit Go.Abs
theorem Ta:ownKnob Tryz.prog.godebug=none:=by kernel_rfl
theorem J0:laidOutB Ya=true:=by kernel_rfl
theorem Hp {H:Type} {enc:TypeId×Value→H} {P:Program} (hl:laidOutB P=true) {W W':World} (hb:Below W.heap.size W W'):
  ∀(ts:List TypeId) (vs:List Value) (ds:List (DataW H)) (ps:List MemPlace),(ts.all λt=>P.readableRec t&&decide (t<P.types.size))=true→
   DataW.TrodAll enc P W 0 (λ_=>true) true ts vs ds ps→(∀x∈ps,x.block<W.heap.size)→
   DataW.TrodAll enc P W' 0 (λb=>decide (b<W.heap.size)) true ts vs ds ps
 | [], [], [],ps,_,h,_=>h
 |t::ts,v::vs,d::ds,ps,g,h,o=>by
  obtain⟨p,q,h1,h2,rfl⟩:=h
  simp only[List.all_cons,Bool.and_eq_true,decide_eq_true_eq]at g
  exact⟨p,q,Below.trod hl g.1.1 g.1.2 h1 hb (λx hx=>o x (by simp[hx])),
   Hp hl hb ts vs ds q g.2 h2 (λx hx=>o x (by simp[hx])),rfl⟩
 | [], [],_::_,_,_,h,_=>h.elim
 | [],_::_,_,_,_,h,_=>h.elim
 |_::_, [],_,_,_,h,_=>h.elim
 |_::_,_::_, [],_,_,h,_=>h.elim
theorem P5 {H:Type} {enc:TypeId×Value→H} {f:Func} {s:ChangeSpec} {W W':World} {args:Array Value} {ds gs:List (DataW H)} {cU:List MemPlace}
  (g:(f.params.toList.all λt=>Tryz.prog.readableRec t&&decide (t<Tryz.prog.types.size))=true)
  (F:f.resultTypes= #[4]) (A:s.vars= []) (hW:DataW.Whole enc Ya f.params.toList s.vars false W args.toList ds gs cU)
  (hr:(s.fn H (ds++gs)).results= [.lit (.bool true)]) (ha:(s.fn H (ds++gs)).args=ds) (hv:(s.fn H (ds++gs)).vars= []) (hx:Below W.heap.size W W'):
  s.post enc Ya f false true false false W args (.bool true) W':=by
 have o:=hW.lt
 have G:=hW
 obtain⟨p,q,hA,hV,rfl,_,_⟩:=hW
 rw[A]at hV
 obtain⟨rfl,rfl⟩:=trodVars_none hV
 refine⟨ds, [],p++ [], [],p, [],G, ?_, ?_, ?_,hx.frame _,λh=>by cases h⟩
 ·rw[hr,F]
  exact trodAll_mk1 (shut_bool Tryz.underlying4 true)
 ·rw[ha]
  exact Hp J0 hx _ _ _ _ g hA (λx hx=>o x (by simpa using hx))
 ·rw[hv,A]
  rfl
theorem LU {f:FuncId} {args:List AV} {vs:Array Value} {W:World} (h:ac Ya f args (Go.Abs.B true)) (hG:qf W) (hr:aM (aX W Dh (λ_=>undef) 0) args vs.toList):
  Calls Ya f vs W λe W'=>e= .returned (.bool true)∧Below W.heap.size W W':=by
 refine(h.2 W Dh vs hG hr).mono λe W' ⟨v,he,hv,hb⟩=> ?_
 cases hv with
 |c hv=>
  cases hv with
  |pure hv=>
   cases hv
   exact⟨he,hb⟩
end Go.Proofs.YtiapgekjmcjjgaaGreatDoor
