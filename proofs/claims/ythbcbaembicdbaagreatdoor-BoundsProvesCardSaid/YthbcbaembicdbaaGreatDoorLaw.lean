import Derived.Test.YthbcbaembicdbaaGreatDoorCodesB
import Derived.ProofKit
import Derived.OpenShut
import Derived.SizedLaws
set_option linter.unusedVariables false
set_option linter.unusedSimpArgs false
set_option maxRecDepth 20000
namespace Go.Proofs.YthbcbaembicdbaaGreatDoor
open Go.Abs Go.RowKit
attribute [simp] Wk m6 WP eg aM eN dB fw SP rn oJ k7 dU clB ju am al k7.go
attribute [go_sem_proc ↓] reduceIte
attribute [go_sem_proc] Nat.reduceEqDiff reduceCtorEq Int.reduceEq
def ay (x:Int):Prop:= -9223372036854775808≤x∧x≤9223372036854775807
instance (x:Int):Decidable (ay x):=by unfold ay;infer_instance
def gC (x:Int):Int×Bool:=if ay x then(x,true)else(0,false)
abbrev U (n:Int):AV:= .c (.pure (.val (.int .u64 n)))
abbrev aOk (x:Int×Bool):AV:= .tup [I x.1,Go.Abs.B x.2]
theorem sQ {x:Int} (h:ay x):gC x=(x,true):=if_pos h
theorem zV {x:Int} (h: ¬ay x):gC x=(0,false):=if_neg h
theorem Vk {a b:Int} (ha:ay a) (hb:ay b) (h0:b≠0) (hm: ¬(b= -1∧a= -9223372036854775808)):(IntKind.wrap .i64 (a*b)).tdiv b=a↔ay (a*b):=by
 obtain⟨ha1,ha2⟩:=ha
 obtain⟨hb1,hb2⟩:=hb
 constructor
 ·intro h
  rw[IntKind.wrap_i64]at h
  generalize hw:(a*b+9223372036854775808)%18446744073709551616-9223372036854775808=w at h
  have hb1':ay w:=by unfold ay;omega
  have key:=Int.tmod_def w b
  have hr1:(w.tmod b).natAbs<b.natAbs:=by rw[Int.natAbs_tmod];exact Nat.mod_lt _ (by omega)
  rw[h]at key
  generalize hr:w.tmod b=r at key hr1
  have hr2:r.natAbs<9223372036854775808:=by omega
  have e:a*b=b*a:=Int.mul_comm a b
  generalize hp:b*a=p at key e
  rw[e]at hw ⊢
  have:r=0:=by omega
  unfold ay at hb1' ⊢
  omega
 ·intro h
  rw[wrap_i64 h,Int.mul_tdiv_cancel a h0]
theorem Cq {a b:Int} (ha:ay a) (hb:ay b) (h0:b≠0) (hm: ¬(b= -1∧a= -9223372036854775808)):IntKind.wrap .i64 ((IntKind.wrap .i64 (a*b)).tdiv b)=a↔ay (a*b):=by
 rw[wrap_i64,Vk ha hb h0 hm]
 have hw:ay (IntKind.wrap .i64 (a*b)):=by rw[IntKind.wrap_i64];unfold ay;omega
 have hne: ¬(b= -1∧IntKind.wrap .i64 (a*b)= -9223372036854775808):=by
  rintro⟨rfl,h⟩
  rw[IntKind.wrap_i64]at h
  unfold ay at ha
  omega
 generalize IntKind.wrap .i64 (a*b)=x at hw hne
 unfold ay at hw
 have h2:(x.tdiv b).natAbs≤x.natAbs:=by rw[Int.natAbs_tdiv];exact Nat.div_le_self _ _
 by_cases e:x= -9223372036854775808
 ·by_cases e1:b=1
  ·subst e1;simp;omega
  ·have h3:2≤b.natAbs:=by omega
   have h4:(x.tdiv b).natAbs≤x.natAbs/2:=by rw[Int.natAbs_tdiv];exact Nat.div_le_div_left h3 (by omega)
   omega
 ·omega
abbrev mO (xs:List ByteArray):AV:=j5 (fun s=> [pS s]) xs
def el (p:Nat→Prop) (k:Nat):Prop:= ∀j,j<k→p j
theorem el.zero {p:Nat→Prop}:el p 0:=fun j h=>by omega
theorem el.succ {p:Nat→Prop} {k:Nat} (h:el p k) (hk:p k):el p (k+1):=fun j hj=>by
 by_cases e:j=k
 ·rw[e];exact hk
 ·exact h j (by omega)
theorem d5 {p:PC} (h:Hn (.int .i64) p): ∃n,p=pI n∧ay n:=by
 cases h with
 | @int _ n h=>
  refine⟨n,rfl, ?_⟩
  simp only[Lit.wf,Bool.and_eq_true,decide_eq_true_eq]at h
  exact h
theorem C0 {p:PC} (h:Hn .str p): ∃s,p=pS s∧s.size≤maxLen:=by
 cases h with
 | @str s h=>exact⟨s,rfl,h⟩
theorem aac {p:PC} (h:Hn .bool p): ∃b,p=pB b:=by
 cases h with
 | @bool b=>exact⟨b,rfl⟩
theorem yM {α:Type} {l:List TS} (f:α→List PC) (Q:α→Prop) (hrow: ∀r,qt l r→ ∃x,r=f x∧Q x) {p:PC} (h:Hn (.slice l) p): ∃xs:List α,p=du f xs∧(∀x∈xs,Q x)∧xs.length≤maxLen:=by
 cases h with
 | @slice _ rows hm hl h=>
  have key: ∀rs:List (List PC),(∀r∈rs,qt l r)→ ∃xs:List α,rs=xs.map f∧ ∀x∈xs,Q x:=by
   intro rs
   induction rs with
   |nil=>intro _;exact⟨[],rfl,by simp⟩
   |cons r rs ih=>
    intro hr
    obtain⟨x,hx,hq⟩:=hrow r (hr r List.mem_cons_self)
    obtain⟨xs,hxs,hqs⟩:=ih fun r h=>hr r (List.mem_cons_of_mem _ h)
    refine⟨x::xs,by rw[hx,hxs];rfl,fun y hy=> ?_⟩
    rcases List.mem_cons.1 hy with rfl|hy
    ·exact hq
    ·exact hqs y hy
  obtain⟨xs,hxs,hq⟩:=key rows fun r hr=>⟨hl r hr,h r hr⟩
  refine⟨xs,by rw[hxs],hq,by rw[hxs]at hm;simpa using hm⟩
theorem Ag {s:TS} {ps:List PC} (h:qt [s] ps): ∃p,ps= [p]∧Hn s p:=by
 obtain⟨h1,h2⟩:=h
 match ps with
 | [p]=>exact⟨p,rfl,h2 0 s p rfl rfl⟩
 | []=>simp at h1
 |_::_::_=>simp at h1
theorem dT {s:TS} {l:List TS} {ps:List PC} (h:qt (s::l) ps): ∃p r,ps=p::r∧Hn s p∧qt l r:=by
 obtain⟨h1,h2⟩:=h
 match ps with
 |p::r=>exact⟨p,r,rfl,h2 0 s p rfl rfl,by simpa using h1,fun i s p hi hp=>h2 (i+1) s p (by simpa using hi) (by simpa using hp)⟩
 | []=>simp at h1
theorem U8 {p:PC} (h:Hn (.slice [.str]) p): ∃xs:List ByteArray,p=du (fun s=> [pS s]) xs∧xs.length≤maxLen:=by
 obtain⟨xs,h1,_,h2⟩:=yM (fun s:ByteArray=> [pS s]) (fun _=>True) (fun r hr=>by
  obtain⟨p,rfl,hp⟩:=Ag hr
  obtain⟨n,rfl,hn⟩:=C0 hp
  exact⟨n,rfl,trivial⟩) h
 exact⟨xs,h1,h2⟩
open Go.ChangeShapes Go.WideShapes Go.ChangeAt Go.RowKit Go.Abs
theorem Z8:ownKnob Tryz.prog.godebug=none:=by kernel_rfl
theorem Re:laidOutB Tryz.prog=true:=by kernel_rfl
theorem Pt {H:Type} {enc:TypeId×Value→H} {P:Program} (hl:laidOutB P=true) {W W':World} (hb:Below W.heap.size W W'):
  ∀(ts:List TypeId) (vs:List Value) (ds:List (DataW H)) (ps:List MemPlace),(ts.all fun t=>P.readableRec t&&decide (t<P.types.size))=true→
   DataW.TrodAll enc P W 0 (fun _=>true) true ts vs ds ps→(∀x∈ps,x.block<W.heap.size)→
   DataW.TrodAll enc P W' 0 (fun b=>decide (b<W.heap.size)) true ts vs ds ps
 | [], [], [],ps,_,h,_=>h
 |t::ts,v::vs,d::ds,ps,hts,h,hlt=>by
  obtain⟨p,q,h1,h2,rfl⟩:=h
  simp only[List.all_cons,Bool.and_eq_true,decide_eq_true_eq]at hts
  exact⟨p,q,Below.trod hl hts.1.1 hts.1.2 h1 hb (fun x hx=>hlt x (by simp[hx])),
   Pt hl hb ts vs ds q hts.2 h2 (fun x hx=>hlt x (by simp[hx])),rfl⟩
 | [], [],_::_,_,_,h,_=>h.elim
 | [],_::_,_,_,_,h,_=>h.elim
 |_::_, [],_,_,_,h,_=>h.elim
 |_::_,_::_, [],_,_,h,_=>h.elim
theorem UA {H:Type} {enc:TypeId×Value→H} {f:Func} {s:ChangeSpec} {W W':World} {args:Array Value} {ds gs:List (DataW H)} {cM:List MemPlace}
  (hts:(f.params.toList.all fun t=>Tryz.prog.readableRec t&&decide (t<Tryz.prog.types.size))=true)
  (hrt:f.resultTypes= #[4]) (hsv:s.vars= []) (hW:DataW.Whole enc Tryz.prog f.params.toList s.vars false W args.toList ds gs cM)
  (hr:(s.fn H (ds++gs)).results= [.lit (.bool true)]) (ha:(s.fn H (ds++gs)).args=ds) (hv:(s.fn H (ds++gs)).vars= []) (hx:Below W.heap.size W W'):
  s.post enc Tryz.prog f false true false false W args (.bool true) W':=by
 have hlt:=hW.lt
 have hW':=hW
 obtain⟨p,q,hA,hV,rfl,_,_⟩:=hW
 rw[hsv]at hV
 obtain⟨rfl,rfl⟩:=trodVars_none hV
 refine⟨ds, [],p++ [], [],p, [],hW', ?_, ?_, ?_,hx.frame _,fun h=>by cases h⟩
 ·rw[hr,hrt]
  exact trodAll_mk1 (shut_bool Tryz.underlying4 true)
 ·rw[ha]
  exact Pt Re hx _ _ _ _ hts hA (fun x hx=>hlt x (by simpa using hx))
 ·rw[hv,hsv]
  rfl
theorem TG {f:FuncId} {args:List AV} {vs:Array Value} {W:World} (h:ac Tryz.prog f args (Go.Abs.B true)) (hG:rS W) (hr:aP (aU W Kx (fun _=>undef) 0) args vs.toList):
  Calls Tryz.prog f vs W fun e W'=>e= .returned (.bool true)∧Below W.heap.size W W':=by
 refine(h.2 W Kx vs hG hr).mono fun e W' ⟨v,he,hv,hb⟩=> ?_
 cases hv with
 |c hv=>
  cases hv with
  |pure hv=>
   cases hv
   exact⟨he,hb⟩
end Go.Proofs.YthbcbaembicdbaaGreatDoor
