import Derived.Test.YthkaaahphlneiaaGreatDoorLaw
import Derived.Test.YthkaaahphlneiaaGreatDoorAbs28
import Derived.Test.YthkaaahphlneiaaGreatDoorV05d
import Derived.Test.YthkaaahphlneiaaGreatDoorV07b
import Derived.Test.YthkaaahphlneiaaGreatDoorV14b
set_option linter.unusedVariables false
set_option linter.unusedSimpArgs false
set_option maxRecDepth 20000
set_option maxHeartbeats 4000000
set_option maxRecDepth 1000000
namespace Go.Proofs.YthkaaahphlneiaaGreatDoor
open Go.Abs Go.RowKit
def CC (w:Nat×Nat×Nat) (t hi lo:Nat):Nat×Nat×Nat:=
 let low:=(w.2.2+lo)%18446744073709551616
 let c:=if low<lo then 1 else 0
 let s:=(w.2.1+hi)%18446744073709551616
 let o:=if s<hi then 1 else 0
 let mid:=(s+c)%18446744073709551616
 let o2:=if mid<s then o+1 else o
 ((w.1+(t+o2)%18446744073709551616)%18446744073709551616,mid,low)
def Ag (hi lo:Nat):Nat×Nat×Nat:=
 if lo=0 then(if hi=0 then(0,0,0)else(18446744073709551615,18446744073709551616-hi,0))else(18446744073709551615,18446744073709551615-hi,18446744073709551616-lo)
def GB (w:Nat×Nat×Nat):Nat:=w.1*340282366920938463463374607431768211456+w.2.1*18446744073709551616+w.2.2
def VR (w:Nat×Nat×Nat):Prop:=w.1<18446744073709551616∧w.2.1<18446744073709551616∧w.2.2<18446744073709551616
theorem K6 {w:Nat×Nat×Nat} {t hi lo:Nat} (h:VR w) (hh:hi<18446744073709551616) (hl:lo<18446744073709551616):
  GB (CC w t hi lo)=(GB w+(t*340282366920938463463374607431768211456+hi*18446744073709551616+lo))%6277101735386680763835789423207666416102355444464034512896∧VR (CC w t hi lo):=by
 obtain⟨a,b,c⟩:=w
 obtain⟨h1,h2,h3⟩:=h
 simp only at h1 h2 h3
 unfold CC GB VR
 simp only
 have e1:(c+lo)%18446744073709551616=if c+lo<18446744073709551616 then c+lo else c+lo-18446744073709551616:=by split<;>omega
 have e2:(b+hi)%18446744073709551616=if b+hi<18446744073709551616 then b+hi else b+hi-18446744073709551616:=by split<;>omega
 rw[e1,e2]
 refine⟨?_,Nat.mod_lt _ (by decide),Nat.mod_lt _ (by decide), ?_⟩
 ·(repeat' split)<;>omega
 ·split<;>omega
theorem TK {hi lo:Nat} (hh:hi<18446744073709551616) (hl:lo<18446744073709551616):
  GB (Ag hi lo)=(6277101735386680763835789423207666416102355444464034512896-(hi*18446744073709551616+lo))%6277101735386680763835789423207666416102355444464034512896∧VR (Ag hi lo):=by
 unfold Ag GB VR
 (repeat' split)<;>(simp only;omega)
abbrev pU (n:Nat):PC:= .val (.int .u64 n)
abbrev bW (w:Nat×Nat×Nat):aS:= .var [.pure (pU w.1),.pure (pU w.2.1),.pure (pU w.2.2)]
def Es (hi lo:Nat) (neg:Bool):Nat×Nat×Nat:=if neg=true then Ag hi lo else(0,hi,lo)
theorem vm {m:List (Nat×aS)} {q:Nat} {b c:aS}:cE (cE m q b) q c=cE m q c:=by
 induction m with
 |nil=>rfl
 |cons x r ih=>
  obtain⟨k,v⟩:=x
  simp only[cE]
  split
  ·simp[cE, *]
  ·simp[cE, *]
def WZ (k:IntKind) (n:Int):Int:=k.wrap (BitVec.ofInt k.bits (if k.signed then-1 else k.max)^^^BitVec.ofInt k.bits n).toNat
theorem Uq {P:Program} {x:AX} {σ:St} {K:AV→St→Prop}:bn P (.un .xor x) σ K=(match x.ev σ.fr with
  | .c (.pure (.val (.int k n)))=>K (.c (.pure (.val (.int k (WZ k n))))) σ
  |_=>False):=by
 rw[TB]
 generalize AX.ev σ.fr x=v
 cases v with
 |c a=>
  cases a with
  |pure q=>
   cases q with
   |val u=>cases u<;>rfl
   |_=>rfl
  |_=>rfl
 |_=>rfl
attribute [go_sem ↓ high] Uq
theorem uW {n:Nat} (h:n<18446744073709551616):WZ .u64 n=18446744073709551615-n:=by
 have e:BitVec.ofInt 64 (if IntKind.u64.signed=true then-1 else IntKind.u64.max)=BitVec.allOnes 64:=by decide
 show IntKind.u64.wrap ((BitVec.ofInt 64 (if IntKind.u64.signed=true then-1 else IntKind.u64.max)^^^BitVec.ofInt 64 n).toNat:Int)=_
 rw[e,BitVec.allOnes_xor,BitVec.toNat_not,BitVec.ofInt_natCast,BitVec.toNat_ofNat,Nat.mod_eq_of_lt (by omega),IntKind.wrap_u64]
 omega
theorem Hi:WZ .u64 0=18446744073709551615:=uW (n:=0) (by decide)
theorem Vg {a b c:Int} {w:Nat×Nat×Nat} (h1:a=w.1) (h2:b=w.2.1) (h3:c=w.2.2):aS.var [.pure (.val (.int .u64 a)),.pure (.val (.int .u64 b)),.pure (.val (.int .u64 c))]=bW w:=by
 subst h1 h2 h3;rfl
set_option maxHeartbeats 4000000 in
theorem pF {mem:List (Nat×aS)} {q nx:Nat} {w:Nat×Nat×Nat} {hi lo:Nat} {neg:Bool} (hq:ak mem q=some (bW w)) (hw:VR w) (hh:hi<18446744073709551616) (hl:lo<18446744073709551616):
  am Tryz.prog gp [.c (.ptr q 0),U hi,U lo,Go.Abs.B neg] mem nx (.tup []) (cE mem q (bW (CC w (Es hi lo neg).1 (Es hi lo neg).2.1 (Es hi lo neg).2.2))) nx:=by
 refine am.of BY (by simp) fun _=>aa ?_
 obtain⟨a,b,c⟩:=w
 obtain⟨h1,h2,h3⟩:=hw
 simp only at h1 h2 h3 hq
 conv in tp=>cbv
 have hf: ∀bx,ak (cE mem q bx) q=some bx:=fun bx=>by rw[aB,if_pos rfl,hq];rfl
 cases neg
 ·simp only[Es]
  repeat' first|simp(disch:=omega) only[go_sem,hq,hf,vm]|((with_reducible refine ab ?_ ?_)<;>intro h<;>try first|omega|simp(disch:=omega) only[go_sem, *,hq,hf,vm])
  all_goals(refine congrArg (cE mem q) (Vg ?_ ?_ ?_)<;>simp only[IntKind.wrap_u64,CC]at* <;>(repeat' split)<;>omega)
 ·simp only[Es]
  repeat' first|simp(disch:=omega) only[go_sem,hq,hf,vm,uW hh,uW hl,Hi]|((with_reducible refine ab ?_ ?_)<;>intro h<;>try first|omega|simp(disch:=omega) only[go_sem, *,hq,hf,vm,uW hh,uW hl,Hi])
  all_goals(refine congrArg (cE mem q) (Vg ?_ ?_ ?_)<;>simp only[IntKind.wrap_u64,CC,Ag]at* <;>(repeat' split)<;>(try simp only at*)<;>omega)
set_option maxRecDepth 20000
set_option maxRecDepth 1000000
def Rx (w:Nat×Nat×Nat) (s:Int):Prop:=VR w∧(GB w:Int)=s%6277101735386680763835789423207666416102355444464034512896
theorem OC {w:Nat×Nat×Nat} {s:Int} {hi lo:Nat} {neg:Bool} (h:Rx w s) (hh:hi<18446744073709551616) (hl:lo<18446744073709551616):
  Rx (CC w (Es hi lo neg).1 (Es hi lo neg).2.1 (Es hi lo neg).2.2) (s+(if neg=true then-((hi*18446744073709551616+lo:Nat):Int)else((hi*18446744073709551616+lo:Nat):Int))):=by
 obtain⟨h1,h2⟩:=h
 cases neg
 ·have:=K6 (t:=0) h1 hh hl
  refine⟨this.2, ?_⟩
  show(GB (CC w 0 hi lo):Int)=_
  rw[this.1]
  simp only[Bool.false_eq_true,if_false]
  omega
 ·have n1:=TK hh hl
  obtain⟨a,b,c⟩:=n1.2
  have:=K6 (t:=(Ag hi lo).1) h1 b c
  refine⟨this.2, ?_⟩
  show(GB (CC w (Ag hi lo).1 (Ag hi lo).2.1 (Ag hi lo).2.2):Int)=_
  have e:(Ag hi lo).1*340282366920938463463374607431768211456+(Ag hi lo).2.1*18446744073709551616+(Ag hi lo).2.2=GB (Ag hi lo):=rfl
  rw[this.1,e,n1.1]
  simp only[if_true]
  omega
theorem Dv {a b c:Nat} {s:Int} (h:Rx (a,b,c) s) (hb: -3138550867693340381917894711603833208051177722232017256448≤s∧s<3138550867693340381917894711603833208051177722232017256448):
  ((c<9223372036854775808∧a=0∧b=0)∨(¬c<9223372036854775808∧a=18446744073709551615∧b=18446744073709551615)↔aA s)∧(aA s→IntKind.i64.wrap c=s):=by
 obtain⟨⟨h1,h2,h3⟩,h4⟩:=h
 simp only[GB]at h1 h2 h3 h4
 unfold aA
 rw[IntKind.wrap_i64]
 omega
theorem WV {c:Nat} (h:c<18446744073709551616):IntKind.u64.wrap ((IntKind.i64.wrap c).fdiv (2^min (Int.toNat 63) 64))=if c<9223372036854775808 then 0 else 18446744073709551615:=by
 have e:(2^min (Int.toNat 63) 64:Int)=9223372036854775808:=by decide
 rw[e,Int.fdiv_eq_ediv_of_nonneg _ (by decide),IntKind.wrap_i64,IntKind.wrap_u64]
 split<;>omega
theorem vE {mem:List (Nat×aS)} {q nx:Nat} {w:Nat×Nat×Nat} {s:Int} (hq:ak mem q=some (bW w)) (h:Rx w s) (hb: -3138550867693340381917894711603833208051177722232017256448≤s∧s<3138550867693340381917894711603833208051177722232017256448):
  am Tryz.prog nX [.c (.ptr q 0)] mem nx (.tup [I (IntKind.i64.wrap w.2.2),Go.Abs.B (qD (aA s))]) mem nx:=by
 refine am.of xc (by simp) fun _=>aa ?_
 obtain⟨a,b,c⟩:=w
 have hn:=(Dv h hb).1
 obtain⟨⟨h1,h2,h3⟩,_⟩:=h
 simp only at h1 h2 h3 hq
 have hs:=WV h3
 simp only[nU]
 by_cases hi:aA s
 ·have hx:=hn.2 hi
  have e:qD (aA s)=true:=by simp[qD,hi]
  rw[e]
  rcases hx with⟨h4,rfl,rfl⟩|⟨h4,rfl,rfl⟩<;>(simp only[h4,if_true,if_false]at hs;repeat' first|simp(disch:=omega) only[go_sem,hq,hs]|((with_reducible refine ab ?_ ?_)<;>intro h<;>try first|omega|simp(disch:=omega) only[go_sem, *,hq,hs]);try(simp))
 ·have hx:=mt hn.1 hi
  have e:qD (aA s)=false:=by simp[qD,hi]
  rw[e]
  clear hn hi
  by_cases h4:c<9223372036854775808
  all_goals simp only[h4,if_true,if_false]at hs
  all_goals clear hb
  ·repeat' first|simp(disch:=omega) only[go_sem,hq,hs]|((with_reducible refine ab ?_ ?_)<;>intro h<;>try first|omega|simp(disch:=omega) only[go_sem, *,hq,hs])
   all_goals(refine congrArg (fun z=>AV.tup [_,Go.Abs.B z]) (decide_eq_false ?_);omega)
  ·repeat' first|simp(disch:=omega) only[go_sem,hq,hs]|((with_reducible refine ab ?_ ?_)<;>intro h<;>try first|omega|simp(disch:=omega) only[go_sem, *,hq,hs])
   all_goals(refine congrArg (fun z=>AV.tup [_,Go.Abs.B z]) (decide_eq_false ?_);omega)
theorem uo (m b:aP):ac Tryz.prog yE [.agg [.pure (pS b.1),.pure (pI b.2)],.c (.cptr [pS m.1,pI m.2])] (Go.Abs.B (qD (b.1=m.1))):=by
 refine ac.of Ge (by simp) fun hb=>aa ?_
 simp only[yd]
 repeat' first|simp(disch:=omega) only[go_sem,jA]|((with_reducible refine ab ?_ ?_)<;>intro h<;>try first|omega|simp(disch:=omega) only[go_sem, *,jA])
 rw[QW]
def XV (f:FuncId) (cl:List PC) (s:ByteArray):Prop:= ∀b:aP,ac Tryz.prog f [.agg [.pure (pS b.1),.pure (pI b.2)],.c (.cptr cl)] (Go.Abs.B (qD (b.1=s)))
theorem eF {f:FuncId} {cl:List PC} {s:ByteArray} (hf:XV f cl s) (xs:List aP):ac Tryz.prog dh [d8 mP xs,.c (.clo f [.cptr cl])] (I (nB (fun b=>b.1=s) xs)):=by
 refine ac.of fq (by simp) fun hb=>aa ?_
 have hl:=M1 hb
 simp only[di]
 repeat' first|simp(disch:=omega) only[go_sem]|((with_reducible refine ab ?_ ?_)<;>intro h<;>try first|omega|simp(disch:=omega) only[go_sem, *])
 refine aj (fun k:Nat=>⟨[(0,d8 mP xs),(1,.c (.clo f [.cptr cl])),(7,I xs.length),(8,I k)], [],0,0⟩) (fun k=>k≤xs.length∧dW (fun j=> ∀h:j<xs.length,¬xs[j].1=s) k) (fun k=>xs.length-k) ⟨0, [],⟨by omega,.zero⟩,by simp⟩ ?_
 rintro k ⟨hk,hall⟩
 refine aa ?_
 by_cases hlt:k<xs.length
 ·have HN:=Lib.hid fun h=>y8 (p:=fun b:aP=>b.1=s) hlt h fun j hj=>hall j hj (by omega)
  have HA:=Lib.hid hall
  clear hall
  repeat' first|simp(disch:=omega) only[go_sem,ae hlt,mP,wrap_i64]|((with_reducible refine ab ?_ ?_)<;>intro h<;>try first|omega|simp(disch:=omega) only[go_sem, *,ae hlt,mP,wrap_i64])|(refine ah (hf _) rfl (.inl rfl) ?_)
  ·rw[HN.out h]
  ·exact⟨k+1, [],⟨by omega,HA.out.succ fun _=>h⟩,by omega,by simp⟩
 ·have HN:=Lib.hid (re (p:=fun b:aP=>b.1=s) fun j hj=>hall j (by omega) hj)
  clear hall
  repeat' first|simp(disch:=omega) only[go_sem]|((with_reducible refine ab ?_ ?_)<;>intro h<;>try first|omega|simp(disch:=omega) only[go_sem, *])
  rw[HN.out]
theorem NP (env:List aP) (s:ByteArray):(nB (fun b:aP=>b.1=s) env= -1∧ry env s=none)∨ ∃i,∃h:i<env.length,nB (fun b:aP=>b.1=s) env=i∧ry env s=some env[i].2:=by
 have key: ∀l:List aP,((∀x∈l,¬x.1=s)→ry l s=none)∧ ∀i (h:i<l.length),l[i].1=s→(∀j (hj:j<i),¬(l[j]'(by omega)).1=s)→ry l s=some l[i].2:=by
  intro l
  induction l with
  |nil=>exact⟨fun _=>rfl,fun i h=>absurd h (by simp)⟩
  |cons m r ih=>
   refine⟨fun h=> ?_,fun i h h1 h2=> ?_⟩
   ·rw[ry,if_neg (h m List.mem_cons_self)]
    exact ih.1 fun x hx=>h x (List.mem_cons_of_mem _ hx)
   ·cases i with
    |zero=>exact if_pos h1
    |succ i=>
     rw[ry,if_neg (show ¬m.1=s from h2 0 (by omega))]
     exact ih.2 i (by simpa using h) h1 fun j hj=>h2 (j+1) (by omega)
 rcases sW (fun b:aP=>b.1=s) env with⟨h1,h2⟩|⟨i,hi,h1,h2,h3⟩
 ·exact .inl ⟨h1,(key env).1 h2⟩
 ·exact .inr ⟨i,hi,h1,(key env).2 i hi h2 h3⟩
theorem NW {a b:Int} (ha:aA a) (hb:aA b):a.natAbs*b.natAbs/18446744073709551616<18446744073709551616∧a.natAbs*b.natAbs%18446744073709551616<18446744073709551616∧a.natAbs*b.natAbs/18446744073709551616*18446744073709551616+a.natAbs*b.natAbs%18446744073709551616=a.natAbs*b.natAbs:=by
 have h1:=kx ha hb
 have h2:((a.natAbs*b.natAbs:Nat):Int)=a.natAbs*b.natAbs:=Int.natCast_mul _ _
 generalize a.natAbs*b.natAbs=n at*
 omega
def F4 (a b:Int):Bool:= !(decide (a<0)==decide (b<0))
theorem S7 {a b:Int}:(if F4 a b=true then-((a.natAbs*b.natAbs:Nat):Int)else((a.natAbs*b.natAbs:Nat):Int))=a*b:=by
 rw[Int.natCast_mul]
 by_cases ha:a<0<;>by_cases hb:b<0
 ·rw[mi (.inl ⟨ha,hb⟩)];simp[F4,ha,hb,Int.mul_comm]
 ·rw[mf (.inl ⟨ha,hb⟩)];simp[F4,ha,hb,Int.mul_comm]
 ·rw[mf (.inr ⟨ha,hb⟩)];simp[F4,ha,hb,Int.mul_comm]
 ·rw[mi (.inr ⟨ha,hb⟩)];simp[F4,ha,hb,Int.mul_comm]
theorem Uh {w:Nat×Nat×Nat} {s a b:Int} (h:Rx w s) (ha:aA a) (hb:aA b): ∃w',CC w (Es (a.natAbs*b.natAbs/18446744073709551616) (a.natAbs*b.natAbs%18446744073709551616) (F4 a b)).1 (Es (a.natAbs*b.natAbs/18446744073709551616) (a.natAbs*b.natAbs%18446744073709551616) (F4 a b)).2.1 (Es (a.natAbs*b.natAbs/18446744073709551616) (a.natAbs*b.natAbs%18446744073709551616) (F4 a b)).2.2=w'∧Rx w' (s+a*b):=by
 obtain⟨h1,h2,h3⟩:=NW ha hb
 refine⟨_,rfl, ?_⟩
 have:=OC (neg:=F4 a b) h h1 h2
 rw[h3,S7]at this
 exact this
theorem Am {mem:List (Nat×aS)} {q nx:Nat} {w:Nat×Nat×Nat} {s a b:Int} (hq:ak mem q=some (bW w)) (h:Rx w s) (ha:aA a) (hb:aA b):
  ∃w',Rx w' (s+a*b)∧am Tryz.prog gp [.c (.ptr q 0),U (a.natAbs*b.natAbs/18446744073709551616:Nat),U (a.natAbs*b.natAbs%18446744073709551616:Nat),Go.Abs.B (F4 a b)] mem nx (.tup []) (cE mem q (bW w')) nx:=by
 obtain⟨w',e,h'⟩:=Uh h ha hb
 obtain⟨h1,h2,_⟩:=NW ha hb
 exact⟨w',h',e▸pF hq h.1 h1 h2⟩
theorem Ak {mem:List (Nat×aS)} {q nx:Nat} {a:Int} (hq:ak mem q=some (bW (0,0,0))) (ha:aA a):
  ∃w',Rx w' a∧am Tryz.prog gp [.c (.ptr q 0),U 0,U (a.natAbs:Nat),Go.Abs.B (decide (a<0))] mem nx (.tup []) (cE mem q (bW w')) nx:=by
 have h0:Rx (0,0,0) 0:=⟨by unfold VR;simp only;omega,by decide⟩
 have h1:a.natAbs<18446744073709551616:=by unfold aA at ha;omega
 have h2:=OC (hi:=0) (neg:=decide (a<0)) h0 (by decide) h1
 have e:(0:Int)+(if decide (a<0)=true then-((0*18446744073709551616+a.natAbs:Nat):Int)else((0*18446744073709551616+a.natAbs:Nat):Int))=a:=by
  simp only[decide_eq_true_eq]
  split<;>omega
 rw[e]at h2
 exact⟨_,h2,pF (hi:=0) hq h0.1 (by decide) h1⟩
set_option maxHeartbeats 4000000 in
theorem ya {k:Int} {l env:List aP} (hk:aA k) (hl64: ∀m∈l,aA m.2) (he64: ∀m∈env,aA m.2):ac Tryz.prog rB [dj k l,d8 mP env] (.tup [I (rR k l env).1,I (rR k l env).2]):=by
 refine ac.of KX (by simp) fun hb=>aa ?_
 have hl:=nY hb.1
 conv in FE=>cbv
 by_cases h1:cd l
 ·have pk:=eQ hk
  obtain⟨w,hw,pa⟩:=Ak (mem:= [(1,bW (0,0,0)),(0,aS.var [.pure (pI k),.pure (aE l)])]) (nx:=2) (q:=1) rfl hk
  simp only[cE,if_true]at pa
  repeat' first|simp(disch:=omega) only[go_sem,h1]|((with_reducible refine ab ?_ ?_)<;>intro h<;>try first|omega|simp(disch:=omega) only[go_sem, *,h1])|(refine ah (bD _ _) rfl (.inl rfl) ?_)|(refine ah pk rfl (.inl rfl) ?_)|(refine aq pa ?_)
  refine aj (fun s:Nat×(Nat×Nat×Nat)×Int=>⟨[(1,d8 mP env),(6,.c (.ptr 1 0)),(26,.c (.pure (aE l))),(27,I l.length),(28,I s.1)], [(1,bW s.2.1),(0,.var [.pure (pI k),.pure (aE l)])],2,0⟩)
   (fun s=>s.1≤l.length∧Hid (Rx s.2.1 s.2.2)∧ -(9223372036854775808+s.1*85070591730234615865843651857942052864:Int)≤s.2.2∧s.2.2≤9223372036854775808+s.1*85070591730234615865843651857942052864∧Hid (s.2.2=k+lu (jx env) (l.take s.1))∧dW (fun i=> ∀h:i<l.length,ry env l[i].1≠none) s.1) (fun s=>l.length-s.1) ⟨(0,w,k), [],⟨Nat.zero_le _,Lib.hid hw, ?_, ?_,Lib.hid (by simp[lu]),.zero⟩,by simp⟩ ?_
  ·show-((9223372036854775808:Int)+((0:Nat):Int)*_)≤k
   unfold aA at hk
   omega
  ·show k≤(9223372036854775808:Int)+((0:Nat):Int)*_
   unfold aA at hk
   omega
  clear hw pa pk w
  rintro⟨j,w,s⟩ ⟨hj,hw,hs1,hs2,hs,hall⟩
  refine aa ?_
  simp only at hj hs1 hs2 hs
  by_cases hlt:j<l.length
  ·have hm:=List.getElem_mem hlt
   have h64:=hl64 _ hm
   rcases NP env l[j].1 with⟨hi,hb1⟩|⟨i,hi0,hi,hb1⟩
   ·have e:rR k l env=(0,9):=by rw[rR,if_neg (not_not_intro h1),if_pos ⟨l[j],hm,hb1⟩]
    rw[e]
    have pi:=eF (uo l[j]) env
    rw[hi]at pi
    clear hb1 hs hall hw hi
    repeat' first|simp(disch:=omega) only[go_sem,ae hlt,mP]|((with_reducible refine ab ?_ ?_)<;>intro h<;>try first|omega|simp(disch:=omega) only[go_sem, *,ae hlt,mP])|(refine ah pi rfl (.inl rfl) ?_)
   ·have pi:=eF (uo l[j]) env
    rw[hi]at pi
    have hv:jx env l[j].1=env[i].2:=by rw[jx,hb1];rfl
    have hx64:=he64 _ (List.getElem_mem hi0)
    obtain⟨w',hw',pa⟩:=Am (mem:= [(2,aS.var [.pure (pS l[j].1),.pure (pI l[j].2)]),(1,bW w),(0,aS.var [.pure (pI k),.pure (aE l)])]) (nx:=3) (q:=1) rfl hw.out h64 hx64
    have pm1:=eQ h64
    have pm2:=eQ hx64
    have pp:=sk (a:=l[j].2.natAbs) (b:=env[i].2.natAbs) (by unfold aA at h64;omega) (by unfold aA at hx64;omega)
    have bd:=kx h64 hx64
    have sg:Hid (l[j].2*env[i].2≤(l[j].2.natAbs:Int)*env[i].2.natAbs∧ -((l[j].2.natAbs:Int)*env[i].2.natAbs)≤l[j].2*env[i].2):=Lib.hid (by
     rw[←Int.natCast_mul,←Int.natAbs_mul]
     omega)
    have HS:=Lib.hid (show s+l[j].2*env[i].2=k+lu (jx env) (l.take (j+1)) by
     have:=hs.out
     rw[qC hlt,hv]
     omega)
    have NX:=Lib.hid (hall.succ (p:=fun i=> ∀h:i<l.length,ry env l[i].1≠none) fun _=>by rw[hb1];simp)
    have HW:=Lib.hid hw'
    clear hs hall hw hw' hb1 hi hv
    have e:cE [(2,aS.var [.pure (pS l[j].1),.pure (pI l[j].2)]),(1,bW w),(0,aS.var [.pure (pI k),.pure (aE l)])] 1 (bW w')= [(2,aS.var [.pure (pS l[j].1),.pure (pI l[j].2)]),(1,bW w'),(0,aS.var [.pure (pI k),.pure (aE l)])]:=rfl
    rw[e]at pa
    clear e
    repeat' first|simp(disch:=omega) only[go_sem,ae hlt,ae hi0,mP,wrap_i64]|((with_reducible refine ab ?_ ?_)<;>intro h<;>try first|omega|simp(disch:=omega) only[go_sem, *,ae hlt,ae hi0,mP,wrap_i64])|(refine ah pi rfl (.inl rfl) ?_)|(refine ah pm1 rfl (.inl rfl) ?_)|(refine ah pm2 rfl (.inl rfl) ?_)|(refine ah pp rfl (.inl rfl) ?_)|(refine aq pa ?_)
    have sg':=sg.out
    generalize (l[j].2.natAbs:Int)*env[i].2.natAbs=p at*
    refine⟨(j+1,w',s+l[j].2*env[i].2), [],⟨hlt,HW, ?_, ?_,HS,NX.out⟩,by show _-_<_-_;omega,by simp⟩
    ·show-(_+((j+1:Nat):Int)*_)≤s+_
     omega
    ·show s+_≤_+((j+1:Nat):Int)*_
     omega
  ·obtain rfl:j=l.length:=by omega
   have pn:=vE (mem:= [(1,bW w),(0,aS.var [.pure (pI k),.pure (aE l)])]) (nx:=2) (q:=1) rfl hw.out (by simp only;omega)
   have hno: ¬ ∃m∈l,ry env m.1=none:=fun⟨m,hm,hx⟩=>by
    obtain⟨i,hi,rfl⟩:=List.getElem_of_mem hm
    exact hall i hi hi hx
   have hs':s=k+lu (jx env) l:=by have:=hs.out;rwa [List.take_length]at this
   have ev:rR k l env=if aA s then(s,0)else(0,3):=by rw[rR,if_neg (not_not_intro h1),if_neg hno,←hs']
   obtain⟨a,b,c⟩:=w
   have hn:=(Dv hw.out (by simp only;omega)).2
   rw[ev]
   clear ev hs' hno hs hall hw hs1 hs2
   by_cases hi:aA s
   ·have e1:qD (aA s)=true:=kM hi
    have e2:=hn hi
    simp only[e1,e2]at pn
    rw[if_pos hi]
    clear e2 hn hi
    repeat' first|simp(disch:=omega) only[go_sem]|((with_reducible refine ab ?_ ?_)<;>intro h<;>try first|omega|simp(disch:=omega) only[go_sem, *])|(refine aq pn ?_)
   ·have e1:qD (aA s)=false:=iZ hi
    simp only[e1]at pn
    rw[if_neg hi]
    clear hn hi
    repeat' first|simp(disch:=omega) only[go_sem]|((with_reducible refine ab ?_ ?_)<;>intro h<;>try first|omega|simp(disch:=omega) only[go_sem, *])|(refine aq pn ?_)
 ·have e:rR k l env=(0,1):=if_pos h1
  rw[e]
  repeat' first|simp(disch:=omega) only[go_sem,h1]|((with_reducible refine ab ?_ ?_)<;>intro h<;>try first|omega|simp(disch:=omega) only[go_sem, *,h1])|(refine ah (bD _ _) rfl (.inl rfl) ?_)
end Go.Proofs.YthkaaahphlneiaaGreatDoor
