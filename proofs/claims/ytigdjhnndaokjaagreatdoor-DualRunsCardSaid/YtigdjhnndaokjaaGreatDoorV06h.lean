import Derived.Test.YtigdjhnndaokjaaGreatDoorV05d
import Derived.Test.YtigdjhnndaokjaaGreatDoorV07b
import Derived.Test.YtigdjhnndaokjaaGreatDoorV14b
set_option linter.unusedVariables false
set_option linter.unusedSimpArgs false
set_option maxHeartbeats 4000000
set_option maxRecDepth 1000000
open Go.Proofs.Tryz renaming prog→Pa0
namespace Go.Proofs.YtigdjhnndaokjaaGreatDoor
open Go.Abs Go.RowKit
noncomputable section
def Oo (w:Nat×Nat×Nat) (t hi lo:Nat):Nat×Nat×Nat:=
 let low:=(w.2.2+lo)%18446744073709551616
 let c:=if low<lo then 1 else 0
 let s:=(w.2.1+hi)%18446744073709551616
 let o:=if s<hi then 1 else 0
 let mid:=(s+c)%18446744073709551616
 let o2:=if mid<s then o+1 else o
 ((w.1+(t+o2)%18446744073709551616)%18446744073709551616,mid,low)
def Fz (hi lo:Nat):Nat×Nat×Nat:=
 if lo=0 then(if hi=0 then(0,0,0)else(18446744073709551615,18446744073709551616-hi,0))else(18446744073709551615,18446744073709551615-hi,18446744073709551616-lo)
def N9 (w:Nat×Nat×Nat):Nat:=w.1*340282366920938463463374607431768211456+w.2.1*18446744073709551616+w.2.2
def okW (w:Nat×Nat×Nat):Prop:=w.1<18446744073709551616∧w.2.1<18446744073709551616∧w.2.2<18446744073709551616
variable {w:Nat×Nat×Nat}{hi lo:Nat}
theorem SX {t:Nat} (h:okW w) (hh:hi<18446744073709551616) (hl:lo<18446744073709551616):
  N9 (Oo w t hi lo)=(N9 w+(t*340282366920938463463374607431768211456+hi*18446744073709551616+lo))%6277101735386680763835789423207666416102355444464034512896∧okW (Oo w t hi lo):=by
 obtain⟨a,b,c⟩:=w
 obtain⟨h1,h2,h3⟩:=h
 simp only at h1 h2 h3
 unfold Oo N9 okW
 simp only
 have e1:(c+lo)%18446744073709551616=if c+lo<18446744073709551616 then c+lo else c+lo-18446744073709551616:=by split<;>omega
 have e2:(b+hi)%18446744073709551616=if b+hi<18446744073709551616 then b+hi else b+hi-18446744073709551616:=by split<;>omega
 rw[e1,e2]
 refine⟨?_,zI3 _ zR9,zI3 _ zR9, ?_⟩
 ·(repeat' split)<;>omega
 ·split<;>omega
theorem Ze (hh:hi<18446744073709551616) (hl:lo<18446744073709551616):
  N9 (Fz hi lo)=(6277101735386680763835789423207666416102355444464034512896-(hi*18446744073709551616+lo))%6277101735386680763835789423207666416102355444464034512896∧okW (Fz hi lo):=by
 unfold Fz N9 okW
 (repeat' split)<;>(simp only;omega)
abbrev pU (n:Nat):PC:= .val (.int .u64 n)
abbrev bW (w:Nat×Nat×Nat):bP:= .var [.pure (pU w.1),.pure (pU w.2.1),.pure (pU w.2.2)]
def Jo (hi lo:Nat) (neg:Bool):Nat×Nat×Nat:=if neg=true then Fz hi lo else(0,hi,lo)
variable {q:Nat}
theorem OL {m:List (Nat×bP)} {b c:bP}:gF (gF m q b) q c=gF m q c:=by
 induction m with
 |nil=>rfl
 |cons x r ih=>
  obtain⟨k,v⟩:=x
  simp only[gF]
  split
  ·simp[gF, *]
  ·simp[gF, *]
def adv (k:IntKind) (n:Int):Int:=k.wrap (BitVec.ofInt k.bits (if k.signed then-1 else k.max)^^^BitVec.ofInt k.bits n).toNat
theorem abX {P:Program} {x:AX} {σ:St} {K:AV→St→Prop}:bC P (.un .xor x) σ K=(match x.ev σ.fr with
  | .c (.pure (.val (.int k n)))=>K (.c (.pure (.val (.int k (adv k n))))) σ
  |_=>False):=by
 rw[Zt]
 generalize AX.ev σ.fr x=v
 cases v with
 |c a=>
  cases a with
  |pure q=>
   cases q with
   |val u=>cases u<;>rfl
   |_=>rfl
  |_=>rfl
 |_=>rfl
attribute [go_sem ↓ high] abX
theorem L3 {n:Nat} (h:n<18446744073709551616):adv .u64 n=18446744073709551615-n:=by
 have e:BitVec.ofInt 64 (if IntKind.u64.signed=true then-1 else IntKind.u64.max)=BitVec.allOnes 64:=by decide
 show IntKind.u64.wrap ((BitVec.ofInt 64 (if IntKind.u64.signed=true then-1 else IntKind.u64.max)^^^BitVec.ofInt 64 n).toNat:Int)=_
 rw[e,BitVec.allOnes_xor,BitVec.toNat_not,BitVec.ofInt_natCast,BitVec.toNat_ofNat,Nat.mod_eq_of_lt zR5,IntKind.wrap_u64]
 omega
theorem Wt:adv .u64 0=18446744073709551615:=L3 (n:=0) zR9
variable {b a:Int}
theorem ab4 {c:Int} (h1:a=w.1) (h2:b=w.2.1) (h3:c=w.2.2):bP.var [.pure (.val (.int .u64 a)),.pure (.val (.int .u64 b)),.pure (.val (.int .u64 c))]=bW w:=by
 subst h1 h2 h3;rfl
variable {mem:List (Nat×bP)}{nx:Nat}{neg:Bool}
theorem tI (hq:ar mem q=some (bW w)) (hw:okW w) (hh:hi<18446744073709551616) (hl:lo<18446744073709551616):
  bJ Pa0 iu [.c (.ptr q 0),U hi,U lo,Go.Abs.B neg] mem nx (.tup []) (gF mem q (bW (Oo w (Jo hi lo neg).1 (Jo hi lo neg).2.1 (Jo hi lo neg).2.2))) nx:=by
 refine bJ.of I5 zR6 λ_=>aa ?_
 obtain⟨a,b,c⟩:=w
 obtain⟨h1,h2,h3⟩:=hw
 simp only at h1 h2 h3 hq
 conv in xE=>cbv
 have hf: ∀bx,ar (gF mem q bx) q=some bx:= λbx=>by rw[JE,if_pos rfl,hq];rfl
 cases neg
 ·simp only[Jo]
  repeat' first|simp(disch:=omega)only[go_sem, *,hq,hf,OL]|apply ab<;>intro h<;>try omega
  all_goals(refine congrArg (gF mem q) (ab4 ?_ ?_ ?_)<;>simp only[IntKind.wrap_u64,Oo]at* <;>(repeat' split)<;>omega)
 ·simp only[Jo]
  repeat' first|simp(disch:=omega)only[go_sem, *,hq,hf,OL,L3 hh,L3 hl,Wt]|apply ab<;>intro h<;>try omega
  all_goals(refine congrArg (gF mem q) (ab4 ?_ ?_ ?_)<;>simp only[IntKind.wrap_u64,Oo,Fz]at* <;>(repeat' split)<;>(try simp only at*)<;>omega)
set_option maxRecDepth 20000
set_option maxRecDepth 1000000
def YO (w:Nat×Nat×Nat) (s:Int):Prop:=okW w∧(N9 w:Int)=s%6277101735386680763835789423207666416102355444464034512896
theorem VH {s:Int} (h:YO w s) (hh:hi<18446744073709551616) (hl:lo<18446744073709551616):
  YO (Oo w (Jo hi lo neg).1 (Jo hi lo neg).2.1 (Jo hi lo neg).2.2) (s+(if neg=true then-((hi*18446744073709551616+lo:Nat):Int)else((hi*18446744073709551616+lo:Nat):Int))):=by
 obtain⟨h1,h2⟩:=h
 cases neg
 ·have:=SX (t:=0) h1 hh hl
  refine⟨this.2, ?_⟩
  show(N9 (Oo w 0 hi lo):Int)=_
  rw[this.1]
  simp only[Bool.false_eq_true,if_false]
  omega
 ·have n1:=Ze hh hl
  obtain⟨a,b,c⟩:=n1.2
  have:=SX (t:=(Fz hi lo).1) h1 b c
  refine⟨this.2, ?_⟩
  show(N9 (Oo w (Fz hi lo).1 (Fz hi lo).2.1 (Fz hi lo).2.2):Int)=_
  have e:(Fz hi lo).1*340282366920938463463374607431768211456+(Fz hi lo).2.1*18446744073709551616+(Fz hi lo).2.2=N9 (Fz hi lo):=rfl
  rw[this.1,e,n1.1]
  simp only[if_true]
  omega
theorem Mw {a b c:Nat} {s:Int} (h:YO (a,b,c) s) (hb: -3138550867693340381917894711603833208051177722232017256448≤s∧s<3138550867693340381917894711603833208051177722232017256448):
  ((c<9223372036854775808∧a=0∧b=0)∨(¬c<9223372036854775808∧a=18446744073709551615∧b=18446744073709551615)↔aH s)∧(aH s→IntKind.i64.wrap c=s):=by
 obtain⟨⟨h1,h2,h3⟩,h4⟩:=h
 simp only[N9]at h1 h2 h3 h4
 unfold aH
 rw[IntKind.wrap_i64]
 omega
theorem adz {c:Nat} (h:c<18446744073709551616):IntKind.u64.wrap ((IntKind.i64.wrap c).fdiv (2^min (Int.toNat 63) 64))=if c<9223372036854775808 then 0 else 18446744073709551615:=by
 have e:(2^min (Int.toNat 63) 64:Int)=9223372036854775808:=by decide
 rw[e,zN2 _ zR9,IntKind.wrap_i64,IntKind.wrap_u64]
 split<;>omega
theorem Am {s:Int} (hq:ar mem q=some (bW w)) (h:YO w s) (hb: -3138550867693340381917894711603833208051177722232017256448≤s∧s<3138550867693340381917894711603833208051177722232017256448):
  bJ Pa0 la [.c (.ptr q 0)] mem nx (.tup [I (IntKind.i64.wrap w.2.2),Go.Abs.B (uM (aH s))]) mem nx:=by
 refine bJ.of Cu zR6 λ_=>aa ?_
 obtain⟨a,b,c⟩:=w
 have hn:=(Mw h hb).1
 obtain⟨⟨h1,h2,h3⟩,_⟩:=h
 simp only at h1 h2 h3 hq
 have hs:=adz h3
 conv in rq=>cbv
 by_cases hi:aH s
 ·have hx:=hn.2 hi
  have e:uM (aH s)=true:=by simp[uM,hi]
  rw[e]
  rcases hx with⟨h4,rfl,rfl⟩|⟨h4,rfl,rfl⟩<;>(simp only[h4,if_true,if_false]at hs;repeat' first|simp(disch:=omega)only[go_sem,hq,hs]|((with_reducible refine ab ?_ ?_)<;>intro h<;>try first|omega|simp(disch:=omega)only[go_sem, *,hq,hs]);try(simp))
 ·have hx:=mt hn.1 hi
  have e:uM (aH s)=false:=by simp[uM,hi]
  rw[e]
  clear hn hi
  by_cases h4:c<9223372036854775808
  all_goals simp only[h4,if_true,if_false]at hs
  all_goals clear hb
  ·repeat' first|simp(disch:=omega)only[go_sem,hq,hs]|((with_reducible refine ab ?_ ?_)<;>intro h<;>try first|omega|simp(disch:=omega)only[go_sem, *,hq,hs])
   all_goals(refine congrArg (λz=>AV.tup [_,Go.Abs.B z]) (zA9 ?_);omega)
  ·repeat' first|simp(disch:=omega)only[go_sem,hq,hs]|((with_reducible refine ab ?_ ?_)<;>intro h<;>try first|omega|simp(disch:=omega)only[go_sem, *,hq,hs])
   all_goals(refine congrArg (λz=>AV.tup [_,Go.Abs.B z]) (zA9 ?_);omega)
theorem zJ (m b:aG):ac Pa0 uL [.agg [.pure (pS b.1),.pure (pI b.2)],.c (.cptr [pS m.1,pI m.2])] (Go.Abs.B (uM (b.1=m.1))):=by
 refine ac.of Og zR6 λhb=>aa ?_
 conv in E6=>cbv
 repeat' first|simp(disch:=omega)only[go_sem, *,eK]|apply ab<;>intro h<;>try omega
 rw[UL]
def aeD (f:FuncId) (cl:List PC) (s:ByteArray):Prop:= ∀b:aG,ac Pa0 f [.agg [.pure (pS b.1),.pure (pI b.2)],.c (.cptr cl)] (Go.Abs.B (uM (b.1=s)))
variable {s:ByteArray}
theorem eT {f:FuncId} {cl:List PC} (hf:aeD f cl s) (xs:List aG):ac Pa0 bV [bF mP xs,.c (.clo f [.cptr cl])] (I (oz (λb=>b.1=s) xs)):=by
 refine ac.of fZ zR6 λhb=>aa ?_
 have hl:=Js hb
 conv in dB=>cbv
 repeat' first|simp(disch:=omega)only[go_sem, *]|apply ab<;>intro h<;>try omega
 refine al (λk:Nat=>⟨[(0,bF mP xs),(1,.c (.clo f [.cptr cl])),(7,I xs.length),(8,I k)], [],0,0⟩) (λk=>k≤xs.length∧ct (λj=> ∀h:j<xs.length,¬xs[j].1=s) k) (λk=>xs.length-k) ⟨0, [],⟨by omega,.zero⟩,by simp⟩ ?_
 rintro k ⟨hk,g⟩
 refine aa ?_
 by_cases A:k<xs.length
 ·have HN:=Lib.hid λh=>yC (p:= λb:aG=>b.1=s) A h λj hj=>g j hj zR5
  have HA:=Lib.hid g
  clear g
  repeat' first|simp(disch:=omega)only[go_sem, *,ae A,mP,wrap_i64]|apply ab<;>intro h<;>try omega|refine ak (hf _) ?_
  ·rw[HN.out h]
  ·exact⟨k+1, [],⟨by omega,HA.out.succ λ_=>h⟩,by omega,by simp⟩
 ·have HN:=Lib.hid (qy (p:= λb:aG=>b.1=s) λj hj=>g j zR5 hj)
  clear g
  repeat' first|simp(disch:=omega)only[go_sem, *]|apply ab<;>intro h<;>try omega
  rw[HN.out]
theorem US (env:List aG) (s:ByteArray):(oz (λb:aG=>b.1=s) env= -1∧su env s=none)∨ ∃i,∃h:i<env.length,oz (λb:aG=>b.1=s) env=i∧su env s=some env[i].2:=by
 have key: ∀l:List aG,((∀x∈l,¬x.1=s)→su l s=none)∧ ∀i (h:i<l.length),l[i].1=s→(∀j (hj:j<i),¬(l[j]' zR5).1=s)→su l s=some l[i].2:=by
  intro l
  induction l with
  |nil=>exact⟨λ_=>rfl,λi h=>absurd h zR6⟩
  |cons m r ih=>
   refine⟨λh=> ?_,λi h h1 h2=> ?_⟩
   ·rw[su,if_neg (h m zC5)]
    exact ih.1 λx hx=>h x (zC3 _ hx)
   ·cases i with
    |zero=>exact if_pos h1
    |succ i=>
     rw[su,if_neg (show ¬m.1=s from h2 0 zR5)]
     exact ih.2 i zS9 h1 λj hj=>h2 (j+1) zR5
 rcases rc (λb:aG=>b.1=s) env with⟨h1,h2⟩|⟨i,hi,h1,h2,h3⟩
 ·exact .inl ⟨h1,(key env).1 h2⟩
 ·exact .inr ⟨i,hi,h1,(key env).2 i hi h2 h3⟩
theorem Vk (ha:aH a) (hb:aH b):a.natAbs*b.natAbs/18446744073709551616<18446744073709551616∧a.natAbs*b.natAbs%18446744073709551616<18446744073709551616∧a.natAbs*b.natAbs/18446744073709551616*18446744073709551616+a.natAbs*b.natAbs%18446744073709551616=a.natAbs*b.natAbs:=by
 have h1:=mY ha hb
 have h2:((a.natAbs*b.natAbs:Nat):Int)=a.natAbs*b.natAbs:=zH9 _ _
 generalize a.natAbs*b.natAbs=n at*
 omega
def NL (a b:Int):Bool:= !(decide (a<0)==decide (b<0))
theorem Yn:(if NL a b=true then-((a.natAbs*b.natAbs:Nat):Int)else((a.natAbs*b.natAbs:Nat):Int))=a*b:=by
 rw[zH9]
 by_cases ha:a<0<;>by_cases hb:b<0
 ·rw[oZ (.inl ⟨ha,hb⟩)];simp[NL,ha,hb,zG6]
 ·rw[oJ (.inl ⟨ha,hb⟩)];simp[NL,ha,hb,zG6]
 ·rw[oJ (.inr ⟨ha,hb⟩)];simp[NL,ha,hb,zG6]
 ·rw[oZ (.inr ⟨ha,hb⟩)];simp[NL,ha,hb,zG6]
theorem abW {s:Int} (h:YO w s) (ha:aH a) (hb:aH b): ∃w',Oo w (Jo (a.natAbs*b.natAbs/18446744073709551616) (a.natAbs*b.natAbs%18446744073709551616) (NL a b)).1 (Jo (a.natAbs*b.natAbs/18446744073709551616) (a.natAbs*b.natAbs%18446744073709551616) (NL a b)).2.1 (Jo (a.natAbs*b.natAbs/18446744073709551616) (a.natAbs*b.natAbs%18446744073709551616) (NL a b)).2.2=w'∧YO w' (s+a*b):=by
 obtain⟨h1,h2,h3⟩:=Vk ha hb
 refine⟨_,rfl, ?_⟩
 have:=VH (neg:=NL a b) h h1 h2
 rw[h3,Yn]at this
 exact this
theorem Gc {s:Int} (hq:ar mem q=some (bW w)) (h:YO w s) (ha:aH a) (hb:aH b):
  ∃w',YO w' (s+a*b)∧bJ Pa0 iu [.c (.ptr q 0),U (a.natAbs*b.natAbs/18446744073709551616:Nat),U (a.natAbs*b.natAbs%18446744073709551616:Nat),Go.Abs.B (NL a b)] mem nx (.tup []) (gF mem q (bW w')) nx:=by
 obtain⟨w',e,h'⟩:=abW h ha hb
 obtain⟨h1,h2,_⟩:=Vk ha hb
 exact⟨w',h',e▸tI hq h.1 h1 h2⟩
theorem Gf (hq:ar mem q=some (bW (0,0,0))) (ha:aH a):
  ∃w',YO w' a∧bJ Pa0 iu [.c (.ptr q 0),U 0,U (a.natAbs:Nat),Go.Abs.B (decide (a<0))] mem nx (.tup []) (gF mem q (bW w')) nx:=by
 have h0:YO (0,0,0) 0:=⟨by unfold okW;simp only;omega,by decide⟩
 have h1:a.natAbs<18446744073709551616:=by unfold aH at ha;omega
 have h2:=VH (hi:=0) (neg:=decide (a<0)) h0 zR9 h1
 have e:(0:Int)+(if decide (a<0)=true then-((0*18446744073709551616+a.natAbs:Nat):Int)else((0*18446744073709551616+a.natAbs:Nat):Int))=a:=by
  simp only[decide_eq_true_eq]
  split<;>omega
 rw[e]at h2
 exact⟨_,h2,tI (hi:=0) hq h0.1 zR9 h1⟩
variable {env:List aG}
theorem iM {k:Int} {l:List aG} (hk:aH k) (E: ∀m∈l,aH m.2) (F: ∀m∈env,aH m.2):ac Pa0 lQ [iK k l,bF mP env] (.tup [I (io k l env).1,I (io k l env).2]):=by
 refine ac.of R6 zR6 λhb=>aa ?_
 have hl:=vZ hb.1
 conv in LZ=>cbv
 by_cases h1:gN l
 ·have pk:=kC hk
  obtain⟨w,hw,pa⟩:=Gf (mem:= [(1,bW (0,0,0)),(0,bP.var [.pure (pI k),.pure (bQ l)])]) (nx:=2) (q:=1) rfl hk
  simp only[gF,if_true]at pa
  repeat' first|simp(disch:=omega)only[go_sem, *,h1]|apply ab<;>intro h<;>try omega|refine ak (cw _ _) ?_|refine ak pk ?_|refine bN pa ?_
  refine al (λs:Nat×(Nat×Nat×Nat)×Int=>⟨[(1,bF mP env),(6,.c (.ptr 1 0)),(26,.c (.pure (bQ l))),(27,I l.length),(28,I s.1)], [(1,bW s.2.1),(0,.var [.pure (pI k),.pure (bQ l)])],2,0⟩)
   (λs=>s.1≤l.length∧Hid (YO s.2.1 s.2.2)∧ -(9223372036854775808+s.1*85070591730234615865843651857942052864:Int)≤s.2.2∧s.2.2≤9223372036854775808+s.1*85070591730234615865843651857942052864∧Hid (s.2.2=k+qG (m0 env) (l.take s.1))∧ct (λi=> ∀h:i<l.length,su env l[i].1≠none) s.1) (λs=>l.length-s.1) ⟨(0,w,k), [],⟨zE6 _,Lib.hid hw, ?_, ?_,Lib.hid (by simp[qG]),.zero⟩,by simp⟩ ?_
  ·show-((9223372036854775808:Int)+((0:Nat):Int)*_)≤k
   unfold aH at hk
   omega
  ·show k≤(9223372036854775808:Int)+((0:Nat):Int)*_
   unfold aH at hk
   omega
  clear hw pa pk w
  rintro⟨j,w,s⟩ ⟨hj,hw,G,H,hs,g⟩
  refine aa ?_
  simp only at hj G H hs
  by_cases A:j<l.length
  ·have hm:=zA6 A
   have y:=E _ hm
   rcases US env l[j].1 with⟨hi,D⟩|⟨i,J,hi,D⟩
   ·have e:io k l env=(0,9):=by rw[io,if_neg (zA5 h1),if_pos ⟨l[j],hm,D⟩]
    rw[e]
    have pi:=eT (zJ l[j]) env
    rw[hi]at pi
    clear D hs g hw hi
    repeat' first|simp(disch:=omega)only[go_sem, *,ae A,mP]|apply ab<;>intro h<;>try omega|refine ak pi ?_
   ·have pi:=eT (zJ l[j]) env
    rw[hi]at pi
    have hv:m0 env l[j].1=env[i].2:=by rw[m0,D];rfl
    have C:=F _ (zA6 J)
    obtain⟨w',L,pa⟩:=Gc (mem:= [(2,bP.var [.pure (pS l[j].1),.pure (pI l[j].2)]),(1,bW w),(0,bP.var [.pure (pI k),.pure (bQ l)])]) (nx:=3) (q:=1) rfl hw.out y C
    have pm1:=kC y
    have pm2:=kC C
    have pp:=Im (a:=l[j].2.natAbs) (b:=env[i].2.natAbs) (by unfold aH at y;omega) (by unfold aH at C;omega)
    have bd:=mY y C
    have sg:Hid (l[j].2*env[i].2≤(l[j].2.natAbs:Int)*env[i].2.natAbs∧ -((l[j].2.natAbs:Int)*env[i].2.natAbs)≤l[j].2*env[i].2):=Lib.hid (by
     rw[←zH9,←zQ0]
     omega)
    have HS:=Lib.hid (show s+l[j].2*env[i].2=k+qG (m0 env) (l.take (j+1)) by
     have:=hs.out
     rw[tV A,hv]
     omega)
    have NX:=Lib.hid (g.succ (p:= λi=> ∀h:i<l.length,su env l[i].1≠none) λ_=>by rw[D];simp)
    have HW:=Lib.hid L
    clear hs g hw L D hi hv
    have e:gF [(2,bP.var [.pure (pS l[j].1),.pure (pI l[j].2)]),(1,bW w),(0,bP.var [.pure (pI k),.pure (bQ l)])] 1 (bW w')= [(2,bP.var [.pure (pS l[j].1),.pure (pI l[j].2)]),(1,bW w'),(0,bP.var [.pure (pI k),.pure (bQ l)])]:=rfl
    rw[e]at pa
    clear e
    repeat' first|simp(disch:=omega)only[go_sem, *,ae A,ae J,mP,wrap_i64]|apply ab<;>intro h<;>try omega|refine ak pi ?_|refine ak pm1 ?_|refine ak pm2 ?_|refine ak pp ?_|refine bN pa ?_
    have sg':=sg.out
    generalize (l[j].2.natAbs:Int)*env[i].2.natAbs=p at*
    refine⟨(j+1,w',s+l[j].2*env[i].2), [],⟨A,HW, ?_, ?_,HS,NX.out⟩,by show _-_<_-_;omega,by simp⟩
    ·show-(_+((j+1:Nat):Int)*_)≤s+_
     omega
    ·show s+_≤_+((j+1:Nat):Int)*_
     omega
  ·obtain rfl:j=l.length:=by omega
   have pn:=Am (mem:= [(1,bW w),(0,bP.var [.pure (pI k),.pure (bQ l)])]) (nx:=2) (q:=1) rfl hw.out (by simp only;omega)
   have M: ¬ ∃m∈l,su env m.1=none:= λ⟨m,hm,hx⟩=>by
    obtain⟨i,hi,rfl⟩:=List.getElem_of_mem hm
    exact g i hi hi hx
   have N:s=k+qG (m0 env) l:=by have:=hs.out;rwa [zM8]at this
   have ev:io k l env=if aH s then(s,0)else(0,3):=by rw[io,if_neg (zA5 h1),if_neg M,←N]
   obtain⟨a,b,c⟩:=w
   have hn:=(Mw hw.out (by simp only;omega)).2
   rw[ev]
   clear ev N M hs g hw G H
   by_cases hi:aH s
   ·have e1:uM (aH s)=true:=ni hi
    have e2:=hn hi
    simp only[e1,e2]at pn
    rw[if_pos hi]
    clear e2 hn hi
    exact yD8
   ·have e1:uM (aH s)=false:=kn hi
    simp only[e1]at pn
    rw[if_neg hi]
    clear hn hi
    exact yD8
 ·have e:io k l env=(0,1):=if_pos h1
  rw[e]
  repeat' first|simp(disch:=omega)only[go_sem, *,h1]|apply ab<;>intro h<;>try omega|refine ak (cw _ _) ?_
set_option maxRecDepth 20000
set_option maxRecDepth 1000000
def VU (c:MZ):Prop:=d8 c.1
def Et (p:bu):Prop:=(∀c∈p.wher,d8 c.1)∧(∀x∈p.params,∀l∈x.2.2,d8 l)∧ ∀d∈p.defs,(∀a∈d.dims++d.red,d8 a.2)∧ ∀e∈d.body.pre,∀l∈e.forms,d8 l
def iY (c:MZ) (env:List aG):Bool×Int:=
 if(io c.1.1 c.1.2 env).2≠0 then(false,(io c.1.1 c.1.2 env).2)else(decide ((io c.1.1 c.1.2 env).1=0)||(decide (0<(io c.1.1 c.1.2 env).1)&& !c.2),0)
theorem Hx {c:MZ} (y:VU c) (he: ∀m∈env,aH m.2):ac Pa0 mO [W7 c,bF mP env] (.tup [Go.Abs.B (iY c env).1,I (iY c env).2]):=by
 refine ac.of MA zR6 λ_=>aa ?_
 conv in AN=>cbv
 have pv:=fV (env:=env) y.1 y.2 he
 obtain⟨⟨k,l⟩,q⟩:=c
 unfold iY
 simp only at pv ⊢
 generalize io k l env=V at*
 obtain⟨v,e⟩:=V
 simp only at pv ⊢
 by_cases h0:e=0
 ·subst h0
  rw[if_neg zR6]
  by_cases h1:v=0
  ·subst h1
   cases q
   all_goals
    repeat' first|simp(disch:=omega)only[go_sem, *]|apply ab<;>intro h<;>try omega|refine ak pv ?_
    all_goals rfl
  ·by_cases h2:0<v
   ·cases q
    all_goals
     repeat' first|simp(disch:=omega)only[go_sem, *,h1,h2]|apply ab<;>intro h<;>try omega|refine ak pv ?_
     all_goals simp[h1,h2]
   ·cases q
    all_goals
     repeat' first|simp(disch:=omega)only[go_sem, *,h1,h2]|apply ab<;>intro h<;>try omega|refine ak pv ?_
     all_goals simp[h1,h2]
 ·rw[if_pos h0]
  repeat' first|simp(disch:=omega)only[go_sem, *,h0]|apply ab<;>intro h<;>try omega|refine ak pv ?_
  all_goals rfl
theorem xW {c:MZ} (y:VU c) (he: ∀m∈env,aH m.2):ac Pa0 f9 [W7 c,bF mP env] (.tup [Go.Abs.B (iY c env).1,I (iY c env).2]):=by
 refine ac.of Aq zR6 λ_=>aa ?_
 conv in qf=>cbv
 have pv:=iM (env:=env) y.1 y.2 he
 obtain⟨⟨k,l⟩,q⟩:=c
 unfold iY
 simp only at pv ⊢
 generalize io k l env=V at*
 obtain⟨v,e⟩:=V
 simp only at pv ⊢
 by_cases h0:e=0
 ·subst h0
  rw[if_neg zR6]
  by_cases h1:v=0
  ·subst h1
   cases q
   all_goals
    repeat' first|simp(disch:=omega)only[go_sem, *]|apply ab<;>intro h<;>try omega|refine ak pv ?_
    all_goals rfl
  ·by_cases h2:0<v
   ·cases q
    all_goals
     repeat' first|simp(disch:=omega)only[go_sem, *,h1,h2]|apply ab<;>intro h<;>try omega|refine ak pv ?_
     all_goals simp[h1,h2]
   ·cases q
    all_goals
     repeat' first|simp(disch:=omega)only[go_sem, *,h1,h2]|apply ab<;>intro h<;>try omega|refine ak pv ?_
     all_goals simp[h1,h2]
 ·rw[if_pos h0]
  repeat' first|simp(disch:=omega)only[go_sem, *,h0]|apply ab<;>intro h<;>try omega|refine ak pv ?_
  all_goals rfl
def T1 (env:List aG) (s:ByteArray):Prop:=match su env s with
 |none=>True
 |some v=>v<1∨4096<v
def Xv (env:List aG):List MZ→Int
 | []=>0
 |c::r=>if(iY c env).2≠0 then(iY c env).2 else if(iY c env).1=false then 16 else Xv env r
def CK (env:List aG) (wh:List MZ):List ByteArray→Int
 | []=>Xv env wh
 |s::r=>open Classical in if T1 env s then 15 else CK env wh r
def DY (p:bu) (env:List aG):Int:=if env.length≠p.sizes.length then 15 else CK env p.wher p.sizes
variable {j:Nat}
theorem YI {l:List MZ} {b:Bool} {e:Int} (h:j<l.length) (hr:iY l[j] env=(b,e)):Xv env (l.drop j)=if e≠0 then e else if b=false then 16 else Xv env (l.drop (j+1)):=by
 rw[zC0 h,Xv,hr]
theorem U6 {l:List MZ} (h:l.length≤j):Xv env (l.drop j)=0:=by
 rw[zF8 h,Xv]
variable {l:List ByteArray}{wh:List MZ}
theorem ED (h:j<l.length) (hb:T1 env l[j]):CK env wh (l.drop j)=15:=by
 rw[zC0 h,CK,if_pos hb]
theorem O9 (h:j<l.length) (hb: ¬T1 env l[j]):CK env wh (l.drop j)=CK env wh (l.drop (j+1)):=by
 rw[zC0 h,CK,if_neg hb]
theorem Sc (h:l.length≤j):CK env wh (l.drop j)=Xv env wh:=by
 rw[zF8 h,CK]
theorem zQ {v:Int} (h:su env s=some v):T1 env s↔v<1∨4096<v:=by
 unfold T1
 rw[h]
theorem PD (h:su env s=none):T1 env s:=by
 unfold T1
 rw[h]
 trivial
end
end Go.Proofs.YtigdjhnndaokjaaGreatDoor
