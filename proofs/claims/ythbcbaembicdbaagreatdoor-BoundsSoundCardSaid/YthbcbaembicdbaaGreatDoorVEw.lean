import Derived.Test.YthbcbaembicdbaaGreatDoorAbs28
import Derived.Test.YthbcbaembicdbaaGreatDoorV05d
import Derived.Test.YthbcbaembicdbaaGreatDoorV07b
import Derived.Test.YthbcbaembicdbaaGreatDoorV14a
set_option maxHeartbeats 4000000
set_option linter.unusedVariables false
set_option linter.unusedSimpArgs false
set_option maxRecDepth 20000
namespace Go.Proofs.YthbcbaembicdbaaGreatDoor
open Go.Abs Go.RowKit
def CA (w:Nat×Nat×Nat) (t hi lo:Nat):Nat×Nat×Nat:=
 let low:=(w.2.2+lo)%18446744073709551616
 let c:=if low<lo then 1 else 0
 let s:=(w.2.1+hi)%18446744073709551616
 let o:=if s<hi then 1 else 0
 let mid:=(s+c)%18446744073709551616
 let o2:=if mid<s then o+1 else o
 ((w.1+(t+o2)%18446744073709551616)%18446744073709551616,mid,low)
def A8 (hi lo:Nat):Nat×Nat×Nat:=
 if lo=0 then(if hi=0 then(0,0,0)else(18446744073709551615,18446744073709551616-hi,0))else(18446744073709551615,18446744073709551615-hi,18446744073709551616-lo)
def Gk (w:Nat×Nat×Nat):Nat:=w.1*340282366920938463463374607431768211456+w.2.1*18446744073709551616+w.2.2
def Yt (w:Nat×Nat×Nat):Prop:=w.1<18446744073709551616∧w.2.1<18446744073709551616∧w.2.2<18446744073709551616
theorem Mv {w:Nat×Nat×Nat} {t hi lo:Nat} (h:Yt w) (hh:hi<18446744073709551616) (hl:lo<18446744073709551616):
  Gk (CA w t hi lo)=(Gk w+(t*340282366920938463463374607431768211456+hi*18446744073709551616+lo))%6277101735386680763835789423207666416102355444464034512896∧Yt (CA w t hi lo):=by
 obtain⟨a,b,c⟩:=w
 obtain⟨h1,h2,h3⟩:=h
 simp only at h1 h2 h3
 unfold CA Gk Yt
 simp only
 have e1:(c+lo)%18446744073709551616=if c+lo<18446744073709551616 then c+lo else c+lo-18446744073709551616:=by split<;>omega
 have e2:(b+hi)%18446744073709551616=if b+hi<18446744073709551616 then b+hi else b+hi-18446744073709551616:=by split<;>omega
 rw[e1,e2]
 refine⟨?_,Nat.mod_lt _ (by decide),Nat.mod_lt _ (by decide), ?_⟩
 ·(repeat' split)<;>omega
 ·split<;>omega
theorem S8 {hi lo:Nat} (hh:hi<18446744073709551616) (hl:lo<18446744073709551616):
  Gk (A8 hi lo)=(6277101735386680763835789423207666416102355444464034512896-(hi*18446744073709551616+lo))%6277101735386680763835789423207666416102355444464034512896∧Yt (A8 hi lo):=by
 unfold A8 Gk Yt
 (repeat' split)<;>(simp only;omega)
abbrev pU (n:Nat):PC:= .val (.int .u64 n)
abbrev bW (w:Nat×Nat×Nat):aU:= .var [.pure (pU w.1),.pure (pU w.2.1),.pure (pU w.2.2)]
def DZ (hi lo:Nat) (neg:Bool):Nat×Nat×Nat:=if neg=true then A8 hi lo else(0,hi,lo)
theorem Hl {m:List (Nat×aU)} {q:Nat} {b c:aU}:cm (cm m q b) q c=cm m q c:=by
 induction m with
 |nil=>rfl
 |cons x r ih=>
  obtain⟨k,v⟩:=x
  simp only[cm]
  split
  ·simp[cm, *]
  ·simp[cm, *]
def Y3 (k:IntKind) (n:Int):Int:=k.wrap (BitVec.ofInt k.bits (if k.signed then-1 else k.max)^^^BitVec.ofInt k.bits n).toNat
theorem WD {P:Program} {x:AX} {σ:St} {K:AV→St→Prop}:bq P (.un .xor x) σ K=(match x.ev σ.fr with
  | .c (.pure (.val (.int k n)))=>K (.c (.pure (.val (.int k (Y3 k n))))) σ
  |_=>False):=by
 rw[Ta]
 generalize AX.ev σ.fr x=v
 cases v with
 |c a=>
  cases a with
  |pure q=>
   cases q with
   |val u=>cases u<;>rfl
   |_=>rfl
  |_=>rfl
 |_=>rfl
attribute [go_sem ↓ high] WD
theorem E9 {n:Nat} (h:n<18446744073709551616):Y3 .u64 n=18446744073709551615-n:=by
 have e:BitVec.ofInt 64 (if IntKind.u64.signed=true then-1 else IntKind.u64.max)=BitVec.allOnes 64:=by decide
 show IntKind.u64.wrap ((BitVec.ofInt 64 (if IntKind.u64.signed=true then-1 else IntKind.u64.max)^^^BitVec.ofInt 64 n).toNat:Int)=_
 rw[e,BitVec.allOnes_xor,BitVec.toNat_not,BitVec.ofInt_natCast,BitVec.toNat_ofNat,Nat.mod_eq_of_lt (by omega),IntKind.wrap_u64]
 omega
theorem RE:Y3 .u64 0=18446744073709551615:=E9 (n:=0) (by decide)
theorem X3 {a b c:Int} {w:Nat×Nat×Nat} (h1:a=w.1) (h2:b=w.2.1) (h3:c=w.2.2):aU.var [.pure (.val (.int .u64 a)),.pure (.val (.int .u64 b)),.pure (.val (.int .u64 c))]=bW w:=by
 subst h1 h2 h3;rfl
theorem qK {mem:List (Nat×aU)} {q nx:Nat} {w:Nat×Nat×Nat} {hi lo:Nat} {neg:Bool} (hq:al mem q=some (bW w)) (hw:Yt w) (hh:hi<18446744073709551616) (hl:lo<18446744073709551616):
  aq Tryz.prog jR [.c (.ptr q 0),U hi,U lo,Go.Abs.B neg] mem nx (.tup []) (cm mem q (bW (CA w (DZ hi lo neg).1 (DZ hi lo neg).2.1 (DZ hi lo neg).2.2))) nx:=by
 refine aq.of CE (by simp) λ_=>aa ?_
 obtain⟨a,b,c⟩:=w
 obtain⟨h1,h2,h3⟩:=hw
 simp only at h1 h2 h3 hq
 simp only[uG]
 have hf: ∀bx,al (cm mem q bx) q=some bx:= λbx=>by rw[am,if_pos rfl,hq];rfl
 cases neg
 ·simp only[DZ]
  repeat' first|simp(disch:=omega) only[go_sem, *,hq,hf,Hl]|((with_reducible apply ab)<;>intro h<;>try omega)
  all_goals(refine congrArg (cm mem q) (X3 ?_ ?_ ?_)<;>simp only[IntKind.wrap_u64,CA]at* <;>(repeat' split)<;>omega)
 ·simp only[DZ]
  repeat' first|simp(disch:=omega) only[go_sem, *,hq,hf,Hl,E9 hh,E9 hl,RE]|((with_reducible apply ab)<;>intro h<;>try omega)
  all_goals(refine congrArg (cm mem q) (X3 ?_ ?_ ?_)<;>simp only[IntKind.wrap_u64,CA,A8]at* <;>(repeat' split)<;>(try simp only at*)<;>omega)
set_option maxRecDepth 1000000
def SP (w:Nat×Nat×Nat) (s:Int):Prop:=Yt w∧(Gk w:Int)=s%6277101735386680763835789423207666416102355444464034512896
theorem ON {w:Nat×Nat×Nat} {s:Int} {hi lo:Nat} {neg:Bool} (h:SP w s) (hh:hi<18446744073709551616) (hl:lo<18446744073709551616):
  SP (CA w (DZ hi lo neg).1 (DZ hi lo neg).2.1 (DZ hi lo neg).2.2) (s+(if neg=true then-((hi*18446744073709551616+lo:Nat):Int)else((hi*18446744073709551616+lo:Nat):Int))):=by
 obtain⟨h1,h2⟩:=h
 cases neg
 ·have:=Mv (t:=0) h1 hh hl
  refine⟨this.2, ?_⟩
  show(Gk (CA w 0 hi lo):Int)=_
  rw[this.1]
  simp only[Bool.false_eq_true,if_false]
  omega
 ·have n1:=S8 hh hl
  obtain⟨a,b,c⟩:=n1.2
  have:=Mv (t:=(A8 hi lo).1) h1 b c
  refine⟨this.2, ?_⟩
  show(Gk (CA w (A8 hi lo).1 (A8 hi lo).2.1 (A8 hi lo).2.2):Int)=_
  have e:(A8 hi lo).1*340282366920938463463374607431768211456+(A8 hi lo).2.1*18446744073709551616+(A8 hi lo).2.2=Gk (A8 hi lo):=rfl
  rw[this.1,e,n1.1]
  simp only[if_true]
  omega
theorem EQ {a b c:Nat} {s:Int} (h:SP (a,b,c) s) (hb: -3138550867693340381917894711603833208051177722232017256448≤s∧s<3138550867693340381917894711603833208051177722232017256448):
  ((c<9223372036854775808∧a=0∧b=0)∨(¬c<9223372036854775808∧a=18446744073709551615∧b=18446744073709551615)↔ar s)∧(ar s→IntKind.i64.wrap c=s):=by
 obtain⟨⟨h1,h2,h3⟩,h4⟩:=h
 simp only[Gk]at h1 h2 h3 h4
 unfold ar
 rw[IntKind.wrap_i64]
 omega
theorem YZ {c:Nat} (h:c<18446744073709551616):IntKind.u64.wrap ((IntKind.i64.wrap c).fdiv (2^min (Int.toNat 63) 64))=if c<9223372036854775808 then 0 else 18446744073709551615:=by
 have e:(2^min (Int.toNat 63) 64:Int)=9223372036854775808:=by decide
 rw[e,Int.fdiv_eq_ediv_of_nonneg _ (by decide),IntKind.wrap_i64,IntKind.wrap_u64]
 split<;>omega
theorem wC {mem:List (Nat×aU)} {q nx:Nat} {w:Nat×Nat×Nat} {s:Int} (hq:al mem q=some (bW w)) (h:SP w s) (hb: -3138550867693340381917894711603833208051177722232017256448≤s∧s<3138550867693340381917894711603833208051177722232017256448):
  aq Tryz.prog oK [.c (.ptr q 0)] mem nx (.tup [I (IntKind.i64.wrap w.2.2),Go.Abs.B (re (ar s))]) mem nx:=by
 refine aq.of yg (by simp) λ_=>aa ?_
 obtain⟨a,b,c⟩:=w
 have hn:=(EQ h hb).1
 obtain⟨⟨h1,h2,h3⟩,_⟩:=h
 simp only at h1 h2 h3 hq
 have hs:=YZ h3
 simp only[oR]
 by_cases hi:ar s
 ·have hx:=hn.2 hi
  have e:re (ar s)=true:=by simp[re,hi]
  rw[e]
  rcases hx with⟨h4,rfl,rfl⟩|⟨h4,rfl,rfl⟩<;>(simp only[h4,if_true,if_false]at hs;repeat' first|simp(disch:=omega) only[go_sem,hq,hs]|((with_reducible refine ab ?_ ?_)<;>intro h<;>try first|omega|simp(disch:=omega) only[go_sem, *,hq,hs]);try(simp))
 ·have hx:=mt hn.1 hi
  have e:re (ar s)=false:=by simp[re,hi]
  rw[e]
  clear hn hi
  by_cases h4:c<9223372036854775808
  all_goals simp only[h4,if_true,if_false]at hs
  all_goals clear hb
  ·repeat' first|simp(disch:=omega) only[go_sem,hq,hs]|((with_reducible refine ab ?_ ?_)<;>intro h<;>try first|omega|simp(disch:=omega) only[go_sem, *,hq,hs])
   all_goals(refine congrArg (λz=>AV.tup [_,Go.Abs.B z]) (decide_eq_false ?_);omega)
  ·repeat' first|simp(disch:=omega) only[go_sem,hq,hs]|((with_reducible refine ab ?_ ?_)<;>intro h<;>try first|omega|simp(disch:=omega) only[go_sem, *,hq,hs])
   all_goals(refine congrArg (λz=>AV.tup [_,Go.Abs.B z]) (decide_eq_false ?_);omega)
theorem tE (m b:aD):af Tryz.prog zT [.agg [.pure (pS b.1),.pure (pI b.2)],.c (.cptr [pS m.1,pI m.2])] (Go.Abs.B (re (b.1=m.1))):=by
 refine af.of Gw (by simp) λhb=>aa ?_
 simp only[yZ]
 repeat' first|simp(disch:=omega) only[go_sem, *,ry]|((with_reducible apply ab)<;>intro h<;>try omega)
 rw[Vs]
def aaE (f:FuncId) (cl:List PC) (s:ByteArray):Prop:= ∀b:aD,af Tryz.prog f [.agg [.pure (pS b.1),.pure (pI b.2)],.c (.cptr cl)] (Go.Abs.B (re (b.1=s)))
theorem eA {f:FuncId} {cl:List PC} {s:ByteArray} (hf:aaE f cl s) (xs:List aD):af Tryz.prog dn [gG mP xs,.c (.clo f [.cptr cl])] (I (ny (λb=>b.1=s) xs)):=by
 refine af.of fm (by simp) λhb=>aa ?_
 have hl:=N3 hb
 simp only[dk]
 repeat' first|simp(disch:=omega) only[go_sem, *]|((with_reducible apply ab)<;>intro h<;>try omega)
 refine ap (λk:Nat=>⟨[(0,gG mP xs),(1,.c (.clo f [.cptr cl])),(7,I xs.length),(8,I k)], [],0,0⟩) (λk=>k≤xs.length∧fY (λj=> ∀h:j<xs.length,¬xs[j].1=s) k) (λk=>xs.length-k) ⟨0, [],⟨by omega,.zero⟩,by simp⟩ ?_
 rintro k ⟨hk,hall⟩
 refine aa ?_
 by_cases hlt:k<xs.length
 ·have HN:=Lib.hid λh=>yS (p:= λb:aD=>b.1=s) hlt h λj hj=>hall j hj (by omega)
  have HA:=Lib.hid hall
  clear hall
  repeat' first|simp(disch:=omega) only[go_sem, *,ai hlt,mP,wrap_i64]|((with_reducible apply ab)<;>intro h<;>try omega)|(refine aY (hf _) rfl rfl ?_)
  ·rw[HN.out h]
  ·exact⟨k+1, [],⟨by omega,HA.out.succ λ_=>h⟩,by omega,by simp⟩
 ·have HN:=Lib.hid (rf (p:= λb:aD=>b.1=s) λj hj=>hall j (by omega) hj)
  clear hall
  repeat' first|simp(disch:=omega) only[go_sem, *]|((with_reducible apply ab)<;>intro h<;>try omega)
  rw[HN.out]
theorem OY (env:List aD) (s:ByteArray):(ny (λb:aD=>b.1=s) env= -1∧CF env s=none)∨ ∃i,∃h:i<env.length,ny (λb:aD=>b.1=s) env=i∧CF env s=some env[i].2:=by
 have key: ∀l:List aD,((∀x∈l,¬x.1=s)→CF l s=none)∧ ∀i (h:i<l.length),l[i].1=s→(∀j (hj:j<i),¬(l[j]'(by omega)).1=s)→CF l s=some l[i].2:=by
  intro l
  induction l with
  |nil=>exact⟨λ_=>rfl,λi h=>absurd h (by simp)⟩
  |cons m r ih=>
   refine⟨λh=> ?_,λi h h1 h2=> ?_⟩
   ·rw[CF,if_neg (h m List.mem_cons_self)]
    exact ih.1 λx hx=>h x (List.mem_cons_of_mem _ hx)
   ·cases i with
    |zero=>exact if_pos h1
    |succ i=>
     rw[CF,if_neg (show ¬m.1=s from h2 0 (by omega))]
     exact ih.2 i (by simpa using h) h1 λj hj=>h2 (j+1) (by omega)
 rcases vK (λb:aD=>b.1=s) env with⟨h1,h2⟩|⟨i,hi,h1,h2,h3⟩
 ·exact .inl ⟨h1,(key env).1 h2⟩
 ·exact .inr ⟨i,hi,h1,(key env).2 i hi h2 h3⟩
theorem Po {a b:Int} (ha:ar a) (hb:ar b):a.natAbs*b.natAbs/18446744073709551616<18446744073709551616∧a.natAbs*b.natAbs%18446744073709551616<18446744073709551616∧a.natAbs*b.natAbs/18446744073709551616*18446744073709551616+a.natAbs*b.natAbs%18446744073709551616=a.natAbs*b.natAbs:=by
 have h1:=xr ha hb
 have h2:((a.natAbs*b.natAbs:Nat):Int)=a.natAbs*b.natAbs:=Int.natCast_mul _ _
 generalize a.natAbs*b.natAbs=n at*
 omega
def Ge (a b:Int):Bool:= !(decide (a<0)==decide (b<0))
theorem TX {a b:Int}:(if Ge a b=true then-((a.natAbs*b.natAbs:Nat):Int)else((a.natAbs*b.natAbs:Nat):Int))=a*b:=by
 rw[Int.natCast_mul]
 by_cases ha:a<0<;>by_cases hb:b<0
 ·rw[zp (.inl ⟨ha,hb⟩)];simp[Ge,ha,hb,Int.mul_comm]
 ·rw[yB (.inl ⟨ha,hb⟩)];simp[Ge,ha,hb,Int.mul_comm]
 ·rw[yB (.inr ⟨ha,hb⟩)];simp[Ge,ha,hb,Int.mul_comm]
 ·rw[zp (.inr ⟨ha,hb⟩)];simp[Ge,ha,hb,Int.mul_comm]
theorem Xn {w:Nat×Nat×Nat} {s a b:Int} (h:SP w s) (ha:ar a) (hb:ar b): ∃w',CA w (DZ (a.natAbs*b.natAbs/18446744073709551616) (a.natAbs*b.natAbs%18446744073709551616) (Ge a b)).1 (DZ (a.natAbs*b.natAbs/18446744073709551616) (a.natAbs*b.natAbs%18446744073709551616) (Ge a b)).2.1 (DZ (a.natAbs*b.natAbs/18446744073709551616) (a.natAbs*b.natAbs%18446744073709551616) (Ge a b)).2.2=w'∧SP w' (s+a*b):=by
 obtain⟨h1,h2,h3⟩:=Po ha hb
 refine⟨_,rfl, ?_⟩
 have:=ON (neg:=Ge a b) h h1 h2
 rw[h3,TX]at this
 exact this
theorem Ai {mem:List (Nat×aU)} {q nx:Nat} {w:Nat×Nat×Nat} {s a b:Int} (hq:al mem q=some (bW w)) (h:SP w s) (ha:ar a) (hb:ar b):
  ∃w',SP w' (s+a*b)∧aq Tryz.prog jR [.c (.ptr q 0),U (a.natAbs*b.natAbs/18446744073709551616:Nat),U (a.natAbs*b.natAbs%18446744073709551616:Nat),Go.Abs.B (Ge a b)] mem nx (.tup []) (cm mem q (bW w')) nx:=by
 obtain⟨w',e,h'⟩:=Xn h ha hb
 obtain⟨h1,h2,_⟩:=Po ha hb
 exact⟨w',h',e▸qK hq h.1 h1 h2⟩
theorem Ap {mem:List (Nat×aU)} {q nx:Nat} {a:Int} (hq:al mem q=some (bW (0,0,0))) (ha:ar a):
  ∃w',SP w' a∧aq Tryz.prog jR [.c (.ptr q 0),U 0,U (a.natAbs:Nat),Go.Abs.B (decide (a<0))] mem nx (.tup []) (cm mem q (bW w')) nx:=by
 have h0:SP (0,0,0) 0:=⟨by unfold Yt;simp only;omega,by decide⟩
 have h1:a.natAbs<18446744073709551616:=by unfold ar at ha;omega
 have h2:=ON (hi:=0) (neg:=decide (a<0)) h0 (by decide) h1
 have e:(0:Int)+(if decide (a<0)=true then-((0*18446744073709551616+a.natAbs:Nat):Int)else((0*18446744073709551616+a.natAbs:Nat):Int))=a:=by
  simp only[decide_eq_true_eq]
  split<;>omega
 rw[e]at h2
 exact⟨_,h2,qK (hi:=0) hq h0.1 (by decide) h1⟩
theorem zH {k:Int} {l env:List aD} (hk:ar k) (hl64: ∀m∈l,ar m.2) (he64: ∀m∈env,ar m.2):af Tryz.prog yk [dR k l,gG mP env] (.tup [I (x9 k l env).1,I (x9 k l env).2]):=by
 refine af.of J3 (by simp) λhb=>aa ?_
 have hl:=vT hb.1
 conv in Dn=>cbv
 by_cases h1:bn l
 ·have pk:=eR hk
  obtain⟨w,hw,pa⟩:=Ap (mem:= [(1,bW (0,0,0)),(0,aU.var [.pure (pI k),.pure (aw l)])]) (nx:=2) (q:=1) rfl hk
  simp only[cm,if_true]at pa
  repeat' first|simp(disch:=omega) only[go_sem, *,h1]|((with_reducible apply ab)<;>intro h<;>try omega)|(refine aY (bG _ _) rfl rfl ?_)|(refine aY pk rfl rfl ?_)|(refine an pa ?_)
  refine ap (λs:Nat×(Nat×Nat×Nat)×Int=>⟨[(1,gG mP env),(6,.c (.ptr 1 0)),(26,.c (.pure (aw l))),(27,I l.length),(28,I s.1)], [(1,bW s.2.1),(0,.var [.pure (pI k),.pure (aw l)])],2,0⟩)
   (λs=>s.1≤l.length∧Hid (SP s.2.1 s.2.2)∧ -(9223372036854775808+s.1*85070591730234615865843651857942052864:Int)≤s.2.2∧s.2.2≤9223372036854775808+s.1*85070591730234615865843651857942052864∧Hid (s.2.2=k+uy (f6 env) (l.take s.1))∧fY (λi=> ∀h:i<l.length,CF env l[i].1≠none) s.1) (λs=>l.length-s.1) ⟨(0,w,k), [],⟨Nat.zero_le _,Lib.hid hw, ?_, ?_,Lib.hid (by simp[uy]),.zero⟩,by simp⟩ ?_
  ·show-((9223372036854775808:Int)+((0:Nat):Int)*_)≤k
   unfold ar at hk
   omega
  ·show k≤(9223372036854775808:Int)+((0:Nat):Int)*_
   unfold ar at hk
   omega
  clear hw pa pk w
  rintro⟨j,w,s⟩ ⟨hj,hw,hs1,hs2,hs,hall⟩
  refine aa ?_
  simp only at hj hs1 hs2 hs
  by_cases hlt:j<l.length
  ·have hm:=List.getElem_mem hlt
   have h64:=hl64 _ hm
   rcases OY env l[j].1 with⟨hi,hb1⟩|⟨i,hi0,hi,hb1⟩
   ·have e:x9 k l env=(0,9):=by rw[x9,if_neg (not_not_intro h1),if_pos ⟨l[j],hm,hb1⟩]
    rw[e]
    have pi:=eA (tE l[j]) env
    rw[hi]at pi
    clear hb1 hs hall hw hi
    repeat' first|simp(disch:=omega) only[go_sem, *,ai hlt,mP]|((with_reducible apply ab)<;>intro h<;>try omega)|(refine aY pi rfl rfl ?_)
   ·have pi:=eA (tE l[j]) env
    rw[hi]at pi
    have hv:f6 env l[j].1=env[i].2:=by rw[f6,hb1];rfl
    have hx64:=he64 _ (List.getElem_mem hi0)
    obtain⟨w',hw',pa⟩:=Ai (mem:= [(2,aU.var [.pure (pS l[j].1),.pure (pI l[j].2)]),(1,bW w),(0,aU.var [.pure (pI k),.pure (aw l)])]) (nx:=3) (q:=1) rfl hw.out h64 hx64
    have pm1:=eR h64
    have pm2:=eR hx64
    have pp:=sw (a:=l[j].2.natAbs) (b:=env[i].2.natAbs) (by unfold ar at h64;omega) (by unfold ar at hx64;omega)
    have bd:=xr h64 hx64
    have sg:Hid (l[j].2*env[i].2≤(l[j].2.natAbs:Int)*env[i].2.natAbs∧ -((l[j].2.natAbs:Int)*env[i].2.natAbs)≤l[j].2*env[i].2):=Lib.hid (by
     rw[←Int.natCast_mul,←Int.natAbs_mul]
     omega)
    have HS:=Lib.hid (show s+l[j].2*env[i].2=k+uy (f6 env) (l.take (j+1)) by
     have:=hs.out
     rw[Qy hlt,hv]
     omega)
    have NX:=Lib.hid (hall.succ (p:= λi=> ∀h:i<l.length,CF env l[i].1≠none) λ_=>by rw[hb1];simp)
    have HW:=Lib.hid hw'
    clear hs hall hw hw' hb1 hi hv
    have e:cm [(2,aU.var [.pure (pS l[j].1),.pure (pI l[j].2)]),(1,bW w),(0,aU.var [.pure (pI k),.pure (aw l)])] 1 (bW w')= [(2,aU.var [.pure (pS l[j].1),.pure (pI l[j].2)]),(1,bW w'),(0,aU.var [.pure (pI k),.pure (aw l)])]:=rfl
    rw[e]at pa
    clear e
    repeat' first|simp(disch:=omega) only[go_sem, *,ai hlt,ai hi0,mP,wrap_i64]|((with_reducible apply ab)<;>intro h<;>try omega)|(refine aY pi rfl rfl ?_)|(refine aY pm1 rfl rfl ?_)|(refine aY pm2 rfl rfl ?_)|(refine aY pp rfl rfl ?_)|(refine an pa ?_)
    have sg':=sg.out
    generalize (l[j].2.natAbs:Int)*env[i].2.natAbs=p at*
    refine⟨(j+1,w',s+l[j].2*env[i].2), [],⟨hlt,HW, ?_, ?_,HS,NX.out⟩,by show _-_<_-_;omega,by simp⟩
    ·show-(_+((j+1:Nat):Int)*_)≤s+_
     omega
    ·show s+_≤_+((j+1:Nat):Int)*_
     omega
  ·obtain rfl:j=l.length:=by omega
   have pn:=wC (mem:= [(1,bW w),(0,aU.var [.pure (pI k),.pure (aw l)])]) (nx:=2) (q:=1) rfl hw.out (by simp only;omega)
   have hno: ¬ ∃m∈l,CF env m.1=none:= λ⟨m,hm,hx⟩=>by
    obtain⟨i,hi,rfl⟩:=List.getElem_of_mem hm
    exact hall i hi hi hx
   have hs':s=k+uy (f6 env) l:=by have:=hs.out;rwa [List.take_length]at this
   have ev:x9 k l env=if ar s then(s,0)else(0,3):=by rw[x9,if_neg (not_not_intro h1),if_neg hno,←hs']
   obtain⟨a,b,c⟩:=w
   have hn:=(EQ hw.out (by simp only;omega)).2
   rw[ev]
   clear ev hs' hno hs hall hw hs1 hs2
   by_cases hi:ar s
   ·have e1:re (ar s)=true:=lV hi
    have e2:=hn hi
    simp only[e1,e2]at pn
    rw[if_pos hi]
    clear e2 hn hi
    repeat' first|simp(disch:=omega) only[go_sem, *]|((with_reducible apply ab)<;>intro h<;>try omega)|(refine an pn ?_)
   ·have e1:re (ar s)=false:=jd hi
    simp only[e1]at pn
    rw[if_neg hi]
    clear hn hi
    repeat' first|simp(disch:=omega) only[go_sem, *]|((with_reducible apply ab)<;>intro h<;>try omega)|(refine an pn ?_)
 ·have e:x9 k l env=(0,1):=if_pos h1
  rw[e]
  repeat' first|simp(disch:=omega) only[go_sem, *,h1]|((with_reducible apply ab)<;>intro h<;>try omega)|(refine aY (bG _ _) rfl rfl ?_)
end Go.Proofs.YthbcbaembicdbaaGreatDoor
