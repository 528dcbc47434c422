import Derived.Test.YtjhkikmonejkjaaGreatDoorLift
import Derived.Test.YtjhkikmonejkjaaGreatDoorV05d
import Derived.Test.YtjhkikmonejkjaaGreatDoorV07b
import Derived.Test.YtjhkikmonejkjaaGreatDoorV14b
set_option linter.unusedVariables false
set_option linter.unusedSimpArgs false
set_option maxRecDepth 20000
open Go.Proofs.Tryz renaming prog→Ya
namespace Go.Proofs.YtjhkikmonejkjaaGreatDoor
open Go.Abs Go.RowKit
noncomputable section
def Fp (w:Nat×Nat×Nat) (t hi lo:Nat):Nat×Nat×Nat:=
 let low:=(w.2.2+lo)%18446744073709551616
 let c:=if low<lo then 1 else 0
 let s:=(w.2.1+hi)%18446744073709551616
 let o:=if s<hi then 1 else 0
 let mid:=(s+c)%18446744073709551616
 let o2:=if mid<s then o+1 else o
 ((w.1+(t+o2)%18446744073709551616)%18446744073709551616,mid,low)
def zN (hi lo:Nat):Nat×Nat×Nat:=
 if lo=0 then(if hi=0 then(0,0,0)else(18446744073709551615,18446744073709551616-hi,0))else(18446744073709551615,18446744073709551615-hi,18446744073709551616-lo)
def Fv (w:Nat×Nat×Nat):Nat:=w.1*340282366920938463463374607431768211456+w.2.1*18446744073709551616+w.2.2
def SC (w:Nat×Nat×Nat):Prop:=w.1<18446744073709551616∧w.2.1<18446744073709551616∧w.2.2<18446744073709551616
theorem Kp {w:Nat×Nat×Nat} {t hi lo:Nat} (h:SC w) (hh:hi<18446744073709551616) (hl:lo<18446744073709551616):
  Fv (Fp w t hi lo)=(Fv w+(t*340282366920938463463374607431768211456+hi*18446744073709551616+lo))%6277101735386680763835789423207666416102355444464034512896∧SC (Fp w t hi lo):=by
 obtain⟨a,b,c⟩:=w
 obtain⟨h1,h2,h3⟩:=h
 simp only at h1 h2 h3
 unfold Fp Fv SC
 simp only
 have e1:(c+lo)%18446744073709551616=if c+lo<18446744073709551616 then c+lo else c+lo-18446744073709551616:=by split<;>omega
 have e2:(b+hi)%18446744073709551616=if b+hi<18446744073709551616 then b+hi else b+hi-18446744073709551616:=by split<;>omega
 rw[e1,e2]
 refine⟨?_,Nat.mod_lt _ (by decide),Nat.mod_lt _ (by decide), ?_⟩
 ·(repeat' split)<;>omega
 ·split<;>omega
theorem O5 {hi lo:Nat} (hh:hi<18446744073709551616) (hl:lo<18446744073709551616):
  Fv (zN hi lo)=(6277101735386680763835789423207666416102355444464034512896-(hi*18446744073709551616+lo))%6277101735386680763835789423207666416102355444464034512896∧SC (zN hi lo):=by
 unfold zN Fv SC
 (repeat' split)<;>(simp only;omega)
abbrev pU (n:Nat):PC:= .val (.int .u64 n)
abbrev bW (w:Nat×Nat×Nat):bm:= .var [.pure (pU w.1),.pure (pU w.2.1),.pure (pU w.2.2)]
def CQ (hi lo:Nat) (neg:Bool):Nat×Nat×Nat:=if neg=true then zN hi lo else(0,hi,lo)
theorem GL {m:List (Nat×bm)} {q:Nat} {b c:bm}:dG (dG m q b) q c=dG m q c:=by
 induction m with
 |nil=>rfl
 |cons x r ih=>
  obtain⟨k,v⟩:=x
  simp only[dG]
  split
  ·simp[dG, *]
  ·simp[dG, *]
def TR (k:IntKind) (n:Int):Int:=k.wrap (BitVec.ofInt k.bits (if k.signed then-1 else k.max)^^^BitVec.ofInt k.bits n).toNat
theorem Rf {P:Program} {x:AX} {σ:St} {K:AV→St→Prop}:bh P (.un .xor x) σ K=(match x.ev σ.fr with
  | .c (.pure (.val (.int k n)))=>K (.c (.pure (.val (.int k (TR k n))))) σ
  |_=>False):=by
 rw[Ot]
 generalize AX.ev σ.fr x=v
 cases v with
 |c a=>
  cases a with
  |pure q=>
   cases q with
   |val u=>cases u<;>rfl
   |_=>rfl
  |_=>rfl
 |_=>rfl
attribute [go_sem ↓ high] Rf
theorem BZ {n:Nat} (h:n<18446744073709551616):TR .u64 n=18446744073709551615-n:=by
 have e:BitVec.ofInt 64 (if IntKind.u64.signed=true then-1 else IntKind.u64.max)=BitVec.allOnes 64:=by decide
 show IntKind.u64.wrap ((BitVec.ofInt 64 (if IntKind.u64.signed=true then-1 else IntKind.u64.max)^^^BitVec.ofInt 64 n).toNat:Int)=_
 rw[e,BitVec.allOnes_xor,BitVec.toNat_not,BitVec.ofInt_natCast,BitVec.toNat_ofNat,Nat.mod_eq_of_lt (by omega),IntKind.wrap_u64]
 omega
theorem Nm:TR .u64 0=18446744073709551615:=BZ (n:=0) (by decide)
theorem SM {a b c:Int} {w:Nat×Nat×Nat} (h1:a=w.1) (h2:b=w.2.1) (h3:c=w.2.2):bm.var [.pure (.val (.int .u64 a)),.pure (.val (.int .u64 b)),.pure (.val (.int .u64 c))]=bW w:=by
 subst h1 h2 h3;rfl
set_option maxHeartbeats 4000000 in
theorem om {mem:List (Nat×bm)} {q nx:Nat} {w:Nat×Nat×Nat} {hi lo:Nat} {neg:Bool} (hq:am mem q=some (bW w)) (hw:SC w) (hh:hi<18446744073709551616) (hl:lo<18446744073709551616):
  bb Ya iJ [.c (.ptr q 0),U hi,U lo,Go.Abs.B neg] mem nx (.tup []) (dG mem q (bW (Fp w (CQ hi lo neg).1 (CQ hi lo neg).2.1 (CQ hi lo neg).2.2))) nx:=by
 refine bb.of Bj (by simp) λ_=>aa ?_
 obtain⟨a,b,c⟩:=w
 obtain⟨h1,h2,h3⟩:=hw
 simp only at h1 h2 h3 hq
 simp only[rz]
 have hf: ∀bx,am (dG mem q bx) q=some bx:= λbx=>by rw[dp,if_pos rfl,hq];rfl
 cases neg
 ·simp only[CQ]
  repeat' first|simp(disch:=omega)only[go_sem, *,hq,hf,GL]|apply ab<;>intro h<;>try omega
  all_goals(refine congrArg (dG mem q) (SM ?_ ?_ ?_)<;>simp only[IntKind.wrap_u64,Fp]at* <;>(repeat' split)<;>omega)
 ·simp only[CQ]
  repeat' first|simp(disch:=omega)only[go_sem, *,hq,hf,GL,BZ hh,BZ hl,Nm]|apply ab<;>intro h<;>try omega
  all_goals(refine congrArg (dG mem q) (SM ?_ ?_ ?_)<;>simp only[IntKind.wrap_u64,Fp,zN]at* <;>(repeat' split)<;>(try simp only at*)<;>omega)
def Pk (w:Nat×Nat×Nat) (s:Int):Prop:=SC w∧(Fv w:Int)=s%6277101735386680763835789423207666416102355444464034512896
theorem Mu {w:Nat×Nat×Nat} {s:Int} {hi lo:Nat} {neg:Bool} (h:Pk w s) (hh:hi<18446744073709551616) (hl:lo<18446744073709551616):
  Pk (Fp w (CQ hi lo neg).1 (CQ hi lo neg).2.1 (CQ hi lo neg).2.2) (s+(if neg=true then-((hi*18446744073709551616+lo:Nat):Int)else((hi*18446744073709551616+lo:Nat):Int))):=by
 obtain⟨h1,h2⟩:=h
 cases neg
 ·have:=Kp (t:=0) h1 hh hl
  refine⟨this.2, ?_⟩
  show(Fv (Fp w 0 hi lo):Int)=_
  rw[this.1]
  simp only[Bool.false_eq_true,if_false]
  omega
 ·have n1:=O5 hh hl
  obtain⟨a,b,c⟩:=n1.2
  have:=Kp (t:=(zN hi lo).1) h1 b c
  refine⟨this.2, ?_⟩
  show(Fv (Fp w (zN hi lo).1 (zN hi lo).2.1 (zN hi lo).2.2):Int)=_
  have e:(zN hi lo).1*340282366920938463463374607431768211456+(zN hi lo).2.1*18446744073709551616+(zN hi lo).2.2=Fv (zN hi lo):=rfl
  rw[this.1,e,n1.1]
  simp only[if_true]
  omega
theorem Eh {a b c:Nat} {s:Int} (h:Pk (a,b,c) s) (hb: -3138550867693340381917894711603833208051177722232017256448≤s∧s<3138550867693340381917894711603833208051177722232017256448):
  ((c<9223372036854775808∧a=0∧b=0)∨(¬c<9223372036854775808∧a=18446744073709551615∧b=18446744073709551615)↔aX s)∧(aX s→IntKind.i64.wrap c=s):=by
 obtain⟨⟨h1,h2,h3⟩,h4⟩:=h
 simp only[Fv]at h1 h2 h3 h4
 unfold aX
 rw[IntKind.wrap_i64]
 omega
theorem Tl {c:Nat} (h:c<18446744073709551616):IntKind.u64.wrap ((IntKind.i64.wrap c).fdiv (2^min (Int.toNat 63) 64))=if c<9223372036854775808 then 0 else 18446744073709551615:=by
 have e:(2^min (Int.toNat 63) 64:Int)=9223372036854775808:=by decide
 rw[e,Int.fdiv_eq_ediv_of_nonneg _ (by decide),IntKind.wrap_i64,IntKind.wrap_u64]
 split<;>omega
theorem ug {mem:List (Nat×bm)} {q nx:Nat} {w:Nat×Nat×Nat} {s:Int} (hq:am mem q=some (bW w)) (h:Pk w s) (hb: -3138550867693340381917894711603833208051177722232017256448≤s∧s<3138550867693340381917894711603833208051177722232017256448):
  bb Ya nf [.c (.ptr q 0)] mem nx (.tup [I (IntKind.i64.wrap w.2.2),Go.Abs.B (ni (aX s))]) mem nx:=by
 refine bb.of vU (by simp) λ_=>aa ?_
 obtain⟨a,b,c⟩:=w
 have hn:=(Eh h hb).1
 obtain⟨⟨h1,h2,h3⟩,_⟩:=h
 simp only at h1 h2 h3 hq
 have hs:=Tl h3
 simp only[mL]
 by_cases hi:aX s
 ·have hx:=hn.2 hi
  have e:ni (aX s)=true:=by simp[ni,hi]
  rw[e]
  rcases hx with⟨h4,rfl,rfl⟩|⟨h4,rfl,rfl⟩<;>(simp only[h4,if_true,if_false]at hs;repeat' first|simp(disch:=omega)only[go_sem,hq,hs]|((with_reducible refine ab ?_ ?_)<;>intro h<;>try first|omega|simp(disch:=omega)only[go_sem, *,hq,hs]);try(simp))
 ·have hx:=mt hn.1 hi
  have e:ni (aX s)=false:=by simp[ni,hi]
  rw[e]
  clear hn hi
  by_cases h4:c<9223372036854775808
  all_goals simp only[h4,if_true,if_false]at hs
  all_goals clear hb
  ·repeat' first|simp(disch:=omega)only[go_sem,hq,hs]|((with_reducible refine ab ?_ ?_)<;>intro h<;>try first|omega|simp(disch:=omega)only[go_sem, *,hq,hs])
   all_goals(refine congrArg (λz=>AV.tup [_,Go.Abs.B z]) (decide_eq_false ?_);omega)
  ·repeat' first|simp(disch:=omega)only[go_sem,hq,hs]|((with_reducible refine ab ?_ ?_)<;>intro h<;>try first|omega|simp(disch:=omega)only[go_sem, *,hq,hs])
   all_goals(refine congrArg (λz=>AV.tup [_,Go.Abs.B z]) (decide_eq_false ?_);omega)
theorem rT (m b:aH):af Ya wS [.agg [.pure (pS b.1),.pure (pI b.2)],.c (.cptr [pS m.1,pI m.2])] (Go.Abs.B (ni (b.1=m.1))):=by
 refine af.of EE (by simp) λhb=>aa ?_
 simp only[yx]
 repeat' first|simp(disch:=omega)only[go_sem, *,aj]|apply ab<;>intro h<;>try omega
 rw[Lc]
def VA (f:FuncId) (cl:List PC) (s:ByteArray):Prop:= ∀b:aH,af Ya f [.agg [.pure (pS b.1),.pure (pI b.2)],.c (.cptr cl)] (Go.Abs.B (ni (b.1=s)))
theorem dS {f:FuncId} {cl:List PC} {s:ByteArray} (hf:VA f cl s) (xs:List aH):af Ya ck [bZ mP xs,.c (.clo f [.cptr cl])] (I (iY (λb=>b.1=s) xs)):=by
 refine af.of eH (by simp) λhb=>aa ?_
 have hl:=iQ hb
 simp only[cq]
 repeat' first|simp(disch:=omega)only[go_sem, *]|apply ab<;>intro h<;>try omega
 refine ai (λk:Nat=>⟨[(0,bZ mP xs),(1,.c (.clo f [.cptr cl])),(7,I xs.length),(8,I k)], [],0,0⟩) (λk=>k≤xs.length∧bI (λj=> ∀h:j<xs.length,¬xs[j].1=s) k) (λk=>xs.length-k) ⟨0, [],⟨by omega,.zero⟩,by simp⟩ ?_
 rintro k ⟨hk,g⟩
 refine aa ?_
 by_cases A:k<xs.length
 ·have HN:=Lib.hid λh=>lv (p:= λb:aH=>b.1=s) A h λj hj=>g j hj (by omega)
  have HA:=Lib.hid g
  clear g
  repeat' first|simp(disch:=omega)only[go_sem, *,ac A,mP,wrap_i64]|apply ab<;>intro h<;>try omega|refine av (hf _) rfl rfl ?_
  ·rw[HN.out h]
  ·exact⟨k+1, [],⟨by omega,HA.out.succ λ_=>h⟩,by omega,by simp⟩
 ·have HN:=Lib.hid (gK (p:= λb:aH=>b.1=s) λj hj=>g j (by omega) hj)
  clear g
  repeat' first|simp(disch:=omega)only[go_sem, *]|apply ab<;>intro h<;>try omega
  rw[HN.out]
theorem My (env:List aH) (s:ByteArray):(iY (λb:aH=>b.1=s) env= -1∧lz env s=none)∨ ∃i,∃h:i<env.length,iY (λb:aH=>b.1=s) env=i∧lz env s=some env[i].2:=by
 have key: ∀l:List aH,((∀x∈l,¬x.1=s)→lz l s=none)∧ ∀i (h:i<l.length),l[i].1=s→(∀j (hj:j<i),¬(l[j]'(by omega)).1=s)→lz l s=some l[i].2:=by
  intro l
  induction l with
  |nil=>exact⟨λ_=>rfl,λi h=>absurd h (by simp)⟩
  |cons m r ih=>
   refine⟨λh=> ?_,λi h h1 h2=> ?_⟩
   ·rw[lz,if_neg (h m List.mem_cons_self)]
    exact ih.1 λx hx=>h x (List.mem_cons_of_mem _ hx)
   ·cases i with
    |zero=>exact if_pos h1
    |succ i=>
     rw[lz,if_neg (show ¬m.1=s from h2 0 (by omega))]
     exact ih.2 i (by simpa using h) h1 λj hj=>h2 (j+1) (by omega)
 rcases nc (λb:aH=>b.1=s) env with⟨h1,h2⟩|⟨i,hi,h1,h2,h3⟩
 ·exact .inl ⟨h1,(key env).1 h2⟩
 ·exact .inr ⟨i,hi,h1,(key env).2 i hi h2 h3⟩
theorem Mw {a b:Int} (ha:aX a) (hb:aX b):a.natAbs*b.natAbs/18446744073709551616<18446744073709551616∧a.natAbs*b.natAbs%18446744073709551616<18446744073709551616∧a.natAbs*b.natAbs/18446744073709551616*18446744073709551616+a.natAbs*b.natAbs%18446744073709551616=a.natAbs*b.natAbs:=by
 have h1:=jC ha hb
 have h2:((a.natAbs*b.natAbs:Nat):Int)=a.natAbs*b.natAbs:=Int.natCast_mul _ _
 generalize a.natAbs*b.natAbs=n at*
 omega
def ES (a b:Int):Bool:= !(decide (a<0)==decide (b<0))
theorem N3 {a b:Int}:(if ES a b=true then-((a.natAbs*b.natAbs:Nat):Int)else((a.natAbs*b.natAbs:Nat):Int))=a*b:=by
 rw[Int.natCast_mul]
 by_cases ha:a<0<;>by_cases hb:b<0
 ·rw[lc (.inl ⟨ha,hb⟩)];simp[ES,ha,hb,Int.mul_comm]
 ·rw[lk (.inl ⟨ha,hb⟩)];simp[ES,ha,hb,Int.mul_comm]
 ·rw[lk (.inr ⟨ha,hb⟩)];simp[ES,ha,hb,Int.mul_comm]
 ·rw[lc (.inr ⟨ha,hb⟩)];simp[ES,ha,hb,Int.mul_comm]
theorem Q3 {w:Nat×Nat×Nat} {s a b:Int} (h:Pk w s) (ha:aX a) (hb:aX b): ∃w',Fp w (CQ (a.natAbs*b.natAbs/18446744073709551616) (a.natAbs*b.natAbs%18446744073709551616) (ES a b)).1 (CQ (a.natAbs*b.natAbs/18446744073709551616) (a.natAbs*b.natAbs%18446744073709551616) (ES a b)).2.1 (CQ (a.natAbs*b.natAbs/18446744073709551616) (a.natAbs*b.natAbs%18446744073709551616) (ES a b)).2.2=w'∧Pk w' (s+a*b):=by
 obtain⟨h1,h2,h3⟩:=Mw ha hb
 refine⟨_,rfl, ?_⟩
 have:=Mu (neg:=ES a b) h h1 h2
 rw[h3,N3]at this
 exact this
theorem y9 {mem:List (Nat×bm)} {q nx:Nat} {w:Nat×Nat×Nat} {s a b:Int} (hq:am mem q=some (bW w)) (h:Pk w s) (ha:aX a) (hb:aX b):
  ∃w',Pk w' (s+a*b)∧bb Ya iJ [.c (.ptr q 0),U (a.natAbs*b.natAbs/18446744073709551616:Nat),U (a.natAbs*b.natAbs%18446744073709551616:Nat),Go.Abs.B (ES a b)] mem nx (.tup []) (dG mem q (bW w')) nx:=by
 obtain⟨w',e,h'⟩:=Q3 h ha hb
 obtain⟨h1,h2,_⟩:=Mw ha hb
 exact⟨w',h',e▸om hq h.1 h1 h2⟩
theorem zO {mem:List (Nat×bm)} {q nx:Nat} {a:Int} (hq:am mem q=some (bW (0,0,0))) (ha:aX a):
  ∃w',Pk w' a∧bb Ya iJ [.c (.ptr q 0),U 0,U (a.natAbs:Nat),Go.Abs.B (decide (a<0))] mem nx (.tup []) (dG mem q (bW w')) nx:=by
 have h0:Pk (0,0,0) 0:=⟨by unfold SC;simp only;omega,by decide⟩
 have h1:a.natAbs<18446744073709551616:=by unfold aX at ha;omega
 have h2:=Mu (hi:=0) (neg:=decide (a<0)) h0 (by decide) h1
 have e:(0:Int)+(if decide (a<0)=true then-((0*18446744073709551616+a.natAbs:Nat):Int)else((0*18446744073709551616+a.natAbs:Nat):Int))=a:=by
  simp only[decide_eq_true_eq]
  split<;>omega
 rw[e]at h2
 exact⟨_,h2,om (hi:=0) hq h0.1 (by decide) h1⟩
set_option maxHeartbeats 4000000 in
theorem pz {k:Int} {l env:List aH} (hk:aX k) (E: ∀m∈l,aX m.2) (F: ∀m∈env,aX m.2):af Ya px [f9 k l,bZ mP env] (.tup [I (mB k l env).1,I (mB k l env).2]):=by
 refine af.of JU (by simp) λhb=>aa ?_
 have hl:=m7 hb.1
 simp only[DZ]
 by_cases h1:dZ l
 ·have pk:=iF hk
  obtain⟨w,hw,pa⟩:=zO (mem:= [(1,bW (0,0,0)),(0,bm.var [.pure (pI k),.pure (bp l)])]) (nx:=2) (q:=1) rfl hk
  simp only[dG,if_true]at pa
  repeat' first|simp(disch:=omega)only[go_sem, *,h1]|apply ab<;>intro h<;>try omega|refine av (bS _ _) rfl rfl ?_|refine av pk rfl rfl ?_|refine aU pa ?_
  refine ai (λs:Nat×(Nat×Nat×Nat)×Int=>⟨[(1,bZ mP env),(6,.c (.ptr 1 0)),(26,.c (.pure (bp l))),(27,I l.length),(28,I s.1)], [(1,bW s.2.1),(0,.var [.pure (pI k),.pure (bp l)])],2,0⟩)
   (λs=>s.1≤l.length∧Hid (Pk s.2.1 s.2.2)∧ -(9223372036854775808+s.1*85070591730234615865843651857942052864:Int)≤s.2.2∧s.2.2≤9223372036854775808+s.1*85070591730234615865843651857942052864∧Hid (s.2.2=k+kg (iR env) (l.take s.1))∧bI (λi=> ∀h:i<l.length,lz env l[i].1≠none) s.1) (λs=>l.length-s.1) ⟨(0,w,k), [],⟨Nat.zero_le _,Lib.hid hw, ?_, ?_,Lib.hid (by simp[kg]),.zero⟩,by simp⟩ ?_
  ·show-((9223372036854775808:Int)+((0:Nat):Int)*_)≤k
   unfold aX at hk
   omega
  ·show k≤(9223372036854775808:Int)+((0:Nat):Int)*_
   unfold aX at hk
   omega
  clear hw pa pk w
  rintro⟨j,w,s⟩ ⟨hj,hw,G,H,hs,g⟩
  refine aa ?_
  simp only at hj G H hs
  by_cases A:j<l.length
  ·have hm:=List.getElem_mem A
   have y:=E _ hm
   rcases My env l[j].1 with⟨hi,D⟩|⟨i,J,hi,D⟩
   ·have e:mB k l env=(0,9):=by rw[mB,if_neg (not_not_intro h1),if_pos ⟨l[j],hm,D⟩]
    rw[e]
    have pi:=dS (rT l[j]) env
    rw[hi]at pi
    clear D hs g hw hi
    repeat' first|simp(disch:=omega)only[go_sem, *,ac A,mP]|apply ab<;>intro h<;>try omega|refine av pi rfl rfl ?_
   ·have pi:=dS (rT l[j]) env
    rw[hi]at pi
    have hv:iR env l[j].1=env[i].2:=by rw[iR,D];rfl
    have C:=F _ (List.getElem_mem J)
    obtain⟨w',L,pa⟩:=y9 (mem:= [(2,bm.var [.pure (pS l[j].1),.pure (pI l[j].2)]),(1,bW w),(0,bm.var [.pure (pI k),.pure (bp l)])]) (nx:=3) (q:=1) rfl hw.out y C
    have pm1:=iF y
    have pm2:=iF C
    have pp:=AZ (a:=l[j].2.natAbs) (b:=env[i].2.natAbs) (by unfold aX at y;omega) (by unfold aX at C;omega)
    have bd:=jC y C
    have sg:Hid (l[j].2*env[i].2≤(l[j].2.natAbs:Int)*env[i].2.natAbs∧ -((l[j].2.natAbs:Int)*env[i].2.natAbs)≤l[j].2*env[i].2):=Lib.hid (by
     rw[←Int.natCast_mul,←Int.natAbs_mul]
     omega)
    have HS:=Lib.hid (show s+l[j].2*env[i].2=k+kg (iR env) (l.take (j+1)) by
     have:=hs.out
     rw[oI A,hv]
     omega)
    have NX:=Lib.hid (g.succ (p:= λi=> ∀h:i<l.length,lz env l[i].1≠none) λ_=>by rw[D];simp)
    have HW:=Lib.hid L
    clear hs g hw L D hi hv
    have e:dG [(2,bm.var [.pure (pS l[j].1),.pure (pI l[j].2)]),(1,bW w),(0,bm.var [.pure (pI k),.pure (bp l)])] 1 (bW w')= [(2,bm.var [.pure (pS l[j].1),.pure (pI l[j].2)]),(1,bW w'),(0,bm.var [.pure (pI k),.pure (bp l)])]:=rfl
    rw[e]at pa
    clear e
    repeat' first|simp(disch:=omega)only[go_sem, *,ac A,ac J,mP,wrap_i64]|apply ab<;>intro h<;>try omega|refine av pi rfl rfl ?_|refine av pm1 rfl rfl ?_|refine av pm2 rfl rfl ?_|refine av pp rfl rfl ?_|refine aU pa ?_
    have sg':=sg.out
    generalize (l[j].2.natAbs:Int)*env[i].2.natAbs=p at*
    refine⟨(j+1,w',s+l[j].2*env[i].2), [],⟨A,HW, ?_, ?_,HS,NX.out⟩,by show _-_<_-_;omega,by simp⟩
    ·show-(_+((j+1:Nat):Int)*_)≤s+_
     omega
    ·show s+_≤_+((j+1:Nat):Int)*_
     omega
  ·obtain rfl:j=l.length:=by omega
   have pn:=ug (mem:= [(1,bW w),(0,bm.var [.pure (pI k),.pure (bp l)])]) (nx:=2) (q:=1) rfl hw.out (by simp only;omega)
   have M: ¬ ∃m∈l,lz env m.1=none:= λ⟨m,hm,hx⟩=>by
    obtain⟨i,hi,rfl⟩:=List.getElem_of_mem hm
    exact g i hi hi hx
   have N:s=k+kg (iR env) l:=by have:=hs.out;rwa [List.take_length]at this
   have ev:mB k l env=if aX s then(s,0)else(0,3):=by rw[mB,if_neg (not_not_intro h1),if_neg M,←N]
   obtain⟨a,b,c⟩:=w
   have hn:=(Eh hw.out (by simp only;omega)).2
   rw[ev]
   clear ev N M hs g hw G H
   by_cases hi:aX s
   ·have e1:ni (aX s)=true:=gz hi
    have e2:=hn hi
    simp only[e1,e2]at pn
    rw[if_pos hi]
    clear e2 hn hi
    repeat' first|simp(disch:=omega)only[go_sem, *]|apply ab<;>intro h<;>try omega|refine aU pn ?_
   ·have e1:ni (aX s)=false:=fa hi
    simp only[e1]at pn
    rw[if_neg hi]
    clear hn hi
    repeat' first|simp(disch:=omega)only[go_sem, *]|apply ab<;>intro h<;>try omega|refine aU pn ?_
 ·have e:mB k l env=(0,1):=if_pos h1
  rw[e]
  repeat' first|simp(disch:=omega)only[go_sem, *,h1]|apply ab<;>intro h<;>try omega|refine av (bS _ _) rfl rfl ?_
def LK (c:Ey):Prop:=c6 c.1
def pu (p:be):Prop:=(∀c∈p.wher,c6 c.1)∧(∀x∈p.params,∀l∈x.2.2,c6 l)∧ ∀d∈p.defs,(∀a∈d.dims++d.red,c6 a.2)∧ ∀e∈d.body.pre,∀l∈e.forms,c6 l
def gf (c:Ey) (env:List aH):Bool×Int:=
 if(mB c.1.1 c.1.2 env).2≠0 then(false,(mB c.1.1 c.1.2 env).2)else(decide ((mB c.1.1 c.1.2 env).1=0)||(decide (0<(mB c.1.1 c.1.2 env).1)&& !c.2),0)
theorem Bh {c:Ey} {env:List aH} (y:LK c) (he: ∀m∈env,aX m.2):af Ya nA [MS c,bZ mP env] (.tup [Go.Abs.B (gf c env).1,I (gf c env).2]):=by
 refine af.of Dq (by simp) λ_=>aa ?_
 simp only[vc]
 have pv:=lK (env:=env) y.1 y.2 he
 obtain⟨⟨k,l⟩,q⟩:=c
 unfold gf
 simp only at pv ⊢
 generalize mB k l env=V at*
 obtain⟨v,e⟩:=V
 simp only at pv ⊢
 by_cases h0:e=0
 ·subst h0
  rw[if_neg (by simp)]
  by_cases h1:v=0
  ·subst h1
   cases q
   all_goals
    repeat' first|simp(disch:=omega)only[go_sem]|((with_reducible refine ab ?_ ?_)<;>intro h<;>try first|omega|simp(disch:=omega)only[go_sem, *])|refine ae pv rfl (.inl rfl) ?_
    all_goals rfl
  ·by_cases h2:0<v
   ·cases q
    all_goals
     repeat' first|simp(disch:=omega)only[go_sem,h1,h2]|((with_reducible refine ab ?_ ?_)<;>intro h<;>try first|omega|simp(disch:=omega)only[go_sem, *,h1,h2])|refine ae pv rfl (.inl rfl) ?_
     all_goals simp[h1,h2]
   ·cases q
    all_goals
     repeat' first|simp(disch:=omega)only[go_sem,h1,h2]|((with_reducible refine ab ?_ ?_)<;>intro h<;>try first|omega|simp(disch:=omega)only[go_sem, *,h1,h2])|refine ae pv rfl (.inl rfl) ?_
     all_goals simp[h1,h2]
 ·rw[if_pos h0]
  repeat' first|simp(disch:=omega)only[go_sem,h0]|((with_reducible refine ab ?_ ?_)<;>intro h<;>try first|omega|simp(disch:=omega)only[go_sem, *,h0])|refine ae pv rfl (.inl rfl) ?_
  all_goals rfl
theorem rj {c:Ey} {env:List aH} (y:LK c) (he: ∀m∈env,aX m.2):af Ya gQ [MS c,bZ mP env] (.tup [Go.Abs.B (gf c env).1,I (gf c env).2]):=by
 refine af.of t6 (by simp) λ_=>aa ?_
 simp only[lN]
 have pv:=pz (env:=env) y.1 y.2 he
 obtain⟨⟨k,l⟩,q⟩:=c
 unfold gf
 simp only at pv ⊢
 generalize mB k l env=V at*
 obtain⟨v,e⟩:=V
 simp only at pv ⊢
 by_cases h0:e=0
 ·subst h0
  rw[if_neg (by simp)]
  by_cases h1:v=0
  ·subst h1
   cases q
   all_goals
    repeat' first|simp(disch:=omega)only[go_sem]|((with_reducible refine ab ?_ ?_)<;>intro h<;>try first|omega|simp(disch:=omega)only[go_sem, *])|refine ae pv rfl (.inl rfl) ?_
    all_goals rfl
  ·by_cases h2:0<v
   ·cases q
    all_goals
     repeat' first|simp(disch:=omega)only[go_sem,h1,h2]|((with_reducible refine ab ?_ ?_)<;>intro h<;>try first|omega|simp(disch:=omega)only[go_sem, *,h1,h2])|refine ae pv rfl (.inl rfl) ?_
     all_goals simp[h1,h2]
   ·cases q
    all_goals
     repeat' first|simp(disch:=omega)only[go_sem,h1,h2]|((with_reducible refine ab ?_ ?_)<;>intro h<;>try first|omega|simp(disch:=omega)only[go_sem, *,h1,h2])|refine ae pv rfl (.inl rfl) ?_
     all_goals simp[h1,h2]
 ·rw[if_pos h0]
  repeat' first|simp(disch:=omega)only[go_sem,h0]|((with_reducible refine ab ?_ ?_)<;>intro h<;>try first|omega|simp(disch:=omega)only[go_sem, *,h0])|refine ae pv rfl (.inl rfl) ?_
  all_goals rfl
def Hh (env:List aH) (s:ByteArray):Prop:=match lz env s with
 |none=>True
 |some v=>v<1∨4096<v
def MZ (env:List aH):List Ey→Int
 | []=>0
 |c::r=>if(gf c env).2≠0 then(gf c env).2 else if(gf c env).1=false then 16 else MZ env r
def qI (env:List aH) (wh:List Ey):List ByteArray→Int
 | []=>MZ env wh
 |s::r=>open Classical in if Hh env s then 15 else qI env wh r
def lZ (p:be) (env:List aH):Int:=if env.length≠p.sizes.length then 15 else qI env p.wher p.sizes
theorem Qp {env:List aH} {l:List Ey} {j:Nat} {b:Bool} {e:Int} (h:j<l.length) (hr:gf l[j] env=(b,e)):MZ env (l.drop j)=if e≠0 then e else if b=false then 16 else MZ env (l.drop (j+1)):=by
 rw[List.drop_eq_getElem_cons h,MZ,hr]
theorem LW {env:List aH} {l:List Ey} {j:Nat} (h:l.length≤j):MZ env (l.drop j)=0:=by
 rw[List.drop_of_length_le h,MZ]
theorem yq {env:List aH} {wh:List Ey} {l:List ByteArray} {j:Nat} (h:j<l.length) (hb:Hh env l[j]):qI env wh (l.drop j)=15:=by
 rw[List.drop_eq_getElem_cons h,qI,if_pos hb]
theorem GA {env:List aH} {wh:List Ey} {l:List ByteArray} {j:Nat} (h:j<l.length) (hb: ¬Hh env l[j]):qI env wh (l.drop j)=qI env wh (l.drop (j+1)):=by
 rw[List.drop_eq_getElem_cons h,qI,if_neg hb]
theorem JC {env:List aH} {wh:List Ey} {l:List ByteArray} {j:Nat} (h:l.length≤j):qI env wh (l.drop j)=MZ env wh:=by
 rw[List.drop_of_length_le h,qI]
theorem tR {env:List aH} {s:ByteArray} {v:Int} (h:lz env s=some v):Hh env s↔v<1∨4096<v:=by
 unfold Hh
 rw[h]
theorem FC {env:List aH} {s:ByteArray} (h:lz env s=none):Hh env s:=by
 unfold Hh
 rw[h]
 trivial
end
end Go.Proofs.YtjhkikmonejkjaaGreatDoor
