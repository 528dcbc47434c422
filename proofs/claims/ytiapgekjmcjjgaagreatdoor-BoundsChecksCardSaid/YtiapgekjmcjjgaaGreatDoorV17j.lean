import Derived.Test.YtiapgekjmcjjgaaGreatDoorV14d
import Derived.Test.YtiapgekjmcjjgaaGreatDoorV17e
set_option maxHeartbeats 4000000
set_option linter.unusedVariables false
set_option linter.unusedSimpArgs false
set_option maxRecDepth 1000000
open Go.Proofs.Tryz renaming prog→Ya
namespace Go.Proofs.YtiapgekjmcjjgaaGreatDoor
open Go.Abs Go.RowKit
abbrev I9 (p:bG) (K:KL):AV:= .c (.cptr [c7 p.sizes,dp cP p.wher,dp gR p.params,dp di p.defs,c7 p.outs,.fmap .str none (A2 K)])
abbrev OO (p:bG) (m:Nat):bk:= .var [.pure (c7 p.sizes),.pure (dp cP p.wher),.pure (dp gR p.params),.pure (dp di p.defs),.pure (c7 p.outs),.mref m]
abbrev mK (K:KL):bk:= .map .str none (js K)
theorem mU {mem:List (Nat×bk)} {c m:Nat} {p:bG} {K:KL} {rest rest':List AV} (h2:al mem c=some (OO p m)) (h1:al mem m=some (mK K)) (hr:bN mem rest=some rest'):bN mem (.c (.ptr c 0)::rest)=some (I9 p K::rest'):=by
 simp[bN,dQ,ee,dX,h2,cJ,eE,dS,h1,LF,hr]
theorem cn (rl:List (Nat×Nat)): ∀K:KL,List.map (λx:MK×List AC=>(x.1,List.map (dE rl) x.2)) (js K)=js K
 | []=>rfl
 |x::r=>by
  have ih:=cn rl r
  simp only[js,List.map_cons]at ih ⊢
  rw[ih]
  rfl
theorem dW (N:Nat): ∀K:KL,LW N (js K)
 | []=>trivial
 |x::r=>⟨⟨trivial,trivial⟩,dW N r⟩
theorem Jo (N:Nat):LW N []:=trivial
def Kn (p:bG) (vars:List ByteArray) (K:KL):Prop:= ∀s,pN K s≠0↔s∈vars∨s∈p.sizes
theorem fP {p:bG} {vars:List ByteArray} {K:KL} (hK:Kn p vars K) (l:bW):ac Ya 157 [I9 p K,da l.1 l.2] (I (dR p vars [l])):=by
 refine ac.of pJ (by simp) λhb=>aa ?_
 have hl:=rJ hb.2.1
 rw[kN]
 conv in bh _ _=>cbv
 repeat' first|simp(disch:=omega)only[go_sem, *]|apply ab<;>intro h<;>try omega
 refine ai (λk:Nat=>⟨[(10,I k),(9,I l.2.length),(8,.c (.pure (ay l.2))),(0,I9 p K)], [],0,0⟩) (λk=>k≤l.2.length∧dZ (λi=> ∀h:i<l.2.length,l.2[i].1∈vars∨l.2[i].1∈p.sizes) k) (λk=>l.2.length-k) ⟨0, [],⟨by omega,.zero⟩,by simp⟩ ?_
 rintro k ⟨hk,f⟩
 refine aa ?_
 by_cases n:k<l.2.length
 ·have hm:=oi l.2[k].1 K
  rw[←zc]at hm
  have q:=hK l.2[k].1
  cases hL:jj K l.2[k].1 with
  |none=>
   rw[hL]at hm
   rw[lJ hL]at q
   rw[if_neg (show ¬fl vars p.sizes l from λh=>(q.2 (h _ (List.getElem_mem n))) rfl)]
   clear hL q f
   repeat' first|simp(disch:=omega)only[go_sem, *,ah n,mP,wrap_i64,hm,Option.map_none]|apply ab<;>intro h<;>try omega
  |some j=>
   rw[hL]at hm
   rw[iz hL]at q
   clear hL
   by_cases hj:j=0
   ·rw[if_neg (show ¬fl vars p.sizes l from λh=>(q.2 (h _ (List.getElem_mem n))) hj)]
    clear q f
    repeat' first|simp(disch:=omega)only[go_sem, *,ah n,mP,wrap_i64,hm,Option.map_some,hj]|apply ab<;>intro h<;>try omega
   ·have HA:=Lib.hid (f.succ λ_=>q.1 hj)
    clear q f
    repeat' first|simp(disch:=omega)only[go_sem, *,ah n,mP,wrap_i64,hm,Option.map_some,hj]|apply ab<;>intro h<;>try omega
    exact⟨k+1, [],⟨by omega,HA.out⟩,by omega,by simp⟩
 ·have q:fl vars p.sizes l:= λm hm=>by
   obtain⟨i,hi,rfl⟩:=List.mem_iff_getElem.1 hm
   exact f i (by omega) hi
  rw[if_pos q]
  clear f q
  repeat' first|simp(disch:=omega)only[go_sem, *]|apply ab<;>intro h<;>try omega
theorem nf {p:bG} (hf:iR p) {vars:List ByteArray} {K:KL} (hK:Kn p vars K) (x:Ix):ac Ya 203 [I9 p K,VQ x] (I (gB p vars x)):=by
 refine ac.of oI (by simp) λhb=>aa ?_
 have hl:x.2.2.length≤9223372036854775807:=by
  have:=hb.2.1
  simp[gw,nc,gT]at this
  omega
 have cF:=fP hK x.1
 conv in bh _ _=>cbv
 by_cases u:x.2.1=⟨⟨[]⟩⟩
 ·rw[Dd u]
  rw[kN]at cF
  repeat' first|simp(disch:=omega)only[go_sem, *,u]|apply ab<;>intro h<;>try omega|refine aq cF rfl rfl ?_
 ·clear cF
  have hF:=gL hf x.2.1
  cases M:dm p x.2.1 with
  |none=>
   rw[zr u M]
   rw[M]at hF
   clear M
   repeat' first|simp(disch:=omega)only[go_sem, *,u]|apply ab<;>intro h<;>try omega|refine aW hF rfl rfl ?_
  |some r=>
   obtain⟨t,d⟩:=r
   rw[Ak u M]
   rw[M]at hF
   clear M
   by_cases ht:t.1=3
   ·rw[if_neg (not_not_intro ht)]
    by_cases hd:x.2.2.length=d.length
    ·rw[if_neg (not_not_intro hd)]
     have Q:(x.2.2.length:Int)=d.length:=by omega
     clear hd
     repeat' first|simp(disch:=omega)only[go_sem, *,u,ht,Q]|apply ab<;>intro h<;>try omega|refine aW hF rfl rfl ?_
     refine ai (λk:Nat=>⟨[(46,I k),(45,I x.2.2.length),(44,j6 x.2.2),(0,I9 p K)], [],0,0⟩) (λk=>k≤x.2.2.length∧dZ (λi=> ∀h:i<x.2.2.length,fl vars p.sizes x.2.2[i]) k) (λk=>x.2.2.length-k) ⟨0, [],⟨by omega,.zero⟩,by rw[Q];simp⟩ ?_
     clear Q hF ht u
     rintro k ⟨hk,f⟩
     refine aa ?_
     by_cases n:k<x.2.2.length
     ·have cF:=fP hK x.2.2[k]
      rw[kN]at cF
      by_cases q:fl vars p.sizes x.2.2[k]
      ·rw[if_pos q]at cF
       have HA:=Lib.hid (f.succ λ_=>q)
       clear f q
       repeat' first|simp(disch:=omega)only[go_sem, *,ah n,b9,wrap_i64]|apply ab<;>intro h<;>try omega|refine aq cF rfl rfl ?_
       exact⟨k+1, [],⟨by omega,HA.out⟩,by omega,by simp⟩
      ·rw[if_neg q]at cF
       have hR:dR p vars x.2.2=9:=if_neg λh=>q (h _ (List.getElem_mem n))
       rw[hR]
       clear f q hR
       repeat' first|simp(disch:=omega)only[go_sem, *,ah n,b9,wrap_i64]|apply ab<;>intro h<;>try omega|refine aq cF rfl rfl ?_
     ·have hR:dR p vars x.2.2=0:=if_pos λl hm=>by
       obtain⟨i,hi,rfl⟩:=List.mem_iff_getElem.1 hm
       exact f i (by omega) hi
      rw[hR]
      clear f hR
      repeat' first|simp(disch:=omega)only[go_sem, *]|apply ab<;>intro h<;>try omega
    ·rw[if_pos hd]
     have Q: ¬(x.2.2.length:Int)=d.length:=by omega
     clear hd
     repeat' first|simp(disch:=omega)only[go_sem, *,u,ht,Q]|apply ab<;>intro h<;>try omega|refine aW hF rfl rfl ?_
   ·rw[if_pos ht]
    repeat' first|simp(disch:=omega)only[go_sem, *,u,ht]|apply ab<;>intro h<;>try omega|refine aW hF rfl rfl ?_
theorem oc {p:bG} (hf:iR p) {vars:List ByteArray} {K:KL} (hK:Kn p vars K) (e:Ex):ac Ya 158 [I9 p K,fE e] (Ie (gc p vars e)):=by
 refine ac.of pZ (by simp) λhb=>aa ?_
 have hl:=(ed hb.2).2
 conv in bh _ _=>cbv
 have hF:=gL hf e.name
 cases w:dm p e.name with
 |none=>
  rw[w]at hF
  rw[Bk w]
  clear w
  repeat' first|simp(disch:=omega)only[go_sem, *]|apply ab<;>intro h<;>try omega|refine aW hF rfl rfl ?_
  try rfl
 |some r=>
  obtain⟨t,dims⟩:=r
  rw[w]at hF
  by_cases J:e.idx.length=dims.length
  ·have F:(dims.length:Int)=e.idx.length:=by omega
   have HF:=Lib.hid w
   have HL:=Lib.hid J
   clear J w
   repeat' first|simp(disch:=omega)only[go_sem, *,F]|apply ab<;>intro h<;>try omega|refine aW hF rfl rfl ?_
   refine ai (λk:Nat=>⟨[(36,I k),(35,I e.idx.length),(34,.c (.pure (dp eR e.idx))),(6,.c (.ptr 2 0)),(4,.c (.ptr 1 0)),(0,I9 p K)], [(2,RR t),(1,RR iH),(0,zB e)],3,0⟩) (λk=>k≤e.idx.length∧Hid (de ((e.idx.map (gB p vars)).take k)=0)) (λk=>e.idx.length-k) ⟨0, [],⟨by omega,by show _=_;simp[de]⟩,by simp[iH]⟩ ?_
   clear hF F
   rintro k ⟨hk,f⟩
   refine aa ?_
   by_cases n:k<e.idx.length
   ·have cI:=nf hf hK e.idx[k]
    by_cases hz:gB p vars e.idx[k]=0
    ·have HN:Hid (de ((e.idx.map (gB p vars)).take (k+1))=0):=C4 n f.out hz
     clear HF HL f
     repeat' first|simp(disch:=omega)only[go_sem, *,ah n,eR,wrap_i64,hz]|apply ab<;>intro h<;>try omega|refine aq cI rfl rfl ?_
     exact⟨k+1, [],⟨by omega,HN⟩,by omega,by simp[iH]⟩
    ·rw[Dt HF.out HL.out (D9 n f.out hz) hz]
     clear HF HL f
     repeat' first|simp(disch:=omega)only[go_sem, *,ah n,eR,wrap_i64,hz]|apply ab<;>intro h<;>try omega|refine aq cI rfl rfl ?_
     try rfl
   ·have hz:=f.out
    rw[List.take_of_length_le (by simp;omega)]at hz
    rw[Hl HF.out HL.out hz]
    clear HF HL f hz
    repeat' first|simp(disch:=omega)only[go_sem, *]|apply ab<;>intro h<;>try omega
  ·have F: ¬(dims.length:Int)=e.idx.length:=by omega
   rw[CR w J]
   clear J w
   repeat' first|simp(disch:=omega)only[go_sem, *,F]|apply ab<;>intro h<;>try omega|refine aW hF rfl rfl ?_
   try rfl
theorem lQ (a:Ty):ac Ya 156 [Fz a,Fz a] (I 0):=by
 refine ac.of ju (by simp) λhb=>aa ?_
 conv in bh _ _=>cbv
 repeat' first|simp(disch:=omega)only[go_sem, *]|apply ab<;>intro h<;>try omega
theorem ku {a b:Ty} (h: ¬a=b):ac Ya 156 [Fz a,Fz b] (I 10):=by
 refine ac.of ju (by simp) λhb=>aa ?_
 conv in bh _ _=>cbv
 have HN:=Lib.hid h
 clear h
 repeat' first|simp(disch:=omega)only[go_sem, *]|apply ab<;>intro h<;>try omega
 all_goals first
  |exact absurd (tG h) HN.out
  |rfl
set_option maxRecDepth 20000
set_option maxRecDepth 1000000
theorem qg {p:bG} (hf:iR p) {vars:List ByteArray} {K:KL} (hK:Kn p vars K) (e:Ex):iy e→ac Ya 116 [I9 p K,fE e] (Ie (eD p vars e)):=by
 refine Ex.ind (p:= λe=>iy e→ac Ya 116 [I9 p K,fE e] (Ie (eD p vars e))) (λe ih hr=> ?_) e
 refine ac.of sS (by simp) λhb=>aa ?_
 have hl:=(ed hb.2).1
 obtain⟨ha,W,X,_⟩:=dP hr
 have hG:e.args.length≤3:=by rcases uN W X with h|h|h|h|h|h<;>omega
 have HA:=Lib.hid ha
 clear ha
 simp only[lC]
 repeat' first|simp(disch:=omega)only[go_sem, *]|apply ab<;>intro h<;>try omega
 refine dv 6 45 5 rfl (by decide) ?_
 refine ai (λs:Nat×List Ty=>⟨[(15,I s.1),(14,I e.args.length),(13,.c (.pure (.slice (e.args.map Ex.row)))),(6,.c (.ref 2)),(4,.c (.ptr 1 0)),(3,.c (.ptr 0 0)),(0,I9 p K)], [(2,.arr 45 5 (s.2.map Qo)),(1,RR iH),(0,zB e)],3,0⟩) (λs=>s.1≤e.args.length∧Hid (dN p vars (e.args.take s.1)= .inr s.2)) (λs=>e.args.length-s.1) ⟨(0, []), [],⟨by omega,by show _=_;simp[dN]⟩,by simp[iH]⟩ ?_
 rintro⟨k,ts⟩ ⟨hk,f⟩
 refine aa ?_
 simp only at hk f
 by_cases n:k<e.args.length
 ·have Y:=ih _ (List.getElem_mem n) (il hr (List.getElem_mem n))
  have y:ts.length=k:=by
   have:=nC f.out
   rw[this,List.length_take]
   omega
  by_cases h0:(eD p vars e.args[k]).2=0
  ·have hn:=BH n f.out h0
   have HN:=Lib.hid hn
   clear ih hr f hn
   generalize eD p vars e.args[k]=r at*
   have ht:ts.map Qo++ [Qo r.1]=(ts++ [r.1]).map Qo:=by simp
   simp only[Qo]at ht
   have HT:=Lib.hid ht
   clear ht
   repeat' first|simp(disch:=omega)only[go_sem, *,ah n,Ex.row_eq,wrap_i64,h0]|apply ab<;>intro h<;>try omega|refine aq Y rfl rfl ?_|refine aA rfl (by intro h;cases h) (an rfl) (by simp;omega) (by simp;omega) ?_
   rw[HT.out]
   exact⟨(k+1,ts++ [r.1]), [(2,5)],⟨by omega,HN⟩,by show _-_<_-_;omega,by simp⟩
  ·have hn:=Ai n f.out h0
   have hR:eD p vars e=(iH,(eD p vars e.args[k]).2):=by conv=>lhs;rw[mE,hn]
   rw[hR]
   clear ih hr f hn hR
   generalize eD p vars e.args[k]=r at*
   repeat' first|simp(disch:=omega)only[go_sem, *,ah n,Ex.row_eq,wrap_i64,h0]|apply ab<;>intro h<;>try omega|refine aq Y rfl rfl ?_
   try rfl
 ·have v:=f.out
  rw[List.take_of_length_le (by omega)]at v
  have y:=nC v
  have hR:eD p vars e=aY p vars e ts:=by conv=>lhs;rw[mE,v]
  have z:=oc hf hK e
  have C:=fP hK e.lin
  clear ih hr f v
  have v:=HA.out
  clear HA
  rcases uN W X with⟨g|g|g,h2⟩|⟨g|g|g,h2⟩|⟨g,h2⟩|⟨g,h2⟩|⟨g,h2⟩|⟨g,h2⟩
  ·rw[hR.trans (show aY p vars e ts=(e.ty,0) by simp[aY,g])]
   clear hR y h2 v z C
   repeat' first|simp(disch:=omega)only[go_sem, *,g]|apply ab<;>intro h<;>try omega
  ·rw[hR.trans (show aY p vars e ts=((3,0,0,0,0),dR p vars [e.lin]) by simp[aY,g])]
   clear hR y h2 v z
   repeat' first|simp(disch:=omega)only[go_sem, *,g]|apply ab<;>intro h<;>try omega|refine aq C rfl rfl ?_
  ·rw[hR.trans (show aY p vars e ts=gc p vars e by simp[aY,g])]
   clear hR y h2 v C
   simp only[fE,g]at z
   repeat' first|simp(disch:=omega)only[go_sem, *,g]|apply ab<;>intro h<;>try omega|refine aq z rfl rfl ?_
  ·obtain⟨a,rfl⟩:=Um (l:=ts) (by omega)
   rw[hR.trans (show aY p vars e [a]=(a,0) by simp[aY,g])]
   clear hR y h2 v z C
   repeat' first|simp(disch:=omega)only[go_sem, *,g,Int.toNat_zero]|apply ab<;>intro h<;>try omega
  ·rw[hR.trans (show aY p vars e ts=(e.ty,0) by simp[aY,g])]
   clear hR y h2 v z C
   repeat' first|simp(disch:=omega)only[go_sem, *,g]|apply ab<;>intro h<;>try omega
  ·rw[hR.trans (show aY p vars e ts=(iH,0) by simp[aY,g])]
   clear hR y h2 v z C
   repeat' first|simp(disch:=omega)only[go_sem, *,g]|apply ab<;>intro h<;>try omega
   try rfl
  ·obtain⟨a,b,c,rfl⟩:=T6 (l:=ts) (by omega)
   by_cases A:b=c
   ·subst A
    rw[hR.trans (show aY p vars e [a,b,b]=(b,0) by simp[aY,g])]
    have cs:=lQ b
    clear hR y h2 v z C
    repeat' first|simp(disch:=omega)only[go_sem, *,g,Int.toNat_zero,show Int.toNat 1=1 from rfl,show Int.toNat 2=2 from rfl]|apply ab<;>intro h<;>try omega|apply af|(with_reducible refine ag (λh=> ?_) ?_)|refine aq cs rfl rfl ?_
   ·rw[hR.trans (show aY p vars e [a,b,c]=(b,10) by simp[aY,g,A])]
    have cs:=ku A
    clear hR y h2 v z C A
    repeat' first|simp(disch:=omega)only[go_sem, *,g,Int.toNat_zero,show Int.toNat 1=1 from rfl,show Int.toNat 2=2 from rfl]|apply ab<;>intro h<;>try omega|apply af|(with_reducible refine ag (λh=> ?_) ?_)|refine aq cs rfl rfl ?_
  ·obtain⟨a,b,rfl⟩:=RC (l:=ts) (by omega)
   rcases g with g|g|g
   all_goals
    by_cases A:a=b
    ·subst A
     rw[hR.trans (show aY p vars e [a,a]=(iH,0) by simp[aY,g])]
     have cs:=lQ a
     clear hR y h2 v z C
     repeat' first|simp(disch:=omega)only[go_sem, *,g,Int.toNat_zero,show Int.toNat 1=1 from rfl]|apply ab<;>intro h<;>try omega|refine aq cs rfl rfl ?_
     try rfl
    ·rw[hR.trans (show aY p vars e [a,b]=(iH,10) by simp[aY,g,A])]
     have cs:=ku A
     clear hR y h2 v z C A
     repeat' first|simp(disch:=omega)only[go_sem, *,g,Int.toNat_zero,show Int.toNat 1=1 from rfl]|apply ab<;>intro h<;>try omega|refine aq cs rfl rfl ?_
     try rfl
  ·rcases g with g|g
   all_goals
    rw[hR.trans (show aY p vars e ts=(iH,0) by simp[aY,g])]
    clear hR y h2 v z C
    repeat' first|simp(disch:=omega)only[go_sem, *,g]|apply ab<;>intro h<;>try omega
    try rfl
  ·obtain⟨a,b,rfl⟩:=RC (l:=ts) (by omega)
   have h3: ¬e.op=1∧ ¬e.op=2∧ ¬e.op=3∧ ¬e.op=12∧ ¬e.op=8∧ ¬e.op=11∧ ¬16≤e.op∧ ¬13≤e.op∧ ¬e.op=13∧ ¬e.op=14∧ ¬e.op=15∧ ¬e.op=16∧ ¬e.op=17∧ ¬e.op=18:=by omega
   obtain⟨g1,g2,g3,g4,g5,g6,g7,g8,g9,g10,g11,g12,g13,g14⟩:=h3
   clear g
   by_cases A:a=b
   ·subst A
    rw[hR.trans (show aY p vars e [a,a]=(a,0) by simp[aY,g1,g2,g3,g4,g5,g6,g7,g8])]
    have cs:=lQ a
    clear hR y h2 v z C g7 g8
    repeat' first|simp(disch:=omega)only[go_sem, *,g1,g2,g3,g4,g5,g6,g9,g10,g11,g12,g13,g14,Int.toNat_zero,show Int.toNat 1=1 from rfl]|apply ab<;>intro h<;>try omega|apply af|(with_reducible refine ag (λh=> ?_) ?_)|refine aq cs rfl rfl ?_
   ·rw[hR.trans (show aY p vars e [a,b]=(a,10) by simp[aY,g1,g2,g3,g4,g5,g6,g7,g8,A])]
    have cs:=ku A
    clear hR y h2 v z C A g7 g8
    repeat' first|simp(disch:=omega)only[go_sem, *,g1,g2,g3,g4,g5,g6,g9,g10,g11,g12,g13,g14,Int.toNat_zero,show Int.toNat 1=1 from rfl]|apply ab<;>intro h<;>try omega|apply af|(with_reducible refine ag (λh=> ?_) ?_)|refine aq cs rfl rfl ?_
theorem S7 (p:bG) (vars:List ByteArray):Kn p vars (kd (kd [] 1 p.sizes) 3 vars):= λs=>by
 rw[nu,nu,A8]
 by_cases h1:s∈vars
 ·simp[h1]
 ·by_cases h2:s∈p.sizes
  ·simp[h1,h2]
  ·simp[h1,h2]
theorem tL {p:bG} (hf:iR p) (vars:List ByteArray) {e:Ex} (hD: ∀a∈e.pre,pE a.val):ac Ya 63 [gy p,.c (.pure (c7 vars)),fE e] (Ie (bv p vars e)):=by
 refine ac.of uy (by simp) λhb=>aa ?_
 have hl:vars.length≤9223372036854775807:=by
  have:=hb.2.1
  simp[gw,gT]at this
  omega
 have hH:p.sizes.length≤9223372036854775807:=by
  have:=hb.1
  simp[gw,nc,gT]at this
  omega
 conv in bh _ _=>cbv
 have hv:=vl hD
 by_cases h1:gG e=0
 ·by_cases h2:kj e.op
  ·have hR:bv p vars e=(iH,10):=by unfold bv;rw[if_neg (not_not_intro h1),if_pos h2]
   rw[hR]
   clear hR
   repeat' first|simp(disch:=omega)only[go_sem, *,h1,h2,decide_true]|apply ab<;>intro h<;>try omega|refine aq hv rfl rfl ?_|refine aq (gp e) rfl rfl ?_
   try rfl
  ·have cO:=qg hf (S7 p vars) e (m0 h1)
   have CO:=Lib.hid cO
   clear cO
   have hR: ∀x,(eD p vars e).2=x→x≠0→bv p vars e=(iH,x):= λx hx h0=>by unfold bv;rw[if_neg (not_not_intro h1),if_neg h2,hx,if_pos h0]
   have Z:(eD p vars e).2=0→bv p vars e=((eD p vars e).1,0):= λh0=>by unfold bv;rw[if_neg (not_not_intro h1),if_neg h2,if_neg (not_not_intro h0)]
   have HR:=Lib.hid hR
   have HR0:=Lib.hid Z
   clear hR Z
   repeat' first|simp(disch:=omega)only[go_sem, *,h1,h2,decide_false]|apply ab<;>intro h<;>try omega|refine aq hv rfl rfl ?_|refine aq (gp e) rfl rfl ?_
   refine ai (λk:Nat=>⟨[(32,I k),(31,I p.sizes.length),(30,.c (.pure (c7 p.sizes))),(9,.c (.ptr 4 0)),(6,.c (.ptr 2 0)),(5,.c (.ptr 1 0)),(1,.c (.pure (c7 vars)))], [(4,OO p 3),(3,.map .str none (js (kd [] 1 (p.sizes.take k)))),(2,RR iH),(1,zB e),(0,eJ p)],5,0⟩) (λk=>k≤p.sizes.length) (λk=>p.sizes.length-k) ⟨0, [],by omega,by simp[iH,kd,js,Jo]⟩ ?_
   clear h1 h2 hv
   intro k hk
   refine aa ?_
   by_cases n:k<p.sizes.length
   ·repeat' first|simp(disch:=omega)only[go_sem, *,ah n,wrap_i64,El,←wF n]|apply ab<;>intro h<;>try omega
    exact⟨k+1, [],by omega,by omega,by simp[iH,cn,dW]⟩
   ·have V:k=p.sizes.length:=by omega
    subst V
    rw[List.take_length]
    repeat clear n
    repeat clear hk
    repeat' first|simp(disch:=omega)only[go_sem, *]|apply ab<;>intro h<;>try omega
    refine ai (λk:Nat=>⟨[(44,I k),(43,I vars.length),(42,.c (.pure (c7 vars))),(9,.c (.ptr 4 0)),(6,.c (.ptr 2 0)),(5,.c (.ptr 1 0))], [(4,OO p 3),(3,.map .str none (js (kd (kd [] 1 p.sizes) 3 (vars.take k)))),(2,RR iH),(1,zB e),(0,eJ p)],5,0⟩) (λk=>k≤vars.length) (λk=>vars.length-k) ⟨0, [],by omega,by simp[iH,kd,cn,dW]⟩ ?_
    intro k hk
    refine aa ?_
    by_cases n:k<vars.length
    ·repeat' first|simp(disch:=omega)only[go_sem, *,ah n,wrap_i64,El,←wF n]|apply ab<;>intro h<;>try omega
     exact⟨k+1, [],by omega,by omega,by simp[iH,cn,dW]⟩
    ·have V:k=vars.length:=by omega
     subst V
     rw[List.take_length]
     repeat clear n
     repeat clear hk
     repeat' first|simp(disch:=omega)only[go_sem, *]|apply ab<;>intro h<;>try omega
     refine bA CO.out (mU (m:=3) rfl rfl rfl) (.inl rfl) ?_
     by_cases h3:(eD p vars e).2=0
     ·rw[HR0.out h3]
      clear HR HR0 CO
      generalize eD p vars e=r at*
      repeat' first|simp(disch:=omega)only[go_sem, *,h3]|apply ab<;>intro h<;>try omega
     ·rw[HR.out _ rfl h3]
      clear HR HR0 CO
      generalize eD p vars e=r at*
      repeat' first|simp(disch:=omega)only[go_sem, *,h3]|apply ab<;>intro h<;>try omega
      try rfl
 ·have hR:bv p vars e=(iH,gG e):=by unfold bv;rw[if_pos h1]
  rw[hR]
  clear hR
  repeat' first|simp(disch:=omega)only[go_sem, *,h1]|apply ab<;>intro h<;>try omega|refine aq hv rfl rfl ?_
  try rfl
set_option maxRecDepth 20000
set_option maxRecDepth 1000000
def Kc (p:bG) (K:KL):Prop:= ∀s,pN K s=1↔s∈p.sizes
theorem eW {p:bG} {K:KL} (hK:Kc p K) (l:bW):ac Ya 59 [I9 p K,da l.1 l.2] (I (bH p.sizes l)):=by
 refine ac.of mX (by simp) λhb=>aa ?_
 have hl:=rJ hb.2.1
 unfold bH
 conv in bh _ _=>cbv
 by_cases D:aI l.2
 ·rw[if_neg (not_not_intro D)]
  have cV:=cw l.1 l.2
  rw[if_pos D]at cV
  clear D
  repeat' first|simp(disch:=omega)only[go_sem, *]|apply ab<;>intro h<;>try omega|refine aq cV rfl rfl ?_
  refine ai (λk:Nat=>⟨[(13,I k),(12,I l.2.length),(11,.c (.pure (ay l.2))),(0,I9 p K)], [],0,0⟩) (λk=>k≤l.2.length∧dZ (λi=> ∀h:i<l.2.length,l.2[i].1∈p.sizes) k) (λk=>l.2.length-k) ⟨0, [],⟨by omega,.zero⟩,by simp⟩ ?_
  clear cV
  rintro k ⟨hk,f⟩
  refine aa ?_
  by_cases n:k<l.2.length
  ·have hm:=oi l.2[k].1 K
   rw[←zc]at hm
   have q:=hK l.2[k].1
   have R: ¬l.2[k].1∈p.sizes→ ¬fl [] p.sizes l:= λh h2=>h ((h2 _ (List.getElem_mem n)).resolve_left (by simp))
   cases hL:jj K l.2[k].1 with
   |none=>
    rw[hL]at hm
    rw[lJ hL]at q
    rw[if_pos (R λh=>absurd (q.2 h) (by decide))]
    clear hL q f R
    repeat' first|simp(disch:=omega)only[go_sem, *,ah n,mP,wrap_i64,hm,Option.map_none]|apply ab<;>intro h<;>try omega
   |some j=>
    rw[hL]at hm
    rw[iz hL]at q
    clear hL
    by_cases hj:j=1
    ·have HA:=Lib.hid (f.succ λ_=>q.1 hj)
     clear q f R
     repeat' first|simp(disch:=omega)only[go_sem, *,ah n,mP,wrap_i64,hm,Option.map_some,hj]|apply ab<;>intro h<;>try omega
     exact⟨k+1, [],⟨by omega,HA.out⟩,by omega,by simp⟩
    ·rw[if_pos (R λh=>hj (q.2 h))]
     clear q f R
     repeat' first|simp(disch:=omega)only[go_sem, *,ah n,mP,wrap_i64,hm,Option.map_some,hj]|apply ab<;>intro h<;>try omega
  ·have q:fl [] p.sizes l:= λm hm=>by
    obtain⟨i,hi,rfl⟩:=List.mem_iff_getElem.1 hm
    exact .inr (f i (by omega) hi)
   rw[if_neg (not_not_intro q)]
   clear f q
   repeat' first|simp(disch:=omega)only[go_sem, *]|apply ab<;>intro h<;>try omega
 ·rw[if_pos D]
  have cV:=cw l.1 l.2
  rw[if_neg D]at cV
  clear D
  repeat' first|simp(disch:=omega)only[go_sem, *]|apply ab<;>intro h<;>try omega|refine aq cV rfl rfl ?_
theorem jx {p:bG} {K:KL} (hK:Kc p K) (c:aU):ac Ya 27 [I9 p K,iS c] (I (bH p.sizes c.1)):=by
 refine ac.of j5 (by simp) λhb=>aa ?_
 have cV:=b6 c
 have cS:=eW hK c.1
 conv in bh _ _=>cbv
 by_cases D:aI c.1.2
 ·rw[if_pos D]at cV
  clear D
  generalize bH p.sizes c.1=r at*
  repeat' first|simp(disch:=omega)only[go_sem, *]|apply ab<;>intro h<;>try omega|refine aq cV rfl rfl ?_|refine aq cS rfl rfl ?_
 ·rw[if_neg D]at cV
  rw[show bH p.sizes c.1=1 from if_pos D]
  clear D
  repeat' first|simp(disch:=omega)only[go_sem, *]|apply ab<;>intro h<;>try omega|refine aq cV rfl rfl ?_
def qo (o:List ByteArray):List (MK×List AC):=o.map λa=>(MK.str a.data.toList, [.pure (pB true)])
theorem Lh (s:ByteArray): ∀o:List ByteArray,jb (qo o) (.str s.data.toList)=if s∈o then some [.pure (pB true)]else none
 | []=>rfl
 |a::r=>by
  have ih:=Lh s r
  simp only[qo,List.map_cons,jb]at ih ⊢
  by_cases h:a=s
  ·rw[if_pos (tD.2 h),if_pos (by rw[h];exact List.mem_cons_self)]
  ·rw[if_neg (λe=>h (tD.1 e)),ih]
   by_cases h2:s∈r
   ·rw[if_pos h2,if_pos (List.mem_cons_of_mem _ h2)]
   ·rw[if_neg h2,if_neg]
    intro hm
    rcases List.mem_cons.1 hm with rfl|hm
    ·exact h rfl
    ·exact h2 hm
theorem Np (s:ByteArray): ∀o:List ByteArray,¬s∈o→x9 (qo o) (.str s.data.toList) [.pure (pB true)]=qo (o++ [s])
 | [],_=>rfl
 |a::r,h=>by
  have ih:=Np s r λhm=>h (List.mem_cons_of_mem _ hm)
  simp only[qo,List.map_cons,x9,List.cons_append]at ih ⊢
  rw[if_neg (λe=>h (by rw[←tD.1 e];exact List.mem_cons_self)),ih]
theorem No (rl:List (Nat×Nat)): ∀o:List ByteArray,List.map (λx:MK×List AC=>(x.1,List.map (dE rl) x.2)) (qo o)=qo o
 | []=>rfl
 |x::r=>by
  have ih:=No rl r
  simp only[qo,List.map_cons]at ih ⊢
  rw[ih]
  rfl
theorem So (N:Nat): ∀o:List ByteArray,LW N (qo o)
 | []=>trivial
 |x::r=>⟨⟨trivial,trivial⟩,So N r⟩
theorem Jb {taken:List ByteArray} {s:ByteArray} (h: ¬fW s):aP taken s=7:=if_pos h
theorem Bb {taken:List ByteArray} {s:ByteArray} (h:fW s) (h2:s∈taken):aP taken s=8:=by unfold aP;rw[if_neg (not_not_intro h),if_pos h2]
theorem Kk {taken:List ByteArray} {s:ByteArray} (h:fW s) (h2: ¬s∈taken):aP taken s=0:=by unfold aP;rw[if_neg (not_not_intro h),if_neg h2]
theorem mS {p:bG} {K:KL} (hK:Kc p K) (d:uu) (hA:d.dims.length≤1000) (hB:d.red.length≤1000):ac Ya 61 [I9 p K,Ia d] (I (bF p.sizes p.sizes (d.dims++d.red))):=by
 refine ac.of nl (by simp) λhb=>aa ?_
 have cC:=A0 d.dims d.red hA hB
 have hI:(d.dims++d.red).length≤2000:=by simp;omega
 conv in bh _ _=>cbv
 generalize d.dims++d.red=L at*
 repeat' first|simp(disch:=omega)only[go_sem, *]|apply ab<;>intro h<;>try omega|refine aW cC rfl rfl ?_
 refine ai (λk:Nat=>⟨[(17,I k),(16,I L.length),(15,i6 fg L),(5,.c (.mref 1)),(0,I9 p K)], [(1,.map .str none (qo ((L.take k).map (·.1)))),(0,L0 d)],2,0⟩) (λk=>k≤L.length∧Hid (bF p.sizes p.sizes (L.take k)=0)) (λk=>L.length-k) ⟨0, [],⟨by omega,by show _=_;simp[bF]⟩,by simp[qo,Jo]⟩ ?_
 clear cC hA hB
 rintro k ⟨hk,f⟩
 refine aa ?_
 by_cases n:k<L.length
 ·have G:= λh1=>rG (sizes:=p.sizes) n f.out h1
  have O:= λh1 h2=>qT (sizes:=p.sizes) n f.out h1 h2
  have P:= λh1 h2=>Lib.hid (rm (sizes:=p.sizes) n f.out h1 h2)
  have cS:=eW hK L[k].2
  have q:=hK L[k].1
  have hm:=oi L[k].1 K
  rw[←zc]at hm
  have H:=Lh L[k].1 ((L.take k).map (·.1))
  have E:=Np L[k].1 ((L.take k).map (·.1))
  have hC:(L.take (k+1)).map (·.1)=(L.take k).map (·.1)++ [L[k].1]:=by rw[List.take_succ_eq_append_getElem n,List.map_append];rfl
  rw[←hC]at E
  clear f hC
  by_cases hi:fW L[k].1
  ·by_cases ho:L[k].1∈(L.take k).map (·.1)
   ·rw[if_pos ho]at H
    have hE:=Bb (taken:=p.sizes++(L.take k).map (·.1)) hi (List.mem_append_right _ ho)
    rw[G (by rw[hE];decide),hE]
    clear G O P E q hm ho hE
    repeat' first|simp(disch:=omega)only[go_sem, *,ah n,fg,wrap_i64,hi,decide_true,H]|apply ab<;>intro h<;>try omega|refine aq (bK _) rfl rfl ?_
   ·rw[if_neg ho]at H
    have E:=E ho
    by_cases hs:L[k].1∈p.sizes
    ·have hE:=Bb (taken:=p.sizes++(L.take k).map (·.1)) hi (List.mem_append_left _ hs)
     have hg:=q.2 hs
     rw[G (by rw[hE];decide),hE]
     cases hL:jj K L[k].1 with
     |none=>
      rw[lJ hL]at hg
      exact absurd hg (by decide)
     |some j=>
      rw[iz hL]at hg
      rw[hL,hg]at hm
      clear G O P E q ho hE hs hL hg
      repeat' first|simp(disch:=omega)only[go_sem, *,ah n,fg,wrap_i64,hi,decide_true,H,hm,Option.map_some]|apply ab<;>intro h<;>try omega|refine aq (bK _) rfl rfl ?_
    ·have hE:aP (p.sizes++(L.take k).map (·.1)) L[k].1=0:=Kk hi λh=>(List.mem_append.1 h).elim hs ho
     have hg: ¬pN K L[k].1=1:= λh=>hs (q.1 h)
     have T:(jb (oN (A2 K)) (.str L[k].1.data.toList)=none)∨ ∃j,jb (oN (A2 K)) (.str L[k].1.data.toList)=some [.pure (pI j)]∧ ¬j=1:=by
      rw[hm]
      cases hL:jj K L[k].1 with
      |none=>exact .inl rfl
      |some j=>exact .inr ⟨j,rfl,λh=>hg ((iz hL).trans h)⟩
     by_cases h2:bH p.sizes L[k].2=0
     ·have HN:=P hE h2
      rw[h2]at cS
      clear G O P q ho hE hs hm hg h2
      rcases T with hm|⟨j,hm,hj⟩
      ·repeat' first|simp(disch:=omega)only[go_sem, *,ah n,fg,wrap_i64,hi,decide_true,H,hm,E]|apply ab<;>intro h<;>try omega|refine aq (bK _) rfl rfl ?_|refine aq cS rfl rfl ?_
       exact⟨k+1, [],⟨by omega,HN⟩,by omega,by simp[No,So]⟩
      ·repeat' first|simp(disch:=omega)only[go_sem, *,ah n,fg,wrap_i64,hi,decide_true,H,hm,E,hj]|apply ab<;>intro h<;>try omega|refine aq (bK _) rfl rfl ?_|refine aq cS rfl rfl ?_
       exact⟨k+1, [],⟨by omega,HN⟩,by omega,by simp[No,So]⟩
     ·rw[O hE h2]
      clear G O P q ho hE hs hm hg
      rcases T with hm|⟨j,hm,hj⟩
      ·repeat' first|simp(disch:=omega)only[go_sem, *,ah n,fg,wrap_i64,hi,decide_true,H,hm,E,h2]|apply ab<;>intro h<;>try omega|refine aq (bK _) rfl rfl ?_|refine aq cS rfl rfl ?_
      ·repeat' first|simp(disch:=omega)only[go_sem, *,ah n,fg,wrap_i64,hi,decide_true,H,hm,E,hj,h2]|apply ab<;>intro h<;>try omega|refine aq (bK _) rfl rfl ?_|refine aq cS rfl rfl ?_
  ·have hE:=Jb (taken:=p.sizes++(L.take k).map (·.1)) hi
   rw[G (by rw[hE];decide),hE]
   clear G O P E q hm hE
   repeat' first|simp(disch:=omega)only[go_sem, *,ah n,fg,wrap_i64,hi,decide_false]|apply ab<;>intro h<;>try omega|refine aq (bK _) rfl rfl ?_
 ·have hz:=f.out
  rw[List.take_of_length_le (by omega)]at hz
  rw[hz]
  clear hz f
  repeat' first|simp(disch:=omega)only[go_sem, *]|apply ab<;>intro h<;>try omega
end Go.Proofs.YtiapgekjmcjjgaaGreatDoor
