import Derived.Test.YthbcbaembicdbaaGreatDoorV14d
import Derived.Test.YthbcbaembicdbaaGreatDoorV17e
set_option linter.unusedVariables false
set_option linter.unusedSimpArgs false
set_option maxRecDepth 20000
namespace Go.Proofs.YthbcbaembicdbaaGreatDoor
open Go.Abs Go.RowKit
abbrev MJ (p:bz) (K:KL):AV:= .c (.cptr [gn p.sizes,dg cP p.wher,dg ku p.params,dg eh p.defs,gn p.outs,.fmap .str none (Dk K)])
abbrev U5 (p:bz) (m:Nat):aU:= .var [.pure (gn p.sizes),.pure (dg cP p.wher),.pure (dg ku p.params),.pure (dg eh p.defs),.pure (gn p.outs),.mref m]
abbrev mK (K:KL):aU:= .map .str none (kb K)
theorem pz {mem:List (Nat×aU)} {c m:Nat} {p:bz} {K:KL} {rest rest':List AV} (h2:al mem c=some (U5 p m)) (h1:al mem m=some (mK K)) (hr:aV mem rest=some rest'):aV mem (.c (.ptr c 0)::rest)=some (MJ p K::rest'):=by
 simp[aV,ct,cU,cG,h2,bv,c9,cz,h1,OX,hr]
theorem bS (rl:List (Nat×Nat)): ∀K:KL,List.map (λx:MK×List AC=>(x.1,List.map (b8 rl) x.2)) (kb K)=kb K
 | []=>rfl
 |x::r=>by
  have ih:=bS rl r
  simp only[kb,List.map_cons]at ih ⊢
  rw[ih]
  rfl
theorem dM (N:Nat): ∀K:KL,Qj N (kb K)
 | []=>trivial
 |x::r=>⟨⟨trivial,trivial⟩,dM N r⟩
theorem Ol (N:Nat):Qj N []:=trivial
def Kn (p:bz) (vars:List ByteArray) (K:KL):Prop:= ∀s,s8 K s≠0↔s∈vars∨s∈p.sizes
theorem fE {p:bz} {vars:List ByteArray} {K:KL} (hK:Kn p vars K) (l:bU):af Tryz.prog lh [MJ p K,dR l.1 l.2] (I (eH p vars [l])):=by
 refine af.of tn (by simp) λhb=>aa ?_
 have hl:=vT hb.2.1
 rw[mT]
 simp only[kX]
 repeat' first|simp(disch:=omega) only[go_sem, *]|((with_reducible apply ab)<;>intro h<;>try omega)
 refine ap (λk:Nat=>⟨[(10,I k),(9,I l.2.length),(8,.c (.pure (aw l.2))),(0,MJ p K)], [],0,0⟩) (λk=>k≤l.2.length∧fY (λi=> ∀h:i<l.2.length,l.2[i].1∈vars∨l.2[i].1∈p.sizes) k) (λk=>l.2.length-k) ⟨0, [],⟨by omega,.zero⟩,by simp⟩ ?_
 rintro k ⟨hk,hall⟩
 refine aa ?_
 by_cases hlt:k<l.2.length
 ·have hm:=rQ l.2[k].1 K
  rw[←FY]at hm
  have hkn:=hK l.2[k].1
  cases hL:jF K l.2[k].1 with
  |none=>
   rw[hL]at hm
   rw[nw hL]at hkn
   rw[if_neg (show ¬fU vars p.sizes l from λh=>(hkn.2 (h _ (List.getElem_mem hlt))) rfl)]
   clear hL hkn hall
   repeat' first|simp(disch:=omega) only[go_sem, *,ai hlt,mP,wrap_i64,hm,Option.map_none]|((with_reducible apply ab)<;>intro h<;>try omega)
  |some j=>
   rw[hL]at hm
   rw[iY hL]at hkn
   clear hL
   by_cases hj:j=0
   ·rw[if_neg (show ¬fU vars p.sizes l from λh=>(hkn.2 (h _ (List.getElem_mem hlt))) hj)]
    clear hkn hall
    repeat' first|simp(disch:=omega) only[go_sem, *,ai hlt,mP,wrap_i64,hm,Option.map_some,hj]|((with_reducible apply ab)<;>intro h<;>try omega)
   ·have HA:=Lib.hid (hall.succ λ_=>hkn.1 hj)
    clear hkn hall
    repeat' first|simp(disch:=omega) only[go_sem, *,ai hlt,mP,wrap_i64,hm,Option.map_some,hj]|((with_reducible apply ab)<;>intro h<;>try omega)
    exact⟨k+1, [],⟨by omega,HA.out⟩,by omega,by simp⟩
 ·have hkn:fU vars p.sizes l:= λm hm=>by
   obtain⟨i,hi,rfl⟩:=List.mem_iff_getElem.1 hm
   exact hall i (by omega) hi
  rw[if_pos hkn]
  clear hall hkn
  repeat' first|simp(disch:=omega) only[go_sem, *]|((with_reducible apply ab)<;>intro h<;>try omega)
theorem pZ {p:bz} (hf:rI p) {vars:List ByteArray} {K:KL} (hK:Kn p vars K) (x:Ix):af Tryz.prog ka [MJ p K,aIx x] (I (jz p vars x)):=by
 refine af.of rz (by simp) λhb=>aa ?_
 have hl:x.2.2.length≤9223372036854775807:=by
  have:=hb.2.1
  simp[iI,sR,jt]at this
  omega
 have cF:=fE hK x.1
 simp only[jY]
 by_cases hfrom:x.2.1=⟨⟨[]⟩⟩
 ·rw[Rw hfrom]
  rw[mT]at cF
  repeat' first|simp(disch:=omega) only[go_sem, *,hfrom]|((with_reducible apply ab)<;>intro h<;>try omega)|(refine aY cF rfl rfl ?_)
 ·clear cF
  have hF:=gR hf x.2.1
  cases hfx:dJ p x.2.1 with
  |none=>
   rw[Nb hfrom hfx]
   rw[hfx]at hF
   clear hfx
   repeat' first|simp(disch:=omega) only[go_sem, *,hfrom]|((with_reducible apply ab)<;>intro h<;>try omega)|(refine el hF rfl rfl ?_)
  |some r=>
   obtain⟨t,d⟩:=r
   rw[Nx hfrom hfx]
   rw[hfx]at hF
   clear hfx
   by_cases ht:t.1=3
   ·rw[if_neg (not_not_intro ht)]
    by_cases hd:x.2.2.length=d.length
    ·rw[if_neg (not_not_intro hd)]
     have hd':(x.2.2.length:Int)=d.length:=by omega
     clear hd
     repeat' first|simp(disch:=omega) only[go_sem, *,hfrom,ht,hd']|((with_reducible apply ab)<;>intro h<;>try omega)|(refine el hF rfl rfl ?_)
     refine ap (λk:Nat=>⟨[(46,I k),(45,I x.2.2.length),(44,sH x.2.2),(0,MJ p K)], [],0,0⟩) (λk=>k≤x.2.2.length∧fY (λi=> ∀h:i<x.2.2.length,fU vars p.sizes x.2.2[i]) k) (λk=>x.2.2.length-k) ⟨0, [],⟨by omega,.zero⟩,by rw[hd'];simp⟩ ?_
     clear hd' hF ht hfrom
     rintro k ⟨hk,hall⟩
     refine aa ?_
     by_cases hlt:k<x.2.2.length
     ·have cF:=fE hK x.2.2[k]
      rw[mT]at cF
      by_cases hkn:fU vars p.sizes x.2.2[k]
      ·rw[if_pos hkn]at cF
       have HA:=Lib.hid (hall.succ λ_=>hkn)
       clear hall hkn
       repeat' first|simp(disch:=omega) only[go_sem, *,ai hlt,cR,wrap_i64]|((with_reducible apply ab)<;>intro h<;>try omega)|(refine aY cF rfl rfl ?_)
       exact⟨k+1, [],⟨by omega,HA.out⟩,by omega,by simp⟩
      ·rw[if_neg hkn]at cF
       have hR:eH p vars x.2.2=9:=if_neg λh=>hkn (h _ (List.getElem_mem hlt))
       rw[hR]
       clear hall hkn hR
       repeat' first|simp(disch:=omega) only[go_sem, *,ai hlt,cR,wrap_i64]|((with_reducible apply ab)<;>intro h<;>try omega)|(refine aY cF rfl rfl ?_)
     ·have hR:eH p vars x.2.2=0:=if_pos λl hm=>by
       obtain⟨i,hi,rfl⟩:=List.mem_iff_getElem.1 hm
       exact hall i (by omega) hi
      rw[hR]
      clear hall hR
      repeat' first|simp(disch:=omega) only[go_sem, *]|((with_reducible apply ab)<;>intro h<;>try omega)
    ·rw[if_pos hd]
     have hd': ¬(x.2.2.length:Int)=d.length:=by omega
     clear hd
     repeat' first|simp(disch:=omega) only[go_sem, *,hfrom,ht,hd']|((with_reducible apply ab)<;>intro h<;>try omega)|(refine el hF rfl rfl ?_)
   ·rw[if_pos ht]
    repeat' first|simp(disch:=omega) only[go_sem, *,hfrom,ht]|((with_reducible apply ab)<;>intro h<;>try omega)|(refine el hF rfl rfl ?_)
theorem rD {p:bz} (hf:rI p) {vars:List ByteArray} {K:KL} (hK:Kn p vars K) (e:Ex):af Tryz.prog lU [MJ p K,j5 e] (XP (jV p vars e)):=by
 refine af.of sW (by simp) λhb=>aa ?_
 have hl:=(qr hb.2).2
 simp only[lF]
 have hF:=gR hf e.name
 cases hfind:dJ p e.name with
 |none=>
  rw[hfind]at hF
  rw[Oi hfind]
  clear hfind
  repeat' first|simp(disch:=omega) only[go_sem, *]|((with_reducible apply ab)<;>intro h<;>try omega)|(refine el hF rfl rfl ?_)
  try rfl
 |some r=>
  obtain⟨t,dims⟩:=r
  rw[hfind]at hF
  by_cases hlen:e.idx.length=dims.length
  ·have hlen':(dims.length:Int)=e.idx.length:=by omega
   have HF:=Lib.hid hfind
   have HL:=Lib.hid hlen
   clear hlen hfind
   repeat' first|simp(disch:=omega) only[go_sem, *,hlen']|((with_reducible apply ab)<;>intro h<;>try omega)|(refine el hF rfl rfl ?_)
   refine ap (λk:Nat=>⟨[(36,I k),(35,I e.idx.length),(34,.c (.pure (dg fQ e.idx))),(6,.c (.ptr 2 0)),(4,.c (.ptr 1 0)),(0,MJ p K)], [(2,bTy t),(1,bTy pH),(0,R2 e)],3,0⟩) (λk=>k≤e.idx.length∧Hid (dV ((e.idx.map (jz p vars)).take k)=0)) (λk=>e.idx.length-k) ⟨0, [],⟨by omega,by show _=_;simp[dV]⟩,by simp[pH]⟩ ?_
   clear hF hlen'
   rintro k ⟨hk,hall⟩
   refine aa ?_
   by_cases hlt:k<e.idx.length
   ·have cI:=pZ hf hK e.idx[k]
    by_cases hz:jz p vars e.idx[k]=0
    ·have HN:Hid (dV ((e.idx.map (jz p vars)).take (k+1))=0):=Qc hlt hall.out hz
     clear HF HL hall
     repeat' first|simp(disch:=omega) only[go_sem, *,ai hlt,fQ,wrap_i64,hz]|((with_reducible apply ab)<;>intro h<;>try omega)|(refine aY cI rfl rfl ?_)
     exact⟨k+1, [],⟨by omega,HN⟩,by omega,by simp[pH]⟩
    ·rw[RW HF.out HL.out (Qs hlt hall.out hz) hz]
     clear HF HL hall
     repeat' first|simp(disch:=omega) only[go_sem, *,ai hlt,fQ,wrap_i64,hz]|((with_reducible apply ab)<;>intro h<;>try omega)|(refine aY cI rfl rfl ?_)
     try rfl
   ·have hz:=hall.out
    rw[List.take_of_length_le (by simp;omega)]at hz
    rw[VS HF.out HL.out hz]
    clear HF HL hall hz
    repeat' first|simp(disch:=omega) only[go_sem, *]|((with_reducible apply ab)<;>intro h<;>try omega)
  ·have hlen': ¬(dims.length:Int)=e.idx.length:=by omega
   rw[Ql hfind hlen]
   clear hlen hfind
   repeat' first|simp(disch:=omega) only[go_sem, *,hlen']|((with_reducible apply ab)<;>intro h<;>try omega)|(refine el hF rfl rfl ?_)
   try rfl
theorem nr (a:Ty):af Tryz.prog gK [I0 a,I0 a] (I 0):=by
 refine af.of kc (by simp) λhb=>aa ?_
 simp only[gM]
 repeat' first|simp(disch:=omega) only[go_sem, *]|((with_reducible apply ab)<;>intro h<;>try omega)
theorem l9 {a b:Ty} (h: ¬a=b):af Tryz.prog gK [I0 a,I0 b] (I 10):=by
 refine af.of kc (by simp) λhb=>aa ?_
 simp only[gM]
 have HN:=Lib.hid h
 clear h
 repeat' first|simp(disch:=omega) only[go_sem, *]|((with_reducible apply ab)<;>intro h<;>try omega)
 all_goals first
  |exact absurd (S7 h) HN.out
  |rfl
set_option maxHeartbeats 4000000 in
theorem vd {p:bz} (hf:rI p) {vars:List ByteArray} {K:KL} (hK:Kn p vars K) (e:Ex):lX e→af Tryz.prog iF [MJ p K,j5 e] (XP (eS p vars e)):=by
 refine Ex.ind (p:= λe=>lX e→af Tryz.prog iF [MJ p K,j5 e] (XP (eS p vars e))) (λe ih hr=> ?_) e
 refine af.of wi (by simp) λhb=>aa ?_
 have hl:=(qr hb.2).1
 obtain⟨ha,ho1,ho2,_⟩:=jk hr
 have ha3:e.args.length≤3:=by rcases La ho1 ho2 with h|h|h|h|h|h<;>omega
 have HA:=Lib.hid ha
 clear ha
 simp only[na]
 repeat' first|simp(disch:=omega) only[go_sem, *]|((with_reducible apply ab)<;>intro h<;>try omega)
 refine fj 6 67 5 rfl (by decide) ?_
 refine ap (λs:Nat×List Ty=>⟨[(15,I s.1),(14,I e.args.length),(13,.c (.pure (.slice (e.args.map Ex.row)))),(6,.c (.ref 2)),(4,.c (.ptr 1 0)),(3,.c (.ptr 0 0)),(0,MJ p K)], [(2,.arr 67 5 (s.2.map tyP)),(1,bTy pH),(0,R2 e)],3,0⟩) (λs=>s.1≤e.args.length∧Hid (d5 p vars (e.args.take s.1)= .inr s.2)) (λs=>e.args.length-s.1) ⟨(0, []), [],⟨by omega,by show _=_;simp[d5]⟩,by simp[pH]⟩ ?_
 rintro⟨k,ts⟩ ⟨hk,hall⟩
 refine aa ?_
 simp only at hk hall
 by_cases hlt:k<e.args.length
 ·have hih:=ih _ (List.getElem_mem hlt) (nU hr (List.getElem_mem hlt))
  have hlk:ts.length=k:=by
   have:=A6 hall.out
   rw[this,List.length_take]
   omega
  by_cases h0:(eS p vars e.args[k]).2=0
  ·have hn:=NL hlt hall.out h0
   have HN:=Lib.hid hn
   clear ih hr hall hn
   generalize eS p vars e.args[k]=r at*
   have ht:ts.map tyP++ [tyP r.1]=(ts++ [r.1]).map tyP:=by simp
   simp only[tyP]at ht
   have HT:=Lib.hid ht
   clear ht
   repeat' first|simp(disch:=omega) only[go_sem, *,ai hlt,Ex.row_eq,wrap_i64,h0]|((with_reducible apply ab)<;>intro h<;>try omega)|(refine aY hih rfl rfl ?_)|(refine bf rfl (by intro h;cases h) (aO rfl) (by simp;omega) (by simp;omega) ?_)
   rw[HT.out]
   exact⟨(k+1,ts++ [r.1]), [(2,5)],⟨by omega,HN⟩,by show _-_<_-_;omega,by simp⟩
  ·have hn:=MD hlt hall.out h0
   have hR:eS p vars e=(pH,(eS p vars e.args[k]).2):=by conv=>lhs;rw[vP,hn]
   rw[hR]
   clear ih hr hall hn hR
   generalize eS p vars e.args[k]=r at*
   repeat' first|simp(disch:=omega) only[go_sem, *,ai hlt,Ex.row_eq,wrap_i64,h0]|((with_reducible apply ab)<;>intro h<;>try omega)|(refine aY hih rfl rfl ?_)
   try rfl
 ·have hts:=hall.out
  rw[List.take_of_length_le (by omega)]at hts
  have hlk:=A6 hts
  have hR:eS p vars e=b9 p vars e ts:=by conv=>lhs;rw[vP,hts]
  have hrd:=rD hf hK e
  have hfo:=fE hK e.lin
  clear ih hr hall hts
  have hts:=HA.out
  clear HA
  rcases La ho1 ho2 with⟨g|g|g,h2⟩|⟨g|g|g,h2⟩|⟨g,h2⟩|⟨g,h2⟩|⟨g,h2⟩|⟨g,h2⟩
  ·rw[hR.trans (show b9 p vars e ts=(e.ty,0) by simp[b9,g])]
   clear hR hlk h2 hts hrd hfo
   repeat' first|simp(disch:=omega) only[go_sem, *,g]|((with_reducible apply ab)<;>intro h<;>try omega)
  ·rw[hR.trans (show b9 p vars e ts=((3,0,0,0,0),eH p vars [e.lin]) by simp[b9,g])]
   clear hR hlk h2 hts hrd
   repeat' first|simp(disch:=omega) only[go_sem, *,g]|((with_reducible apply ab)<;>intro h<;>try omega)|(refine aY hfo rfl rfl ?_)
  ·rw[hR.trans (show b9 p vars e ts=jV p vars e by simp[b9,g])]
   clear hR hlk h2 hts hfo
   simp only[j5,g]at hrd
   repeat' first|simp(disch:=omega) only[go_sem, *,g]|((with_reducible apply ab)<;>intro h<;>try omega)|(refine aY hrd rfl rfl ?_)
  ·obtain⟨a,rfl⟩:=abx (l:=ts) (by omega)
   rw[hR.trans (show b9 p vars e [a]=(a,0) by simp[b9,g])]
   clear hR hlk h2 hts hrd hfo
   repeat' first|simp(disch:=omega) only[go_sem, *,g,Int.toNat_zero]|((with_reducible apply ab)<;>intro h<;>try omega)
  ·rw[hR.trans (show b9 p vars e ts=(e.ty,0) by simp[b9,g])]
   clear hR hlk h2 hts hrd hfo
   repeat' first|simp(disch:=omega) only[go_sem, *,g]|((with_reducible apply ab)<;>intro h<;>try omega)
  ·rw[hR.trans (show b9 p vars e ts=(pH,0) by simp[b9,g])]
   clear hR hlk h2 hts hrd hfo
   repeat' first|simp(disch:=omega) only[go_sem, *,g]|((with_reducible apply ab)<;>intro h<;>try omega)
   try rfl
  ·obtain⟨a,b,c,rfl⟩:=abO (l:=ts) (by omega)
   by_cases hbc:b=c
   ·subst hbc
    rw[hR.trans (show b9 p vars e [a,b,b]=(b,0) by simp[b9,g])]
    have cs:=nr b
    clear hR hlk h2 hts hrd hfo
    repeat' first|simp(disch:=omega) only[go_sem, *,g,Int.toNat_zero,show Int.toNat 1=1 from rfl,show Int.toNat 2=2 from rfl]|((with_reducible apply ab)<;>intro h<;>try omega)|(with_reducible apply ah)|(with_reducible refine aj (λh=> ?_) ?_)|(refine aY cs rfl rfl ?_)
   ·rw[hR.trans (show b9 p vars e [a,b,c]=(b,10) by simp[b9,g,hbc])]
    have cs:=l9 hbc
    clear hR hlk h2 hts hrd hfo hbc
    repeat' first|simp(disch:=omega) only[go_sem, *,g,Int.toNat_zero,show Int.toNat 1=1 from rfl,show Int.toNat 2=2 from rfl]|((with_reducible apply ab)<;>intro h<;>try omega)|(with_reducible apply ah)|(with_reducible refine aj (λh=> ?_) ?_)|(refine aY cs rfl rfl ?_)
  ·obtain⟨a,b,rfl⟩:=aac (l:=ts) (by omega)
   rcases g with g|g|g
   all_goals
    by_cases hbc:a=b
    ·subst hbc
     rw[hR.trans (show b9 p vars e [a,a]=(pH,0) by simp[b9,g])]
     have cs:=nr a
     clear hR hlk h2 hts hrd hfo
     repeat' first|simp(disch:=omega) only[go_sem, *,g,Int.toNat_zero,show Int.toNat 1=1 from rfl]|((with_reducible apply ab)<;>intro h<;>try omega)|(refine aY cs rfl rfl ?_)
     try rfl
    ·rw[hR.trans (show b9 p vars e [a,b]=(pH,10) by simp[b9,g,hbc])]
     have cs:=l9 hbc
     clear hR hlk h2 hts hrd hfo hbc
     repeat' first|simp(disch:=omega) only[go_sem, *,g,Int.toNat_zero,show Int.toNat 1=1 from rfl]|((with_reducible apply ab)<;>intro h<;>try omega)|(refine aY cs rfl rfl ?_)
     try rfl
  ·rcases g with g|g
   all_goals
    rw[hR.trans (show b9 p vars e ts=(pH,0) by simp[b9,g])]
    clear hR hlk h2 hts hrd hfo
    repeat' first|simp(disch:=omega) only[go_sem, *,g]|((with_reducible apply ab)<;>intro h<;>try omega)
    try rfl
  ·obtain⟨a,b,rfl⟩:=aac (l:=ts) (by omega)
   have h3: ¬e.op=1∧ ¬e.op=2∧ ¬e.op=3∧ ¬e.op=12∧ ¬e.op=8∧ ¬e.op=11∧ ¬16≤e.op∧ ¬13≤e.op∧ ¬e.op=13∧ ¬e.op=14∧ ¬e.op=15∧ ¬e.op=16∧ ¬e.op=17∧ ¬e.op=18:=by omega
   obtain⟨g1,g2,g3,g4,g5,g6,g7,g8,g9,g10,g11,g12,g13,g14⟩:=h3
   clear g
   by_cases hbc:a=b
   ·subst hbc
    rw[hR.trans (show b9 p vars e [a,a]=(a,0) by simp[b9,g1,g2,g3,g4,g5,g6,g7,g8])]
    have cs:=nr a
    clear hR hlk h2 hts hrd hfo g7 g8
    repeat' first|simp(disch:=omega) only[go_sem, *,g1,g2,g3,g4,g5,g6,g9,g10,g11,g12,g13,g14,Int.toNat_zero,show Int.toNat 1=1 from rfl]|((with_reducible apply ab)<;>intro h<;>try omega)|(with_reducible apply ah)|(with_reducible refine aj (λh=> ?_) ?_)|(refine aY cs rfl rfl ?_)
   ·rw[hR.trans (show b9 p vars e [a,b]=(a,10) by simp[b9,g1,g2,g3,g4,g5,g6,g7,g8,hbc])]
    have cs:=l9 hbc
    clear hR hlk h2 hts hrd hfo hbc g7 g8
    repeat' first|simp(disch:=omega) only[go_sem, *,g1,g2,g3,g4,g5,g6,g9,g10,g11,g12,g13,g14,Int.toNat_zero,show Int.toNat 1=1 from rfl]|((with_reducible apply ab)<;>intro h<;>try omega)|(with_reducible apply ah)|(with_reducible refine aj (λh=> ?_) ?_)|(refine aY cs rfl rfl ?_)
theorem Zg (p:bz) (vars:List ByteArray):Kn p vars (kZ (kZ [] 1 p.sizes) 3 vars):= λs=>by
 rw[qR,qR,Dp]
 by_cases h1:s∈vars
 ·simp[h1]
 ·by_cases h2:s∈p.sizes
  ·simp[h1,h2]
  ·simp[h1,h2]
set_option maxHeartbeats 2000000 in
theorem xC {p:bz} (hf:rI p) (vars:List ByteArray) {e:Ex} (h64: ∀a∈e.pre,GC a.val):af Tryz.prog qW [jE p,.c (.pure (gn vars)),j5 e] (XP (du p vars e)):=by
 refine af.of yK (by simp) λhb=>aa ?_
 have hl:vars.length≤9223372036854775807:=by
  have:=hb.2.1
  simp[iI,jt]at this
  omega
 have hl2:p.sizes.length≤9223372036854775807:=by
  have:=hb.1
  simp[iI,sR,jt]at this
  omega
 simp only[pX]
 have hv:=yO h64
 by_cases h1:jC e=0
 ·by_cases h2:vr e.op
  ·have hR:du p vars e=(pH,10):=by unfold du;rw[if_neg (not_not_intro h1),if_pos h2]
   rw[hR]
   clear hR
   repeat' first|simp(disch:=omega) only[go_sem, *,h1,h2,decide_true]|((with_reducible apply ab)<;>intro h<;>try omega)|(refine aY hv rfl rfl ?_)|(refine aY (gy e) rfl rfl ?_)
   try rfl
  ·have cO:=vd hf (Zg p vars) e (vU h1)
   have CO:=Lib.hid cO
   clear cO
   have hR: ∀x,(eS p vars e).2=x→x≠0→du p vars e=(pH,x):= λx hx h0=>by unfold du;rw[if_neg (not_not_intro h1),if_neg h2,hx,if_pos h0]
   have hR0:(eS p vars e).2=0→du p vars e=((eS p vars e).1,0):= λh0=>by unfold du;rw[if_neg (not_not_intro h1),if_neg h2,if_neg (not_not_intro h0)]
   have HR:=Lib.hid hR
   have HR0:=Lib.hid hR0
   clear hR hR0
   repeat' first|simp(disch:=omega) only[go_sem, *,h1,h2,decide_false]|((with_reducible apply ab)<;>intro h<;>try omega)|(refine aY hv rfl rfl ?_)|(refine aY (gy e) rfl rfl ?_)
   refine ap (λk:Nat=>⟨[(32,I k),(31,I p.sizes.length),(30,.c (.pure (gn p.sizes))),(9,.c (.ptr 4 0)),(6,.c (.ptr 2 0)),(5,.c (.ptr 1 0)),(1,.c (.pure (gn vars)))], [(4,U5 p 3),(3,.map .str none (kb (kZ [] 1 (p.sizes.take k)))),(2,bTy pH),(1,R2 e),(0,kx p)],5,0⟩) (λk=>k≤p.sizes.length) (λk=>p.sizes.length-k) ⟨0, [],by omega,by simp[pH,kZ,kb,Ol]⟩ ?_
   clear h1 h2 hv
   intro k hk
   refine aa ?_
   by_cases hlt:k<p.sizes.length
   ·repeat' first|simp(disch:=omega) only[go_sem, *,ai hlt,wrap_i64,JR,←AK hlt]|((with_reducible apply ab)<;>intro h<;>try omega)
    exact⟨k+1, [],by omega,by omega,by simp[pH,bS,dM]⟩
   ·have hkp:k=p.sizes.length:=by omega
    subst hkp
    rw[List.take_length]
    repeat clear hlt
    repeat clear hk
    repeat' first|simp(disch:=omega) only[go_sem, *]|((with_reducible apply ab)<;>intro h<;>try omega)
    refine ap (λk:Nat=>⟨[(44,I k),(43,I vars.length),(42,.c (.pure (gn vars))),(9,.c (.ptr 4 0)),(6,.c (.ptr 2 0)),(5,.c (.ptr 1 0))], [(4,U5 p 3),(3,.map .str none (kb (kZ (kZ [] 1 p.sizes) 3 (vars.take k)))),(2,bTy pH),(1,R2 e),(0,kx p)],5,0⟩) (λk=>k≤vars.length) (λk=>vars.length-k) ⟨0, [],by omega,by simp[pH,kZ,bS,dM]⟩ ?_
    intro k hk
    refine aa ?_
    by_cases hlt:k<vars.length
    ·repeat' first|simp(disch:=omega) only[go_sem, *,ai hlt,wrap_i64,JR,←AK hlt]|((with_reducible apply ab)<;>intro h<;>try omega)
     exact⟨k+1, [],by omega,by omega,by simp[pH,bS,dM]⟩
    ·have hkp:k=vars.length:=by omega
     subst hkp
     rw[List.take_length]
     repeat clear hlt
     repeat clear hk
     repeat' first|simp(disch:=omega) only[go_sem, *]|((with_reducible apply ab)<;>intro h<;>try omega)
     refine ac CO.out (pz (m:=3) rfl rfl rfl) (.inl rfl) ?_
     by_cases h3:(eS p vars e).2=0
     ·rw[HR0.out h3]
      clear HR HR0 CO
      generalize eS p vars e=r at*
      repeat' first|simp(disch:=omega) only[go_sem, *,h3]|((with_reducible apply ab)<;>intro h<;>try omega)
     ·rw[HR.out _ rfl h3]
      clear HR HR0 CO
      generalize eS p vars e=r at*
      repeat' first|simp(disch:=omega) only[go_sem, *,h3]|((with_reducible apply ab)<;>intro h<;>try omega)
      try rfl
 ·have hR:du p vars e=(pH,jC e):=by unfold du;rw[if_pos h1]
  rw[hR]
  clear hR
  repeat' first|simp(disch:=omega) only[go_sem, *,h1]|((with_reducible apply ab)<;>intro h<;>try omega)|(refine aY hv rfl rfl ?_)
  try rfl
def Kc (p:bz) (K:KL):Prop:= ∀s,s8 K s=1↔s∈p.sizes
theorem eD {p:bz} {K:KL} (hK:Kc p K) (l:bU):af Tryz.prog ji [MJ p K,dR l.1 l.2] (I (cq p.sizes l)):=by
 refine af.of o9 (by simp) λhb=>aa ?_
 have hl:=vT hb.2.1
 unfold cq
 simp only[i0]
 by_cases hok:bn l.2
 ·rw[if_neg (not_not_intro hok)]
  have cV:=bG l.1 l.2
  rw[if_pos hok]at cV
  clear hok
  repeat' first|simp(disch:=omega) only[go_sem, *]|((with_reducible apply ab)<;>intro h<;>try omega)|(refine aY cV rfl rfl ?_)
  refine ap (λk:Nat=>⟨[(13,I k),(12,I l.2.length),(11,.c (.pure (aw l.2))),(0,MJ p K)], [],0,0⟩) (λk=>k≤l.2.length∧fY (λi=> ∀h:i<l.2.length,l.2[i].1∈p.sizes) k) (λk=>l.2.length-k) ⟨0, [],⟨by omega,.zero⟩,by simp⟩ ?_
  clear cV
  rintro k ⟨hk,hall⟩
  refine aa ?_
  by_cases hlt:k<l.2.length
  ·have hm:=rQ l.2[k].1 K
   rw[←FY]at hm
   have hkn:=hK l.2[k].1
   have hno: ¬l.2[k].1∈p.sizes→ ¬fU [] p.sizes l:= λh h2=>h ((h2 _ (List.getElem_mem hlt)).resolve_left (by simp))
   cases hL:jF K l.2[k].1 with
   |none=>
    rw[hL]at hm
    rw[nw hL]at hkn
    rw[if_pos (hno λh=>absurd (hkn.2 h) (by decide))]
    clear hL hkn hall hno
    repeat' first|simp(disch:=omega) only[go_sem, *,ai hlt,mP,wrap_i64,hm,Option.map_none]|((with_reducible apply ab)<;>intro h<;>try omega)
   |some j=>
    rw[hL]at hm
    rw[iY hL]at hkn
    clear hL
    by_cases hj:j=1
    ·have HA:=Lib.hid (hall.succ λ_=>hkn.1 hj)
     clear hkn hall hno
     repeat' first|simp(disch:=omega) only[go_sem, *,ai hlt,mP,wrap_i64,hm,Option.map_some,hj]|((with_reducible apply ab)<;>intro h<;>try omega)
     exact⟨k+1, [],⟨by omega,HA.out⟩,by omega,by simp⟩
    ·rw[if_pos (hno λh=>hj (hkn.2 h))]
     clear hkn hall hno
     repeat' first|simp(disch:=omega) only[go_sem, *,ai hlt,mP,wrap_i64,hm,Option.map_some,hj]|((with_reducible apply ab)<;>intro h<;>try omega)
  ·have hkn:fU [] p.sizes l:= λm hm=>by
    obtain⟨i,hi,rfl⟩:=List.mem_iff_getElem.1 hm
    exact .inr (hall i (by omega) hi)
   rw[if_neg (not_not_intro hkn)]
   clear hall hkn
   repeat' first|simp(disch:=omega) only[go_sem, *]|((with_reducible apply ab)<;>intro h<;>try omega)
 ·rw[if_pos hok]
  have cV:=bG l.1 l.2
  rw[if_neg hok]at cV
  clear hok
  repeat' first|simp(disch:=omega) only[go_sem, *]|((with_reducible apply ab)<;>intro h<;>try omega)|(refine aY cV rfl rfl ?_)
theorem kG {p:bz} {K:KL} (hK:Kc p K) (c:aR):af Tryz.prog fP [MJ p K,iG c] (I (cq p.sizes c.1)):=by
 refine af.of ld (by simp) λhb=>aa ?_
 have cV:=bP c
 have cS:=eD hK c.1
 simp only[fI]
 by_cases hok:bn c.1.2
 ·rw[if_pos hok]at cV
  clear hok
  generalize cq p.sizes c.1=r at*
  repeat' first|simp(disch:=omega) only[go_sem, *]|((with_reducible apply ab)<;>intro h<;>try omega)|(refine aY cV rfl rfl ?_)|(refine aY cS rfl rfl ?_)
 ·rw[if_neg hok]at cV
  rw[show cq p.sizes c.1=1 from if_pos hok]
  clear hok
  repeat' first|simp(disch:=omega) only[go_sem, *]|((with_reducible apply ab)<;>intro h<;>try omega)|(refine aY cV rfl rfl ?_)
def uT (o:List ByteArray):List (MK×List AC):=o.map λa=>(MK.str a.data.toList, [.pure (pB true)])
theorem PL (s:ByteArray): ∀o:List ByteArray,iy (uT o) (.str s.data.toList)=if s∈o then some [.pure (pB true)]else none
 | []=>rfl
 |a::r=>by
  have ih:=PL s r
  simp only[uT,List.map_cons,iy]at ih ⊢
  by_cases h:a=s
  ·rw[if_pos (yf.2 h),if_pos (by rw[h];exact List.mem_cons_self)]
  ·rw[if_neg (λe=>h (yf.1 e)),ih]
   by_cases h2:s∈r
   ·rw[if_pos h2,if_pos (List.mem_cons_of_mem _ h2)]
   ·rw[if_neg h2,if_neg]
    intro hm
    rcases List.mem_cons.1 hm with rfl|hm
    ·exact h rfl
    ·exact h2 hm
theorem Vp (s:ByteArray): ∀o:List ByteArray,¬s∈o→Bk (uT o) (.str s.data.toList) [.pure (pB true)]=uT (o++ [s])
 | [],_=>rfl
 |a::r,h=>by
  have ih:=Vp s r λhm=>h (List.mem_cons_of_mem _ hm)
  simp only[uT,List.map_cons,Bk,List.cons_append]at ih ⊢
  rw[if_neg (λe=>h (by rw[←yf.1 e];exact List.mem_cons_self)),ih]
theorem UK (rl:List (Nat×Nat)): ∀o:List ByteArray,List.map (λx:MK×List AC=>(x.1,List.map (b8 rl) x.2)) (uT o)=uT o
 | []=>rfl
 |x::r=>by
  have ih:=UK rl r
  simp only[uT,List.map_cons]at ih ⊢
  rw[ih]
  rfl
theorem Zo (N:Nat): ∀o:List ByteArray,Qj N (uT o)
 | []=>trivial
 |x::r=>⟨⟨trivial,trivial⟩,Zo N r⟩
theorem M2 {taken:List ByteArray} {s:ByteArray} (h: ¬gk s):be taken s=7:=if_pos h
theorem FB {taken:List ByteArray} {s:ByteArray} (h:gk s) (h2:s∈taken):be taken s=8:=by unfold be;rw[if_neg (not_not_intro h),if_pos h2]
theorem MH {taken:List ByteArray} {s:ByteArray} (h:gk s) (h2: ¬s∈taken):be taken s=0:=by unfold be;rw[if_neg (not_not_intro h),if_neg h2]
set_option maxHeartbeats 1000000 in
theorem py {p:bz} {K:KL} (hK:Kc p K) (d:y5) (hd1:d.dims.length≤1000) (hd2:d.red.length≤1000):af Tryz.prog jL [MJ p K,Qa d] (I (cK p.sizes p.sizes (d.dims++d.red))):=by
 refine af.of qf (by simp) λhb=>aa ?_
 have cC:=E6 d.dims d.red hd1 hd2
 have hlL:(d.dims++d.red).length≤2000:=by simp;omega
 simp only[jK]
 generalize d.dims++d.red=L at*
 repeat' first|simp(disch:=omega) only[go_sem, *]|((with_reducible apply ab)<;>intro h<;>try omega)|(refine el cC rfl rfl ?_)
 refine ap (λk:Nat=>⟨[(17,I k),(16,I L.length),(15,gG ic L),(5,.c (.mref 1)),(0,MJ p K)], [(1,.map .str none (uT ((L.take k).map (·.1)))),(0,QD d)],2,0⟩) (λk=>k≤L.length∧Hid (cK p.sizes p.sizes (L.take k)=0)) (λk=>L.length-k) ⟨0, [],⟨by omega,by show _=_;simp[cK]⟩,by simp[uT,Ol]⟩ ?_
 clear cC hd1 hd2
 rintro k ⟨hk,hall⟩
 refine aa ?_
 by_cases hlt:k<L.length
 ·have hn1:= λh1=>KO (sizes:=p.sizes) hlt hall.out h1
  have hn2:= λh1 h2=>Mp (sizes:=p.sizes) hlt hall.out h1 h2
  have hn3:= λh1 h2=>Lib.hid (LM (sizes:=p.sizes) hlt hall.out h1 h2)
  have cS:=eD hK L[k].2
  have hkn:=hK L[k].1
  have hm:=rQ L[k].1 K
  rw[←FY]at hm
  have hmo:=PL L[k].1 ((L.take k).map (·.1))
  have hso:=Vp L[k].1 ((L.take k).map (·.1))
  have htk:(L.take (k+1)).map (·.1)=(L.take k).map (·.1)++ [L[k].1]:=by rw[List.take_succ_eq_append_getElem hlt,List.map_append];rfl
  rw[←htk]at hso
  clear hall htk
  by_cases hi:gk L[k].1
  ·by_cases ho:L[k].1∈(L.take k).map (·.1)
   ·rw[if_pos ho]at hmo
    have hE:=FB (taken:=p.sizes++(L.take k).map (·.1)) hi (List.mem_append_right _ ho)
    rw[hn1 (by rw[hE];decide),hE]
    clear hn1 hn2 hn3 hso hkn hm ho hE
    repeat' first|simp(disch:=omega) only[go_sem, *,ai hlt,ic,wrap_i64,hi,decide_true,hmo]|((with_reducible apply ab)<;>intro h<;>try omega)|(refine aY (bu _) rfl rfl ?_)
   ·rw[if_neg ho]at hmo
    have hso:=hso ho
    by_cases hs:L[k].1∈p.sizes
    ·have hE:=FB (taken:=p.sizes++(L.take k).map (·.1)) hi (List.mem_append_left _ hs)
     have hg:=hkn.2 hs
     rw[hn1 (by rw[hE];decide),hE]
     cases hL:jF K L[k].1 with
     |none=>
      rw[nw hL]at hg
      exact absurd hg (by decide)
     |some j=>
      rw[iY hL]at hg
      rw[hL,hg]at hm
      clear hn1 hn2 hn3 hso hkn ho hE hs hL hg
      repeat' first|simp(disch:=omega) only[go_sem, *,ai hlt,ic,wrap_i64,hi,decide_true,hmo,hm,Option.map_some]|((with_reducible apply ab)<;>intro h<;>try omega)|(refine aY (bu _) rfl rfl ?_)
    ·have hE:be (p.sizes++(L.take k).map (·.1)) L[k].1=0:=MH hi λh=>(List.mem_append.1 h).elim hs ho
     have hg: ¬s8 K L[k].1=1:= λh=>hs (hkn.1 h)
     have hcase:(iy (pE (Dk K)) (.str L[k].1.data.toList)=none)∨ ∃j,iy (pE (Dk K)) (.str L[k].1.data.toList)=some [.pure (pI j)]∧ ¬j=1:=by
      rw[hm]
      cases hL:jF K L[k].1 with
      |none=>exact .inl rfl
      |some j=>exact .inr ⟨j,rfl,λh=>hg ((iY hL).trans h)⟩
     by_cases h2:cq p.sizes L[k].2=0
     ·have HN:=hn3 hE h2
      rw[h2]at cS
      clear hn1 hn2 hn3 hkn ho hE hs hm hg h2
      rcases hcase with hm|⟨j,hm,hj⟩
      ·repeat' first|simp(disch:=omega) only[go_sem, *,ai hlt,ic,wrap_i64,hi,decide_true,hmo,hm,hso]|((with_reducible apply ab)<;>intro h<;>try omega)|(refine aY (bu _) rfl rfl ?_)|(refine aY cS rfl rfl ?_)
       exact⟨k+1, [],⟨by omega,HN⟩,by omega,by simp[UK,Zo]⟩
      ·repeat' first|simp(disch:=omega) only[go_sem, *,ai hlt,ic,wrap_i64,hi,decide_true,hmo,hm,hso,hj]|((with_reducible apply ab)<;>intro h<;>try omega)|(refine aY (bu _) rfl rfl ?_)|(refine aY cS rfl rfl ?_)
       exact⟨k+1, [],⟨by omega,HN⟩,by omega,by simp[UK,Zo]⟩
     ·rw[hn2 hE h2]
      clear hn1 hn2 hn3 hkn ho hE hs hm hg
      rcases hcase with hm|⟨j,hm,hj⟩
      ·repeat' first|simp(disch:=omega) only[go_sem, *,ai hlt,ic,wrap_i64,hi,decide_true,hmo,hm,hso,h2]|((with_reducible apply ab)<;>intro h<;>try omega)|(refine aY (bu _) rfl rfl ?_)|(refine aY cS rfl rfl ?_)
      ·repeat' first|simp(disch:=omega) only[go_sem, *,ai hlt,ic,wrap_i64,hi,decide_true,hmo,hm,hso,hj,h2]|((with_reducible apply ab)<;>intro h<;>try omega)|(refine aY (bu _) rfl rfl ?_)|(refine aY cS rfl rfl ?_)
  ·have hE:=M2 (taken:=p.sizes++(L.take k).map (·.1)) hi
   rw[hn1 (by rw[hE];decide),hE]
   clear hn1 hn2 hn3 hso hkn hm hE
   repeat' first|simp(disch:=omega) only[go_sem, *,ai hlt,ic,wrap_i64,hi,decide_false]|((with_reducible apply ab)<;>intro h<;>try omega)|(refine aY (bu _) rfl rfl ?_)
 ·have hz:=hall.out
  rw[List.take_of_length_le (by omega)]at hz
  rw[hz]
  clear hz hall
  repeat' first|simp(disch:=omega) only[go_sem, *]|((with_reducible apply ab)<;>intro h<;>try omega)
end Go.Proofs.YthbcbaembicdbaaGreatDoor
