import Derived.Test.YthkaaahphlneiaaGreatDoorV17a
import Derived.Test.YthkaaahphlneiaaGreatDoorV14d
import Derived.Test.YthkaaahphlneiaaGreatDoorV17c
import Derived.Test.YthkaaahphlneiaaGreatDoorP17
import Derived.Test.YthkaaahphlneiaaGreatDoorV17e
set_option linter.unusedVariables false
set_option linter.unusedSimpArgs false
set_option maxRecDepth 20000
namespace Go.Proofs.YthkaaahphlneiaaGreatDoor
open Go.Abs Go.RowKit
abbrev M4 (p:bK) (K:KL):AV:= .c (.cptr [cH p.sizes,c9 cP p.wher,c9 gV p.params,c9 cr p.defs,cH p.outs,.fmap .str none (EK K)])
abbrev RM (p:bK) (m:Nat):aS:= .var [.pure (cH p.sizes),.pure (c9 cP p.wher),.pure (c9 gV p.params),.pure (c9 cr p.defs),.pure (cH p.outs),.mref m]
abbrev mK (K:KL):aS:= .map .str none (jK K)
theorem oV {mem:List (Nat×aS)} {c m:Nat} {p:bK} {K:KL} {rest rest':List AV} (h2:ak mem c=some (RM p m)) (h1:ak mem m=some (mK K)) (hr:aZ mem rest=some rest'):aZ mem (.c (.ptr c 0)::rest)=some (M4 p K::rest'):=by
 simp[aZ,ct,cK,cz,h2,bu,c6,ci,h1,Ox,hr]
theorem bT (rl:List (Nat×Nat)): ∀K:KL,List.map (fun x:MK×List AC=>(x.1,List.map (b8 rl) x.2)) (jK K)=jK K
 | []=>rfl
 |x::r=>by
  have ih:=bT rl r
  simp only[jK,List.map_cons]at ih ⊢
  rw[ih]
  rfl
theorem dS (N:Nat): ∀K:KL,Pa N (jK K)
 | []=>trivial
 |x::r=>⟨⟨trivial,trivial⟩,dS N r⟩
theorem M0 (N:Nat):Pa N []:=trivial
def Kn (p:bK) (vars:List ByteArray) (K:KL):Prop:= ∀s,sO K s≠0↔s∈vars∨s∈p.sizes
theorem fy {p:bK} {vars:List ByteArray} {K:KL} (hK:Kn p vars K) (l:ca):ac Tryz.prog lg [M4 p K,dj l.1 l.2] (I (dQ p vars [l])):=by
 refine ac.of sQ (by simp) fun hb=>aa ?_
 have hl:=nY hb.2.1
 rw[mn]
 simp only[k7]
 repeat' first|simp(disch:=omega) only[go_sem, *]|((with_reducible refine ab ?_ ?_)<;>intro h<;>try omega)
 refine aj (fun k:Nat=>⟨[(10,I k),(9,I l.2.length),(8,.c (.pure (aE l.2))),(0,M4 p K)], [],0,0⟩) (fun k=>k≤l.2.length∧dW (fun i=> ∀h:i<l.2.length,l.2[i].1∈vars∨l.2[i].1∈p.sizes) k) (fun k=>l.2.length-k) ⟨0, [],⟨by omega,.zero⟩,by simp⟩ ?_
 rintro k ⟨hk,hall⟩
 refine aa ?_
 by_cases hlt:k<l.2.length
 ·have hm:=qX l.2[k].1 K
  rw[←DV]at hm
  have hkn:=hK l.2[k].1
  cases hL:jl K l.2[k].1 with
  |none=>
   rw[hL]at hm
   rw[no hL]at hkn
   rw[if_neg (show ¬eU vars p.sizes l from fun h=>(hkn.2 (h _ (List.getElem_mem hlt))) rfl)]
   clear hL hkn hall
   repeat' first|simp(disch:=omega) only[go_sem, *,ae hlt,mP,wrap_i64,hm,Option.map_none]|((with_reducible refine ab ?_ ?_)<;>intro h<;>try omega)
  |some j=>
   rw[hL]at hm
   rw[i9 hL]at hkn
   clear hL
   by_cases hj:j=0
   ·rw[if_neg (show ¬eU vars p.sizes l from fun h=>(hkn.2 (h _ (List.getElem_mem hlt))) hj)]
    clear hkn hall
    repeat' first|simp(disch:=omega) only[go_sem, *,ae hlt,mP,wrap_i64,hm,Option.map_some,hj]|((with_reducible refine ab ?_ ?_)<;>intro h<;>try omega)
   ·have HA:=Lib.hid (hall.succ fun _=>hkn.1 hj)
    clear hkn hall
    repeat' first|simp(disch:=omega) only[go_sem, *,ae hlt,mP,wrap_i64,hm,Option.map_some,hj]|((with_reducible refine ab ?_ ?_)<;>intro h<;>try omega)
    exact⟨k+1, [],⟨by omega,HA.out⟩,by omega,by simp⟩
 ·have hkn:eU vars p.sizes l:=fun m hm=>by
   obtain⟨i,hi,rfl⟩:=List.mem_iff_getElem.1 hm
   exact hall i (by omega) hi
  rw[if_pos hkn]
  clear hall hkn
  repeat' first|simp(disch:=omega) only[go_sem, *]|((with_reducible refine ab ?_ ?_)<;>intro h<;>try omega)
theorem qd {p:bK} (hf:j8 p) {vars:List ByteArray} {K:KL} (hK:Kn p vars K) (x:Ix):ac Tryz.prog jT [M4 p K,YL x] (I (gD p vars x)):=by
 refine ac.of ra (by simp) fun hb=>aa ?_
 have hl:x.2.2.length≤9223372036854775807:=by
  have:=hb.2.1
  simp[ie,lO,iz]at this
  omega
 have cF:=fy hK x.1
 simp only[jQ]
 by_cases hfrom:x.2.1=⟨⟨[]⟩⟩
 ·rw[GT hfrom]
  rw[mn]at cF
  repeat' first|simp(disch:=omega) only[go_sem, *,hfrom]|((with_reducible refine ab ?_ ?_)<;>intro h<;>try omega)|(refine av cF rfl rfl ?_)
 ·clear cF
  have hF:=gJ hf x.2.1
  cases hfx:c8 p x.2.1 with
  |none=>
   rw[Fa hfrom hfx]
   rw[hfx]at hF
   clear hfx
   repeat' first|simp(disch:=omega) only[go_sem, *,hfrom]|((with_reducible refine ab ?_ ?_)<;>intro h<;>try omega)|(refine bS hF rfl rfl ?_)
  |some r=>
   obtain⟨t,d⟩:=r
   rw[Da hfrom hfx]
   rw[hfx]at hF
   clear hfx
   by_cases ht:t.1=3
   ·rw[if_neg (not_not_intro ht)]
    by_cases hd:x.2.2.length=d.length
    ·rw[if_neg (not_not_intro hd)]
     have hd':(x.2.2.length:Int)=d.length:=by omega
     clear hd
     repeat' first|simp(disch:=omega) only[go_sem, *,hfrom,ht,hd']|((with_reducible refine ab ?_ ?_)<;>intro h<;>try omega)|(refine bS hF rfl rfl ?_)
     refine aj (fun k:Nat=>⟨[(46,I k),(45,I x.2.2.length),(44,kL x.2.2),(0,M4 p K)], [],0,0⟩) (fun k=>k≤x.2.2.length∧dW (fun i=> ∀h:i<x.2.2.length,eU vars p.sizes x.2.2[i]) k) (fun k=>x.2.2.length-k) ⟨0, [],⟨by omega,.zero⟩,by rw[hd'];simp⟩ ?_
     clear hd' hF ht hfrom
     rintro k ⟨hk,hall⟩
     refine aa ?_
     by_cases hlt:k<x.2.2.length
     ·have cF:=fy hK x.2.2[k]
      rw[mn]at cF
      by_cases hkn:eU vars p.sizes x.2.2[k]
      ·rw[if_pos hkn]at cF
       have HA:=Lib.hid (hall.succ fun _=>hkn)
       clear hall hkn
       repeat' first|simp(disch:=omega) only[go_sem, *,ae hlt,bQ,wrap_i64]|((with_reducible refine ab ?_ ?_)<;>intro h<;>try omega)|(refine av cF rfl rfl ?_)
       exact⟨k+1, [],⟨by omega,HA.out⟩,by omega,by simp⟩
      ·rw[if_neg hkn]at cF
       have hR:dQ p vars x.2.2=9:=if_neg fun h=>hkn (h _ (List.getElem_mem hlt))
       rw[hR]
       clear hall hkn hR
       repeat' first|simp(disch:=omega) only[go_sem, *,ae hlt,bQ,wrap_i64]|((with_reducible refine ab ?_ ?_)<;>intro h<;>try omega)|(refine av cF rfl rfl ?_)
     ·have hR:dQ p vars x.2.2=0:=if_pos fun l hm=>by
       obtain⟨i,hi,rfl⟩:=List.mem_iff_getElem.1 hm
       exact hall i (by omega) hi
      rw[hR]
      clear hall hR
      repeat' first|simp(disch:=omega) only[go_sem, *]|((with_reducible refine ab ?_ ?_)<;>intro h<;>try omega)
    ·rw[if_pos hd]
     have hd': ¬(x.2.2.length:Int)=d.length:=by omega
     clear hd
     repeat' first|simp(disch:=omega) only[go_sem, *,hfrom,ht,hd']|((with_reducible refine ab ?_ ?_)<;>intro h<;>try omega)|(refine bS hF rfl rfl ?_)
   ·rw[if_pos ht]
    repeat' first|simp(disch:=omega) only[go_sem, *,hfrom,ht]|((with_reducible refine ab ?_ ?_)<;>intro h<;>try omega)|(refine bS hF rfl rfl ?_)
theorem rx {p:bK} (hf:j8 p) {vars:List ByteArray} {K:KL} (hK:Kn p vars K) (e:Ex):ac Tryz.prog ll [M4 p K,fm e] (LF (f7 p vars e)):=by
 refine ac.of sL (by simp) fun hb=>aa ?_
 have hl:=(dX hb.2).2
 simp only[kI]
 have hF:=gJ hf e.name
 cases hfind:c8 p e.name with
 |none=>
  rw[hfind]at hF
  rw[ES hfind]
  clear hfind
  repeat' first|simp(disch:=omega) only[go_sem, *]|((with_reducible refine ab ?_ ?_)<;>intro h<;>try omega)|(refine bS hF rfl rfl ?_)
  try rfl
 |some r=>
  obtain⟨t,dims⟩:=r
  rw[hfind]at hF
  by_cases hlen:e.idx.length=dims.length
  ·have hlen':(dims.length:Int)=e.idx.length:=by omega
   have HF:=Lib.hid hfind
   have HL:=Lib.hid hlen
   clear hlen hfind
   repeat' first|simp(disch:=omega) only[go_sem, *,hlen']|((with_reducible refine ab ?_ ?_)<;>intro h<;>try omega)|(refine bS hF rfl rfl ?_)
   refine aj (fun k:Nat=>⟨[(36,I k),(35,I e.idx.length),(34,.c (.pure (c9 eB e.idx))),(6,.c (.ptr 2 0)),(4,.c (.ptr 1 0)),(0,M4 p K)], [(2,VJ t),(1,VJ iU),(0,Ey e)],3,0⟩) (fun k=>k≤e.idx.length∧Hid (cQ ((e.idx.map (gD p vars)).take k)=0)) (fun k=>e.idx.length-k) ⟨0, [],⟨by omega,by show _=_;simp[cQ]⟩,by simp[iU]⟩ ?_
   clear hF hlen'
   rintro k ⟨hk,hall⟩
   refine aa ?_
   by_cases hlt:k<e.idx.length
   ·have cI:=qd hf hK e.idx[k]
    by_cases hz:gD p vars e.idx[k]=0
    ·have HN:Hid (cQ ((e.idx.map (gD p vars)).take (k+1))=0):=HV hlt hall.out hz
     clear HF HL hall
     repeat' first|simp(disch:=omega) only[go_sem, *,ae hlt,eB,wrap_i64,hz]|((with_reducible refine ab ?_ ?_)<;>intro h<;>try omega)|(refine av cI rfl rfl ?_)
     exact⟨k+1, [],⟨by omega,HN⟩,by omega,by simp[iU]⟩
    ·rw[Hc HF.out HL.out (HO hlt hall.out hz) hz]
     clear HF HL hall
     repeat' first|simp(disch:=omega) only[go_sem, *,ae hlt,eB,wrap_i64,hz]|((with_reducible refine ab ?_ ?_)<;>intro h<;>try omega)|(refine av cI rfl rfl ?_)
     try rfl
   ·have hz:=hall.out
    rw[List.take_of_length_le (by simp;omega)]at hz
    rw[LD HF.out HL.out hz]
    clear HF HL hall hz
    repeat' first|simp(disch:=omega) only[go_sem, *]|((with_reducible refine ab ?_ ?_)<;>intro h<;>try omega)
  ·have hlen': ¬(dims.length:Int)=e.idx.length:=by omega
   rw[Hk hfind hlen]
   clear hlen hfind
   repeat' first|simp(disch:=omega) only[go_sem, *,hlen']|((with_reducible refine ab ?_ ?_)<;>intro h<;>try omega)|(refine bS hF rfl rfl ?_)
   try rfl
theorem mU (a:Ty):ac Tryz.prog gF [I7 a,I7 a] (I 0):=by
 refine ac.of jR (by simp) fun hb=>aa ?_
 simp only[gu]
 repeat' first|simp(disch:=omega) only[go_sem, *]|((with_reducible refine ab ?_ ?_)<;>intro h<;>try omega)
theorem lD {a b:Ty} (h: ¬a=b):ac Tryz.prog gF [I7 a,I7 b] (I 10):=by
 refine ac.of jR (by simp) fun hb=>aa ?_
 simp only[gu]
 have HN:=Lib.hid h
 clear h
 repeat' first|simp(disch:=omega) only[go_sem, *]|((with_reducible refine ab ?_ ?_)<;>intro h<;>try omega)
 all_goals first
  |exact absurd (xD h) HN.out
  |rfl
set_option maxHeartbeats 4000000 in
theorem tJ {p:bK} (hf:j8 p) {vars:List ByteArray} {K:KL} (hK:Kn p vars K) (e:Ex):iE e→ac Tryz.prog iK [M4 p K,fm e] (LF (d9 p vars e)):=by
 refine Ex.ind (p:=fun e=>iE e→ac Tryz.prog iK [M4 p K,fm e] (LF (d9 p vars e))) (fun e ih hr=> ?_) e
 refine ac.of vF (by simp) fun hb=>aa ?_
 have hl:=(dX hb.2).1
 obtain⟨ha,ho1,ho2,_⟩:=dO hr
 have ha3:e.args.length≤3:=by rcases yT ho1 ho2 with h|h|h|h|h|h<;>omega
 have HA:=Lib.hid ha
 clear ha
 simp only[mD]
 repeat' first|simp(disch:=omega) only[go_sem, *]|((with_reducible refine ab ?_ ?_)<;>intro h<;>try omega)
 refine dv 6 38 5 rfl (by decide) ?_
 refine aj (fun s:Nat×List Ty=>⟨[(15,I s.1),(14,I e.args.length),(13,.c (.pure (.slice (e.args.map Ex.row)))),(6,.c (.ref 2)),(4,.c (.ptr 1 0)),(3,.c (.ptr 0 0)),(0,M4 p K)], [(2,.arr 38 5 (s.2.map TR)),(1,VJ iU),(0,Ey e)],3,0⟩) (fun s=>s.1≤e.args.length∧Hid (dF p vars (e.args.take s.1)= .inr s.2)) (fun s=>e.args.length-s.1) ⟨(0, []), [],⟨by omega,by show _=_;simp[dF]⟩,by simp[iU]⟩ ?_
 rintro⟨k,ts⟩ ⟨hk,hall⟩
 refine aa ?_
 simp only at hk hall
 by_cases hlt:k<e.args.length
 ·have hih:=ih _ (List.getElem_mem hlt) (iJ hr (List.getElem_mem hlt))
  have hlk:ts.length=k:=by
   have:=pL hall.out
   rw[this,List.length_take]
   omega
  by_cases h0:(d9 p vars e.args[k]).2=0
  ·have hn:=Er hlt hall.out h0
   have HN:=Lib.hid hn
   clear ih hr hall hn
   generalize d9 p vars e.args[k]=r at*
   have ht:ts.map TR++ [TR r.1]=(ts++ [r.1]).map TR:=by simp
   simp only[TR]at ht
   have HT:=Lib.hid ht
   clear ht
   repeat' first|simp(disch:=omega) only[go_sem, *,ae hlt,Ex.row_eq,wrap_i64,h0]|((with_reducible refine ab ?_ ?_)<;>intro h<;>try omega)|(refine av hih rfl rfl ?_)|(refine aN rfl (by intro h;cases h) (aI rfl) (by simp;omega) (by simp;omega) ?_)
   rw[HT.out]
   exact⟨(k+1,ts++ [r.1]), [(2,5)],⟨by omega,HN⟩,by show _-_<_-_;omega,by simp⟩
  ·have hn:=C2 hlt hall.out h0
   have hR:d9 p vars e=(iU,(d9 p vars e.args[k]).2):=by conv=>lhs;rw[nM,hn]
   rw[hR]
   clear ih hr hall hn hR
   generalize d9 p vars e.args[k]=r at*
   repeat' first|simp(disch:=omega) only[go_sem, *,ae hlt,Ex.row_eq,wrap_i64,h0]|((with_reducible refine ab ?_ ?_)<;>intro h<;>try omega)|(refine av hih rfl rfl ?_)
   try rfl
 ·have hts:=hall.out
  rw[List.take_of_length_le (by omega)]at hts
  have hlk:=pL hts
  have hR:d9 p vars e=aR p vars e ts:=by conv=>lhs;rw[nM,hts]
  have hrd:=rx hf hK e
  have hfo:=fy hK e.lin
  clear ih hr hall hts
  have hts:=HA.out
  clear HA
  rcases yT ho1 ho2 with⟨g|g|g,h2⟩|⟨g|g|g,h2⟩|⟨g,h2⟩|⟨g,h2⟩|⟨g,h2⟩|⟨g,h2⟩
  ·rw[hR.trans (show aR p vars e ts=(e.ty,0) by simp[aR,g])]
   clear hR hlk h2 hts hrd hfo
   repeat' first|simp(disch:=omega) only[go_sem, *,g]|((with_reducible refine ab ?_ ?_)<;>intro h<;>try omega)
  ·rw[hR.trans (show aR p vars e ts=((3,0,0,0,0),dQ p vars [e.lin]) by simp[aR,g])]
   clear hR hlk h2 hts hrd
   repeat' first|simp(disch:=omega) only[go_sem, *,g]|((with_reducible refine ab ?_ ?_)<;>intro h<;>try omega)|(refine av hfo rfl rfl ?_)
  ·rw[hR.trans (show aR p vars e ts=f7 p vars e by simp[aR,g])]
   clear hR hlk h2 hts hfo
   simp only[fm,g]at hrd
   repeat' first|simp(disch:=omega) only[go_sem, *,g]|((with_reducible refine ab ?_ ?_)<;>intro h<;>try omega)|(refine av hrd rfl rfl ?_)
  ·obtain⟨a,rfl⟩:=Xp (l:=ts) (by omega)
   rw[hR.trans (show aR p vars e [a]=(a,0) by simp[aR,g])]
   clear hR hlk h2 hts hrd hfo
   repeat' first|simp(disch:=omega) only[go_sem, *,g,Int.toNat_zero]|((with_reducible refine ab ?_ ?_)<;>intro h<;>try omega)
  ·rw[hR.trans (show aR p vars e ts=(e.ty,0) by simp[aR,g])]
   clear hR hlk h2 hts hrd hfo
   repeat' first|simp(disch:=omega) only[go_sem, *,g]|((with_reducible refine ab ?_ ?_)<;>intro h<;>try omega)
  ·rw[hR.trans (show aR p vars e ts=(iU,0) by simp[aR,g])]
   clear hR hlk h2 hts hrd hfo
   repeat' first|simp(disch:=omega) only[go_sem, *,g]|((with_reducible refine ab ?_ ?_)<;>intro h<;>try omega)
   try rfl
  ·obtain⟨a,b,c,rfl⟩:=Xs (l:=ts) (by omega)
   by_cases hbc:b=c
   ·subst hbc
    rw[hR.trans (show aR p vars e [a,b,b]=(b,0) by simp[aR,g])]
    have cs:=mU b
    clear hR hlk h2 hts hrd hfo
    repeat' first|simp(disch:=omega) only[go_sem, *,g,Int.toNat_zero,show Int.toNat 1=1 from rfl,show Int.toNat 2=2 from rfl]|((with_reducible refine ab ?_ ?_)<;>intro h<;>try omega)|(with_reducible refine af ?_ ?_)|(with_reducible refine ag (fun h=> ?_) ?_)|(refine av cs rfl rfl ?_)
   ·rw[hR.trans (show aR p vars e [a,b,c]=(b,10) by simp[aR,g,hbc])]
    have cs:=lD hbc
    clear hR hlk h2 hts hrd hfo hbc
    repeat' first|simp(disch:=omega) only[go_sem, *,g,Int.toNat_zero,show Int.toNat 1=1 from rfl,show Int.toNat 2=2 from rfl]|((with_reducible refine ab ?_ ?_)<;>intro h<;>try omega)|(with_reducible refine af ?_ ?_)|(with_reducible refine ag (fun h=> ?_) ?_)|(refine av cs rfl rfl ?_)
  ·obtain⟨a,b,rfl⟩:=TW (l:=ts) (by omega)
   rcases g with g|g|g
   all_goals
    by_cases hbc:a=b
    ·subst hbc
     rw[hR.trans (show aR p vars e [a,a]=(iU,0) by simp[aR,g])]
     have cs:=mU a
     clear hR hlk h2 hts hrd hfo
     repeat' first|simp(disch:=omega) only[go_sem, *,g,Int.toNat_zero,show Int.toNat 1=1 from rfl]|((with_reducible refine ab ?_ ?_)<;>intro h<;>try omega)|(refine av cs rfl rfl ?_)
     try rfl
    ·rw[hR.trans (show aR p vars e [a,b]=(iU,10) by simp[aR,g,hbc])]
     have cs:=lD hbc
     clear hR hlk h2 hts hrd hfo hbc
     repeat' first|simp(disch:=omega) only[go_sem, *,g,Int.toNat_zero,show Int.toNat 1=1 from rfl]|((with_reducible refine ab ?_ ?_)<;>intro h<;>try omega)|(refine av cs rfl rfl ?_)
     try rfl
  ·rcases g with g|g
   all_goals
    rw[hR.trans (show aR p vars e ts=(iU,0) by simp[aR,g])]
    clear hR hlk h2 hts hrd hfo
    repeat' first|simp(disch:=omega) only[go_sem, *,g]|((with_reducible refine ab ?_ ?_)<;>intro h<;>try omega)
    try rfl
  ·obtain⟨a,b,rfl⟩:=TW (l:=ts) (by omega)
   have h3: ¬e.op=1∧ ¬e.op=2∧ ¬e.op=3∧ ¬e.op=12∧ ¬e.op=8∧ ¬e.op=11∧ ¬16≤e.op∧ ¬13≤e.op∧ ¬e.op=13∧ ¬e.op=14∧ ¬e.op=15∧ ¬e.op=16∧ ¬e.op=17∧ ¬e.op=18:=by omega
   obtain⟨g1,g2,g3,g4,g5,g6,g7,g8,g9,g10,g11,g12,g13,g14⟩:=h3
   clear g
   by_cases hbc:a=b
   ·subst hbc
    rw[hR.trans (show aR p vars e [a,a]=(a,0) by simp[aR,g1,g2,g3,g4,g5,g6,g7,g8])]
    have cs:=mU a
    clear hR hlk h2 hts hrd hfo g7 g8
    repeat' first|simp(disch:=omega) only[go_sem, *,g1,g2,g3,g4,g5,g6,g9,g10,g11,g12,g13,g14,Int.toNat_zero,show Int.toNat 1=1 from rfl]|((with_reducible refine ab ?_ ?_)<;>intro h<;>try omega)|(with_reducible refine af ?_ ?_)|(with_reducible refine ag (fun h=> ?_) ?_)|(refine av cs rfl rfl ?_)
   ·rw[hR.trans (show aR p vars e [a,b]=(a,10) by simp[aR,g1,g2,g3,g4,g5,g6,g7,g8,hbc])]
    have cs:=lD hbc
    clear hR hlk h2 hts hrd hfo hbc g7 g8
    repeat' first|simp(disch:=omega) only[go_sem, *,g1,g2,g3,g4,g5,g6,g9,g10,g11,g12,g13,g14,Int.toNat_zero,show Int.toNat 1=1 from rfl]|((with_reducible refine ab ?_ ?_)<;>intro h<;>try omega)|(with_reducible refine af ?_ ?_)|(with_reducible refine ag (fun h=> ?_) ?_)|(refine av cs rfl rfl ?_)
theorem W8 (p:bK) (vars:List ByteArray):Kn p vars (kZ (kZ [] 1 p.sizes) 3 vars):=fun s=>by
 rw[qi,qi,EV]
 by_cases h1:s∈vars
 ·simp[h1]
 ·by_cases h2:s∈p.sizes
  ·simp[h1,h2]
  ·simp[h1,h2]
set_option maxHeartbeats 2000000 in
theorem xM {p:bK} (hf:j8 p) (vars:List ByteArray) {e:Ex} (h64: ∀a∈e.pre,sS a.val):ac Tryz.prog qk [fK p,.c (.pure (cH vars)),fm e] (LF (bi p vars e)):=by
 refine ac.of y2 (by simp) fun hb=>aa ?_
 have hl:vars.length≤9223372036854775807:=by
  have:=hb.2.1
  simp[ie,iz]at this
  omega
 have hl2:p.sizes.length≤9223372036854775807:=by
  have:=hb.1
  simp[ie,lO,iz]at this
  omega
 simp only[qB]
 have hv:=yG h64
 by_cases h1:gT e=0
 ·by_cases h2:lF e.op
  ·have hR:bi p vars e=(iU,10):=by unfold bi;rw[if_neg (not_not_intro h1),if_pos h2]
   rw[hR]
   clear hR
   repeat' first|simp(disch:=omega) only[go_sem, *,h1,h2,decide_true]|((with_reducible refine ab ?_ ?_)<;>intro h<;>try omega)|(refine av hv rfl rfl ?_)|(refine av (gm e) rfl rfl ?_)
   try rfl
  ·have cO:=tJ hf (W8 p vars) e (vj h1)
   have CO:=Lib.hid cO
   clear cO
   have hR: ∀x,(d9 p vars e).2=x→x≠0→bi p vars e=(iU,x):=fun x hx h0=>by unfold bi;rw[if_neg (not_not_intro h1),if_neg h2,hx,if_pos h0]
   have hR0:(d9 p vars e).2=0→bi p vars e=((d9 p vars e).1,0):=fun h0=>by unfold bi;rw[if_neg (not_not_intro h1),if_neg h2,if_neg (not_not_intro h0)]
   have HR:=Lib.hid hR
   have HR0:=Lib.hid hR0
   clear hR hR0
   repeat' first|simp(disch:=omega) only[go_sem, *,h1,h2,decide_false]|((with_reducible refine ab ?_ ?_)<;>intro h<;>try omega)|(refine av hv rfl rfl ?_)|(refine av (gm e) rfl rfl ?_)
   refine aj (fun k:Nat=>⟨[(32,I k),(31,I p.sizes.length),(30,.c (.pure (cH p.sizes))),(9,.c (.ptr 4 0)),(6,.c (.ptr 2 0)),(5,.c (.ptr 1 0)),(1,.c (.pure (cH vars)))], [(4,RM p 3),(3,.map .str none (jK (kZ [] 1 (p.sizes.take k)))),(2,VJ iU),(1,Ey e),(0,d6 p)],5,0⟩) (fun k=>k≤p.sizes.length) (fun k=>p.sizes.length-k) ⟨0, [],by omega,by simp[iU,kZ,jK,M0]⟩ ?_
   clear h1 h2 hv
   intro k hk
   refine aa ?_
   by_cases hlt:k<p.sizes.length
   ·repeat' first|simp(disch:=omega) only[go_sem, *,ae hlt,wrap_i64,I8,←AF hlt]|((with_reducible refine ab ?_ ?_)<;>intro h<;>try omega)
    exact⟨k+1, [],by omega,by omega,by simp[iU,bT,dS]⟩
   ·have hkp:k=p.sizes.length:=by omega
    subst hkp
    rw[List.take_length]
    repeat clear hlt
    repeat clear hk
    repeat' first|simp(disch:=omega) only[go_sem, *]|((with_reducible refine ab ?_ ?_)<;>intro h<;>try omega)
    refine aj (fun k:Nat=>⟨[(44,I k),(43,I vars.length),(42,.c (.pure (cH vars))),(9,.c (.ptr 4 0)),(6,.c (.ptr 2 0)),(5,.c (.ptr 1 0))], [(4,RM p 3),(3,.map .str none (jK (kZ (kZ [] 1 p.sizes) 3 (vars.take k)))),(2,VJ iU),(1,Ey e),(0,d6 p)],5,0⟩) (fun k=>k≤vars.length) (fun k=>vars.length-k) ⟨0, [],by omega,by simp[iU,kZ,bT,dS]⟩ ?_
    intro k hk
    refine aa ?_
    by_cases hlt:k<vars.length
    ·repeat' first|simp(disch:=omega) only[go_sem, *,ae hlt,wrap_i64,I8,←AF hlt]|((with_reducible refine ab ?_ ?_)<;>intro h<;>try omega)
     exact⟨k+1, [],by omega,by omega,by simp[iU,bT,dS]⟩
    ·have hkp:k=vars.length:=by omega
     subst hkp
     rw[List.take_length]
     repeat clear hlt
     repeat clear hk
     repeat' first|simp(disch:=omega) only[go_sem, *]|((with_reducible refine ab ?_ ?_)<;>intro h<;>try omega)
     refine ah CO.out (oV (m:=3) rfl rfl rfl) (.inl rfl) ?_
     by_cases h3:(d9 p vars e).2=0
     ·rw[HR0.out h3]
      clear HR HR0 CO
      generalize d9 p vars e=r at*
      repeat' first|simp(disch:=omega) only[go_sem, *,h3]|((with_reducible refine ab ?_ ?_)<;>intro h<;>try omega)
     ·rw[HR.out _ rfl h3]
      clear HR HR0 CO
      generalize d9 p vars e=r at*
      repeat' first|simp(disch:=omega) only[go_sem, *,h3]|((with_reducible refine ab ?_ ?_)<;>intro h<;>try omega)
      try rfl
 ·have hR:bi p vars e=(iU,gT e):=by unfold bi;rw[if_pos h1]
  rw[hR]
  clear hR
  repeat' first|simp(disch:=omega) only[go_sem, *,h1]|((with_reducible refine ab ?_ ?_)<;>intro h<;>try omega)|(refine av hv rfl rfl ?_)
  try rfl
end Go.Proofs.YthkaaahphlneiaaGreatDoor
