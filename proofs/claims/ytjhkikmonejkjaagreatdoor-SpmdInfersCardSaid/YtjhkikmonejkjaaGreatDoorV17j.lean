import Derived.Test.YtjhkikmonejkjaaGreatDoorV14d
import Derived.Test.YtjhkikmonejkjaaGreatDoorV17e
set_option linter.unusedVariables false
set_option linter.unusedSimpArgs false
set_option maxRecDepth 20000
open Go.Proofs.Tryz renaming prog→Ya
namespace Go.Proofs.YtjhkikmonejkjaaGreatDoor
open Go.Abs Go.RowKit
abbrev KU (p:be) (K:KL):AV:= .c (.cptr [b6 p.sizes,cZ cP p.wher,cZ d7 p.params,cZ br p.defs,b6 p.outs,.fmap .str none (D0 K)])
abbrev P6 (p:be) (m:Nat):bm:= .var [.pure (b6 p.sizes),.pure (cZ cP p.wher),.pure (cZ d7 p.params),.pure (cZ br p.defs),.pure (b6 p.outs),.mref m]
abbrev mK (K:KL):bm:= .map .str none (ja K)
theorem ny {mem:List (Nat×bm)} {c m:Nat} {p:be} {K:KL} {rest rest':List AV} (h2:am mem c=some (P6 p m)) (h1:am mem m=some (mK K)) (hr:ba mem rest=some rest'):ba mem (.c (.ptr c 0)::rest)=some (KU p K::rest'):=by
 simp[ba,c9,dk,dh,h2,bC,dn,cG,h1,LX,hr]
theorem dH (rl:List (Nat×Nat)): ∀K:KL,List.map (λx:MK×List AC=>(x.1,List.map (cz rl) x.2)) (ja K)=ja K
 | []=>rfl
 |x::r=>by
  have ih:=dH rl r
  simp only[ja,List.map_cons]at ih ⊢
  rw[ih]
  rfl
theorem gO (N:Nat): ∀K:KL,KE N (ja K)
 | []=>trivial
 |x::r=>⟨⟨trivial,trivial⟩,gO N r⟩
theorem K1 (N:Nat):KE N []:=trivial
def Kn (p:be) (vars:List ByteArray) (K:KL):Prop:= ∀s,qV K s≠0↔s∈vars∨s∈p.sizes
theorem eN {p:be} {vars:List ByteArray} {K:KL} (hK:Kn p vars K) (l:fc):af Ya jW [KU p K,f9 l.1 l.2] (I (d9 p vars [l])):=by
 refine af.of qO (by simp) λhb=>aa ?_
 have hl:=m7 hb.2.1
 rw[lg]
 simp only[j7]
 repeat' first|simp(disch:=omega)only[go_sem, *]|apply ab<;>intro h<;>try omega
 refine ai (λk:Nat=>⟨[(10,I k),(9,I l.2.length),(8,.c (.pure (bp l.2))),(0,KU p K)], [],0,0⟩) (λk=>k≤l.2.length∧bI (λi=> ∀h:i<l.2.length,l.2[i].1∈vars∨l.2[i].1∈p.sizes) k) (λk=>l.2.length-k) ⟨0, [],⟨by omega,.zero⟩,by simp⟩ ?_
 rintro k ⟨hk,f⟩
 refine aa ?_
 by_cases n:k<l.2.length
 ·have hm:=pW l.2[k].1 K
  rw[←DY]at hm
  have q:=hK l.2[k].1
  cases hL:ix K l.2[k].1 with
  |none=>
   rw[hL]at hm
   rw[mu hL]at q
   rw[if_neg (show ¬fe vars p.sizes l from λh=>(q.2 (h _ (List.getElem_mem n))) rfl)]
   clear hL q f
   repeat' first|simp(disch:=omega)only[go_sem, *,ac n,mP,wrap_i64,hm,Option.map_none]|apply ab<;>intro h<;>try omega
  |some j=>
   rw[hL]at hm
   rw[gX hL]at q
   clear hL
   by_cases hj:j=0
   ·rw[if_neg (show ¬fe vars p.sizes l from λh=>(q.2 (h _ (List.getElem_mem n))) hj)]
    clear q f
    repeat' first|simp(disch:=omega)only[go_sem, *,ac n,mP,wrap_i64,hm,Option.map_some,hj]|apply ab<;>intro h<;>try omega
   ·have HA:=Lib.hid (f.succ λ_=>q.1 hj)
    clear q f
    repeat' first|simp(disch:=omega)only[go_sem, *,ac n,mP,wrap_i64,hm,Option.map_some,hj]|apply ab<;>intro h<;>try omega
    exact⟨k+1, [],⟨by omega,HA.out⟩,by omega,by simp⟩
 ·have q:fe vars p.sizes l:= λm hm=>by
   obtain⟨i,hi,rfl⟩:=List.mem_iff_getElem.1 hm
   exact f i (by omega) hi
  rw[if_pos q]
  clear f q
  repeat' first|simp(disch:=omega)only[go_sem, *]|apply ab<;>intro h<;>try omega
theorem oD {p:be} (hf:eR p) {vars:List ByteArray} {K:KL} (hK:Kn p vars K) (x:Ix):af Ya jb [KU p K,Um x] (I (f6 p vars x)):=by
 refine af.of pw (by simp) λhb=>aa ?_
 have hl:x.2.2.length≤9223372036854775807:=by
  have:=hb.2.1
  simp[eW,jP,ft]at this
  omega
 have cF:=eN hK x.1
 simp only[jf]
 by_cases u:x.2.1=⟨⟨[]⟩⟩
 ·rw[FM u]
  rw[lg]at cF
  repeat' first|simp(disch:=omega)only[go_sem, *,u]|apply ab<;>intro h<;>try omega|refine av cF rfl rfl ?_
 ·clear cF
  have hF:=jp hf x.2.1
  cases M:aZ p x.2.1 with
  |none=>
   rw[Dt u M]
   rw[M]at hF
   clear M
   repeat' first|simp(disch:=omega)only[go_sem, *,u]|apply ab<;>intro h<;>try omega|refine o5 hF rfl rfl ?_
  |some r=>
   obtain⟨t,d⟩:=r
   rw[Et u M]
   rw[M]at hF
   clear M
   by_cases ht:t.1=3
   ·rw[if_neg (not_not_intro ht)]
    by_cases hd:x.2.2.length=d.length
    ·rw[if_neg (not_not_intro hd)]
     have Q:(x.2.2.length:Int)=d.length:=by omega
     clear hd
     repeat' first|simp(disch:=omega)only[go_sem, *,u,ht,Q]|apply ab<;>intro h<;>try omega|refine o5 hF rfl rfl ?_
     refine ai (λk:Nat=>⟨[(46,I k),(45,I x.2.2.length),(44,my x.2.2),(0,KU p K)], [],0,0⟩) (λk=>k≤x.2.2.length∧bI (λi=> ∀h:i<x.2.2.length,fe vars p.sizes x.2.2[i]) k) (λk=>x.2.2.length-k) ⟨0, [],⟨by omega,.zero⟩,by rw[Q];simp⟩ ?_
     clear Q hF ht u
     rintro k ⟨hk,f⟩
     refine aa ?_
     by_cases n:k<x.2.2.length
     ·have cF:=eN hK x.2.2[k]
      rw[lg]at cF
      by_cases q:fe vars p.sizes x.2.2[k]
      ·rw[if_pos q]at cF
       have HA:=Lib.hid (f.succ λ_=>q)
       clear f q
       repeat' first|simp(disch:=omega)only[go_sem, *,ac n,bP,wrap_i64]|apply ab<;>intro h<;>try omega|refine av cF rfl rfl ?_
       exact⟨k+1, [],⟨by omega,HA.out⟩,by omega,by simp⟩
      ·rw[if_neg q]at cF
       have hR:d9 p vars x.2.2=9:=if_neg λh=>q (h _ (List.getElem_mem n))
       rw[hR]
       clear f q hR
       repeat' first|simp(disch:=omega)only[go_sem, *,ac n,bP,wrap_i64]|apply ab<;>intro h<;>try omega|refine av cF rfl rfl ?_
     ·have hR:d9 p vars x.2.2=0:=if_pos λl hm=>by
       obtain⟨i,hi,rfl⟩:=List.mem_iff_getElem.1 hm
       exact f i (by omega) hi
      rw[hR]
      clear f hR
      repeat' first|simp(disch:=omega)only[go_sem, *]|apply ab<;>intro h<;>try omega
    ·rw[if_pos hd]
     have Q: ¬(x.2.2.length:Int)=d.length:=by omega
     clear hd
     repeat' first|simp(disch:=omega)only[go_sem, *,u,ht,Q]|apply ab<;>intro h<;>try omega|refine o5 hF rfl rfl ?_
   ·rw[if_pos ht]
    repeat' first|simp(disch:=omega)only[go_sem, *,u,ht]|apply ab<;>intro h<;>try omega|refine o5 hF rfl rfl ?_
theorem po {p:be} (hf:eR p) {vars:List ByteArray} {K:KL} (hK:Kn p vars K) (e:Ex):af Ya j0 [KU p K,gc e] (Ka (fm p vars e)):=by
 refine af.of qX (by simp) λhb=>aa ?_
 have hl:=(dt hb.2).2
 simp only[jV]
 have hF:=jp hf e.name
 cases w:aZ p e.name with
 |none=>
  rw[w]at hF
  rw[CV w]
  clear w
  repeat' first|simp(disch:=omega)only[go_sem, *]|apply ab<;>intro h<;>try omega|refine o5 hF rfl rfl ?_
  try rfl
 |some r=>
  obtain⟨t,dims⟩:=r
  rw[w]at hF
  by_cases J:e.idx.length=dims.length
  ·have F:(dims.length:Int)=e.idx.length:=by omega
   have HF:=Lib.hid w
   have HL:=Lib.hid J
   clear J w
   repeat' first|simp(disch:=omega)only[go_sem, *,F]|apply ab<;>intro h<;>try omega|refine o5 hF rfl rfl ?_
   refine ai (λk:Nat=>⟨[(36,I k),(35,I e.idx.length),(34,.c (.pure (cZ dN e.idx))),(6,.c (.ptr 2 0)),(4,.c (.ptr 1 0)),(0,KU p K)], [(2,Sf t),(1,Sf gL),(0,tL e)],3,0⟩) (λk=>k≤e.idx.length∧Hid (bY ((e.idx.map (f6 p vars)).take k)=0)) (λk=>e.idx.length-k) ⟨0, [],⟨by omega,by show _=_;simp[bY]⟩,by simp[gL]⟩ ?_
   clear hF F
   rintro k ⟨hk,f⟩
   refine aa ?_
   by_cases n:k<e.idx.length
   ·have cI:=oD hf hK e.idx[k]
    by_cases hz:f6 p vars e.idx[k]=0
    ·have HN:Hid (bY ((e.idx.map (f6 p vars)).take (k+1))=0):=GW n f.out hz
     clear HF HL f
     repeat' first|simp(disch:=omega)only[go_sem, *,ac n,dN,wrap_i64,hz]|apply ab<;>intro h<;>try omega|refine av cI rfl rfl ?_
     exact⟨k+1, [],⟨by omega,HN⟩,by omega,by simp[gL]⟩
    ·rw[GE HF.out HL.out (Gd n f.out hz) hz]
     clear HF HL f
     repeat' first|simp(disch:=omega)only[go_sem, *,ac n,dN,wrap_i64,hz]|apply ab<;>intro h<;>try omega|refine av cI rfl rfl ?_
     try rfl
   ·have hz:=f.out
    rw[List.take_of_length_le (by simp;omega)]at hz
    rw[IR HF.out HL.out hz]
    clear HF HL f hz
    repeat' first|simp(disch:=omega)only[go_sem, *]|apply ab<;>intro h<;>try omega
  ·have F: ¬(dims.length:Int)=e.idx.length:=by omega
   rw[Gv w J]
   clear J w
   repeat' first|simp(disch:=omega)only[go_sem, *,F]|apply ab<;>intro h<;>try omega|refine o5 hF rfl rfl ?_
   try rfl
theorem l8 (a:Ty):af Ya fJ [yG a,yG a] (I 0):=by
 refine af.of jg (by simp) λhb=>aa ?_
 simp only[fH]
 repeat' first|simp(disch:=omega)only[go_sem, *]|apply ab<;>intro h<;>try omega
theorem ko {a b:Ty} (h: ¬a=b):af Ya fJ [yG a,yG b] (I 10):=by
 refine af.of jg (by simp) λhb=>aa ?_
 simp only[fH]
 have HN:=Lib.hid h
 clear h
 repeat' first|simp(disch:=omega)only[go_sem, *]|apply ab<;>intro h<;>try omega
 all_goals first
  |exact absurd (vP h) HN.out
  |rfl
set_option maxHeartbeats 4000000 in
theorem sm {p:be} (hf:eR p) {vars:List ByteArray} {K:KL} (hK:Kn p vars K) (e:Ex):rx e→af Ya gM [KU p K,gc e] (Ka (dE p vars e)):=by
 refine Ex.ind (p:= λe=>rx e→af Ya gM [KU p K,gc e] (Ka (dE p vars e))) (λe ih hr=> ?_) e
 refine af.of ub (by simp) λhb=>aa ?_
 have hl:=(dt hb.2).1
 obtain⟨ha,W,X,_⟩:=Aq hr
 have hG:e.args.length≤3:=by rcases xl W X with h|h|h|h|h|h<;>omega
 have HA:=Lib.hid ha
 clear ha
 simp only[lC]
 repeat' first|simp(disch:=omega)only[go_sem, *]|apply ab<;>intro h<;>try omega
 refine co 6 56 5 rfl (by decide) ?_
 refine ai (λs:Nat×List Ty=>⟨[(15,I s.1),(14,I e.args.length),(13,.c (.pure (.slice (e.args.map Ex.row)))),(6,.c (.ref 2)),(4,.c (.ptr 1 0)),(3,.c (.ptr 0 0)),(0,KU p K)], [(2,.arr 56 5 (s.2.map QM)),(1,Sf gL),(0,tL e)],3,0⟩) (λs=>s.1≤e.args.length∧Hid (cp p vars (e.args.take s.1)= .inr s.2)) (λs=>e.args.length-s.1) ⟨(0, []), [],⟨by omega,by show _=_;simp[cp]⟩,by simp[gL]⟩ ?_
 rintro⟨k,ts⟩ ⟨hk,f⟩
 refine aa ?_
 simp only at hk f
 by_cases n:k<e.args.length
 ·have Y:=ih _ (List.getElem_mem n) (Ds hr (List.getElem_mem n))
  have y:ts.length=k:=by
   have:=oC f.out
   rw[this,List.length_take]
   omega
  by_cases h0:(dE p vars e.args[k]).2=0
  ·have hn:=Cc n f.out h0
   have HN:=Lib.hid hn
   clear ih hr f hn
   generalize dE p vars e.args[k]=r at*
   have ht:ts.map QM++ [QM r.1]=(ts++ [r.1]).map QM:=by simp
   simp only[QM]at ht
   have HT:=Lib.hid ht
   clear ht
   repeat' first|simp(disch:=omega)only[go_sem, *,ac n,Ex.row_eq,wrap_i64,h0]|apply ab<;>intro h<;>try omega|refine av Y rfl rfl ?_|refine aF rfl (by intro h;cases h) (ak rfl) (by simp;omega) (by simp;omega) ?_
   rw[HT.out]
   exact⟨(k+1,ts++ [r.1]), [(2,5)],⟨by omega,HN⟩,by show _-_<_-_;omega,by simp⟩
  ·have hn:=DI n f.out h0
   have hR:dE p vars e=(gL,(dE p vars e.args[k]).2):=by conv=>lhs;rw[kY,hn]
   rw[hR]
   clear ih hr f hn hR
   generalize dE p vars e.args[k]=r at*
   repeat' first|simp(disch:=omega)only[go_sem, *,ac n,Ex.row_eq,wrap_i64,h0]|apply ab<;>intro h<;>try omega|refine av Y rfl rfl ?_
   try rfl
 ·have v:=f.out
  rw[List.take_of_length_le (by omega)]at v
  have y:=oC v
  have hR:dE p vars e=aM p vars e ts:=by conv=>lhs;rw[kY,v]
  have z:=po hf hK e
  have C:=eN hK e.lin
  clear ih hr f v
  have v:=HA.out
  clear HA
  rcases xl W X with⟨g|g|g,h2⟩|⟨g|g|g,h2⟩|⟨g,h2⟩|⟨g,h2⟩|⟨g,h2⟩|⟨g,h2⟩
  ·rw[hR.trans (show aM p vars e ts=(e.ty,0) by simp[aM,g])]
   clear hR y h2 v z C
   repeat' first|simp(disch:=omega)only[go_sem, *,g]|apply ab<;>intro h<;>try omega
  ·rw[hR.trans (show aM p vars e ts=((3,0,0,0,0),d9 p vars [e.lin]) by simp[aM,g])]
   clear hR y h2 v z
   repeat' first|simp(disch:=omega)only[go_sem, *,g]|apply ab<;>intro h<;>try omega|refine av C rfl rfl ?_
  ·rw[hR.trans (show aM p vars e ts=fm p vars e by simp[aM,g])]
   clear hR y h2 v C
   simp only[gc,g]at z
   repeat' first|simp(disch:=omega)only[go_sem, *,g]|apply ab<;>intro h<;>try omega|refine av z rfl rfl ?_
  ·obtain⟨a,rfl⟩:=Ut (l:=ts) (by omega)
   rw[hR.trans (show aM p vars e [a]=(a,0) by simp[aM,g])]
   clear hR y h2 v z C
   repeat' first|simp(disch:=omega)only[go_sem, *,g,Int.toNat_zero]|apply ab<;>intro h<;>try omega
  ·rw[hR.trans (show aM p vars e ts=(e.ty,0) by simp[aM,g])]
   clear hR y h2 v z C
   repeat' first|simp(disch:=omega)only[go_sem, *,g]|apply ab<;>intro h<;>try omega
  ·rw[hR.trans (show aM p vars e ts=(gL,0) by simp[aM,g])]
   clear hR y h2 v z C
   repeat' first|simp(disch:=omega)only[go_sem, *,g]|apply ab<;>intro h<;>try omega
   try rfl
  ·obtain⟨a,b,c,rfl⟩:=VH (l:=ts) (by omega)
   by_cases A:b=c
   ·subst A
    rw[hR.trans (show aM p vars e [a,b,b]=(b,0) by simp[aM,g])]
    have cs:=l8 b
    clear hR y h2 v z C
    repeat' first|simp(disch:=omega)only[go_sem, *,g,Int.toNat_zero,show Int.toNat 1=1 from rfl,show Int.toNat 2=2 from rfl]|apply ab<;>intro h<;>try omega|apply au|(with_reducible refine az (λh=> ?_) ?_)|refine av cs rfl rfl ?_
   ·rw[hR.trans (show aM p vars e [a,b,c]=(b,10) by simp[aM,g,A])]
    have cs:=ko A
    clear hR y h2 v z C A
    repeat' first|simp(disch:=omega)only[go_sem, *,g,Int.toNat_zero,show Int.toNat 1=1 from rfl,show Int.toNat 2=2 from rfl]|apply ab<;>intro h<;>try omega|apply au|(with_reducible refine az (λh=> ?_) ?_)|refine av cs rfl rfl ?_
  ·obtain⟨a,b,rfl⟩:=R7 (l:=ts) (by omega)
   rcases g with g|g|g
   all_goals
    by_cases A:a=b
    ·subst A
     rw[hR.trans (show aM p vars e [a,a]=(gL,0) by simp[aM,g])]
     have cs:=l8 a
     clear hR y h2 v z C
     repeat' first|simp(disch:=omega)only[go_sem, *,g,Int.toNat_zero,show Int.toNat 1=1 from rfl]|apply ab<;>intro h<;>try omega|refine av cs rfl rfl ?_
     try rfl
    ·rw[hR.trans (show aM p vars e [a,b]=(gL,10) by simp[aM,g,A])]
     have cs:=ko A
     clear hR y h2 v z C A
     repeat' first|simp(disch:=omega)only[go_sem, *,g,Int.toNat_zero,show Int.toNat 1=1 from rfl]|apply ab<;>intro h<;>try omega|refine av cs rfl rfl ?_
     try rfl
  ·rcases g with g|g
   all_goals
    rw[hR.trans (show aM p vars e ts=(gL,0) by simp[aM,g])]
    clear hR y h2 v z C
    repeat' first|simp(disch:=omega)only[go_sem, *,g]|apply ab<;>intro h<;>try omega
    try rfl
  ·obtain⟨a,b,rfl⟩:=R7 (l:=ts) (by omega)
   have h3: ¬e.op=1∧ ¬e.op=2∧ ¬e.op=3∧ ¬e.op=12∧ ¬e.op=8∧ ¬e.op=11∧ ¬16≤e.op∧ ¬13≤e.op∧ ¬e.op=13∧ ¬e.op=14∧ ¬e.op=15∧ ¬e.op=16∧ ¬e.op=17∧ ¬e.op=18:=by omega
   obtain⟨g1,g2,g3,g4,g5,g6,g7,g8,g9,g10,g11,g12,g13,g14⟩:=h3
   clear g
   by_cases A:a=b
   ·subst A
    rw[hR.trans (show aM p vars e [a,a]=(a,0) by simp[aM,g1,g2,g3,g4,g5,g6,g7,g8])]
    have cs:=l8 a
    clear hR y h2 v z C g7 g8
    repeat' first|simp(disch:=omega)only[go_sem, *,g1,g2,g3,g4,g5,g6,g9,g10,g11,g12,g13,g14,Int.toNat_zero,show Int.toNat 1=1 from rfl]|apply ab<;>intro h<;>try omega|apply au|(with_reducible refine az (λh=> ?_) ?_)|refine av cs rfl rfl ?_
   ·rw[hR.trans (show aM p vars e [a,b]=(a,10) by simp[aM,g1,g2,g3,g4,g5,g6,g7,g8,A])]
    have cs:=ko A
    clear hR y h2 v z C A g7 g8
    repeat' first|simp(disch:=omega)only[go_sem, *,g1,g2,g3,g4,g5,g6,g9,g10,g11,g12,g13,g14,Int.toNat_zero,show Int.toNat 1=1 from rfl]|apply ab<;>intro h<;>try omega|apply au|(with_reducible refine az (λh=> ?_) ?_)|refine av cs rfl rfl ?_
theorem TY (p:be) (vars:List ByteArray):Kn p vars (jY (jY [] 1 p.sizes) 3 vars):= λs=>by
 rw[nM,nM,Cl]
 by_cases h1:s∈vars
 ·simp[h1]
 ·by_cases h2:s∈p.sizes
  ·simp[h1,h2]
  ·simp[h1,h2]
set_option maxHeartbeats 2000000 in
theorem wq {p:be} (hf:eR p) (vars:List ByteArray) {e:Ex} (hD: ∀a∈e.pre,o9 a.val):af Ya oK [eX p,.c (.pure (b6 vars)),gc e] (Ka (aT p vars e)):=by
 refine af.of xU (by simp) λhb=>aa ?_
 have hl:vars.length≤9223372036854775807:=by
  have:=hb.2.1
  simp[eW,ft]at this
  omega
 have hH:p.sizes.length≤9223372036854775807:=by
  have:=hb.1
  simp[eW,jP,ft]at this
  omega
 simp only[nK]
 have hv:=xX hD
 by_cases h1:gn e=0
 ·by_cases h2:jm e.op
  ·have hR:aT p vars e=(gL,10):=by unfold aT;rw[if_neg (not_not_intro h1),if_pos h2]
   rw[hR]
   clear hR
   repeat' first|simp(disch:=omega)only[go_sem, *,h1,h2,decide_true]|apply ab<;>intro h<;>try omega|refine av hv rfl rfl ?_|refine av (fF e) rfl rfl ?_
   try rfl
  ·have cO:=sm hf (TY p vars) e (zx h1)
   have CO:=Lib.hid cO
   clear cO
   have hR: ∀x,(dE p vars e).2=x→x≠0→aT p vars e=(gL,x):= λx hx h0=>by unfold aT;rw[if_neg (not_not_intro h1),if_neg h2,hx,if_pos h0]
   have Z:(dE p vars e).2=0→aT p vars e=((dE p vars e).1,0):= λh0=>by unfold aT;rw[if_neg (not_not_intro h1),if_neg h2,if_neg (not_not_intro h0)]
   have HR:=Lib.hid hR
   have HR0:=Lib.hid Z
   clear hR Z
   repeat' first|simp(disch:=omega)only[go_sem, *,h1,h2,decide_false]|apply ab<;>intro h<;>try omega|refine av hv rfl rfl ?_|refine av (fF e) rfl rfl ?_
   refine ai (λk:Nat=>⟨[(32,I k),(31,I p.sizes.length),(30,.c (.pure (b6 p.sizes))),(9,.c (.ptr 4 0)),(6,.c (.ptr 2 0)),(5,.c (.ptr 1 0)),(1,.c (.pure (b6 vars)))], [(4,P6 p 3),(3,.map .str none (ja (jY [] 1 (p.sizes.take k)))),(2,Sf gL),(1,tL e),(0,dL p)],5,0⟩) (λk=>k≤p.sizes.length) (λk=>p.sizes.length-k) ⟨0, [],by omega,by simp[gL,jY,ja,K1]⟩ ?_
   clear h1 h2 hv
   intro k hk
   refine aa ?_
   by_cases n:k<p.sizes.length
   ·repeat' first|simp(disch:=omega)only[go_sem, *,ac n,wrap_i64,Hu,←zZ n]|apply ab<;>intro h<;>try omega
    exact⟨k+1, [],by omega,by omega,by simp[gL,dH,gO]⟩
   ·have V:k=p.sizes.length:=by omega
    subst V
    rw[List.take_length]
    repeat clear n
    repeat clear hk
    repeat' first|simp(disch:=omega)only[go_sem, *]|apply ab<;>intro h<;>try omega
    refine ai (λk:Nat=>⟨[(44,I k),(43,I vars.length),(42,.c (.pure (b6 vars))),(9,.c (.ptr 4 0)),(6,.c (.ptr 2 0)),(5,.c (.ptr 1 0))], [(4,P6 p 3),(3,.map .str none (ja (jY (jY [] 1 p.sizes) 3 (vars.take k)))),(2,Sf gL),(1,tL e),(0,dL p)],5,0⟩) (λk=>k≤vars.length) (λk=>vars.length-k) ⟨0, [],by omega,by simp[gL,jY,dH,gO]⟩ ?_
    intro k hk
    refine aa ?_
    by_cases n:k<vars.length
    ·repeat' first|simp(disch:=omega)only[go_sem, *,ac n,wrap_i64,Hu,←zZ n]|apply ab<;>intro h<;>try omega
     exact⟨k+1, [],by omega,by omega,by simp[gL,dH,gO]⟩
    ·have V:k=vars.length:=by omega
     subst V
     rw[List.take_length]
     repeat clear n
     repeat clear hk
     repeat' first|simp(disch:=omega)only[go_sem, *]|apply ab<;>intro h<;>try omega
     refine ae CO.out (ny (m:=3) rfl rfl rfl) (.inl rfl) ?_
     by_cases h3:(dE p vars e).2=0
     ·rw[HR0.out h3]
      clear HR HR0 CO
      generalize dE p vars e=r at*
      repeat' first|simp(disch:=omega)only[go_sem, *,h3]|apply ab<;>intro h<;>try omega
     ·rw[HR.out _ rfl h3]
      clear HR HR0 CO
      generalize dE p vars e=r at*
      repeat' first|simp(disch:=omega)only[go_sem, *,h3]|apply ab<;>intro h<;>try omega
      try rfl
 ·have hR:aT p vars e=(gL,gn e):=by unfold aT;rw[if_pos h1]
  rw[hR]
  clear hR
  repeat' first|simp(disch:=omega)only[go_sem, *,h1]|apply ab<;>intro h<;>try omega|refine av hv rfl rfl ?_
  try rfl
def Kc (p:be) (K:KL):Prop:= ∀s,qV K s=1↔s∈p.sizes
theorem dR {p:be} {K:KL} (hK:Kc p K) (l:fc):af Ya im [KU p K,f9 l.1 l.2] (I (bi p.sizes l)):=by
 refine af.of nv (by simp) λhb=>aa ?_
 have hl:=m7 hb.2.1
 unfold bi
 simp only[ie]
 by_cases D:dZ l.2
 ·rw[if_neg (not_not_intro D)]
  have cV:=bS l.1 l.2
  rw[if_pos D]at cV
  clear D
  repeat' first|simp(disch:=omega)only[go_sem, *]|apply ab<;>intro h<;>try omega|refine av cV rfl rfl ?_
  refine ai (λk:Nat=>⟨[(13,I k),(12,I l.2.length),(11,.c (.pure (bp l.2))),(0,KU p K)], [],0,0⟩) (λk=>k≤l.2.length∧bI (λi=> ∀h:i<l.2.length,l.2[i].1∈p.sizes) k) (λk=>l.2.length-k) ⟨0, [],⟨by omega,.zero⟩,by simp⟩ ?_
  clear cV
  rintro k ⟨hk,f⟩
  refine aa ?_
  by_cases n:k<l.2.length
  ·have hm:=pW l.2[k].1 K
   rw[←DY]at hm
   have q:=hK l.2[k].1
   have R: ¬l.2[k].1∈p.sizes→ ¬fe [] p.sizes l:= λh h2=>h ((h2 _ (List.getElem_mem n)).resolve_left (by simp))
   cases hL:ix K l.2[k].1 with
   |none=>
    rw[hL]at hm
    rw[mu hL]at q
    rw[if_pos (R λh=>absurd (q.2 h) (by decide))]
    clear hL q f R
    repeat' first|simp(disch:=omega)only[go_sem, *,ac n,mP,wrap_i64,hm,Option.map_none]|apply ab<;>intro h<;>try omega
   |some j=>
    rw[hL]at hm
    rw[gX hL]at q
    clear hL
    by_cases hj:j=1
    ·have HA:=Lib.hid (f.succ λ_=>q.1 hj)
     clear q f R
     repeat' first|simp(disch:=omega)only[go_sem, *,ac n,mP,wrap_i64,hm,Option.map_some,hj]|apply ab<;>intro h<;>try omega
     exact⟨k+1, [],⟨by omega,HA.out⟩,by omega,by simp⟩
    ·rw[if_pos (R λh=>hj (q.2 h))]
     clear q f R
     repeat' first|simp(disch:=omega)only[go_sem, *,ac n,mP,wrap_i64,hm,Option.map_some,hj]|apply ab<;>intro h<;>try omega
  ·have q:fe [] p.sizes l:= λm hm=>by
    obtain⟨i,hi,rfl⟩:=List.mem_iff_getElem.1 hm
    exact .inr (f i (by omega) hi)
   rw[if_neg (not_not_intro q)]
   clear f q
   repeat' first|simp(disch:=omega)only[go_sem, *]|apply ab<;>intro h<;>try omega
 ·rw[if_pos D]
  have cV:=bS l.1 l.2
  rw[if_neg D]at cV
  clear D
  repeat' first|simp(disch:=omega)only[go_sem, *]|apply ab<;>intro h<;>try omega|refine av cV rfl rfl ?_
theorem jq {p:be} {K:KL} (hK:Kc p K) (c:Ey):af Ya eY [KU p K,MS c] (I (bi p.sizes c.1)):=by
 refine af.of jO (by simp) λhb=>aa ?_
 have cV:=nZ c
 have cS:=dR hK c.1
 simp only[eV]
 by_cases D:dZ c.1.2
 ·rw[if_pos D]at cV
  clear D
  generalize bi p.sizes c.1=r at*
  repeat' first|simp(disch:=omega)only[go_sem, *]|apply ab<;>intro h<;>try omega|refine av cV rfl rfl ?_|refine av cS rfl rfl ?_
 ·rw[if_neg D]at cV
  rw[show bi p.sizes c.1=1 from if_pos D]
  clear D
  repeat' first|simp(disch:=omega)only[go_sem, *]|apply ab<;>intro h<;>try omega|refine av cV rfl rfl ?_
def rR (o:List ByteArray):List (MK×List AC):=o.map λa=>(MK.str a.data.toList, [.pure (pB true)])
theorem LU (s:ByteArray): ∀o:List ByteArray,eC (rR o) (.str s.data.toList)=if s∈o then some [.pure (pB true)]else none
 | []=>rfl
 |a::r=>by
  have ih:=LU s r
  simp only[rR,List.map_cons,eC]at ih ⊢
  by_cases h:a=s
  ·rw[if_pos (pX.2 h),if_pos (by rw[h];exact List.mem_cons_self)]
  ·rw[if_neg (λe=>h (pX.1 e)),ih]
   by_cases h2:s∈r
   ·rw[if_pos h2,if_pos (List.mem_cons_of_mem _ h2)]
   ·rw[if_neg h2,if_neg]
    intro hm
    rcases List.mem_cons.1 hm with rfl|hm
    ·exact h rfl
    ·exact h2 hm
theorem Pi (s:ByteArray): ∀o:List ByteArray,¬s∈o→Be (rR o) (.str s.data.toList) [.pure (pB true)]=rR (o++ [s])
 | [],_=>rfl
 |a::r,h=>by
  have ih:=Pi s r λhm=>h (List.mem_cons_of_mem _ hm)
  simp only[rR,List.map_cons,Be,List.cons_append]at ih ⊢
  rw[if_neg (λe=>h (by rw[←pX.1 e];exact List.mem_cons_self)),ih]
theorem OG (rl:List (Nat×Nat)): ∀o:List ByteArray,List.map (λx:MK×List AC=>(x.1,List.map (cz rl) x.2)) (rR o)=rR o
 | []=>rfl
 |x::r=>by
  have ih:=OG rl r
  simp only[rR,List.map_cons]at ih ⊢
  rw[ih]
  rfl
theorem SZ (N:Nat): ∀o:List ByteArray,KE N (rR o)
 | []=>trivial
 |x::r=>⟨⟨trivial,trivial⟩,SZ N r⟩
theorem Lb {taken:List ByteArray} {s:ByteArray} (h: ¬eI s):aE taken s=7:=if_pos h
theorem Db {taken:List ByteArray} {s:ByteArray} (h:eI s) (h2:s∈taken):aE taken s=8:=by unfold aE;rw[if_neg (not_not_intro h),if_pos h2]
theorem Kz {taken:List ByteArray} {s:ByteArray} (h:eI s) (h2: ¬s∈taken):aE taken s=0:=by unfold aE;rw[if_neg (not_not_intro h),if_neg h2]
set_option maxHeartbeats 1000000 in
theorem nw {p:be} {K:KL} (hK:Kc p K) (d:jA) (hA:d.dims.length≤1000) (hB:d.red.length≤1000):af Ya iH [KU p K,sK d] (I (aY p.sizes p.sizes (d.dims++d.red))):=by
 refine af.of oH (by simp) λhb=>aa ?_
 have cC:=DL d.dims d.red hA hB
 have hI:(d.dims++d.red).length≤2000:=by simp;omega
 simp only[iD]
 generalize d.dims++d.red=L at*
 repeat' first|simp(disch:=omega)only[go_sem, *]|apply ab<;>intro h<;>try omega|refine o5 cC rfl rfl ?_
 refine ai (λk:Nat=>⟨[(17,I k),(16,I L.length),(15,bZ ee L),(5,.c (.mref 1)),(0,KU p K)], [(1,.map .str none (rR ((L.take k).map (·.1)))),(0,qJ d)],2,0⟩) (λk=>k≤L.length∧Hid (aY p.sizes p.sizes (L.take k)=0)) (λk=>L.length-k) ⟨0, [],⟨by omega,by show _=_;simp[aY]⟩,by simp[rR,K1]⟩ ?_
 clear cC hA hB
 rintro k ⟨hk,f⟩
 refine aa ?_
 by_cases n:k<L.length
 ·have G:= λh1=>sF (sizes:=p.sizes) n f.out h1
  have O:= λh1 h2=>rX (sizes:=p.sizes) n f.out h1 h2
  have P:= λh1 h2=>Lib.hid (sJ (sizes:=p.sizes) n f.out h1 h2)
  have cS:=dR hK L[k].2
  have q:=hK L[k].1
  have hm:=pW L[k].1 K
  rw[←DY]at hm
  have H:=LU L[k].1 ((L.take k).map (·.1))
  have E:=Pi L[k].1 ((L.take k).map (·.1))
  have hC:(L.take (k+1)).map (·.1)=(L.take k).map (·.1)++ [L[k].1]:=by rw[List.take_succ_eq_append_getElem n,List.map_append];rfl
  rw[←hC]at E
  clear f hC
  by_cases hi:eI L[k].1
  ·by_cases ho:L[k].1∈(L.take k).map (·.1)
   ·rw[if_pos ho]at H
    have hE:=Db (taken:=p.sizes++(L.take k).map (·.1)) hi (List.mem_append_right _ ho)
    rw[G (by rw[hE];decide),hE]
    clear G O P E q hm ho hE
    repeat' first|simp(disch:=omega)only[go_sem, *,ac n,ee,wrap_i64,hi,decide_true,H]|apply ab<;>intro h<;>try omega|refine av (bf _) rfl rfl ?_
   ·rw[if_neg ho]at H
    have E:=E ho
    by_cases hs:L[k].1∈p.sizes
    ·have hE:=Db (taken:=p.sizes++(L.take k).map (·.1)) hi (List.mem_append_left _ hs)
     have hg:=q.2 hs
     rw[G (by rw[hE];decide),hE]
     cases hL:ix K L[k].1 with
     |none=>
      rw[mu hL]at hg
      exact absurd hg (by decide)
     |some j=>
      rw[gX hL]at hg
      rw[hL,hg]at hm
      clear G O P E q ho hE hs hL hg
      repeat' first|simp(disch:=omega)only[go_sem, *,ac n,ee,wrap_i64,hi,decide_true,H,hm,Option.map_some]|apply ab<;>intro h<;>try omega|refine av (bf _) rfl rfl ?_
    ·have hE:aE (p.sizes++(L.take k).map (·.1)) L[k].1=0:=Kz hi λh=>(List.mem_append.1 h).elim hs ho
     have hg: ¬qV K L[k].1=1:= λh=>hs (q.1 h)
     have T:(eC (lR (D0 K)) (.str L[k].1.data.toList)=none)∨ ∃j,eC (lR (D0 K)) (.str L[k].1.data.toList)=some [.pure (pI j)]∧ ¬j=1:=by
      rw[hm]
      cases hL:ix K L[k].1 with
      |none=>exact .inl rfl
      |some j=>exact .inr ⟨j,rfl,λh=>hg ((gX hL).trans h)⟩
     by_cases h2:bi p.sizes L[k].2=0
     ·have HN:=P hE h2
      rw[h2]at cS
      clear G O P q ho hE hs hm hg h2
      rcases T with hm|⟨j,hm,hj⟩
      ·repeat' first|simp(disch:=omega)only[go_sem, *,ac n,ee,wrap_i64,hi,decide_true,H,hm,E]|apply ab<;>intro h<;>try omega|refine av (bf _) rfl rfl ?_|refine av cS rfl rfl ?_
       exact⟨k+1, [],⟨by omega,HN⟩,by omega,by simp[OG,SZ]⟩
      ·repeat' first|simp(disch:=omega)only[go_sem, *,ac n,ee,wrap_i64,hi,decide_true,H,hm,E,hj]|apply ab<;>intro h<;>try omega|refine av (bf _) rfl rfl ?_|refine av cS rfl rfl ?_
       exact⟨k+1, [],⟨by omega,HN⟩,by omega,by simp[OG,SZ]⟩
     ·rw[O hE h2]
      clear G O P q ho hE hs hm hg
      rcases T with hm|⟨j,hm,hj⟩
      ·repeat' first|simp(disch:=omega)only[go_sem, *,ac n,ee,wrap_i64,hi,decide_true,H,hm,E,h2]|apply ab<;>intro h<;>try omega|refine av (bf _) rfl rfl ?_|refine av cS rfl rfl ?_
      ·repeat' first|simp(disch:=omega)only[go_sem, *,ac n,ee,wrap_i64,hi,decide_true,H,hm,E,hj,h2]|apply ab<;>intro h<;>try omega|refine av (bf _) rfl rfl ?_|refine av cS rfl rfl ?_
  ·have hE:=Lb (taken:=p.sizes++(L.take k).map (·.1)) hi
   rw[G (by rw[hE];decide),hE]
   clear G O P E q hm hE
   repeat' first|simp(disch:=omega)only[go_sem, *,ac n,ee,wrap_i64,hi,decide_false]|apply ab<;>intro h<;>try omega|refine av (bf _) rfl rfl ?_
 ·have hz:=f.out
  rw[List.take_of_length_le (by omega)]at hz
  rw[hz]
  clear hz f
  repeat' first|simp(disch:=omega)only[go_sem, *]|apply ab<;>intro h<;>try omega
end Go.Proofs.YtjhkikmonejkjaaGreatDoor
