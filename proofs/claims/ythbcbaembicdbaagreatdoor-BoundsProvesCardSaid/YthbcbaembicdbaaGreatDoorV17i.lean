import Derived.Test.YthbcbaembicdbaaGreatDoorV14d
import Derived.Test.YthbcbaembicdbaaGreatDoorV17e
set_option linter.unusedVariables false
set_option linter.unusedSimpArgs false
set_option maxHeartbeats 4000000
set_option maxRecDepth 1000000
namespace Go.Proofs.YthbcbaembicdbaaGreatDoor
open Go.Abs Go.RowKit
abbrev QR (p:bI) (K:KL):AV:= .c (.cptr [c8 p.sizes,du cP p.wher,du ip p.params,du da p.defs,c8 p.outs,.fmap .str none (Ht K)])
abbrev WW (p:bI) (m:Nat):bc:= .var [.pure (c8 p.sizes),.pure (du cP p.wher),.pure (du ip p.params),.pure (du da p.defs),.pure (c8 p.outs),.mref m]
abbrev mK (K:KL):bc:= .map .str none (kw K)
theorem pW {mem:List (Nat×bc)} {c m:Nat} {p:bI} {K:KL} {rest rest':List AV} (h2:am mem c=some (WW p m)) (h1:am mem m=some (mK K)) (hr:bG mem rest=some rest'):bG mem (.c (.ptr c 0)::rest)=some (QR p K::rest'):=by
 simp[bG,dQ,ej,d6,h2,cJ,eL,dS,h1,RL,hr]
theorem cm (rl:List (Nat×Nat)): ∀K:KL,List.map (λx:MK×List AC=>(x.1,List.map (dB rl) x.2)) (kw K)=kw K
 | []=>rfl
 |x::r=>by
  have ih:=cm rl r
  simp only[kw,List.map_cons]at ih ⊢
  rw[ih]
  rfl
theorem d7 (N:Nat): ∀K:KL,TH N (kw K)
 | []=>trivial
 |x::r=>⟨⟨trivial,trivial⟩,d7 N r⟩
theorem PO (N:Nat):TH N []:=trivial
def Kn (p:bI) (vars:List ByteArray) (K:KL):Prop:= ∀s,tG K s≠0↔s∈vars∨s∈p.sizes
theorem fL {p:bI} {vars:List ByteArray} {K:KL} (hK:Kn p vars K) (l:bY):ac Tryz.prog lh [QR p K,dm l.1 l.2] (I (dX p vars [l])):=by
 refine ac.of tU (by simp) λhb=>aa ?_
 have hl:=wN hb.2.1
 rw[nh]
 conv in lV=>cbv
 repeat' first|simp(disch:=omega)only[go_sem, *]|(with_reducible apply ab)<;>intro h<;>try omega
 refine an (λk:Nat=>⟨[(10,I k),(9,I l.2.length),(8,.c (.pure (aw l.2))),(0,QR p K)], [],0,0⟩) (λk=>k≤l.2.length∧el (λi=> ∀h:i<l.2.length,l.2[i].1∈vars∨l.2[i].1∈p.sizes) k) (λk=>l.2.length-k) ⟨0, [],⟨by omega,.zero⟩,by simp⟩ ?_
 rintro k ⟨hk,f⟩
 refine aa ?_
 by_cases n:k<l.2.length
 ·have hm:=sN l.2[k].1 K
  rw[←FM]at hm
  have q:=hK l.2[k].1
  cases hL:jK K l.2[k].1 with
  |none=>
   rw[hL]at hm
   rw[oF hL]at q
   rw[if_neg (show ¬fq vars p.sizes l from λh=>(q.2 (h _ (List.getElem_mem n))) rfl)]
   clear hL q f
   repeat' first|simp(disch:=omega)only[go_sem, *,ah n,mP,wrap_i64,hm,Option.map_none]|(with_reducible apply ab)<;>intro h<;>try omega
  |some j=>
   rw[hL]at hm
   rw[ja hL]at q
   clear hL
   by_cases hj:j=0
   ·rw[if_neg (show ¬fq vars p.sizes l from λh=>(q.2 (h _ (List.getElem_mem n))) hj)]
    clear q f
    repeat' first|simp(disch:=omega)only[go_sem, *,ah n,mP,wrap_i64,hm,Option.map_some,hj]|(with_reducible apply ab)<;>intro h<;>try omega
   ·have HA:=Lib.hid (f.succ λ_=>q.1 hj)
    clear q f
    repeat' first|simp(disch:=omega)only[go_sem, *,ah n,mP,wrap_i64,hm,Option.map_some,hj]|(with_reducible apply ab)<;>intro h<;>try omega
    exact⟨k+1, [],⟨by omega,HA.out⟩,by omega,by simp⟩
 ·have q:fq vars p.sizes l:=λm hm=>by
   obtain⟨i,hi,rfl⟩:=List.mem_iff_getElem.1 hm
   exact f i (by omega) hi
  rw[if_pos q]
  clear f q
  repeat' first|simp(disch:=omega)only[go_sem, *]|(with_reducible apply ab)<;>intro h<;>try omega
theorem qX {p:bI} (hf:j0 p) {vars:List ByteArray} {K:KL} (hK:Kn p vars K) (x:Ix):ac Tryz.prog j6 [QR p K,aIx x] (I (gU p vars x)):=by
 refine ac.of rY (by simp) λhb=>aa ?_
 have hl:x.2.2.length≤9223372036854775807:=by
  have:=hb.2.1
  simp[i5,rF,jS]at this
  omega
 have cF:=fL hK x.1
 conv in kx=>cbv
 by_cases o:x.2.1=⟨⟨[]⟩⟩
 ·rw[Kb o]
  rw[nh]at cF
  repeat' first|simp(disch:=omega)only[go_sem, *,o]|(with_reducible apply ab)<;>intro h<;>try omega|refine aF cF rfl rfl ?_
 ·clear cF
  have hF:=ie hf x.2.1
  cases E:di p x.2.1 with
  |none=>
   rw[IG o E]
   rw[E]at hF
   clear E
   repeat' first|simp(disch:=omega)only[go_sem, *,o]|(with_reducible apply ab)<;>intro h<;>try omega|refine cg hF rfl rfl ?_
  |some r=>
   obtain⟨t,d⟩:=r
   rw[Ho o E]
   rw[E]at hF
   clear E
   by_cases ht:t.1=3
   ·rw[if_neg (not_not_intro ht)]
    by_cases hd:x.2.2.length=d.length
    ·rw[if_neg (not_not_intro hd)]
     have F:(x.2.2.length:Int)=d.length:=by omega
     clear hd
     repeat' first|simp(disch:=omega)only[go_sem, *,o,ht,F]|(with_reducible apply ab)<;>intro h<;>try omega|refine cg hF rfl rfl ?_
     refine an (λk:Nat=>⟨[(46,I k),(45,I x.2.2.length),(44,md x.2.2),(0,QR p K)], [],0,0⟩) (λk=>k≤x.2.2.length∧el (λi=> ∀h:i<x.2.2.length,fq vars p.sizes x.2.2[i]) k) (λk=>x.2.2.length-k) ⟨0, [],⟨by omega,.zero⟩,by rw[F];simp⟩ ?_
     clear F hF ht o
     rintro k ⟨hk,f⟩
     refine aa ?_
     by_cases n:k<x.2.2.length
     ·have cF:=fL hK x.2.2[k]
      rw[nh]at cF
      by_cases q:fq vars p.sizes x.2.2[k]
      ·rw[if_pos q]at cF
       have HA:=Lib.hid (f.succ λ_=>q)
       clear f q
       repeat' first|simp(disch:=omega)only[go_sem, *,ah n,cd,wrap_i64]|(with_reducible apply ab)<;>intro h<;>try omega|refine aF cF rfl rfl ?_
       exact⟨k+1, [],⟨by omega,HA.out⟩,by omega,by simp⟩
      ·rw[if_neg q]at cF
       have hR:dX p vars x.2.2=9:=if_neg λh=>q (h _ (List.getElem_mem n))
       rw[hR]
       clear f q hR
       repeat' first|simp(disch:=omega)only[go_sem, *,ah n,cd,wrap_i64]|(with_reducible apply ab)<;>intro h<;>try omega|refine aF cF rfl rfl ?_
     ·have hR:dX p vars x.2.2=0:=if_pos λl hm=>by
       obtain⟨i,hi,rfl⟩:=List.mem_iff_getElem.1 hm
       exact f i (by omega) hi
      rw[hR]
      clear f hR
      repeat' first|simp(disch:=omega)only[go_sem, *]|(with_reducible apply ab)<;>intro h<;>try omega
    ·rw[if_pos hd]
     have F: ¬(x.2.2.length:Int)=d.length:=by omega
     clear hd
     repeat' first|simp(disch:=omega)only[go_sem, *,o,ht,F]|(with_reducible apply ab)<;>intro h<;>try omega|refine cg hF rfl rfl ?_
   ·rw[if_pos ht]
    repeat' first|simp(disch:=omega)only[go_sem, *,o,ht]|(with_reducible apply ab)<;>intro h<;>try omega|refine cg hF rfl rfl ?_
theorem sM {p:bI} (hf:j0 p) {vars:List ByteArray} {K:KL} (hK:Kn p vars K) (e:Ex):ac Tryz.prog lY [QR p K,fJ e] (MU (gx p vars e)):=by
 refine ac.of tE (by simp) λhb=>aa ?_
 have hl:=(eh hb.2).2
 conv in lH=>cbv
 have hF:=ie hf e.name
 cases v:di p e.name with
 |none=>
  rw[v]at hF
  rw[Hj v]
  clear v
  repeat' first|simp(disch:=omega)only[go_sem, *]|(with_reducible apply ab)<;>intro h<;>try omega|refine cg hF rfl rfl ?_
  try rfl
 |some r=>
  obtain⟨t,dims⟩:=r
  rw[v]at hF
  by_cases D:e.idx.length=dims.length
  ·have C:(dims.length:Int)=e.idx.length:=by omega
   have HF:=Lib.hid v
   have HL:=Lib.hid D
   clear D v
   repeat' first|simp(disch:=omega)only[go_sem, *,C]|(with_reducible apply ab)<;>intro h<;>try omega|refine cg hF rfl rfl ?_
   refine an (λk:Nat=>⟨[(36,I k),(35,I e.idx.length),(34,.c (.pure (du eQ e.idx))),(6,.c (.ptr 2 0)),(4,.c (.ptr 1 0)),(0,QR p K)], [(2,Zl t),(1,Zl js),(0,Gy e)],3,0⟩) (λk=>k≤e.idx.length∧Hid (de ((e.idx.map (gU p vars)).take k)=0)) (λk=>e.idx.length-k) ⟨0, [],⟨by omega,by show _=_;simp[de]⟩,by simp[js]⟩ ?_
   clear hF C
   rintro k ⟨hk,f⟩
   refine aa ?_
   by_cases n:k<e.idx.length
   ·have cI:=qX hf hK e.idx[k]
    by_cases hz:gU p vars e.idx[k]=0
    ·have HN:Hid (de ((e.idx.map (gU p vars)).take (k+1))=0):=Kh n f.out hz
     clear HF HL f
     repeat' first|simp(disch:=omega)only[go_sem, *,ah n,eQ,wrap_i64,hz]|(with_reducible apply ab)<;>intro h<;>try omega|refine aF cI rfl rfl ?_
     exact⟨k+1, [],⟨by omega,HN⟩,by omega,by simp[js]⟩
    ·rw[KB HF.out HL.out (KP n f.out hz) hz]
     clear HF HL f
     repeat' first|simp(disch:=omega)only[go_sem, *,ah n,eQ,wrap_i64,hz]|(with_reducible apply ab)<;>intro h<;>try omega|refine aF cI rfl rfl ?_
     try rfl
   ·have hz:=f.out
    rw[List.take_of_length_le (by simp;omega)]at hz
    rw[Nt HF.out HL.out hz]
    clear HF HL f hz
    repeat' first|simp(disch:=omega)only[go_sem, *]|(with_reducible apply ab)<;>intro h<;>try omega
  ·have C: ¬(dims.length:Int)=e.idx.length:=by omega
   rw[JR v D]
   clear D v
   repeat' first|simp(disch:=omega)only[go_sem, *,C]|(with_reducible apply ab)<;>intro h<;>try omega|refine cg hF rfl rfl ?_
   try rfl
theorem om (a:Ty):ac Tryz.prog gS [Mg a,Mg a] (I 0):=by
 refine ac.of ko (by simp) λhb=>aa ?_
 conv in gG=>cbv
 repeat' first|simp(disch:=omega)only[go_sem, *]|(with_reducible apply ab)<;>intro h<;>try omega
theorem mo {a b:Ty} (h: ¬a=b):ac Tryz.prog gS [Mg a,Mg b] (I 10):=by
 refine ac.of ko (by simp) λhb=>aa ?_
 conv in gG=>cbv
 have HN:=Lib.hid h
 clear h
 repeat' first|simp(disch:=omega)only[go_sem, *]|(with_reducible apply ab)<;>intro h<;>try omega
 all_goals first
  |exact absurd (yX h) HN.out
  |rfl
set_option maxRecDepth 1000000
theorem uG {p:bI} (hf:j0 p) {vars:List ByteArray} {K:KL} (hK:Kn p vars K) (e:Ex):i0 e→ac Tryz.prog i9 [QR p K,fJ e] (MU (eA p vars e)):=by
 refine Ex.ind (p:=λe=>i0 e→ac Tryz.prog i9 [QR p K,fJ e] (MU (eA p vars e))) (λe ih hr=> ?_) e
 refine ac.of wQ (by simp) λhb=>aa ?_
 have hl:=(eh hb.2).1
 obtain⟨ha,H,J,_⟩:=dY hr
 have P:e.args.length≤3:=by rcases zS H J with h|h|h|h|h|h<;>omega
 have HA:=Lib.hid ha
 clear ha
 rw[show nC= (s_ [o_ 3 (.box (.t 1)),o_ 4 (.box (.k (.agg [i_ 0,i_ 0,i_ 0,i_ 0,i_ 0]))),o_ 5 (w_ 0)] (s_ [o_ 6 (.mv (.k (.c .nils)))] (.seq (s_ [o_ 12 (a_ 12 3),o_ 13 (l_ 12),o_ 14 (z_ 13),o_ 15 (w_ 0)] (.block 0 (.loop (s_ [o_ 16 (q_ 15 14)] (.seq (X_ 16 0) (.seq (.block 1 (s_ [o_ 17 (x_ 13 13 15),o_ 18 (L_ 13 17),o_ 8 (.box (.k (.agg [i_ 0,(.pure (.val (.string ⟨⟨[]⟩⟩))),i_ 0,i_ 0,i_ 0,i_ 0,i_ 0,i_ 0,i_ 0,i_ 0,.nils,.nils,.nils]))),u_ (S_ 13 8 18)] (s_ [m_ 20 0,o_ 21 (L_ 13 8),o_ 22 (C_ 156 [.t 20,.t 21]),m_ 19 22,o_ 23 (e_ 19 0),o_ 24 (e_ 19 1),o_ 9 (.box (.k (.agg [i_ 0,i_ 0,i_ 0,i_ 0,i_ 0]))),u_ (S_ 5 9 23),m_ 10 24] (.seq (s_ [m_ 25 10,o_ 26 (Q_ .neq 25 0)] (y_ 26 (s_ [o_ 27 (.build [i_ 0,i_ 0,i_ 0,i_ 0,i_ 0] []),m_ 28 10,u_ (S_ 5 4 27),m_ 5 28] .ret) .skip)) (r_ [m_ 29 6,o_ 30 (L_ 5 9),o_ 31 (.bslice 5 [.t 30]),o_ 32 (.app 67 5 40 (.t 29) (.t 31)),m_ 6 32]))))) (r_ [o_ 33 (j_ 15),m_ 15 33]))))))) (s_ [o_ 11 (.mv (f_ 202))] (.seq (s_ [o_ 34 (a_ 0 3),o_ 35 (l_ 34)] (.block 2 (.seq (s_ [o_ 37 (Q_ .eql 35 1),m_ 36 37] (y_ 36 .skip (r_ [o_ 38 (Q_ .eql 35 12),m_ 36 38]))) (y_ 36 (s_ [o_ 39 (a_ 4 3),o_ 40 (L_ 5 39),u_ (S_ 5 4 40),o_ 5 (w_ 0)] .ret) (s_ [o_ 42 (Q_ .eql 35 2),m_ 41 42] (y_ 41 (s_ [o_ 43 (.build [i_ 0,i_ 0,i_ 0,i_ 0,i_ 0] [(0,(1,(k_ 3)))]),m_ 44 0,o_ 45 (a_ 9 3),o_ 46 (L_ 2 45),o_ 47 (C_ 203 [.t 44,.t 46]),u_ (S_ 5 4 43),m_ 5 47] .ret) (s_ [o_ 49 (Q_ .eql 35 3),m_ 48 49] (y_ 48 (s_ [m_ 50 0,o_ 51 (L_ 13 3),o_ 52 (C_ 204 [.t 50,.t 51]),o_ 53 (e_ 52 0),o_ 54 (e_ 52 1),u_ (S_ 5 4 53),m_ 5 54] .ret) (s_ [o_ 56 (Q_ .eql 35 8),m_ 55 56] (y_ 55 (s_ [m_ 57 6,o_ 58 (.idxA 5 (.t 57) (k_ 0)),o_ 59 (L_ 5 58),u_ (S_ 5 4 59),o_ 5 (w_ 0)] .ret) (s_ [o_ 61 (Q_ .eql 35 11),m_ 60 61] (y_ 60 (.seq (.draw [[M_ 62 6,P_ 63 (.idxA 5 (.t 62) (k_ 1)),P_ 64 (L_ 5 63),M_ 65 11,M_ 66 6,P_ 67 (.idxA 5 (.t 66) (k_ 1)),P_ 68 (L_ 5 67),M_ 69 6,P_ 70 (.idxA 5 (.t 69) (k_ 2)),P_ 71 (L_ 5 70),P_ 72 (.call true false (.t 65) [.t 68,.t 71]),U_ (S_ 5 4 64),M_ 5 72],[M_ 62 6,P_ 63 (.idxA 5 (.t 62) (k_ 1)),M_ 65 11,M_ 66 6,P_ 67 (.idxA 5 (.t 66) (k_ 1)),P_ 68 (L_ 5 67),M_ 69 6,P_ 70 (.idxA 5 (.t 69) (k_ 2)),P_ 71 (L_ 5 70),P_ 72 (.call true false (.t 65) [.t 68,.t 71]),P_ 64 (L_ 5 63),U_ (S_ 5 4 64),M_ 5 72],[M_ 62 6,M_ 65 11,M_ 66 6,P_ 67 (.idxA 5 (.t 66) (k_ 1)),P_ 68 (L_ 5 67),M_ 69 6,P_ 70 (.idxA 5 (.t 69) (k_ 2)),P_ 71 (L_ 5 70),P_ 72 (.call true false (.t 65) [.t 68,.t 71]),P_ 63 (.idxA 5 (.t 62) (k_ 1)),P_ 64 (L_ 5 63),U_ (S_ 5 4 64),M_ 5 72]]) .ret) (.seq (s_ [o_ 74 (Q_ .eql 35 16),m_ 73 74] (y_ 73 .skip (s_ [o_ 75 (Q_ .eql 35 17),m_ 73 75] (y_ 73 .skip (r_ [o_ 76 (Q_ .eql 35 18),m_ 73 76]))))) (y_ 73 (s_ [o_ 77 (.build [i_ 0,i_ 0,i_ 0,i_ 0,i_ 0] []),u_ (S_ 5 4 77),o_ 5 (w_ 0)] .ret) (.seq (s_ [o_ 79 (Q_ .eql 35 13),m_ 78 79] (y_ 78 .skip (s_ [o_ 80 (Q_ .eql 35 14),m_ 78 80] (y_ 78 .skip (r_ [o_ 81 (Q_ .eql 35 15),m_ 78 81]))))) (y_ 78 (.seq (.draw [[P_ 82 (.build [i_ 0,i_ 0,i_ 0,i_ 0,i_ 0] []),M_ 83 11,M_ 84 6,P_ 85 (.idxA 5 (.t 84) (k_ 0)),P_ 86 (L_ 5 85),M_ 87 6,P_ 88 (.idxA 5 (.t 87) (k_ 1)),P_ 89 (L_ 5 88),P_ 90 (.call true false (.t 83) [.t 86,.t 89]),U_ (S_ 5 4 82),M_ 5 90]]) .ret) .skip)))))))))))))))) (.seq (.draw [[M_ 91 6,P_ 92 (.idxA 5 (.t 91) (k_ 0)),P_ 93 (L_ 5 92),M_ 94 11,M_ 95 6,P_ 96 (.idxA 5 (.t 95) (k_ 0)),P_ 97 (L_ 5 96),M_ 98 6,P_ 99 (.idxA 5 (.t 98) (k_ 1)),P_ 100 (L_ 5 99),P_ 101 (.call true false (.t 94) [.t 97,.t 100]),U_ (S_ 5 4 93),M_ 5 101],[M_ 91 6,P_ 92 (.idxA 5 (.t 91) (k_ 0)),M_ 94 11,M_ 95 6,P_ 96 (.idxA 5 (.t 95) (k_ 0)),P_ 97 (L_ 5 96),M_ 98 6,P_ 99 (.idxA 5 (.t 98) (k_ 1)),P_ 100 (L_ 5 99),P_ 101 (.call true false (.t 94) [.t 97,.t 100]),P_ 93 (L_ 5 92),U_ (S_ 5 4 93),M_ 5 101],[M_ 91 6,M_ 94 11,M_ 95 6,P_ 96 (.idxA 5 (.t 95) (k_ 0)),P_ 97 (L_ 5 96),M_ 98 6,P_ 99 (.idxA 5 (.t 98) (k_ 1)),P_ 100 (L_ 5 99),P_ 101 (.call true false (.t 94) [.t 97,.t 100]),P_ 92 (.idxA 5 (.t 91) (k_ 0)),P_ 93 (L_ 5 92),U_ (S_ 5 4 93),M_ 5 101]]) .ret)))))) from by kernel_rfl]
 repeat' first|simp(disch:=omega)only[go_sem, *]|(with_reducible apply ab)<;>intro h<;>try omega
 refine dR 6 67 5 rfl (by decide) ?_
 refine an (λs:Nat×List Ty=>⟨[(15,I s.1),(14,I e.args.length),(13,.c (.pure (.slice (e.args.map Ex.row)))),(6,.c (.ref 2)),(4,.c (.ptr 1 0)),(3,.c (.ptr 0 0)),(0,QR p K)], [(2,.arr 67 5 (s.2.map XM)),(1,Zl js),(0,Gy e)],3,0⟩) (λs=>s.1≤e.args.length∧Hid (dO p vars (e.args.take s.1)= .inr s.2)) (λs=>e.args.length-s.1) ⟨(0, []), [],⟨by omega,by show _=_;simp[dO]⟩,by simp[js]⟩ ?_
 rintro⟨k,ts⟩ ⟨hk,f⟩
 refine aa ?_
 simp only at hk f
 by_cases n:k<e.args.length
 ·have L:=ih _ (List.getElem_mem n) (iU hr (List.getElem_mem n))
  have w:ts.length=k:=by
   have:=qJ f.out
   rw[this,List.length_take]
   omega
  by_cases h0:(eA p vars e.args[k]).2=0
  ·have hn:=Gz n f.out h0
   have HN:=Lib.hid hn
   clear ih hr f hn
   generalize eA p vars e.args[k]=r at*
   have ht:ts.map XM++ [XM r.1]=(ts++ [r.1]).map XM:=by simp
   simp only[XM]at ht
   have HT:=Lib.hid ht
   clear ht
   repeat' first|simp(disch:=omega)only[go_sem, *,ah n,Ex.row_eq,wrap_i64,h0]|(with_reducible apply ab)<;>intro h<;>try omega|refine aF L rfl rfl ?_|refine aJ rfl (by intro h;cases h) (aB rfl) (by simp;omega) (by simp;omega) ?_
   rw[HT.out]
   exact⟨(k+1,ts++ [r.1]), [(2,5)],⟨by omega,HN⟩,by show _-_<_-_;omega,by simp⟩
  ·have hn:=GY n f.out h0
   have hR:eA p vars e=(js,(eA p vars e.args[k]).2):=by conv=>lhs;rw[oT,hn]
   rw[hR]
   clear ih hr f hn hR
   generalize eA p vars e.args[k]=r at*
   repeat' first|simp(disch:=omega)only[go_sem, *,ah n,Ex.row_eq,wrap_i64,h0]|(with_reducible apply ab)<;>intro h<;>try omega|refine aF L rfl rfl ?_
   try rfl
 ·have u:=f.out
  rw[List.take_of_length_le (by omega)]at u
  have w:=qJ u
  have hR:eA p vars e=aZ p vars e ts:=by conv=>lhs;rw[oT,u]
  have y:=sM hf hK e
  have A:=fL hK e.lin
  clear ih hr f u
  have u:=HA.out
  clear HA
  rcases zS H J with⟨g|g|g,h2⟩|⟨g|g|g,h2⟩|⟨g,h2⟩|⟨g,h2⟩|⟨g,h2⟩|⟨g,h2⟩
  ·rw[hR.trans (show aZ p vars e ts=(e.ty,0) by simp[aZ,g])]
   clear hR w h2 u y A
   repeat' first|simp(disch:=omega)only[go_sem, *,g]|(with_reducible apply ab)<;>intro h<;>try omega
  ·rw[hR.trans (show aZ p vars e ts=((3,0,0,0,0),dX p vars [e.lin]) by simp[aZ,g])]
   clear hR w h2 u y
   repeat' first|simp(disch:=omega)only[go_sem, *,g]|(with_reducible apply ab)<;>intro h<;>try omega|refine aF A rfl rfl ?_
  ·rw[hR.trans (show aZ p vars e ts=gx p vars e by simp[aZ,g])]
   clear hR w h2 u A
   simp only[fJ,g]at y
   repeat' first|simp(disch:=omega)only[go_sem, *,g]|(with_reducible apply ab)<;>intro h<;>try omega|refine aF y rfl rfl ?_
  ·obtain⟨a,rfl⟩:=abg (l:=ts) (by omega)
   rw[hR.trans (show aZ p vars e [a]=(a,0) by simp[aZ,g])]
   clear hR w h2 u y A
   repeat' first|simp(disch:=omega)only[go_sem, *,g,Int.toNat_zero]|(with_reducible apply ab)<;>intro h<;>try omega
  ·rw[hR.trans (show aZ p vars e ts=(e.ty,0) by simp[aZ,g])]
   clear hR w h2 u y A
   repeat' first|simp(disch:=omega)only[go_sem, *,g]|(with_reducible apply ab)<;>intro h<;>try omega
  ·rw[hR.trans (show aZ p vars e ts=(js,0) by simp[aZ,g])]
   clear hR w h2 u y A
   repeat' first|simp(disch:=omega)only[go_sem, *,g]|(with_reducible apply ab)<;>intro h<;>try omega
   try rfl
  ·obtain⟨a,b,c,rfl⟩:=abG (l:=ts) (by omega)
   by_cases z:b=c
   ·subst z
    rw[hR.trans (show aZ p vars e [a,b,b]=(b,0) by simp[aZ,g])]
    have cs:=om b
    clear hR w h2 u y A
    repeat' first|simp(disch:=omega)only[go_sem, *,g,Int.toNat_zero,show Int.toNat 1=1 from rfl,show Int.toNat 2=2 from rfl]|(with_reducible apply ab)<;>intro h<;>try omega|(with_reducible apply ag)|(with_reducible refine aj (λh=> ?_) ?_)|refine aF cs rfl rfl ?_
   ·rw[hR.trans (show aZ p vars e [a,b,c]=(b,10) by simp[aZ,g,z])]
    have cs:=mo z
    clear hR w h2 u y A z
    repeat' first|simp(disch:=omega)only[go_sem, *,g,Int.toNat_zero,show Int.toNat 1=1 from rfl,show Int.toNat 2=2 from rfl]|(with_reducible apply ab)<;>intro h<;>try omega|(with_reducible apply ag)|(with_reducible refine aj (λh=> ?_) ?_)|refine aF cs rfl rfl ?_
  ·obtain⟨a,b,rfl⟩:=YC (l:=ts) (by omega)
   rcases g with g|g|g
   all_goals
    by_cases z:a=b
    ·subst z
     rw[hR.trans (show aZ p vars e [a,a]=(js,0) by simp[aZ,g])]
     have cs:=om a
     clear hR w h2 u y A
     repeat' first|simp(disch:=omega)only[go_sem, *,g,Int.toNat_zero,show Int.toNat 1=1 from rfl]|(with_reducible apply ab)<;>intro h<;>try omega|refine aF cs rfl rfl ?_
     try rfl
    ·rw[hR.trans (show aZ p vars e [a,b]=(js,10) by simp[aZ,g,z])]
     have cs:=mo z
     clear hR w h2 u y A z
     repeat' first|simp(disch:=omega)only[go_sem, *,g,Int.toNat_zero,show Int.toNat 1=1 from rfl]|(with_reducible apply ab)<;>intro h<;>try omega|refine aF cs rfl rfl ?_
     try rfl
  ·rcases g with g|g
   all_goals
    rw[hR.trans (show aZ p vars e ts=(js,0) by simp[aZ,g])]
    clear hR w h2 u y A
    repeat' first|simp(disch:=omega)only[go_sem, *,g]|(with_reducible apply ab)<;>intro h<;>try omega
    try rfl
  ·obtain⟨a,b,rfl⟩:=YC (l:=ts) (by omega)
   have h3: ¬e.op=1∧ ¬e.op=2∧ ¬e.op=3∧ ¬e.op=12∧ ¬e.op=8∧ ¬e.op=11∧ ¬16≤e.op∧ ¬13≤e.op∧ ¬e.op=13∧ ¬e.op=14∧ ¬e.op=15∧ ¬e.op=16∧ ¬e.op=17∧ ¬e.op=18:=by omega
   obtain⟨g1,g2,g3,g4,g5,g6,g7,g8,g9,g10,g11,g12,g13,g14⟩:=h3
   clear g
   by_cases z:a=b
   ·subst z
    rw[hR.trans (show aZ p vars e [a,a]=(a,0) by simp[aZ,g1,g2,g3,g4,g5,g6,g7,g8])]
    have cs:=om a
    clear hR w h2 u y A g7 g8
    repeat' first|simp(disch:=omega)only[go_sem, *,g1,g2,g3,g4,g5,g6,g9,g10,g11,g12,g13,g14,Int.toNat_zero,show Int.toNat 1=1 from rfl]|(with_reducible apply ab)<;>intro h<;>try omega|(with_reducible apply ag)|(with_reducible refine aj (λh=> ?_) ?_)|refine aF cs rfl rfl ?_
   ·rw[hR.trans (show aZ p vars e [a,b]=(a,10) by simp[aZ,g1,g2,g3,g4,g5,g6,g7,g8,z])]
    have cs:=mo z
    clear hR w h2 u y A z g7 g8
    repeat' first|simp(disch:=omega)only[go_sem, *,g1,g2,g3,g4,g5,g6,g9,g10,g11,g12,g13,g14,Int.toNat_zero,show Int.toNat 1=1 from rfl]|(with_reducible apply ab)<;>intro h<;>try omega|(with_reducible apply ag)|(with_reducible refine aj (λh=> ?_) ?_)|refine aF cs rfl rfl ?_
theorem aaI (p:bI) (vars:List ByteArray):Kn p vars (lS (lS [] 1 p.sizes) 3 vars):=λs=>by
 rw[rq,rq,Gk]
 by_cases h1:s∈vars
 ·simp[h1]
 ·by_cases h2:s∈p.sizes
  ·simp[h1,h2]
  ·simp[h1,h2]
theorem za {p:bI} (hf:j0 p) (vars:List ByteArray) {e:Ex} (O: ∀a∈e.pre,tL a.val):ac Tryz.prog rc [fO p,.c (.pure (c8 vars)),fJ e] (MU (bu p vars e)):=by
 refine ac.of Aa (by simp) λhb=>aa ?_
 have hl:vars.length≤9223372036854775807:=by
  have:=hb.2.1
  simp[i5,jS]at this
  omega
 have Q:p.sizes.length≤9223372036854775807:=by
  have:=hb.1
  simp[i5,rF,jS]at this
  omega
 conv in qF=>cbv
 have hv:=A6 O
 by_cases h1:gZ e=0
 ·by_cases h2:mi e.op
  ·have hR:bu p vars e=(js,10):=by unfold bu;rw[if_neg (not_not_intro h1),if_pos h2]
   rw[hR]
   clear hR
   repeat' first|simp(disch:=omega)only[go_sem, *,h1,h2,decide_true]|(with_reducible apply ab)<;>intro h<;>try omega|refine aF hv rfl rfl ?_|refine aF (gJ e) rfl rfl ?_
   try rfl
  ·have cO:=uG hf (aaI p vars) e (ro h1)
   have CO:=Lib.hid cO
   clear cO
   have hR: ∀x,(eA p vars e).2=x→x≠0→bu p vars e=(js,x):=λx hx h0=>by unfold bu;rw[if_neg (not_not_intro h1),if_neg h2,hx,if_pos h0]
   have M:(eA p vars e).2=0→bu p vars e=((eA p vars e).1,0):=λh0=>by unfold bu;rw[if_neg (not_not_intro h1),if_neg h2,if_neg (not_not_intro h0)]
   have HR:=Lib.hid hR
   have HR0:=Lib.hid M
   clear hR M
   repeat' first|simp(disch:=omega)only[go_sem, *,h1,h2,decide_false]|(with_reducible apply ab)<;>intro h<;>try omega|refine aF hv rfl rfl ?_|refine aF (gJ e) rfl rfl ?_
   refine an (λk:Nat=>⟨[(32,I k),(31,I p.sizes.length),(30,.c (.pure (c8 p.sizes))),(9,.c (.ptr 4 0)),(6,.c (.ptr 2 0)),(5,.c (.ptr 1 0)),(1,.c (.pure (c8 vars)))], [(4,WW p 3),(3,.map .str none (kw (lS [] 1 (p.sizes.take k)))),(2,Zl js),(1,Gy e),(0,eV p)],5,0⟩) (λk=>k≤p.sizes.length) (λk=>p.sizes.length-k) ⟨0, [],by omega,by simp[js,lS,kw,PO]⟩ ?_
   clear h1 h2 hv
   intro k hk
   refine aa ?_
   by_cases n:k<p.sizes.length
   ·repeat' first|simp(disch:=omega)only[go_sem, *,ah n,wrap_i64,K6,←CP n]|(with_reducible apply ab)<;>intro h<;>try omega
    exact⟨k+1, [],by omega,by omega,by simp[js,cm,d7]⟩
   ·have G:k=p.sizes.length:=by omega
    subst G
    rw[List.take_length]
    repeat clear n
    repeat clear hk
    repeat' first|simp(disch:=omega)only[go_sem, *]|(with_reducible apply ab)<;>intro h<;>try omega
    refine an (λk:Nat=>⟨[(44,I k),(43,I vars.length),(42,.c (.pure (c8 vars))),(9,.c (.ptr 4 0)),(6,.c (.ptr 2 0)),(5,.c (.ptr 1 0))], [(4,WW p 3),(3,.map .str none (kw (lS (lS [] 1 p.sizes) 3 (vars.take k)))),(2,Zl js),(1,Gy e),(0,eV p)],5,0⟩) (λk=>k≤vars.length) (λk=>vars.length-k) ⟨0, [],by omega,by simp[js,lS,cm,d7]⟩ ?_
    intro k hk
    refine aa ?_
    by_cases n:k<vars.length
    ·repeat' first|simp(disch:=omega)only[go_sem, *,ah n,wrap_i64,K6,←CP n]|(with_reducible apply ab)<;>intro h<;>try omega
     exact⟨k+1, [],by omega,by omega,by simp[js,cm,d7]⟩
    ·have G:k=vars.length:=by omega
     subst G
     rw[List.take_length]
     repeat clear n
     repeat clear hk
     repeat' first|simp(disch:=omega)only[go_sem, *]|(with_reducible apply ab)<;>intro h<;>try omega
     refine af CO.out (pW (m:=3) rfl rfl rfl) (.inl rfl) ?_
     by_cases h3:(eA p vars e).2=0
     ·rw[HR0.out h3]
      clear HR HR0 CO
      generalize eA p vars e=r at*
      repeat' first|simp(disch:=omega)only[go_sem, *,h3]|(with_reducible apply ab)<;>intro h<;>try omega
     ·rw[HR.out _ rfl h3]
      clear HR HR0 CO
      generalize eA p vars e=r at*
      repeat' first|simp(disch:=omega)only[go_sem, *,h3]|(with_reducible apply ab)<;>intro h<;>try omega
      try rfl
 ·have hR:bu p vars e=(js,gZ e):=by unfold bu;rw[if_pos h1]
  rw[hR]
  clear hR
  repeat' first|simp(disch:=omega)only[go_sem, *,h1]|(with_reducible apply ab)<;>intro h<;>try omega|refine aF hv rfl rfl ?_
  try rfl
end Go.Proofs.YthbcbaembicdbaaGreatDoor
