import Derived.Test.YtigdjhnndaokjaaGreatDoorVGrow
set_option linter.unusedVariables false
set_option linter.unusedSimpArgs false
set_option maxHeartbeats 4000000
set_option maxRecDepth 1000000
open Go.Proofs.Tryz renaming prog→Pa0
namespace Go.Proofs.YtigdjhnndaokjaaGreatDoor
open Go.Abs Go.RowKit
theorem gX (e:Ex):ac Pa0 j6 [fp e] (Go.Abs.B (decide (aM e.op))):=by
 refine ac.of Af zR6 λhb=>aa ?_
 conv in qd=>cbv
 repeat' first|simp(disch:=omega)only[go_sem, *]|apply ab<;>intro h<;>try omega
 all_goals simp[aM, *]
theorem dL (e:Ex):ac Pa0 iX [fp e] (Go.Abs.B (decide (aM e.op))):=by
 refine ac.of xH zR6 λhb=>aa ?_
 conv in ov=>cbv
 repeat' first|simp(disch:=omega)only[go_sem, *]|apply ab<;>intro h<;>try omega
 all_goals simp[aM, *]
theorem Fa (o:Int):ac Pa0 nQ [I o] (I (lv o)):=by
 refine ac.of F4 zR6 λhb=>aa ?_
 conv in wJ=>cbv
 repeat' first|simp(disch:=omega)only[go_sem, *]|apply ab<;>intro h<;>try omega
 all_goals simp[lv, *]
theorem Km (o:Int):ac Pa0 u7 [I o] (I (lv o)):=by
 refine ac.of Oj zR6 λhb=>aa ?_
 conv in C5=>cbv
 repeat' first|simp(disch:=omega)only[go_sem, *]|apply ab<;>intro h<;>try omega
 all_goals simp[lv, *]
theorem qz (o:Int) (i:Nat):ac Pa0 fu [I o,I i] (Go.Abs.B (decide (b6 o i))):=by
 refine ac.of qV zR6 λhb=>aa ?_
 conv in jg=>cbv
 repeat' first|simp(disch:=omega)only[go_sem, *]|apply ab<;>intro h<;>try omega
 all_goals(simp[b6, *]<;>omega)
theorem I4 (o:Int) (i:Nat):ac Pa0 sP [I o,I i] (Go.Abs.B (decide (b6 o i))):=by
 refine ac.of KS zR6 λhb=>aa ?_
 conv in Bk=>cbv
 repeat' first|simp(disch:=omega)only[go_sem, *]|apply ab<;>intro h<;>try omega
 all_goals(simp[b6, *]<;>omega)
theorem wu (l:iB):ac Pa0 sH [iK l.1 l.2] (Go.Abs.B (decide (NM l))):=by
 refine ac.of K1 zR6 λhb=>aa ?_
 conv in A7=>cbv
 repeat' first|simp(disch:=omega)only[go_sem, *]|apply ab<;>intro h<;>try omega
 all_goals simp_all [NM]
theorem Ak (x:Ix):ac Pa0 kS [aIx x] (Go.Abs.B (decide (SR x))):=by
 refine ac.of Cq zR6 λhb=>aa ?_
 conv in ra=>cbv
 repeat' first|simp(disch:=omega)only[go_sem, *]|apply ab<;>intro h<;>try omega|refine ak (wu x.1) ?_
 all_goals(refine BD ?_;simp[SR, *]<;>omega)
variable {r:List AV}
theorem Js {α:Type} {f:α→List PC} {l:List α} (h:f6 (bF f l::r)):l.length≤9223372036854775807:=by
 have:=h.1
 simpa[fB,f5]using this
def Y3 (f:FuncId) (p:Ix→Prop):Prop:= ∀x:Ix,ac Pa0 f [aIx x] (Go.Abs.B (uM (p x)))
variable {f:FuncId}{p:Ix→Prop}
theorem tK (hf:Y3 f p) (xs:List Ix):ac Pa0 ck [bF gS xs,.c (.clo f [])] (I (oz p xs)):=by
 refine ac.of gR zR6 λhb=>aa ?_
 have hl:=Js hb
 conv in dT=>cbv
 repeat' first|simp(disch:=omega)only[go_sem, *]|apply ab<;>intro h<;>try omega
 refine al (λk:Nat=>⟨[(0,bF gS xs),(1,.c (.clo f [])),(7,I xs.length),(8,I k)], [],0,0⟩) (λk=>k≤xs.length∧ct (λj=> ∀h:j<xs.length,¬p xs[j]) k) (λk=>xs.length-k) ⟨0, [],⟨by omega,.zero⟩,by simp⟩ ?_
 rintro k ⟨hk,a⟩
 refine aa ?_
 by_cases b:k<xs.length
 ·repeat' first|simp(disch:=omega)only[go_sem, *,ae b,gS,wrap_i64]|apply ab<;>intro h<;>try omega|refine ak (hf _) ?_
  ·rw[yC b h λj hj=>a j hj zR5]
  ·exact⟨k+1, [],⟨by omega,a.succ λ_=>h⟩,by omega,by simp⟩
 ·repeat' first|simp(disch:=omega)only[go_sem, *]|apply ab<;>intro h<;>try omega
  rw[qy λj hj=>a j zR5 hj]
theorem eG (hf:Y3 f p) (xs:List Ix):ac Pa0 bZ [bF gS xs,.c (.clo f [])] (Go.Abs.B (uM (∃x∈xs,p x))):=by
 refine ac.of gm zR6 λhb=>aa ?_
 conv in dG=>cbv
 repeat' first|simp(disch:=omega)only[go_sem, *]|apply ab<;>intro h<;>try omega|refine ak (tK hf xs) ?_
 exact BC (by rw[zQ4];exact Sd)
theorem C4:Y3 nS (λx=> ¬SR x):=by
 intro x
 refine ac.of FT zR6 λhb=>aa ?_
 conv in wA=>cbv
 repeat' first|simp(disch:=omega)only[go_sem, *]|apply ab<;>intro h<;>try omega|refine ak (Ak x) ?_
 all_goals exact BC (by simp[*])
theorem It:Y3 sU (λx=>6<x.2.2.length):=by
 intro x
 refine ac.of Lk zR6 λhb=>aa ?_
 conv in AJ=>cbv
 repeat' first|simp(disch:=omega)only[go_sem, *]|apply ab<;>intro h<;>try omega
 all_goals exact BC (by simp<;>omega)
theorem eW (e:Ex):ac Pa0 rC [fp e] (Go.Abs.B (decide (AH e))):=by
 refine ac.of K9 zR6 λhb=>aa ?_
 conv in Bw=>cbv
 repeat' first|simp(disch:=omega)only[go_sem, *]|apply ab<;>intro h<;>try omega|refine ak (wu e.lin) ?_|refine ak (eG C4 e.idx) ?_
 all_goals(refine BD ?_;clear hb;simp only[Bool.not_eq_true',H6,Hw,reduceCtorEq,false_iff,true_iff,not_exists,not_and,Classical.not_not,decide_eq_true_iff,decide_eq_false_iff_not];first|done|grind [AH])
theorem mM (e:Ex):ac Pa0 xr [fp e] (Go.Abs.B (decide (AM e))):=by
 refine ac.of PY zR6 λhb=>aa ?_
 conv in Ha=>cbv
 repeat' first|simp(disch:=omega)only[go_sem, *]|apply ab<;>intro h<;>try omega|refine ak (Fa e.op) ?_|refine ak (eG It e.idx) ?_
 all_goals(refine BD ?_;clear hb;simp only[Bool.not_eq_true',H6,Hw,reduceCtorEq,false_iff,true_iff,not_exists,not_and,Classical.not_not,decide_eq_true_iff,decide_eq_false_iff_not];first|done|grind [AM])
theorem dq {e:Ex} (h:f6 (fp e::r)):e.args.length≤9223372036854775807∧e.idx.length≤9223372036854775807:=by
 have:=h.1
 simp[fB,om,f5]at this
 omega
abbrev zO (e:Ex):bP:= .var [.pure (pI e.op),.pure (pS e.name),.pure (pI e.val.1),.pure (pI e.val.2),.pure (pI e.ty.1),.pure (pI e.ty.2.1),.pure (pI e.ty.2.2.1),.pure (pI e.ty.2.2.2.1),.pure (pI e.ty.2.2.2.2),.pure (pI e.lin.1),.pure (bQ e.lin.2),.pure (dp gS e.idx),.pure (.slice (e.args.map Ex.row))]
theorem pg (e:Ex):ac Pa0 wc [fp e] (Go.Abs.B (decide (tf e))):=by
 refine ac.of N4 zR6 λhb=>aa ?_
 have hl:=(dq hb).1
 conv in De=>cbv
 repeat' first|simp(disch:=omega)only[go_sem, *]|apply ab<;>intro h<;>try omega|refine ak (bt e.ty) ?_
 all_goals first
  |(refine BD ?_;clear hb;simp only[Bool.not_eq_true',H6,Hw,reduceCtorEq,false_iff,true_iff,not_exists,not_and,Classical.not_not,decide_eq_true_iff,decide_eq_false_iff_not];first|done|grind [tf])
  |skip
 all_goals(
  have d:(e.op=1∨e.op=12)→cj e.ty:=by grind
  refine al (λk:Nat=>⟨[(22,I k),(21,I e.args.length),(20,.c (.pure (.slice (e.args.map Ex.row)))),(1,.c (.ptr 0 0))], [(0,zO e)],1,0⟩) (λk=>k≤e.args.length∧ct (λi=> ∀h:i<e.args.length,aM e.args[i].op↔b6 e.op i) k) (λk=>e.args.length-k) ⟨0, [],⟨by omega,.zero⟩,by simp[*]⟩ ?_
  repeat clear h
  have HT:=Lib.hid d
  clear d
  rintro k ⟨hk,a⟩
  refine aa ?_
  by_cases b:k<e.args.length
  ·repeat' first|simp(disch:=omega)only[go_sem, *,ae b,Ex.row_eq,wrap_i64,VW]|apply ab<;>intro h<;>try omega|refine ak (gX e.args[k]) ?_|refine ak (qz e.op k) ?_
   ·exact⟨k+1, [],⟨by omega,a.succ λ_=>by simpa using h⟩,by omega,by simp⟩
   ·refine BD ⟨λh=> zT0,λh'=> ?_⟩
    have:=h'.2 k b
    simp[this]at h
  ·repeat' first|simp(disch:=omega)only[go_sem, *]|apply ab<;>intro h<;>try omega
   exact BD ⟨λ_=>⟨HT.out,λi hi=>a i zR5 hi⟩,λ_=>rfl⟩)
set_option maxRecDepth 20000
set_option maxRecDepth 1000000
theorem eY (e:Ex):ac Pa0 BR [fp e] (Go.Abs.B (decide (AH e))):=by
 refine ac.of JR zR6 λhb=>aa ?_
 have hl:=(dq hb).2
 simp only[Bg]
 have g:e.op=1∨e.op=2∨e.op=3∨e.op=12∨(e.op≠1∧e.op≠2∧e.op≠3∧e.op≠12):=by omega
 rcases g with h|h|h|h|⟨h1,h2,h3,h⟩
 all_goals(
  repeat' first|simp(disch:=omega)only[go_sem, *]|apply ab<;>intro h<;>try omega
  all_goals first
   |(refine BD ?_;clear hb;simp only[Bool.not_eq_true',H6,Hw,reduceCtorEq,false_iff,true_iff,not_exists,not_and,Classical.not_not,decide_eq_true_iff,decide_eq_false_iff_not];first|done|grind [AH,NM])
   |skip)
 all_goals(
  have hs:(1≤e.op∧e.op≤18)∧(e.op≠1→e.val.1=0∧e.val.2=0)∧(e.op≠1→e.op≠12→e.ty.1=0∧e.ty.2.1=0∧e.ty.2.2.1=0∧e.ty.2.2.2.1=0∧e.ty.2.2.2.2=0)∧
   (e.op≠2→NM e.lin)∧(e.op≠3→e.name=⟨⟨[]⟩⟩∧e.idx.length=0):=by grind [NM]
  refine al (λk:Nat=>⟨[(3,I k),(1,.c (.ptr 0 0))], [(0,zO e)],1,0⟩) (λk=>k≤e.idx.length∧ct (λi=> ∀h:i<e.idx.length,SR e.idx[i]) k) (λk=>e.idx.length-k) ⟨0, [],⟨by omega,.zero⟩,by simp[*]⟩ ?_
  repeat clear h
  have HT:=Lib.hid hs
  clear hs
  rintro k ⟨hk,a⟩
  refine aa ?_
  by_cases b:k<e.idx.length
  ·repeat' first|simp(disch:=omega)only[go_sem, *,ae b,gS,wrap_i64]|apply ab<;>intro h<;>try omega
   all_goals first
    |exact⟨k+1, [],⟨by omega,a.succ λ_=>by grind [SR,NM]⟩,by omega,by simp⟩
    |exact BD ⟨λh=> zT0,λh'=>(by have:=h'.2.2.2.2.2 _ (List.getElem_mem b);grind [SR,NM])⟩
  ·repeat' first|simp(disch:=omega)only[go_sem, *]|apply ab<;>intro h<;>try omega
   refine BD ⟨λ_=>⟨HT.out.1,HT.out.2.1,HT.out.2.2.1,HT.out.2.2.2.1,HT.out.2.2.2.2,λx hx=> ?_⟩,λ_=>rfl⟩
   obtain⟨i,hi,rfl⟩:=zC2.1 hx
   exact a i zR5 hi)
theorem iJ (e:Ex):ac Pa0 qh [fp e] (Go.Abs.B (decide (AM e))):=by
 refine ac.of Iw zR6 λhb=>aa ?_
 have hl:=(dq hb).2
 conv in ya=>cbv
 repeat' first|simp(disch:=omega)only[go_sem, *]|apply ab<;>intro h<;>try omega|refine ak (Km e.op) ?_
 all_goals first
  |(refine BD ?_;clear hb;simp only[Bool.not_eq_true',H6,Hw,reduceCtorEq,false_iff,true_iff,not_exists,not_and,Classical.not_not,decide_eq_true_iff,decide_eq_false_iff_not];first|done|grind [AM])
  |skip
 all_goals(
  have hs:(e.args.length:Int)=lv e.op∧e.idx.length≤6:=by grind
  refine al (λk:Nat=>⟨[(3,I k),(1,.c (.ptr 0 0))], [(0,zO e)],1,0⟩) (λk=>k≤e.idx.length∧ct (λi=> ∀h:i<e.idx.length,e.idx[i].2.2.length≤6) k) (λk=>e.idx.length-k) ⟨0, [],⟨by omega,.zero⟩,by simp[*]⟩ ?_
  repeat clear h
  have HT:=Lib.hid hs
  clear hs
  rintro k ⟨hk,a⟩
  refine aa ?_
  by_cases b:k<e.idx.length
  ·repeat' first|simp(disch:=omega)only[go_sem, *,ae b,gS,wrap_i64]|apply ab<;>intro h<;>try omega
   all_goals first
    |exact⟨k+1, [],⟨by omega,a.succ λ_=>by omega⟩,by omega,by simp⟩
    |exact BD ⟨λh=> zT0,λh'=>(by have:=h'.2.2 _ (zA6 b);omega)⟩
  ·repeat' first|simp(disch:=omega)only[go_sem, *]|apply ab<;>intro h<;>try omega
   refine BD ⟨λ_=>⟨HT.out.1,HT.out.2,λx hx=> ?_⟩,λ_=>rfl⟩
   obtain⟨i,hi,rfl⟩:=zC2.1 hx
   exact a i zR5 hi)
theorem gB (e:Ex):ac Pa0 so [fp e] (Go.Abs.B (decide (AB e))):=by
 refine ac.of Ld zR6 λhb=>aa ?_
 have hl:=(dq hb).2
 conv in BI=>cbv
 repeat' first|simp(disch:=omega)only[go_sem, *]|apply ab<;>intro h<;>try omega|refine ak (jd _) ?_
 all_goals first
  |(refine BD ?_;clear hb;simp only[Bool.not_eq_true',H6,Hw,reduceCtorEq,false_iff,true_iff,not_exists,not_and,Classical.not_not,decide_eq_true_iff,decide_eq_false_iff_not];first|done|grind [AB])
  |skip
 all_goals(
  have hs:e.op=3→oE e.name:=by grind
  refine al (λk:Nat=>⟨[(3,I k),(1,.c (.ptr 0 0))], [(0,zO e)],1,0⟩) (λk=>k≤e.idx.length∧ct (λi=> ∀h:i<e.idx.length,e.idx[i].2.1≠⟨⟨[]⟩⟩→oE e.idx[i].2.1) k) (λk=>e.idx.length-k) ⟨0, [],⟨by omega,.zero⟩,by simp[*]⟩ ?_
  repeat clear h
  have HT:=Lib.hid hs
  clear hs
  rintro k ⟨hk,a⟩
  refine aa ?_
  by_cases b:k<e.idx.length
  ·repeat' first|simp(disch:=omega)only[go_sem, *,ae b,gS,wrap_i64]|apply ab<;>intro h<;>try omega|refine ak (jd _) ?_
   all_goals first
    |exact⟨k+1, [],⟨by omega,a.succ λ_=>by grind⟩,by omega,by simp⟩
    |exact BD ⟨λh=> zT0,λh'=>(by have:=h'.2 _ (List.getElem_mem b);grind)⟩
  ·repeat' first|simp(disch:=omega)only[go_sem, *]|apply ab<;>intro h<;>try omega
   refine BD ⟨λ_=>⟨HT.out,λx hx=> ?_⟩,λ_=>rfl⟩
   obtain⟨i,hi,rfl⟩:=zC2.1 hx
   exact a i zR5 hi)
theorem nJ (e:Ex):ac Pa0 s9 [fp e] (Go.Abs.B (decide (tf e))):=by
 refine ac.of L4 zR6 λhb=>aa ?_
 have hl:=(dq hb).1
 conv in AU=>cbv
 repeat' first|simp(disch:=omega)only[go_sem, *]|apply ab<;>intro h<;>try omega|refine ak (aY e.ty) ?_
 all_goals first
  |(refine BD ?_;clear hb;simp only[Bool.not_eq_true',H6,Hw,reduceCtorEq,false_iff,true_iff,not_exists,not_and,Classical.not_not,decide_eq_true_iff,decide_eq_false_iff_not];first|done|grind [tf])
  |skip
 all_goals(
  have d:(e.op=1∨e.op=12)→cj e.ty:=by grind
  refine al (λk:Nat=>⟨[(3,I k),(1,.c (.ptr 0 0))], [(0,zO e)],1,0⟩) (λk=>k≤e.args.length∧ct (λi=> ∀h:i<e.args.length,aM e.args[i].op↔b6 e.op i) k) (λk=>e.args.length-k) ⟨0, [],⟨by omega,.zero⟩,by simp[*]⟩ ?_
  repeat clear h
  have HT:=Lib.hid d
  clear d
  rintro k ⟨hk,a⟩
  refine aa ?_
  by_cases b:k<e.args.length
  ·repeat' first|simp(disch:=omega)only[go_sem, *,ae b,Ex.row_eq,wrap_i64,VW]|apply ab<;>intro h<;>try omega|refine ak (dL e.args[k]) ?_|refine ak (I4 e.op k) ?_
   ·exact⟨k+1, [],⟨by omega,a.succ λ_=>by simpa using h⟩,by omega,by simp⟩
   ·refine BD ⟨λh=> zT0,λh'=> ?_⟩
    have:=h'.2 k b
    simp[this]at h
  ·repeat' first|simp(disch:=omega)only[go_sem, *]|apply ab<;>intro h<;>try omega
   exact BD ⟨λ_=>⟨HT.out,λi hi=>a i zR5 hi⟩,λ_=>rfl⟩)
end Go.Proofs.YtigdjhnndaokjaaGreatDoor
