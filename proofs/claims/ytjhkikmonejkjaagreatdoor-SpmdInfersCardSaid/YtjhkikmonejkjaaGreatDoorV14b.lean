import Derived.Test.YtjhkikmonejkjaaGreatDoorP17
set_option linter.unusedVariables false
set_option linter.unusedSimpArgs false
set_option maxRecDepth 20000
open Go.Proofs.Tryz renaming prog→Ya
namespace Go.Proofs.YtjhkikmonejkjaaGreatDoor
open Go.Abs Go.RowKit
theorem fF (e:Ex):af Ya me [gc e] (Go.Abs.B (decide (jm e.op))):=by
 refine af.of ud (by simp) λhb=>aa ?_
 simp only[lP]
 repeat' first|simp(disch:=omega)only[go_sem, *]|apply ab<;>intro h<;>try omega
 all_goals simp[jm, *]
theorem dJ (e:Ex):af Ya kR [gc e] (Go.Abs.B (decide (jm e.op))):=by
 refine af.of sC (by simp) λhb=>aa ?_
 simp only[ku]
 repeat' first|simp(disch:=omega)only[go_sem, *]|apply ab<;>intro h<;>try omega
 all_goals simp[jm, *]
theorem yO (o:Int):af Ya qF [I o] (I (mq o)):=by
 refine af.of ze (by simp) λhb=>aa ?_
 simp only[qz]
 repeat' first|simp(disch:=omega)only[go_sem, *]|apply ab<;>intro h<;>try omega
 all_goals simp[mq, *]
theorem DB (o:Int):af Ya xr [I o] (I (mq o)):=by
 refine af.of E0 (by simp) λhb=>aa ?_
 simp only[wE]
 repeat' first|simp(disch:=omega)only[go_sem, *]|apply ab<;>intro h<;>try omega
 all_goals simp[mq, *]
theorem mz (o:Int) (i:Nat):af Ya gu [I o,I i] (Go.Abs.B (decide (pZ o i))):=by
 refine af.of mE (by simp) λhb=>aa ?_
 simp only[gm]
 repeat' first|simp(disch:=omega)only[go_sem, *]|apply ab<;>intro h<;>try omega
 all_goals(simp[pZ, *]<;>omega)
theorem A4 (o:Int) (i:Nat):af Ya uj [I o,I i] (Go.Abs.B (decide (pZ o i))):=by
 refine af.of DC (by simp) λhb=>aa ?_
 simp only[vC]
 repeat' first|simp(disch:=omega)only[go_sem, *]|apply ab<;>intro h<;>try omega
 all_goals(simp[pZ, *]<;>omega)
theorem qB (l:fc):af Ya vm [f9 l.1 l.2] (Go.Abs.B (decide (Fx l))):=by
 refine af.of D8 (by simp) λhb=>aa ?_
 simp only[vf]
 repeat' first|simp(disch:=omega)only[go_sem, *]|apply ab<;>intro h<;>try omega
 all_goals simp_all [Fx]
theorem uf (x:Ix):af Ya mY [Um x] (Go.Abs.B (decide (Ja x))):=by
 refine af.of vS (by simp) λhb=>aa ?_
 simp only[mX]
 repeat' first|simp(disch:=omega)only[go_sem, *]|apply ab<;>intro h<;>try omega|refine av (qB x.1) rfl rfl ?_
 all_goals(refine BD ?_;simp[Ja, *]<;>omega)
theorem iQ {α:Type} {f:α→List PC} {l:List α} {r:List AV} (h:fL (bZ f l::r)):l.length≤9223372036854775807:=by
 have:=h.1
 simpa[eW,ft]using this
def Oj (f:FuncId) (p:Ix→Prop):Prop:= ∀x:Ix,af Ya f [Um x] (Go.Abs.B (ni (p x)))
theorem oU {f:FuncId} {p:Ix→Prop} (hf:Oj f p) (xs:List Ix):af Ya bM [bZ dN xs,.c (.clo f [])] (I (iY p xs)):=by
 refine af.of df (by simp) λhb=>aa ?_
 have hl:=iQ hb
 simp only[bN]
 repeat' first|simp(disch:=omega)only[go_sem, *]|apply ab<;>intro h<;>try omega
 refine ai (λk:Nat=>⟨[(0,bZ dN xs),(1,.c (.clo f [])),(7,I xs.length),(8,I k)], [],0,0⟩) (λk=>k≤xs.length∧bI (λj=> ∀h:j<xs.length,¬p xs[j]) k) (λk=>xs.length-k) ⟨0, [],⟨by omega,.zero⟩,by simp⟩ ?_
 rintro k ⟨hk,a⟩
 refine aa ?_
 by_cases b:k<xs.length
 ·repeat' first|simp(disch:=omega)only[go_sem, *,ac b,dN,wrap_i64]|apply ab<;>intro h<;>try omega|refine av (hf _) rfl rfl ?_
  ·rw[lv b h λj hj=>a j hj (by omega)]
  ·exact⟨k+1, [],⟨by omega,a.succ λ_=>h⟩,by omega,by simp⟩
 ·repeat' first|simp(disch:=omega)only[go_sem, *]|apply ab<;>intro h<;>try omega
  rw[gK λj hj=>a j (by omega) hj]
theorem dz {f:FuncId} {p:Ix→Prop} (hf:Oj f p) (xs:List Ix):af Ya bD [bZ dN xs,.c (.clo f [])] (Go.Abs.B (ni (∃x∈xs,p x))):=by
 refine af.of cr (by simp) λhb=>aa ?_
 simp only[bE]
 repeat' first|simp(disch:=omega)only[go_sem, *]|apply ab<;>intro h<;>try omega|refine av (oU hf xs) rfl rfl ?_
 exact BC (by rw[decide_eq_true_iff];exact yf)
theorem yb:Oj qa (λx=> ¬Ja x):=by
 intro x
 refine af.of za (by simp) λhb=>aa ?_
 simp only[qt]
 repeat' first|simp(disch:=omega)only[go_sem, *]|apply ab<;>intro h<;>try omega|refine av (uf x) rfl rfl ?_
 all_goals exact BC (by simp[*])
theorem A6:Oj uz (λx=>6<x.2.2.length):=by
 intro x
 refine af.of Cw (by simp) λhb=>aa ?_
 simp only[uM]
 repeat' first|simp(disch:=omega)only[go_sem, *]|apply ab<;>intro h<;>try omega
 all_goals exact BC (by simp<;>omega)
theorem dU (e:Ex):af Ya vw [gc e] (Go.Abs.B (decide (qc e))):=by
 refine af.of Dr (by simp) λhb=>aa ?_
 simp only[uh]
 repeat' first|simp(disch:=omega)only[go_sem, *]|apply ab<;>intro h<;>try omega|refine av (qB e.lin) rfl rfl ?_|refine av (dz yb e.idx) rfl rfl ?_
 all_goals(refine BD ?_;clear hb;simp only[Bool.not_eq_true',A3,BF,reduceCtorEq,false_iff,true_iff,not_exists,not_and,Classical.not_not,decide_eq_true_iff,decide_eq_false_iff_not];first|done|grind [qc])
theorem jB (e:Ex):af Ya Ae [gc e] (Go.Abs.B (decide (qx e))):=by
 refine af.of Hl (by simp) λhb=>aa ?_
 simp only[Am]
 repeat' first|simp(disch:=omega)only[go_sem, *]|apply ab<;>intro h<;>try omega|refine av (yO e.op) rfl rfl ?_|refine av (dz A6 e.idx) rfl rfl ?_
 all_goals(refine BD ?_;clear hb;simp only[Bool.not_eq_true',A3,BF,reduceCtorEq,false_iff,true_iff,not_exists,not_and,Classical.not_not,decide_eq_true_iff,decide_eq_false_iff_not];first|done|grind [qx])
theorem dt {e:Ex} {r:List AV} (h:fL (gc e::r)):e.args.length≤9223372036854775807∧e.idx.length≤9223372036854775807:=by
 have:=h.1
 simp[eW,jP,ft]at this
 omega
abbrev tL (e:Ex):bm:= .var [.pure (pI e.op),.pure (pS e.name),.pure (pI e.val.1),.pure (pI e.val.2),.pure (pI e.ty.1),.pure (pI e.ty.2.1),.pure (pI e.ty.2.2.1),.pure (pI e.ty.2.2.2.1),.pure (pI e.ty.2.2.2.2),.pure (pI e.lin.1),.pure (bp e.lin.2),.pure (cZ dN e.idx),.pure (.slice (e.args.map Ex.row))]
theorem mp (e:Ex):af Ya x9 [gc e] (Go.Abs.B (decide (kn e))):=by
 refine af.of Ff (by simp) λhb=>aa ?_
 have hl:=(dt hb).1
 simp only[yz]
 repeat' first|simp(disch:=omega)only[go_sem, *]|apply ab<;>intro h<;>try omega|refine av (c7 e.ty) rfl rfl ?_
 all_goals first
  |(refine BD ?_;clear hb;simp only[Bool.not_eq_true',A3,BF,reduceCtorEq,false_iff,true_iff,not_exists,not_and,Classical.not_not,decide_eq_true_iff,decide_eq_false_iff_not];first|done|grind [kn])
  |skip
 all_goals(
  have d:(e.op=1∨e.op=12)→ju e.ty:=by grind
  refine ai (λk:Nat=>⟨[(22,I k),(21,I e.args.length),(20,.c (.pure (.slice (e.args.map Ex.row)))),(1,.c (.ptr 0 0))], [(0,tL e)],1,0⟩) (λk=>k≤e.args.length∧bI (λi=> ∀h:i<e.args.length,jm e.args[i].op↔pZ e.op i) k) (λk=>e.args.length-k) ⟨0, [],⟨by omega,.zero⟩,by simp[*]⟩ ?_
  repeat clear h
  have HT:=Lib.hid d
  clear d
  rintro k ⟨hk,a⟩
  refine aa ?_
  by_cases b:k<e.args.length
  ·repeat' first|simp(disch:=omega)only[go_sem, *,ac b,Ex.row_eq,wrap_i64,Mp]|apply ab<;>intro h<;>try omega|refine av (fF e.args[k]) rfl rfl ?_|refine av (mz e.op k) rfl rfl ?_
   ·exact⟨k+1, [],⟨by omega,a.succ λ_=>by simpa using h⟩,by omega,by simp⟩
   ·refine BD ⟨λh=>(by cases h),λh'=> ?_⟩
    have:=h'.2 k b
    simp[this]at h
  ·repeat' first|simp(disch:=omega)only[go_sem, *]|apply ab<;>intro h<;>try omega
   exact BD ⟨λ_=>⟨HT.out,λi hi=>a i (by omega) hi⟩,λ_=>rfl⟩)
set_option maxHeartbeats 2000000 in
theorem dT (e:Ex):af Ya uE [gc e] (Go.Abs.B (decide (qc e))):=by
 refine af.of Ce (by simp) λhb=>aa ?_
 have hl:=(dt hb).2
 simp only[uu]
 have g:e.op=1∨e.op=2∨e.op=3∨e.op=12∨(e.op≠1∧e.op≠2∧e.op≠3∧e.op≠12):=by omega
 rcases g with h|h|h|h|⟨h1,h2,h3,h⟩
 all_goals(
  repeat' first|simp(disch:=omega)only[go_sem, *]|apply ab<;>intro h<;>try omega
  all_goals first
   |(refine BD ?_;clear hb;simp only[Bool.not_eq_true',A3,BF,reduceCtorEq,false_iff,true_iff,not_exists,not_and,Classical.not_not,decide_eq_true_iff,decide_eq_false_iff_not];first|done|grind [qc,Fx])
   |skip)
 all_goals(
  have hs:(1≤e.op∧e.op≤18)∧(e.op≠1→e.val.1=0∧e.val.2=0)∧(e.op≠1→e.op≠12→e.ty.1=0∧e.ty.2.1=0∧e.ty.2.2.1=0∧e.ty.2.2.2.1=0∧e.ty.2.2.2.2=0)∧
   (e.op≠2→Fx e.lin)∧(e.op≠3→e.name=⟨⟨[]⟩⟩∧e.idx.length=0):=by grind [Fx]
  refine ai (λk:Nat=>⟨[(3,I k),(1,.c (.ptr 0 0))], [(0,tL e)],1,0⟩) (λk=>k≤e.idx.length∧bI (λi=> ∀h:i<e.idx.length,Ja e.idx[i]) k) (λk=>e.idx.length-k) ⟨0, [],⟨by omega,.zero⟩,by simp[*]⟩ ?_
  repeat clear h
  have HT:=Lib.hid hs
  clear hs
  rintro k ⟨hk,a⟩
  refine aa ?_
  by_cases b:k<e.idx.length
  ·repeat' first|simp(disch:=omega)only[go_sem, *,ac b,dN,wrap_i64]|apply ab<;>intro h<;>try omega
   all_goals first
    |exact⟨k+1, [],⟨by omega,a.succ λ_=>by grind [Ja,Fx]⟩,by omega,by simp⟩
    |exact BD ⟨λh=>(by cases h),λh'=>(by have:=h'.2.2.2.2.2 _ (List.getElem_mem b);grind [Ja,Fx])⟩
  ·repeat' first|simp(disch:=omega)only[go_sem, *]|apply ab<;>intro h<;>try omega
   refine BD ⟨λ_=>⟨HT.out.1,HT.out.2.1,HT.out.2.2.1,HT.out.2.2.2.1,HT.out.2.2.2.2,λx hx=> ?_⟩,λ_=>rfl⟩
   obtain⟨i,hi,rfl⟩:=List.mem_iff_getElem.1 hx
   exact a i (by omega) hi)
theorem fT (e:Ex):af Ya rm [gc e] (Go.Abs.B (decide (qx e))):=by
 refine af.of Bs (by simp) λhb=>aa ?_
 have hl:=(dt hb).2
 simp only[qZ]
 repeat' first|simp(disch:=omega)only[go_sem, *]|apply ab<;>intro h<;>try omega|refine av (DB e.op) rfl rfl ?_
 all_goals first
  |(refine BD ?_;clear hb;simp only[Bool.not_eq_true',A3,BF,reduceCtorEq,false_iff,true_iff,not_exists,not_and,Classical.not_not,decide_eq_true_iff,decide_eq_false_iff_not];first|done|grind [qx])
  |skip
 all_goals(
  have hs:(e.args.length:Int)=mq e.op∧e.idx.length≤6:=by grind
  refine ai (λk:Nat=>⟨[(3,I k),(1,.c (.ptr 0 0))], [(0,tL e)],1,0⟩) (λk=>k≤e.idx.length∧bI (λi=> ∀h:i<e.idx.length,e.idx[i].2.2.length≤6) k) (λk=>e.idx.length-k) ⟨0, [],⟨by omega,.zero⟩,by simp[*]⟩ ?_
  repeat clear h
  have HT:=Lib.hid hs
  clear hs
  rintro k ⟨hk,a⟩
  refine aa ?_
  by_cases b:k<e.idx.length
  ·repeat' first|simp(disch:=omega)only[go_sem, *,ac b,dN,wrap_i64]|apply ab<;>intro h<;>try omega
   all_goals first
    |exact⟨k+1, [],⟨by omega,a.succ λ_=>by omega⟩,by omega,by simp⟩
    |exact BD ⟨λh=>(by cases h),λh'=>(by have:=h'.2.2 _ (List.getElem_mem b);omega)⟩
  ·repeat' first|simp(disch:=omega)only[go_sem, *]|apply ab<;>intro h<;>try omega
   refine BD ⟨λ_=>⟨HT.out.1,HT.out.2,λx hx=> ?_⟩,λ_=>rfl⟩
   obtain⟨i,hi,rfl⟩:=List.mem_iff_getElem.1 hx
   exact a i (by omega) hi)
theorem e9 (e:Ex):af Ya vi [gc e] (Go.Abs.B (decide (qq e))):=by
 refine af.of DW (by simp) λhb=>aa ?_
 have hl:=(dt hb).2
 simp only[uR]
 repeat' first|simp(disch:=omega)only[go_sem, *]|apply ab<;>intro h<;>try omega|refine av (gw _) rfl rfl ?_
 all_goals first
  |(refine BD ?_;clear hb;simp only[Bool.not_eq_true',A3,BF,reduceCtorEq,false_iff,true_iff,not_exists,not_and,Classical.not_not,decide_eq_true_iff,decide_eq_false_iff_not];first|done|grind [qq])
  |skip
 all_goals(
  have hs:e.op=3→eI e.name:=by grind
  refine ai (λk:Nat=>⟨[(3,I k),(1,.c (.ptr 0 0))], [(0,tL e)],1,0⟩) (λk=>k≤e.idx.length∧bI (λi=> ∀h:i<e.idx.length,e.idx[i].2.1≠⟨⟨[]⟩⟩→eI e.idx[i].2.1) k) (λk=>e.idx.length-k) ⟨0, [],⟨by omega,.zero⟩,by simp[*]⟩ ?_
  repeat clear h
  have HT:=Lib.hid hs
  clear hs
  rintro k ⟨hk,a⟩
  refine aa ?_
  by_cases b:k<e.idx.length
  ·repeat' first|simp(disch:=omega)only[go_sem, *,ac b,dN,wrap_i64]|apply ab<;>intro h<;>try omega|refine av (gw _) rfl rfl ?_
   all_goals first
    |exact⟨k+1, [],⟨by omega,a.succ λ_=>by grind⟩,by omega,by simp⟩
    |exact BD ⟨λh=>(by cases h),λh'=>(by have:=h'.2 _ (List.getElem_mem b);grind)⟩
  ·repeat' first|simp(disch:=omega)only[go_sem, *]|apply ab<;>intro h<;>try omega
   refine BD ⟨λ_=>⟨HT.out,λx hx=> ?_⟩,λ_=>rfl⟩
   obtain⟨i,hi,rfl⟩:=List.mem_iff_getElem.1 hx
   exact a i (by omega) hi)
theorem kj (e:Ex):af Ya uS [gc e] (Go.Abs.B (decide (kn e))):=by
 refine af.of DV (by simp) λhb=>aa ?_
 have hl:=(dt hb).1
 simp only[uD]
 repeat' first|simp(disch:=omega)only[go_sem, *]|apply ab<;>intro h<;>try omega|refine av (bj e.ty) rfl rfl ?_
 all_goals first
  |(refine BD ?_;clear hb;simp only[Bool.not_eq_true',A3,BF,reduceCtorEq,false_iff,true_iff,not_exists,not_and,Classical.not_not,decide_eq_true_iff,decide_eq_false_iff_not];first|done|grind [kn])
  |skip
 all_goals(
  have d:(e.op=1∨e.op=12)→ju e.ty:=by grind
  refine ai (λk:Nat=>⟨[(3,I k),(1,.c (.ptr 0 0))], [(0,tL e)],1,0⟩) (λk=>k≤e.args.length∧bI (λi=> ∀h:i<e.args.length,jm e.args[i].op↔pZ e.op i) k) (λk=>e.args.length-k) ⟨0, [],⟨by omega,.zero⟩,by simp[*]⟩ ?_
  repeat clear h
  have HT:=Lib.hid d
  clear d
  rintro k ⟨hk,a⟩
  refine aa ?_
  by_cases b:k<e.args.length
  ·repeat' first|simp(disch:=omega)only[go_sem, *,ac b,Ex.row_eq,wrap_i64,Mp]|apply ab<;>intro h<;>try omega|refine av (dJ e.args[k]) rfl rfl ?_|refine av (A4 e.op k) rfl rfl ?_
   ·exact⟨k+1, [],⟨by omega,a.succ λ_=>by simpa using h⟩,by omega,by simp⟩
   ·refine BD ⟨λh=>(by cases h),λh'=> ?_⟩
    have:=h'.2 k b
    simp[this]at h
  ·repeat' first|simp(disch:=omega)only[go_sem, *]|apply ab<;>intro h<;>try omega
   exact BD ⟨λ_=>⟨HT.out,λi hi=>a i (by omega) hi⟩,λ_=>rfl⟩)
end Go.Proofs.YtjhkikmonejkjaaGreatDoor
