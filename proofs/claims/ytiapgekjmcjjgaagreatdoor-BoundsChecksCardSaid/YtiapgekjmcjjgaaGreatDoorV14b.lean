import Derived.Test.YtiapgekjmcjjgaaGreatDoorP17
set_option maxHeartbeats 4000000
set_option linter.unusedVariables false
set_option linter.unusedSimpArgs false
set_option maxRecDepth 1000000
open Go.Proofs.Tryz renaming prog→Ya
namespace Go.Proofs.YtiapgekjmcjjgaaGreatDoor
open Go.Abs Go.RowKit
theorem gp (e:Ex):ac Ya 115 [fE e] (Go.Abs.B (decide (kj e.op))):=by
 refine ac.of sP (by simp) λhb=>aa ?_
 conv in bh _ _=>cbv
 repeat' first|simp(disch:=omega)only[go_sem, *]|apply ab<;>intro h<;>try omega
 all_goals simp[kj, *]
theorem eQ (e:Ex):ac Ya 138 [fE e] (Go.Abs.B (decide (kj e.op))):=by
 refine ac.of qG (by simp) λhb=>aa ?_
 conv in bh _ _=>cbv
 repeat' first|simp(disch:=omega)only[go_sem, *]|apply ab<;>intro h<;>try omega
 all_goals simp[kj, *]
theorem uP (o:Int):ac Ya 226 [I o] (I (iW o)):=by
 refine ac.of w5 (by simp) λhb=>aa ?_
 conv in bh _ _=>cbv
 repeat' first|simp(disch:=omega)only[go_sem, *]|apply ab<;>intro h<;>try omega
 all_goals simp[iW, *]
theorem zd (o:Int):ac Ya 235 [I o] (I (iW o)):=by
 refine ac.of Ct (by simp) λhb=>aa ?_
 conv in bh _ _=>cbv
 repeat' first|simp(disch:=omega)only[go_sem, *]|apply ab<;>intro h<;>try omega
 all_goals simp[iW, *]
theorem md (o:Int) (i:Nat):ac Ya 228 [I o,I i] (Go.Abs.B (decide (qx o i))):=by
 refine ac.of mp (by simp) λhb=>aa ?_
 conv in bh _ _=>cbv
 repeat' first|simp(disch:=omega)only[go_sem, *]|apply ab<;>intro h<;>try omega
 all_goals(simp[qx, *]<;>omega)
theorem xZ (o:Int) (i:Nat):ac Ya 236 [I o,I i] (Go.Abs.B (decide (qx o i))):=by
 refine ac.of zT (by simp) λhb=>aa ?_
 conv in bh _ _=>cbv
 repeat' first|simp(disch:=omega)only[go_sem, *]|apply ab<;>intro h<;>try omega
 all_goals(simp[qx, *]<;>omega)
theorem o5 (l:bW):ac Ya 221 [da l.1 l.2] (Go.Abs.B (decide (Bn l))):=by
 refine ac.of zM (by simp) λhb=>aa ?_
 conv in bh _ _=>cbv
 repeat' first|simp(disch:=omega)only[go_sem, *]|apply ab<;>intro h<;>try omega
 all_goals simp_all [Bn]
theorem sN (x:Ix):ac Ya 224 [VQ x] (Go.Abs.B (decide (Iw x))):=by
 refine ac.of tQ (by simp) λhb=>aa ?_
 conv in bh _ _=>cbv
 repeat' first|simp(disch:=omega)only[go_sem, *]|apply ab<;>intro h<;>try omega|refine aq (o5 x.1) rfl rfl ?_
 all_goals(refine BD ?_;simp[Iw, *]<;>omega)
theorem PW {α:Type} {f:α→List PC} {l:List α} {r:List AV} (h:qq (i6 f l::r)):l.length≤9223372036854775807:=by
 have:=h.1
 simpa[gw,gT]using this
def Og (f:FuncId) (p:Ix→Prop):Prop:= ∀x:Ix,ac Ya f [VQ x] (Go.Abs.B (wA (p x)))
theorem nV {f:FuncId} {p:Ix→Prop} (hf:Og f p) (xs:List Ix):ac Ya 239 [i6 eR xs,.c (.clo f [])] (I (oY p xs)):=by
 refine ac.of gj (by simp) λhb=>aa ?_
 have hl:=PW hb
 conv in bh _ _=>cbv
 repeat' first|simp(disch:=omega)only[go_sem, *]|apply ab<;>intro h<;>try omega
 refine ai (λk:Nat=>⟨[(0,i6 eR xs),(1,.c (.clo f [])),(7,I xs.length),(8,I k)], [],0,0⟩) (λk=>k≤xs.length∧dZ (λj=> ∀h:j<xs.length,¬p xs[j]) k) (λk=>xs.length-k) ⟨0, [],⟨by omega,.zero⟩,by simp⟩ ?_
 rintro k ⟨hk,a⟩
 refine aa ?_
 by_cases b:k<xs.length
 ·repeat' first|simp(disch:=omega)only[go_sem, *,ah b,eR,wrap_i64]|apply ab<;>intro h<;>try omega|refine aq (hf _) rfl rfl ?_
  ·rw[AH b h λj hj=>a j hj (by omega)]
  ·exact⟨k+1, [],⟨by omega,a.succ λ_=>h⟩,by omega,by simp⟩
 ·repeat' first|simp(disch:=omega)only[go_sem, *]|apply ab<;>intro h<;>try omega
  rw[tZ λj hj=>a j (by omega) hj]
theorem eH {f:FuncId} {p:Ix→Prop} (hf:Og f p) (xs:List Ix):ac Ya 222 [i6 eR xs,.c (.clo f [])] (Go.Abs.B (wA (∃x∈xs,p x))):=by
 refine ac.of fJ (by simp) λhb=>aa ?_
 conv in bh _ _=>cbv
 repeat' first|simp(disch:=omega)only[go_sem, *]|apply ab<;>intro h<;>try omega|refine aq (nV hf xs) rfl rfl ?_
 exact BC (by rw[decide_eq_true_iff];exact Hr)
theorem u7:Og 223 (λx=> ¬Iw x):=by
 intro x
 refine ac.of wD (by simp) λhb=>aa ?_
 conv in bh _ _=>cbv
 repeat' first|simp(disch:=omega)only[go_sem, *]|apply ab<;>intro h<;>try omega|refine aq (sN x) rfl rfl ?_
 all_goals exact BC (by simp[*])
theorem yd:Og 227 (λx=>6<x.2.2.length):=by
 intro x
 refine ac.of y5 (by simp) λhb=>aa ?_
 conv in bh _ _=>cbv
 repeat' first|simp(disch:=omega)only[go_sem, *]|apply ab<;>intro h<;>try omega
 all_goals exact BC (by simp<;>omega)
theorem eY (e:Ex):ac Ya 197 [fE e] (Go.Abs.B (decide (nK e))):=by
 refine ac.of Ad (by simp) λhb=>aa ?_
 conv in bh _ _=>cbv
 repeat' first|simp(disch:=omega)only[go_sem, *]|apply ab<;>intro h<;>try omega|refine aq (o5 e.lin) rfl rfl ?_|refine aq (eH u7 e.idx) rfl rfl ?_
 all_goals(refine BD ?_;clear hb;simp only[Bool.not_eq_true',xP,yB,reduceCtorEq,false_iff,true_iff,not_exists,not_and,Classical.not_not,decide_eq_true_iff,decide_eq_false_iff_not];first|done|grind [nK])
theorem jN (e:Ex):ac Ya 199 [fE e] (Go.Abs.B (decide (rt e))):=by
 refine ac.of EN (by simp) λhb=>aa ?_
 conv in bh _ _=>cbv
 repeat' first|simp(disch:=omega)only[go_sem, *]|apply ab<;>intro h<;>try omega|refine aq (uP e.op) rfl rfl ?_|refine aq (eH yd e.idx) rfl rfl ?_
 all_goals(refine BD ?_;clear hb;simp only[Bool.not_eq_true',xP,yB,reduceCtorEq,false_iff,true_iff,not_exists,not_and,Classical.not_not,decide_eq_true_iff,decide_eq_false_iff_not];first|done|grind [rt])
theorem ed {e:Ex} {r:List AV} (h:qq (fE e::r)):e.args.length≤9223372036854775807∧e.idx.length≤9223372036854775807:=by
 have:=h.1
 simp[gw,nc,gT]at this
 omega
abbrev zB (e:Ex):bk:= .var [.pure (pI e.op),.pure (pS e.name),.pure (pI e.val.1),.pure (pI e.val.2),.pure (pI e.ty.1),.pure (pI e.ty.2.1),.pure (pI e.ty.2.2.1),.pure (pI e.ty.2.2.2.1),.pure (pI e.ty.2.2.2.2),.pure (pI e.lin.1),.pure (ay e.lin.2),.pure (dp eR e.idx),.pure (.slice (e.args.map Ex.row))]
theorem lN (e:Ex):ac Ya 200 [fE e] (Go.Abs.B (decide (lB e))):=by
 refine ac.of CA (by simp) λhb=>aa ?_
 have hl:=(ed hb).1
 conv in bh _ _=>cbv
 repeat' first|simp(disch:=omega)only[go_sem, *]|apply ab<;>intro h<;>try omega|refine aq (eO e.ty) rfl rfl ?_
 all_goals first
  |(refine BD ?_;clear hb;simp only[Bool.not_eq_true',xP,yB,reduceCtorEq,false_iff,true_iff,not_exists,not_and,Classical.not_not,decide_eq_true_iff,decide_eq_false_iff_not];first|done|grind [lB])
  |skip
 all_goals(
  have d:(e.op=1∨e.op=12)→kU e.ty:=by grind
  refine ai (λk:Nat=>⟨[(22,I k),(21,I e.args.length),(20,.c (.pure (.slice (e.args.map Ex.row)))),(1,.c (.ptr 0 0))], [(0,zB e)],1,0⟩) (λk=>k≤e.args.length∧dZ (λi=> ∀h:i<e.args.length,kj e.args[i].op↔qx e.op i) k) (λk=>e.args.length-k) ⟨0, [],⟨by omega,.zero⟩,by simp[*]⟩ ?_
  repeat clear h
  have HT:=Lib.hid d
  clear d
  rintro k ⟨hk,a⟩
  refine aa ?_
  by_cases b:k<e.args.length
  ·repeat' first|simp(disch:=omega)only[go_sem, *,ah b,Ex.row_eq,wrap_i64,KS]|apply ab<;>intro h<;>try omega|refine aq (gp e.args[k]) rfl rfl ?_|refine aq (md e.op k) rfl rfl ?_
   ·exact⟨k+1, [],⟨by omega,a.succ λ_=>by simpa using h⟩,by omega,by simp⟩
   ·refine BD ⟨λh=>(by cases h),λh'=> ?_⟩
    have:=h'.2 k b
    simp[this]at h
  ·repeat' first|simp(disch:=omega)only[go_sem, *]|apply ab<;>intro h<;>try omega
   exact BD ⟨λ_=>⟨HT.out,λi hi=>a i (by omega) hi⟩,λ_=>rfl⟩)
set_option maxRecDepth 20000
set_option maxRecDepth 1000000
theorem eX (e:Ex):ac Ya 211 [fE e] (Go.Abs.B (decide (nK e))):=by
 refine ac.of Bs (by simp) λhb=>aa ?_
 have hl:=(ed hb).2
 simp only[sU]
 have g:e.op=1∨e.op=2∨e.op=3∨e.op=12∨(e.op≠1∧e.op≠2∧e.op≠3∧e.op≠12):=by omega
 rcases g with h|h|h|h|⟨h1,h2,h3,h⟩
 all_goals(
  repeat' first|simp(disch:=omega)only[go_sem, *]|apply ab<;>intro h<;>try omega
  all_goals first
   |(refine BD ?_;clear hb;simp only[Bool.not_eq_true',xP,yB,reduceCtorEq,false_iff,true_iff,not_exists,not_and,Classical.not_not,decide_eq_true_iff,decide_eq_false_iff_not];first|done|grind [nK,Bn])
   |skip)
 all_goals(
  have hs:(1≤e.op∧e.op≤18)∧(e.op≠1→e.val.1=0∧e.val.2=0)∧(e.op≠1→e.op≠12→e.ty.1=0∧e.ty.2.1=0∧e.ty.2.2.1=0∧e.ty.2.2.2.1=0∧e.ty.2.2.2.2=0)∧
   (e.op≠2→Bn e.lin)∧(e.op≠3→e.name=⟨⟨[]⟩⟩∧e.idx.length=0):=by grind [Bn]
  refine ai (λk:Nat=>⟨[(3,I k),(1,.c (.ptr 0 0))], [(0,zB e)],1,0⟩) (λk=>k≤e.idx.length∧dZ (λi=> ∀h:i<e.idx.length,Iw e.idx[i]) k) (λk=>e.idx.length-k) ⟨0, [],⟨by omega,.zero⟩,by simp[*]⟩ ?_
  repeat clear h
  have HT:=Lib.hid hs
  clear hs
  rintro k ⟨hk,a⟩
  refine aa ?_
  by_cases b:k<e.idx.length
  ·repeat' first|simp(disch:=omega)only[go_sem, *,ah b,eR,wrap_i64]|apply ab<;>intro h<;>try omega
   all_goals first
    |exact⟨k+1, [],⟨by omega,a.succ λ_=>by grind [Iw,Bn]⟩,by omega,by simp⟩
    |exact BD ⟨λh=>(by cases h),λh'=>(by have:=h'.2.2.2.2.2 _ (List.getElem_mem b);grind [Iw,Bn])⟩
  ·repeat' first|simp(disch:=omega)only[go_sem, *]|apply ab<;>intro h<;>try omega
   refine BD ⟨λ_=>⟨HT.out.1,HT.out.2.1,HT.out.2.2.1,HT.out.2.2.2.1,HT.out.2.2.2.2,λx hx=> ?_⟩,λ_=>rfl⟩
   obtain⟨i,hi,rfl⟩:=List.mem_iff_getElem.1 hx
   exact a i (by omega) hi)
theorem gJ (e:Ex):ac Ya 213 [fE e] (Go.Abs.B (decide (rt e))):=by
 refine ac.of yO (by simp) λhb=>aa ?_
 have hl:=(ed hb).2
 conv in bh _ _=>cbv
 repeat' first|simp(disch:=omega)only[go_sem, *]|apply ab<;>intro h<;>try omega|refine aq (zd e.op) rfl rfl ?_
 all_goals first
  |(refine BD ?_;clear hb;simp only[Bool.not_eq_true',xP,yB,reduceCtorEq,false_iff,true_iff,not_exists,not_and,Classical.not_not,decide_eq_true_iff,decide_eq_false_iff_not];first|done|grind [rt])
  |skip
 all_goals(
  have hs:(e.args.length:Int)=iW e.op∧e.idx.length≤6:=by grind
  refine ai (λk:Nat=>⟨[(3,I k),(1,.c (.ptr 0 0))], [(0,zB e)],1,0⟩) (λk=>k≤e.idx.length∧dZ (λi=> ∀h:i<e.idx.length,e.idx[i].2.2.length≤6) k) (λk=>e.idx.length-k) ⟨0, [],⟨by omega,.zero⟩,by simp[*]⟩ ?_
  repeat clear h
  have HT:=Lib.hid hs
  clear hs
  rintro k ⟨hk,a⟩
  refine aa ?_
  by_cases b:k<e.idx.length
  ·repeat' first|simp(disch:=omega)only[go_sem, *,ah b,eR,wrap_i64]|apply ab<;>intro h<;>try omega
   all_goals first
    |exact⟨k+1, [],⟨by omega,a.succ λ_=>by omega⟩,by omega,by simp⟩
    |exact BD ⟨λh=>(by cases h),λh'=>(by have:=h'.2.2 _ (List.getElem_mem b);omega)⟩
  ·repeat' first|simp(disch:=omega)only[go_sem, *]|apply ab<;>intro h<;>try omega
   refine BD ⟨λ_=>⟨HT.out.1,HT.out.2,λx hx=> ?_⟩,λ_=>rfl⟩
   obtain⟨i,hi,rfl⟩:=List.mem_iff_getElem.1 hx
   exact a i (by omega) hi)
theorem fT (e:Ex):ac Ya 212 [fE e] (Go.Abs.B (decide (rv e))):=by
 refine ac.of Bv (by simp) λhb=>aa ?_
 have hl:=(ed hb).2
 conv in bh _ _=>cbv
 repeat' first|simp(disch:=omega)only[go_sem, *]|apply ab<;>intro h<;>try omega|refine aq (fX _) rfl rfl ?_
 all_goals first
  |(refine BD ?_;clear hb;simp only[Bool.not_eq_true',xP,yB,reduceCtorEq,false_iff,true_iff,not_exists,not_and,Classical.not_not,decide_eq_true_iff,decide_eq_false_iff_not];first|done|grind [rv])
  |skip
 all_goals(
  have hs:e.op=3→fW e.name:=by grind
  refine ai (λk:Nat=>⟨[(3,I k),(1,.c (.ptr 0 0))], [(0,zB e)],1,0⟩) (λk=>k≤e.idx.length∧dZ (λi=> ∀h:i<e.idx.length,e.idx[i].2.1≠⟨⟨[]⟩⟩→fW e.idx[i].2.1) k) (λk=>e.idx.length-k) ⟨0, [],⟨by omega,.zero⟩,by simp[*]⟩ ?_
  repeat clear h
  have HT:=Lib.hid hs
  clear hs
  rintro k ⟨hk,a⟩
  refine aa ?_
  by_cases b:k<e.idx.length
  ·repeat' first|simp(disch:=omega)only[go_sem, *,ah b,eR,wrap_i64]|apply ab<;>intro h<;>try omega|refine aq (fX _) rfl rfl ?_
   all_goals first
    |exact⟨k+1, [],⟨by omega,a.succ λ_=>by grind⟩,by omega,by simp⟩
    |exact BD ⟨λh=>(by cases h),λh'=>(by have:=h'.2 _ (List.getElem_mem b);grind)⟩
  ·repeat' first|simp(disch:=omega)only[go_sem, *]|apply ab<;>intro h<;>try omega
   refine BD ⟨λ_=>⟨HT.out,λx hx=> ?_⟩,λ_=>rfl⟩
   obtain⟨i,hi,rfl⟩:=List.mem_iff_getElem.1 hx
   exact a i (by omega) hi)
theorem kg (e:Ex):ac Ya 214 [fE e] (Go.Abs.B (decide (lB e))):=by
 refine ac.of Aq (by simp) λhb=>aa ?_
 have hl:=(ed hb).1
 conv in bh _ _=>cbv
 repeat' first|simp(disch:=omega)only[go_sem, *]|apply ab<;>intro h<;>try omega|refine aq (bX e.ty) rfl rfl ?_
 all_goals first
  |(refine BD ?_;clear hb;simp only[Bool.not_eq_true',xP,yB,reduceCtorEq,false_iff,true_iff,not_exists,not_and,Classical.not_not,decide_eq_true_iff,decide_eq_false_iff_not];first|done|grind [lB])
  |skip
 all_goals(
  have d:(e.op=1∨e.op=12)→kU e.ty:=by grind
  refine ai (λk:Nat=>⟨[(3,I k),(1,.c (.ptr 0 0))], [(0,zB e)],1,0⟩) (λk=>k≤e.args.length∧dZ (λi=> ∀h:i<e.args.length,kj e.args[i].op↔qx e.op i) k) (λk=>e.args.length-k) ⟨0, [],⟨by omega,.zero⟩,by simp[*]⟩ ?_
  repeat clear h
  have HT:=Lib.hid d
  clear d
  rintro k ⟨hk,a⟩
  refine aa ?_
  by_cases b:k<e.args.length
  ·repeat' first|simp(disch:=omega)only[go_sem, *,ah b,Ex.row_eq,wrap_i64,KS]|apply ab<;>intro h<;>try omega|refine aq (eQ e.args[k]) rfl rfl ?_|refine aq (xZ e.op k) rfl rfl ?_
   ·exact⟨k+1, [],⟨by omega,a.succ λ_=>by simpa using h⟩,by omega,by simp⟩
   ·refine BD ⟨λh=>(by cases h),λh'=> ?_⟩
    have:=h'.2 k b
    simp[this]at h
  ·repeat' first|simp(disch:=omega)only[go_sem, *]|apply ab<;>intro h<;>try omega
   exact BD ⟨λ_=>⟨HT.out,λi hi=>a i (by omega) hi⟩,λ_=>rfl⟩)
end Go.Proofs.YtiapgekjmcjjgaaGreatDoor
