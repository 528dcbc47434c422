import Derived.Test.YthkaaahphlneiaaGreatDoorP14
set_option linter.unusedVariables false
set_option linter.unusedSimpArgs false
set_option maxRecDepth 20000
set_option maxHeartbeats 4000000
set_option maxRecDepth 1000000
namespace Go.Proofs.YthkaaahphlneiaaGreatDoor
open Go.Abs Go.RowKit
theorem gm (e:Ex):ac Tryz.prog nq [fm e] (Go.Abs.B (decide (lF e.op))):=by
 refine ac.of vu (by simp) fun hb=>aa ?_
 simp only[nA]
 repeat' first|simp(disch:=omega) only[go_sem, *]|((with_reducible refine ab ?_ ?_)<;>intro h<;>try omega)
 all_goals simp[lF, *]
theorem ep (e:Ex):ac Tryz.prog gZ [fm e] (Go.Abs.B (decide (lF e.op))):=by
 refine ac.of te (by simp) fun hb=>aa ?_
 conv in lV=>cbv
 repeat' first|simp(disch:=omega) only[go_sem, *]|((with_reducible refine ab ?_ ?_)<;>intro h<;>try omega)
 all_goals simp[lF, *]
theorem y6 (o:Int):ac Tryz.prog sc [I o] (I (jn o)):=by
 refine ac.of Aw (by simp) fun hb=>aa ?_
 simp only[sq]
 repeat' first|simp(disch:=omega) only[go_sem, *]|((with_reducible refine ab ?_ ?_)<;>intro h<;>try omega)
 all_goals simp[jn, *]
theorem Fs (o:Int):ac Tryz.prog qN [I o] (I (jn o)):=by
 refine ac.of Gq (by simp) fun hb=>aa ?_
 conv in zv=>cbv
 repeat' first|simp(disch:=omega) only[go_sem, *]|((with_reducible refine ab ?_ ?_)<;>intro h<;>try omega)
 all_goals simp[jn, *]
theorem mW (o:Int) (i:Nat):ac Tryz.prog ig [I o,I i] (Go.Abs.B (decide (uj o i))):=by
 refine ac.of nH (by simp) fun hb=>aa ?_
 simp only[il]
 repeat' first|simp(disch:=omega) only[go_sem, *]|((with_reducible refine ab ?_ ?_)<;>intro h<;>try omega)
 all_goals(simp[uj, *]<;>omega)
theorem B6 (o:Int) (i:Nat):ac Tryz.prog oN [I o,I i] (Go.Abs.B (decide (uj o i))):=by
 refine ac.of Dp (by simp) fun hb=>aa ?_
 conv in vJ=>cbv
 repeat' first|simp(disch:=omega) only[go_sem, *]|((with_reducible refine ab ?_ ?_)<;>intro h<;>try omega)
 all_goals(simp[uj, *]<;>omega)
theorem rQ (l:ca):ac Tryz.prog ww [dj l.1 l.2] (Go.Abs.B (decide (Ei l))):=by
 refine ac.of De (by simp) fun hb=>aa ?_
 simp only[wo]
 repeat' first|simp(disch:=omega) only[go_sem, *]|((with_reducible refine ab ?_ ?_)<;>intro h<;>try omega)
 all_goals simp_all [Ei]
theorem vt (x:Ix):ac Tryz.prog oh [YL x] (Go.Abs.B (decide (LG x))):=by
 refine ac.of xa (by simp) fun hb=>aa ?_
 simp only[oo]
 repeat' first|simp(disch:=omega) only[go_sem, *]|((with_reducible refine ab ?_ ?_)<;>intro h<;>try omega)|(refine av (rQ x.1) rfl rfl ?_)
 all_goals(refine BD ?_;simp[LG, *]<;>omega)
theorem M1 {α:Type} {f:α→List PC} {l:List α} {r:List AV} (h:lW (d8 f l::r)):l.length≤9223372036854775807:=by
 have:=h.1
 simpa[ie,iz]using this
def QL (f:FuncId) (p:Ix→Prop):Prop:= ∀x:Ix,ac Tryz.prog f [YL x] (Go.Abs.B (qD (p x)))
theorem o9 {f:FuncId} {p:Ix→Prop} (hf:QL f p) (xs:List Ix):ac Tryz.prog dR [d8 eB xs,.c (.clo f [])] (I (nB p xs)):=by
 refine ac.of gc (by simp) fun hb=>aa ?_
 have hl:=M1 hb
 simp only[dK]
 repeat' first|simp(disch:=omega) only[go_sem, *]|((with_reducible refine ab ?_ ?_)<;>intro h<;>try omega)
 refine aj (fun k:Nat=>⟨[(0,d8 eB xs),(1,.c (.clo f [])),(7,I xs.length),(8,I k)], [],0,0⟩) (fun k=>k≤xs.length∧dW (fun j=> ∀h:j<xs.length,¬p xs[j]) k) (fun k=>xs.length-k) ⟨0, [],⟨by omega,.zero⟩,by simp⟩ ?_
 rintro k ⟨hk,hall⟩
 refine aa ?_
 by_cases hlt:k<xs.length
 ·repeat' first|simp(disch:=omega) only[go_sem, *,ae hlt,eB,wrap_i64]|((with_reducible refine ab ?_ ?_)<;>intro h<;>try omega)|(refine av (hf _) rfl rfl ?_)
  ·rw[y8 hlt h fun j hj=>hall j hj (by omega)]
  ·exact⟨k+1, [],⟨by omega,hall.succ fun _=>h⟩,by omega,by simp⟩
 ·repeat' first|simp(disch:=omega) only[go_sem, *]|((with_reducible refine ab ?_ ?_)<;>intro h<;>try omega)
  rw[re fun j hj=>hall j (by omega) hj]
theorem el {f:FuncId} {p:Ix→Prop} (hf:QL f p) (xs:List Ix):ac Tryz.prog dp [d8 eB xs,.c (.clo f [])] (Go.Abs.B (qD (∃x∈xs,p x))):=by
 refine ac.of fA (by simp) fun hb=>aa ?_
 simp only[dt]
 repeat' first|simp(disch:=omega) only[go_sem, *]|((with_reducible refine ab ?_ ?_)<;>intro h<;>try omega)|(refine av (o9 hf xs) rfl rfl ?_)
 exact BC (by rw[decide_eq_true_iff];exact KB)
theorem x8:QL so (fun x=> ¬LG x):=by
 intro x
 refine ac.of zR (by simp) fun hb=>aa ?_
 simp only[rY]
 repeat' first|simp(disch:=omega) only[go_sem, *]|((with_reducible refine ab ?_ ?_)<;>intro h<;>try omega)|(refine av (vt x) rfl rfl ?_)
 all_goals exact BC (by simp[*])
theorem Cu:QL wL (fun x=>6<x.2.2.length):=by
 intro x
 refine ac.of EQ (by simp) fun hb=>aa ?_
 simp only[wK]
 repeat' first|simp(disch:=omega) only[go_sem, *]|((with_reducible refine ab ?_ ?_)<;>intro h<;>try omega)
 all_goals exact BC (by simp<;>omega)
theorem eI (e:Ex):ac Tryz.prog oB [fm e] (Go.Abs.B (decide (qz e))):=by
 refine ac.of CW (by simp) fun hb=>aa ?_
 conv in v6=>cbv
 repeat' first|simp(disch:=omega) only[go_sem, *]|((with_reducible refine ab ?_ ?_)<;>intro h<;>try omega)|(refine av (rQ e.lin) rfl rfl ?_)|(refine av (el x8 e.idx) rfl rfl ?_)
 all_goals(refine BD ?_;clear hb;simp only[Bool.not_eq_true',BT,B4,reduceCtorEq,false_iff,true_iff,not_exists,not_and,Classical.not_not,decide_eq_true_iff,decide_eq_false_iff_not];first|done|grind [qz])
theorem kz (e:Ex):ac Tryz.prog A5 [fm e] (Go.Abs.B (decide (tg e))):=by
 refine ac.of JN (by simp) fun hb=>aa ?_
 simp only[BF]
 repeat' first|simp(disch:=omega) only[go_sem, *]|((with_reducible refine ab ?_ ?_)<;>intro h<;>try omega)|(refine av (y6 e.op) rfl rfl ?_)|(refine av (el Cu e.idx) rfl rfl ?_)
 all_goals(refine BD ?_;clear hb;simp only[Bool.not_eq_true',BT,B4,reduceCtorEq,false_iff,true_iff,not_exists,not_and,Classical.not_not,decide_eq_true_iff,decide_eq_false_iff_not];first|done|grind [tg])
theorem dX {e:Ex} {r:List AV} (h:lW (fm e::r)):e.args.length≤9223372036854775807∧e.idx.length≤9223372036854775807:=by
 have:=h.1
 simp[ie,lO,iz]at this
 omega
abbrev Ey (e:Ex):aS:= .var [.pure (pI e.op),.pure (pS e.name),.pure (pI e.val.1),.pure (pI e.val.2),.pure (pI e.ty.1),.pure (pI e.ty.2.1),.pure (pI e.ty.2.2.1),.pure (pI e.ty.2.2.2.1),.pure (pI e.ty.2.2.2.2),.pure (pI e.lin.1),.pure (aE e.lin.2),.pure (c9 eB e.idx),.pure (.slice (e.args.map Ex.row))]
theorem nk (e:Ex):ac Tryz.prog rE [fm e] (Go.Abs.B (decide (nv e))):=by
 refine ac.of Gz (by simp) fun hb=>aa ?_
 have hl:=(dX hb).1
 conv in zm=>cbv
 repeat' first|simp(disch:=omega) only[go_sem, *]|((with_reducible refine ab ?_ ?_)<;>intro h<;>try omega)|(refine av (ew e.ty) rfl rfl ?_)
 all_goals first
  |(refine BD ?_;clear hb;simp only[Bool.not_eq_true',BT,B4,reduceCtorEq,false_iff,true_iff,not_exists,not_and,Classical.not_not,decide_eq_true_iff,decide_eq_false_iff_not];first|done|grind [nv])
  |skip
 all_goals(
  have hty:(e.op=1∨e.op=12)→l8 e.ty:=by grind
  refine aj (fun k:Nat=>⟨[(22,I k),(21,I e.args.length),(20,.c (.pure (.slice (e.args.map Ex.row)))),(1,.c (.ptr 0 0))], [(0,Ey e)],1,0⟩) (fun k=>k≤e.args.length∧dW (fun i=> ∀h:i<e.args.length,lF e.args[i].op↔uj e.op i) k) (fun k=>e.args.length-k) ⟨0, [],⟨by omega,.zero⟩,by simp[*]⟩ ?_
  repeat clear h
  have HT:=Lib.hid hty
  clear hty
  rintro k ⟨hk,hall⟩
  refine aa ?_
  by_cases hlt:k<e.args.length
  ·repeat' first|simp(disch:=omega) only[go_sem, *,ae hlt,Ex.row_eq,wrap_i64,NV]|((with_reducible refine ab ?_ ?_)<;>intro h<;>try omega)|(refine av (gm e.args[k]) rfl rfl ?_)|(refine av (mW e.op k) rfl rfl ?_)
   ·exact⟨k+1, [],⟨by omega,hall.succ fun _=>by simpa using h⟩,by omega,by simp⟩
   ·refine BD ⟨fun h=>(by cases h),fun h'=> ?_⟩
    have:=h'.2 k hlt
    simp[this]at h
  ·repeat' first|simp(disch:=omega) only[go_sem, *]|((with_reducible refine ab ?_ ?_)<;>intro h<;>try omega)
   exact BD ⟨fun _=>⟨HT.out,fun i hi=>hall i (by omega) hi⟩,fun _=>rfl⟩)
set_option maxRecDepth 20000
set_option maxRecDepth 1000000
set_option maxHeartbeats 2000000 in
theorem eJ (e:Ex):ac Tryz.prog oL [fm e] (Go.Abs.B (decide (qz e))):=by
 refine ac.of EN (by simp) fun hb=>aa ?_
 have hl:=(dX hb).2
 conv in vX=>cbv
 have hop:e.op=1∨e.op=2∨e.op=3∨e.op=12∨(e.op≠1∧e.op≠2∧e.op≠3∧e.op≠12):=by omega
 rcases hop with h|h|h|h|⟨h1,h2,h3,h⟩
 all_goals(
  repeat' first|simp(disch:=omega) only[go_sem, *]|((with_reducible refine ab ?_ ?_)<;>intro h<;>try omega)
  all_goals first
   |(refine BD ?_;clear hb;simp only[Bool.not_eq_true',BT,B4,reduceCtorEq,false_iff,true_iff,not_exists,not_and,Classical.not_not,decide_eq_true_iff,decide_eq_false_iff_not];first|done|grind [qz,Ei])
   |skip)
 all_goals(
  have hs:(1≤e.op∧e.op≤18)∧(e.op≠1→e.val.1=0∧e.val.2=0)∧(e.op≠1→e.op≠12→e.ty.1=0∧e.ty.2.1=0∧e.ty.2.2.1=0∧e.ty.2.2.2.1=0∧e.ty.2.2.2.2=0)∧
   (e.op≠2→Ei e.lin)∧(e.op≠3→e.name=⟨⟨[]⟩⟩∧e.idx.length=0):=by grind [Ei]
  refine aj (fun k:Nat=>⟨[(3,I k),(1,.c (.ptr 0 0))], [(0,Ey e)],1,0⟩) (fun k=>k≤e.idx.length∧dW (fun i=> ∀h:i<e.idx.length,LG e.idx[i]) k) (fun k=>e.idx.length-k) ⟨0, [],⟨by omega,.zero⟩,by simp[*]⟩ ?_
  repeat clear h
  have HT:=Lib.hid hs
  clear hs
  rintro k ⟨hk,hall⟩
  refine aa ?_
  by_cases hlt:k<e.idx.length
  ·repeat' first|simp(disch:=omega) only[go_sem, *,ae hlt,eB,wrap_i64]|((with_reducible refine ab ?_ ?_)<;>intro h<;>try omega)
   all_goals first
    |exact⟨k+1, [],⟨by omega,hall.succ fun _=>by grind [LG,Ei]⟩,by omega,by simp⟩
    |exact BD ⟨fun h=>(by cases h),fun h'=>(by have:=h'.2.2.2.2.2 _ (List.getElem_mem hlt);grind [LG,Ei])⟩
  ·repeat' first|simp(disch:=omega) only[go_sem, *]|((with_reducible refine ab ?_ ?_)<;>intro h<;>try omega)
   refine BD ⟨fun _=>⟨HT.out.1,HT.out.2.1,HT.out.2.2.1,HT.out.2.2.2.1,HT.out.2.2.2.2,fun x hx=> ?_⟩,fun _=>rfl⟩
   obtain⟨i,hi,rfl⟩:=List.mem_iff_getElem.1 hx
   exact hall i (by omega) hi)
theorem gM (e:Ex):ac Tryz.prog mT [fm e] (Go.Abs.B (decide (tg e))):=by
 refine ac.of CG (by simp) fun hb=>aa ?_
 have hl:=(dX hb).2
 conv in uN=>cbv
 repeat' first|simp(disch:=omega) only[go_sem, *]|((with_reducible refine ab ?_ ?_)<;>intro h<;>try omega)|(refine av (Fs e.op) rfl rfl ?_)
 all_goals first
  |(refine BD ?_;clear hb;simp only[Bool.not_eq_true',BT,B4,reduceCtorEq,false_iff,true_iff,not_exists,not_and,Classical.not_not,decide_eq_true_iff,decide_eq_false_iff_not];first|done|grind [tg])
  |skip
 all_goals(
  have hs:(e.args.length:Int)=jn e.op∧e.idx.length≤6:=by grind
  refine aj (fun k:Nat=>⟨[(3,I k),(1,.c (.ptr 0 0))], [(0,Ey e)],1,0⟩) (fun k=>k≤e.idx.length∧dW (fun i=> ∀h:i<e.idx.length,e.idx[i].2.2.length≤6) k) (fun k=>e.idx.length-k) ⟨0, [],⟨by omega,.zero⟩,by simp[*]⟩ ?_
  repeat clear h
  have HT:=Lib.hid hs
  clear hs
  rintro k ⟨hk,hall⟩
  refine aa ?_
  by_cases hlt:k<e.idx.length
  ·repeat' first|simp(disch:=omega) only[go_sem, *,ae hlt,eB,wrap_i64]|((with_reducible refine ab ?_ ?_)<;>intro h<;>try omega)
   all_goals first
    |exact⟨k+1, [],⟨by omega,hall.succ fun _=>by omega⟩,by omega,by simp⟩
    |exact BD ⟨fun h=>(by cases h),fun h'=>(by have:=h'.2.2 _ (List.getElem_mem hlt);omega)⟩
  ·repeat' first|simp(disch:=omega) only[go_sem, *]|((with_reducible refine ab ?_ ?_)<;>intro h<;>try omega)
   refine BD ⟨fun _=>⟨HT.out.1,HT.out.2,fun x hx=> ?_⟩,fun _=>rfl⟩
   obtain⟨i,hi,rfl⟩:=List.mem_iff_getElem.1 hx
   exact hall i (by omega) hi)
theorem fG (e:Ex):ac Tryz.prog oZ [fm e] (Go.Abs.B (decide (tG e))):=by
 refine ac.of Fd (by simp) fun hb=>aa ?_
 have hl:=(dX hb).2
 conv in wW=>cbv
 repeat' first|simp(disch:=omega) only[go_sem, *]|((with_reducible refine ab ?_ ?_)<;>intro h<;>try omega)|(refine av (fT _) rfl rfl ?_)
 all_goals first
  |(refine BD ?_;clear hb;simp only[Bool.not_eq_true',BT,B4,reduceCtorEq,false_iff,true_iff,not_exists,not_and,Classical.not_not,decide_eq_true_iff,decide_eq_false_iff_not];first|done|grind [tG])
  |skip
 all_goals(
  have hs:e.op=3→fp e.name:=by grind
  refine aj (fun k:Nat=>⟨[(3,I k),(1,.c (.ptr 0 0))], [(0,Ey e)],1,0⟩) (fun k=>k≤e.idx.length∧dW (fun i=> ∀h:i<e.idx.length,e.idx[i].2.1≠⟨⟨[]⟩⟩→fp e.idx[i].2.1) k) (fun k=>e.idx.length-k) ⟨0, [],⟨by omega,.zero⟩,by simp[*]⟩ ?_
  repeat clear h
  have HT:=Lib.hid hs
  clear hs
  rintro k ⟨hk,hall⟩
  refine aa ?_
  by_cases hlt:k<e.idx.length
  ·repeat' first|simp(disch:=omega) only[go_sem, *,ae hlt,eB,wrap_i64]|((with_reducible refine ab ?_ ?_)<;>intro h<;>try omega)|(refine av (fT _) rfl rfl ?_)
   all_goals first
    |exact⟨k+1, [],⟨by omega,hall.succ fun _=>by grind⟩,by omega,by simp⟩
    |exact BD ⟨fun h=>(by cases h),fun h'=>(by have:=h'.2 _ (List.getElem_mem hlt);grind)⟩
  ·repeat' first|simp(disch:=omega) only[go_sem, *]|((with_reducible refine ab ?_ ?_)<;>intro h<;>try omega)
   refine BD ⟨fun _=>⟨HT.out,fun x hx=> ?_⟩,fun _=>rfl⟩
   obtain⟨i,hi,rfl⟩:=List.mem_iff_getElem.1 hx
   exact hall i (by omega) hi)
theorem lr (e:Ex):ac Tryz.prog o8 [fm e] (Go.Abs.B (decide (nv e))):=by
 refine ac.of Ea (by simp) fun hb=>aa ?_
 have hl:=(dX hb).1
 conv in wj=>cbv
 repeat' first|simp(disch:=omega) only[go_sem, *]|((with_reducible refine ab ?_ ?_)<;>intro h<;>try omega)|(refine av (bH e.ty) rfl rfl ?_)
 all_goals first
  |(refine BD ?_;clear hb;simp only[Bool.not_eq_true',BT,B4,reduceCtorEq,false_iff,true_iff,not_exists,not_and,Classical.not_not,decide_eq_true_iff,decide_eq_false_iff_not];first|done|grind [nv])
  |skip
 all_goals(
  have hty:(e.op=1∨e.op=12)→l8 e.ty:=by grind
  refine aj (fun k:Nat=>⟨[(3,I k),(1,.c (.ptr 0 0))], [(0,Ey e)],1,0⟩) (fun k=>k≤e.args.length∧dW (fun i=> ∀h:i<e.args.length,lF e.args[i].op↔uj e.op i) k) (fun k=>e.args.length-k) ⟨0, [],⟨by omega,.zero⟩,by simp[*]⟩ ?_
  repeat clear h
  have HT:=Lib.hid hty
  clear hty
  rintro k ⟨hk,hall⟩
  refine aa ?_
  by_cases hlt:k<e.args.length
  ·repeat' first|simp(disch:=omega) only[go_sem, *,ae hlt,Ex.row_eq,wrap_i64,NV]|((with_reducible refine ab ?_ ?_)<;>intro h<;>try omega)|(refine av (ep e.args[k]) rfl rfl ?_)|(refine av (B6 e.op k) rfl rfl ?_)
   ·exact⟨k+1, [],⟨by omega,hall.succ fun _=>by simpa using h⟩,by omega,by simp⟩
   ·refine BD ⟨fun h=>(by cases h),fun h'=> ?_⟩
    have:=h'.2 k hlt
    simp[this]at h
  ·repeat' first|simp(disch:=omega) only[go_sem, *]|((with_reducible refine ab ?_ ?_)<;>intro h<;>try omega)
   exact BD ⟨fun _=>⟨HT.out,fun i hi=>hall i (by omega) hi⟩,fun _=>rfl⟩)
end Go.Proofs.YthkaaahphlneiaaGreatDoor
