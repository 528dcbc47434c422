import Derived.Test.YthbcbaembicdbaaGreatDoorP17
set_option linter.unusedVariables false
set_option linter.unusedSimpArgs false
set_option maxRecDepth 20000
set_option maxHeartbeats 4000000
set_option maxRecDepth 1000000
namespace Go.Proofs.YthbcbaembicdbaaGreatDoor
open Go.Abs Go.RowKit
theorem gJ (e:Ex):ac Tryz.prog oj [fJ e] (Go.Abs.B (decide (mi e.op))):=by
 refine ac.of w5 (by simp) fun hb=>aa ?_
 conv in nw=>cbv
 repeat' first|simp(disch:=omega) only[go_sem, *]|((with_reducible apply ab)<;>intro h<;>try omega)
 all_goals simp[mi, *]
theorem eT (e:Ex):ac Tryz.prog mD [fJ e] (Go.Abs.B (decide (mi e.op))):=by
 refine ac.of uU (by simp) fun hb=>aa ?_
 conv in mT=>cbv
 repeat' first|simp(disch:=omega) only[go_sem, *]|((with_reducible apply ab)<;>intro h<;>try omega)
 all_goals simp[mi, *]
theorem Bx (o:Int):ac Tryz.prog sT [I o] (I (jJ o)):=by
 refine ac.of CC (by simp) fun hb=>aa ?_
 conv in tx=>cbv
 repeat' first|simp(disch:=omega) only[go_sem, *]|((with_reducible apply ab)<;>intro h<;>try omega)
 all_goals simp[jJ, *]
theorem Ik (o:Int):ac Tryz.prog AH [I o] (I (jJ o)):=by
 refine ac.of Jn (by simp) fun hb=>aa ?_
 conv in A4=>cbv
 repeat' first|simp(disch:=omega) only[go_sem, *]|((with_reducible apply ab)<;>intro h<;>try omega)
 all_goals simp[jJ, *]
theorem og (o:Int) (i:Nat):ac Tryz.prog iy [I o,I i] (Go.Abs.B (decide (vF o i))):=by
 refine ac.of oM (by simp) fun hb=>aa ?_
 conv in ix=>cbv
 repeat' first|simp(disch:=omega) only[go_sem, *]|((with_reducible apply ab)<;>intro h<;>try omega)
 all_goals(simp[vF, *]<;>omega)
theorem Ep (o:Int) (i:Nat):ac Tryz.prog xW [I o,I i] (Go.Abs.B (decide (vF o i))):=by
 refine ac.of Gp (by simp) fun hb=>aa ?_
 conv in xR=>cbv
 repeat' first|simp(disch:=omega) only[go_sem, *]|((with_reducible apply ab)<;>intro h<;>try omega)
 all_goals(simp[vF, *]<;>omega)
theorem tg (l:bY):ac Tryz.prog xE [dm l.1 l.2] (Go.Abs.B (decide (Is l))):=by
 refine ac.of Fw (by simp) fun hb=>aa ?_
 conv in xG=>cbv
 repeat' first|simp(disch:=omega) only[go_sem, *]|((with_reducible apply ab)<;>intro h<;>try omega)
 all_goals simp_all [Is]
theorem wS (x:Ix):ac Tryz.prog o7 [aIx x] (Go.Abs.B (decide (OF x))):=by
 refine ac.of yI (by simp) fun hb=>aa ?_
 conv in pA=>cbv
 repeat' first|simp(disch:=omega) only[go_sem, *]|((with_reducible apply ab)<;>intro h<;>try omega)|(refine aF (tg x.1) rfl rfl ?_)
 all_goals(refine BD ?_;simp[OF, *]<;>omega)
theorem Xa {α:Type} {f:α→List PC} {l:List α} {r:List AV} (h:tp (j5 f l::r)):l.length≤9223372036854775807:=by
 have:=h.1
 simpa[i5,jS]using this
def UD (f:FuncId) (p:Ix→Prop):Prop:= ∀x:Ix,ac Tryz.prog f [aIx x] (Go.Abs.B (BI (p x)))
theorem qB {f:FuncId} {p:Ix→Prop} (hf:UD f p) (xs:List Ix):ac Tryz.prog dW [j5 eQ xs,.c (.clo f [])] (I (sV p xs)):=by
 refine ac.of gB (by simp) fun hb=>aa ?_
 have hl:=Xa hb
 conv in dV=>cbv
 repeat' first|simp(disch:=omega) only[go_sem, *]|((with_reducible apply ab)<;>intro h<;>try omega)
 refine an (fun k:Nat=>⟨[(0,j5 eQ xs),(1,.c (.clo f [])),(7,I xs.length),(8,I k)], [],0,0⟩) (fun k=>k≤xs.length∧el (fun j=> ∀h:j<xs.length,¬p xs[j]) k) (fun k=>xs.length-k) ⟨0, [],⟨by omega,.zero⟩,by simp⟩ ?_
 rintro k ⟨hk,hall⟩
 refine aa ?_
 by_cases hlt:k<xs.length
 ·repeat' first|simp(disch:=omega) only[go_sem, *,ah hlt,eQ,wrap_i64]|((with_reducible apply ab)<;>intro h<;>try omega)|(refine aF (hf _) rfl rfl ?_)
  ·rw[GM hlt h fun j hj=>hall j hj (by omega)]
  ·exact⟨k+1, [],⟨by omega,hall.succ fun _=>h⟩,by omega,by simp⟩
 ·repeat' first|simp(disch:=omega) only[go_sem, *]|((with_reducible apply ab)<;>intro h<;>try omega)
  rw[y6 fun j hj=>hall j (by omega) hj]
theorem eJ {f:FuncId} {p:Ix→Prop} (hf:UD f p) (xs:List Ix):ac Tryz.prog dE [j5 eQ xs,.c (.clo f [])] (Go.Abs.B (BI (∃x∈xs,p x))):=by
 refine ac.of fT (by simp) fun hb=>aa ?_
 conv in dD=>cbv
 repeat' first|simp(disch:=omega) only[go_sem, *]|((with_reducible apply ab)<;>intro h<;>try omega)|(refine aF (qB hf xs) rfl rfl ?_)
 exact BC (by rw[decide_eq_true_iff];exact NH)
theorem z6:UD tc (fun x=> ¬OF x):=by
 intro x
 refine ac.of B9 (by simp) fun hb=>aa ?_
 conv in td=>cbv
 repeat' first|simp(disch:=omega) only[go_sem, *]|((with_reducible apply ab)<;>intro h<;>try omega)|(refine aF (wS x) rfl rfl ?_)
 all_goals exact BC (by simp[*])
theorem El:UD xq (fun x=>6<x.2.2.length):=by
 intro x
 refine ac.of Ia (by simp) fun hb=>aa ?_
 conv in x9=>cbv
 repeat' first|simp(disch:=omega) only[go_sem, *]|((with_reducible apply ab)<;>intro h<;>try omega)
 all_goals exact BC (by simp<;>omega)
theorem e9 (e:Ex):ac Tryz.prog yi [fJ e] (Go.Abs.B (decide (ry e))):=by
 refine ac.of HJ (by simp) fun hb=>aa ?_
 conv in xj=>cbv
 repeat' first|simp(disch:=omega) only[go_sem, *]|((with_reducible apply ab)<;>intro h<;>try omega)|(refine aF (tg e.lin) rfl rfl ?_)|(refine aF (eJ z6 e.idx) rfl rfl ?_)
 all_goals(refine BD ?_;clear hb;simp only[Bool.not_eq_true',D9,D7,reduceCtorEq,false_iff,true_iff,not_exists,not_and,Classical.not_not,decide_eq_true_iff,decide_eq_false_iff_not];first|done|grind [ry])
theorem kW (e:Ex):ac Tryz.prog DP [fJ e] (Go.Abs.B (decide (uh e))):=by
 refine ac.of Lx (by simp) fun hb=>aa ?_
 conv in C9=>cbv
 repeat' first|simp(disch:=omega) only[go_sem, *]|((with_reducible apply ab)<;>intro h<;>try omega)|(refine aF (Bx e.op) rfl rfl ?_)|(refine aF (eJ El e.idx) rfl rfl ?_)
 all_goals(refine BD ?_;clear hb;simp only[Bool.not_eq_true',D9,D7,reduceCtorEq,false_iff,true_iff,not_exists,not_and,Classical.not_not,decide_eq_true_iff,decide_eq_false_iff_not];first|done|grind [uh])
theorem eh {e:Ex} {r:List AV} (h:tp (fJ e::r)):e.args.length≤9223372036854775807∧e.idx.length≤9223372036854775807:=by
 have:=h.1
 simp[i5,rF,jS]at this
 omega
abbrev Gy (e:Ex):bc:= .var [.pure (pI e.op),.pure (pS e.name),.pure (pI e.val.1),.pure (pI e.val.2),.pure (pI e.ty.1),.pure (pI e.ty.2.1),.pure (pI e.ty.2.2.1),.pure (pI e.ty.2.2.2.1),.pure (pI e.ty.2.2.2.2),.pure (pI e.lin.1),.pure (aw e.lin.2),.pure (du eQ e.idx),.pure (.slice (e.args.map Ex.row))]
theorem ny (e:Ex):ac Tryz.prog zQ [fJ e] (Go.Abs.B (decide (nQ e))):=by
 refine ac.of I0 (by simp) fun hb=>aa ?_
 have hl:=(eh hb).1
 conv in Be=>cbv
 repeat' first|simp(disch:=omega) only[go_sem, *]|((with_reducible apply ab)<;>intro h<;>try omega)|(refine aF (eU e.ty) rfl rfl ?_)
 all_goals first
  |(refine BD ?_;clear hb;simp only[Bool.not_eq_true',D9,D7,reduceCtorEq,false_iff,true_iff,not_exists,not_and,Classical.not_not,decide_eq_true_iff,decide_eq_false_iff_not];first|done|grind [nQ])
  |skip
 all_goals(
  have hty:(e.op=1∨e.op=12)→nb e.ty:=by grind
  refine an (fun k:Nat=>⟨[(22,I k),(21,I e.args.length),(20,.c (.pure (.slice (e.args.map Ex.row)))),(1,.c (.ptr 0 0))], [(0,Gy e)],1,0⟩) (fun k=>k≤e.args.length∧el (fun i=> ∀h:i<e.args.length,mi e.args[i].op↔vF e.op i) k) (fun k=>e.args.length-k) ⟨0, [],⟨by omega,.zero⟩,by simp[*]⟩ ?_
  repeat clear h
  have HT:=Lib.hid hty
  clear hty
  rintro k ⟨hk,hall⟩
  refine aa ?_
  by_cases hlt:k<e.args.length
  ·repeat' first|simp(disch:=omega) only[go_sem, *,ah hlt,Ex.row_eq,wrap_i64,RX]|((with_reducible apply ab)<;>intro h<;>try omega)|(refine aF (gJ e.args[k]) rfl rfl ?_)|(refine aF (og e.op k) rfl rfl ?_)
   ·exact⟨k+1, [],⟨by omega,hall.succ fun _=>by simpa using h⟩,by omega,by simp⟩
   ·refine BD ⟨fun h=>(by cases h),fun h'=> ?_⟩
    have:=h'.2 k hlt
    simp[this]at h
  ·repeat' first|simp(disch:=omega) only[go_sem, *]|((with_reducible apply ab)<;>intro h<;>try omega)
   exact BD ⟨fun _=>⟨HT.out,fun i hi=>hall i (by omega) hi⟩,fun _=>rfl⟩)
set_option maxRecDepth 20000
set_option maxRecDepth 1000000
set_option maxHeartbeats 2000000 in
theorem e8 (e:Ex):ac Tryz.prog yf [fJ e] (Go.Abs.B (decide (ry e))):=by
 refine ac.of HH (by simp) fun hb=>aa ?_
 have hl:=(eh hb).2
 simp only[xk]
 have hop:e.op=1∨e.op=2∨e.op=3∨e.op=12∨(e.op≠1∧e.op≠2∧e.op≠3∧e.op≠12):=by omega
 rcases hop with h|h|h|h|⟨h1,h2,h3,h⟩
 all_goals(
  repeat' first|simp(disch:=omega) only[go_sem, *]|((with_reducible apply ab)<;>intro h<;>try omega)
  all_goals first
   |(refine BD ?_;clear hb;simp only[Bool.not_eq_true',D9,D7,reduceCtorEq,false_iff,true_iff,not_exists,not_and,Classical.not_not,decide_eq_true_iff,decide_eq_false_iff_not];first|done|grind [ry,Is])
   |skip)
 all_goals(
  have hs:(1≤e.op∧e.op≤18)∧(e.op≠1→e.val.1=0∧e.val.2=0)∧(e.op≠1→e.op≠12→e.ty.1=0∧e.ty.2.1=0∧e.ty.2.2.1=0∧e.ty.2.2.2.1=0∧e.ty.2.2.2.2=0)∧
   (e.op≠2→Is e.lin)∧(e.op≠3→e.name=⟨⟨[]⟩⟩∧e.idx.length=0):=by grind [Is]
  refine an (fun k:Nat=>⟨[(3,I k),(1,.c (.ptr 0 0))], [(0,Gy e)],1,0⟩) (fun k=>k≤e.idx.length∧el (fun i=> ∀h:i<e.idx.length,OF e.idx[i]) k) (fun k=>e.idx.length-k) ⟨0, [],⟨by omega,.zero⟩,by simp[*]⟩ ?_
  repeat clear h
  have HT:=Lib.hid hs
  clear hs
  rintro k ⟨hk,hall⟩
  refine aa ?_
  by_cases hlt:k<e.idx.length
  ·repeat' first|simp(disch:=omega) only[go_sem, *,ah hlt,eQ,wrap_i64]|((with_reducible apply ab)<;>intro h<;>try omega)
   all_goals first
    |exact⟨k+1, [],⟨by omega,hall.succ fun _=>by grind [OF,Is]⟩,by omega,by simp⟩
    |exact BD ⟨fun h=>(by cases h),fun h'=>(by have:=h'.2.2.2.2.2 _ (List.getElem_mem hlt);grind [OF,Is])⟩
  ·repeat' first|simp(disch:=omega) only[go_sem, *]|((with_reducible apply ab)<;>intro h<;>try omega)
   refine BD ⟨fun _=>⟨HT.out.1,HT.out.2.1,HT.out.2.2.1,HT.out.2.2.2.1,HT.out.2.2.2.2,fun x hx=> ?_⟩,fun _=>rfl⟩
   obtain⟨i,hi,rfl⟩:=List.mem_iff_getElem.1 hx
   exact hall i (by omega) hi)
theorem ib (e:Ex):ac Tryz.prog uL [fJ e] (Go.Abs.B (decide (uh e))):=by
 refine ac.of Em (by simp) fun hb=>aa ?_
 have hl:=(eh hb).2
 conv in v6=>cbv
 repeat' first|simp(disch:=omega) only[go_sem, *]|((with_reducible apply ab)<;>intro h<;>try omega)|(refine aF (Ik e.op) rfl rfl ?_)
 all_goals first
  |(refine BD ?_;clear hb;simp only[Bool.not_eq_true',D9,D7,reduceCtorEq,false_iff,true_iff,not_exists,not_and,Classical.not_not,decide_eq_true_iff,decide_eq_false_iff_not];first|done|grind [uh])
  |skip
 all_goals(
  have hs:(e.args.length:Int)=jJ e.op∧e.idx.length≤6:=by grind
  refine an (fun k:Nat=>⟨[(3,I k),(1,.c (.ptr 0 0))], [(0,Gy e)],1,0⟩) (fun k=>k≤e.idx.length∧el (fun i=> ∀h:i<e.idx.length,e.idx[i].2.2.length≤6) k) (fun k=>e.idx.length-k) ⟨0, [],⟨by omega,.zero⟩,by simp[*]⟩ ?_
  repeat clear h
  have HT:=Lib.hid hs
  clear hs
  rintro k ⟨hk,hall⟩
  refine aa ?_
  by_cases hlt:k<e.idx.length
  ·repeat' first|simp(disch:=omega) only[go_sem, *,ah hlt,eQ,wrap_i64]|((with_reducible apply ab)<;>intro h<;>try omega)
   all_goals first
    |exact⟨k+1, [],⟨by omega,hall.succ fun _=>by omega⟩,by omega,by simp⟩
    |exact BD ⟨fun h=>(by cases h),fun h'=>(by have:=h'.2.2 _ (List.getElem_mem hlt);omega)⟩
  ·repeat' first|simp(disch:=omega) only[go_sem, *]|((with_reducible apply ab)<;>intro h<;>try omega)
   refine BD ⟨fun _=>⟨HT.out.1,HT.out.2,fun x hx=> ?_⟩,fun _=>rfl⟩
   obtain⟨i,hi,rfl⟩:=List.mem_iff_getElem.1 hx
   exact hall i (by omega) hi)
theorem gl (e:Ex):ac Tryz.prog xO [fJ e] (Go.Abs.B (decide (uB e))):=by
 refine ac.of G9 (by simp) fun hb=>aa ?_
 have hl:=(eh hb).2
 conv in xu=>cbv
 repeat' first|simp(disch:=omega) only[go_sem, *]|((with_reducible apply ab)<;>intro h<;>try omega)|(refine aF (gn _) rfl rfl ?_)
 all_goals first
  |(refine BD ?_;clear hb;simp only[Bool.not_eq_true',D9,D7,reduceCtorEq,false_iff,true_iff,not_exists,not_and,Classical.not_not,decide_eq_true_iff,decide_eq_false_iff_not];first|done|grind [uB])
  |skip
 all_goals(
  have hs:e.op=3→gc e.name:=by grind
  refine an (fun k:Nat=>⟨[(3,I k),(1,.c (.ptr 0 0))], [(0,Gy e)],1,0⟩) (fun k=>k≤e.idx.length∧el (fun i=> ∀h:i<e.idx.length,e.idx[i].2.1≠⟨⟨[]⟩⟩→gc e.idx[i].2.1) k) (fun k=>e.idx.length-k) ⟨0, [],⟨by omega,.zero⟩,by simp[*]⟩ ?_
  repeat clear h
  have HT:=Lib.hid hs
  clear hs
  rintro k ⟨hk,hall⟩
  refine aa ?_
  by_cases hlt:k<e.idx.length
  ·repeat' first|simp(disch:=omega) only[go_sem, *,ah hlt,eQ,wrap_i64]|((with_reducible apply ab)<;>intro h<;>try omega)|(refine aF (gn _) rfl rfl ?_)
   all_goals first
    |exact⟨k+1, [],⟨by omega,hall.succ fun _=>by grind⟩,by omega,by simp⟩
    |exact BD ⟨fun h=>(by cases h),fun h'=>(by have:=h'.2 _ (List.getElem_mem hlt);grind)⟩
  ·repeat' first|simp(disch:=omega) only[go_sem, *]|((with_reducible apply ab)<;>intro h<;>try omega)
   refine BD ⟨fun _=>⟨HT.out,fun x hx=> ?_⟩,fun _=>rfl⟩
   obtain⟨i,hi,rfl⟩:=List.mem_iff_getElem.1 hx
   exact hall i (by omega) hi)
theorem mq (e:Ex):ac Tryz.prog yb [fJ e] (Go.Abs.B (decide (nQ e))):=by
 refine ac.of If (by simp) fun hb=>aa ?_
 have hl:=(eh hb).1
 conv in yj=>cbv
 repeat' first|simp(disch:=omega) only[go_sem, *]|((with_reducible apply ab)<;>intro h<;>try omega)|(refine aF (bW e.ty) rfl rfl ?_)
 all_goals first
  |(refine BD ?_;clear hb;simp only[Bool.not_eq_true',D9,D7,reduceCtorEq,false_iff,true_iff,not_exists,not_and,Classical.not_not,decide_eq_true_iff,decide_eq_false_iff_not];first|done|grind [nQ])
  |skip
 all_goals(
  have hty:(e.op=1∨e.op=12)→nb e.ty:=by grind
  refine an (fun k:Nat=>⟨[(3,I k),(1,.c (.ptr 0 0))], [(0,Gy e)],1,0⟩) (fun k=>k≤e.args.length∧el (fun i=> ∀h:i<e.args.length,mi e.args[i].op↔vF e.op i) k) (fun k=>e.args.length-k) ⟨0, [],⟨by omega,.zero⟩,by simp[*]⟩ ?_
  repeat clear h
  have HT:=Lib.hid hty
  clear hty
  rintro k ⟨hk,hall⟩
  refine aa ?_
  by_cases hlt:k<e.args.length
  ·repeat' first|simp(disch:=omega) only[go_sem, *,ah hlt,Ex.row_eq,wrap_i64,RX]|((with_reducible apply ab)<;>intro h<;>try omega)|(refine aF (eT e.args[k]) rfl rfl ?_)|(refine aF (Ep e.op k) rfl rfl ?_)
   ·exact⟨k+1, [],⟨by omega,hall.succ fun _=>by simpa using h⟩,by omega,by simp⟩
   ·refine BD ⟨fun h=>(by cases h),fun h'=> ?_⟩
    have:=h'.2 k hlt
    simp[this]at h
  ·repeat' first|simp(disch:=omega) only[go_sem, *]|((with_reducible apply ab)<;>intro h<;>try omega)
   exact BD ⟨fun _=>⟨HT.out,fun i hi=>hall i (by omega) hi⟩,fun _=>rfl⟩)
end Go.Proofs.YthbcbaembicdbaaGreatDoor
