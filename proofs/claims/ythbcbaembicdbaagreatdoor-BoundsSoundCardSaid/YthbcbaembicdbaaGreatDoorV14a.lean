import Derived.Test.YthbcbaembicdbaaGreatDoorP17
set_option maxHeartbeats 4000000
set_option linter.unusedVariables false
set_option linter.unusedSimpArgs false
set_option maxRecDepth 1000000
namespace Go.Proofs.YthbcbaembicdbaaGreatDoor
open Go.Abs Go.RowKit
theorem gy (e:Ex):af Tryz.prog nn [j5 e] (Go.Abs.B (decide (vr e.op))):=by
 refine af.of wt (by simp) λhb=>aa ?_
 simp only[nC]
 repeat' first|simp(disch:=omega) only[go_sem, *]|((with_reducible apply ab)<;>intro h<;>try omega)
 all_goals simp[vr, *]
theorem yL (o:Int):af Tryz.prog so [I o] (I (nG o)):=by
 refine af.of Ae (by simp) λhb=>aa ?_
 simp only[sB]
 repeat' first|simp(disch:=omega) only[go_sem, *]|((with_reducible apply ab)<;>intro h<;>try omega)
 all_goals simp[nG, *]
theorem ng (o:Int) (i:Nat):af Tryz.prog iw [I o,I i] (Go.Abs.B (decide (Du o i))):=by
 refine af.of od (by simp) λhb=>aa ?_
 simp only[il]
 repeat' first|simp(disch:=omega) only[go_sem, *]|((with_reducible apply ab)<;>intro h<;>try omega)
 all_goals(simp[Du, *]<;>omega)
theorem sr (l:bU):af Tryz.prog xn [dR l.1 l.2] (Go.Abs.B (decide (QW l))):=by
 refine af.of F5 (by simp) λhb=>aa ?_
 simp only[wR]
 repeat' first|simp(disch:=omega) only[go_sem, *]|((with_reducible apply ab)<;>intro h<;>try omega)
 all_goals simp_all [QW]
theorem wu (x:Ix):af Tryz.prog oq [aIx x] (Go.Abs.B (decide (S6 x))):=by
 refine af.of yo (by simp) λhb=>aa ?_
 simp only[o7]
 repeat' first|simp(disch:=omega) only[go_sem, *]|((with_reducible apply ab)<;>intro h<;>try omega)|(refine aY (sr x.1) rfl rfl ?_)
 all_goals(refine BD ?_;simp[S6, *]<;>omega)
theorem N3 {α:Type} {f:α→List PC} {l:List α} {r:List AV} (h:ol (gG f l::r)):l.length≤9223372036854775807:=by
 have:=h.1
 simpa[iI,jt]using this
def Uw (f:FuncId) (p:Ix→Prop):Prop:= ∀x:Ix,af Tryz.prog f [aIx x] (Go.Abs.B (re (p x)))
theorem qg {f:FuncId} {p:Ix→Prop} (hf:Uw f p) (xs:List Ix):af Tryz.prog dL [gG fQ xs,.c (.clo f [])] (I (ny p xs)):=by
 refine af.of gf (by simp) λhb=>aa ?_
 have hl:=N3 hb
 simp only[dI]
 repeat' first|simp(disch:=omega) only[go_sem, *]|((with_reducible apply ab)<;>intro h<;>try omega)
 refine ap (λk:Nat=>⟨[(0,gG fQ xs),(1,.c (.clo f [])),(7,I xs.length),(8,I k)], [],0,0⟩) (λk=>k≤xs.length∧fY (λj=> ∀h:j<xs.length,¬p xs[j]) k) (λk=>xs.length-k) ⟨0, [],⟨by omega,.zero⟩,by simp⟩ ?_
 rintro k ⟨hk,hall⟩
 refine aa ?_
 by_cases hlt:k<xs.length
 ·repeat' first|simp(disch:=omega) only[go_sem, *,ai hlt,fQ,wrap_i64]|((with_reducible apply ab)<;>intro h<;>try omega)|(refine aY (hf _) rfl rfl ?_)
  ·rw[yS hlt h λj hj=>hall j hj (by omega)]
  ·exact⟨k+1, [],⟨by omega,hall.succ λ_=>h⟩,by omega,by simp⟩
 ·repeat' first|simp(disch:=omega) only[go_sem, *]|((with_reducible apply ab)<;>intro h<;>try omega)
  rw[rf λj hj=>hall j (by omega) hj]
theorem dX {f:FuncId} {p:Ix→Prop} (hf:Uw f p) (xs:List Ix):af Tryz.prog dq [gG fQ xs,.c (.clo f [])] (Go.Abs.B (re (∃x∈xs,p x))):=by
 refine af.of fq (by simp) λhb=>aa ?_
 simp only[dt]
 repeat' first|simp(disch:=omega) only[go_sem, *]|((with_reducible apply ab)<;>intro h<;>try omega)|(refine aY (qg hf xs) rfl rfl ?_)
 exact BC (by rw[decide_eq_true_iff];exact LH)
theorem zk:Uw sO (λx=> ¬S6 x):=by
 intro x
 refine af.of Bc (by simp) λhb=>aa ?_
 simp only[sN]
 repeat' first|simp(disch:=omega) only[go_sem, *]|((with_reducible apply ab)<;>intro h<;>try omega)|(refine aY (wu x) rfl rfl ?_)
 all_goals exact BC (by simp[*])
theorem CU:Uw xl (λx=>6<x.2.2.length):=by
 intro x
 refine af.of EL (by simp) λhb=>aa ?_
 simp only[xo]
 repeat' first|simp(disch:=omega) only[go_sem, *]|((with_reducible apply ab)<;>intro h<;>try omega)
 all_goals exact BC (by simp<;>omega)
theorem eE (e:Ex):af Tryz.prog xy [j5 e] (Go.Abs.B (decide (wL e))):=by
 refine af.of Fa (by simp) λhb=>aa ?_
 conv in w3=>cbv
 repeat' first|simp(disch:=omega) only[go_sem, *]|((with_reducible apply ab)<;>intro h<;>try omega)|(refine aY (sr e.lin) rfl rfl ?_)|(refine aY (dX zk e.idx) rfl rfl ?_)
 all_goals(refine BD ?_;clear hb;simp only[Bool.not_eq_true',M6,Oj,reduceCtorEq,false_iff,true_iff,not_exists,not_and,Classical.not_not,decide_eq_true_iff,decide_eq_false_iff_not];first|done|grind [wL])
theorem kM (e:Ex):af Tryz.prog BG [j5 e] (Go.Abs.B (decide (B9 e))):=by
 refine af.of Js (by simp) λhb=>aa ?_
 simp only[BK]
 repeat' first|simp(disch:=omega) only[go_sem, *]|((with_reducible apply ab)<;>intro h<;>try omega)|(refine aY (yL e.op) rfl rfl ?_)|(refine aY (dX CU e.idx) rfl rfl ?_)
 all_goals(refine BD ?_;clear hb;simp only[Bool.not_eq_true',M6,Oj,reduceCtorEq,false_iff,true_iff,not_exists,not_and,Classical.not_not,decide_eq_true_iff,decide_eq_false_iff_not];first|done|grind [B9])
theorem qr {e:Ex} {r:List AV} (h:ol (j5 e::r)):e.args.length≤9223372036854775807∧e.idx.length≤9223372036854775807:=by
 have:=h.1
 simp[iI,sR,jt]at this
 omega
abbrev R2 (e:Ex):aU:= .var [.pure (pI e.op),.pure (pS e.name),.pure (pI e.val.1),.pure (pI e.val.2),.pure (pI e.ty.1),.pure (pI e.ty.2.1),.pure (pI e.ty.2.2.1),.pure (pI e.ty.2.2.2.1),.pure (pI e.ty.2.2.2.2),.pure (pI e.lin.1),.pure (aw e.lin.2),.pure (dg fQ e.idx),.pure (.slice (e.args.map Ex.row))]
theorem nM (e:Ex):af Tryz.prog y3 [j5 e] (Go.Abs.B (decide (uU e))):=by
 refine af.of Gr (by simp) λhb=>aa ?_
 have hl:=(qr hb).1
 conv in yX=>cbv
 repeat' first|simp(disch:=omega) only[go_sem, *]|((with_reducible apply ab)<;>intro h<;>try omega)|(refine aY (ee e.ty) rfl rfl ?_)
 all_goals first
  |(refine BD ?_;clear hb;simp only[Bool.not_eq_true',M6,Oj,reduceCtorEq,false_iff,true_iff,not_exists,not_and,Classical.not_not,decide_eq_true_iff,decide_eq_false_iff_not];first|done|grind [uU])
  |skip
 all_goals(
  have hty:(e.op=1∨e.op=12)→uz e.ty:=by grind
  refine ap (λk:Nat=>⟨[(22,I k),(21,I e.args.length),(20,.c (.pure (.slice (e.args.map Ex.row)))),(1,.c (.ptr 0 0))], [(0,R2 e)],1,0⟩) (λk=>k≤e.args.length∧fY (λi=> ∀h:i<e.args.length,vr e.args[i].op↔Du e.op i) k) (λk=>e.args.length-k) ⟨0, [],⟨by omega,.zero⟩,by simp[*]⟩ ?_
  repeat clear h
  have HT:=Lib.hid hty
  clear hty
  rintro k ⟨hk,hall⟩
  refine aa ?_
  by_cases hlt:k<e.args.length
  ·repeat' first|simp(disch:=omega) only[go_sem, *,ai hlt,Ex.row_eq,wrap_i64,Yu]|((with_reducible apply ab)<;>intro h<;>try omega)|(refine aY (gy e.args[k]) rfl rfl ?_)|(refine aY (ng e.op k) rfl rfl ?_)
   ·exact⟨k+1, [],⟨by omega,hall.succ λ_=>by simpa using h⟩,by omega,by simp⟩
   ·refine BD ⟨λh=>(by cases h),λh'=> ?_⟩
    have:=h'.2 k hlt
    simp[this]at h
  ·repeat' first|simp(disch:=omega) only[go_sem, *]|((with_reducible apply ab)<;>intro h<;>try omega)
   exact BD ⟨λ_=>⟨HT.out,λi hi=>hall i (by omega) hi⟩,λ_=>rfl⟩)
end Go.Proofs.YthbcbaembicdbaaGreatDoor
