import Derived.Test.YthbcbaembicdbaaGreatDoorV18S
import Derived.Test.YthbcbaembicdbaaGreatDoorJBT
set_option linter.unusedVariables false
set_option linter.unusedSimpArgs false
namespace Go.Proofs.YthbcbaembicdbaaGreatDoor
open Go.ChangeShapes Go.WideShapes Go.ChangeAt Go.RowKit Go.Abs
set_option maxRecDepth 100000 in
theorem yj (os:Os) (started:os.Started) (H:Type) (enc:TypeId×Value→H):
  ReturnsInHanded {} Tryz.checked os 5 .any (λw args=>(Rows.boundsSoundSpec.pre enc Tryz.prog Tryz.f5 [] false w args∧laidMetH Tryz.prog Rows.boundsSoundRow.laid w)∧sizedMet enc Tryz.prog Tryz.f5 (OpenSpec.ofChange Rows.boundsSoundSpec) false w args)
   (Rows.boundsSoundSpec.post enc Tryz.prog Tryz.f5 false true false false):=by
 refine returnsInHanded_of_change_and (C:=Tryz.checked) (X:= λw _=>laidMetH Tryz.prog Rows.boundsSoundRow.laid w) (λ_ _ _ hh h=>h.of_heap hh) Zd started (by kernel_rfl) Tryz.func5
  (N4 os enc) ?_
 intro W base args ds gs fe hval0 hW _ hsz0 hL _
 clear hsz0
 have hval: ∀(j:Nat) t v,Tryz.f5.params[j]? =some t→args[j]? =some v→Value.okWide Tryz.prog W .any base t v:=hval0
 have hW':=hW
 obtain⟨p,q,hA0,hV,rfl,_,_⟩:=hW
 have hA:DataW.TrodAll enc Tryz.prog W 0 (λ_=>true) true Tryz.f5.params.toList args.toList ds p:=hA0
 rw[Tryz.params5]at hA hval
 obtain⟨v0,vs0,d0,ds0,p0,q0,hargs,rfl,rfl,h0,r0⟩:=trodAll_cons hA
 obtain⟨v1,vs1,d1,ds1,p1,q1,rfl,rfl,rfl,h1,r1⟩:=trodAll_cons r0
 obtain⟨rfl,rfl,rfl⟩:=trodAll_nil r1
 obtain rfl:args= #[v0,v1]:=by cases args;simp_all
 obtain⟨x0,ok0,rep0⟩:=Vl aag aa7 Tryz.underlying27 aaK (hval 0 27 v0 rfl rfl) h0
 obtain⟨x1,ok1,rep1⟩:=Xg (P:=Tryz.prog) (sf:=9) (l:= [.slice [.str,.int .i64]]) (by kernel_rfl) (hval 1 61 v1 rfl rfl) h1
 rw[show EX Tryz.prog 61=false by kernel_rfl]at rep1
 obtain⟨rfl,rfl⟩:=trodVars_none hV
 clear hA0 hval0
 refine(QX (CP ok0 ok1) (IQ hL) (.cons rep0 (.cons rep1 .nil))).mono λe W' ⟨he,hx⟩=> ?_
 subst he
 exact⟨_,rfl,TA (by kernel_rfl) rfl rfl hW' rfl rfl rfl hx⟩
theorem CJ:Rows.BoundsSoundSaid:=
 OpenClaim.holds_of_wide 5 Tryz.f5 rfl rfl rfl rfl rfl rfl rfl ⟨rfl,rfl,rfl,rfl,rfl⟩ rfl rfl rfl rfl rfl (by kernel_rfl) Tryz.func5 ZJ
  (of_decide_eq_true (by kernel_rfl)) (by unfold Func.isWrapper;first|(rw[if_pos (by decide+kernel)];kernel_rfl)|(rw[if_neg (by decide+kernel)];exact⟨rfl,rfl⟩))
  (λos started H enc _=>yj os started H enc)
theorem BoundsSound_holds:Rows.BoundsSoundCardSaid:=
 Claim7.holds_tied_plain_at .later [] [.listed, .data] true (true, "900f16b3bf2accda9b58be50477faca9f89f8b3084ed039d51e06d43e8681ba3") false
  CJ (λ_ h=>by cases h) (by kernel_rfl) (λ_ h=>by cases h) boundsSound_row_tie rfl ⟨rfl,rfl⟩ (by kernel_rfl) rfl
  (λf fn hf hfn=>by
   obtain rfl : f = 5 := Option.some.inj ((show Tryz.prog.funcNamed "brocade/brocadelaw18.BoundsSound" = some 5 by kernel_rfl).symm.trans hf) |>.symm
   obtain rfl:fn=Tryz.f5:=(Option.some.inj (Tryz.func5.symm.trans hfn)).symm
   exact⟨by kernel_rfl,λj t ht=>by
    rw[Tryz.params5]at ht
    have hm:t∈ [27,61]:=by simpa using Array.mem_of_getElem? ht
    have hall:([27,61].all λu=> !Tryz.prog.wantsStandIn u)=true:=by kernel_rfl
    exact(show Tryz.prog.wantsStandIn t=false by simpa using List.all_eq_true.1 hall t hm)⟩)
  (by kernel_rfl)
end Go.Proofs.YthbcbaembicdbaaGreatDoor
