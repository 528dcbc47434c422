import Derived.Test.YthbcbaembicdbaaGreatDoorV18PZ
import Derived.Test.YthbcbaembicdbaaGreatDoorJBP
import Derived.Test.YthbcbaembicdbaaGreatDoorTie
import Derived.Test.YthbcbaembicdbaaGreatDoorCards
import Derived.LaidMore
import Derived.Lib.LaidTab
import Derived.SevenTiedAt
set_option linter.unusedVariables false
set_option linter.unusedSimpArgs false
namespace Go.Proofs.YthbcbaembicdbaaGreatDoor
open Go.ChangeShapes Go.WideShapes Go.ChangeAt Go.RowKit Go.Abs
theorem aaz : Tryz.prog.globalNamed "strings.asciiSpace" = some 0 := by kernel_rfl
theorem aaE:(Tryz.prog.globals[0]?).map (·.type)=some 289:=by kernel_rfl
theorem Z4: ∀c,c<256→Lib.asciiSpaceTab[c]? =some (if Lib.isSp (UInt8.ofNat c)then 1 else 0):=by decide+kernel
theorem WJ:(Rows.laid_strings_asciiSpace:DataW Unit)=Lib.tabData .u8 Lib.asciiSpaceTab:=by kernel_rfl
theorem Lu {W:World} (h:laidMetH Tryz.prog Rows.boundsProvesRow.laid W):rS W:=by
 rw[MakeChecks.laidMetH_plain _ _ _ (by kernel_rfl)]at h
 obtain⟨ps,⟨g0,t0,cs0,f0,p0,q0,hg0,ht0,hv0,hd0,⟨g1,t1,cs1,f1,p1,q1,hg1,ht1,hv1,hd1,_,_⟩,_⟩,_,_⟩:=h
 obtain rfl:=Option.some.inj (aaz.symm.trans hg1)
 obtain rfl:=Option.some.inj (aaE.symm.trans ht1)
 have hd2:_=some (Lib.tabData .u8 Lib.asciiSpaceTab,p1):=hd1.trans (by rw[WJ])
 have hcs:=Lib.cells_of_tab (zs:=Lib.asciiSpaceTab) (k:= .u8) (n:=256) (e:=5) (by kernel_rfl) (by kernel_rfl) (by kernel_rfl) (by kernel_rfl) hd2
 intro g hg c hc
 simp only[abj,Option.some.injEq]at hg
 subst hg
 have h1:=World.var?_cell hg1 hv1 c
 rw[h1,←Array.getElem?_toList,hcs,List.getElem?_map,Z4 c hc]
 rfl
theorem UK (os:Os) (args:Array Value):laidMetH Tryz.prog Rows.boundsProvesRow.laid ((World.doorLaid Tryz.prog 400 os).forCall (fun _ _=>0) ⟨#[],args, []⟩).memory:=
 laidMetH_of_parts3 (fuel:=8) (laidMet_of_run' 8 (by kernel_rfl) (by kernel_rfl)) (by kernel_rfl) (by kernel_rfl)
theorem ab7:X3 Tryz.prog 74 lE 9 74=some (lE.map .t++ [.ex lE]):=by kernel_rfl
theorem abs:X3 Tryz.prog 74 lE 9 27=some aah:=by kernel_rfl
theorem abp:Tryz.prog.cellsOf 74=lE.length+1:=by kernel_rfl
set_option maxRecDepth 100000 in
theorem QH (os:Os) {H:Type} (enc:TypeId×Value→H):
  ∃(w:World) (tape:Tape) (i:Input),w.os=os∧(w.forCall tape i).Shaped Tryz.checked.prog∧i.vars= []∧Input.okWide Tryz.checked.prog (w.forCall tape i) .any w.heap.size 3 i∧
   ((Rows.boundsProvesSpec.pre enc Tryz.checked.prog Tryz.f3 [] false (w.forCall tape i).memory i.args∧(fun w (_:Array Value)=>laidMetH Tryz.prog Rows.boundsProvesRow.laid w) (w.forCall tape i).memory i.args)∧sizedMet enc Tryz.checked.prog Tryz.f3 (OpenSpec.ofChange Rows.boundsProvesSpec) false (w.forCall tape i).memory i.args)∧({modest:=false}:Assume).holds Tryz.checked.prog (lone (Frame.enter Tryz.checked.prog 3 i.args .normal) [] (w.forCall tape i)):=
 ChangeSpec.witness_shaped (enc:=enc) (C:=Tryz.checked) (os:=os) (X:=fun w _=>laidMetH Tryz.prog Rows.boundsProvesRow.laid w) false (World.doorLaid Tryz.prog 400 os) #[.agg #[.slice none 0 0,.slice none 0 0,.slice none 0 0,.slice none 0 0,.slice none 0 0],.int .i64 0] 8 rfl (World.shaped_of_RefB (by kernel_rfl) (by kernel_rfl)) (by kernel_rfl) (by kernel_rfl) (by kernel_rfl) (UK os _)
set_option maxRecDepth 100000 in
theorem wV (os:Os) (started:os.Started) (H:Type) (enc:TypeId×Value→H):
  ReturnsInHanded {} Tryz.checked os 3 .any (fun w args=>(Rows.boundsProvesSpec.pre enc Tryz.prog Tryz.f3 [] false w args∧laidMetH Tryz.prog Rows.boundsProvesRow.laid w)∧sizedMet enc Tryz.prog Tryz.f3 (OpenSpec.ofChange Rows.boundsProvesSpec) false w args)
   (Rows.boundsProvesSpec.post enc Tryz.prog Tryz.f3 false true false false):=by
 refine returnsInHanded_of_change_and (C:=Tryz.checked) (X:=fun w _=>laidMetH Tryz.prog Rows.boundsProvesRow.laid w) (fun _ _ _ hh h=>h.of_heap hh) Z8 started (by kernel_rfl) Tryz.func3
  (QH os enc) ?_
 intro W base args ds gs cM hval0 hW _ hsz0 hL _
 clear hsz0
 have hval: ∀(j:Nat) t v,Tryz.f3.params[j]? =some t→args[j]? =some v→Value.okWide Tryz.prog W .any base t v:=hval0
 have hW':=hW
 obtain⟨p,q,hA0,hV,rfl,_,_⟩:=hW
 have hA:DataW.TrodAll enc Tryz.prog W 0 (fun _=>true) true Tryz.f3.params.toList args.toList ds p:=hA0
 rw[Tryz.params3]at hA hval
 obtain⟨v0,vs0,d0,ds0,p0,q0,hargs,rfl,rfl,h0,r0⟩:=trodAll_cons hA
 obtain⟨v1,vs1,d1,ds1,p1,q1,rfl,rfl,rfl,h1,r1⟩:=trodAll_cons r0
 obtain⟨rfl,rfl,rfl⟩:=trodAll_nil r1
 obtain rfl:args= #[v0,v1]:=by cases args;simp_all
 obtain⟨x0,ok0,rep0⟩:=WS ab7 abp Tryz.underlying27 abs (hval 0 27 v0 rfl rfl) h0
 obtain⟨x1,ok1,rep1⟩:=Zg (P:=Tryz.prog) (sf:=9) (l:= [.int .i64]) (by kernel_rfl) (hval 1 3 v1 rfl rfl) h1
 rw[show Gm Tryz.prog 3=false by kernel_rfl]at rep1
 obtain⟨rfl,rfl⟩:=trodVars_none hV
 clear hA0 hval0
 refine(TG (CJ ok0 ok1) (Lu hL) (.cons rep0 (.cons rep1 .nil))).mono fun e W' ⟨he,hx⟩=> ?_
 subst he
 exact⟨_,rfl,UA (by kernel_rfl) rfl rfl hW' rfl rfl rfl hx⟩
theorem BZ:Rows.BoundsProvesSaid:=
 OpenClaim.holds_of_wide 3 Tryz.f3 rfl rfl rfl rfl rfl rfl rfl ⟨rfl,rfl,rfl,rfl,rfl⟩ rfl rfl rfl rfl rfl (by kernel_rfl) Tryz.func3 Q7
  (of_decide_eq_true (by kernel_rfl)) (by unfold Func.isWrapper;first|(rw[if_pos (by decide+kernel)];kernel_rfl)|(rw[if_neg (by decide+kernel)];exact⟨rfl,rfl⟩))
  (fun os started H enc _=>wV os started H enc)
theorem BoundsProves_holds:Rows.BoundsProvesCardSaid:=
 Claim7.holds_tied_plain_at .later [] [.listed, .data] true (true, "900f16b3bf2accda9b58be50477faca9f89f8b3084ed039d51e06d43e8681ba3") false
  BZ (fun _ h=>by cases h) (by kernel_rfl) (fun _ h=>by cases h) boundsProves_row_tie rfl ⟨rfl,rfl⟩ (by kernel_rfl) rfl
  (fun f fn hf hfn=>by
   obtain rfl : f = 3 := Option.some.inj ((show Tryz.prog.funcNamed "brocade/brocadelaw18.BoundsProves" = some 3 by kernel_rfl).symm.trans hf) |>.symm
   obtain rfl:fn=Tryz.f3:=(Option.some.inj (Tryz.func3.symm.trans hfn)).symm
   exact⟨by kernel_rfl,fun j t ht=>by
    rw[Tryz.params3]at ht
    have hm:t∈ [27,3]:=by simpa using Array.mem_of_getElem? ht
    have hall:([27,3].all fun u=> !Tryz.prog.wantsStandIn u)=true:=by kernel_rfl
    exact(show Tryz.prog.wantsStandIn t=false by simpa using List.all_eq_true.1 hall t hm)⟩)
  (by kernel_rfl)
end Go.Proofs.YthbcbaembicdbaaGreatDoor
