/- The law BoundsSizes answers true for every input, and its arguments read afterwards as before: no condition beyond those of the row. -/
import Derived.Test.YthkaaahphlneiaaGreatDoorInY
import Derived.Test.YthkaaahphlneiaaGreatDoorVEl
import Derived.Test.YthkaaahphlneiaaGreatDoorJBD
import Derived.Test.YthkaaahphlneiaaGreatDoorLaw
import Derived.Test.YthkaaahphlneiaaGreatDoorTie
import Derived.Test.YthkaaahphlneiaaGreatDoorCards
import Derived.LaidMore
import Derived.Lib.LaidTab
import Derived.SevenTiedAt
set_option linter.unusedVariables false
set_option linter.unusedSimpArgs false
namespace Go.Proofs.YthkaaahphlneiaaGreatDoor
open Go.ChangeShapes Go.WideShapes Go.ChangeAt Go.RowKit Go.Abs
theorem WT : Tryz.prog.globalNamed "strings.asciiSpace" = some 0 := by kernel_rfl
theorem WW:(Tryz.prog.globals[0]?).map (·.type)=some 275:=by kernel_rfl
theorem WE: ∀c,c<256→Lib.asciiSpaceTab[c]? =some (if Lib.isSp (UInt8.ofNat c)then 1 else 0):=by decide+kernel
theorem Qq:(Rows.laid_strings_asciiSpace:DataW Unit)=Lib.tabData .u8 Lib.asciiSpaceTab:=by kernel_rfl
theorem IQ {W:World} (h:laidMetH Tryz.prog Rows.boundsSizesRow.laid W):me W:=by
 rw[MakeChecks.laidMetH_plain _ _ _ (by kernel_rfl)]at h
 obtain⟨ps,⟨g0,t0,cs0,f0,p0,q0,hg0,ht0,hv0,hd0,⟨g1,t1,cs1,f1,p1,q1,hg1,ht1,hv1,hd1,_,_⟩,_⟩,_,_⟩:=h
 obtain rfl:=Option.some.inj (WT.symm.trans hg1)
 obtain rfl:=Option.some.inj (WW.symm.trans ht1)
 have hd2:_=some (Lib.tabData .u8 Lib.asciiSpaceTab,p1):=hd1.trans (by rw[Qq])
 have hcs:=Lib.cells_of_tab (zs:=Lib.asciiSpaceTab) (k:= .u8) (n:=256) (e:=5) (by kernel_rfl) (by kernel_rfl) (by kernel_rfl) (by kernel_rfl) hd2
 intro g hg c hc
 simp only[Xz,Option.some.injEq]at hg
 subst hg
 have h1:=World.var?_cell hg1 hv1 c
 rw[h1,←Array.getElem?_toList,hcs,List.getElem?_map,WE c hc]
 rfl
theorem Rt (os:Os) (args:Array Value):laidMetH Tryz.prog Rows.boundsSizesRow.laid ((World.doorLaid Tryz.prog 400 os).forCall (fun _ _=>0) ⟨#[],args, []⟩).memory:=
 laidMetH_of_parts3 (fuel:=8) (laidMet_of_run' 8 (by kernel_rfl) (by kernel_rfl)) (by kernel_rfl) (by kernel_rfl)
theorem XE:UP Tryz.prog 48 lE 9 48=some (lE.map .t++ [.ex lE]):=by kernel_rfl
theorem XC:UP Tryz.prog 48 lE 9 27=some Wj:=by kernel_rfl
theorem Ym:Tryz.prog.cellsOf 48=lE.length+1:=by kernel_rfl
set_option maxRecDepth 100000 in
theorem MC (os:Os) {H:Type} (enc:TypeId×Value→H):
  ∃(w:World) (tape:Tape) (i:Input),w.os=os∧(w.forCall tape i).Shaped Tryz.checked.prog∧i.vars= []∧Input.okWide Tryz.checked.prog (w.forCall tape i) .any w.heap.size 3 i∧
   ((Rows.boundsSizesSpec.pre enc Tryz.checked.prog Tryz.f3 [] false (w.forCall tape i).memory i.args∧(fun w (_:Array Value)=>laidMetH Tryz.prog Rows.boundsSizesRow.laid w) (w.forCall tape i).memory i.args)∧sizedMet enc Tryz.checked.prog Tryz.f3 (OpenSpec.ofChange Rows.boundsSizesSpec) false (w.forCall tape i).memory i.args)∧({modest:=false}:Assume).holds Tryz.checked.prog (lone (Frame.enter Tryz.checked.prog 3 i.args .normal) [] (w.forCall tape i)):=
 ChangeSpec.witness_shaped (enc:=enc) (C:=Tryz.checked) (os:=os) (X:=fun w _=>laidMetH Tryz.prog Rows.boundsSizesRow.laid w) false (World.doorLaid Tryz.prog 400 os) #[.agg #[.slice none 0 0,.slice none 0 0,.slice none 0 0,.slice none 0 0,.slice none 0 0],.slice none 0 0] 8 rfl (World.shaped_of_RefB (by kernel_rfl) (by kernel_rfl)) (by kernel_rfl) (by kernel_rfl) (by kernel_rfl) (Rt os _)
set_option maxRecDepth 100000 in
theorem xF (os:Os) (started:os.Started) (H:Type) (enc:TypeId×Value→H):
  ReturnsInHanded {} Tryz.checked os 3 .any (fun w args=>(Rows.boundsSizesSpec.pre enc Tryz.prog Tryz.f3 [] false w args∧laidMetH Tryz.prog Rows.boundsSizesRow.laid w)∧sizedMet enc Tryz.prog Tryz.f3 (OpenSpec.ofChange Rows.boundsSizesSpec) false w args)
   (Rows.boundsSizesSpec.post enc Tryz.prog Tryz.f3 false true false false):=by
 refine returnsInHanded_of_change_and (C:=Tryz.checked) (X:=fun w _=>laidMetH Tryz.prog Rows.boundsSizesRow.laid w) (fun _ _ _ hh h=>h.of_heap hh) Wl started (by kernel_rfl) Tryz.func3
  (MC os enc) ?_
 intro W base args ds gs ce hval0 hW _ hsz0 hL _
 clear hsz0
 have hval: ∀(j:Nat) t v,Tryz.f3.params[j]? =some t→args[j]? =some v→Value.okWide Tryz.prog W .any base t v:=hval0
 have hW':=hW
 obtain⟨p,q,hA0,hV,rfl,_,_⟩:=hW
 have hA:DataW.TrodAll enc Tryz.prog W 0 (fun _=>true) true Tryz.f3.params.toList args.toList ds p:=hA0
 rw[Tryz.params3]at hA hval
 obtain⟨v0,vs0,d0,ds0,p0,q0,hargs,rfl,rfl,h0,r0⟩:=trodAll_cons hA
 obtain⟨v1,vs1,d1,ds1,p1,q1,rfl,rfl,rfl,h1,r1⟩:=trodAll_cons r0
 obtain⟨rfl,rfl,rfl⟩:=trodAll_nil r1
 obtain rfl:args= #[v0,v1]:=by cases args;simp_all
 obtain⟨x0,ok0,rep0⟩:=Qv XE Ym Tryz.underlying27 XC (hval 0 27 v0 rfl rfl) h0
 obtain⟨x1,ok1,rep1⟩:=UD (P:=Tryz.prog) (sf:=9) (l:= [.slice [.str,.int .i64]]) (by kernel_rfl) (hval 1 28 v1 rfl rfl) h1
 rw[show Fz Tryz.prog 28=false by kernel_rfl]at rep1
 obtain⟨rfl,rfl⟩:=trodVars_none hV
 clear hA0 hval0
 refine(Qf (Cv ok0 ok1) (IQ hL) (.cons rep0 (.cons rep1 .nil))).mono fun e W' ⟨he,hx⟩=> ?_
 subst he
 exact⟨_,rfl,Qz (by kernel_rfl) rfl rfl hW' rfl rfl rfl hx⟩
theorem Cz:Rows.BoundsSizesSaid:=
 OpenClaim.holds_of_wide 3 Tryz.f3 rfl rfl rfl rfl rfl rfl rfl ⟨rfl,rfl,rfl,rfl,rfl⟩ rfl rfl rfl rfl rfl (by kernel_rfl) Tryz.func3 WI
  (of_decide_eq_true (by kernel_rfl)) (by unfold Func.isWrapper;first|(rw[if_pos (by decide+kernel)];kernel_rfl)|(rw[if_neg (by decide+kernel)];exact⟨rfl,rfl⟩))
  (fun os started H enc _=>xF os started H enc)
theorem BoundsSizes_holds:Rows.BoundsSizesCardSaid:=
 Claim7.holds_tied_plain_at .later [] [.listed, .data] true (true, "6aaeb532108329ca4a8f7494dc8ea30055125d93296309dfdc986021c10c32db") false
  Cz (fun _ h=>by cases h) (by kernel_rfl) (fun _ h=>by cases h) boundsSizes_row_tie rfl ⟨rfl,rfl⟩ (by kernel_rfl) rfl
  (fun f fn hf hfn=>by
   obtain rfl : f = 3 := Option.some.inj ((show Tryz.prog.funcNamed "brocade/brocadelaw18.BoundsSizes" = some 3 by kernel_rfl).symm.trans hf) |>.symm
   obtain rfl:fn=Tryz.f3:=(Option.some.inj (Tryz.func3.symm.trans hfn)).symm
   exact⟨by kernel_rfl,fun j t ht=>by
    rw[Tryz.params3]at ht
    have hm:t∈ [27,28]:=by simpa using Array.mem_of_getElem? ht
    have hall:([27,28].all fun u=> !Tryz.prog.wantsStandIn u)=true:=by kernel_rfl
    exact(show Tryz.prog.wantsStandIn t=false by simpa using List.all_eq_true.1 hall t hm)⟩)
  (by kernel_rfl)
end Go.Proofs.YthkaaahphlneiaaGreatDoor
