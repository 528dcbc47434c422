import Derived.Test.YthbcbaembicdbaaGreatDoorInY
import Derived.Test.YthbcbaembicdbaaGreatDoorJBS
import Derived.Test.YthbcbaembicdbaaGreatDoorTie
import Derived.Test.YthbcbaembicdbaaGreatDoorCards
import Derived.LaidMore
import Derived.Lib.LaidTab
import Derived.SevenTiedAt
set_option linter.unusedVariables false
set_option linter.unusedSimpArgs false
namespace Go.Proofs.YthbcbaembicdbaaGreatDoor
open Go.ChangeShapes Go.WideShapes Go.ChangeAt Go.RowKit Go.Abs
theorem ZB : Tryz.prog.globalNamed "strings.asciiSpace" = some 0 := by kernel_rfl
theorem Y5:(Tryz.prog.globals[0]?).map (·.type)=some 289:=by kernel_rfl
theorem YR: ∀c,c<256→Lib.asciiSpaceTab[c]? =some (if Lib.isSp (UInt8.ofNat c)then 1 else 0):=by decide+kernel
theorem SE:(Rows.laid_strings_asciiSpace:DataW Unit)=Lib.tabData .u8 Lib.asciiSpaceTab:=by kernel_rfl
theorem IQ {W:World} (h:laidMetH Tryz.prog Rows.boundsSoundRow.laid W):mN W:=by
 rw[MakeChecks.laidMetH_plain _ _ _ (by kernel_rfl)]at h
 obtain⟨ps,⟨g0,t0,cs0,f0,p0,q0,hg0,ht0,hv0,hd0,⟨g1,t1,cs1,f1,p1,q1,hg1,ht1,hv1,hd1,_,_⟩,_⟩,_,_⟩:=h
 obtain rfl:=Option.some.inj (ZB.symm.trans hg1)
 obtain rfl:=Option.some.inj (Y5.symm.trans ht1)
 have hd2:_=some (Lib.tabData .u8 Lib.asciiSpaceTab,p1):=hd1.trans (by rw[SE])
 have hcs:=Lib.cells_of_tab (zs:=Lib.asciiSpaceTab) (k:= .u8) (n:=256) (e:=5) (by kernel_rfl) (by kernel_rfl) (by kernel_rfl) (by kernel_rfl) hd2
 intro g hg c hc
 simp only[aab,Option.some.injEq]at hg
 subst hg
 have h1:=World.var?_cell hg1 hv1 c
 rw[h1,←Array.getElem?_toList,hcs,List.getElem?_map,YR c hc]
 rfl
theorem Vb (os:Os) (args:Array Value):laidMetH Tryz.prog Rows.boundsSoundRow.laid ((World.doorLaid Tryz.prog 400 os).forCall (λ_ _=>0) ⟨#[],args, []⟩).memory:=
 laidMetH_of_parts3 (fuel:=8) (laidMet_of_run' 8 (by kernel_rfl) (by kernel_rfl)) (by kernel_rfl) (by kernel_rfl)
theorem aag:WM Tryz.prog 74 lE 9 74=some (lE.map .t++ [.ex lE]):=by kernel_rfl
theorem aaK:WM Tryz.prog 74 lE 9 27=some YO:=by kernel_rfl
theorem aa7:Tryz.prog.cellsOf 74=lE.length+1:=by kernel_rfl
set_option maxRecDepth 100000 in
theorem N4 (os:Os) {H:Type} (enc:TypeId×Value→H):
  ∃(w:World) (tape:Tape) (i:Input),w.os=os∧(w.forCall tape i).Shaped Tryz.checked.prog∧i.vars= []∧Input.okWide Tryz.checked.prog (w.forCall tape i) .any w.heap.size 5 i∧
   ((Rows.boundsSoundSpec.pre enc Tryz.checked.prog Tryz.f5 [] false (w.forCall tape i).memory i.args∧(λw (_:Array Value)=>laidMetH Tryz.prog Rows.boundsSoundRow.laid w) (w.forCall tape i).memory i.args)∧sizedMet enc Tryz.checked.prog Tryz.f5 (OpenSpec.ofChange Rows.boundsSoundSpec) false (w.forCall tape i).memory i.args)∧({modest:=false}:Assume).holds Tryz.checked.prog (lone (Frame.enter Tryz.checked.prog 5 i.args .normal) [] (w.forCall tape i)):=
 ChangeSpec.witness_shaped (enc:=enc) (C:=Tryz.checked) (os:=os) (X:= λw _=>laidMetH Tryz.prog Rows.boundsSoundRow.laid w) false (World.doorLaid Tryz.prog 400 os) #[.agg #[.slice none 0 0,.slice none 0 0,.slice none 0 0,.slice none 0 0,.slice none 0 0],.slice none 0 0] 8 rfl (World.shaped_of_RefB (by kernel_rfl) (by kernel_rfl)) (by kernel_rfl) (by kernel_rfl) (by kernel_rfl) (Vb os _)
