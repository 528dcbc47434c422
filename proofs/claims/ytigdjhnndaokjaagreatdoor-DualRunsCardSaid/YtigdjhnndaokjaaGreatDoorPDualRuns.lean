/- The law DualRuns answers true for every input, and its arguments read afterwards as before: no condition beyond those of the row. -/
import Derived.Test.YtigdjhnndaokjaaGreatDoorW25g
import Derived.Test.YtigdjhnndaokjaaGreatDoorJBR
import Derived.Test.YtigdjhnndaokjaaGreatDoorTie
import Derived.Test.YtigdjhnndaokjaaGreatDoorCards
import Derived.LaidMore
import Derived.Lib.LaidTab
import Derived.SevenTiedAt
set_option linter.unusedVariables false
set_option linter.unusedSimpArgs false
open Go.Proofs.Tryz renaming prog→Pa0
namespace Go.Proofs.YtigdjhnndaokjaaGreatDoor
open Go.ChangeShapes Go.WideShapes Go.ChangeAt Go.RowKit Go.Abs
theorem acX : Tryz.prog.globalNamed "strings.asciiSpace" = some 0 := by kernel_rfl
theorem ac4:(Tryz.prog.globals[0]?).map (·.type)=some 314:=by kernel_rfl
theorem acP: ∀c,c<256→Lib.asciiSpaceTab[c]? =some (if Lib.isSp (UInt8.ofNat c)then 1 else 0):=by decide+kernel
theorem Yc:(Rows.laid_strings_asciiSpace:DataW Unit)=Lib.tabData .u8 Lib.asciiSpaceTab:=by kernel_rfl
theorem QE {W:World} (h:laidMetH Pa0 Rows.dualRunsRow.laid W):wY W:=by
 rw[MakeChecks.laidMetH_plain _ _ _ (by kernel_rfl)]at h
 obtain⟨ps,⟨g0,t0,cs0,f0,p0,q0,F,G,J,K,⟨g1,t1,cs1,f1,p1,q1,d,r,s,x,_,_⟩,_⟩,_,_⟩:=h
 obtain rfl:=Option.some.inj (acX.symm.trans d)
 obtain rfl:=Option.some.inj (ac4.symm.trans r)
 have y:_=some (Lib.tabData .u8 Lib.asciiSpaceTab,p1):=x.trans (by rw[Yc])
 have z:=Lib.cells_of_tab (zs:=Lib.asciiSpaceTab) (k:= .u8) (n:=256) (e:=5) (by kernel_rfl) (by kernel_rfl) (by kernel_rfl) (by kernel_rfl) y
 intro g hg c hc
 simp only[adY,Option.some.injEq]at hg
 subst hg
 have h1:=World.var?_cell d s c
 rw[h1,←Array.getElem?_toList,z,zC7,acP c hc]
 rfl
theorem YN (os:Os) (args:Array Value):laidMetH Pa0 Rows.dualRunsRow.laid ((World.doorLaid Pa0 400 os).forCall (λ_ _=>0) ⟨#[],args, []⟩).memory:=
 laidMetH_of_parts3 (fuel:=8) (laidMet_of_run' 8 (by kernel_rfl) (by kernel_rfl)) (by kernel_rfl) (by kernel_rfl)
theorem aep:shE Pa0 66 lE 9 66=some (lE.map .t++ [.ex lE]):=by kernel_rfl
theorem adN:shE Pa0 66 lE 9 31=some ab8:=by kernel_rfl
theorem aeo:Tryz.prog.cellsOf 66=lE.length+1:=by kernel_rfl
set_option maxRecDepth 100000 in
theorem Uo (os:Os) {H:Type} (enc:TypeId×Value→H):
  ∃(w:World) (tape:Tape) (i:Input),w.os=os∧(w.forCall tape i).Shaped Tryz.checked.prog∧i.vars= []∧Input.okWide Tryz.checked.prog (w.forCall tape i) .any w.heap.size 3 i∧
   ((Rows.dualRunsSpec.pre enc Tryz.checked.prog Tryz.f3 [] false (w.forCall tape i).memory i.args∧(λw (_:Array Value)=>laidMetH Pa0 Rows.dualRunsRow.laid w) (w.forCall tape i).memory i.args)∧sizedMet enc Tryz.checked.prog Tryz.f3 (OpenSpec.ofChange Rows.dualRunsSpec) false (w.forCall tape i).memory i.args)∧({modest:=false}:Assume).holds Tryz.checked.prog (lone (Frame.enter Tryz.checked.prog 3 i.args .normal) [] (w.forCall tape i)):=
 ChangeSpec.witness_shaped (enc:=enc) (C:=Tryz.checked) (os:=os) (X:= λw _=>laidMetH Pa0 Rows.dualRunsRow.laid w) false (World.doorLaid Pa0 400 os) #[.agg #[.slice none 0 0,.slice none 0 0,.slice none 0 0,.slice none 0 0,.slice none 0 0,.slice none 0 0,.slice none 0 0],.slice none 0 0] 8 rfl (World.shaped_of_RefB (by kernel_rfl) (by kernel_rfl)) (by kernel_rfl) (by kernel_rfl) (by kernel_rfl) (YN os _)
set_option maxRecDepth 100000 in
theorem IT (os:Os) (started:os.Started) (H:Type) (enc:TypeId×Value→H):
  ReturnsInHanded {} Tryz.checked os 3 .any (λw args=>(Rows.dualRunsSpec.pre enc Pa0 Tryz.f3 [] false w args∧laidMetH Pa0 Rows.dualRunsRow.laid w)∧sizedMet enc Pa0 Tryz.f3 (OpenSpec.ofChange Rows.dualRunsSpec) false w args)
   (Rows.dualRunsSpec.post enc Pa0 Tryz.f3 false true false false):=by
 refine returnsInHanded_of_change_and (C:=Tryz.checked) (X:= λw _=>laidMetH Pa0 Rows.dualRunsRow.laid w) (λ_ _ _ hh h=>h.of_heap hh) ac8 started (by kernel_rfl) Tryz.func3
  (Uo os enc) ?_
 intro W base args ds gs cd a hW _ m hL _
 clear m
 have b: ∀(j:Nat) t v,Tryz.f3.params[j]? =some t→args[j]? =some v→Value.okWide Pa0 W .any base t v:=a
 have A:=hW
 obtain⟨p,q,o,hV,rfl,_,_⟩:=hW
 have hA:DataW.TrodAll enc Pa0 W 0 (λ_=>true) true Tryz.f3.params.toList args.toList ds p:=o
 rw[Tryz.params3]at hA b
 obtain⟨v0,vs0,d0,ds0,p0,q0,D,rfl,rfl,h0,r0⟩:=trodAll_cons hA
 obtain⟨v1,vs1,d1,ds1,p1,q1,rfl,rfl,rfl,h1,r1⟩:=trodAll_cons r0
 obtain⟨rfl,rfl,rfl⟩:=trodAll_nil r1
 obtain rfl:args= #[v0,v1]:=by cases args;simp_all
 obtain⟨x0,ok0,rep0⟩:=Y7 aep aeo Tryz.underlying31 adN (b 0 31 v0 rfl rfl) h0
 obtain⟨x1,ok1,rep1⟩:=aaS (P:=Pa0) (sf:=9) (l:= [.slice lNm]) (by kernel_rfl) (b 1 29 v1 rfl rfl) h1
 rw[show KD Pa0 29=false by kernel_rfl]at rep1
 obtain⟨rfl,rfl⟩:=trodVars_none hV
 clear o a
 refine(WU (PQ ok0 ok1) (QE hL) (.cons rep0 (.cons rep1 .nil))).mono λe W' ⟨he,hx⟩=> ?_
 subst he
 exact⟨_,rfl,Y8 (by kernel_rfl) rfl rfl A rfl rfl rfl hx⟩
theorem P7:Rows.DualRunsSaid:=
 OpenClaim.holds_of_wide 3 Tryz.f3 rfl rfl rfl rfl rfl rfl rfl ⟨rfl,rfl,rfl,rfl,rfl⟩ rfl rfl rfl rfl rfl (by kernel_rfl) Tryz.func3 adg
  (zI6 (by kernel_rfl)) (by unfold Func.isWrapper;first|(rw[if_pos (by decide+kernel)];kernel_rfl)|(rw[if_neg (by decide+kernel)];exact⟨rfl,rfl⟩))
  (λos started H enc _=>IT os started H enc)
theorem dc1:OpenClaim.wfByText (OpenSpec.ofChange Rows.dualRunsSpec) Rows.dualRunsRow=true:=by kernel_rfl
theorem dc2 : Tryz.pinned.checked.prog.mainIs = some ((true, "ee80ea612166d198cbba594f84af48ef381f857bfe599bce3fdbfa3e458c0776").fst, (true, "ee80ea612166d198cbba594f84af48ef381f857bfe599bce3fdbfa3e458c0776").snd.toList) := by kernel_rfl
theorem dc3 : Tryz.prog.funcNamed "brocade/brocadelaw25.DualRuns" = some 3 := by kernel_rfl
theorem dc5:([31,29].all λu=> !Tryz.prog.wantsStandIn u)=true:=by kernel_rfl
theorem dc6:false=Rows.dualRunsRow.goesBy Tryz.pinned.checked.prog:=by kernel_rfl
theorem dc4:false=Tryz.pinned.checked.prog.looks []:=by kernel_rfl
theorem DualRuns_holds:Rows.DualRunsCardSaid:=
 Claim7.holds_tied_plain_at .later [] [.listed, .data] true (true, "ee80ea612166d198cbba594f84af48ef381f857bfe599bce3fdbfa3e458c0776") false P7 (λ_ h => by cases h) dc1 (λ_ h => by cases h) dualRuns_row_tie rfl ⟨rfl, rfl⟩ dc2 rfl
  (λf fn hf E=>by
   obtain rfl:f=3:=Option.some.inj (dc3.symm.trans hf)|>.symm
   obtain rfl:fn=Tryz.f3:=(Option.some.inj (Tryz.func3.symm.trans E)).symm
   exact⟨dc4,λj t ht=>by
    rw[Tryz.params3]at ht
    have hm:t∈ [31,29]:=by simpa using Array.mem_of_getElem? ht
    exact(show Tryz.prog.wantsStandIn t=false by simpa using zH6.1 dc5 t hm)⟩)
  dc6
