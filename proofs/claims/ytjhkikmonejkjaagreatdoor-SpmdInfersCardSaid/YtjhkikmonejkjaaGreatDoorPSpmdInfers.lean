/- The law SpmdInfers answers true for every input, and its arguments read afterwards as before: no condition beyond those of the row. -/
import Derived.Test.YtjhkikmonejkjaaGreatDoorV54i
import Derived.Test.YtjhkikmonejkjaaGreatDoorJBN
import Derived.Test.YtjhkikmonejkjaaGreatDoorTie
import Derived.Test.YtjhkikmonejkjaaGreatDoorCards
import Derived.LaidMore
import Derived.Lib.LaidTab
import Derived.SevenTiedAt
set_option linter.unusedVariables false
set_option linter.unusedSimpArgs false
open Go.Proofs.Tryz renaming prog→Ya
namespace Go.Proofs.YtjhkikmonejkjaaGreatDoor
open Go.ChangeShapes Go.WideShapes Go.ChangeAt Go.RowKit Go.Abs
theorem Te : Tryz.prog.globalNamed "strings.asciiSpace" = some 0 := by kernel_rfl
theorem Tb:(Tryz.prog.globals[0]?).map (·.type)=some 273:=by kernel_rfl
theorem Tt: ∀c,c<256→Lib.asciiSpaceTab[c]? =some (if Lib.isSp (UInt8.ofNat c)then 1 else 0):=by decide+kernel
theorem PF:(Rows.laid_strings_asciiSpace:DataW Unit)=Lib.tabData .u8 Lib.asciiSpaceTab:=by kernel_rfl
theorem Hq {W:World} (h:laidMetH Ya Rows.spmdInfersRow.laid W):qQ W:=by
 rw[MakeChecks.laidMetH_plain _ _ _ (by kernel_rfl)]at h
 obtain⟨ps,⟨g0,t0,cs0,f0,p0,q0,G,J,K,L,⟨g1,t1,cs1,f1,p1,q1,d,s,x,y,_,_⟩,_⟩,_,_⟩:=h
 obtain rfl:=Option.some.inj (Te.symm.trans d)
 obtain rfl:=Option.some.inj (Tb.symm.trans s)
 have z:_=some (Lib.tabData .u8 Lib.asciiSpaceTab,p1):=y.trans (by rw[PF])
 have A:=Lib.cells_of_tab (zs:=Lib.asciiSpaceTab) (k:= .u8) (n:=256) (e:=5) (by kernel_rfl) (by kernel_rfl) (by kernel_rfl) (by kernel_rfl) z
 intro g hg c hc
 simp only[UE,Option.some.injEq]at hg
 subst hg
 have h1:=World.var?_cell d x c
 rw[h1,←Array.getElem?_toList,A,List.getElem?_map,Tt c hc]
 rfl
theorem OV (os:Os) (args:Array Value):laidMetH Ya Rows.spmdInfersRow.laid ((World.doorLaid Ya 400 os).forCall (λ_ _=>0) ⟨#[],args, []⟩).memory:=
 laidMetH_of_parts3 (fuel:=8) (laidMet_of_run' 8 (by kernel_rfl) (by kernel_rfl)) (by kernel_rfl) (by kernel_rfl)
theorem Vl:RL Ya 66 lE 9 66=some (lE.map .t++ [.ex lE]):=by kernel_rfl
theorem U9:RL Ya 66 lE 9 33=some S3:=by kernel_rfl
theorem VB:Tryz.prog.cellsOf 66=lE.length+1:=by kernel_rfl
set_option maxRecDepth 100000 in
theorem Lp (os:Os) {H:Type} (enc:TypeId×Value→H):
  ∃(w:World) (tape:Tape) (i:Input),w.os=os∧(w.forCall tape i).Shaped Tryz.checked.prog∧i.vars= []∧Input.okWide Tryz.checked.prog (w.forCall tape i) .any w.heap.size 3 i∧
   ((Rows.spmdInfersSpec.pre enc Tryz.checked.prog Tryz.f3 [] false (w.forCall tape i).memory i.args∧(λw (_:Array Value)=>laidMetH Ya Rows.spmdInfersRow.laid w) (w.forCall tape i).memory i.args)∧sizedMet enc Tryz.checked.prog Tryz.f3 (OpenSpec.ofChange Rows.spmdInfersSpec) false (w.forCall tape i).memory i.args)∧({modest:=false}:Assume).holds Tryz.checked.prog (lone (Frame.enter Tryz.checked.prog 3 i.args .normal) [] (w.forCall tape i)):=
 ChangeSpec.witness_shaped (enc:=enc) (C:=Tryz.checked) (os:=os) (X:= λw _=>laidMetH Ya Rows.spmdInfersRow.laid w) false (World.doorLaid Ya 400 os) #[.agg #[.slice none 0 0,.slice none 0 0],.agg #[.slice none 0 0,.slice none 0 0,.slice none 0 0,.slice none 0 0,.slice none 0 0],.slice none 0 0] 8 rfl (World.shaped_of_RefB (by kernel_rfl) (by kernel_rfl)) (by kernel_rfl) (by kernel_rfl) (by kernel_rfl) (OV os _)
set_option maxRecDepth 100000 in
theorem yQ (os:Os) (started:os.Started) (H:Type) (enc:TypeId×Value→H):
  ReturnsInHanded {} Tryz.checked os 3 .any (λw args=>(Rows.spmdInfersSpec.pre enc Ya Tryz.f3 [] false w args∧laidMetH Ya Rows.spmdInfersRow.laid w)∧sizedMet enc Ya Tryz.f3 (OpenSpec.ofChange Rows.spmdInfersSpec) false w args)
   (Rows.spmdInfersSpec.post enc Ya Tryz.f3 false true false false):=by
 refine returnsInHanded_of_change_and (C:=Tryz.checked) (X:= λw _=>laidMetH Ya Rows.spmdInfersRow.laid w) (λ_ _ _ hh h=>h.of_heap hh) T0 started (by kernel_rfl) Tryz.func3
  (Lp os enc) ?_
 intro W base args ds gs bu b hW _ m hL _
 clear m
 have a: ∀(j:Nat) t v,Tryz.f3.params[j]? =some t→args[j]? =some v→Value.okWide Ya W .any base t v:=b
 have D:=hW
 obtain⟨p,q,o,hV,rfl,_,_⟩:=hW
 have hA:DataW.TrodAll enc Ya W 0 (λ_=>true) true Tryz.f3.params.toList args.toList ds p:=o
 rw[Tryz.params3]at hA a
 obtain⟨v0,tz,d0,ds0,p0,q0,E,rfl,rfl,h0,r0⟩:=trodAll_cons hA
 obtain⟨v1,vs1,d1,ds1,p1,q1,rfl,rfl,rfl,h1,r1⟩:=trodAll_cons r0
 obtain⟨v2,vs2,d2,ds2,p2,q2,rfl,rfl,rfl,h2,r2⟩:=trodAll_cons r1
 obtain⟨rfl,rfl,rfl⟩:=trodAll_nil r2
 obtain rfl:args= #[v0,v1,v2]:=by cases args;simp_all
 obtain⟨x0,ok0,rep0⟩:=LA (P:=Ya) (sf:=9) (l:= [.slice [.int .i64],.slice [.slice [.int .i64]]]) (by kernel_rfl) (a 0 27 v0 rfl rfl) h0
 rw[show AK Ya 27=true by kernel_rfl]at rep0
 obtain⟨x1,ok1,rep1⟩:=Qz Vl VB Tryz.underlying33 U9 (a 1 33 v1 rfl rfl) h1
 obtain⟨x2,ok2,rep2⟩:=LA (P:=Ya) (sf:=9) (l:= [.slice [.str,.int .i64]]) (by kernel_rfl) (a 2 34 v2 rfl rfl) h2
 rw[show AK Ya 34=false by kernel_rfl]at rep2
 obtain⟨rfl,rfl⟩:=trodVars_none hV
 clear o b
 refine(NS (Cx ok0 ok1 ok2) (Hq hL) (.cons rep0 (.cons rep1 (.cons rep2 .nil)))).mono λe W' ⟨he,hx⟩=> ?_
 subst he
 exact⟨_,rfl,PO (by kernel_rfl) rfl rfl D rfl rfl rfl hx⟩
theorem CI:Rows.SpmdInfersSaid:=
 OpenClaim.holds_of_wide 3 Tryz.f3 rfl rfl rfl rfl rfl rfl rfl ⟨rfl,rfl,rfl,rfl,rfl⟩ rfl rfl rfl rfl rfl (by kernel_rfl) Tryz.func3 Tc
  (of_decide_eq_true (by kernel_rfl)) (by unfold Func.isWrapper;first|(rw[if_pos (by decide+kernel)];kernel_rfl)|(rw[if_neg (by decide+kernel)];exact⟨rfl,rfl⟩))
  (λos started H enc _=>yQ os started H enc)
theorem SpmdInfers_holds:Rows.SpmdInfersCardSaid:=
 Claim7.holds_tied_plain_at .later [] [.listed, .data] true (true, "a6424b78514083ad1e044613bd3883ed9b2a6d853e246d80c89780f480a3ec7b") false
  CI (λ_ h=>by cases h) (by kernel_rfl) (λ_ h=>by cases h) spmdInfers_row_tie rfl ⟨rfl,rfl⟩ (by kernel_rfl) rfl
  (λf fn hf F=>by
   obtain rfl : f = 3 := Option.some.inj ((show Tryz.prog.funcNamed "brocade/brocadelaw54.SpmdInfers" = some 3 by kernel_rfl).symm.trans hf) |>.symm
   obtain rfl:fn=Tryz.f3:=(Option.some.inj (Tryz.func3.symm.trans F)).symm
   exact⟨by kernel_rfl,λj t ht=>by
    rw[Tryz.params3]at ht
    have hm:t∈ [27,33,34]:=by simpa using Array.mem_of_getElem? ht
    have r:([27,33,34].all λu=> !Tryz.prog.wantsStandIn u)=true:=by kernel_rfl
    exact(show Tryz.prog.wantsStandIn t=false by simpa using List.all_eq_true.1 r t hm)⟩)
  (by kernel_rfl)
end Go.Proofs.YtjhkikmonejkjaaGreatDoor
