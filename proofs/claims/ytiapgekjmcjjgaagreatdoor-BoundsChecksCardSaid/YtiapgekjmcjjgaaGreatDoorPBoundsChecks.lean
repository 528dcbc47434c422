/- The law BoundsChecks answers true for every input, and its arguments read afterwards as before: no condition beyond those of the row. -/
import Derived.Test.YtiapgekjmcjjgaaGreatDoorVCr
import Derived.Test.YtiapgekjmcjjgaaGreatDoorJBK
import Derived.Test.YtiapgekjmcjjgaaGreatDoorTie
import Derived.Test.YtiapgekjmcjjgaaGreatDoorCards
import Derived.LaidMore
import Derived.Lib.LaidTab
import Derived.SevenTiedAt
set_option linter.unusedVariables false
set_option linter.unusedSimpArgs false
open Go.Proofs.Tryz renaming prog→Ya
namespace Go.Proofs.YtiapgekjmcjjgaaGreatDoor
open Go.ChangeShapes Go.WideShapes Go.ChangeAt Go.RowKit Go.Abs
theorem SG : Tryz.prog.globalNamed "strings.asciiSpace" = some 0 := by kernel_rfl
theorem Ti:(Tryz.prog.globals[0]?).map (·.type)=some 256:=by kernel_rfl
theorem Te: ∀c,c<256→Lib.asciiSpaceTab[c]? =some (if Lib.isSp (UInt8.ofNat c)then 1 else 0):=by decide+kernel
theorem NV:(Rows.laid_strings_asciiSpace:DataW Unit)=Lib.tabData .u8 Lib.asciiSpaceTab:=by kernel_rfl
theorem EJ {W:World} (h:laidMetH Ya Rows.boundsChecksRow.laid W):qf W:=by
 rw[MakeChecks.laidMetH_plain _ _ _ (by kernel_rfl)]at h
 obtain⟨ps,⟨g0,t0,cs0,f0,p0,q0,G,J,K,L,⟨g1,t1,cs1,f1,p1,q1,d,s,x,y,_,_⟩,_⟩,_,_⟩:=h
 obtain rfl:=Option.some.inj (SG.symm.trans d)
 obtain rfl:=Option.some.inj (Ti.symm.trans s)
 have z:_=some (Lib.tabData .u8 Lib.asciiSpaceTab,p1):=y.trans (by rw[NV])
 have A:=Lib.cells_of_tab (zs:=Lib.asciiSpaceTab) (k:= .u8) (n:=256) (e:=5) (by kernel_rfl) (by kernel_rfl) (by kernel_rfl) (by kernel_rfl) z
 intro g hg c hc
 simp only[TN,Option.some.injEq]at hg
 subst hg
 have h1:=World.var?_cell d x c
 rw[h1,←Array.getElem?_toList,A,List.getElem?_map,Te c hc]
 rfl
theorem P3 (os:Os) (args:Array Value):laidMetH Ya Rows.boundsChecksRow.laid ((World.doorLaid Ya 400 os).forCall (λ_ _=>0) ⟨#[],args, []⟩).memory:=
 laidMetH_of_parts3 (fuel:=8) (laidMet_of_run' 8 (by kernel_rfl) (by kernel_rfl)) (by kernel_rfl) (by kernel_rfl)
theorem Up:RJ Ya 55 lE 9 55=some (lE.map .t++ [.ex lE]):=by kernel_rfl
theorem Uq:RJ Ya 55 lE 9 27=some S9:=by kernel_rfl
theorem Ux:Tryz.prog.cellsOf 55=lE.length+1:=by kernel_rfl
set_option maxRecDepth 100000 in
theorem JZ (os:Os) {H:Type} (enc:TypeId×Value→H):
  ∃(w:World) (tape:Tape) (i:Input),w.os=os∧(w.forCall tape i).Shaped Tryz.checked.prog∧i.vars= []∧Input.okWide Tryz.checked.prog (w.forCall tape i) .any w.heap.size 3 i∧
   ((Rows.boundsChecksSpec.pre enc Tryz.checked.prog Tryz.f3 [] false (w.forCall tape i).memory i.args∧(λw (_:Array Value)=>laidMetH Ya Rows.boundsChecksRow.laid w) (w.forCall tape i).memory i.args)∧sizedMet enc Tryz.checked.prog Tryz.f3 (OpenSpec.ofChange Rows.boundsChecksSpec) false (w.forCall tape i).memory i.args)∧({modest:=false}:Assume).holds Tryz.checked.prog (lone (Frame.enter Tryz.checked.prog 3 i.args .normal) [] (w.forCall tape i)):=
 ChangeSpec.witness_shaped (enc:=enc) (C:=Tryz.checked) (os:=os) (X:= λw _=>laidMetH Ya Rows.boundsChecksRow.laid w) false (World.doorLaid Ya 400 os) #[.agg #[.slice none 0 0,.slice none 0 0,.slice none 0 0,.slice none 0 0,.slice none 0 0],.agg #[.int .i64 0,.int .i64 0,.int .i64 0]] 8 rfl (World.shaped_of_RefB (by kernel_rfl) (by kernel_rfl)) (by kernel_rfl) (by kernel_rfl) (by kernel_rfl) (P3 os _)
set_option maxRecDepth 100000 in
theorem sQ (os:Os) (started:os.Started) (H:Type) (enc:TypeId×Value→H):
  ReturnsInHanded {} Tryz.checked os 3 .any (λw args=>(Rows.boundsChecksSpec.pre enc Ya Tryz.f3 [] false w args∧laidMetH Ya Rows.boundsChecksRow.laid w)∧sizedMet enc Ya Tryz.f3 (OpenSpec.ofChange Rows.boundsChecksSpec) false w args)
   (Rows.boundsChecksSpec.post enc Ya Tryz.f3 false true false false):=by
 refine returnsInHanded_of_change_and (C:=Tryz.checked) (X:= λw _=>laidMetH Ya Rows.boundsChecksRow.laid w) (λ_ _ _ hh h=>h.of_heap hh) Ta started (by kernel_rfl) Tryz.func3
  (JZ os enc) ?_
 intro W base args ds gs cU a hW _ m hL _
 clear m
 have b: ∀(j:Nat) t v,Tryz.f3.params[j]? =some t→args[j]? =some v→Value.okWide Ya W .any base t v:=a
 have D:=hW
 obtain⟨p,q,o,hV,rfl,_,_⟩:=hW
 have hA:DataW.TrodAll enc Ya W 0 (λ_=>true) true Tryz.f3.params.toList args.toList ds p:=o
 rw[Tryz.params3]at hA b
 obtain⟨v0,vs0,d0,ds0,p0,q0,E,rfl,rfl,h0,r0⟩:=trodAll_cons hA
 obtain⟨v1,vs1,d1,ds1,p1,q1,rfl,rfl,rfl,h1,r1⟩:=trodAll_cons r0
 obtain⟨rfl,rfl,rfl⟩:=trodAll_nil r1
 obtain rfl:args= #[v0,v1]:=by cases args;simp_all
 obtain⟨x0,ok0,rep0⟩:=OB Up Ux Tryz.underlying27 Uq (b 0 27 v0 rfl rfl) h0
 obtain⟨x1,ok1,rep1⟩:=Qv (P:=Ya) (sf:=9) (l:= [.int .i64,.int .i64,.int .i64]) (by kernel_rfl) (b 1 29 v1 rfl rfl) h1
 rw[show zD Ya 29=true by kernel_rfl]at rep1
 obtain⟨rfl,rfl⟩:=trodVars_none hV
 clear o a
 refine(LU (xe ok0 ok1) (EJ hL) (.cons rep0 (.cons rep1 .nil))).mono λe W' ⟨he,hx⟩=> ?_
 subst he
 exact⟨_,rfl,P5 (by kernel_rfl) rfl rfl D rfl rfl rfl hx⟩
theorem wI:Rows.BoundsChecksSaid:=
 OpenClaim.holds_of_wide 3 Tryz.f3 rfl rfl rfl rfl rfl rfl rfl ⟨rfl,rfl,rfl,rfl,rfl⟩ rfl rfl rfl rfl rfl (by kernel_rfl) Tryz.func3 SR
  (of_decide_eq_true (by kernel_rfl)) (by unfold Func.isWrapper;first|(rw[if_pos (by decide+kernel)];kernel_rfl)|(rw[if_neg (by decide+kernel)];exact⟨rfl,rfl⟩))
  (λos started H enc _=>sQ os started H enc)
theorem BoundsChecks_holds:Rows.BoundsChecksCardSaid:=
 Claim7.holds_tied_plain_at .later [] [.listed, .data] true (true, "9d79ceb1d6319efb5139b415193cfb5cd9849c4076c8d99645ab7909134262af") false
  wI (λ_ h=>by cases h) (by kernel_rfl) (λ_ h=>by cases h) boundsChecks_row_tie rfl ⟨rfl,rfl⟩ (by kernel_rfl) rfl
  (λf fn hf F=>by
   obtain rfl : f = 3 := Option.some.inj ((show Tryz.prog.funcNamed "brocade/brocadelaw18.BoundsChecks" = some 3 by kernel_rfl).symm.trans hf) |>.symm
   obtain rfl:fn=Tryz.f3:=(Option.some.inj (Tryz.func3.symm.trans F)).symm
   exact⟨by kernel_rfl,λj t ht=>by
    rw[Tryz.params3]at ht
    have hm:t∈ [27,29]:=by simpa using Array.mem_of_getElem? ht
    have r:([27,29].all λu=> !Tryz.prog.wantsStandIn u)=true:=by kernel_rfl
    exact(show Tryz.prog.wantsStandIn t=false by simpa using List.all_eq_true.1 r t hm)⟩)
  (by kernel_rfl)
