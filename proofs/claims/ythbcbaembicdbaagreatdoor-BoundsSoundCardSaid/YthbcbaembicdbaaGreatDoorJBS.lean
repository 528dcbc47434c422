import Derived.Test.YthbcbaembicdbaaGreatDoorRows
import Derived.JoinedOf
set_option linter.unusedVariables false
set_option linter.unusedSimpArgs false
namespace Go.Proofs.YthbcbaembicdbaaGreatDoor
theorem da {a b:Bool} (ha:a=true) (hb:b=true):(a&&b)=true:=by rw[ha,hb];rfl
theorem abG:(Rows.boundsSoundRow.wf (OpenSpec.ofChange Rows.boundsSoundSpec))=true:=by kernel_rfl
theorem abw:(laidOutB Tryz.pinned.checked.prog)=true:=by kernel_rfl
theorem abD:(mapsRowed Tryz.pinned.checked.prog)=true:=by kernel_rfl
theorem abP:(Tryz.f5.params.all (Tryz.pinned.checked.prog.readableRec ·))=true:=by kernel_rfl
theorem abM:(namedTie Tryz.pinned.checked.prog Rows.boundsSoundRow.named Rows.boundsSoundSpec.vars)=true:=by kernel_rfl
theorem abu:((Rows.boundsSoundRow.stops== []))=true:=by kernel_rfl
theorem abR:((Tryz.pinned.checked.prog.stops== []))=true:=by kernel_rfl
theorem abC:((Rows.boundsSoundRow.knobs== []))=true:=by kernel_rfl
theorem abK:((Tryz.pinned.checked.prog.stopKnobs== []))=true:=by kernel_rfl
theorem abI:((Rows.boundsSoundRow.inPlace==Tryz.pinned.checked.prog.inPlace 5))=true:=by kernel_rfl
theorem aaU:((Rows.boundsSoundRow.unfollowed==Tryz.pinned.checked.prog.unfollowed 5))=true:=by kernel_rfl
theorem abi:((Rows.boundsSoundRow.recurses==Tryz.pinned.checked.prog.recurses 5))=true:=by kernel_rfl
theorem aa4:((Rows.boundsSoundRow.named==Tryz.pinned.checked.prog.varsNamed 5))=true:=by kernel_rfl
theorem aaH:((Rows.boundsSoundRow.maps==(Tryz.f5.params.toList++Rows.boundsSoundSpec.plain.varTypes Tryz.pinned.checked.prog).any (Tryz.pinned.checked.prog.mapsRec ·)))=true:=by kernel_rfl
theorem Z7:((Rows.boundsSoundRow.ifaces==(Tryz.f5.params.toList++Rows.boundsSoundSpec.plain.varTypes Tryz.pinned.checked.prog).any (Tryz.pinned.checked.prog.ifacesRec ·)))=true:=by kernel_rfl
theorem aai:((Rows.boundsSoundRow.mapsOut==Tryz.pinned.checked.prog.mapsAmong Tryz.f5.resultTypes.toList))=true:=by kernel_rfl
theorem aaD:((Rows.boundsSoundRow.loops==(Tryz.f5.params.toList++Rows.boundsSoundSpec.plain.varTypes Tryz.pinned.checked.prog).any (Tryz.pinned.checked.prog.loopsFrom ·)))=true:=by kernel_rfl
theorem aaG:((Rows.boundsSoundRow.wideKeys==(Tryz.f5.params.toList++Rows.boundsSoundSpec.plain.varTypes Tryz.pinned.checked.prog++Tryz.f5.resultTypes.toList).any (Tryz.pinned.checked.prog.wideKeysFrom ·)))=true:=by kernel_rfl
theorem aaq:(Rows.boundsSoundSpec.vars.all (Tryz.pinned.checked.prog.varReadable ·))=true:=by kernel_rfl
theorem aaL:(Tryz.f5.resultTypes.all (λt=>Tryz.pinned.checked.prog.readableRec t&&decide (t<Tryz.pinned.checked.prog.types.size)))=true:=by kernel_rfl
theorem abb:((Rows.boundsSoundRow.ifacesOut==Tryz.f5.resultTypes.toList.any (Tryz.pinned.checked.prog.ifacesRec ·)))=true:=by kernel_rfl
theorem aa6:((Rows.boundsSoundRow.loopsOut==Tryz.f5.resultTypes.toList.any (Tryz.pinned.checked.prog.loopsFrom ·)))=true:=by kernel_rfl
theorem abp:((Rows.boundsSoundRow.plainKeys==Tryz.pinned.checked.prog.plainKeys))=true:=by kernel_rfl
theorem aav:(Rows.boundsSoundRow.shortTexts.isNone)=true:=by kernel_rfl
theorem aan:(Tryz.pinned.checked.prog.stopsHeard)=true:=by kernel_rfl
theorem aa1:(Tryz.pinned.checked.prog.mayEnter)=true:=by kernel_rfl
theorem aam:((Rows.boundsSoundRow.lifted==Tryz.pinned.checked.prog.liftsFinal))=true:=by kernel_rfl
theorem aaP:((Tryz.pinned.checked.prog.make==some Rows.boundsSoundRow.make))=true:=by kernel_rfl
theorem aak:((Rows.boundsSoundRow.kinds==(if Rows.boundsSoundRow.domain.isEmpty then []else Tryz.f5.params.toList.map λt=>match Tryz.pinned.checked.prog.underlying t with|some (.int k)=>some k|_=>none)))=true:=by kernel_rfl
theorem abf:((Rows.boundsSoundRow.pinned==Rows.boundsSoundRow.pinnedBy))=true:=by kernel_rfl
theorem aa0:((Rows.boundsSoundRow.veiled==(Tryz.f5.params.toList++Rows.boundsSoundSpec.plain.varTypes Tryz.pinned.checked.prog++Tryz.f5.resultTypes.toList).any (Tryz.pinned.checked.prog.veiledRec ·)))=true:=by kernel_rfl
theorem aaT:(Rows.boundsSoundRow.veiledFits Tryz.pinned.checked.prog Tryz.f5.params.toList (Tryz.f5.params.toList++Rows.boundsSoundSpec.plain.varTypes Tryz.pinned.checked.prog++Tryz.f5.resultTypes.toList))=true:=by kernel_rfl
set_option maxRecDepth 100000 in
theorem aaX {P:Program} {f:FuncId} {fn:Func} {s:ChangeSpec} {c:OpenClaim} (h0:(c.wf (OpenSpec.ofChange s))=true) (h1:(laidOutB P)=true) (h2:(mapsRowed P)=true) (h3:(fn.params.all (P.readableRec ·))=true) (h4:(namedTie P c.named s.vars)=true) (h5:((c.stops== []))=true) (h6:((P.stops== []))=true) (h7:((c.knobs== []))=true) (h8:((P.stopKnobs== []))=true) (h9:((c.inPlace==P.inPlace f))=true) (h10:((c.unfollowed==P.unfollowed f))=true) (h11:((c.recurses==P.recurses f))=true) (h12:((c.named==P.varsNamed f))=true) (h13:((c.maps==(fn.params.toList++s.plain.varTypes P).any (P.mapsRec ·)))=true) (h14:((c.ifaces==(fn.params.toList++s.plain.varTypes P).any (P.ifacesRec ·)))=true) (h15:((c.mapsOut==P.mapsAmong fn.resultTypes.toList))=true) (h16:((c.loops==(fn.params.toList++s.plain.varTypes P).any (P.loopsFrom ·)))=true) (h17:((c.wideKeys==(fn.params.toList++s.plain.varTypes P++fn.resultTypes.toList).any (P.wideKeysFrom ·)))=true) (h18:(s.vars.all (P.varReadable ·))=true) (h19:(fn.resultTypes.all (λt=>P.readableRec t&&decide (t<P.types.size)))=true) (h20:((c.ifacesOut==fn.resultTypes.toList.any (P.ifacesRec ·)))=true) (h21:((c.loopsOut==fn.resultTypes.toList.any (P.loopsFrom ·)))=true) (h22:((c.plainKeys==P.plainKeys))=true) (h23:(c.shortTexts.isNone)=true) (h24:(P.stopsHeard)=true) (h25:(P.mayEnter)=true) (h26:((c.lifted==P.liftsFinal))=true) (h27:((P.make==some c.make))=true) (h28:((c.kinds==(if c.domain.isEmpty then []else fn.params.toList.map λt=>match P.underlying t with|some (.int k)=>some k|_=>none)))=true) (h29:((c.pinned==c.pinnedBy))=true) (h30:((c.veiled==(fn.params.toList++s.plain.varTypes P++fn.resultTypes.toList).any (P.veiledRec ·)))=true) (h31:(c.veiledFits P fn.params.toList (fn.params.toList++s.plain.varTypes P++fn.resultTypes.toList))=true):joinedFacts P f fn s c=true:=by
 unfold joinedFacts
 exact(da (da (da (da (da (da (da (da (da (da (da (da (da (da (da (da (da (da (da (da (da (da (da (da (da (da (da (da (da (da (da h0 h1) h2) h3) h4) h5) h6) h7) h8) h9) h10) h11) h12) h13) h14) h15) h16) h17) h18) h19) h20) h21) h22) h23) h24) h25) h26) h27) h28) h29) h30) h31)
theorem ZJ:joinedFacts Tryz.pinned.checked.prog 5 Tryz.f5 Rows.boundsSoundSpec Rows.boundsSoundRow=true:=aaX abG abw abD abP abM abu abR abC abK abI aaU abi aa4 aaH Z7 aai aaD aaG aaq aaL abb aa6 abp aav aan aa1 aam aaP aak abf aa0 aaT
end Go.Proofs.YthbcbaembicdbaaGreatDoor
