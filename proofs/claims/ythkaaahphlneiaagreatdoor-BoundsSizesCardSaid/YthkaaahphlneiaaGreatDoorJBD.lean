import Derived.Test.YthkaaahphlneiaaGreatDoorRows
import Derived.JoinedOf
set_option linter.unusedVariables false
set_option linter.unusedSimpArgs false
namespace Go.Proofs.YthkaaahphlneiaaGreatDoor
theorem cY {a b:Bool} (ha:a=true) (hb:b=true):(a&&b)=true:=by rw[ha,hb];rfl
theorem Za:(Rows.boundsSizesRow.wf (OpenSpec.ofChange Rows.boundsSizesSpec))=true:=by kernel_rfl
theorem YS:(laidOutB Tryz.pinned.checked.prog)=true:=by kernel_rfl
theorem YI:(mapsRowed Tryz.pinned.checked.prog)=true:=by kernel_rfl
theorem YK:(Tryz.f3.params.all (Tryz.pinned.checked.prog.readableRec ·))=true:=by kernel_rfl
theorem YP:(namedTie Tryz.pinned.checked.prog Rows.boundsSizesRow.named Rows.boundsSizesSpec.vars)=true:=by kernel_rfl
theorem YU:((Rows.boundsSizesRow.stops== []))=true:=by kernel_rfl
theorem Y5:((Tryz.pinned.checked.prog.stops== []))=true:=by kernel_rfl
theorem Y2:((Rows.boundsSizesRow.knobs== []))=true:=by kernel_rfl
theorem Zb:((Tryz.pinned.checked.prog.stopKnobs== []))=true:=by kernel_rfl
theorem YH:((Rows.boundsSizesRow.inPlace==Tryz.pinned.checked.prog.inPlace 3))=true:=by kernel_rfl
theorem Yw:((Rows.boundsSizesRow.unfollowed==Tryz.pinned.checked.prog.unfollowed 3))=true:=by kernel_rfl
theorem X1:((Rows.boundsSizesRow.recurses==Tryz.pinned.checked.prog.recurses 3))=true:=by kernel_rfl
theorem XO:((Rows.boundsSizesRow.named==Tryz.pinned.checked.prog.varsNamed 3))=true:=by kernel_rfl
theorem Xv:((Rows.boundsSizesRow.maps==(Tryz.f3.params.toList++Rows.boundsSizesSpec.plain.varTypes Tryz.pinned.checked.prog).any (Tryz.pinned.checked.prog.mapsRec ·)))=true:=by kernel_rfl
theorem Yh:((Rows.boundsSizesRow.ifaces==(Tryz.f3.params.toList++Rows.boundsSizesSpec.plain.varTypes Tryz.pinned.checked.prog).any (Tryz.pinned.checked.prog.ifacesRec ·)))=true:=by kernel_rfl
theorem Xw:((Rows.boundsSizesRow.mapsOut==Tryz.pinned.checked.prog.mapsAmong Tryz.f3.resultTypes.toList))=true:=by kernel_rfl
theorem X7:((Rows.boundsSizesRow.loops==(Tryz.f3.params.toList++Rows.boundsSizesSpec.plain.varTypes Tryz.pinned.checked.prog).any (Tryz.pinned.checked.prog.loopsFrom ·)))=true:=by kernel_rfl
theorem XL:((Rows.boundsSizesRow.wideKeys==(Tryz.f3.params.toList++Rows.boundsSizesSpec.plain.varTypes Tryz.pinned.checked.prog++Tryz.f3.resultTypes.toList).any (Tryz.pinned.checked.prog.wideKeysFrom ·)))=true:=by kernel_rfl
theorem Yp:(Rows.boundsSizesSpec.vars.all (Tryz.pinned.checked.prog.varReadable ·))=true:=by kernel_rfl
theorem Yn:(Tryz.f3.resultTypes.all (fun t=>Tryz.pinned.checked.prog.readableRec t&&decide (t<Tryz.pinned.checked.prog.types.size)))=true:=by kernel_rfl
theorem YB:((Rows.boundsSizesRow.ifacesOut==Tryz.f3.resultTypes.toList.any (Tryz.pinned.checked.prog.ifacesRec ·)))=true:=by kernel_rfl
theorem X6:((Rows.boundsSizesRow.loopsOut==Tryz.f3.resultTypes.toList.any (Tryz.pinned.checked.prog.loopsFrom ·)))=true:=by kernel_rfl
theorem XK:((Rows.boundsSizesRow.plainKeys==Tryz.pinned.checked.prog.plainKeys))=true:=by kernel_rfl
theorem YC:(Rows.boundsSizesRow.shortTexts.isNone)=true:=by kernel_rfl
theorem XN:(Tryz.pinned.checked.prog.stopsHeard)=true:=by kernel_rfl
theorem Yt:(Tryz.pinned.checked.prog.mayEnter)=true:=by kernel_rfl
theorem Yc:((Rows.boundsSizesRow.lifted==Tryz.pinned.checked.prog.liftsFinal))=true:=by kernel_rfl
theorem XG:((Tryz.pinned.checked.prog.make==some Rows.boundsSizesRow.make))=true:=by kernel_rfl
theorem Xq:((Rows.boundsSizesRow.kinds==(if Rows.boundsSizesRow.domain.isEmpty then []else Tryz.f3.params.toList.map fun t=>match Tryz.pinned.checked.prog.underlying t with|some (.int k)=>some k|_=>none)))=true:=by kernel_rfl
theorem Ys:((Rows.boundsSizesRow.pinned==Rows.boundsSizesRow.pinnedBy))=true:=by kernel_rfl
theorem Ya:((Rows.boundsSizesRow.veiled==(Tryz.f3.params.toList++Rows.boundsSizesSpec.plain.varTypes Tryz.pinned.checked.prog++Tryz.f3.resultTypes.toList).any (Tryz.pinned.checked.prog.veiledRec ·)))=true:=by kernel_rfl
theorem XJ:(Rows.boundsSizesRow.veiledFits Tryz.pinned.checked.prog Tryz.f3.params.toList (Tryz.f3.params.toList++Rows.boundsSizesSpec.plain.varTypes Tryz.pinned.checked.prog++Tryz.f3.resultTypes.toList))=true:=by kernel_rfl
set_option maxRecDepth 100000 in
theorem Ye {P:Program} {f:FuncId} {fn:Func} {s:ChangeSpec} {c:OpenClaim} (h0:(c.wf (OpenSpec.ofChange s))=true) (h1:(laidOutB P)=true) (h2:(mapsRowed P)=true) (h3:(fn.params.all (P.readableRec ·))=true) (h4:(namedTie P c.named s.vars)=true) (h5:((c.stops== []))=true) (h6:((P.stops== []))=true) (h7:((c.knobs== []))=true) (h8:((P.stopKnobs== []))=true) (h9:((c.inPlace==P.inPlace f))=true) (h10:((c.unfollowed==P.unfollowed f))=true) (h11:((c.recurses==P.recurses f))=true) (h12:((c.named==P.varsNamed f))=true) (h13:((c.maps==(fn.params.toList++s.plain.varTypes P).any (P.mapsRec ·)))=true) (h14:((c.ifaces==(fn.params.toList++s.plain.varTypes P).any (P.ifacesRec ·)))=true) (h15:((c.mapsOut==P.mapsAmong fn.resultTypes.toList))=true) (h16:((c.loops==(fn.params.toList++s.plain.varTypes P).any (P.loopsFrom ·)))=true) (h17:((c.wideKeys==(fn.params.toList++s.plain.varTypes P++fn.resultTypes.toList).any (P.wideKeysFrom ·)))=true) (h18:(s.vars.all (P.varReadable ·))=true) (h19:(fn.resultTypes.all (fun t=>P.readableRec t&&decide (t<P.types.size)))=true) (h20:((c.ifacesOut==fn.resultTypes.toList.any (P.ifacesRec ·)))=true) (h21:((c.loopsOut==fn.resultTypes.toList.any (P.loopsFrom ·)))=true) (h22:((c.plainKeys==P.plainKeys))=true) (h23:(c.shortTexts.isNone)=true) (h24:(P.stopsHeard)=true) (h25:(P.mayEnter)=true) (h26:((c.lifted==P.liftsFinal))=true) (h27:((P.make==some c.make))=true) (h28:((c.kinds==(if c.domain.isEmpty then []else fn.params.toList.map fun t=>match P.underlying t with|some (.int k)=>some k|_=>none)))=true) (h29:((c.pinned==c.pinnedBy))=true) (h30:((c.veiled==(fn.params.toList++s.plain.varTypes P++fn.resultTypes.toList).any (P.veiledRec ·)))=true) (h31:(c.veiledFits P fn.params.toList (fn.params.toList++s.plain.varTypes P++fn.resultTypes.toList))=true):joinedFacts P f fn s c=true:=by
 unfold joinedFacts
 exact(cY (cY (cY (cY (cY (cY (cY (cY (cY (cY (cY (cY (cY (cY (cY (cY (cY (cY (cY (cY (cY (cY (cY (cY (cY (cY (cY (cY (cY (cY (cY h0 h1) h2) h3) h4) h5) h6) h7) h8) h9) h10) h11) h12) h13) h14) h15) h16) h17) h18) h19) h20) h21) h22) h23) h24) h25) h26) h27) h28) h29) h30) h31)
theorem WI:joinedFacts Tryz.pinned.checked.prog 3 Tryz.f3 Rows.boundsSizesSpec Rows.boundsSizesRow=true:=Ye Za YS YI YK YP YU Y5 Y2 Zb YH Yw X1 XO Xv Yh Xw X7 XL Yp Yn YB X6 XK YC XN Yt Yc XG Xq Ys Ya XJ
end Go.Proofs.YthkaaahphlneiaaGreatDoor
