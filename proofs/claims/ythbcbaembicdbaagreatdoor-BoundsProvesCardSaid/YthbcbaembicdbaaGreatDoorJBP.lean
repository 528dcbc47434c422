import Derived.Test.YthbcbaembicdbaaGreatDoorRows
import Derived.JoinedOf
namespace Go.Proofs.YthbcbaembicdbaaGreatDoor
theorem aH {a b:Bool} (ha:a=true) (hb:b=true):(a&&b)=true:=by rw[ha,hb];rfl
theorem V3:(Rows.boundsProvesRow.wf (OpenSpec.ofChange Rows.boundsProvesSpec))=true:=by kernel_rfl
theorem Vr:(laidOutB Tryz.pinned.checked.prog)=true:=by kernel_rfl
theorem VC:(mapsRowed Tryz.pinned.checked.prog)=true:=by kernel_rfl
theorem Wf:(Tryz.f3.params.all (Tryz.pinned.checked.prog.readableRec ·))=true:=by kernel_rfl
theorem Xj:(namedTie Tryz.pinned.checked.prog Rows.boundsProvesRow.named Rows.boundsProvesSpec.vars)=true:=by kernel_rfl
theorem Uo:((Rows.boundsProvesRow.stops== []))=true:=by kernel_rfl
theorem Vq:((Tryz.pinned.checked.prog.stops== []))=true:=by kernel_rfl
theorem VL:((Rows.boundsProvesRow.knobs== []))=true:=by kernel_rfl
theorem WV:((Tryz.pinned.checked.prog.stopKnobs== []))=true:=by kernel_rfl
theorem VV:((Rows.boundsProvesRow.inPlace==Tryz.pinned.checked.prog.inPlace 3))=true:=by kernel_rfl
theorem ND:((Rows.boundsProvesRow.unfollowed==Tryz.pinned.checked.prog.unfollowed 3))=true:=by kernel_rfl
theorem Pu:((Rows.boundsProvesRow.recurses==Tryz.pinned.checked.prog.recurses 3))=true:=by kernel_rfl
theorem Ow:((Rows.boundsProvesRow.named==Tryz.pinned.checked.prog.varsNamed 3))=true:=by kernel_rfl
theorem OV:((Rows.boundsProvesRow.maps==(Tryz.f3.params.toList++Rows.boundsProvesSpec.plain.varTypes Tryz.pinned.checked.prog).any (Tryz.pinned.checked.prog.mapsRec ·)))=true:=by kernel_rfl
theorem PD:((Rows.boundsProvesRow.ifaces==(Tryz.f3.params.toList++Rows.boundsProvesSpec.plain.varTypes Tryz.pinned.checked.prog).any (Tryz.pinned.checked.prog.ifacesRec ·)))=true:=by kernel_rfl
theorem Od:((Rows.boundsProvesRow.mapsOut==Tryz.pinned.checked.prog.mapsAmong Tryz.f3.resultTypes.toList))=true:=by kernel_rfl
theorem PB:((Rows.boundsProvesRow.loops==(Tryz.f3.params.toList++Rows.boundsProvesSpec.plain.varTypes Tryz.pinned.checked.prog).any (Tryz.pinned.checked.prog.loopsFrom ·)))=true:=by kernel_rfl
theorem O5:((Rows.boundsProvesRow.wideKeys==(Tryz.f3.params.toList++Rows.boundsProvesSpec.plain.varTypes Tryz.pinned.checked.prog++Tryz.f3.resultTypes.toList).any (Tryz.pinned.checked.prog.wideKeysFrom ·)))=true:=by kernel_rfl
theorem M9:(Rows.boundsProvesSpec.vars.all (Tryz.pinned.checked.prog.varReadable ·))=true:=by kernel_rfl
theorem OJ:(Tryz.f3.resultTypes.all (fun t=>Tryz.pinned.checked.prog.readableRec t&&decide (t<Tryz.pinned.checked.prog.types.size)))=true:=by kernel_rfl
theorem Pe:((Rows.boundsProvesRow.ifacesOut==Tryz.f3.resultTypes.toList.any (Tryz.pinned.checked.prog.ifacesRec ·)))=true:=by kernel_rfl
theorem PJ:((Rows.boundsProvesRow.loopsOut==Tryz.f3.resultTypes.toList.any (Tryz.pinned.checked.prog.loopsFrom ·)))=true:=by kernel_rfl
theorem Nc:((Rows.boundsProvesRow.plainKeys==Tryz.pinned.checked.prog.plainKeys))=true:=by kernel_rfl
theorem ME:(Rows.boundsProvesRow.shortTexts.isNone)=true:=by kernel_rfl
theorem Pi:(Tryz.pinned.checked.prog.stopsHeard)=true:=by kernel_rfl
theorem OW:(Tryz.pinned.checked.prog.mayEnter)=true:=by kernel_rfl
theorem M0:((Rows.boundsProvesRow.lifted==Tryz.pinned.checked.prog.liftsFinal))=true:=by kernel_rfl
theorem Pb:((Tryz.pinned.checked.prog.make==some Rows.boundsProvesRow.make))=true:=by kernel_rfl
theorem Ps:((Rows.boundsProvesRow.kinds==(if Rows.boundsProvesRow.domain.isEmpty then []else Tryz.f3.params.toList.map fun t=>match Tryz.pinned.checked.prog.underlying t with|some (.int k)=>some k|_=>none)))=true:=by kernel_rfl
theorem Pa:((Rows.boundsProvesRow.pinned==Rows.boundsProvesRow.pinnedBy))=true:=by kernel_rfl
theorem NV:((Rows.boundsProvesRow.veiled==(Tryz.f3.params.toList++Rows.boundsProvesSpec.plain.varTypes Tryz.pinned.checked.prog++Tryz.f3.resultTypes.toList).any (Tryz.pinned.checked.prog.veiledRec ·)))=true:=by kernel_rfl
theorem N5:(Rows.boundsProvesRow.veiledFits Tryz.pinned.checked.prog Tryz.f3.params.toList (Tryz.f3.params.toList++Rows.boundsProvesSpec.plain.varTypes Tryz.pinned.checked.prog++Tryz.f3.resultTypes.toList))=true:=by kernel_rfl
set_option maxRecDepth 100000 in
theorem NZ {P:Program} {f:FuncId} {fn:Func} {s:ChangeSpec} {c:OpenClaim} (h0:(c.wf (OpenSpec.ofChange s))=true) (h1:(laidOutB P)=true) (h2:(mapsRowed P)=true) (h3:(fn.params.all (P.readableRec ·))=true) (h4:(namedTie P c.named s.vars)=true) (h5:((c.stops== []))=true) (h6:((P.stops== []))=true) (h7:((c.knobs== []))=true) (h8:((P.stopKnobs== []))=true) (h9:((c.inPlace==P.inPlace f))=true) (h10:((c.unfollowed==P.unfollowed f))=true) (h11:((c.recurses==P.recurses f))=true) (h12:((c.named==P.varsNamed f))=true) (h13:((c.maps==(fn.params.toList++s.plain.varTypes P).any (P.mapsRec ·)))=true) (h14:((c.ifaces==(fn.params.toList++s.plain.varTypes P).any (P.ifacesRec ·)))=true) (h15:((c.mapsOut==P.mapsAmong fn.resultTypes.toList))=true) (h16:((c.loops==(fn.params.toList++s.plain.varTypes P).any (P.loopsFrom ·)))=true) (h17:((c.wideKeys==(fn.params.toList++s.plain.varTypes P++fn.resultTypes.toList).any (P.wideKeysFrom ·)))=true) (h18:(s.vars.all (P.varReadable ·))=true) (h19:(fn.resultTypes.all (fun t=>P.readableRec t&&decide (t<P.types.size)))=true) (h20:((c.ifacesOut==fn.resultTypes.toList.any (P.ifacesRec ·)))=true) (h21:((c.loopsOut==fn.resultTypes.toList.any (P.loopsFrom ·)))=true) (h22:((c.plainKeys==P.plainKeys))=true) (h23:(c.shortTexts.isNone)=true) (h24:(P.stopsHeard)=true) (h25:(P.mayEnter)=true) (h26:((c.lifted==P.liftsFinal))=true) (h27:((P.make==some c.make))=true) (h28:((c.kinds==(if c.domain.isEmpty then []else fn.params.toList.map fun t=>match P.underlying t with|some (.int k)=>some k|_=>none)))=true) (h29:((c.pinned==c.pinnedBy))=true) (h30:((c.veiled==(fn.params.toList++s.plain.varTypes P++fn.resultTypes.toList).any (P.veiledRec ·)))=true) (h31:(c.veiledFits P fn.params.toList (fn.params.toList++s.plain.varTypes P++fn.resultTypes.toList))=true):joinedFacts P f fn s c=true:=by
 unfold joinedFacts
 exact(aH (aH (aH (aH (aH (aH (aH (aH (aH (aH (aH (aH (aH (aH (aH (aH (aH (aH (aH (aH (aH (aH (aH (aH (aH (aH (aH (aH (aH (aH (aH h0 h1) h2) h3) h4) h5) h6) h7) h8) h9) h10) h11) h12) h13) h14) h15) h16) h17) h18) h19) h20) h21) h22) h23) h24) h25) h26) h27) h28) h29) h30) h31)
theorem Q7:joinedFacts Tryz.pinned.checked.prog 3 Tryz.f3 Rows.boundsProvesSpec Rows.boundsProvesRow=true:=NZ V3 Vr VC Wf Xj Uo Vq VL WV VV ND Pu Ow OV PD Od PB O5 M9 OJ Pe PJ Nc ME Pi OW M0 Pb Ps Pa NV N5
