import Derived.Test.YtjhkikmonejkjaaGreatDoorRows
import Derived.JoinedOf
set_option linter.unusedVariables false
set_option linter.unusedSimpArgs false
namespace Go.Proofs.YtjhkikmonejkjaaGreatDoor
theorem cb {a b:Bool} (ha:a=true) (hb:b=true):(a&&b)=true:=by rw[ha,hb];rfl
theorem VX:(Rows.spmdInfersRow.wf (OpenSpec.ofChange Rows.spmdInfersSpec))=true:=by kernel_rfl
theorem Wg:(laidOutB Tryz.pinned.checked.prog)=true:=by kernel_rfl
theorem Wt:(mapsRowed Tryz.pinned.checked.prog)=true:=by kernel_rfl
theorem Wd:(Tryz.f3.params.all (Tryz.pinned.checked.prog.readableRec ·))=true:=by kernel_rfl
theorem Wh:(namedTie Tryz.pinned.checked.prog Rows.spmdInfersRow.named Rows.spmdInfersSpec.vars)=true:=by kernel_rfl
theorem Wl:((Rows.spmdInfersRow.stops== []))=true:=by kernel_rfl
theorem Wp:((Tryz.pinned.checked.prog.stops== []))=true:=by kernel_rfl
theorem VY:((Rows.spmdInfersRow.knobs== []))=true:=by kernel_rfl
theorem V8:((Tryz.pinned.checked.prog.stopKnobs== []))=true:=by kernel_rfl
theorem V6:((Rows.spmdInfersRow.inPlace==Tryz.pinned.checked.prog.inPlace 3))=true:=by kernel_rfl
theorem UK:((Rows.spmdInfersRow.unfollowed==Tryz.pinned.checked.prog.unfollowed 3))=true:=by kernel_rfl
theorem UV:((Rows.spmdInfersRow.recurses==Tryz.pinned.checked.prog.recurses 3))=true:=by kernel_rfl
theorem Vt:((Rows.spmdInfersRow.named==Tryz.pinned.checked.prog.varsNamed 3))=true:=by kernel_rfl
theorem Vf:((Rows.spmdInfersRow.maps==(Tryz.f3.params.toList++Rows.spmdInfersSpec.plain.varTypes Tryz.pinned.checked.prog).any (Tryz.pinned.checked.prog.mapsRec ·)))=true:=by kernel_rfl
theorem Vm:((Rows.spmdInfersRow.ifaces==(Tryz.f3.params.toList++Rows.spmdInfersSpec.plain.varTypes Tryz.pinned.checked.prog).any (Tryz.pinned.checked.prog.ifacesRec ·)))=true:=by kernel_rfl
theorem VJ:((Rows.spmdInfersRow.mapsOut==Tryz.pinned.checked.prog.mapsAmong Tryz.f3.resultTypes.toList))=true:=by kernel_rfl
theorem VI:((Rows.spmdInfersRow.loops==(Tryz.f3.params.toList++Rows.spmdInfersSpec.plain.varTypes Tryz.pinned.checked.prog).any (Tryz.pinned.checked.prog.loopsFrom ·)))=true:=by kernel_rfl
theorem Vv:((Rows.spmdInfersRow.wideKeys==(Tryz.f3.params.toList++Rows.spmdInfersSpec.plain.varTypes Tryz.pinned.checked.prog++Tryz.f3.resultTypes.toList).any (Tryz.pinned.checked.prog.wideKeysFrom ·)))=true:=by kernel_rfl
theorem Vh:(Rows.spmdInfersSpec.vars.all (Tryz.pinned.checked.prog.varReadable ·))=true:=by kernel_rfl
theorem U4:(Tryz.f3.resultTypes.all (λt=>Tryz.pinned.checked.prog.readableRec t&&decide (t<Tryz.pinned.checked.prog.types.size)))=true:=by kernel_rfl
theorem Vi:((Rows.spmdInfersRow.ifacesOut==Tryz.f3.resultTypes.toList.any (Tryz.pinned.checked.prog.ifacesRec ·)))=true:=by kernel_rfl
theorem Vz:((Rows.spmdInfersRow.loopsOut==Tryz.f3.resultTypes.toList.any (Tryz.pinned.checked.prog.loopsFrom ·)))=true:=by kernel_rfl
theorem U7:((Rows.spmdInfersRow.plainKeys==Tryz.pinned.checked.prog.plainKeys))=true:=by kernel_rfl
theorem Uu:(Rows.spmdInfersRow.shortTexts.isNone)=true:=by kernel_rfl
theorem Vw:(Tryz.pinned.checked.prog.stopsHeard)=true:=by kernel_rfl
theorem UQ:(Tryz.pinned.checked.prog.mayEnter)=true:=by kernel_rfl
theorem Uv:((Rows.spmdInfersRow.lifted==Tryz.pinned.checked.prog.liftsFinal))=true:=by kernel_rfl
theorem Uq:((Tryz.pinned.checked.prog.make==some Rows.spmdInfersRow.make))=true:=by kernel_rfl
theorem Uz:((Rows.spmdInfersRow.kinds==(if Rows.spmdInfersRow.domain.isEmpty then []else Tryz.f3.params.toList.map λt=>match Tryz.pinned.checked.prog.underlying t with|some (.int k)=>some k|_=>none)))=true:=by kernel_rfl
theorem Vo:((Rows.spmdInfersRow.pinned==Rows.spmdInfersRow.pinnedBy))=true:=by kernel_rfl
theorem Vg:((Rows.spmdInfersRow.veiled==(Tryz.f3.params.toList++Rows.spmdInfersSpec.plain.varTypes Tryz.pinned.checked.prog++Tryz.f3.resultTypes.toList).any (Tryz.pinned.checked.prog.veiledRec ·)))=true:=by kernel_rfl
theorem UF:(Rows.spmdInfersRow.veiledFits Tryz.pinned.checked.prog Tryz.f3.params.toList (Tryz.f3.params.toList++Rows.spmdInfersSpec.plain.varTypes Tryz.pinned.checked.prog++Tryz.f3.resultTypes.toList))=true:=by kernel_rfl
set_option maxRecDepth 100000 in
theorem Vk {P:Program} {f:FuncId} {fn:Func} {s:ChangeSpec} {c:OpenClaim} (h0:(c.wf (OpenSpec.ofChange s))=true) (h1:(laidOutB P)=true) (h2:(mapsRowed P)=true) (h3:(fn.params.all (P.readableRec ·))=true) (h4:(namedTie P c.named s.vars)=true) (h5:((c.stops== []))=true) (h6:((P.stops== []))=true) (h7:((c.knobs== []))=true) (h8:((P.stopKnobs== []))=true) (h9:((c.inPlace==P.inPlace f))=true) (d:((c.unfollowed==P.unfollowed f))=true) (e:((c.recurses==P.recurses f))=true) (g:((c.named==P.varsNamed f))=true) (h:((c.maps==(fn.params.toList++s.plain.varTypes P).any (P.mapsRec ·)))=true) (i:((c.ifaces==(fn.params.toList++s.plain.varTypes P).any (P.ifacesRec ·)))=true) (j:((c.mapsOut==P.mapsAmong fn.resultTypes.toList))=true) (l:((c.loops==(fn.params.toList++s.plain.varTypes P).any (P.loopsFrom ·)))=true) (m:((c.wideKeys==(fn.params.toList++s.plain.varTypes P++fn.resultTypes.toList).any (P.wideKeysFrom ·)))=true) (n:(s.vars.all (P.varReadable ·))=true) (o:(fn.resultTypes.all (λt=>P.readableRec t&&decide (t<P.types.size)))=true) (p:((c.ifacesOut==fn.resultTypes.toList.any (P.ifacesRec ·)))=true) (q:((c.loopsOut==fn.resultTypes.toList.any (P.loopsFrom ·)))=true) (r:((c.plainKeys==P.plainKeys))=true) (u:(c.shortTexts.isNone)=true) (v:(P.stopsHeard)=true) (w:(P.mayEnter)=true) (x:((c.lifted==P.liftsFinal))=true) (y:((P.make==some c.make))=true) (z:((c.kinds==(if c.domain.isEmpty then []else fn.params.toList.map λt=>match P.underlying t with|some (.int k)=>some k|_=>none)))=true) (A:((c.pinned==c.pinnedBy))=true) (C:((c.veiled==(fn.params.toList++s.plain.varTypes P++fn.resultTypes.toList).any (P.veiledRec ·)))=true) (D:(c.veiledFits P fn.params.toList (fn.params.toList++s.plain.varTypes P++fn.resultTypes.toList))=true):joinedFacts P f fn s c=true:=by
 unfold joinedFacts
 exact(cb (cb (cb (cb (cb (cb (cb (cb (cb (cb (cb (cb (cb (cb (cb (cb (cb (cb (cb (cb (cb (cb (cb (cb (cb (cb (cb (cb (cb (cb (cb h0 h1) h2) h3) h4) h5) h6) h7) h8) h9) d) e) g) h) i) j) l) m) n) o) p) q) r) u) v) w) x) y) z) A) C) D)
theorem Tc:joinedFacts Tryz.pinned.checked.prog 3 Tryz.f3 Rows.spmdInfersSpec Rows.spmdInfersRow=true:=Vk VX Wg Wt Wd Wh Wl Wp VY V8 V6 UK UV Vt Vf Vm VJ VI Vv Vh U4 Vi Vz U7 Uu Vw UQ Uv Uq Uz Vo Vg UF
end Go.Proofs.YtjhkikmonejkjaaGreatDoor
