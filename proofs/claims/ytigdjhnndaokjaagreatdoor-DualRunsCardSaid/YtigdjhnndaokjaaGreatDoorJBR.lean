import Derived.Test.YtigdjhnndaokjaaGreatDoorRows
import Derived.JoinedOf
set_option linter.unusedVariables false
set_option linter.unusedSimpArgs false
namespace Go.Proofs.YtigdjhnndaokjaaGreatDoor
theorem dm {a b:Bool} (ha:a=true) (hb:b=true):(a&&b)=true:=by rw[ha,hb];rfl
theorem afo:(Rows.dualRunsRow.wf (OpenSpec.ofChange Rows.dualRunsSpec))=true:=by kernel_rfl
theorem afi:(laidOutB Tryz.pinned.checked.prog)=true:=by kernel_rfl
theorem afh:(mapsRowed Tryz.pinned.checked.prog)=true:=by kernel_rfl
theorem afG:(Tryz.f3.params.all (Tryz.pinned.checked.prog.readableRec ·))=true:=by kernel_rfl
theorem ae9:(namedTie Tryz.pinned.checked.prog Rows.dualRunsRow.named Rows.dualRunsSpec.vars)=true:=by kernel_rfl
theorem afa:((Rows.dualRunsRow.stops== []))=true:=by kernel_rfl
theorem afn:((Tryz.pinned.checked.prog.stops== []))=true:=by kernel_rfl
theorem afm:((Rows.dualRunsRow.knobs== []))=true:=by kernel_rfl
theorem afb:((Tryz.pinned.checked.prog.stopKnobs== []))=true:=by kernel_rfl
theorem afC:((Rows.dualRunsRow.inPlace==Tryz.pinned.checked.prog.inPlace 3))=true:=by kernel_rfl
theorem aeG:((Rows.dualRunsRow.unfollowed==Tryz.pinned.checked.prog.unfollowed 3))=true:=by kernel_rfl
theorem aeH:((Rows.dualRunsRow.recurses==Tryz.pinned.checked.prog.recurses 3))=true:=by kernel_rfl
theorem aeT:((Rows.dualRunsRow.named==Tryz.pinned.checked.prog.varsNamed 3))=true:=by kernel_rfl
theorem adV:((Rows.dualRunsRow.maps==(Tryz.f3.params.toList++Rows.dualRunsSpec.plain.varTypes Tryz.pinned.checked.prog).any (Tryz.pinned.checked.prog.mapsRec ·)))=true:=by kernel_rfl
theorem aeA:((Rows.dualRunsRow.ifaces==(Tryz.f3.params.toList++Rows.dualRunsSpec.plain.varTypes Tryz.pinned.checked.prog).any (Tryz.pinned.checked.prog.ifacesRec ·)))=true:=by kernel_rfl
theorem aei:((Rows.dualRunsRow.mapsOut==Tryz.pinned.checked.prog.mapsAmong Tryz.f3.resultTypes.toList))=true:=by kernel_rfl
theorem ad6:((Rows.dualRunsRow.loops==(Tryz.f3.params.toList++Rows.dualRunsSpec.plain.varTypes Tryz.pinned.checked.prog).any (Tryz.pinned.checked.prog.loopsFrom ·)))=true:=by kernel_rfl
theorem aeW:((Rows.dualRunsRow.wideKeys==(Tryz.f3.params.toList++Rows.dualRunsSpec.plain.varTypes Tryz.pinned.checked.prog++Tryz.f3.resultTypes.toList).any (Tryz.pinned.checked.prog.wideKeysFrom ·)))=true:=by kernel_rfl
theorem aeN:(Rows.dualRunsSpec.vars.all (Tryz.pinned.checked.prog.varReadable ·))=true:=by kernel_rfl
theorem aev:(Tryz.f3.resultTypes.all (λt=>Tryz.pinned.checked.prog.readableRec t&&decide (t<Tryz.pinned.checked.prog.types.size)))=true:=by kernel_rfl
theorem aeV:((Rows.dualRunsRow.ifacesOut==Tryz.f3.resultTypes.toList.any (Tryz.pinned.checked.prog.ifacesRec ·)))=true:=by kernel_rfl
theorem aeS:((Rows.dualRunsRow.loopsOut==Tryz.f3.resultTypes.toList.any (Tryz.pinned.checked.prog.loopsFrom ·)))=true:=by kernel_rfl
theorem aeP:((Rows.dualRunsRow.plainKeys==Tryz.pinned.checked.prog.plainKeys))=true:=by kernel_rfl
theorem adS:(Rows.dualRunsRow.shortTexts.isNone)=true:=by kernel_rfl
theorem adZ:(Tryz.pinned.checked.prog.stopsHeard)=true:=by kernel_rfl
theorem aeL:(Tryz.pinned.checked.prog.mayEnter)=true:=by kernel_rfl
theorem aeE:((Rows.dualRunsRow.lifted==Tryz.pinned.checked.prog.liftsFinal))=true:=by kernel_rfl
theorem adX:((Tryz.pinned.checked.prog.make==some Rows.dualRunsRow.make))=true:=by kernel_rfl
theorem aeF:((Rows.dualRunsRow.kinds==(if Rows.dualRunsRow.domain.isEmpty then []else Tryz.f3.params.toList.map λt=>match Tryz.pinned.checked.prog.underlying t with|some (.int k)=>some k|_=>none)))=true:=by kernel_rfl
theorem aem:((Rows.dualRunsRow.pinned==Rows.dualRunsRow.pinnedBy))=true:=by kernel_rfl
theorem aeu:((Rows.dualRunsRow.veiled==(Tryz.f3.params.toList++Rows.dualRunsSpec.plain.varTypes Tryz.pinned.checked.prog++Tryz.f3.resultTypes.toList).any (Tryz.pinned.checked.prog.veiledRec ·)))=true:=by kernel_rfl
theorem aeM:(Rows.dualRunsRow.veiledFits Tryz.pinned.checked.prog Tryz.f3.params.toList (Tryz.f3.params.toList++Rows.dualRunsSpec.plain.varTypes Tryz.pinned.checked.prog++Tryz.f3.resultTypes.toList))=true:=by kernel_rfl
set_option maxRecDepth 100000 in
theorem aej {P:Program} {f:FuncId} {fn:Func} {s:ChangeSpec} {c:OpenClaim} (h0:(c.wf (OpenSpec.ofChange s))=true) (h1:(laidOutB P)=true) (h2:(mapsRowed P)=true) (h3:(fn.params.all (P.readableRec ·))=true) (h4:(namedTie P c.named s.vars)=true) (h5:((c.stops== []))=true) (h6:((P.stops== []))=true) (h7:((c.knobs== []))=true) (h8:((P.stopKnobs== []))=true) (h9:((c.inPlace==P.inPlace f))=true) (d:((c.unfollowed==P.unfollowed f))=true) (e:((c.recurses==P.recurses f))=true) (g:((c.named==P.varsNamed f))=true) (h:((c.maps==(fn.params.toList++s.plain.varTypes P).any (P.mapsRec ·)))=true) (i:((c.ifaces==(fn.params.toList++s.plain.varTypes P).any (P.ifacesRec ·)))=true) (j:((c.mapsOut==P.mapsAmong fn.resultTypes.toList))=true) (l:((c.loops==(fn.params.toList++s.plain.varTypes P).any (P.loopsFrom ·)))=true) (m:((c.wideKeys==(fn.params.toList++s.plain.varTypes P++fn.resultTypes.toList).any (P.wideKeysFrom ·)))=true) (n:(s.vars.all (P.varReadable ·))=true) (o:(fn.resultTypes.all (λt=>P.readableRec t&&decide (t<P.types.size)))=true) (p:((c.ifacesOut==fn.resultTypes.toList.any (P.ifacesRec ·)))=true) (q:((c.loopsOut==fn.resultTypes.toList.any (P.loopsFrom ·)))=true) (r:((c.plainKeys==P.plainKeys))=true) (u:(c.shortTexts.isNone)=true) (v:(P.stopsHeard)=true) (w:(P.mayEnter)=true) (x:((c.lifted==P.liftsFinal))=true) (y:((P.make==some c.make))=true) (z:((c.kinds==(if c.domain.isEmpty then []else fn.params.toList.map λt=>match P.underlying t with|some (.int k)=>some k|_=>none)))=true) (A:((c.pinned==c.pinnedBy))=true) (C:((c.veiled==(fn.params.toList++s.plain.varTypes P++fn.resultTypes.toList).any (P.veiledRec ·)))=true) (D:(c.veiledFits P fn.params.toList (fn.params.toList++s.plain.varTypes P++fn.resultTypes.toList))=true):joinedFacts P f fn s c=true:=by
 unfold joinedFacts
 exact(dm (dm (dm (dm (dm (dm (dm (dm (dm (dm (dm (dm (dm (dm (dm (dm (dm (dm (dm (dm (dm (dm (dm (dm (dm (dm (dm (dm (dm (dm (dm h0 h1) h2) h3) h4) h5) h6) h7) h8) h9) d) e) g) h) i) j) l) m) n) o) p) q) r) u) v) w) x) y) z) A) C) D)
theorem adg:joinedFacts Tryz.pinned.checked.prog 3 Tryz.f3 Rows.dualRunsSpec Rows.dualRunsRow=true:=aej afo afi afh afG ae9 afa afn afm afb afC aeG aeH aeT adV aeA aei ad6 aeW aeN aev aeV aeS aeP adS adZ aeL aeE adX aeF aem aeu aeM
end Go.Proofs.YtigdjhnndaokjaaGreatDoor
