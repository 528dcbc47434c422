import Derived.Test.YtiapgekjmcjjgaaGreatDoorRows
import Derived.JoinedOf
set_option linter.unusedVariables false
set_option linter.unusedSimpArgs false
namespace Go.Proofs.YtiapgekjmcjjgaaGreatDoor
theorem dn {a b:Bool} (ha:a=true) (hb:b=true):(a&&b)=true:=by rw[ha,hb];rfl
theorem Vw:(Rows.boundsChecksRow.wf (OpenSpec.ofChange Rows.boundsChecksSpec))=true:=by kernel_rfl
theorem Vv:(laidOutB Tryz.pinned.checked.prog)=true:=by kernel_rfl
theorem Vi:(mapsRowed Tryz.pinned.checked.prog)=true:=by kernel_rfl
theorem VH:(Tryz.f3.params.all (Tryz.pinned.checked.prog.readableRec ·))=true:=by kernel_rfl
theorem VC:(namedTie Tryz.pinned.checked.prog Rows.boundsChecksRow.named Rows.boundsChecksSpec.vars)=true:=by kernel_rfl
theorem VI:((Rows.boundsChecksRow.stops== []))=true:=by kernel_rfl
theorem Vy:((Tryz.pinned.checked.prog.stops== []))=true:=by kernel_rfl
theorem VF:((Rows.boundsChecksRow.knobs== []))=true:=by kernel_rfl
theorem Vh:((Tryz.pinned.checked.prog.stopKnobs== []))=true:=by kernel_rfl
theorem Vz:((Rows.boundsChecksRow.inPlace==Tryz.pinned.checked.prog.inPlace 3))=true:=by kernel_rfl
theorem UF:((Rows.boundsChecksRow.unfollowed==Tryz.pinned.checked.prog.unfollowed 3))=true:=by kernel_rfl
theorem UH:((Rows.boundsChecksRow.recurses==Tryz.pinned.checked.prog.recurses 3))=true:=by kernel_rfl
theorem Uz:((Rows.boundsChecksRow.named==Tryz.pinned.checked.prog.varsNamed 3))=true:=by kernel_rfl
theorem TW:((Rows.boundsChecksRow.maps==(Tryz.f3.params.toList++Rows.boundsChecksSpec.plain.varTypes Tryz.pinned.checked.prog).any (Tryz.pinned.checked.prog.mapsRec ·)))=true:=by kernel_rfl
theorem T0:((Rows.boundsChecksRow.ifaces==(Tryz.f3.params.toList++Rows.boundsChecksSpec.plain.varTypes Tryz.pinned.checked.prog).any (Tryz.pinned.checked.prog.ifacesRec ·)))=true:=by kernel_rfl
theorem TP:((Rows.boundsChecksRow.mapsOut==Tryz.pinned.checked.prog.mapsAmong Tryz.f3.resultTypes.toList))=true:=by kernel_rfl
theorem UW:((Rows.boundsChecksRow.loops==(Tryz.f3.params.toList++Rows.boundsChecksSpec.plain.varTypes Tryz.pinned.checked.prog).any (Tryz.pinned.checked.prog.loopsFrom ·)))=true:=by kernel_rfl
theorem T7:((Rows.boundsChecksRow.wideKeys==(Tryz.f3.params.toList++Rows.boundsChecksSpec.plain.varTypes Tryz.pinned.checked.prog++Tryz.f3.resultTypes.toList).any (Tryz.pinned.checked.prog.wideKeysFrom ·)))=true:=by kernel_rfl
theorem Uy:(Rows.boundsChecksSpec.vars.all (Tryz.pinned.checked.prog.varReadable ·))=true:=by kernel_rfl
theorem TM:(Tryz.f3.resultTypes.all (λt=>Tryz.pinned.checked.prog.readableRec t&&decide (t<Tryz.pinned.checked.prog.types.size)))=true:=by kernel_rfl
theorem U7:((Rows.boundsChecksRow.ifacesOut==Tryz.f3.resultTypes.toList.any (Tryz.pinned.checked.prog.ifacesRec ·)))=true:=by kernel_rfl
theorem Ug:((Rows.boundsChecksRow.loopsOut==Tryz.f3.resultTypes.toList.any (Tryz.pinned.checked.prog.loopsFrom ·)))=true:=by kernel_rfl
theorem T9:((Rows.boundsChecksRow.plainKeys==Tryz.pinned.checked.prog.plainKeys))=true:=by kernel_rfl
theorem TU:(Rows.boundsChecksRow.shortTexts.isNone)=true:=by kernel_rfl
theorem U8:(Tryz.pinned.checked.prog.stopsHeard)=true:=by kernel_rfl
theorem UE:(Tryz.pinned.checked.prog.mayEnter)=true:=by kernel_rfl
theorem T1:((Rows.boundsChecksRow.lifted==Tryz.pinned.checked.prog.liftsFinal))=true:=by kernel_rfl
theorem Uv:((Tryz.pinned.checked.prog.make==some Rows.boundsChecksRow.make))=true:=by kernel_rfl
theorem U0:((Rows.boundsChecksRow.kinds==(if Rows.boundsChecksRow.domain.isEmpty then []else Tryz.f3.params.toList.map λt=>match Tryz.pinned.checked.prog.underlying t with|some (.int k)=>some k|_=>none)))=true:=by kernel_rfl
theorem UQ:((Rows.boundsChecksRow.pinned==Rows.boundsChecksRow.pinnedBy))=true:=by kernel_rfl
theorem U9:((Rows.boundsChecksRow.veiled==(Tryz.f3.params.toList++Rows.boundsChecksSpec.plain.varTypes Tryz.pinned.checked.prog++Tryz.f3.resultTypes.toList).any (Tryz.pinned.checked.prog.veiledRec ·)))=true:=by kernel_rfl
theorem TO:(Rows.boundsChecksRow.veiledFits Tryz.pinned.checked.prog Tryz.f3.params.toList (Tryz.f3.params.toList++Rows.boundsChecksSpec.plain.varTypes Tryz.pinned.checked.prog++Tryz.f3.resultTypes.toList))=true:=by kernel_rfl
set_option maxRecDepth 100000 in
theorem UX {P:Program} {f:FuncId} {fn:Func} {s:ChangeSpec} {c:OpenClaim} (h0:(c.wf (OpenSpec.ofChange s))=true) (h1:(laidOutB P)=true) (h2:(mapsRowed P)=true) (h3:(fn.params.all (P.readableRec ·))=true) (h4:(namedTie P c.named s.vars)=true) (h5:((c.stops== []))=true) (h6:((P.stops== []))=true) (h7:((c.knobs== []))=true) (h8:((P.stopKnobs== []))=true) (h9:((c.inPlace==P.inPlace f))=true) (d:((c.unfollowed==P.unfollowed f))=true) (e:((c.recurses==P.recurses f))=true) (g:((c.named==P.varsNamed f))=true) (h:((c.maps==(fn.params.toList++s.plain.varTypes P).any (P.mapsRec ·)))=true) (i:((c.ifaces==(fn.params.toList++s.plain.varTypes P).any (P.ifacesRec ·)))=true) (j:((c.mapsOut==P.mapsAmong fn.resultTypes.toList))=true) (l:((c.loops==(fn.params.toList++s.plain.varTypes P).any (P.loopsFrom ·)))=true) (m:((c.wideKeys==(fn.params.toList++s.plain.varTypes P++fn.resultTypes.toList).any (P.wideKeysFrom ·)))=true) (n:(s.vars.all (P.varReadable ·))=true) (o:(fn.resultTypes.all (λt=>P.readableRec t&&decide (t<P.types.size)))=true) (p:((c.ifacesOut==fn.resultTypes.toList.any (P.ifacesRec ·)))=true) (q:((c.loopsOut==fn.resultTypes.toList.any (P.loopsFrom ·)))=true) (r:((c.plainKeys==P.plainKeys))=true) (u:(c.shortTexts.isNone)=true) (v:(P.stopsHeard)=true) (w:(P.mayEnter)=true) (x:((c.lifted==P.liftsFinal))=true) (y:((P.make==some c.make))=true) (z:((c.kinds==(if c.domain.isEmpty then []else fn.params.toList.map λt=>match P.underlying t with|some (.int k)=>some k|_=>none)))=true) (A:((c.pinned==c.pinnedBy))=true) (C:((c.veiled==(fn.params.toList++s.plain.varTypes P++fn.resultTypes.toList).any (P.veiledRec ·)))=true) (D:(c.veiledFits P fn.params.toList (fn.params.toList++s.plain.varTypes P++fn.resultTypes.toList))=true):joinedFacts P f fn s c=true:=by
 unfold joinedFacts
 exact(dn (dn (dn (dn (dn (dn (dn (dn (dn (dn (dn (dn (dn (dn (dn (dn (dn (dn (dn (dn (dn (dn (dn (dn (dn (dn (dn (dn (dn (dn (dn h0 h1) h2) h3) h4) h5) h6) h7) h8) h9) d) e) g) h) i) j) l) m) n) o) p) q) r) u) v) w) x) y) z) A) C) D)
theorem SR:joinedFacts Tryz.pinned.checked.prog 3 Tryz.f3 Rows.boundsChecksSpec Rows.boundsChecksRow=true:=UX Vw Vv Vi VH VC VI Vy VF Vh Vz UF UH Uz TW T0 TP UW T7 Uy TM U7 Ug T9 TU U8 UE T1 Uv U0 UQ U9 TO
end Go.Proofs.YtiapgekjmcjjgaaGreatDoor
