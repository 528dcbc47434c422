/- What the row says of the program, check by check (written by genjoined.py). -/
import Derived.Test.YtbblkakcadonjaaGreatDoorRows
import Derived.JoinedOf
namespace Go.Proofs.YtbblkakcadonjaaGreatDoor
theorem and_tt {a b : Bool} (ha : a = true) (hb : b = true) : (a && b) = true := by rw [ha, hb]; rfl
theorem jf_0 : (Rows.boundsAccessesRow.wf (OpenSpec.ofChange Rows.boundsAccessesSpec)) = true := by kernel_rfl
theorem jf_1 : (laidOutB Tryz.pinned.checked.prog) = true := by kernel_rfl
theorem jf_2 : (mapsRowed Tryz.pinned.checked.prog) = true := by kernel_rfl
theorem jf_3 : (Tryz.f3.params.all (Tryz.pinned.checked.prog.readableRec ·)) = true := by kernel_rfl
theorem jf_4 : (namedTie Tryz.pinned.checked.prog Rows.boundsAccessesRow.named Rows.boundsAccessesSpec.vars) = true := by kernel_rfl
theorem jf_5 : ((Rows.boundsAccessesRow.stops == [])) = true := by kernel_rfl
theorem jf_6 : ((Tryz.pinned.checked.prog.stops == [])) = true := by kernel_rfl
theorem jf_7 : ((Rows.boundsAccessesRow.knobs == [])) = true := by kernel_rfl
theorem jf_8 : ((Tryz.pinned.checked.prog.stopKnobs == [])) = true := by kernel_rfl
theorem jf_9 : ((Rows.boundsAccessesRow.inPlace == Tryz.pinned.checked.prog.inPlace 3)) = true := by kernel_rfl
theorem jf_10 : ((Rows.boundsAccessesRow.unfollowed == Tryz.pinned.checked.prog.unfollowed 3)) = true := by kernel_rfl
theorem jf_11 : ((Rows.boundsAccessesRow.recurses == Tryz.pinned.checked.prog.recurses 3)) = true := by kernel_rfl
theorem jf_12 : ((Rows.boundsAccessesRow.named == Tryz.pinned.checked.prog.varsNamed 3)) = true := by kernel_rfl
theorem jf_13 : ((Rows.boundsAccessesRow.maps == (Tryz.f3.params.toList ++ Rows.boundsAccessesSpec.plain.varTypes Tryz.pinned.checked.prog).any (Tryz.pinned.checked.prog.mapsRec ·))) = true := by kernel_rfl
theorem jf_14 : ((Rows.boundsAccessesRow.ifaces == (Tryz.f3.params.toList ++ Rows.boundsAccessesSpec.plain.varTypes Tryz.pinned.checked.prog).any (Tryz.pinned.checked.prog.ifacesRec ·))) = true := by kernel_rfl
theorem jf_15 : ((Rows.boundsAccessesRow.mapsOut == Tryz.pinned.checked.prog.mapsAmong Tryz.f3.resultTypes.toList)) = true := by kernel_rfl
theorem jf_16 : ((Rows.boundsAccessesRow.loops == (Tryz.f3.params.toList ++ Rows.boundsAccessesSpec.plain.varTypes Tryz.pinned.checked.prog).any (Tryz.pinned.checked.prog.loopsFrom ·))) = true := by kernel_rfl
theorem jf_17 : ((Rows.boundsAccessesRow.wideKeys == (Tryz.f3.params.toList ++ Rows.boundsAccessesSpec.plain.varTypes Tryz.pinned.checked.prog ++ Tryz.f3.resultTypes.toList).any (Tryz.pinned.checked.prog.wideKeysFrom ·))) = true := by kernel_rfl
theorem jf_18 : (Rows.boundsAccessesSpec.vars.all (Tryz.pinned.checked.prog.varReadable ·)) = true := by kernel_rfl
theorem jf_19 : (Tryz.f3.resultTypes.all (fun t => Tryz.pinned.checked.prog.readableRec t && decide (t < Tryz.pinned.checked.prog.types.size))) = true := by kernel_rfl
theorem jf_20 : ((Rows.boundsAccessesRow.ifacesOut == Tryz.f3.resultTypes.toList.any (Tryz.pinned.checked.prog.ifacesRec ·))) = true := by kernel_rfl
theorem jf_21 : ((Rows.boundsAccessesRow.loopsOut == Tryz.f3.resultTypes.toList.any (Tryz.pinned.checked.prog.loopsFrom ·))) = true := by kernel_rfl
theorem jf_22 : ((Rows.boundsAccessesRow.plainKeys == Tryz.pinned.checked.prog.plainKeys)) = true := by kernel_rfl
theorem jf_23 : (Rows.boundsAccessesRow.shortTexts.isNone) = true := by kernel_rfl
theorem jf_24 : (Tryz.pinned.checked.prog.stopsHeard) = true := by kernel_rfl
theorem jf_25 : (Tryz.pinned.checked.prog.mayEnter) = true := by kernel_rfl
theorem jf_26 : ((Rows.boundsAccessesRow.lifted == Tryz.pinned.checked.prog.liftsFinal)) = true := by kernel_rfl
theorem jf_27 : ((Tryz.pinned.checked.prog.make == some Rows.boundsAccessesRow.make)) = true := by kernel_rfl
theorem jf_28 : ((Rows.boundsAccessesRow.kinds == (if Rows.boundsAccessesRow.domain.isEmpty then [] else Tryz.f3.params.toList.map fun t => match Tryz.pinned.checked.prog.underlying t with | some (.int k) => some k | _ => none))) = true := by kernel_rfl
theorem jf_29 : ((Rows.boundsAccessesRow.pinned == Rows.boundsAccessesRow.pinnedBy)) = true := by kernel_rfl
theorem jf_30 : ((Rows.boundsAccessesRow.veiled == (Tryz.f3.params.toList ++ Rows.boundsAccessesSpec.plain.varTypes Tryz.pinned.checked.prog ++ Tryz.f3.resultTypes.toList).any (Tryz.pinned.checked.prog.veiledRec ·))) = true := by kernel_rfl
theorem jf_31 : (Rows.boundsAccessesRow.veiledFits Tryz.pinned.checked.prog Tryz.f3.params.toList (Tryz.f3.params.toList ++ Rows.boundsAccessesSpec.plain.varTypes Tryz.pinned.checked.prog ++ Tryz.f3.resultTypes.toList)) = true := by kernel_rfl
set_option maxRecDepth 100000 in
theorem jf_of {P : Program} {f : FuncId} {fn : Func} {s : ChangeSpec} {c : OpenClaim} (h0 : (c.wf (OpenSpec.ofChange s)) = true) (h1 : (laidOutB P) = true) (h2 : (mapsRowed P) = true) (h3 : (fn.params.all (P.readableRec ·)) = true) (h4 : (namedTie P c.named s.vars) = true) (h5 : ((c.stops == [])) = true) (h6 : ((P.stops == [])) = true) (h7 : ((c.knobs == [])) = true) (h8 : ((P.stopKnobs == [])) = true) (h9 : ((c.inPlace == P.inPlace f)) = true) (h10 : ((c.unfollowed == P.unfollowed f)) = true) (h11 : ((c.recurses == P.recurses f)) = true) (h12 : ((c.named == P.varsNamed f)) = true) (h13 : ((c.maps == (fn.params.toList ++ s.plain.varTypes P).any (P.mapsRec ·))) = true) (h14 : ((c.ifaces == (fn.params.toList ++ s.plain.varTypes P).any (P.ifacesRec ·))) = true) (h15 : ((c.mapsOut == P.mapsAmong fn.resultTypes.toList)) = true) (h16 : ((c.loops == (fn.params.toList ++ s.plain.varTypes P).any (P.loopsFrom ·))) = true) (h17 : ((c.wideKeys == (fn.params.toList ++ s.plain.varTypes P ++ fn.resultTypes.toList).any (P.wideKeysFrom ·))) = true) (h18 : (s.vars.all (P.varReadable ·)) = true) (h19 : (fn.resultTypes.all (fun t => P.readableRec t && decide (t < P.types.size))) = true) (h20 : ((c.ifacesOut == fn.resultTypes.toList.any (P.ifacesRec ·))) = true) (h21 : ((c.loopsOut == fn.resultTypes.toList.any (P.loopsFrom ·))) = true) (h22 : ((c.plainKeys == P.plainKeys)) = true) (h23 : (c.shortTexts.isNone) = true) (h24 : (P.stopsHeard) = true) (h25 : (P.mayEnter) = true) (h26 : ((c.lifted == P.liftsFinal)) = true) (h27 : ((P.make == some c.make)) = true) (h28 : ((c.kinds == (if c.domain.isEmpty then [] else fn.params.toList.map fun t => match P.underlying t with | some (.int k) => some k | _ => none))) = true) (h29 : ((c.pinned == c.pinnedBy)) = true) (h30 : ((c.veiled == (fn.params.toList ++ s.plain.varTypes P ++ fn.resultTypes.toList).any (P.veiledRec ·))) = true) (h31 : (c.veiledFits P fn.params.toList (fn.params.toList ++ s.plain.varTypes P ++ fn.resultTypes.toList)) = true) : joinedFacts P f fn s c = true := by
 unfold joinedFacts
 exact (and_tt (and_tt (and_tt (and_tt (and_tt (and_tt (and_tt (and_tt (and_tt (and_tt (and_tt (and_tt (and_tt (and_tt (and_tt (and_tt (and_tt (and_tt (and_tt (and_tt (and_tt (and_tt (and_tt (and_tt (and_tt (and_tt (and_tt (and_tt (and_tt (and_tt (and_tt h0 h1) h2) h3) h4) h5) h6) h7) h8) h9) h10) h11) h12) h13) h14) h15) h16) h17) h18) h19) h20) h21) h22) h23) h24) h25) h26) h27) h28) h29) h30) h31)
theorem jf_all : joinedFacts Tryz.pinned.checked.prog 3 Tryz.f3 Rows.boundsAccessesSpec Rows.boundsAccessesRow = true := jf_of jf_0 jf_1 jf_2 jf_3 jf_4 jf_5 jf_6 jf_7 jf_8 jf_9 jf_10 jf_11 jf_12 jf_13 jf_14 jf_15 jf_16 jf_17 jf_18 jf_19 jf_20 jf_21 jf_22 jf_23 jf_24 jf_25 jf_26 jf_27 jf_28 jf_29 jf_30 jf_31
end Go.Proofs.YtbblkakcadonjaaGreatDoor
