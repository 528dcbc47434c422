/- DualDifferentiates: what its row begins with. -/
import Derived.Test.YtfjnhdfhgenkdaaGreatDoorInX
import Derived.Test.YtfjnhdfhgenkdaaGreatDoorLaw
import Derived.Test.YtfjnhdfhgenkdaaGreatDoorTie
import Derived.Test.YtfjnhdfhgenkdaaGreatDoorCards
import Derived.LaidMore
import Derived.Lib.LaidTab
import Derived.SevenTiedAt
set_option linter.unusedVariables false
set_option linter.unusedSimpArgs false
namespace Go.Proofs.YtfjnhdfhgenkdaaGreatDoor
open Go.ChangeShapes Go.WideShapes Go.ChangeAt Go.RowKit Go.Abs

theorem gAscii : Tryz.prog.globalNamed "strings.asciiSpace" = some 0 := by kernel_rfl
theorem tAscii : (Tryz.prog.globals[0]?).map (·.type) = some 168 := by kernel_rfl
theorem tab_at : ∀ c, c < 256 → Lib.asciiSpaceTab[c]? = some (if Lib.isSp (UInt8.ofNat c) then 1 else 0) := by decide +kernel
theorem laid_tab : (Rows.laid_strings_asciiSpace : DataW Unit) = Lib.tabData .u8 Lib.asciiSpaceTab := by kernel_rfl
/-- What the row's condition gives the walks: the table of white space. -/
theorem glob_of_laid {W : World} (h : laidMetH Tryz.prog Rows.dualDifferentiatesRow.laid W) : Glob W := by
 rw [MakeChecks.laidMetH_plain _ _ _ (by kernel_rfl)] at h
 obtain ⟨ps, ⟨g0, t0, cs0, f0, p0, q0, hg0, ht0, hv0, hd0, ⟨g1, t1, cs1, f1, p1, q1, hg1, ht1, hv1, hd1, _, _⟩, _⟩, _, _⟩ := h
 obtain rfl := Option.some.inj (gAscii.symm.trans hg1)
 obtain rfl := Option.some.inj (tAscii.symm.trans ht1)
 have hd2 : _ = some (Lib.tabData .u8 Lib.asciiSpaceTab, p1) := hd1.trans (by rw [laid_tab])
 have hcs := Lib.cells_of_tab (zs := Lib.asciiSpaceTab) (k := .u8) (n := 256) (e := 5) (by kernel_rfl) (by kernel_rfl) (by kernel_rfl) (by kernel_rfl) hd2
 intro g hg c hc
 simp only [gTab, Option.some.injEq] at hg
 subst hg
 have h1 := World.var?_cell hg1 hv1 c
 rw [h1, ← Array.getElem?_toList, hcs, List.getElem?_map, tab_at c hc]
 rfl
theorem door_met (os : Os) (args : Array Value) : laidMetH Tryz.prog Rows.dualDifferentiatesRow.laid ((World.doorLaid Tryz.prog 400 os).forCall (fun _ _ => 0) ⟨#[], args, []⟩).memory :=
 laidMetH_of_parts3 (fuel := 8) (laidMet_of_run' 8 (by kernel_rfl) (by kernel_rfl)) (by kernel_rfl) (by kernel_rfl)

theorem sExpr : shE Tryz.prog 51 lE 9 51 = some (lE.map .t ++ [.ex lE]) := by kernel_rfl
theorem sProg : shE Tryz.prog 51 lE 9 27 = some lPrg := by kernel_rfl
theorem cExpr : Tryz.prog.cellsOf 51 = lE.length + 1 := by kernel_rfl

set_option maxRecDepth 100000 in
theorem dd_witness (os : Os) {H : Type} (enc : TypeId × Value → H) :
  ∃ (w : World) (tape : Tape) (i : Input), w.os = os ∧ (w.forCall tape i).Shaped Tryz.checked.prog ∧ i.vars = [] ∧ Input.okWide Tryz.checked.prog (w.forCall tape i) .any w.heap.size 3 i ∧
   ((Rows.dualDifferentiatesSpec.pre enc Tryz.checked.prog Tryz.f3 [] false (w.forCall tape i).memory i.args ∧ (fun w (_ : Array Value) => laidMetH Tryz.prog Rows.dualDifferentiatesRow.laid w) (w.forCall tape i).memory i.args) ∧ sizedMet enc Tryz.checked.prog Tryz.f3 (OpenSpec.ofChange Rows.dualDifferentiatesSpec) false (w.forCall tape i).memory i.args) ∧ ({ modest := false } : Assume).holds Tryz.checked.prog (lone (Frame.enter Tryz.checked.prog 3 i.args .normal) [] (w.forCall tape i)) :=
 ChangeSpec.witness_shaped (enc := enc) (C := Tryz.checked) (os := os) (X := fun w _ => laidMetH Tryz.prog Rows.dualDifferentiatesRow.laid w) false (World.doorLaid Tryz.prog 400 os) #[.agg #[.slice none 0 0, .slice none 0 0, .slice none 0 0, .slice none 0 0, .slice none 0 0]] 8 rfl (World.shaped_of_RefB (by kernel_rfl) (by kernel_rfl)) (by kernel_rfl) (by kernel_rfl) (by kernel_rfl) (door_met os _)
end Go.Proofs.YtfjnhdfhgenkdaaGreatDoor
