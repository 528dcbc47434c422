/-
  DERIVED. GIVEN WITH THE SEED: THE CARDS: each row of YthkaaahphlneiaaGreatDoorRows.lean that lists a variable, with what it lists TIED to the program's text (the seventh form; the later family's looks); each row that meets fmt, with fmt's text TOLD by the authors' own Lean function (tested against real Go, not proved from fmt's source: count such statements apart). THE CARD IS WHAT COUNTS. Prove the row's statement (the work); the ties are given (YthkaaahphlneiaaGreatDoorTie.lean); close each card by the builder's one call (the guide's Derived/Test/ToyasCard.lean, 'card_holds'). Laid BY PROGRAM, IN A SANDBOX (cutbox-door.mjs). By AI agents, Wed Nov 11 2026. No macro, syntax, notation, axiom, sorry.
-/
import Derived.Test.YthkaaahphlneiaaGreatDoorRows
import GoSem.ClaimSeven
namespace Go.Proofs.YthkaaahphlneiaaGreatDoor
namespace Rows

/-- THE TIED CARD OF 'brocadelaw18.BoundsSizes'. -/
def boundsSizesCard : Claim7 := { stood := { row := boundsSizesRow, standIns := [], harness := (true, "6aaeb532108329ca4a8f7494dc8ea30055125d93296309dfdc986021c10c32db"), looks := false }, kinds := [], alts := [], laidByText := true, laidKinds := [.listed, .data], laidTests := true, laidLooks := .later }
def BoundsSizesCardSaid : Prop := Claim7.holds Tryz.pinned (.plain (OpenSpec.ofChange boundsSizesSpec)) boundsSizesCard

/-- THE SECOND FORM's CARD OF 'brocadelaw18.BoundsSizes'. -/
def boundsSizesUptoCard : Claim7 := { stood := { row := boundsSizesUptoRow, standIns := [], harness := (true, "6aaeb532108329ca4a8f7494dc8ea30055125d93296309dfdc986021c10c32db"), looks := false }, kinds := [], alts := [], laidByText := true, laidKinds := [.listed, .data], laidTests := true, laidLooks := .later }
def BoundsSizesUptoCardSaid : Prop := Claim7.holds Tryz.pinned (.plain (OpenSpec.upto boundsSizesSpec)) boundsSizesUptoCard
end Rows
end Go.Proofs.YthkaaahphlneiaaGreatDoor
