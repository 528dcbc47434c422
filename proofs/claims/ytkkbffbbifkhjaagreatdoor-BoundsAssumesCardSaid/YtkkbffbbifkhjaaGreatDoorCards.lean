/-
  DERIVED. GIVEN WITH THE SEED: THE CARDS: each row of YtkkbffbbifkhjaaGreatDoorRows.lean that lists a variable, with what it lists TIED to the program's text (the seventh form; the later family's looks); each row that meets fmt, with fmt's text TOLD by the authors' own Lean function (tested against real Go, not proved from fmt's source: count such statements apart). THE CARD IS WHAT COUNTS. Prove the row's statement (the work); the ties are given (YtkkbffbbifkhjaaGreatDoorTie.lean); close each card by the builder's one call (the guide's Derived/Test/ToyasCard.lean, 'card_holds'). Laid BY PROGRAM, IN A SANDBOX (cutbox-door.mjs). By AI agents, Wed Nov 11 2026. No macro, syntax, notation, axiom, sorry.
-/
import Derived.Test.YtkkbffbbifkhjaaGreatDoorRows
import GoSem.ClaimSeven
namespace Go.Proofs.YtkkbffbbifkhjaaGreatDoor
namespace Rows

/-- THE TIED CARD OF 'brocadelaw18.BoundsAssumes'. -/
def boundsAssumesCard : Claim7 := { stood := { row := boundsAssumesRow, standIns := [], harness := (true, "42a3276aac0c60cf7f43dea0df052b661cfa9af205f91c68775e4605eabef5dc"), looks := false }, kinds := [], alts := [], laidByText := true, laidKinds := [.listed, .data], laidTests := true, laidLooks := .later }
def BoundsAssumesCardSaid : Prop := Claim7.holds Tryz.pinned (.plain (OpenSpec.ofChange boundsAssumesSpec)) boundsAssumesCard

/-- THE SECOND FORM's CARD OF 'brocadelaw18.BoundsAssumes'. -/
def boundsAssumesUptoCard : Claim7 := { stood := { row := boundsAssumesUptoRow, standIns := [], harness := (true, "42a3276aac0c60cf7f43dea0df052b661cfa9af205f91c68775e4605eabef5dc"), looks := false }, kinds := [], alts := [], laidByText := true, laidKinds := [.listed, .data], laidTests := true, laidLooks := .later }
def BoundsAssumesUptoCardSaid : Prop := Claim7.holds Tryz.pinned (.plain (OpenSpec.upto boundsAssumesSpec)) boundsAssumesUptoCard
end Rows
end Go.Proofs.YtkkbffbbifkhjaaGreatDoor
