/-
  DERIVED. GIVEN WITH THE SEED: THE CARDS: each row of YtbblkakcadonjaaGreatDoorRows.lean that lists a variable, with what it lists TIED to the program's text (the seventh form; the later family's looks); each row that meets fmt, with fmt's text TOLD by the authors' own Lean function (tested against real Go, not proved from fmt's source: count such statements apart). THE CARD IS WHAT COUNTS. Prove the row's statement (the work); the ties are given (YtbblkakcadonjaaGreatDoorTie.lean); close each card by the builder's one call (the guide's Derived/Test/ToyasCard.lean, 'card_holds'). Laid BY PROGRAM, IN A SANDBOX (cutbox-door.mjs). By AI agents, Wed Nov 11 2026. No macro, syntax, notation, axiom, sorry.
-/
import Derived.Test.YtbblkakcadonjaaGreatDoorRows
import GoSem.ClaimSeven
namespace Go.Proofs.YtbblkakcadonjaaGreatDoor
namespace Rows

/-- THE TIED CARD OF 'brocadelaw18.BoundsAccesses'. -/
def boundsAccessesCard : Claim7 := { stood := { row := boundsAccessesRow, standIns := [], harness := (true, "2b81d12061fb0efe9c5aaf7fd110d132691c4dd285a14327c1eb331c066edf92"), looks := false }, kinds := [], alts := [], laidByText := true, laidKinds := [.listed, .data], laidTests := true, laidLooks := .later }
def BoundsAccessesCardSaid : Prop := Claim7.holds Tryz.pinned (.plain (OpenSpec.ofChange boundsAccessesSpec)) boundsAccessesCard

/-- THE SECOND FORM's CARD OF 'brocadelaw18.BoundsAccesses'. -/
def boundsAccessesUptoCard : Claim7 := { stood := { row := boundsAccessesUptoRow, standIns := [], harness := (true, "2b81d12061fb0efe9c5aaf7fd110d132691c4dd285a14327c1eb331c066edf92"), looks := false }, kinds := [], alts := [], laidByText := true, laidKinds := [.listed, .data], laidTests := true, laidLooks := .later }
def BoundsAccessesUptoCardSaid : Prop := Claim7.holds Tryz.pinned (.plain (OpenSpec.upto boundsAccessesSpec)) boundsAccessesUptoCard
end Rows
end Go.Proofs.YtbblkakcadonjaaGreatDoor
