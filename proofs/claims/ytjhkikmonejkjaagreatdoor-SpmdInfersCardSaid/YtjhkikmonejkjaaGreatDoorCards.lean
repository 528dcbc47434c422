/-
  DERIVED. GIVEN WITH THE SEED: THE CARDS: each row of YtjhkikmonejkjaaGreatDoorRows.lean that lists a variable, with what it lists TIED to the program's text (the seventh form; the later family's looks); each row that meets fmt, with fmt's text TOLD by the authors' own Lean function (tested against real Go, not proved from fmt's source: count such statements apart). THE CARD IS WHAT COUNTS. Prove the row's statement (the work); the ties are given (YtjhkikmonejkjaaGreatDoorTie.lean); close each card by the builder's one call (the guide's Derived/Test/ToyasCard.lean, 'card_holds'). Laid BY PROGRAM, IN A SANDBOX (cutbox-door.mjs). By AI agents, Wed Nov 11 2026. No macro, syntax, notation, axiom, sorry.
-/
import Derived.Test.YtjhkikmonejkjaaGreatDoorRows
import GoSem.ClaimSeven
namespace Go.Proofs.YtjhkikmonejkjaaGreatDoor
namespace Rows

/-- THE TIED CARD OF 'brocadelaw54.SpmdInfers'. -/
def spmdInfersCard : Claim7 := { stood := { row := spmdInfersRow, standIns := [], harness := (true, "a6424b78514083ad1e044613bd3883ed9b2a6d853e246d80c89780f480a3ec7b"), looks := false }, kinds := [], alts := [], laidByText := true, laidKinds := [.listed, .data], laidTests := true, laidLooks := .later }
def SpmdInfersCardSaid : Prop := Claim7.holds Tryz.pinned (.plain (OpenSpec.ofChange spmdInfersSpec)) spmdInfersCard

/-- THE SECOND FORM's CARD OF 'brocadelaw54.SpmdInfers'. -/
def spmdInfersUptoCard : Claim7 := { stood := { row := spmdInfersUptoRow, standIns := [], harness := (true, "a6424b78514083ad1e044613bd3883ed9b2a6d853e246d80c89780f480a3ec7b"), looks := false }, kinds := [], alts := [], laidByText := true, laidKinds := [.listed, .data], laidTests := true, laidLooks := .later }
def SpmdInfersUptoCardSaid : Prop := Claim7.holds Tryz.pinned (.plain (OpenSpec.upto spmdInfersSpec)) spmdInfersUptoCard
end Rows
end Go.Proofs.YtjhkikmonejkjaaGreatDoor
