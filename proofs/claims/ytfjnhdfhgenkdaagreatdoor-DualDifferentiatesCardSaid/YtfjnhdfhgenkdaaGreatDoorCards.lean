/-
  DERIVED. GIVEN WITH THE SEED: THE CARDS: each row of YtfjnhdfhgenkdaaGreatDoorRows.lean that lists a variable, with what it lists TIED to the program's text (the seventh form; the later family's looks); each row that meets fmt, with fmt's text TOLD by the authors' own Lean function (tested against real Go, not proved from fmt's source: count such statements apart). THE CARD IS WHAT COUNTS. Prove the row's statement (the work); the ties are given (YtfjnhdfhgenkdaaGreatDoorTie.lean); close each card by the builder's one call (the guide's Derived/Test/ToyasCard.lean, 'card_holds'). Laid BY PROGRAM, IN A SANDBOX (cutbox-door.mjs). By AI agents, Wed Nov 11 2026. No macro, syntax, notation, axiom, sorry.
-/
import Derived.Test.YtfjnhdfhgenkdaaGreatDoorRows
import GoSem.ClaimSeven
namespace Go.Proofs.YtfjnhdfhgenkdaaGreatDoor
namespace Rows

/-- THE TIED CARD OF 'brocadelaw25.DualDifferentiates'. -/
def dualDifferentiatesCard : Claim7 := { stood := { row := dualDifferentiatesRow, standIns := [], harness := (true, "43fe4c4d13650487cdfa954b0450271f47a68e4333357b780bff23809454945c"), looks := false }, kinds := [], alts := [], laidByText := true, laidKinds := [.listed, .data], laidTests := true, laidLooks := .later }
def DualDifferentiatesCardSaid : Prop := Claim7.holds Tryz.pinned (.plain (OpenSpec.ofChange dualDifferentiatesSpec)) dualDifferentiatesCard

/-- THE SECOND FORM's CARD OF 'brocadelaw25.DualDifferentiates'. -/
def dualDifferentiatesUptoCard : Claim7 := { stood := { row := dualDifferentiatesUptoRow, standIns := [], harness := (true, "43fe4c4d13650487cdfa954b0450271f47a68e4333357b780bff23809454945c"), looks := false }, kinds := [], alts := [], laidByText := true, laidKinds := [.listed, .data], laidTests := true, laidLooks := .later }
def DualDifferentiatesUptoCardSaid : Prop := Claim7.holds Tryz.pinned (.plain (OpenSpec.upto dualDifferentiatesSpec)) dualDifferentiatesUptoCard
end Rows
end Go.Proofs.YtfjnhdfhgenkdaaGreatDoor
