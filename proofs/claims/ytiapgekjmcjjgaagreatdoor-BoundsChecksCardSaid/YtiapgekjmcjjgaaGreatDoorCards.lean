/-
  DERIVED. GIVEN WITH THE SEED: THE CARDS: each row of YtiapgekjmcjjgaaGreatDoorRows.lean that lists a variable, with what it lists TIED to the program's text (the seventh form; the later family's looks); each row that meets fmt, with fmt's text TOLD by the authors' own Lean function (tested against real Go, not proved from fmt's source: count such statements apart). THE CARD IS WHAT COUNTS. Prove the row's statement (the work); the ties are given (YtiapgekjmcjjgaaGreatDoorTie.lean); close each card by the builder's one call (the guide's Derived/Test/ToyasCard.lean, 'card_holds'). Laid BY PROGRAM, IN A SANDBOX (cutbox-door.mjs). By AI agents, Wed Nov 11 2026. No macro, syntax, notation, axiom, sorry.
-/
import Derived.Test.YtiapgekjmcjjgaaGreatDoorRows
import GoSem.ClaimSeven
namespace Go.Proofs.YtiapgekjmcjjgaaGreatDoor
namespace Rows

/-- THE TIED CARD OF 'brocadelaw18.BoundsChecks'. -/
def boundsChecksCard : Claim7 := { stood := { row := boundsChecksRow, standIns := [], harness := (true, "9d79ceb1d6319efb5139b415193cfb5cd9849c4076c8d99645ab7909134262af"), looks := false }, kinds := [], alts := [], laidByText := true, laidKinds := [.listed, .data], laidTests := true, laidLooks := .later }
def BoundsChecksCardSaid : Prop := Claim7.holds Tryz.pinned (.plain (OpenSpec.ofChange boundsChecksSpec)) boundsChecksCard

/-- THE SECOND FORM's CARD OF 'brocadelaw18.BoundsChecks'. -/
def boundsChecksUptoCard : Claim7 := { stood := { row := boundsChecksUptoRow, standIns := [], harness := (true, "9d79ceb1d6319efb5139b415193cfb5cd9849c4076c8d99645ab7909134262af"), looks := false }, kinds := [], alts := [], laidByText := true, laidKinds := [.listed, .data], laidTests := true, laidLooks := .later }
def BoundsChecksUptoCardSaid : Prop := Claim7.holds Tryz.pinned (.plain (OpenSpec.upto boundsChecksSpec)) boundsChecksUptoCard
end Rows
end Go.Proofs.YtiapgekjmcjjgaaGreatDoor
