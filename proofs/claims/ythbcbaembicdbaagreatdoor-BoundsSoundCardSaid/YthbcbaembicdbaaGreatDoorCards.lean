/-
  DERIVED. GIVEN WITH THE SEED: THE CARDS: each row of YthbcbaembicdbaaGreatDoorRows.lean that lists a variable, with what it lists TIED to the program's text (the seventh form; the later family's looks); each row that meets fmt, with fmt's text TOLD by the authors' own Lean function (tested against real Go, not proved from fmt's source: count such statements apart). THE CARD IS WHAT COUNTS. Prove the row's statement (the work); the ties are given (YthbcbaembicdbaaGreatDoorTie.lean); close each card by the builder's one call (the guide's Derived/Test/ToyasCard.lean, 'card_holds'). Laid BY PROGRAM, IN A SANDBOX (cutbox-door.mjs). By AI agents, Wed Nov 11 2026. No macro, syntax, notation, axiom, sorry.
-/
import Derived.Test.YthbcbaembicdbaaGreatDoorRows
import GoSem.ClaimSeven
namespace Go.Proofs.YthbcbaembicdbaaGreatDoor
namespace Rows

/-- THE TIED CARD OF 'brocadelaw18.BoundsProves'. -/
def boundsProvesCard : Claim7 := { stood := { row := boundsProvesRow, standIns := [], harness := (true, "900f16b3bf2accda9b58be50477faca9f89f8b3084ed039d51e06d43e8681ba3"), looks := false }, kinds := [], alts := [], laidByText := true, laidKinds := [.listed, .data], laidTests := true, laidLooks := .later }
def BoundsProvesCardSaid : Prop := Claim7.holds Tryz.pinned (.plain (OpenSpec.ofChange boundsProvesSpec)) boundsProvesCard

/-- THE TIED CARD OF 'brocadelaw18.BoundsChecks'. -/
def boundsChecksCard : Claim7 := { stood := { row := boundsChecksRow, standIns := [], harness := (true, "900f16b3bf2accda9b58be50477faca9f89f8b3084ed039d51e06d43e8681ba3"), looks := false }, kinds := [], alts := [], laidByText := true, laidKinds := [.listed, .data], laidTests := true, laidLooks := .later }
def BoundsChecksCardSaid : Prop := Claim7.holds Tryz.pinned (.plain (OpenSpec.ofChange boundsChecksSpec)) boundsChecksCard

/-- THE TIED CARD OF 'brocadelaw18.BoundsSound'. -/
def boundsSoundCard : Claim7 := { stood := { row := boundsSoundRow, standIns := [], harness := (true, "900f16b3bf2accda9b58be50477faca9f89f8b3084ed039d51e06d43e8681ba3"), looks := false }, kinds := [], alts := [], laidByText := true, laidKinds := [.listed, .data], laidTests := true, laidLooks := .later }
def BoundsSoundCardSaid : Prop := Claim7.holds Tryz.pinned (.plain (OpenSpec.ofChange boundsSoundSpec)) boundsSoundCard

/-- THE SECOND FORM's CARD OF 'brocadelaw18.BoundsProves'. -/
def boundsProvesUptoCard : Claim7 := { stood := { row := boundsProvesUptoRow, standIns := [], harness := (true, "900f16b3bf2accda9b58be50477faca9f89f8b3084ed039d51e06d43e8681ba3"), looks := false }, kinds := [], alts := [], laidByText := true, laidKinds := [.listed, .data], laidTests := true, laidLooks := .later }
def BoundsProvesUptoCardSaid : Prop := Claim7.holds Tryz.pinned (.plain (OpenSpec.upto boundsProvesSpec)) boundsProvesUptoCard

/-- THE SECOND FORM's CARD OF 'brocadelaw18.BoundsChecks'. -/
def boundsChecksUptoCard : Claim7 := { stood := { row := boundsChecksUptoRow, standIns := [], harness := (true, "900f16b3bf2accda9b58be50477faca9f89f8b3084ed039d51e06d43e8681ba3"), looks := false }, kinds := [], alts := [], laidByText := true, laidKinds := [.listed, .data], laidTests := true, laidLooks := .later }
def BoundsChecksUptoCardSaid : Prop := Claim7.holds Tryz.pinned (.plain (OpenSpec.upto boundsChecksSpec)) boundsChecksUptoCard

/-- THE SECOND FORM's CARD OF 'brocadelaw18.BoundsSound'. -/
def boundsSoundUptoCard : Claim7 := { stood := { row := boundsSoundUptoRow, standIns := [], harness := (true, "900f16b3bf2accda9b58be50477faca9f89f8b3084ed039d51e06d43e8681ba3"), looks := false }, kinds := [], alts := [], laidByText := true, laidKinds := [.listed, .data], laidTests := true, laidLooks := .later }
def BoundsSoundUptoCardSaid : Prop := Claim7.holds Tryz.pinned (.plain (OpenSpec.upto boundsSoundSpec)) boundsSoundUptoCard
end Rows
end Go.Proofs.YthbcbaembicdbaaGreatDoor
