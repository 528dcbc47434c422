/- A run of entail.Implies. -/
import Derived.Test.YtbblkakcadonjaaGreatDoorV18h
namespace Go.Proofs.YtbblkakcadonjaaGreatDoor
open Go.Abs Go.RowKit

theorem impl_4 : PCalls Tryz.prog 19 [aCons prmA, aCon gl4, I 1048576] (crt [] false) := run_impl (by decide +kernel)
end Go.Proofs.YtbblkakcadonjaaGreatDoor
