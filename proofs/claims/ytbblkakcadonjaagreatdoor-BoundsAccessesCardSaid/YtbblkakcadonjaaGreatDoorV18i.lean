/- A run of entail.Implies. -/
import Derived.Test.YtbblkakcadonjaaGreatDoorV18h
namespace Go.Proofs.YtbblkakcadonjaaGreatDoor
open Go.Abs Go.RowKit

theorem impl_1 : PCalls Tryz.prog 19 [aCons prmA, aCon gl1, I 1048576] (crt [0, 1, 0, 1] true) := run_impl (by decide +kernel)
end Go.Proofs.YtbblkakcadonjaaGreatDoor
