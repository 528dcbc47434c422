/- A run of entail.Implies. -/
import Derived.Test.YtkkbffbbifkhjaaGreatDoorV18h
namespace Go.Proofs.YtkkbffbbifkhjaaGreatDoor
open Go.Abs Go.RowKit

theorem impl_4 : PCalls Tryz.prog 22 [aCons prmA, aCon gl4, I 1048576] (crt [] false) := run_impl (by decide +kernel)
end Go.Proofs.YtkkbffbbifkhjaaGreatDoor
