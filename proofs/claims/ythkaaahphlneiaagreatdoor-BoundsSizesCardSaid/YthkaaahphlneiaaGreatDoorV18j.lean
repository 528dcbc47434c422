import Derived.Test.YthkaaahphlneiaaGreatDoorV18h
set_option linter.unusedVariables false
set_option linter.unusedSimpArgs false
namespace Go.Proofs.YthkaaahphlneiaaGreatDoor
open Go.Abs Go.RowKit
theorem Wy:ac Tryz.prog 24 [ej Lg,nI Zm,I 1048576] (Vw [0,0,1,1] true):=zn (by decide+kernel)
end Go.Proofs.YthkaaahphlneiaaGreatDoor
