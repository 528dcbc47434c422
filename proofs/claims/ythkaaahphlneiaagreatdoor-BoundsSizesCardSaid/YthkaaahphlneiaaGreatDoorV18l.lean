import Derived.Test.YthkaaahphlneiaaGreatDoorV18h
set_option linter.unusedVariables false
set_option linter.unusedSimpArgs false
namespace Go.Proofs.YthkaaahphlneiaaGreatDoor
open Go.Abs Go.RowKit
theorem WL:ac Tryz.prog 24 [ej Lg,nI Zi,I 1048576] (Vw [] false):=zn (by decide+kernel)
end Go.Proofs.YthkaaahphlneiaaGreatDoor
