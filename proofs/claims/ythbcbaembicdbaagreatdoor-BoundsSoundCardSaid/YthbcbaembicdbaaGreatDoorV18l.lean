import Derived.Test.YthbcbaembicdbaaGreatDoorV18h
set_option linter.unusedVariables false
set_option linter.unusedSimpArgs false
namespace Go.Proofs.YthbcbaembicdbaaGreatDoor
open Go.Abs Go.RowKit
theorem YU:af Tryz.prog 11 [bR Mr,iG gl4,I 1048576] (Ya [] false):=ze (by decide+kernel)
end Go.Proofs.YthbcbaembicdbaaGreatDoor
