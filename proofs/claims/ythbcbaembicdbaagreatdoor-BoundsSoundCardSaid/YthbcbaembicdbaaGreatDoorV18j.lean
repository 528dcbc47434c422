import Derived.Test.YthbcbaembicdbaaGreatDoorV18h
set_option linter.unusedVariables false
set_option linter.unusedSimpArgs false
namespace Go.Proofs.YthbcbaembicdbaaGreatDoor
open Go.Abs Go.RowKit
theorem ZA:af Tryz.prog 11 [bR Mr,iG gl2,I 1048576] (Ya [0,0,1,1] true):=ze (by decide+kernel)
end Go.Proofs.YthbcbaembicdbaaGreatDoor
