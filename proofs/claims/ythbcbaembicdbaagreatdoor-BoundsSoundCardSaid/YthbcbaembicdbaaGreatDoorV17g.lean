import Derived.Test.YthbcbaembicdbaaGreatDoorV17e
set_option linter.unusedVariables false
set_option linter.unusedSimpArgs false
set_option maxRecDepth 20000
namespace Go.Proofs.YthbcbaembicdbaaGreatDoor
open Go.Abs Go.RowKit
theorem OV (l:List ByteArray):bC 1 (l.map λs=> [pS s]):=aQ λx=>rfl
end Go.Proofs.YthbcbaembicdbaaGreatDoor
