import Derived.Test.YtiapgekjmcjjgaaGreatDoorLaw
import Derived.Test.YtiapgekjmcjjgaaGreatDoorAbs28
import Derived.Lib.Hide
set_option linter.unusedVariables false
set_option linter.unusedSimpArgs false
set_option maxRecDepth 20000
namespace Go.Proofs.YtiapgekjmcjjgaaGreatDoor
open Go.Abs Go.RowKit
def vb:Int→List Int→Int
 |_, []=>0
 |p,n::r=>if 65536/p<n then 2 else vb (p*n) r
end Go.Proofs.YtiapgekjmcjjgaaGreatDoor
