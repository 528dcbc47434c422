import Derived.Test.YtiapgekjmcjjgaaGreatDoorV12a
set_option linter.unusedVariables false
set_option linter.unusedSimpArgs false
set_option maxRecDepth 20000
namespace Go.Proofs.YtiapgekjmcjjgaaGreatDoor
open Go.Abs Go.RowKit
abbrev u64 (n:Int):AC:= .pure (.val (.int .u64 n))
end Go.Proofs.YtiapgekjmcjjgaaGreatDoor
