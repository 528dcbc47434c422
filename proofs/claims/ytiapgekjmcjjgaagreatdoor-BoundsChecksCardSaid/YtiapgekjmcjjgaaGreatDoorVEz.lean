import Derived.Test.YtiapgekjmcjjgaaGreatDoorV18A
import Derived.Test.YtiapgekjmcjjgaaGreatDoorVEv
import Derived.Test.YtiapgekjmcjjgaaGreatDoorV05c
import Derived.Test.YtiapgekjmcjjgaaGreatDoorVBx
set_option linter.unusedVariables false
set_option linter.unusedSimpArgs false
set_option maxRecDepth 20000
namespace Go.Proofs.YtiapgekjmcjjgaaGreatDoor
open Go.Abs Go.RowKit
def Vu (p:bG):Prop:= ∀d∈p.defs,d.dims.length≤1000∧d.red.length≤1000∧ ∀a∈d.dims++d.red,bl a.2
def VR (p:bG):Prop:=Ci p∧Vu p∧(∀s∈p.sizes,fW s)∧(∀c∈p.wher,br c)
