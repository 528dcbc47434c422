import Derived.Test.YtiapgekjmcjjgaaGreatDoorLaw
import Derived.Test.YtiapgekjmcjjgaaGreatDoorAbs28
set_option linter.unusedVariables false
set_option linter.unusedSimpArgs false
set_option maxRecDepth 20000
namespace Go.Proofs.YtiapgekjmcjjgaaGreatDoor
open Go.Abs Go.RowKit
def VV (k:IntKind) (n:Int):Int:=k.wrap (BitVec.ofInt k.bits (if k.signed then-1 else k.max)^^^BitVec.ofInt k.bits n).toNat
theorem Qy {P:Program} {x:AX} {σ:St} {K:AV→St→Prop}:bR P (.un .xor x) σ K=(match x.ev σ.fr with
  | .c (.pure (.val (.int k n)))=>K (.c (.pure (.val (.int k (VV k n))))) σ
  |_=>False):=by
 rw[N9]
 generalize AX.ev σ.fr x=v
 cases v with
 |c a=>
  cases a with
  |pure q=>
   cases q with
   |val u=>cases u<;>rfl
   |_=>rfl
  |_=>rfl
 |_=>rfl
attribute [go_sem ↓ high] Qy
end Go.Proofs.YtiapgekjmcjjgaaGreatDoor
