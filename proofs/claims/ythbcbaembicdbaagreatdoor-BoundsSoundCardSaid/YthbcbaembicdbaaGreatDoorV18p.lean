import Derived.Test.YthbcbaembicdbaaGreatDoorV18i
import Derived.Test.YthbcbaembicdbaaGreatDoorV18j
import Derived.Test.YthbcbaembicdbaaGreatDoorV18k
import Derived.Test.YthbcbaembicdbaaGreatDoorV18l
set_option linter.unusedVariables false
set_option linter.unusedSimpArgs false
namespace Go.Proofs.YthbcbaembicdbaaGreatDoor
open Go.Abs Go.RowKit
noncomputable def YS:List (Nat×List AV×AV):= [(d7, [jE (tp 0)],.tup [I 0,I 0]),(d7, [jE (tp 1)],.tup [I 0,I 0]),(gl, [jE (tp 0)],jE (tp 0)),(gl, [jE (tp 1)],jE (tp 1)),
 (11, [bR Mr,iG gl1,I 1048576],Ya [0,1,0,1] true),(11, [bR Mr,iG gl2,I 1048576],Ya [0,0,1,1] true),
 (11, [bR Mr,iG gl3,I 1048576],Ya [0,1,0,1] true),(11, [bR Mr,iG gl4,I 1048576],Ya [] false)]
theorem Xr: ∀e∈YS,af Tryz.prog e.1 e.2.1 e.2.2:=by
 intro e he
 simp only[YS,List.mem_cons,List.not_mem_nil,or_false]at he
 rcases he with rfl|rfl|rfl|rfl|rfl|rfl|rfl|rfl
 ·exact Ps 0
 ·exact Ps 1
 ·exact Uz 0
 ·exact Uz 1
 ·exact YA
 ·exact ZA
 ·exact ZC
 ·exact YU
theorem Cl:af Tryz.prog 7 [] (Go.Abs.B true):=
 af.run (YN YS) (λf=>Nat.beq f 58) 1000 60 (OT Xr) (OZ (by decide+kernel))
end Go.Proofs.YthbcbaembicdbaaGreatDoor
