import Derived.Test.YthkaaahphlneiaaGreatDoorV18i
import Derived.Test.YthkaaahphlneiaaGreatDoorV18j
import Derived.Test.YthkaaahphlneiaaGreatDoorV18k
import Derived.Test.YthkaaahphlneiaaGreatDoorV18l
set_option linter.unusedVariables false
set_option linter.unusedSimpArgs false
namespace Go.Proofs.YthkaaahphlneiaaGreatDoor
open Go.Abs Go.RowKit
noncomputable def Wv:List (Nat×List AV×AV):= [(ei, [fK (sH 0)],.tup [I 0,I 0]),(ei, [fK (sH 1)],.tup [I 0,I 0]),(gk, [fK (sH 0)],fK (sH 0)),(gk, [fK (sH 1)],fK (sH 1)),
 (24, [ej Lg,nI Zl,I 1048576],Vw [0,1,0,1] true),(24, [ej Lg,nI Zm,I 1048576],Vw [0,0,1,1] true),
 (24, [ej Lg,nI Zn,I 1048576],Vw [0,1,0,1] true),(24, [ej Lg,nI Zi,I 1048576],Vw [] false)]
theorem UJ: ∀e∈Wv,ac Tryz.prog e.1 e.2.1 e.2.2:=by
 intro e he
 simp only[Wv,List.mem_cons,List.not_mem_nil,or_false]at he
 rcases he with rfl|rfl|rfl|rfl|rfl|rfl|rfl|rfl
 ·exact OG 0
 ·exact OG 1
 ·exact Sr 0
 ·exact Sr 1
 ·exact Wn
 ·exact Wy
 ·exact Wq
 ·exact WL
theorem Cc:ac Tryz.prog 5 [] (Go.Abs.B true):=
 ac.run (VY Wv) (fun f=>Nat.beq f 64) 1000 60 (OF UJ) (Oc (by decide+kernel))
end Go.Proofs.YthkaaahphlneiaaGreatDoor
