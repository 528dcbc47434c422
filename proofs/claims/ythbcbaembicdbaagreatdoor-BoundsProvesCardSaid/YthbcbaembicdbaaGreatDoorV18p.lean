import Derived.Test.YthbcbaembicdbaaGreatDoorV18i
import Derived.Test.YthbcbaembicdbaaGreatDoorV18j
import Derived.Test.YthbcbaembicdbaaGreatDoorV18k
import Derived.Test.YthbcbaembicdbaaGreatDoorV18l
namespace Go.Proofs.YthbcbaembicdbaaGreatDoor
open Go.Abs Go.RowKit
noncomputable def aae:List (Nat×List AV×AV):= [(eO, [fO (tT 0)],.tup [I 0,I 0]),(eO, [fO (tT 1)],.tup [I 0,I 0]),(gO, [fO (tT 0)],fO (tT 0)),(gO, [fO (tT 1)],fO (tT 1)),
 (11, [bT NW,jM gl1,I 1048576],ZD [0,1,0,1] true),(11, [bT NW,jM gl2,I 1048576],ZD [0,0,1,1] true),
 (11, [bT NW,jM gl3,I 1048576],ZD [0,1,0,1] true),(11, [bT NW,jM gl4,I 1048576],ZD [] false)]
theorem X5: ∀e∈aae,ac Tryz.prog e.1 e.2.1 e.2.2:=by
 intro e he
 simp only[aae,List.mem_cons,List.not_mem_nil,or_false]at he
 rcases he with rfl|rfl|rfl|rfl|rfl|rfl|rfl|rfl
 ·exact Ry 0
 ·exact Ry 1
 ·exact UO 0
 ·exact UO 1
 ·exact aa2
 ·exact aas
 ·exact aaq
 ·exact aaQ
theorem ER:ac Tryz.prog 7 [] (Go.Abs.B true):=
 ac.run (aau aae) (λf=>Nat.beq f 58) 1000 60 (RS X5) (Rj (by decide+kernel))
