/- Prove on the two programs, and alive. -/
import Derived.Test.YtbblkakcadonjaaGreatDoorV18i
import Derived.Test.YtbblkakcadonjaaGreatDoorV18j
import Derived.Test.YtbblkakcadonjaaGreatDoorV18k
import Derived.Test.YtbblkakcadonjaaGreatDoorV18l
set_option linter.unusedVariables false
set_option linter.unusedSimpArgs false
namespace Go.Proofs.YtbblkakcadonjaaGreatDoor
open Go.Abs Go.RowKit

noncomputable def tabA : List (Nat × List AV × AV) := [(n_program_Validate, [aPrg (prA 0)], .tup [I 0, I 0]), (n_program_Validate, [aPrg (prA 1)], .tup [I 0, I 0]), (n_program_Copy, [aPrg (prA 0)], aPrg (prA 0)), (n_program_Copy, [aPrg (prA 1)], aPrg (prA 1)),
 (19, [aCons prmA, aCon gl1, I 1048576], crt [0, 1, 0, 1] true), (19, [aCons prmA, aCon gl2, I 1048576], crt [0, 0, 1, 1] true),
 (19, [aCons prmA, aCon gl3, I 1048576], crt [0, 1, 0, 1] true), (19, [aCons prmA, aCon gl4, I 1048576], crt [] false)]
theorem tabA_ok : ∀ e ∈ tabA, PCalls Tryz.prog e.1 e.2.1 e.2.2 := by
 intro e he
 simp only [tabA, List.mem_cons, List.not_mem_nil, or_false] at he
 rcases he with rfl | rfl | rfl | rfl | rfl | rfl | rfl | rfl
 ·exact valid_A 0
 ·exact valid_A 1
 ·exact copy_A 0
 ·exact copy_A 1
 ·exact impl_1
 ·exact impl_2
 ·exact impl_3
 ·exact impl_4
theorem law18_alive_abs : PCalls Tryz.prog 5 [] (Go.Abs.B true) :=
 PCalls.run (tabO tabA) (fun f => Nat.beq f 39) 1000 60 (tabO_ok tabA_ok) (optB_eq (by decide +kernel))
end Go.Proofs.YtbblkakcadonjaaGreatDoor
