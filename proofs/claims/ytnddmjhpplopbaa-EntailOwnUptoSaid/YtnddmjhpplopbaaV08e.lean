/- The example of layer 8. -/
import Derived.Test.YtnddmjhpplopbaaV08d
import Derived.Test.YtnddmjhpplopbaaIn7
set_option linter.unusedVariables false
set_option linter.unusedSimpArgs false
set_option maxRecDepth 20000
namespace Go.Proofs.Ytnddmjhpplopbaa
open Go.Abs Go.RowKit

theorem law08_alive_abs : PCalls Try.prog n_law08_alive [] (Go.Abs.B true) := by
 refine PCalls.of is_law08_alive (by simp) fun hb => runW_sound ?_
 have h1 : ∀ d ∈ [alA (-5)], con64 d := fun d hd => by rw [List.mem_singleton.1 hd]; exact al_64 (by simp [in64])
 have p1 := entail_Implies_abs (l := [alA (-5)]) (c := alA (-3)) (fuel := 1048576) h1 (al_64 (by simp [in64])) (by simp) (by simp [tot]) (by simp [in64])
 have p2 := entail_Implies_abs (l := [alA (-5)]) (c := alA (-6)) (fuel := 1048576) h1 (al_64 (by simp [in64])) (by simp) (by simp [tot]) (by simp [in64])
 have p3 := entail_CheckCertificate_abs (l := [alA (-5)]) (c := alA (-3)) (b := [1, 1]) h1 (al_64 (by simp [in64])) (by simp) (by simp [tot]) (by simp [in64])
 rw [al_yes] at p1
 rw [al_no] at p2
 rw [al_check] at p3
 clear h1
 simp only [c_law08_alive]
 repeat' first | simp (disch := omega) only [go_sem, ↓reduceIte, Nat.reduceEqDiff, reduceCtorEq, Int.reduceEq] | ((with_reducible first | refine condD ?_ ?_ | refine condX ?_ ?_ | refine condW_intro ?_ ?_) <;> intro h <;> first | (exfalso; omega) | simp (disch := omega) only [go_sem, ↓reduceIte, Nat.reduceEqDiff, reduceCtorEq, Int.reduceEq, *] | skip) | (refine callW_of p1 rfl (.inr rfl) ?_) | (refine callW_of p2 rfl (.inr rfl) ?_) | (refine callW_of p3 rfl (.inl rfl) ?_)
 all_goals rfl
theorem smL_tot {l : List Con} {n : Int} (h : smL l n) : tot l ≤ 20 * l.length := by
 have h2 := h.2
 clear h
 induction l with
 | nil => simp [tot]
 | cons c l ih =>
  have h1 := (h2 c List.mem_cons_self).1
  have := ih fun d hd => h2 d (List.mem_cons_of_mem _ hd)
  simp only [tot, List.length_cons]
  omega
end Go.Proofs.Ytnddmjhpplopbaa
