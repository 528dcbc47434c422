/- Walks: the points of a box, collected. -/
import Derived.Test.YtehjbfljenpfoaaVIo
import Derived.Test.YtehjbfljenpfoaaV9x
set_option linter.unusedVariables false
set_option linter.unusedSimpArgs false
set_option maxRecDepth 20000
namespace Go.Proofs.Ytehjbfljenpfoaa
open Go.Abs Go.RowKit

def refsC (nx k : Nat) : List (List AC) := (List.range k).map fun i => [.ref (nx + 3 + 2 * i)]
theorem refsC_succ (nx k : Nat) : refsC nx (k + 1) = refsC nx k ++ [[.ref (nx + 3 + 2 * k)]] := by
 rw [refsC, List.range_succ, List.map_append]
 rfl
theorem refsC_len (nx k : Nat) : (refsC nx k).length = k := by simp [refsC]
def cM (nx : Nat) (mem : List (Nat × Box)) (m : Int) (pt : Nat → List Int) : Nat → List (Nat × Box)
 | 0 => (nx + 2, .arn 22 1 []) :: (nx + 1, .var [.ref (nx + 2)]) :: (nx, .var [.pure (pI m)]) :: mem
 | k + 1 => (nx + 3 + 2 * k + 1, .arn 22 1 (refsC nx k ++ [[.ref (nx + 3 + 2 * k)]])) :: (nx + 3 + 2 * k, .arr 3 1 (ptR (pt k))) :: setB (delB (cM nx mem m pt k) (nx + 2 + 2 * k)) (nx + 1) (.var [.ref (nx + 3 + 2 * k + 1)])
section
variable {nx : Nat} {mem : List (Nat × Box)} {m : Int} {pt : Nat → List Int}
theorem cM_other {k nm : Nat} (h1 : nm ≠ nx + 1) (h2 : nm ≠ nx + 3 + 2 * k + 1) (h3 : nm ≠ nx + 2 + 2 * k) (h4 : nm ≠ nx + 3 + 2 * k) : findB (cM nx mem m pt (k + 1)) nm = findB (cM nx mem m pt k) nm := by
 rw [cM, findB_cons, if_neg (by omega), findB_cons, if_neg (by omega), findB_setB, if_neg (by omega), findB_delB, if_neg h3]
theorem cM_var : ∀ k, findB (cM nx mem m pt k) (nx + 1) = some (.var [.ref (nx + 2 + 2 * k)])
 | 0 => by rw [cM, findB_cons, if_neg (by omega), findB_cons, if_pos rfl]
 |k + 1 => by
  have ih := cM_var k
  rw [cM, findB_cons, if_neg (by omega), findB_cons, if_neg (by omega), findB_setB, if_pos rfl, findB_delB, if_neg (by omega), ih]
  simp only [Option.map_some]
  rw [show nx + 3 + 2 * k + 1 = nx + 2 + 2 * (k + 1) by omega]
theorem cM_m : ∀ k, findB (cM nx mem m pt k) nx = some (.var [.pure (pI m)])
 | 0 => by rw [cM, findB_cons, if_neg (by omega), findB_cons, if_neg (by omega), findB_cons, if_pos rfl]
 | k + 1 => by rw [cM_other (by omega) (by omega) (by omega) (by omega)]; exact cM_m k
theorem cM_arn : ∀ k, findB (cM nx mem m pt k) (nx + 2 + 2 * k) = some (.arn 22 1 (refsC nx k))
 | 0 => by rw [cM, findB_cons, if_pos (by omega)]; rfl
 | k + 1 => by rw [cM, findB_cons, if_pos (by omega), refsC_succ]
theorem cM_row : ∀ {k i : Nat}, i < k → findB (cM nx mem m pt k) (nx + 3 + 2 * i) = some (.arr 3 1 (ptR (pt i)))
 | 0, i, h => by omega
 |k + 1, i, h => by
  by_cases e : i = k
  ·subst e
   rw [cM, findB_cons, if_neg (by omega), findB_cons, if_pos rfl]
  ·rw [cM_other (by omega) (by omega) (by omega) (by omega)]
   exact cM_row (by omega)
theorem cM_old {nm : Nat} (h : nm < nx) : ∀ k, findB (cM nx mem m pt k) nm = findB mem nm
 | 0 => by rw [cM, findB_cons, if_neg (by omega), findB_cons, if_neg (by omega), findB_cons, if_neg (by omega)]
 | k + 1 => by rw [cM_other (by omega) (by omega) (by omega) (by omega)]; exact cM_old h k
end
theorem collect_none {xs : List Int} {m : Int} (hx : xs.length ≤ 1000) (h : m ≤ 0) (mem : List (Nat × Box)) (nx : Nat) : ICalls Try.prog n_law09_collect [aInts xs, I m] mem nx (.c .nils) ((nx + 1, .var [.nils]) :: (nx, .var [.pure (pI m)]) :: mem) (nx + 2) := by
 refine ICalls.of is_law09_collect (by simp) fun hb => runW_sound ?_
 have c1 := box_All_abs xs (by omega)
 simp only [c_law09_collect]
 clear hb
 have e1 : ¬ nx + 1 = nx := by omega
 repeat' first | simp (disch := omega) only [go_sem, e1, h] | ((with_reducible refine condT ?_ ?_) <;> intro h <;> try first | omega | simp (disch := omega) only [go_sem, *, e1, h]) | (with_reducible apply bothW_intro) | (with_reducible refine nilW_intro (fun h => ?_) ?_) | (refine callW_of c1 rfl (.inr rfl) ?_)
theorem collect_some {xs : List Int} {m : Int} {n : Nat} {pt : Nat → List Int} (hx : xs.length ≤ 1000) (h : 0 < m) (hn : n ≤ 3000) (hY : OYCalls Try.prog n_box_All_1 [cXs xs] 3 1 ((List.range n).map fun i : Nat => ptR (pt i))) (mem : List (Nat × Box)) (nx : Nat) (K : Nat) (hK : K = if m ≤ n then m.toNat else n) :
  ICalls Try.prog n_law09_collect [aInts xs, I m] mem nx (.c (.ref (nx + 2 + 2 * K))) (cM nx mem m pt K) (nx + 3 + 2 * K) := by
 refine ICalls.of is_law09_collect (by simp) fun hb => runW_sound ?_
 have c1 := box_All_abs xs (by omega)
 simp only [c_law09_collect]
 clear hb
 have e1 : ¬ nx + 1 = nx := by omega
 have e2 : ¬ m ≤ 0 := by omega
 repeat' first | simp (disch := omega) only [go_sem, e1, h, e2] | ((with_reducible refine condT ?_ ?_) <;> intro h <;> try first | omega | simp (disch := omega) only [go_sem, *, e1, h, e2]) | (with_reducible apply bothW_intro) | (with_reducible refine nilW_intro (fun h => ?_) ?_) | (refine callW_of c1 rfl (.inr rfl) ?_)
 refine AW_adoptM (nx + 1) 0 22 1 [.nils] (by rw [findB_cons, if_pos rfl]) rfl (by decide) ?_
 refine AW_arn (nx + 2) 22 1 [] (by rw [findB_cons, if_pos rfl]) ?_
 have hm0 : setB ((nx + 1 + 1, .arr 22 1 []) :: setB ((nx + 1, .var [.nils]) :: (nx, .var [.pure (pI m)]) :: mem) (nx + 1) (.var ([AC.nils].set 0 (.ref (nx + 1 + 1))))) (nx + 2) (.arn 22 1 (([] : List (List PC)).map fun r => r.map .pure)) = cM nx mem m pt 0 := by
  simp [setB, cM]
 dsimp only
 refine AW_rangeO (nx + 3) [(3, .c (.ptr nx 0)), (5, .c (.ptr (nx + 1) 0))] (fun (_ : Nat) (t : List (Nat × Box) × Nat) => t) (fun k t => t = (cM nx mem m pt k, nx + 3 + 2 * k) ∧ (k : Int) < m) rfl rfl rfl hY (fun x hx => ?_) rfl ⟨by show nx ≤ _; omega, by show _ ≤ nx + 1 + 1 + 1; omega⟩ ?_ ⟨(cM nx mem m pt 0, nx + 3), ⟨rfl, h⟩, ?_⟩ ?_ ?_
 ·obtain ⟨i, _, rfl⟩ := List.mem_map.1 hx
  exact flat_ptR _
 ·simp [wkF, look_cons, renV, renA, clV, clA]
 ·rw [← hm0]
 ·rintro k x _ hxk ⟨rfl, hkm⟩
  have hkn : k < n := by
   have := (List.getElem?_eq_some_iff.1 hxk).1
   simpa using this
  have hxe : x = ptR (pt k) := by
   rw [List.getElem?_map, List.getElem?_range hkn] at hxk
   exact (Option.some.inj hxk).symm
  subst hxe
  refine AW_region ?_
  dsimp only
  simp (disch := omega) only [go_sem, putL]
  show AW _ _ _ _ _
  have n1 : ¬ nx + 3 + 2 * k = nx + 1 := by omega
  have n2 : ¬ nx + 3 + 2 * k = nx := by omega
  have n3 : ¬ nx + 3 + 2 * k = nx + 2 + 2 * k := by omega
  have f1 := cM_var (nx := nx) (mem := mem) (m := m) (pt := pt) k
  have f2 : findB (delB (cM nx mem m pt k) (nx + 2 + 2 * k)) (nx + 1) = some (.var [.ref (nx + 2 + 2 * k)]) := by
   rw [findB_delB, if_neg (by omega)]
   exact f1
  have f3 := cM_var (nx := nx) (mem := mem) (m := m) (pt := pt) (k + 1)
  have f4 := cM_arn (nx := nx) (mem := mem) (m := m) (pt := pt) (k + 1)
  have f5 := cM_m (nx := nx) (mem := mem) (m := m) (pt := pt) (k + 1)
  have e3 : (nx + 3 + 2 * k + 1, Box.arn 22 1 (refsC nx k ++ [[.ref (nx + 3 + 2 * k)]])) :: (nx + 3 + 2 * k, .arr 3 1 (ptR (pt k))) :: setB (delB (cM nx mem m pt k) (nx + 2 + 2 * k)) (nx + 1) (.var [.ref (nx + 3 + 2 * k + 1)]) = cM nx mem m pt (k + 1) := rfl
  have e4 : nx + 3 + 2 * k + 1 + 1 = nx + 3 + 2 * (k + 1) := by omega
  refine AW_block (AW_seq (AW_appRef (gs1 := [o_ 18 (l_ 5), m_ 19 7]) (gs2 := [u_ (S_ 1 5 21)]) (fun _ _ => rfl) ?_))
  simp (disch := omega) only [go_sem, n1, n2, n3, f1, f2]
  refine ⟨nx + 2 + 2 * k, nx + 3 + 2 * k, refsC nx k, rfl, rfl, by rw [if_neg (by omega)]; exact cM_arn k, by rw [refsC_len]; omega, by rw [refsC_len]; omega, ?_⟩
  simp (disch := omega) only [go_sem, n1, n2, n3, f1, f2]
  rw [e3, e4]
  have hl := refsC_len nx (k + 1)
  show AW _ _ _ _ _
  refine runW_sound ?_
  generalize hM : cM nx mem m pt (k + 1) = M at f3 f4 f5 ⊢
  clear e3 f1 f2
  by_cases hmk : (k : Int) + 1 = m
  ·have hKk : K = k + 1 := by rw [hK, if_pos (by omega)]; omega
   have hmk' : ((k + 1 : Nat) : Int) = m := by omega
   subst hKk
   simp (disch := omega) only [go_sem, f3, f4, f5, hl, hmk']
   exact hM.symm
  ·have hmk' : ¬ ((k + 1 : Nat) : Int) = m := by omega
   simp (disch := omega) only [go_sem, f3, f4, f5, hl, hmk']
   exact ⟨_, ⟨by rw [hM], by omega⟩, rfl⟩
 ·rintro _ ⟨rfl, hkm⟩
  have hKn : K = n := by
   rw [List.length_map, List.length_range] at hkm
   rw [hK, if_neg (by omega)]
  rw [List.length_map, List.length_range]
  subst hKn
  have f3 := cM_var (nx := nx) (mem := mem) (m := m) (pt := pt) K
  show runW _ _ _ _ _
  simp (disch := omega) only [go_sem, f3]
end Go.Proofs.Ytehjbfljenpfoaa
