/- Plain laws: the example of layer 8: i >= 3 follows from i >= 5, i >= 6 does not. -/
import Derived.Test.YtnddmjhpplopbaaPlain08
set_option linter.unusedVariables false
set_option linter.unusedSimpArgs false
namespace Go.Proofs.Ytnddmjhpplopbaa
open Go.Abs Go.RowKit

abbrev alA (a : Int) : Con := ((a, [(nI, 1)]), false)
abbrev alB (b : Int) : Con := ((b, [(nI, -1)]), false)
abbrev alZ (c : Int) : Con := ((c, []), false)
section
variable {a b : Int} (ha : -100 ≤ a ∧ a ≤ 100) (hb : -100 ≤ b ∧ b ≤ 100)
theorem al_tight : tightL [alA a, alB b] = ([alA a, alB b], 0) := by
 rw [tightL, if_neg (by simp)]
 have t1 : tightS (alA a) = (alA a, 0, 0) := by simp [tightS, lin_I, gcdL, gcdF, divL]
 have t2 : tightS (alB b) = (alB b, 0, 0) := by simp [tightS, lin_I, gcdL, gcdF, divL]
 simp [tightG, t1, t2]
include ha hb in
theorem al_comb : conCombine [alA a, alB b] [1, 1] = (alZ (a + b), 0) := by
 rw [conCombine_two (lin_I (by decide)) (lin_I (by decide)) (by decide) (by decide)]
 rw [combS_ok (by simp [scaleOk, in64]; omega) (by simp [addOk, in64, scaleV, mergeX_nil]; omega), combS_ok (by simp [scaleOk, in64]; omega)
  (by simp [addOk, in64, scaleV, addV, addT, mergeX_nil, mergeX_cons, sless_II]; omega)]
 simp [combS, scaleV, addV, addT, mergeX_nil, mergeX_cons, sless_II]
theorem al_init : initS 2 0 [alA a, alB b] [] = ([(alA a, [1, 0]), (alB b, [0, 1])], 0) := by
 have a1 : addS2 [] (alA a, unitB 2 0) = ([(alA a, [1, 0])], 0) := by
  rw [addS2, if_neg (by simp)]
  simp [addR, unitB]
 have a2 : addS2 [(alA a, [1, 0])] (alB b, unitB 2 1) = ([(alA a, [1, 0]), (alB b, [0, 1])], 0) := by
  rw [addS2, if_neg (by simp)]
  simp [addR, simRow, unitB]
 rw [initS, a1, if_neg (by simp), initS, a2, if_neg (by simp), initS]
theorem al_choose : chooseS [(alA a, [1, 0]), (alB b, [0, 1])] = (nI, -1, true) := by
 rw [chooseS, namesU_one rfl, chooseF]
 simp [eqAt, cf, lows, ups, chooseF]
include ha hb in
theorem al_merge {fuel : Int} (hf : 0 < fuel) : mergeS fuel (alA a, [1, 0]) (alB b, [0, 1]) 1 1 = ((alZ (a + b), [1, 1]), 0) := by
 rw [mergeS, if_neg (by omega), al_comb ha hb, if_neg (by simp)]
 simp [sumsF, sumOk, in64, reducedS, gcdB]
include ha hb in
theorem al_step {fuel : Int} (hf : 0 < fuel) : stepS [(alA a, [1, 0]), (alB b, [0, 1])] fuel = (if a + b < 0 then [(alZ (a + b), [1, 1])] else [], fuel - 1, 0) := by
 rw [stepS, al_choose, if_neg (by simp)]
 have r : runF (stepR nI) [(alA a, [1, 0]), (alB b, [0, 1])] [] fuel = ([], fuel, 0) := by simp [runF, stepR, cf]
 have f : factorsX 1 (-1) = (1, 1, true) := by simp [factorsX, sgnE]
 have ad : addS2 [] (alZ (a + b), [1, 1]) = (if a + b < 0 then [(alZ (a + b), [1, 1])] else [], 0) := by
  by_cases h : a + b < 0
  ·rw [if_pos h, addS2, if_neg (by rintro ⟨_, h2⟩; exact h2 ⟨rfl, .inl h⟩)]
   simp [addR]
  ·rw [if_neg h, addS2, if_pos ⟨rfl, fun h2 => h2.2.elim (fun h3 => h h3) fun h3 => by cases h3.1⟩]
 rw [combS2, r, if_neg (by simp)]
 have s1 : ∀ acc fuel, stepP nI (alA a, [1, 0]) (alA a, [1, 0]) acc fuel = (acc, fuel, 0) := fun acc fuel => by rw [stepP, if_pos (by simp [cf])]
 have s2 : stepP nI (alA a, [1, 0]) (alB b, [0, 1]) [] fuel = (if a + b < 0 then [(alZ (a + b), [1, 1])] else [], fuel - 1, 0) := by
  have e1 : cf (alA a).1.2 nI = 1 := by simp [cf]
  have e2 : cf (alB b).1.2 nI = -1 := by simp [cf]
  rw [stepP]
  simp only [e1, e2]
  rw [f, if_neg (by decide), if_neg (by decide), mergeAdd, al_merge ha hb hf, if_neg (by simp), ad]
 have s3 : ∀ c acc fuel, stepP nI (alB b, [0, 1]) c acc fuel = (acc, fuel, 0) := fun c acc fuel => by rw [stepP, if_pos (by simp [cf])]
 simp only [runF, s1, s2, s3, ne_eq, not_true_eq_false, if_false]
include ha hb in
theorem al_infS : infS [alA a, alB b] 1048576 = if a + b < 0 then ([1, 1], true, 0) else ([], false, 0) := by
 have b1 : badRow [(alA a, [1, 0]), (alB b, [0, 1])] = none := by simp [badRow, conBad]
 rw [infS, al_tight, if_neg (by simp), if_neg (by omega)]
 have hi : initS [alA a, alB b].length 0 ([alA a, alB b], (0 : Int)).1 [] = ([(alA a, [1, 0]), (alB b, [0, 1])], 0) := al_init
 rw [hi, if_neg (by simp)]
 have hs : ∀ N, searchN [alA a, alB b] (N + 2) [(alA a, [1, 0]), (alB b, [0, 1])] 1048576 = if a + b < 0 then ([1, 1], true, 0) else ([], false, 0) := fun N => by
  rw [searchN, b1]
  simp only
  rw [if_neg (by rw [al_choose]; simp), al_step ha hb (by decide), if_neg (by simp)]
  simp only
  by_cases h : a + b < 0
  ·rw [if_pos h, if_pos h]
   have b2 : badRow [(alZ (a + b), [1, 1])] = some [1, 1] := by rw [badRow, if_pos ⟨rfl, .inl h⟩]
   have ck : checkS [alA a, alB b] [1, 1] = 0 := by
    rw [checkS, al_tight, if_neg (by simp), al_comb ha hb, if_neg (by simp), if_pos ⟨rfl, .inl h⟩]
   rw [searchN, b2]
   simp only
   rw [if_neg (by rw [ck]; simp)]
  ·rw [if_neg h, if_neg h]
   have b2 : badRow [] = none := rfl
   have hn : namesU [] = [] := List.eq_nil_iff_forall_not_mem.2 fun n hn => by
    have := mem_namesU.1 hn
    simp [namesAll] at this
   rw [searchN, b2]
   simp only
   rw [if_pos (by rw [chooseS, hn, chooseF]; rfl)]
 have hn : (1048576 : Int).toNat * 300 + 300 = (314573098 : Nat) + 2 := by decide
 rw [hn, hs]
end
theorem al_neg {k : Int} : negaS [alA (-5)] (alA k) = ([alB (-1 - k)], 0) := by
 have h1 : okL [alA (-5)] := fun c hc => by
  rw [List.mem_singleton.1 hc]
  exact lin_I (by decide)
 have h2 : linOk (alA k).1.2 := lin_I (by decide)
 rw [negaS, if_neg (by rintro (h | h); exact h h1; exact h h2), negS, if_neg (not_not_intro h2), if_neg (by rintro ⟨m, hm, e⟩; rw [List.mem_singleton.1 hm] at e; exact absurd e (by decide)), if_pos rfl]
 rfl
theorem al_yes : implS [alA (-5)] (alA (-3)) 1048576 = ([1, 1], true, 0) := by
 rw [implS, al_neg, if_neg (by simp)]
 simp only
 have h : infS ([alA (-5)] ++ [alB (-1 - -3)]) 1048576 = ([1, 1], true, 0) := (al_infS (a := -5) (b := -1 - -3) (by decide) (by decide)).trans (if_pos (by decide))
 rw [implG, h, if_neg (by simp), if_neg (by simp), implG]
 rfl
theorem al_no : implS [alA (-5)] (alA (-6)) 1048576 = ([], false, 0) := by
 rw [implS, al_neg, if_neg (by simp)]
 simp only
 have h : infS ([alA (-5)] ++ [alB (-1 - -6)]) 1048576 = ([], false, 0) := (al_infS (a := -5) (b := -1 - -6) (by decide) (by decide)).trans (if_neg (by decide))
 rw [implG, h, if_neg (by simp), if_pos rfl]
theorem al_64 {k : Int} (h : in64 k) : con64 (alA k) := ⟨h, fun m hm => by rw [List.mem_singleton.1 hm]; simp [in64]⟩
theorem al_check : chkS [alA (-5)] (alA (-3)) [1, 1] = 0 :=
 implS_check (fun c hc => by rw [List.mem_singleton.1 hc]; exact al_64 (by simp [in64])) (al_64 (by simp [in64])) al_yes
end Go.Proofs.Ytnddmjhpplopbaa
