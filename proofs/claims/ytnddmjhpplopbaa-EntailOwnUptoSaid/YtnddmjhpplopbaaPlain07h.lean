/- Plain laws: the examples of layer 7. -/
import Derived.Test.YtnddmjhpplopbaaPlain07g
set_option linter.unusedVariables false
set_option linter.unusedSimpArgs false
namespace Go.Proofs.Ytnddmjhpplopbaa
open Go.Abs Go.RowKit

abbrev nI : ByteArray := ⟨⟨[105]⟩⟩
abbrev nJ : ByteArray := ⟨⟨[106]⟩⟩
theorem idI : idOk nI := by
 refine ⟨by decide, by decide, by decide, fun i h => ?_⟩
 have h1 : nI.size = 1 := by decide
 obtain rfl : i = 0 := by omega
 exact (by decide : chOk 0 105)
theorem idJ : idOk nJ := by
 refine ⟨by decide, by decide, by decide, fun i h => ?_⟩
 have h1 : nJ.size = 1 := by decide
 obtain rfl : i = 0 := by omega
 exact (by decide : chOk 0 106)
theorem lin_I {x : Int} (h : x ≠ 0) : linOk [(nI, x)] := linOk_iff.2 ⟨by simp [srt], by simp; exact ⟨idI, h⟩⟩
theorem lin_J {x : Int} (h : x ≠ 0) : linOk [(nJ, x)] := linOk_iff.2 ⟨by simp [srt], by simp; exact ⟨idJ, h⟩⟩
theorem sless_IJ : sless nI nJ = true := by rw [sless, show nI.toList = [105] by rw [ByteArray.toList_eq], show nJ.toList = [106] by rw [ByteArray.toList_eq]]; decide
theorem sless_II : sless nI nI = false := by simpa using sless_irrefl nI
theorem sless_JJ : sless nJ nJ = false := by simpa using sless_irrefl nJ
theorem sless_JI : sless nJ nI = false := by simpa using sless_asymm sless_IJ
theorem lin_IJ {x y : Int} (h : x ≠ 0) (h' : y ≠ 0) : linOk [(nI, x), (nJ, y)] := linOk_iff.2 ⟨by simp [srt, sless_IJ], by simp; exact ⟨⟨idI, h⟩, idJ, h'⟩⟩
theorem linOk_n : linOk [] := linOk_iff.2 ⟨by simp [srt], by simp⟩
/-- A combination of two. -/
theorem conCombine_two {p q : Con} {x y : Int} (hp : linOk p.1.2) (hq : linOk q.1.2) (hx : 0 ≤ x) (hy : 0 ≤ y) : conCombine [p, q] [x, y] = combS (0, []) true [(p, x), (q, y)] := by
 rw [conCombine, if_neg (by simp), if_neg]
 ·rfl
 ·rintro ⟨z, hz, h⟩
  simp only [List.zip_cons_cons, List.zip_nil_right, List.mem_cons, List.not_mem_nil, or_false] at hz
  rcases hz with rfl | rfl
  ·rcases h with h | h
   ·exact h hp
   ·simp only at h; omega
  ·rcases h with h | h
   ·exact h hq
   ·simp only at h; omega
theorem combS_ok {out : Lin} {eq : Bool} {p : Con × Int} {r : List (Con × Int)} (h1 : scaleOk p.1.1 p.2) (h2 : addOk out (scaleV p.1.1 p.2)) : combS out eq (p :: r) = combS (addV out (scaleV p.1.1 p.2)) (eq && (p.1.2 || decide (p.2 = 0))) r := by
 rw [combS, if_neg (by rintro (h | h); exact h (.inr h1); exact h h2)]
abbrev exLow : Con := ((-3, [(nI, 2)]), false)
abbrev exUp : Con := ((0, [(nI, -3), (nJ, 1)]), false)
theorem ex_cancel : cancelS exLow exUp nI = (((-9, [(nJ, 2)]), false), 0) := by
 rw [cancelS, if_neg, if_neg, if_neg]
 ·have e1 : cf exLow.1.2 nI = 2 := by simp [cf]
  have e2 : cf exUp.1.2 nI = -3 := by simp [cf]
  rw [e1, e2]
  show conCombine [exLow, exUp] [3, 2] = _
  rw [conCombine_two (lin_I (by decide)) (lin_IJ (by decide) (by decide)) (by decide) (by decide)]
  rw [combS_ok (by simp [scaleOk, in64]) (by simp [addOk, in64, scaleV, mergeX_nil]), combS_ok (by simp [scaleOk, in64])
   (by simp [addOk, in64, scaleV, addV, addT, mergeX_nil, mergeX_cons, sless_II])]
  simp [combS, scaleV, addV, addT, mergeX_nil, mergeX_cons, sless_II]
 ·simp [cf]
 ·simp [cf]
 ·rintro (h | h | h | h | h)
  ·exact h (lin_I (by decide))
  ·exact h (lin_IJ (by decide) (by decide))
  ·exact h idI
  ·cases h
  ·cases h
abbrev exL : List Con := [((-1, [(nI, 2)]), false), ((1, [(nI, -2)]), false)]
abbrev exA : Con := ((-1, [(nI, 1)]), false)
abbrev exB : Con := ((0, [(nI, -1)]), false)
theorem ex_tight : tightL exL = ([exA, exB], 0) := by
 rw [tightL, if_neg (by simp)]
 have t1 : tightS ((-1, [(nI, 2)]), false) = (exA, 0, 0) := by
  simp [tightS, lin_I, gcdL, gcdF, divL]
 have t2 : tightS ((1, [(nI, -2)]), false) = (exB, 0, 0) := by
  simp [tightS, lin_I, gcdL, gcdF, divL]
 simp [tightG, t1, t2]
theorem ex_comb : conCombine [exA, exB] [1, 1] = (((-1, []), false), 0) := by
 rw [conCombine_two (lin_I (by decide)) (lin_I (by decide)) (by decide) (by decide)]
 rw [combS_ok (by simp [scaleOk, in64]) (by simp [addOk, in64, scaleV, mergeX_nil]), combS_ok (by simp [scaleOk, in64])
  (by simp [addOk, in64, scaleV, addV, addT, mergeX_nil, mergeX_cons, sless_II])]
 simp [combS, scaleV, addV, addT, mergeX_nil, mergeX_cons, sless_II]
theorem ex_comb0 : conCombine [exA, exB] [1, 0] = (((-1, [(nI, 1)]), false), 0) := by
 rw [conCombine_two (lin_I (by decide)) (lin_I (by decide)) (by decide) (by decide)]
 rw [combS_ok (by simp [scaleOk, in64]) (by simp [addOk, in64, scaleV, mergeX_nil]), combS_ok (by simp [scaleOk, in64])
  (by simp [addOk, in64, scaleV, addV, addT, mergeX_nil, mergeX_left])]
 simp [combS, scaleV, addV, addT, mergeX_nil, mergeX_left]
theorem ex_unproved : checkS exL [1, 0] = 17 := by
 rw [checkS, ex_tight, if_neg (by simp), ex_comb0, if_neg (by simp), if_neg (by simp [conBad])]
theorem namesU_one {rows : List Row} (h : namesAll rows = [nI, nI]) : namesU rows = [nI] := by
 rw [namesU, h]
 have : ([nI, nI].map fun s => s.data.toList) = [[105], [105]] := rfl
 rw [this]
 have hm : ([[105], [105]] : List (List UInt8)).mergeSort (fun x y => decide (x ≤ y)) = [[105], [105]] := by
  simp [List.mergeSort, List.MergeSort.Internal.splitInTwo, List.merge]
 rw [hm]
 decide
abbrev rowA : Row := (exA, [1, 0])
abbrev rowB : Row := (exB, [0, 1])
theorem ex_init : initS 2 0 [exA, exB] [] = ([rowA, rowB], 0) := by
 have a1 : addS2 [] (exA, unitB 2 0) = ([rowA], 0) := by
  rw [addS2, if_neg (by simp)]
  simp [addR, unitB]
 have a2 : addS2 [rowA] (exB, unitB 2 1) = ([rowA, rowB], 0) := by
  rw [addS2, if_neg (by simp)]
  simp [addR, simRow, unitB]
 rw [initS, a1, if_neg (by simp), initS, a2, if_neg (by simp), initS]
theorem ex_choose : chooseS [rowA, rowB] = (nI, -1, true) := by
 rw [chooseS, namesU_one rfl, chooseF]
 simp [eqAt, cf, lows, ups, chooseF]
theorem ex_merge {fuel : Int} (hf : 0 < fuel) : mergeS fuel rowA rowB 1 1 = ((((-1, []), false), [1, 1]), 0) := by
 rw [mergeS, if_neg (by omega), ex_comb, if_neg (by simp)]
 simp [sumsF, sumOk, in64, reducedS, gcdB]
theorem ex_step {fuel : Int} (hf : 0 < fuel) : stepS [rowA, rowB] fuel = ([(((-1, []), false), [1, 1])], fuel - 1, 0) := by
 rw [stepS, ex_choose, if_neg (by simp)]
 have r : runF (stepR nI) [rowA, rowB] [] fuel = ([], fuel, 0) := by simp [runF, stepR, cf]
 have f : factorsX 1 (-1) = (1, 1, true) := by simp [factorsX, sgnE]
 have a : addS2 [] (((-1, []), false), [1, 1]) = ([(((-1, []), false), [1, 1])], 0) := by
  rw [addS2, if_neg (by simp [conBad])]
  simp [addR]
 rw [combS2, r, if_neg (by simp)]
 have s1 : ∀ acc fuel, stepP nI rowA rowA acc fuel = (acc, fuel, 0) := fun acc fuel => by rw [stepP, if_pos (by simp [cf])]
 have s2 : stepP nI rowA rowB [] fuel = ([(((-1, []), false), [1, 1])], fuel - 1, 0) := by
  have e1 : cf rowA.1.1.2 nI = 1 := by simp [cf]
  have e2 : cf rowB.1.1.2 nI = -1 := by simp [cf]
  rw [stepP, e1, e2, f, if_neg (by decide), if_neg (by decide), mergeAdd, ex_merge hf, if_neg (by simp), a]
 have s3 : ∀ b acc fuel, stepP nI rowB b acc fuel = (acc, fuel, 0) := fun b acc fuel => by rw [stepP, if_pos (by simp [cf])]
 simp only [runF, s1, s2, s3, ne_eq, not_true_eq_false, if_false]
theorem ex_check : checkS exL [1, 1] = 0 := by
 rw [checkS, ex_tight, if_neg (by simp), ex_comb, if_neg (by simp), if_pos (by simp [conBad])]
theorem ex_infeasible : infS exL 1048576 = ([1, 1], true, 0) := by
 have b1 : badRow [rowA, rowB] = none := by simp [badRow, conBad]
 have b2 : badRow [(((-1, []), false), [1, 1])] = some [1, 1] := by simp [badRow, conBad]
 rw [infS, ex_tight, if_neg (by simp), if_neg (by omega)]
 have hi : initS exL.length 0 ([exA, exB], (0 : Int)).1 [] = ([rowA, rowB], 0) := ex_init
 rw [hi, if_neg (by simp)]
 have hs : ∀ N, searchN exL (N + 2) [rowA, rowB] 1048576 = ([1, 1], true, 0) := fun N => by
  rw [searchN, b1]
  simp only
  rw [if_neg (by rw [ex_choose]; simp), ex_step (by decide), if_neg (by simp)]
  simp only
  rw [searchN, b2]
  simp only
  rw [if_neg (by rw [ex_check]; simp)]
 have hn : (1048576 : Int).toNat * 300 + 300 = (314573098 : Nat) + 2 := by decide
 rw [hn, hs]
/-- The multipliers of a certificate are numbers. -/
theorem searchN_64 {l : List Con} {T : List Con} : ∀ {N : Nat} {rows : List Row} {fuel : Int}, (∀ r ∈ rows, RowT T r) → ∀ x ∈ (searchN l N rows fuel).1, in64 x
 | 0, rows, fuel, _, x, hx => by rw [searchN] at hx; cases hx
 |N + 1, rows, fuel, h, x, hx => by
  rw [searchN] at hx
  cases hb : badRow rows with
  | some b =>
   obtain ⟨r, hr, h1, rfl⟩ := badRow_spec hb
   rw [hb] at hx
   simp only at hx
   split at hx
   ·cases hx
   ·exact (h r hr).r64.2 x hx
  | none =>
   rw [hb] at hx
   simp only at hx
   split at hx
   ·cases hx
   ·rename_i hc
    split at hx
    ·cases hx
    ·exact searchN_64 (stepS_ok (fuel := fuel) h (by simpa using hc)).1.all x hx
theorem infS_64 {l : List Con} {fuel : Int} (h64 : ∀ c ∈ l, con64 c) : ∀ x ∈ (infS l fuel).1, in64 x := by
 intro x hx
 unfold infS at hx
 split at hx
 ·cases hx
 ·rename_i h0
  split at hx
  ·cases hx
  ·split at hx
   ·cases hx
   ·rename_i h1
    have ht : tightL l = ((tightL l).1, 0) := Prod.ext rfl (Classical.not_not.1 h0)
    have hT := tightL_ok ht h64
    have hlen := (tightL_spec ht).1
    obtain ⟨i1, i2⟩ := initS_ok hT (k := 0) (rows := []) (by simp) (by simp) (Nat.zero_le _)
    rw [hlen, List.drop_zero] at i1 i2
    exact searchN_64 (i2 (Classical.not_not.1 h1)).1 x hx
end Go.Proofs.Ytnddmjhpplopbaa
