/- Walks: the enumeration of the points of a box, the law. -/
import Derived.Test.YtehjbfljenpfoaaVCo
import Derived.Test.YtehjbfljenpfoaaIn0
set_option linter.unusedVariables false
set_option linter.unusedSimpArgs false
set_option maxRecDepth 20000
namespace Go.Proofs.Ytehjbfljenpfoaa
open Go.Abs Go.RowKit

abbrev aPts (l : List (List Int)) : AV := aSl (fun p => [pInts p]) l
def ptsE (xs : List Int) : List (List Int) := (List.range (bcount xs).toNat).map fun (i : Nat) => pointOf xs (i : Int)
theorem ptsE_len (xs : List Int) : (ptsE xs).length = (bcount xs).toNat := by simp [ptsE]
theorem ptsE_get {xs : List Int} {i : Nat} (h : i < (ptsE xs).length) : (ptsE xs)[i] = pointOf xs i := by simp [ptsE]
theorem ptsE_take {xs : List Int} {k : Nat} (hk : k < (ptsE xs).length) : (ptsE xs).take (k + 1) = (ptsE xs).take k ++ [pointOf xs k] := by
 rw [List.take_succ_eq_append_getElem hk, ptsE_get]
theorem ref09_All_abs (xs : List Int) : PCalls Try.prog n_ref09_All [aInts xs] (aPts (ptsE xs)) := by
 refine PCalls.of is_ref09_All (by simp) fun hb => runW_sound ?_
 have p1 := ref09_Count_abs xs
 have hc := bcount_bd xs
 have hlen := ptsE_len xs
 simp only [c_ref09_All]
 clear hb
 repeat' first | simp (disch := omega) only [go_sem] | ((with_reducible refine condT ?_ ?_) <;> intro h <;> try first | omega | simp (disch := omega) only [go_sem, *]) | (refine callW_of p1 rfl (.inl rfl) ?_)
 refine AW_adopt 3 22 1 rfl (by decide) ?_
 refine AW_loop (fun k : Nat => ⟨[(0, aInts xs), (3, .c (.ref 0)), (4, I (bcount xs)), (5, I k)], [(0, .arr 22 1 (((ptsE xs).take k).map fun p => [pInts p]))], 1, 0⟩) (fun k => k ≤ (ptsE xs).length) (fun k => (ptsE xs).length - k) ⟨0, [], Nat.zero_le _, by simp⟩ ?_
 rintro k hk
 refine runW_sound ?_
 by_cases hlt : k < (ptsE xs).length
 ·have hki : (k : Int) < bcount xs := by omega
  have p2 := ref09_Point_abs xs (at' := (k : Int)) ⟨by omega, by omega⟩
  rw [bpoint_in ⟨by omega, hki⟩] at p2
  have hl2 : (((ptsE xs).take k).map fun p => [pInts p]).length = k := by rw [List.length_map, List.length_take]; omega
  have L := Lib.hid hl2
  clear hl2
  repeat' first | simp (disch := omega) only [go_sem, wrap_i64] | ((with_reducible refine condT ?_ ?_) <;> intro h <;> try first | omega | simp (disch := omega) only [go_sem, *, wrap_i64]) | (refine callW_of p2 rfl (.inr rfl) ?_) | (refine app_own rfl (by intro h; cases h) (rowsOk_one rfl) (by rw [L.out]; simp; omega) (by rw [L.out]; simp; omega) ?_)
  refine ⟨k + 1, [(0, 1)], hlt, by omega, ?_⟩
  rw [ptsE_take hlt, List.map_append]
  simp
 ·have e : (ptsE xs).take k = ptsE xs := List.take_of_length_le (by omega)
  rw [e]
  have hki : ¬ (k : Int) < bcount xs := by omega
  repeat' first | simp (disch := omega) only [go_sem] | ((with_reducible refine condT ?_ ?_) <;> intro h <;> try first | omega | simp (disch := omega) only [go_sem, *])
theorem box_numbers_abs (xs : List Int) : PCalls Try.prog n_box_numbers [aInts xs] (.c (.clo n_box_numbers_1 [.cptr [pInts xs]])) := by
 refine PCalls.of is_box_numbers (by simp) fun hb => runW_sound ?_
 simp only [c_box_numbers]
 repeat' first | simp (disch := omega) only [go_sem] | ((with_reducible refine condT ?_ ?_) <;> intro h <;> try first | omega | simp (disch := omega) only [go_sem, *])
theorem box_All_o {xs : List Int} (hn : bcount xs ≤ 3000) : OYCalls Try.prog n_box_All_1 [cXs xs] 3 1 ((List.range (bcount xs).toNat).map fun i : Nat => ptR (pointOf xs i)) := by
 have hc := bcount_bd xs
 have p1 := box_Count_abs xs
 refine box_All_1_o (n := (bcount xs).toNat) (pt := fun i => pointOf xs i) (by omega) (by rw [show ((bcount xs).toNat : Int) = bcount xs by omega]; exact p1) (box_numbers_abs xs) fun k hk => box_Point_i xs (by omega) (by omega)
def rowsAt (M : List (Nat × Box)) (a : Nat) (pt : Nat → List Int) (lo k : Nat) : Prop := ∀ j, lo ≤ j → j < k → findB M (a + 3 + 2 * j) = some (.arr 3 1 (ptR (pt j)))
theorem rowsAt.set {M : List (Nat × Box)} {a lo k nm : Nat} {pt : Nat → List Int} {b : Box} (h : rowsAt M a pt lo k) (hn : ∀ j, lo ≤ j → j < k → nm ≠ a + 3 + 2 * j) : rowsAt (setB M nm b) a pt lo k := fun j h1 h2 => by
 rw [findB_setB, if_neg (hn j h1 h2)]
 exact h j h1 h2
theorem refsC_get {a k i : Nat} (h : i < k) : (refsC a k)[i]? = some [.ref (a + 3 + 2 * i)] := by
 rw [refsC, List.getElem?_map, List.getElem?_range h]
 rfl
theorem findB_set_ne {M : List (Nat × Box)} {a b : Nat} {x : Box} (h : a ≠ b) : findB (setB M a x) b = findB M b := by rw [findB_setB, if_neg h]
theorem findB_set_eq {M : List (Nat × Box)} {a : Nat} {x y : Box} (h : findB M a = some y) : findB (setB M a x) a = some x := by rw [findB_setB, if_pos rfl, h]; rfl
theorem collect_any {xs : List Int} {m : Int} {n : Nat} {pt : Nat → List Int} (hx : xs.length ≤ 1000) (hn : n ≤ 3000) (hY : OYCalls Try.prog n_box_All_1 [cXs xs] 3 1 ((List.range n).map fun i : Nat => ptR (pt i))) (mem : List (Nat × Box)) (nx : Nat) (K : Nat) (hK : K = if m ≤ n then m.toNat else n) :
  ∃ M, ICalls Try.prog n_law09_collect [aInts xs, I m] mem nx (.c (.ref (nx + 2 + 2 * K))) M (nx + 3 + 2 * K) ∧ (∀ nm, nm < nx → findB M nm = findB mem nm) ∧ findB M (nx + 2 + 2 * K) = some (.arn 22 1 (refsC nx K)) ∧ rowsAt M nx pt 0 K := by
 by_cases h : 0 < m
 ·exact ⟨cM nx mem m pt K, collect_some hx h hn hY mem nx K hK, fun nm h => cM_old h K, cM_arn K, fun j _ hj => cM_row hj⟩
 ·obtain rfl : K = 0 := by rw [hK, if_pos (by omega)]; omega
  refine ⟨_, (collect_none hx (by omega) mem nx).nilO 22, fun nm h => ?_, ?_, fun j _ hj => by omega⟩
  ·rw [findB_cons, if_neg (by omega), findB_cons, if_neg (by omega), findB_cons, if_neg (by omega)]
  ·rw [findB_cons, if_pos (by omega)]
   rfl
theorem BoxEnumerates_small {xs : List Int} {m : Int} (hx : ¬ 1000 < (xs.length : Int)) (hn : ¬ 3000 < bcount xs) (hm : 0 ≤ m ∧ m ≤ 255) : PCalls Try.prog n_law09_BoxEnumerates [aInts xs, .c (.pure (.val (.int .u8 m)))] (Go.Abs.B true) := by
 refine PCalls.of is_law09_BoxEnumerates (by simp) fun hb => runW_sound ?_
 have p1 := ref09_Count_abs xs
 have p2 := ref09_All_abs xs
 have hc := bcount_bd xs
 have hY := box_All_o (xs := xs) (by omega)
 have hlen := ptsE_len xs
 obtain ⟨n, hN⟩ : ∃ n : Nat, n = (bcount xs).toNat := ⟨_, rfl⟩
 rw [← hN] at hY hlen
 have p3 := collect_some (m := 4000) (K := n) (by omega) (by omega) (by omega) hY [] 0 (by rw [if_neg (by omega)])
 obtain ⟨K, hK⟩ : ∃ K, K = if m ≤ (n : Int) then m.toNat else n := ⟨_, rfl⟩
 obtain ⟨M, p4, fo, fb, fd⟩ := collect_any (m := m) (pt := fun i => pointOf xs i) (by omega) (by omega) hY (cM 0 [] 4000 (fun i => pointOf xs i) n) (3 + 2 * n) K hK
 simp only [Nat.zero_add] at p3
 clear hb
 have w1 : IntKind.wrap .i64 m = m := wrap_i64 (by omega)
 have fa : findB M (2 + 2 * n) = some (.arn 22 1 (refsC 0 n)) := by
  rw [fo _ (by omega)]
  have := cM_arn (nx := 0) (mem := []) (m := 4000) (pt := fun i => pointOf xs i) n
  rwa [Nat.zero_add] at this
 have fc : rowsAt M 0 (fun i => pointOf xs i) 0 n := fun j _ hj => by
  rw [fo _ (by omega)]
  exact cM_row hj
 have hl1 : ((refsC 0 n).length : Int) = (ptsE xs).length := by rw [refsC_len, hlen]
 have hl2 : ((refsC (3 + 2 * n) K).length : Int) = min m (ptsE xs).length := by rw [refsC_len, hlen, hK]; split <;> omega
 simp only [c_law09_BoxEnumerates]
 repeat' first | simp (disch := omega) only [go_sem, w1, fa, fb, hl1, hl2] | ((with_reducible refine condT ?_ ?_) <;> intro h <;> try first | omega | simp (disch := omega) only [go_sem, *, w1, fa, fb, hl1, hl2]) | (refine callW_of p1 rfl (.inl rfl) ?_) | (refine callW_of p2 rfl (.inr rfl) ?_) | (refine callW_i p3 ?_) | (refine callW_i p4 ?_)
 have hKn : K ≤ n := by rw [hK]; split <;> omega
 have hlA : (refsC (3 + 2 * n) K).length = K := refsC_len _ _
 have hlB : (refsC 0 n).length = n := refsC_len _ _
 clear fo p3 p4 hl1 hl2 p1 p2 hY w1 hK
 refine AW_loopE (fun t : Nat × List (Nat × Box) × Nat => ([(5, aPts (ptsE xs)), (6, .c (.ref (2 + 2 * n))), (7, .c (.ref (3 + 2 * n + 2 + 2 * K))), (8, I t.1)], t.2)) (fun t => t.1 ≤ K ∧ 3 + 2 * n + 3 + 2 * K ≤ t.2.2 ∧ findB t.2.1 (2 + 2 * n) = some (.arn 22 1 (refsC 0 n)) ∧ rowsAt t.2.1 0 (fun i => pointOf xs i) 0 n ∧ findB t.2.1 (3 + 2 * n + 2 + 2 * K) = some (.arn 22 1 (refsC (3 + 2 * n) K)) ∧ rowsAt t.2.1 (3 + 2 * n) (fun i => pointOf xs i) t.1 K) (fun t => K - t.1) ⟨(0, M, _), ⟨Nat.zero_le _, Nat.le_refl _, fa, fc, fb, fd⟩, rfl, by simp [wkF, look_cons, renV, renA, clV, clA]; omega⟩ ?_
 rintro ⟨i, M, N⟩ ⟨hi, hN, ga, gr, gb, gs⟩
 simp only at hi hN ga gr gb gs
 dsimp only
 refine runW_sound ?_
 by_cases hlt : i < K
 ·have hip : i < (ptsE xs).length := by omega
  have q1 := refsC_get (a := 3 + 2 * n) hlt
  have q2 := gs i (Nat.le_refl _) hlt
  simp only at q2
  have q3 : ((ptsE xs).map fun p => [pInts p])[i]? = some [pInts (pointOf xs i)] := by rw [List.getElem?_map, List.getElem?_eq_getElem hip, ptsE_get]; rfl
  have q4 : i < ((ptsE xs).map fun p => [pInts p]).length := by rw [List.length_map]; exact hip
  have cB := base_Ints_abs (pointOf xs i) (pointOf xs i)
  rw [decide_eq_true rfl] at cB
  have hlt' : (i : Int) < K := by omega
  repeat' first | simp (disch := omega) only [go_sem, gb, q1, q2, q3, q4, hlA, hlt'] | ((with_reducible refine condT ?_ ?_) <;> intro h <;> try first | omega | simp (disch := omega) only [go_sem, *, gb, q1, q2, q3, q4, hlA, hlt']) | (refine callW_of cB (by simp [purVs, purV, purA, purC, q2]) (.inl rfl) ?_)
  have hpl : (pointOf xs (i : Int)).length = xs.length := length_pointOf _ _
  refine AW_loopE (fun t : Nat × List Int × List (Nat × Box) × Nat => ([(5, aPts (ptsE xs)), (6, .c (.ref (2 + 2 * n))), (7, .c (.ref (3 + 2 * n + 2 + 2 * K))), (8, I i), (9, I t.1)], t.2.2)) (fun t => t.1 ≤ t.2.1.length ∧ t.2.1.length = xs.length ∧ 3 + 2 * n + 3 + 2 * K ≤ t.2.2.2 ∧ findB t.2.2.1 (2 + 2 * n) = some (.arn 22 1 (refsC 0 n)) ∧ rowsAt t.2.2.1 0 (fun i => pointOf xs i) 0 n ∧ findB t.2.2.1 (3 + 2 * n + 2 + 2 * K) = some (.arn 22 1 (refsC (3 + 2 * n) K)) ∧ rowsAt t.2.2.1 (3 + 2 * n) (fun i => pointOf xs i) (i + 1) K ∧ findB t.2.2.1 (3 + 2 * n + 3 + 2 * i) = some (.arr 3 1 (ptR t.2.1))) (fun t => t.2.1.length - t.1)
   ⟨(0, pointOf xs i, M, N), ⟨Nat.zero_le _, hpl, hN, ga, gr, gb, fun j h1 h2 => gs j (by omega) h2, q2⟩, rfl, by simp [wkF, look_cons, renV, renA, clV, clA]; omega⟩ ?_
  clear ga gr gb gs q2 cB q3 q4 hN
  rintro ⟨k, r, M', N'⟩ ⟨hk, hr, hN, ga, gr, gb, gs, q2⟩
  simp only at hk hr hN ga gr gb gs q2
  dsimp only
  refine runW_sound ?_
  have hrl : (ptR r).length = r.length := by simp
  by_cases hkl : k < r.length
  ·have q5 : (ptR r)[k]? = some [pI r[k]] := map_get hkl
   have hkl' : (k : Int) < r.length := by omega
   have e5 : ∀ z : Int, (ptR r).set k [.val (.int .i64 z)] = ptR (r.set k z) := fun z => by rw [ptR, ptR, List.map_set]
   have wk : IntKind.wrap .i64 ((k : Int) + 1) = k + 1 := wrap_i64 (by omega)
   repeat' first | simp (disch := omega) only [go_sem, gb, q1, q2, q5, hlA, hrl, hkl', wk, e5] | ((with_reducible refine condT ?_ ?_) <;> intro h <;> try first | omega | simp (disch := omega) only [go_sem, *, gb, q1, q2, q5, hlA, hrl, hkl', wk, e5])
   generalize IntKind.wrap .i64 (r[k] + 1) = z
   have hrs : (r.set k z).length = r.length := List.length_set
   exact ⟨(k + 1, r.set k z, setB M' (3 + 2 * n + 3 + 2 * i) (.arr 3 1 (ptR (r.set k z))), N'), ⟨by show k + 1 ≤ (r.set k z).length; omega, by show (r.set k z).length = _; omega, hN, (findB_set_ne (by omega)).trans ga, gr.set (fun j _ h2 => by omega), (findB_set_ne (by omega)).trans gb, gs.set (fun j h1 h2 => by omega), findB_set_eq q2⟩, by show (r.set k z).length - (k + 1) < _; omega, rfl, by simp [wkF, look_cons, renV, renA, clV, clA]; omega⟩
  ·have hkl' : ¬ (k : Int) < r.length := by omega
   have wi : IntKind.wrap .i64 ((i : Int) + 1) = i + 1 := wrap_i64 (by omega)
   repeat' first | simp (disch := omega) only [go_sem, gb, q1, q2, hlA, hrl, hkl', wi] | ((with_reducible refine condT ?_ ?_) <;> intro h <;> try first | omega | simp (disch := omega) only [go_sem, *, gb, q1, q2, hlA, hrl, hkl', wi])
   exact ⟨(i + 1, M', N'), ⟨hlt, hN, ga, gr, gb, gs⟩, by show K - (i + 1) < K - i; omega, rfl, by simp [wkF, look_cons, renV, renA, clV, clA]; omega⟩
 ·have hlt' : ¬ (i : Int) < K := by omega
  repeat' first | simp (disch := omega) only [go_sem, gb, hlA, hlt'] | ((with_reducible refine condT ?_ ?_) <;> intro h <;> try first | omega | simp (disch := omega) only [go_sem, *, gb, hlA, hlt'])
  clear gb gs fa fb fc fd
  refine AW_loopE (fun t : Nat × List (Nat × Box) × Nat => ([(5, aPts (ptsE xs)), (6, .c (.ref (2 + 2 * n))), (10, I t.1)], t.2)) (fun t => t.1 ≤ n ∧ 3 + 2 * n ≤ t.2.2 ∧ findB t.2.1 (2 + 2 * n) = some (.arn 22 1 (refsC 0 n)) ∧ rowsAt t.2.1 0 (fun i => pointOf xs i) t.1 n) (fun t => n - t.1) ⟨(0, M, N), ⟨Nat.zero_le _, by show _ ≤ N; omega, ga, gr⟩, rfl, by simp [wkF, look_cons, renV, renA, clV, clA]; omega⟩ ?_
  clear hlt hlt' hN hlA hi ga gr
  rintro ⟨i, M, N⟩ ⟨hi, hN, ga, gr⟩
  simp only at hi hN ga gr
  dsimp only
  refine runW_sound ?_
  by_cases hlt : i < n
  ·have hip : i < (ptsE xs).length := by omega
   have q1 := refsC_get (a := 0) hlt
   have q2 := gr i (Nat.le_refl _) hlt
   simp only [Nat.zero_add] at q1 q2
   have q3 : ((ptsE xs).map fun p => [pInts p])[i]? = some [pInts (pointOf xs i)] := by rw [List.getElem?_map, List.getElem?_eq_getElem hip, ptsE_get]; rfl
   have q4 : i < ((ptsE xs).map fun p => [pInts p]).length := by rw [List.length_map]; exact hip
   have cB := base_Ints_abs (pointOf xs i) (pointOf xs i)
   rw [decide_eq_true rfl] at cB
   have hlt' : (i : Int) < n := by omega
   repeat' first | simp (disch := omega) only [go_sem, ga, q1, q2, q3, q4, hlB, hlt'] | ((with_reducible refine condT ?_ ?_) <;> intro h <;> try first | omega | simp (disch := omega) only [go_sem, *, ga, q1, q2, q3, q4, hlB, hlt']) | (refine callW_of cB (by simp [purVs, purV, purA, purC, q2]) (.inl rfl) ?_)
   have hpl : (pointOf xs (i : Int)).length = xs.length := length_pointOf _ _
   refine AW_loopE (fun t : Nat × List Int × List (Nat × Box) × Nat => ([(5, aPts (ptsE xs)), (6, .c (.ref (2 + 2 * n))), (10, I i), (11, I t.1)], t.2.2)) (fun t => t.1 ≤ t.2.1.length ∧ t.2.1.length = xs.length ∧ 3 + 2 * n ≤ t.2.2.2 ∧ findB t.2.2.1 (2 + 2 * n) = some (.arn 22 1 (refsC 0 n)) ∧ rowsAt t.2.2.1 0 (fun i => pointOf xs i) (i + 1) n ∧ findB t.2.2.1 (3 + 2 * i) = some (.arr 3 1 (ptR t.2.1))) (fun t => t.2.1.length - t.1)
    ⟨(0, pointOf xs i, M, N), ⟨Nat.zero_le _, hpl, hN, ga, fun j h1 h2 => gr j (by omega) h2, q2⟩, rfl, by simp [wkF, look_cons, renV, renA, clV, clA]; omega⟩ ?_
   clear ga gr q2 cB q3 q4 hN
   rintro ⟨k, r, M', N'⟩ ⟨hk, hr, hN, ga, gr, q2⟩
   simp only at hk hr hN ga gr q2
   dsimp only
   refine runW_sound ?_
   have hrl : (ptR r).length = r.length := by simp
   by_cases hkl : k < r.length
   ·have q5 : (ptR r)[k]? = some [pI r[k]] := map_get hkl
    have hkl' : (k : Int) < r.length := by omega
    have e5 : ∀ z : Int, (ptR r).set k [.val (.int .i64 z)] = ptR (r.set k z) := fun z => by rw [ptR, ptR, List.map_set]
    have wk : IntKind.wrap .i64 ((k : Int) + 1) = k + 1 := wrap_i64 (by omega)
    repeat' first | simp (disch := omega) only [go_sem, ga, q1, q2, q5, hlB, hrl, hkl', wk, e5] | ((with_reducible refine condT ?_ ?_) <;> intro h <;> try first | omega | simp (disch := omega) only [go_sem, *, ga, q1, q2, q5, hlB, hrl, hkl', wk, e5])
    generalize IntKind.wrap .i64 (r[k] + 1) = z
    have hrs : (r.set k z).length = r.length := List.length_set
    exact ⟨(k + 1, r.set k z, setB M' (3 + 2 * i) (.arr 3 1 (ptR (r.set k z))), N'), ⟨by show k + 1 ≤ (r.set k z).length; omega, by show (r.set k z).length = _; omega, hN, (findB_set_ne (by omega)).trans ga, gr.set (fun j _ h2 => by omega), findB_set_eq q2⟩, by show (r.set k z).length - (k + 1) < _; omega, rfl, by simp [wkF, look_cons, renV, renA, clV, clA]; omega⟩
   ·have hkl' : ¬ (k : Int) < r.length := by omega
    have wi : IntKind.wrap .i64 ((i : Int) + 1) = i + 1 := wrap_i64 (by omega)
    repeat' first | simp (disch := omega) only [go_sem, ga, q1, q2, hlB, hrl, hkl', wi] | ((with_reducible refine condT ?_ ?_) <;> intro h <;> try first | omega | simp (disch := omega) only [go_sem, *, ga, q1, q2, hlB, hrl, hkl', wi])
    exact ⟨(i + 1, M', N'), ⟨hlt, hN, ga, gr⟩, by show n - (i + 1) < n - i; omega, rfl, by simp [wkF, look_cons, renV, renA, clV, clA]; omega⟩
  ·have hlt' : ¬ (i : Int) < n := by omega
   have ce := law09_examples_abs
   repeat' first | simp (disch := omega) only [go_sem, ga, hlB, hlt'] | ((with_reducible refine condT ?_ ?_) <;> intro h <;> try first | omega | simp (disch := omega) only [go_sem, *, ga, hlB, hlt']) | (refine callW_of ce rfl (.inl rfl) ?_)
   all_goals rfl
theorem BoxEnumerates_big {xs : List Int} {a : AV} (h : 1000 < (xs.length : Int) ∨ 3000 < bcount xs) : PCalls Try.prog n_law09_BoxEnumerates [aInts xs, a] (Go.Abs.B true) := by
 refine PCalls.of is_law09_BoxEnumerates (by simp) fun hb => runW_sound ?_
 have p1 := ref09_Count_abs xs
 have ce := law09_examples_abs
 simp only [c_law09_BoxEnumerates]
 by_cases h1 : 1000 < (xs.length : Int)
 ·repeat' first | simp (disch := omega) only [go_sem, h1] | ((with_reducible refine condT ?_ ?_) <;> intro h <;> try first | omega | simp (disch := omega) only [go_sem, *, h1]) | (refine callW_of p1 rfl (.inl rfl) ?_) | (refine callW_of ce rfl (.inl rfl) ?_)
  all_goals rfl
 ·have h2 := h.resolve_left h1
  repeat' first | simp (disch := omega) only [go_sem, h1, h2] | ((with_reducible refine condT ?_ ?_) <;> intro h <;> try first | omega | simp (disch := omega) only [go_sem, *, h1, h2]) | (refine callW_of p1 rfl (.inl rfl) ?_) | (refine callW_of ce rfl (.inl rfl) ?_)
  all_goals rfl
theorem okU8 {p : PC} (h : OkP (.int .u8) p) : ∃ n, p = .val (.int .u8 n) ∧ 0 ≤ n ∧ n ≤ 255 := by
 cases h with
 | @int _ n h =>
  refine ⟨n, rfl, ?_⟩
  simp only [Lit.wf, Bool.and_eq_true, decide_eq_true_eq] at h
  exact h
theorem BoxEnumerates_abs (ps0 ps1 : List PC) (h0 : OkPs [.slice [.int .i64]] ps0) (h1 : OkPs [.int .u8] ps1) : PCalls Try.prog 3 [argV false ps0, argV false ps1] (Go.Abs.B true) := by
 obtain ⟨_, rfl, k0⟩ := okOne h0
 obtain ⟨_, rfl, k1⟩ := okOne h1
 obtain ⟨xs, rfl, _, _⟩ := okInts k0
 obtain ⟨m, rfl, hm⟩ := okU8 k1
 by_cases hc : 1000 < (xs.length : Int) ∨ 3000 < bcount xs
 ·exact BoxEnumerates_big hc
 ·exact BoxEnumerates_small (fun h => hc (.inl h)) (fun h => hc (.inr h)) hm
end Go.Proofs.Ytehjbfljenpfoaa
