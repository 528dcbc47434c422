/- Walks by the abstract machine: rows divided, products. -/
import Derived.Test.YtnddmjhpplopbaaV07o
set_option linter.unusedVariables false
set_option linter.unusedSimpArgs false
set_option maxRecDepth 20000
namespace Go.Proofs.Ytnddmjhpplopbaa
open Go.Abs Go.RowKit

theorem elim_product_abs {a b : Int} (ha : in64 a) (hb : in64 b) : PCalls Try.prog n_elim_product [I a, I b] (.tup [I (IntKind.wrap .i64 (a * b)), Go.Abs.B (decide (in64 (a * b)))]) := by
 refine PCalls.of is_elim_product (by simp) fun _ => runW_sound ?_
 simp only [c_elim_product]
 by_cases h0 : a = 0
 ·subst h0
  have e : decide (in64 (0 * b)) = true := decide_eq_true (by rw [Int.zero_mul]; exact in64_zero)
  rw [e]
  repeat' first | simp (disch := omega) only [go_sem, ↓reduceIte, Nat.reduceEqDiff, reduceCtorEq, Int.reduceEq] | ((with_reducible first | refine condD ?_ ?_ | refine condX ?_ ?_ | refine condW_intro ?_ ?_) <;> intro h <;> first | (exfalso; omega) | simp (disch := omega) only [go_sem, ↓reduceIte, Nat.reduceEqDiff, reduceCtorEq, Int.reduceEq, *] | skip)
 ·have hc : IntKind.wrap .i64 (b * a) = IntKind.wrap .i64 (a * b) := by rw [Int.mul_comm]
  by_cases hm : a = -1 ∧ b = -9223372036854775808
  ·obtain ⟨rfl, rfl⟩ := hm
   have e : decide (in64 (-1 * -9223372036854775808)) = false := decide_eq_false (by unfold in64; omega)
   rw [e]
   have e1 : IntKind.wrap .i64 (-1 * -9223372036854775808) = -9223372036854775808 := by decide
   have e2 : IntKind.wrap .i64 (Int.tdiv (-9223372036854775808) (-1)) = -9223372036854775808 := by decide
   repeat' first | simp (disch := omega) only [go_sem, ↓reduceIte, Nat.reduceEqDiff, reduceCtorEq, Int.reduceEq, e1, e2] | ((with_reducible first | refine condD ?_ ?_ | refine condX ?_ ?_ | refine condW_intro ?_ ?_) <;> intro h <;> first | (exfalso; omega) | simp (disch := omega) only [go_sem, ↓reduceIte, Nat.reduceEqDiff, reduceCtorEq, Int.reduceEq, *, e1, e2] | skip)
   all_goals rfl
  ·have hw := wrap_mul2 hb ha h0 hm
   rw [hc] at hw
   have hcm : in64 (b * a) ↔ in64 (a * b) := by rw [Int.mul_comm]
   rw [hcm] at hw
   by_cases hx : a = -1
   ·subst hx
    have hr : in64 (-1 * b) := by unfold in64 at *; omega
    rw [decide_eq_true hr]
    have e1 : IntKind.wrap .i64 (-1 * b) = -b := by rw [wrap_i64 (by unfold in64 at hr; omega)]; omega
    have e2 : IntKind.wrap .i64 ((-b).tdiv (-1)) = b := by rw [Int.tdiv_neg, Int.tdiv_one, Int.neg_neg]; exact wrap_i64 hb
    clear hw hc hcm hr
    by_cases hb0 : b < 0
    ·have hb1 : ¬ b = -b := by omega
     repeat' first | simp (disch := omega) only [go_sem, ↓reduceIte, Nat.reduceEqDiff, reduceCtorEq, Int.reduceEq, e1, e2, hb1] | ((with_reducible first | refine condD ?_ ?_ | refine condX ?_ ?_ | refine condW_intro ?_ ?_) <;> intro h <;> first | (exfalso; omega) | simp (disch := omega) only [go_sem, ↓reduceIte, Nat.reduceEqDiff, reduceCtorEq, Int.reduceEq, *, e1, e2, hb1] | skip)
     all_goals rfl
    ·by_cases hz : b = 0
     ·subst hz
      repeat' first | simp (disch := omega) only [go_sem, ↓reduceIte, Nat.reduceEqDiff, reduceCtorEq, Int.reduceEq, e1, e2] | ((with_reducible first | refine condD ?_ ?_ | refine condX ?_ ?_ | refine condW_intro ?_ ?_) <;> intro h <;> first | (exfalso; omega) | simp (disch := omega) only [go_sem, ↓reduceIte, Nat.reduceEqDiff, reduceCtorEq, Int.reduceEq, *, e1, e2] | skip)
      all_goals rfl
     ·have hb1 : ¬ b = -b := by omega
      repeat' first | simp (disch := omega) only [go_sem, ↓reduceIte, Nat.reduceEqDiff, reduceCtorEq, Int.reduceEq, e1, e2, hb1] | ((with_reducible first | refine condD ?_ ?_ | refine condX ?_ ?_ | refine condW_intro ?_ ?_) <;> intro h <;> first | (exfalso; omega) | simp (disch := omega) only [go_sem, ↓reduceIte, Nat.reduceEqDiff, reduceCtorEq, Int.reduceEq, *, e1, e2, hb1] | skip)
      all_goals rfl
   ·clear hc hcm hm
    by_cases hin : in64 (a * b)
    ·rw [decide_eq_true hin]
     have hq := hw.2 hin
     clear hw hin
     repeat' first | simp (disch := omega) only [go_sem, ↓reduceIte, Nat.reduceEqDiff, reduceCtorEq, Int.reduceEq, h0, ne_eq, hq, hx] | ((with_reducible first | refine condD ?_ ?_ | refine condX ?_ ?_ | refine condW_intro ?_ ?_) <;> intro h <;> first | (exfalso; omega) | simp (disch := omega) only [go_sem, ↓reduceIte, Nat.reduceEqDiff, reduceCtorEq, Int.reduceEq, *, h0, ne_eq, hq, hx] | skip)
     all_goals rfl
    ·rw [decide_eq_false hin]
     have hq : ¬ IntKind.wrap .i64 ((IntKind.wrap .i64 (a * b)).tdiv a) = b := fun h => hin (hw.1 h)
     clear hw hin
     repeat' first | simp (disch := omega) only [go_sem, ↓reduceIte, Nat.reduceEqDiff, reduceCtorEq, Int.reduceEq, h0, ne_eq, hq, hx] | ((with_reducible first | refine condD ?_ ?_ | refine condX ?_ ?_ | refine condW_intro ?_ ?_) <;> intro h <;> first | (exfalso; omega) | simp (disch := omega) only [go_sem, ↓reduceIte, Nat.reduceEqDiff, reduceCtorEq, Int.reduceEq, *, h0, ne_eq, hq, hx] | skip)
     all_goals rfl

abbrev rCells (d : Row) : List PC := [pI d.1.1.1, pMonos d.1.1.2, pB d.1.2, pInts d.2]
abbrev aRow (d : Row) : AV := .agg [.pure (pI d.1.1.1), .pure (pMonos d.1.1.2), .pure (pB d.1.2), .pure (pInts d.2)]
def row64 (d : Row) : Prop := con64 d.1 ∧ ∀ n ∈ d.2, in64 n
theorem map_take_succ {α β : Type} {f : α → β} {l : List α} {k : Nat} (h : k < l.length) : (l.take (k + 1)).map f = (l.take k).map f ++ [f l[k]] := by
 rw [List.take_succ_eq_append_getElem h, List.map_append]
 rfl
theorem tdiv_in {x : Int} {g : Nat} (hx : in64 x) (hg : 2 ≤ g) : in64 (x.tdiv g) := by
 rcases tdiv_64 (g := g) hx with h | h
 ·exact h
 ·have h1 : (x.tdiv g).natAbs = x.natAbs / g := by rw [Int.natAbs_tdiv, Int.natAbs_natCast]; rfl
  have h2 : x.natAbs / g ≤ x.natAbs / 2 := Nat.div_le_div_left hg (by omega)
  unfold in64 at hx
  omega
theorem tdL_map {g : Nat} {l : List Mono} : (tdL g l).map mP = l.map fun m => [pS m.1, pI (m.2.tdiv (g : Int))] := by
 rw [tdL, List.map_map]
 rfl
theorem tdB_map {g : Nat} {l : List Int} : (tdB g l).map (fun n => [pI n]) = l.map fun n => [pI (n.tdiv (g : Int))] := by
 rw [tdB, List.map_map]
 rfl
theorem gcdB_drop {g k : Nat} {l : List Int} (h : k < l.length) : gcdB g (l.drop k) = gcdB (Nat.gcd g l[k].natAbs) (l.drop (k + 1)) := by
 rw [List.drop_eq_getElem_cons h]
 rfl
theorem gcdB_end {g k : Nat} {l : List Int} (h : l.length ≤ k) : gcdB g (l.drop k) = g := by
 rw [List.drop_eq_nil_of_le h]
 rfl
theorem elim_reduced_abs {d : Row} (h64 : row64 d) (hl : d.1.1.2.length ≤ 1000000000) (hb : d.2.length ≤ 1000000000) : PCalls Try.prog n_elim_reduced [aRow d] (aRow (reducedS d)) := by
 refine PCalls.of is_elim_reduced (by simp) fun _ => runW_sound ?_
 obtain ⟨⟨⟨K, l⟩, q⟩, by'⟩ := d
 obtain ⟨⟨hK, h64⟩, hby⟩ := h64
 simp only at hK h64 hby hl hb
 simp only [c_elim_reduced]
 obtain ⟨G, hG⟩ : ∃ G, G = gcdB 0 (by'.drop 0) := ⟨_, rfl⟩
 have hG0 : gcdB 0 by' = G := hG.symm
 unfold reducedS
 simp only
 rw [hG0]
 have HG := Lib.hid hG
 clear hG hG0
 repeat' first | simp (disch := omega) only [go_sem, ↓reduceIte, Nat.reduceEqDiff, reduceCtorEq, Int.reduceEq] | ((with_reducible first | refine condD ?_ ?_ | refine condX ?_ ?_ | refine condW_intro ?_ ?_) <;> intro h <;> first | (exfalso; omega) | simp (disch := omega) only [go_sem, ↓reduceIte, Nat.reduceEqDiff, reduceCtorEq, Int.reduceEq, *] | skip)
 refine AW_loop (fun s : Nat × Nat => ⟨[(1, .c (.ptr 0 0)), (2, .c (.ptr 1 0)), (3, U s.2), (12, aInts by'), (13, I by'.length), (14, I s.1)],
  [(0, .var [.pure (pI K), .pure (pMonos l), .pure (pB q), .pure (pInts by')]), (1, .var [.pure (pI 0), .nils, .pure (pB false), .nils])], 2, 0⟩) (fun s => s.1 ≤ by'.length ∧ Hid (G = gcdB s.2 (by'.drop s.1))) (fun s => by'.length - s.1) ⟨(0, 0), [], ⟨Nat.zero_le _, HG⟩, by simp [Wk, wkF, wkM, wkL, look_cons, renV, renA, renC, renB, rn, clV, clA, clAs, clB, notIn, findB, findB_setB, clA.go]⟩ ?_
 clear HG
 rintro ⟨j, g⟩ ⟨hj, HG⟩
 simp only at hj HG
 refine runW_sound ?_
 by_cases hlt : j < by'.length
 ·have g1 := map_get (f := fun n => [pI n]) hlt
  have h2 := HG.out
  rw [gcdB_drop hlt] at h2
  have pm := elim_magnitude_abs (hby _ (List.getElem_mem hlt))
  generalize by'[j] = x at *
  have pg := elim_gcd_abs g x.natAbs
  have HG := Lib.hid h2
  clear h2
  repeat' first | simp (disch := omega) only [go_sem, ↓reduceIte, Nat.reduceEqDiff, reduceCtorEq, Int.reduceEq, g1, wrap_i64] | ((with_reducible first | refine condD ?_ ?_ | refine condX ?_ ?_ | refine condW_intro ?_ ?_) <;> intro h <;> first | (exfalso; omega) | simp (disch := omega) only [go_sem, ↓reduceIte, Nat.reduceEqDiff, reduceCtorEq, Int.reduceEq, *, g1, wrap_i64] | skip) | (refine callW_of pm rfl (.inl rfl) ?_) | (refine callW_of pg rfl (.inl rfl) ?_)
  exact ⟨(j + 1, Nat.gcd g x.natAbs), [], ⟨hlt, HG⟩, by show _ - _ < _ - _; omega, by simp [Wk, wkF, wkM, wkL, look_cons, renV, renA, renC, renB, rn, clV, clA, clAs, clB, notIn, findB, findB_setB, clA.go]⟩
 ·have h2 := HG.out
  rw [gcdB_end (by omega)] at h2
  clear HG
  subst h2
  by_cases hs : G < 2 ∨ 4611686018427387904 < G
  ·rw [if_pos hs]
   rcases hs with hs | hs
   ·repeat' first | simp (disch := omega) only [go_sem, ↓reduceIte, Nat.reduceEqDiff, reduceCtorEq, Int.reduceEq] | ((with_reducible first | refine condD ?_ ?_ | refine condX ?_ ?_ | refine condW_intro ?_ ?_) <;> intro h <;> first | (exfalso; omega) | simp (disch := omega) only [go_sem, ↓reduceIte, Nat.reduceEqDiff, reduceCtorEq, Int.reduceEq, *] | skip)
    all_goals rfl
   ·repeat' first | simp (disch := omega) only [go_sem, ↓reduceIte, Nat.reduceEqDiff, reduceCtorEq, Int.reduceEq] | ((with_reducible first | refine condD ?_ ?_ | refine condX ?_ ?_ | refine condW_intro ?_ ?_) <;> intro h <;> first | (exfalso; omega) | simp (disch := omega) only [go_sem, ↓reduceIte, Nat.reduceEqDiff, reduceCtorEq, Int.reduceEq, *] | skip)
    all_goals rfl
  ·rw [if_neg hs]
   have hs1 : 2 ≤ G := by omega
   have eG : IntKind.wrap .i64 (G : Int) = G := wrap_i64 (by omega)
   have eK : IntKind.wrap .i64 (K.tdiv G) = K.tdiv G := wrap_i64 (tdiv_in hK hs1)
   have hG0 : ¬ (G : Int) = 0 := by omega
   repeat' first | simp (disch := omega) only [go_sem, ↓reduceIte, Nat.reduceEqDiff, reduceCtorEq, Int.reduceEq, eG, eK, hG0, ne_eq] | ((with_reducible first | refine condD ?_ ?_ | refine condX ?_ ?_ | refine condW_intro ?_ ?_) <;> intro h <;> first | (exfalso; omega) | simp (disch := omega) only [go_sem, ↓reduceIte, Nat.reduceEqDiff, reduceCtorEq, Int.reduceEq, *, eG, eK, hG0, ne_eq] | skip)
   refine AW_adoptM 2 1 79 2 _ rfl rfl (by decide) ?_
   refine AW_loop (fun j : Nat => ⟨[(1, .c (.ptr 0 0)), (2, .c (.ptr 1 0)), (3, U G), (6, .c (.ptr 2 0)), (48, .c (.pure (pMonos l))), (49, I l.length), (50, I j)],
    [(0, .var [.pure (pI K), .pure (pMonos l), .pure (pB q), .pure (pInts by')]), (1, .var [.pure (pI 0), .nils, .pure (pB false), .nils]), (2, .var [.pure (pI (K.tdiv G)), .ref 3, .pure (pB q), .nils]),
     (3, .arr 79 2 ((l.take j).map fun m => [pS m.1, pI (m.2.tdiv (G : Int))]))], 4, 0⟩) (fun j => j ≤ l.length) (fun j => l.length - j) ⟨0, [], Nat.zero_le _, by simp [Wk, wkF, wkM, wkL, look_cons, renV, renA, renC, renB, rn, clV, clA, clAs, clB, notIn, findB, findB_setB, clA.go]⟩ ?_
   intro j hj
   refine runW_sound ?_
   by_cases hlt : j < l.length
   ·have e1 := map_take_succ (f := fun m : Mono => [pS m.1, pI (m.2.tdiv (G : Int))]) hlt
    have g1 := map_get (f := mP) hlt
    have hlen : ((l.take j).map fun m => [pS m.1, pI (m.2.tdiv (G : Int))]).length ≤ 1000000000 := by simp; omega
    have ex : IntKind.wrap .i64 ((l[j].2).tdiv G) = (l[j].2).tdiv G := wrap_i64 (tdiv_in (h64 _ (List.getElem_mem hlt)) hs1)
    generalize l[j] = m at *
    obtain ⟨n, x⟩ := m
    simp only [mP] at g1 e1 ex
    generalize ((l.take j).map fun m => [pS m.1, pI (m.2.tdiv (G : Int))]) = D0 at *
    repeat' first | simp (disch := omega) only [go_sem, ↓reduceIte, Nat.reduceEqDiff, reduceCtorEq, Int.reduceEq, g1, eG, ex, hG0, ne_eq, wrap_i64] | ((with_reducible first | refine condD ?_ ?_ | refine condX ?_ ?_ | refine condW_intro ?_ ?_) <;> intro h <;> first | (exfalso; omega) | simp (disch := omega) only [go_sem, ↓reduceIte, Nat.reduceEqDiff, reduceCtorEq, Int.reduceEq, *, g1, eG, ex, hG0, ne_eq, wrap_i64] | skip) | (refine app_own rfl (by intro h; cases h) (rowsOk_one rfl) (by simp; omega) (by simp; omega) ?_)
    exact ⟨j + 1, [(3, 5)], hlt, by omega, by simp [Wk, wkF, wkM, wkL, look_cons, renV, renA, renC, renB, rn, clV, clA, clAs, clB, notIn, findB, findB_setB, clA.go, e1]⟩
   ·obtain rfl : j = l.length := by omega
    rw [List.take_of_length_le (Nat.le_refl _)]
    repeat' first | simp (disch := omega) only [go_sem, ↓reduceIte, Nat.reduceEqDiff, reduceCtorEq, Int.reduceEq] | ((with_reducible first | refine condD ?_ ?_ | refine condX ?_ ?_ | refine condW_intro ?_ ?_) <;> intro h <;> first | (exfalso; omega) | simp (disch := omega) only [go_sem, ↓reduceIte, Nat.reduceEqDiff, reduceCtorEq, Int.reduceEq, *] | skip)
    refine AW_adoptM 2 3 2 1 _ rfl rfl (by decide) ?_
    refine AW_loop (fun j : Nat => ⟨[(2, .c (.ptr 1 0)), (3, U G), (6, .c (.ptr 2 0)), (73, aInts by'), (74, I by'.length), (75, I j)],
     [(1, .var [.pure (pI 0), .nils, .pure (pB false), .nils]), (2, .var [.pure (pI (K.tdiv G)), .ref 3, .pure (pB q), .ref 4]),
      (3, .arr 79 2 (l.map fun m => [pS m.1, pI (m.2.tdiv (G : Int))])), (4, .arr 2 1 ((by'.take j).map fun n => [pI (n.tdiv (G : Int))]))], 5, 0⟩) (fun j => j ≤ by'.length) (fun j => by'.length - j) ⟨0, [], Nat.zero_le _, by simp [Wk, wkF, wkM, wkL, look_cons, renV, renA, renC, renB, rn, clV, clA, clAs, clB, notIn, findB, findB_setB, clA.go]⟩ ?_
    intro j hj
    refine runW_sound ?_
    by_cases hlt : j < by'.length
    ·have e1 := map_take_succ (f := fun n : Int => [pI (n.tdiv (G : Int))]) hlt
     have g1 := map_get (f := fun n => [pI n]) hlt
     have hlen : ((by'.take j).map fun n => [pI (n.tdiv (G : Int))]).length ≤ 1000000000 := by simp; omega
     have ex : IntKind.wrap .i64 ((by'[j]).tdiv G) = (by'[j]).tdiv G := wrap_i64 (tdiv_in (hby _ (List.getElem_mem hlt)) hs1)
     generalize by'[j] = x at *
     generalize ((by'.take j).map fun n => [pI (n.tdiv (G : Int))]) = D0 at *
     repeat' first | simp (disch := omega) only [go_sem, ↓reduceIte, Nat.reduceEqDiff, reduceCtorEq, Int.reduceEq, g1, eG, ex, hG0, ne_eq, wrap_i64] | ((with_reducible first | refine condD ?_ ?_ | refine condX ?_ ?_ | refine condW_intro ?_ ?_) <;> intro h <;> first | (exfalso; omega) | simp (disch := omega) only [go_sem, ↓reduceIte, Nat.reduceEqDiff, reduceCtorEq, Int.reduceEq, *, g1, eG, ex, hG0, ne_eq, wrap_i64] | skip) | (refine app_own rfl (by intro h; cases h) (rowsOk_one rfl) (by simp; omega) (by simp; omega) ?_)
     exact ⟨j + 1, [(4, 5)], hlt, by omega, by simp [Wk, wkF, wkM, wkL, look_cons, renV, renA, renC, renB, rn, clV, clA, clAs, clB, notIn, findB, findB_setB, clA.go, e1]⟩
    ·obtain rfl : j = by'.length := by omega
     rw [List.take_of_length_le (Nat.le_refl _)]
     repeat' first | simp (disch := omega) only [go_sem, ↓reduceIte, Nat.reduceEqDiff, reduceCtorEq, Int.reduceEq] | ((with_reducible first | refine condD ?_ ?_ | refine condX ?_ ?_ | refine condW_intro ?_ ?_) <;> intro h <;> first | (exfalso; omega) | simp (disch := omega) only [go_sem, ↓reduceIte, Nat.reduceEqDiff, reduceCtorEq, Int.reduceEq, *] | skip)
     show _ = AV.agg [_, .pure (.slice ((tdL G l).map mP)), _, .pure (.slice ((tdB G by').map fun n => [pI n]))]
     rw [tdL_map, tdB_map]
end Go.Proofs.Ytnddmjhpplopbaa
