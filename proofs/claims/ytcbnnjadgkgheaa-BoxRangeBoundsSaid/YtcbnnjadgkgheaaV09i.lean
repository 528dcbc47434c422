/- The laws of layer 9 by the abstract machine. -/
import Derived.Test.YtcbnnjadgkgheaaV09h
import Derived.Test.YtcbnnjadgkgheaaIn
set_option linter.unusedVariables false
set_option linter.unusedSimpArgs false
set_option maxRecDepth 20000
namespace Go.Proofs.Ytcbnnjadgkgheaa
open Go.Abs Go.RowKit

theorem BoxTotalOrder_abs (ps0 ps1 ps2 : List PC) (h0 : OkPs [.slice [.int .i64]] ps0) (h1 : OkPs [.slice [.int .i64]] ps1) (h2 : OkPs [.slice [.int .i64]] ps2) : PCalls Try.prog 13 [argV false ps0, argV false ps1, argV false ps2] (Go.Abs.B true) := by
  obtain ⟨_, rfl, k0⟩ := okOne h0
  obtain ⟨_, rfl, k1⟩ := okOne h1
  obtain ⟨_, rfl, k2⟩ := okOne h2
  obtain ⟨a, rfl, _, _⟩ := okInts k0
  obtain ⟨b, rfl, _, _⟩ := okInts k1
  obtain ⟨c, rfl, _, _⟩ := okInts k2
  clear h0 h1 h2 k0 k1 k2
  show PCalls _ n_law09_BoxTotalOrder [aInts a, aInts b, aInts c] _
  refine PCalls.of is_law09_BoxTotalOrder (by simp) fun hb => runW_sound ?_
  clear hb
  have r1 := lex_range a b
  have hsw := lex_swap a b
  have hz : (decide (lex a b = 0) == decide (a = b)) = true := by rw [beq_iff_eq, decide_eq_decide]; exact lex_zero
  have ht := lex_trans (xs := a) (ys := b) (zs := c)
  have e1 : IntKind.wrap .i64 (0 - lex b a) = lex a b := by rw [wrap_i64 (by omega)]; omega
  simp only [c_law09_BoxTotalOrder]
  repeat' first
    | simp (disch := omega) only [go_sem, true_and, and_true, List.nil_append, ↓reduceIte, Nat.reduceEqDiff, andW_of, Int.toNat_natCast, List.length_map, List.length_cons, List.length_nil, ↓List.map_cons, ↓List.map_nil, reduceCtorEq, Option.some.injEq, not_true_eq_false, not_false_eq_true, condW_not, condW_beqT, condW_beqF, int_beq, int_bne, str_beq, str_bne, eqb_F, eqb_T, Bool.false_eq_true, List.cons_append, decide_true, decide_false, Nat.add_zero, Nat.zero_add, List.drop_succ_cons, List.drop_zero, List.take_succ_cons, List.take_zero, Option.map_some, Option.map_none, List.getElem?_cons_zero, List.getElem?_cons_succ, eq_self, beq_self_eq_true, Bool.bne_false, Bool.bne_true, Bool.true_beq, Bool.false_beq, e1, hz]
    | (with_reducible refine condD (fun h => ?_) (fun h => ?_) <;> first | (exfalso; omega) | simp (disch := omega) only [go_sem, true_and, and_true, List.nil_append, ↓reduceIte, Nat.reduceEqDiff, andW_of, Int.toNat_natCast, List.length_map, List.length_cons, List.length_nil, ↓List.map_cons, ↓List.map_nil, reduceCtorEq, Option.some.injEq, not_true_eq_false, not_false_eq_true, condW_not, condW_beqT, condW_beqF, int_beq, int_bne, str_beq, str_bne, eqb_F, eqb_T, Bool.false_eq_true, List.cons_append, decide_true, decide_false, Nat.add_zero, Nat.zero_add, List.drop_succ_cons, List.drop_zero, List.take_succ_cons, List.take_zero, Option.map_some, Option.map_none, List.getElem?_cons_zero, List.getElem?_cons_succ, eq_self, beq_self_eq_true, Bool.bne_false, Bool.bne_true, Bool.true_beq, Bool.false_beq, *, decide_true, decide_false, e1, hz] | skip)
    | (with_reducible refine condW_intro (fun h => ?_) (fun h => ?_) <;> first | (exfalso; omega) | simp (disch := omega) only [go_sem, true_and, and_true, List.nil_append, ↓reduceIte, Nat.reduceEqDiff, andW_of, Int.toNat_natCast, List.length_map, List.length_cons, List.length_nil, ↓List.map_cons, ↓List.map_nil, reduceCtorEq, Option.some.injEq, not_true_eq_false, not_false_eq_true, condW_not, condW_beqT, condW_beqF, int_beq, int_bne, str_beq, str_bne, eqb_F, eqb_T, Bool.false_eq_true, List.cons_append, decide_true, decide_false, Nat.add_zero, Nat.zero_add, List.drop_succ_cons, List.drop_zero, List.take_succ_cons, List.take_zero, Option.map_some, Option.map_none, List.getElem?_cons_zero, List.getElem?_cons_succ, eq_self, beq_self_eq_true, Bool.bne_false, Bool.bne_true, Bool.true_beq, Bool.false_beq, *, decide_true, decide_false, e1, hz] | skip)
    | (refine callW_of law09_examples_abs rfl (.inl rfl) ?_)
    | (refine callW_of (box_Compare_abs _ _) rfl (.inl rfl) ?_)
    | (refine callW_of (ref09_Compare_abs _ _) rfl (.inl rfl) ?_)
    | (refine callW_of (base_Ints_abs _ _) rfl (.inl rfl) ?_)
    | (refine callW_of (box_Validate_abs _) rfl (.inl rfl) ?_)
    | (refine callW_of (ref09_Validate_abs _) rfl (.inl rfl) ?_)
    | (refine callW_of (box_Count_abs _) rfl (.inl rfl) ?_)
    | (refine callW_of (ref09_Count_abs _) rfl (.inl rfl) ?_)
    | (refine callW_of (box_Rank_abs _ _) rfl (.inl rfl) ?_)
    | (refine callW_of (ref09_Rank_abs _ _) rfl (.inl rfl) ?_)
    | (refine callW_of (box_Next_abs _ _) rfl (.inr rfl) ?_)
    | (refine callW_of (ref09_Next_abs _ _) rfl (.inr rfl) ?_)
    | (refine callW_of (ref09_Inside_abs _ _) rfl (.inl rfl) ?_)

theorem BoxValidates_abs (ps0 : List PC) (h0 : OkPs [.slice [.int .i64]] ps0) : PCalls Try.prog 8 [argV false ps0] (Go.Abs.B true) := by
  obtain ⟨_, rfl, k0⟩ := okOne h0
  obtain ⟨a, rfl, _, _⟩ := okInts k0
  clear h0 k0
  show PCalls _ n_law09_BoxValidates [aInts a] _
  refine PCalls.of is_law09_BoxValidates (by simp) fun hb => runW_sound ?_
  clear hb
  simp only [c_law09_BoxValidates]
  repeat' first
    | simp (disch := omega) only [go_sem, true_and, and_true, List.nil_append, ↓reduceIte, Nat.reduceEqDiff, andW_of, Int.toNat_natCast, List.length_map, List.length_cons, List.length_nil, ↓List.map_cons, ↓List.map_nil, reduceCtorEq, Option.some.injEq, not_true_eq_false, not_false_eq_true, condW_not, condW_beqT, condW_beqF, int_beq, int_bne, str_beq, str_bne, eqb_F, eqb_T, Bool.false_eq_true, List.cons_append, decide_true, decide_false, Nat.add_zero, Nat.zero_add, List.drop_succ_cons, List.drop_zero, List.take_succ_cons, List.take_zero, Option.map_some, Option.map_none, List.getElem?_cons_zero, List.getElem?_cons_succ, eq_self, beq_self_eq_true, Bool.bne_false, Bool.bne_true, Bool.true_beq, Bool.false_beq]
    | (with_reducible refine condD (fun h => ?_) (fun h => ?_) <;> first | (exfalso; omega) | simp (disch := omega) only [go_sem, true_and, and_true, List.nil_append, ↓reduceIte, Nat.reduceEqDiff, andW_of, Int.toNat_natCast, List.length_map, List.length_cons, List.length_nil, ↓List.map_cons, ↓List.map_nil, reduceCtorEq, Option.some.injEq, not_true_eq_false, not_false_eq_true, condW_not, condW_beqT, condW_beqF, int_beq, int_bne, str_beq, str_bne, eqb_F, eqb_T, Bool.false_eq_true, List.cons_append, decide_true, decide_false, Nat.add_zero, Nat.zero_add, List.drop_succ_cons, List.drop_zero, List.take_succ_cons, List.take_zero, Option.map_some, Option.map_none, List.getElem?_cons_zero, List.getElem?_cons_succ, eq_self, beq_self_eq_true, Bool.bne_false, Bool.bne_true, Bool.true_beq, Bool.false_beq, *, decide_true, decide_false] | skip)
    | (with_reducible refine condW_intro (fun h => ?_) (fun h => ?_) <;> first | (exfalso; omega) | simp (disch := omega) only [go_sem, true_and, and_true, List.nil_append, ↓reduceIte, Nat.reduceEqDiff, andW_of, Int.toNat_natCast, List.length_map, List.length_cons, List.length_nil, ↓List.map_cons, ↓List.map_nil, reduceCtorEq, Option.some.injEq, not_true_eq_false, not_false_eq_true, condW_not, condW_beqT, condW_beqF, int_beq, int_bne, str_beq, str_bne, eqb_F, eqb_T, Bool.false_eq_true, List.cons_append, decide_true, decide_false, Nat.add_zero, Nat.zero_add, List.drop_succ_cons, List.drop_zero, List.take_succ_cons, List.take_zero, Option.map_some, Option.map_none, List.getElem?_cons_zero, List.getElem?_cons_succ, eq_self, beq_self_eq_true, Bool.bne_false, Bool.bne_true, Bool.true_beq, Bool.false_beq, *, decide_true, decide_false] | skip)
    | (refine callW_of law09_examples_abs rfl (.inl rfl) ?_)
    | (refine callW_of (box_Compare_abs _ _) rfl (.inl rfl) ?_)
    | (refine callW_of (ref09_Compare_abs _ _) rfl (.inl rfl) ?_)
    | (refine callW_of (base_Ints_abs _ _) rfl (.inl rfl) ?_)
    | (refine callW_of (box_Validate_abs _) rfl (.inl rfl) ?_)
    | (refine callW_of (ref09_Validate_abs _) rfl (.inl rfl) ?_)
    | (refine callW_of (box_Count_abs _) rfl (.inl rfl) ?_)
    | (refine callW_of (ref09_Count_abs _) rfl (.inl rfl) ?_)
    | (refine callW_of (box_Rank_abs _ _) rfl (.inl rfl) ?_)
    | (refine callW_of (ref09_Rank_abs _ _) rfl (.inl rfl) ?_)
    | (refine callW_of (box_Next_abs _ _) rfl (.inr rfl) ?_)
    | (refine callW_of (ref09_Next_abs _ _) rfl (.inr rfl) ?_)
    | (refine callW_of (ref09_Inside_abs _ _) rfl (.inl rfl) ?_)

theorem BoxPoints_abs (ps0 ps1 ps2 : List PC) (h0 : OkPs [.slice [.int .i64]] ps0) (h1 : OkPs [.int .i64] ps1) (h2 : OkPs [.slice [.int .i64]] ps2) : PCalls Try.prog 12 [argV false ps0, argV false ps1, argV false ps2] (Go.Abs.B true) := by
  obtain ⟨_, rfl, k0⟩ := okOne h0
  obtain ⟨_, rfl, k1⟩ := okOne h1
  obtain ⟨_, rfl, k2⟩ := okOne h2
  obtain ⟨a, rfl, _, _⟩ := okInts k0
  obtain ⟨n, rfl, hn⟩ := okInt k1
  obtain ⟨p, rfl, _, _⟩ := okInts k2
  clear h0 h1 h2 k0 k1 k2
  show PCalls _ n_law09_BoxPoints [aInts a, I n, aInts p] _
  refine PCalls.of is_law09_BoxPoints (by simp) fun hb => runW_sound ?_
  clear hb
  simp only [c_law09_BoxPoints]
  repeat' first
    | simp (disch := omega) only [go_sem, true_and, and_true, List.nil_append, ↓reduceIte, Nat.reduceEqDiff, andW_of, Int.toNat_natCast, List.length_map, List.length_cons, List.length_nil, ↓List.map_cons, ↓List.map_nil, reduceCtorEq, Option.some.injEq, not_true_eq_false, not_false_eq_true, condW_not, condW_beqT, condW_beqF, int_beq, int_bne, str_beq, str_bne, eqb_F, eqb_T, Bool.false_eq_true, List.cons_append, decide_true, decide_false, Nat.add_zero, Nat.zero_add, List.drop_succ_cons, List.drop_zero, List.take_succ_cons, List.take_zero, Option.map_some, Option.map_none, List.getElem?_cons_zero, List.getElem?_cons_succ, eq_self, beq_self_eq_true, Bool.bne_false, Bool.bne_true, Bool.true_beq, Bool.false_beq]
    | (with_reducible refine condD (fun h => ?_) (fun h => ?_) <;> first | (exfalso; omega) | simp (disch := omega) only [go_sem, true_and, and_true, List.nil_append, ↓reduceIte, Nat.reduceEqDiff, andW_of, Int.toNat_natCast, List.length_map, List.length_cons, List.length_nil, ↓List.map_cons, ↓List.map_nil, reduceCtorEq, Option.some.injEq, not_true_eq_false, not_false_eq_true, condW_not, condW_beqT, condW_beqF, int_beq, int_bne, str_beq, str_bne, eqb_F, eqb_T, Bool.false_eq_true, List.cons_append, decide_true, decide_false, Nat.add_zero, Nat.zero_add, List.drop_succ_cons, List.drop_zero, List.take_succ_cons, List.take_zero, Option.map_some, Option.map_none, List.getElem?_cons_zero, List.getElem?_cons_succ, eq_self, beq_self_eq_true, Bool.bne_false, Bool.bne_true, Bool.true_beq, Bool.false_beq, *, decide_true, decide_false] | skip)
    | (with_reducible refine condW_intro (fun h => ?_) (fun h => ?_) <;> first | (exfalso; omega) | simp (disch := omega) only [go_sem, true_and, and_true, List.nil_append, ↓reduceIte, Nat.reduceEqDiff, andW_of, Int.toNat_natCast, List.length_map, List.length_cons, List.length_nil, ↓List.map_cons, ↓List.map_nil, reduceCtorEq, Option.some.injEq, not_true_eq_false, not_false_eq_true, condW_not, condW_beqT, condW_beqF, int_beq, int_bne, str_beq, str_bne, eqb_F, eqb_T, Bool.false_eq_true, List.cons_append, decide_true, decide_false, Nat.add_zero, Nat.zero_add, List.drop_succ_cons, List.drop_zero, List.take_succ_cons, List.take_zero, Option.map_some, Option.map_none, List.getElem?_cons_zero, List.getElem?_cons_succ, eq_self, beq_self_eq_true, Bool.bne_false, Bool.bne_true, Bool.true_beq, Bool.false_beq, *, decide_true, decide_false] | skip)
    | (refine callW_of law09_examples_abs rfl (.inl rfl) ?_)
    | (refine callW_of (box_Compare_abs _ _) rfl (.inl rfl) ?_)
    | (refine callW_of (ref09_Compare_abs _ _) rfl (.inl rfl) ?_)
    | (refine callW_of (base_Ints_abs _ _) rfl (.inl rfl) ?_)
    | (refine callW_of (box_Validate_abs _) rfl (.inl rfl) ?_)
    | (refine callW_of (ref09_Validate_abs _) rfl (.inl rfl) ?_)
    | (refine callW_of (box_Count_abs _) rfl (.inl rfl) ?_)
    | (refine callW_of (ref09_Count_abs _) rfl (.inl rfl) ?_)
    | (refine callW_of (box_Rank_abs _ _) rfl (.inl rfl) ?_)
    | (refine callW_of (ref09_Rank_abs _ _) rfl (.inl rfl) ?_)
    | (refine callW_of (box_Next_abs _ _) rfl (.inr rfl) ?_)
    | (refine callW_of (ref09_Next_abs _ _) rfl (.inr rfl) ?_)
    | (refine callW_of (ref09_Inside_abs _ _) rfl (.inl rfl) ?_)
    | (refine callW_of (box_Point_abs _ hn) rfl (.inr rfl) ?_)
    | (refine callW_of (ref09_Point_abs _ hn) rfl (.inr rfl) ?_)

/-- The next point is the next one in the order. -/
theorem lex_take {xs ys : List Int} : ∀ {k : Nat}, k ≤ xs.length → k ≤ ys.length → xs.take k = ys.take k → lex xs ys = lex (xs.drop k) (ys.drop k)
  | 0, _, _, _ => rfl
  | k + 1, h1, h2, h => by
    have ht : xs.take k = ys.take k := by
      have := congrArg (List.take k) h
      rw [List.take_take, List.take_take] at this
      simpa [Nat.min_eq_left (Nat.le_succ k)] using this
    have hk : xs[k]'(by omega) = ys[k]'(by omega) := by
      have e1 : (xs.take (k + 1))[k]? = (ys.take (k + 1))[k]? := by rw [h]
      rw [List.getElem?_take_of_lt (by omega), List.getElem?_take_of_lt (by omega), List.getElem?_eq_getElem (by omega), List.getElem?_eq_getElem (by omega)] at e1
      simpa using e1
    rw [lex_take (by omega) (by omega) ht, lex_eq (by omega) (by omega) hk]
theorem last_low {xs ps : List Int} (hin : InB xs ps) : ∀ (k : Nat), k ≤ xs.length → (∀ j, k ≤ j → j < xs.length → ps[j]?.getD 0 + 1 = xs[j]?.getD 0) → (∃ i, i < xs.length ∧ (∀ j, i < j → j < xs.length → ps[j]?.getD 0 + 1 = xs[j]?.getD 0) ∧ ps[i]?.getD 0 + 1 < xs[i]?.getD 0) ∨ ∀ j, j < xs.length → ps[j]?.getD 0 + 1 = xs[j]?.getD 0
  | 0, _, h => .inr fun j hj => h j (Nat.zero_le _) hj
  | k + 1, hk, h => by
    have hb := hin.2 k (by omega)
    by_cases e : ps[k]?.getD 0 + 1 = xs[k]?.getD 0
    · refine last_low hin k (by omega) fun j h1 h2 => ?_
      by_cases ej : j = k
      · rw [ej]; exact e
      · exact h j (by omega) h2
    · exact .inl ⟨k, by omega, fun j h1 h2 => h j (by omega) h2, by omega⟩
theorem lex_next {xs : List Int} (hb : bval xs = 0) (hpos : ∀ x ∈ xs, 1 ≤ x) {n : Int} (h0 : 0 ≤ n) (h1 : n + 1 < prod xs) : lex (pointOf xs n) (pointOf xs (n + 1)) = -1 := by
  have hin := pointOf_in hpos n
  have hw : Within xs (pointOf xs n) := ⟨hb, hin⟩
  have hr : rank xs (pointOf xs n) = n := rank_point hpos h0 (by omega)
  have hbp : bpoint xs (n + 1) = (pointOf xs (n + 1), true) := bpoint_in ⟨by omega, by rw [bcount_ok hb]; exact h1⟩
  rcases last_low hin xs.length (Nat.le_refl _) (fun j h1 h2 => by omega) with ⟨i, hi, hall, hlt⟩ | hall
  · have hh := next_hit hw hi hall hlt
    rw [hr, hbp] at hh
    have e : pointOf xs (n + 1) = bump (pointOf xs n) i := by simpa using hh
    rw [e]
    have hl := length_pointOf xs n
    have hi' : i < (pointOf xs n).length := by omega
    have hi2 : i < (bump (pointOf xs n) i).length := by rw [bump_len hi']; exact hi'
    have ht : (pointOf xs n).take i = (bump (pointOf xs n) i).take i := by
      unfold bump
      rw [List.take_append_of_le_length (by simp; omega), List.take_take, Nat.min_self]
    have hg : (bump (pointOf xs n) i)[i] = (pointOf xs n)[i] + 1 := by
      have := bump_get (ps := pointOf xs n) (i := i) (j := i) hi' hi'
      rw [if_neg (by omega), if_pos rfl, List.getElem?_eq_getElem hi2, List.getElem?_eq_getElem hi'] at this
      simpa using this
    rw [lex_take (by omega) (by omega) ht, lex_ne hi' hi2 (by omega), if_neg (by omega)]
  · have hm := next_miss hw hall
    rw [hr, hbp] at hm
    simp at hm

set_option maxRecDepth 200000 in
theorem BoxInverse_abs (ps0 ps1 : List PC) (h0 : OkPs [.slice [.int .i64]] ps0) (h1 : OkPs [.int .i64] ps1) : PCalls Try.prog 14 [argV false ps0, argV false ps1] (Go.Abs.B true) := by
  obtain ⟨_, rfl, k0⟩ := okOne h0
  obtain ⟨_, rfl, k1⟩ := okOne h1
  obtain ⟨a, rfl, _, _⟩ := okInts k0
  obtain ⟨n, rfl, hn⟩ := okInt k1
  clear h0 h1 k0 k1
  show PCalls _ n_law09_BoxInverse [aInts a, I n] _
  refine PCalls.of is_law09_BoxInverse (by simp) fun hb => runW_sound ?_
  clear hb
  simp only [c_law09_BoxInverse]
  by_cases hin : 0 ≤ n ∧ n < bcount a
  · obtain ⟨hn0, hn1⟩ := hin
    obtain ⟨g1, g2, g3, g4⟩ := pos_of_count (xs := a) (by omega)
    have hnp : n < prod a := by rw [← g2]; exact hn1
    have p1 := box_Point_abs a hn
    rw [bpoint_in ⟨hn0, hn1⟩] at p1
    have hin := pointOf_in g4.pos n
    have hw : Within a (pointOf a n) := ⟨g1, hin⟩
    have hr : rank a (pointOf a n) = n := rank_point g4.pos hn0 hnp
    have p2 := box_Rank_abs a (pointOf a n)
    rw [brank_in hw, hr] at p2
    have p3 := box_Next_abs a (pointOf a n)
    have e3 : bnext a (pointOf a n) = bpoint a (n + 1) := by rw [bnext, if_pos hw, hr]
    rw [e3] at p3
    have p4 := ref09_Inside_abs a (pointOf a n)
    rw [decide_eq_true hw] at p4
    have p5 := ref09_Count_abs a
    have hle := bcount_bd a
    by_cases hlast : n + 1 < bcount a
    · have hl2 : n + 1 < prod a := by rw [← g2]; exact hlast
      rw [bpoint_in ⟨by omega, hlast⟩] at p3
      have hw2 : Within a (pointOf a (n + 1)) := ⟨g1, pointOf_in g4.pos (n + 1)⟩
      have p6 := box_Rank_abs a (pointOf a (n + 1))
      rw [brank_in hw2, rank_point g4.pos (by omega) hl2] at p6
      have p7 := box_Compare_abs (pointOf a n) (pointOf a (n + 1))
      rw [lex_next g1 g4.pos hn0 hl2] at p7
      clear hw hw2 hin hr e3 g1 g2 g3 g4 hnp hl2
      repeat' first
        | simp (disch := omega) only [go_sem, true_and, and_true, List.nil_append, ↓reduceIte, Nat.reduceEqDiff, andW_of, Int.toNat_natCast, List.length_map, List.length_cons, List.length_nil, ↓List.map_cons, ↓List.map_nil, reduceCtorEq, Option.some.injEq, not_true_eq_false, not_false_eq_true, condW_not, condW_beqT, condW_beqF, int_beq, int_bne, str_beq, str_bne, eqb_F, eqb_T, Bool.false_eq_true, List.cons_append, decide_true, decide_false, Nat.add_zero, Nat.zero_add, List.drop_succ_cons, List.drop_zero, List.take_succ_cons, List.take_zero, Option.map_some, Option.map_none, List.getElem?_cons_zero, List.getElem?_cons_succ, eq_self, beq_self_eq_true, Bool.bne_false, Bool.bne_true, Bool.true_beq, Bool.false_beq, wrap_i64]
        | (with_reducible refine condD (fun h => ?_) (fun h => ?_) <;> first | (exfalso; omega) | simp (disch := omega) only [go_sem, true_and, and_true, List.nil_append, ↓reduceIte, Nat.reduceEqDiff, andW_of, Int.toNat_natCast, List.length_map, List.length_cons, List.length_nil, ↓List.map_cons, ↓List.map_nil, reduceCtorEq, Option.some.injEq, not_true_eq_false, not_false_eq_true, condW_not, condW_beqT, condW_beqF, int_beq, int_bne, str_beq, str_bne, eqb_F, eqb_T, Bool.false_eq_true, List.cons_append, decide_true, decide_false, Nat.add_zero, Nat.zero_add, List.drop_succ_cons, List.drop_zero, List.take_succ_cons, List.take_zero, Option.map_some, Option.map_none, List.getElem?_cons_zero, List.getElem?_cons_succ, eq_self, beq_self_eq_true, Bool.bne_false, Bool.bne_true, Bool.true_beq, Bool.false_beq, *, decide_true, decide_false, wrap_i64] | skip)
        | (with_reducible refine condW_intro (fun h => ?_) (fun h => ?_) <;> first | (exfalso; omega) | simp (disch := omega) only [go_sem, true_and, and_true, List.nil_append, ↓reduceIte, Nat.reduceEqDiff, andW_of, Int.toNat_natCast, List.length_map, List.length_cons, List.length_nil, ↓List.map_cons, ↓List.map_nil, reduceCtorEq, Option.some.injEq, not_true_eq_false, not_false_eq_true, condW_not, condW_beqT, condW_beqF, int_beq, int_bne, str_beq, str_bne, eqb_F, eqb_T, Bool.false_eq_true, List.cons_append, decide_true, decide_false, Nat.add_zero, Nat.zero_add, List.drop_succ_cons, List.drop_zero, List.take_succ_cons, List.take_zero, Option.map_some, Option.map_none, List.getElem?_cons_zero, List.getElem?_cons_succ, eq_self, beq_self_eq_true, Bool.bne_false, Bool.bne_true, Bool.true_beq, Bool.false_beq, *, decide_true, decide_false, wrap_i64] | skip)
        | (refine callW_of law09_examples_abs rfl (.inl rfl) ?_)
        | (refine callW_of p1 rfl (.inr rfl) ?_)
        | (refine callW_of p2 rfl (.inl rfl) ?_)
        | (refine callW_of p3 rfl (.inr rfl) ?_)
        | (refine callW_of p4 rfl (.inl rfl) ?_)
        | (refine callW_of p5 rfl (.inl rfl) ?_)
        | (refine callW_of p6 rfl (.inl rfl) ?_)
        | (refine callW_of p7 rfl (.inl rfl) ?_)
    · have hl2 : n + 1 = bcount a := by omega
      rw [bpoint_out (by omega)] at p3
      clear hw hin hr e3 g1 g2 g3 g4 hnp hlast
      repeat' first
        | simp (disch := omega) only [go_sem, true_and, and_true, List.nil_append, ↓reduceIte, Nat.reduceEqDiff, andW_of, Int.toNat_natCast, List.length_map, List.length_cons, List.length_nil, ↓List.map_cons, ↓List.map_nil, reduceCtorEq, Option.some.injEq, not_true_eq_false, not_false_eq_true, condW_not, condW_beqT, condW_beqF, int_beq, int_bne, str_beq, str_bne, eqb_F, eqb_T, Bool.false_eq_true, List.cons_append, decide_true, decide_false, Nat.add_zero, Nat.zero_add, List.drop_succ_cons, List.drop_zero, List.take_succ_cons, List.take_zero, Option.map_some, Option.map_none, List.getElem?_cons_zero, List.getElem?_cons_succ, eq_self, beq_self_eq_true, Bool.bne_false, Bool.bne_true, Bool.true_beq, Bool.false_beq, wrap_i64]
        | (with_reducible refine condD (fun h => ?_) (fun h => ?_) <;> first | (exfalso; omega) | simp (disch := omega) only [go_sem, true_and, and_true, List.nil_append, ↓reduceIte, Nat.reduceEqDiff, andW_of, Int.toNat_natCast, List.length_map, List.length_cons, List.length_nil, ↓List.map_cons, ↓List.map_nil, reduceCtorEq, Option.some.injEq, not_true_eq_false, not_false_eq_true, condW_not, condW_beqT, condW_beqF, int_beq, int_bne, str_beq, str_bne, eqb_F, eqb_T, Bool.false_eq_true, List.cons_append, decide_true, decide_false, Nat.add_zero, Nat.zero_add, List.drop_succ_cons, List.drop_zero, List.take_succ_cons, List.take_zero, Option.map_some, Option.map_none, List.getElem?_cons_zero, List.getElem?_cons_succ, eq_self, beq_self_eq_true, Bool.bne_false, Bool.bne_true, Bool.true_beq, Bool.false_beq, *, decide_true, decide_false, wrap_i64] | skip)
        | (with_reducible refine condW_intro (fun h => ?_) (fun h => ?_) <;> first | (exfalso; omega) | simp (disch := omega) only [go_sem, true_and, and_true, List.nil_append, ↓reduceIte, Nat.reduceEqDiff, andW_of, Int.toNat_natCast, List.length_map, List.length_cons, List.length_nil, ↓List.map_cons, ↓List.map_nil, reduceCtorEq, Option.some.injEq, not_true_eq_false, not_false_eq_true, condW_not, condW_beqT, condW_beqF, int_beq, int_bne, str_beq, str_bne, eqb_F, eqb_T, Bool.false_eq_true, List.cons_append, decide_true, decide_false, Nat.add_zero, Nat.zero_add, List.drop_succ_cons, List.drop_zero, List.take_succ_cons, List.take_zero, Option.map_some, Option.map_none, List.getElem?_cons_zero, List.getElem?_cons_succ, eq_self, beq_self_eq_true, Bool.bne_false, Bool.bne_true, Bool.true_beq, Bool.false_beq, *, decide_true, decide_false, wrap_i64] | skip)
        | (refine callW_of law09_examples_abs rfl (.inl rfl) ?_)
        | (refine callW_of p1 rfl (.inr rfl) ?_)
        | (refine callW_of p2 rfl (.inl rfl) ?_)
        | (refine callW_of p3 rfl (.inr rfl) ?_)
        | (refine callW_of p4 rfl (.inl rfl) ?_)
        | (refine callW_of p5 rfl (.inl rfl) ?_)
  · repeat' first
      | simp (disch := omega) only [go_sem, true_and, and_true, List.nil_append, ↓reduceIte, Nat.reduceEqDiff, andW_of, Int.toNat_natCast, List.length_map, List.length_cons, List.length_nil, ↓List.map_cons, ↓List.map_nil, reduceCtorEq, Option.some.injEq, not_true_eq_false, not_false_eq_true, condW_not, condW_beqT, condW_beqF, int_beq, int_bne, str_beq, str_bne, eqb_F, eqb_T, Bool.false_eq_true, List.cons_append, decide_true, decide_false, Nat.add_zero, Nat.zero_add, List.drop_succ_cons, List.drop_zero, List.take_succ_cons, List.take_zero, Option.map_some, Option.map_none, List.getElem?_cons_zero, List.getElem?_cons_succ, eq_self, beq_self_eq_true, Bool.bne_false, Bool.bne_true, Bool.true_beq, Bool.false_beq]
      | (with_reducible refine condD (fun h => ?_) (fun h => ?_) <;> first | (exfalso; omega) | simp (disch := omega) only [go_sem, true_and, and_true, List.nil_append, ↓reduceIte, Nat.reduceEqDiff, andW_of, Int.toNat_natCast, List.length_map, List.length_cons, List.length_nil, ↓List.map_cons, ↓List.map_nil, reduceCtorEq, Option.some.injEq, not_true_eq_false, not_false_eq_true, condW_not, condW_beqT, condW_beqF, int_beq, int_bne, str_beq, str_bne, eqb_F, eqb_T, Bool.false_eq_true, List.cons_append, decide_true, decide_false, Nat.add_zero, Nat.zero_add, List.drop_succ_cons, List.drop_zero, List.take_succ_cons, List.take_zero, Option.map_some, Option.map_none, List.getElem?_cons_zero, List.getElem?_cons_succ, eq_self, beq_self_eq_true, Bool.bne_false, Bool.bne_true, Bool.true_beq, Bool.false_beq, *, decide_true, decide_false] | skip)
      | (with_reducible refine condW_intro (fun h => ?_) (fun h => ?_) <;> first | (exfalso; omega) | simp (disch := omega) only [go_sem, true_and, and_true, List.nil_append, ↓reduceIte, Nat.reduceEqDiff, andW_of, Int.toNat_natCast, List.length_map, List.length_cons, List.length_nil, ↓List.map_cons, ↓List.map_nil, reduceCtorEq, Option.some.injEq, not_true_eq_false, not_false_eq_true, condW_not, condW_beqT, condW_beqF, int_beq, int_bne, str_beq, str_bne, eqb_F, eqb_T, Bool.false_eq_true, List.cons_append, decide_true, decide_false, Nat.add_zero, Nat.zero_add, List.drop_succ_cons, List.drop_zero, List.take_succ_cons, List.take_zero, Option.map_some, Option.map_none, List.getElem?_cons_zero, List.getElem?_cons_succ, eq_self, beq_self_eq_true, Bool.bne_false, Bool.bne_true, Bool.true_beq, Bool.false_beq, *, decide_true, decide_false] | skip)
      | (refine callW_of law09_examples_abs rfl (.inl rfl) ?_)
      | (refine callW_of (box_Compare_abs _ _) rfl (.inl rfl) ?_)
      | (refine callW_of (ref09_Compare_abs _ _) rfl (.inl rfl) ?_)
      | (refine callW_of (base_Ints_abs _ _) rfl (.inl rfl) ?_)
      | (refine callW_of (box_Validate_abs _) rfl (.inl rfl) ?_)
      | (refine callW_of (ref09_Validate_abs _) rfl (.inl rfl) ?_)
      | (refine callW_of (box_Count_abs _) rfl (.inl rfl) ?_)
      | (refine callW_of (ref09_Count_abs _) rfl (.inl rfl) ?_)
      | (refine callW_of (box_Rank_abs _ _) rfl (.inl rfl) ?_)
      | (refine callW_of (ref09_Rank_abs _ _) rfl (.inl rfl) ?_)
      | (refine callW_of (box_Next_abs _ _) rfl (.inr rfl) ?_)
      | (refine callW_of (ref09_Next_abs _ _) rfl (.inr rfl) ?_)
      | (refine callW_of (ref09_Inside_abs _ _) rfl (.inl rfl) ?_)

theorem BoxRange_abs (ps0 ps1 ps2 : List PC) (h0 : OkPs [.int .i64, .slice [.str, .int .i64]] ps0) (h1 : OkPs [.slice [.str]] ps1) (h2 : OkPs [.slice [.int .i64]] ps2) : PCalls Try.prog 10 [argV true ps0, argV false ps1, argV false ps2] (Go.Abs.B true) := by
  obtain ⟨k, l, rfl, hk, hl, _⟩ := okLin h0
  obtain ⟨_, rfl, k1⟩ := okOne h1
  obtain ⟨_, rfl, k2⟩ := okOne h2
  obtain ⟨ns, rfl, _⟩ := okStrs k1
  obtain ⟨xs, rfl, _, _⟩ := okInts k2
  clear h0 h1 h2 k1 k2
  show PCalls _ n_law09_BoxRange [aLin k l, aStrs ns, aInts xs] _
  refine PCalls.of is_law09_BoxRange (by simp) fun hb => runW_sound ?_
  clear hb
  obtain ⟨b, p0, _⟩ := law09_few_abs k l ns xs
  have p1 := box_Range_abs ns xs hk hl
  have p2 := ref09_Range_abs ns xs hk hl
  simp only [c_law09_BoxRange]
  repeat' first
    | simp (disch := omega) only [go_sem, true_and, and_true, List.nil_append, ↓reduceIte, Nat.reduceEqDiff, andW_of, Int.toNat_natCast, List.length_map, List.length_cons, List.length_nil, ↓List.map_cons, ↓List.map_nil, reduceCtorEq, Option.some.injEq, not_true_eq_false, not_false_eq_true, condW_not, condW_beqT, condW_beqF, int_beq, int_bne, str_beq, str_bne, eqb_F, eqb_T, Bool.false_eq_true, List.cons_append, decide_true, decide_false, Nat.add_zero, Nat.zero_add, List.drop_succ_cons, List.drop_zero, List.take_succ_cons, List.take_zero, Option.map_some, Option.map_none, List.getElem?_cons_zero, List.getElem?_cons_succ, eq_self, beq_self_eq_true, Bool.bne_false, Bool.bne_true, Bool.true_beq, Bool.false_beq]
    | (with_reducible refine condD (fun h => ?_) (fun h => ?_) <;> first | (exfalso; omega) | simp (disch := omega) only [go_sem, true_and, and_true, List.nil_append, ↓reduceIte, Nat.reduceEqDiff, andW_of, Int.toNat_natCast, List.length_map, List.length_cons, List.length_nil, ↓List.map_cons, ↓List.map_nil, reduceCtorEq, Option.some.injEq, not_true_eq_false, not_false_eq_true, condW_not, condW_beqT, condW_beqF, int_beq, int_bne, str_beq, str_bne, eqb_F, eqb_T, Bool.false_eq_true, List.cons_append, decide_true, decide_false, Nat.add_zero, Nat.zero_add, List.drop_succ_cons, List.drop_zero, List.take_succ_cons, List.take_zero, Option.map_some, Option.map_none, List.getElem?_cons_zero, List.getElem?_cons_succ, eq_self, beq_self_eq_true, Bool.bne_false, Bool.bne_true, Bool.true_beq, Bool.false_beq, *, decide_true, decide_false] | skip)
    | (with_reducible refine condW_intro (fun h => ?_) (fun h => ?_) <;> first | (exfalso; omega) | simp (disch := omega) only [go_sem, true_and, and_true, List.nil_append, ↓reduceIte, Nat.reduceEqDiff, andW_of, Int.toNat_natCast, List.length_map, List.length_cons, List.length_nil, ↓List.map_cons, ↓List.map_nil, reduceCtorEq, Option.some.injEq, not_true_eq_false, not_false_eq_true, condW_not, condW_beqT, condW_beqF, int_beq, int_bne, str_beq, str_bne, eqb_F, eqb_T, Bool.false_eq_true, List.cons_append, decide_true, decide_false, Nat.add_zero, Nat.zero_add, List.drop_succ_cons, List.drop_zero, List.take_succ_cons, List.take_zero, Option.map_some, Option.map_none, List.getElem?_cons_zero, List.getElem?_cons_succ, eq_self, beq_self_eq_true, Bool.bne_false, Bool.bne_true, Bool.true_beq, Bool.false_beq, *, decide_true, decide_false] | skip)
    | (refine callW_of law09_examples_abs rfl (.inl rfl) ?_)
    | (refine callW_of p0 rfl (.inl rfl) ?_)
    | (refine callW_of p1 rfl (.inl rfl) ?_)
    | (refine callW_of p2 rfl (.inl rfl) ?_)
end Go.Proofs.Ytcbnnjadgkgheaa
