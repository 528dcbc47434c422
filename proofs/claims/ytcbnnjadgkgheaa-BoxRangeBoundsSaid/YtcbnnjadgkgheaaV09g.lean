/- Walks by the abstract machine: ranges of forms over boxes. -/
import Derived.Test.YtcbnnjadgkgheaaV09f
set_option linter.unusedVariables false
set_option linter.unusedSimpArgs false
set_option maxRecDepth 20000
namespace Go.Proofs.Ytcbnnjadgkgheaa
open Go.Abs Go.RowKit

/-- s + a * b in 64 bits, as box.add has it. -/
def badd (s a b : Int) : Int × Bool := if in64 (a * b) then (IntKind.wrap .i64 (s + a * b), decide (in64 (s + a * b))) else (0, false)
theorem add_over {s p : Int} (hs : in64 s) (hp : in64 p) (h0 : p ≠ 0) : (decide (IntKind.wrap .i64 (s + p) > s) == decide (p > 0)) = decide (in64 (s + p)) := by
  have e : IntKind.wrap .i64 (s + p) = s + p - (if s + p > 9223372036854775807 then 18446744073709551616 else if s + p < -9223372036854775808 then -18446744073709551616 else 0) := by
    rw [IntKind.wrap_i64]
    unfold in64 at hs hp
    split
    · omega
    · split <;> omega
  rw [e]
  have fin : ∀ {A B C : Prop} [Decidable A] [Decidable B] [Decidable C], ((A ↔ B) ↔ C) → (decide A == decide B) = decide C := by
    intro A B C _ _ _ h
    by_cases a : A <;> by_cases b : B <;> by_cases c : C <;> simp_all
  refine fin ?_
  by_cases g1 : s + p > 9223372036854775807
  · rw [if_pos g1]
    have l1 : ¬ s + p - 18446744073709551616 > s := by unfold in64 at hs hp; omega
    have l2 : p > 0 := by unfold in64 at hs hp; omega
    have l3 : ¬ in64 (s + p) := by unfold in64; omega
    simp only [l1, l2, l3, iff_true, iff_self]
  · rw [if_neg g1]
    by_cases g2 : s + p < -9223372036854775808
    · rw [if_pos g2]
      have l1 : s + p - -18446744073709551616 > s := by unfold in64 at hs hp; omega
      have l2 : ¬ p > 0 := by unfold in64 at hs hp; omega
      have l3 : ¬ in64 (s + p) := by unfold in64; omega
      simp only [l1, l2, l3, iff_false, not_true_eq_false]
    · rw [if_neg g2]
      have l3 : in64 (s + p) := by unfold in64; omega
      simp only [l3, iff_true]
      omega
theorem box_add_abs {s a b : Int} (hs : in64 s) (ha : in64 a) (hb : in64 b) : PCalls Try.prog n_box_add [I s, I a, I b] (aOk (badd s a b)) := by
  refine PCalls.of is_box_add (by simp) fun _ => runW_sound ?_
  obtain ⟨hs1, hs2⟩ := hs
  obtain ⟨ha1, ha2⟩ := ha
  obtain ⟨hb1, hb2⟩ := hb
  simp only [c_box_add]
  have h0 : a = 0 ∨ b = 0 → badd s a b = (s, true) := by
    intro h
    have e : a * b = 0 := by rcases h with h | h <;> simp [h]
    rw [badd, e, if_pos (by unfold in64; omega), Int.add_zero, wrap_i64 ⟨hs1, hs2⟩, decide_eq_true (by unfold in64; omega)]
  by_cases ha0 : a = 0
  · rw [h0 (.inl ha0)]
    repeat' first
      | simp (disch := omega) only [go_sem, true_and, and_true, List.nil_append, ↓reduceIte, Nat.reduceEqDiff, andW_of, Int.toNat_natCast, List.length_map, List.length_cons, List.length_nil, ↓List.map_cons, ↓List.map_nil, reduceCtorEq, Option.some.injEq, not_true_eq_false, not_false_eq_true, condW_not, condW_beqT, condW_beqF, int_beq, int_bne, str_beq, str_bne, eqb_F, eqb_T, Bool.false_eq_true, List.cons_append, decide_true, decide_false, Nat.add_zero, Nat.zero_add, List.drop_succ_cons, List.drop_zero, List.take_succ_cons, List.take_zero, Option.map_some, Option.map_none, List.getElem?_cons_zero, List.getElem?_cons_succ, eq_self, beq_self_eq_true, Bool.bne_false, Bool.bne_true, Bool.true_beq, Bool.false_beq]
      | (with_reducible refine condD (fun h => ?_) (fun h => ?_) <;> first | (exfalso; omega) | simp (disch := omega) only [go_sem, true_and, and_true, List.nil_append, ↓reduceIte, Nat.reduceEqDiff, andW_of, Int.toNat_natCast, List.length_map, List.length_cons, List.length_nil, ↓List.map_cons, ↓List.map_nil, reduceCtorEq, Option.some.injEq, not_true_eq_false, not_false_eq_true, condW_not, condW_beqT, condW_beqF, int_beq, int_bne, str_beq, str_bne, eqb_F, eqb_T, Bool.false_eq_true, List.cons_append, decide_true, decide_false, Nat.add_zero, Nat.zero_add, List.drop_succ_cons, List.drop_zero, List.take_succ_cons, List.take_zero, Option.map_some, Option.map_none, List.getElem?_cons_zero, List.getElem?_cons_succ, eq_self, beq_self_eq_true, Bool.bne_false, Bool.bne_true, Bool.true_beq, Bool.false_beq, *, decide_true, decide_false] | skip)
      | (with_reducible refine condW_intro (fun h => ?_) (fun h => ?_) <;> first | (exfalso; omega) | simp (disch := omega) only [go_sem, true_and, and_true, List.nil_append, ↓reduceIte, Nat.reduceEqDiff, andW_of, Int.toNat_natCast, List.length_map, List.length_cons, List.length_nil, ↓List.map_cons, ↓List.map_nil, reduceCtorEq, Option.some.injEq, not_true_eq_false, not_false_eq_true, condW_not, condW_beqT, condW_beqF, int_beq, int_bne, str_beq, str_bne, eqb_F, eqb_T, Bool.false_eq_true, List.cons_append, decide_true, decide_false, Nat.add_zero, Nat.zero_add, List.drop_succ_cons, List.drop_zero, List.take_succ_cons, List.take_zero, Option.map_some, Option.map_none, List.getElem?_cons_zero, List.getElem?_cons_succ, eq_self, beq_self_eq_true, Bool.bne_false, Bool.bne_true, Bool.true_beq, Bool.false_beq, *, decide_true, decide_false] | skip)
  by_cases hb0 : b = 0
  · rw [h0 (.inr hb0)]
    repeat' first
      | simp (disch := omega) only [go_sem, true_and, and_true, List.nil_append, ↓reduceIte, Nat.reduceEqDiff, andW_of, Int.toNat_natCast, List.length_map, List.length_cons, List.length_nil, ↓List.map_cons, ↓List.map_nil, reduceCtorEq, Option.some.injEq, not_true_eq_false, not_false_eq_true, condW_not, condW_beqT, condW_beqF, int_beq, int_bne, str_beq, str_bne, eqb_F, eqb_T, Bool.false_eq_true, List.cons_append, decide_true, decide_false, Nat.add_zero, Nat.zero_add, List.drop_succ_cons, List.drop_zero, List.take_succ_cons, List.take_zero, Option.map_some, Option.map_none, List.getElem?_cons_zero, List.getElem?_cons_succ, eq_self, beq_self_eq_true, Bool.bne_false, Bool.bne_true, Bool.true_beq, Bool.false_beq]
      | (with_reducible refine condD (fun h => ?_) (fun h => ?_) <;> first | (exfalso; omega) | simp (disch := omega) only [go_sem, true_and, and_true, List.nil_append, ↓reduceIte, Nat.reduceEqDiff, andW_of, Int.toNat_natCast, List.length_map, List.length_cons, List.length_nil, ↓List.map_cons, ↓List.map_nil, reduceCtorEq, Option.some.injEq, not_true_eq_false, not_false_eq_true, condW_not, condW_beqT, condW_beqF, int_beq, int_bne, str_beq, str_bne, eqb_F, eqb_T, Bool.false_eq_true, List.cons_append, decide_true, decide_false, Nat.add_zero, Nat.zero_add, List.drop_succ_cons, List.drop_zero, List.take_succ_cons, List.take_zero, Option.map_some, Option.map_none, List.getElem?_cons_zero, List.getElem?_cons_succ, eq_self, beq_self_eq_true, Bool.bne_false, Bool.bne_true, Bool.true_beq, Bool.false_beq, *, decide_true, decide_false] | skip)
      | (with_reducible refine condW_intro (fun h => ?_) (fun h => ?_) <;> first | (exfalso; omega) | simp (disch := omega) only [go_sem, true_and, and_true, List.nil_append, ↓reduceIte, Nat.reduceEqDiff, andW_of, Int.toNat_natCast, List.length_map, List.length_cons, List.length_nil, ↓List.map_cons, ↓List.map_nil, reduceCtorEq, Option.some.injEq, not_true_eq_false, not_false_eq_true, condW_not, condW_beqT, condW_beqF, int_beq, int_bne, str_beq, str_bne, eqb_F, eqb_T, Bool.false_eq_true, List.cons_append, decide_true, decide_false, Nat.add_zero, Nat.zero_add, List.drop_succ_cons, List.drop_zero, List.take_succ_cons, List.take_zero, Option.map_some, Option.map_none, List.getElem?_cons_zero, List.getElem?_cons_succ, eq_self, beq_self_eq_true, Bool.bne_false, Bool.bne_true, Bool.true_beq, Bool.false_beq, *, decide_true, decide_false] | skip)
  have hp : a * b ≠ 0 := fun e => by rcases Int.mul_eq_zero.1 e with e | e <;> omega
  by_cases hbad : a = -9223372036854775808 ∧ b = -1
  · obtain ⟨rfl, rfl⟩ := hbad
    rw [badd, if_neg (by unfold in64; omega)]
    repeat' first
      | simp (disch := omega) only [go_sem, true_and, and_true, List.nil_append, ↓reduceIte, Nat.reduceEqDiff, andW_of, Int.toNat_natCast, List.length_map, List.length_cons, List.length_nil, ↓List.map_cons, ↓List.map_nil, reduceCtorEq, Option.some.injEq, not_true_eq_false, not_false_eq_true, condW_not, condW_beqT, condW_beqF, int_beq, int_bne, str_beq, str_bne, eqb_F, eqb_T, Bool.false_eq_true, List.cons_append, decide_true, decide_false, Nat.add_zero, Nat.zero_add, List.drop_succ_cons, List.drop_zero, List.take_succ_cons, List.take_zero, Option.map_some, Option.map_none, List.getElem?_cons_zero, List.getElem?_cons_succ, eq_self, beq_self_eq_true, Bool.bne_false, Bool.bne_true, Bool.true_beq, Bool.false_beq]
      | (with_reducible refine condD (fun h => ?_) (fun h => ?_) <;> first | (exfalso; omega) | simp (disch := omega) only [go_sem, true_and, and_true, List.nil_append, ↓reduceIte, Nat.reduceEqDiff, andW_of, Int.toNat_natCast, List.length_map, List.length_cons, List.length_nil, ↓List.map_cons, ↓List.map_nil, reduceCtorEq, Option.some.injEq, not_true_eq_false, not_false_eq_true, condW_not, condW_beqT, condW_beqF, int_beq, int_bne, str_beq, str_bne, eqb_F, eqb_T, Bool.false_eq_true, List.cons_append, decide_true, decide_false, Nat.add_zero, Nat.zero_add, List.drop_succ_cons, List.drop_zero, List.take_succ_cons, List.take_zero, Option.map_some, Option.map_none, List.getElem?_cons_zero, List.getElem?_cons_succ, eq_self, beq_self_eq_true, Bool.bne_false, Bool.bne_true, Bool.true_beq, Bool.false_beq, *, decide_true, decide_false] | skip)
      | (with_reducible refine condW_intro (fun h => ?_) (fun h => ?_) <;> first | (exfalso; omega) | simp (disch := omega) only [go_sem, true_and, and_true, List.nil_append, ↓reduceIte, Nat.reduceEqDiff, andW_of, Int.toNat_natCast, List.length_map, List.length_cons, List.length_nil, ↓List.map_cons, ↓List.map_nil, reduceCtorEq, Option.some.injEq, not_true_eq_false, not_false_eq_true, condW_not, condW_beqT, condW_beqF, int_beq, int_bne, str_beq, str_bne, eqb_F, eqb_T, Bool.false_eq_true, List.cons_append, decide_true, decide_false, Nat.add_zero, Nat.zero_add, List.drop_succ_cons, List.drop_zero, List.take_succ_cons, List.take_zero, Option.map_some, Option.map_none, List.getElem?_cons_zero, List.getElem?_cons_succ, eq_self, beq_self_eq_true, Bool.bne_false, Bool.bne_true, Bool.true_beq, Bool.false_beq, *, decide_true, decide_false] | skip)
    all_goals simp
  · have hw := wrap_mul2 (a := a) (b := b) (by unfold in64; omega) (by unfold in64; omega) hb0 (fun h => hbad ⟨h.2, h.1⟩)
    by_cases hm : a = -9223372036854775808
    · subst hm
      by_cases h64 : in64 ((-9223372036854775808) * b)
      · have h1 := hw.2 h64
        rw [wrap_i64 h64] at h1
        rw [badd, if_pos h64]
        have hw1 : IntKind.wrap .i64 ((-9223372036854775808) * b) = (-9223372036854775808) * b := wrap_i64 h64
        clear h0 hw
        obtain ⟨p, hpe⟩ : ∃ p, (-9223372036854775808) * b = p := ⟨_, rfl⟩
        rw [hpe] at h1 hw1 hp h64 ⊢
        obtain ⟨hp1, hp2⟩ := h64
        repeat' first
          | simp (disch := omega) only [go_sem, true_and, and_true, List.nil_append, ↓reduceIte, Nat.reduceEqDiff, andW_of, Int.toNat_natCast, List.length_map, List.length_cons, List.length_nil, ↓List.map_cons, ↓List.map_nil, reduceCtorEq, Option.some.injEq, not_true_eq_false, not_false_eq_true, condW_not, condW_beqT, condW_beqF, int_beq, int_bne, str_beq, str_bne, eqb_F, eqb_T, Bool.false_eq_true, List.cons_append, decide_true, decide_false, Nat.add_zero, Nat.zero_add, List.drop_succ_cons, List.drop_zero, List.take_succ_cons, List.take_zero, Option.map_some, Option.map_none, List.getElem?_cons_zero, List.getElem?_cons_succ, eq_self, beq_self_eq_true, Bool.bne_false, Bool.bne_true, Bool.true_beq, Bool.false_beq, hpe, hw1]
          | (with_reducible refine condD (fun h => ?_) (fun h => ?_) <;> first | (exfalso; omega) | simp (disch := omega) only [go_sem, true_and, and_true, List.nil_append, ↓reduceIte, Nat.reduceEqDiff, andW_of, Int.toNat_natCast, List.length_map, List.length_cons, List.length_nil, ↓List.map_cons, ↓List.map_nil, reduceCtorEq, Option.some.injEq, not_true_eq_false, not_false_eq_true, condW_not, condW_beqT, condW_beqF, int_beq, int_bne, str_beq, str_bne, eqb_F, eqb_T, Bool.false_eq_true, List.cons_append, decide_true, decide_false, Nat.add_zero, Nat.zero_add, List.drop_succ_cons, List.drop_zero, List.take_succ_cons, List.take_zero, Option.map_some, Option.map_none, List.getElem?_cons_zero, List.getElem?_cons_succ, eq_self, beq_self_eq_true, Bool.bne_false, Bool.bne_true, Bool.true_beq, Bool.false_beq, *, decide_true, decide_false, hpe, hw1] | skip)
          | (with_reducible refine condW_intro (fun h => ?_) (fun h => ?_) <;> first | (exfalso; omega) | simp (disch := omega) only [go_sem, true_and, and_true, List.nil_append, ↓reduceIte, Nat.reduceEqDiff, andW_of, Int.toNat_natCast, List.length_map, List.length_cons, List.length_nil, ↓List.map_cons, ↓List.map_nil, reduceCtorEq, Option.some.injEq, not_true_eq_false, not_false_eq_true, condW_not, condW_beqT, condW_beqF, int_beq, int_bne, str_beq, str_bne, eqb_F, eqb_T, Bool.false_eq_true, List.cons_append, decide_true, decide_false, Nat.add_zero, Nat.zero_add, List.drop_succ_cons, List.drop_zero, List.take_succ_cons, List.take_zero, Option.map_some, Option.map_none, List.getElem?_cons_zero, List.getElem?_cons_succ, eq_self, beq_self_eq_true, Bool.bne_false, Bool.bne_true, Bool.true_beq, Bool.false_beq, *, decide_true, decide_false, hpe, hw1] | skip)
        all_goals rw [add_over ⟨hs1, hs2⟩ ⟨hp1, hp2⟩ hp]
      · rw [badd, if_neg h64]
        have h1 : ¬ IntKind.wrap .i64 ((IntKind.wrap .i64 ((-9223372036854775808) * b)).tdiv b) = (-9223372036854775808) := fun h => h64 (hw.1 h)
        clear hw h0
        repeat' first
          | simp (disch := omega) only [go_sem, true_and, and_true, List.nil_append, ↓reduceIte, Nat.reduceEqDiff, andW_of, Int.toNat_natCast, List.length_map, List.length_cons, List.length_nil, ↓List.map_cons, ↓List.map_nil, reduceCtorEq, Option.some.injEq, not_true_eq_false, not_false_eq_true, condW_not, condW_beqT, condW_beqF, int_beq, int_bne, str_beq, str_bne, eqb_F, eqb_T, Bool.false_eq_true, List.cons_append, decide_true, decide_false, Nat.add_zero, Nat.zero_add, List.drop_succ_cons, List.drop_zero, List.take_succ_cons, List.take_zero, Option.map_some, Option.map_none, List.getElem?_cons_zero, List.getElem?_cons_succ, eq_self, beq_self_eq_true, Bool.bne_false, Bool.bne_true, Bool.true_beq, Bool.false_beq, h1]
          | (with_reducible refine condD (fun h => ?_) (fun h => ?_) <;> first | (exfalso; omega) | simp (disch := omega) only [go_sem, true_and, and_true, List.nil_append, ↓reduceIte, Nat.reduceEqDiff, andW_of, Int.toNat_natCast, List.length_map, List.length_cons, List.length_nil, ↓List.map_cons, ↓List.map_nil, reduceCtorEq, Option.some.injEq, not_true_eq_false, not_false_eq_true, condW_not, condW_beqT, condW_beqF, int_beq, int_bne, str_beq, str_bne, eqb_F, eqb_T, Bool.false_eq_true, List.cons_append, decide_true, decide_false, Nat.add_zero, Nat.zero_add, List.drop_succ_cons, List.drop_zero, List.take_succ_cons, List.take_zero, Option.map_some, Option.map_none, List.getElem?_cons_zero, List.getElem?_cons_succ, eq_self, beq_self_eq_true, Bool.bne_false, Bool.bne_true, Bool.true_beq, Bool.false_beq, *, decide_true, decide_false, h1] | skip)
          | (with_reducible refine condW_intro (fun h => ?_) (fun h => ?_) <;> first | (exfalso; omega) | simp (disch := omega) only [go_sem, true_and, and_true, List.nil_append, ↓reduceIte, Nat.reduceEqDiff, andW_of, Int.toNat_natCast, List.length_map, List.length_cons, List.length_nil, ↓List.map_cons, ↓List.map_nil, reduceCtorEq, Option.some.injEq, not_true_eq_false, not_false_eq_true, condW_not, condW_beqT, condW_beqF, int_beq, int_bne, str_beq, str_bne, eqb_F, eqb_T, Bool.false_eq_true, List.cons_append, decide_true, decide_false, Nat.add_zero, Nat.zero_add, List.drop_succ_cons, List.drop_zero, List.take_succ_cons, List.take_zero, Option.map_some, Option.map_none, List.getElem?_cons_zero, List.getElem?_cons_succ, eq_self, beq_self_eq_true, Bool.bne_false, Bool.bne_true, Bool.true_beq, Bool.false_beq, *, decide_true, decide_false, h1] | skip)
    · skip
      by_cases h64 : in64 (a * b)
      · have h1 := hw.2 h64
        rw [wrap_i64 h64] at h1
        rw [badd, if_pos h64]
        have hw1 : IntKind.wrap .i64 (a * b) = a * b := wrap_i64 h64
        clear h0 hw
        obtain ⟨p, hpe⟩ : ∃ p, a * b = p := ⟨_, rfl⟩
        rw [hpe] at h1 hw1 hp h64 ⊢
        obtain ⟨hp1, hp2⟩ := h64
        repeat' first
          | simp (disch := omega) only [go_sem, true_and, and_true, List.nil_append, ↓reduceIte, Nat.reduceEqDiff, andW_of, Int.toNat_natCast, List.length_map, List.length_cons, List.length_nil, ↓List.map_cons, ↓List.map_nil, reduceCtorEq, Option.some.injEq, not_true_eq_false, not_false_eq_true, condW_not, condW_beqT, condW_beqF, int_beq, int_bne, str_beq, str_bne, eqb_F, eqb_T, Bool.false_eq_true, List.cons_append, decide_true, decide_false, Nat.add_zero, Nat.zero_add, List.drop_succ_cons, List.drop_zero, List.take_succ_cons, List.take_zero, Option.map_some, Option.map_none, List.getElem?_cons_zero, List.getElem?_cons_succ, eq_self, beq_self_eq_true, Bool.bne_false, Bool.bne_true, Bool.true_beq, Bool.false_beq, hpe, hw1]
          | (with_reducible refine condD (fun h => ?_) (fun h => ?_) <;> first | (exfalso; omega) | simp (disch := omega) only [go_sem, true_and, and_true, List.nil_append, ↓reduceIte, Nat.reduceEqDiff, andW_of, Int.toNat_natCast, List.length_map, List.length_cons, List.length_nil, ↓List.map_cons, ↓List.map_nil, reduceCtorEq, Option.some.injEq, not_true_eq_false, not_false_eq_true, condW_not, condW_beqT, condW_beqF, int_beq, int_bne, str_beq, str_bne, eqb_F, eqb_T, Bool.false_eq_true, List.cons_append, decide_true, decide_false, Nat.add_zero, Nat.zero_add, List.drop_succ_cons, List.drop_zero, List.take_succ_cons, List.take_zero, Option.map_some, Option.map_none, List.getElem?_cons_zero, List.getElem?_cons_succ, eq_self, beq_self_eq_true, Bool.bne_false, Bool.bne_true, Bool.true_beq, Bool.false_beq, *, decide_true, decide_false, hpe, hw1] | skip)
          | (with_reducible refine condW_intro (fun h => ?_) (fun h => ?_) <;> first | (exfalso; omega) | simp (disch := omega) only [go_sem, true_and, and_true, List.nil_append, ↓reduceIte, Nat.reduceEqDiff, andW_of, Int.toNat_natCast, List.length_map, List.length_cons, List.length_nil, ↓List.map_cons, ↓List.map_nil, reduceCtorEq, Option.some.injEq, not_true_eq_false, not_false_eq_true, condW_not, condW_beqT, condW_beqF, int_beq, int_bne, str_beq, str_bne, eqb_F, eqb_T, Bool.false_eq_true, List.cons_append, decide_true, decide_false, Nat.add_zero, Nat.zero_add, List.drop_succ_cons, List.drop_zero, List.take_succ_cons, List.take_zero, Option.map_some, Option.map_none, List.getElem?_cons_zero, List.getElem?_cons_succ, eq_self, beq_self_eq_true, Bool.bne_false, Bool.bne_true, Bool.true_beq, Bool.false_beq, *, decide_true, decide_false, hpe, hw1] | skip)
        all_goals rw [add_over ⟨hs1, hs2⟩ ⟨hp1, hp2⟩ hp]
      · rw [badd, if_neg h64]
        have h1 : ¬ IntKind.wrap .i64 ((IntKind.wrap .i64 (a * b)).tdiv b) = a := fun h => h64 (hw.1 h)
        clear hw h0
        repeat' first
          | simp (disch := omega) only [go_sem, true_and, and_true, List.nil_append, ↓reduceIte, Nat.reduceEqDiff, andW_of, Int.toNat_natCast, List.length_map, List.length_cons, List.length_nil, ↓List.map_cons, ↓List.map_nil, reduceCtorEq, Option.some.injEq, not_true_eq_false, not_false_eq_true, condW_not, condW_beqT, condW_beqF, int_beq, int_bne, str_beq, str_bne, eqb_F, eqb_T, Bool.false_eq_true, List.cons_append, decide_true, decide_false, Nat.add_zero, Nat.zero_add, List.drop_succ_cons, List.drop_zero, List.take_succ_cons, List.take_zero, Option.map_some, Option.map_none, List.getElem?_cons_zero, List.getElem?_cons_succ, eq_self, beq_self_eq_true, Bool.bne_false, Bool.bne_true, Bool.true_beq, Bool.false_beq, h1]
          | (with_reducible refine condD (fun h => ?_) (fun h => ?_) <;> first | (exfalso; omega) | simp (disch := omega) only [go_sem, true_and, and_true, List.nil_append, ↓reduceIte, Nat.reduceEqDiff, andW_of, Int.toNat_natCast, List.length_map, List.length_cons, List.length_nil, ↓List.map_cons, ↓List.map_nil, reduceCtorEq, Option.some.injEq, not_true_eq_false, not_false_eq_true, condW_not, condW_beqT, condW_beqF, int_beq, int_bne, str_beq, str_bne, eqb_F, eqb_T, Bool.false_eq_true, List.cons_append, decide_true, decide_false, Nat.add_zero, Nat.zero_add, List.drop_succ_cons, List.drop_zero, List.take_succ_cons, List.take_zero, Option.map_some, Option.map_none, List.getElem?_cons_zero, List.getElem?_cons_succ, eq_self, beq_self_eq_true, Bool.bne_false, Bool.bne_true, Bool.true_beq, Bool.false_beq, *, decide_true, decide_false, h1] | skip)
          | (with_reducible refine condW_intro (fun h => ?_) (fun h => ?_) <;> first | (exfalso; omega) | simp (disch := omega) only [go_sem, true_and, and_true, List.nil_append, ↓reduceIte, Nat.reduceEqDiff, andW_of, Int.toNat_natCast, List.length_map, List.length_cons, List.length_nil, ↓List.map_cons, ↓List.map_nil, reduceCtorEq, Option.some.injEq, not_true_eq_false, not_false_eq_true, condW_not, condW_beqT, condW_beqF, int_beq, int_bne, str_beq, str_bne, eqb_F, eqb_T, Bool.false_eq_true, List.cons_append, decide_true, decide_false, Nat.add_zero, Nat.zero_add, List.drop_succ_cons, List.drop_zero, List.take_succ_cons, List.take_zero, Option.map_some, Option.map_none, List.getElem?_cons_zero, List.getElem?_cons_succ, eq_self, beq_self_eq_true, Bool.bne_false, Bool.bne_true, Bool.true_beq, Bool.false_beq, *, decide_true, decide_false, h1] | skip)

theorem badd_ok {s a b : Int} (h : (badd s a b).2 = true) : in64 (a * b) ∧ in64 (s + a * b) ∧ (badd s a b).1 = s + a * b := by
  unfold badd at h ⊢
  split at h
  · rename_i h1
    have h2 : in64 (s + a * b) := of_decide_eq_true h
    rw [if_pos h1]
    exact ⟨h1, h2, wrap_i64 h2⟩
  · cases h
theorem badd_no {s a b : Int} (h : (badd s a b).2 = false) : ¬ (in64 (a * b) ∧ in64 (s + a * b)) := by
  unfold badd at h
  split at h
  · exact fun h2 => of_decide_eq_false h h2.2
  · exact fun h2 => absurd h2.1 ‹_›
/-- The extent of a name. -/
def xof : List ByteArray → List Int → ByteArray → Option Int
  | n :: ns, x :: xs, s => if n = s then some x else xof ns xs s
  | _, _, _ => none
theorem xof_drop {ns : List ByteArray} {xs : List Int} {k : Nat} (s : ByteArray) (h : k < ns.length) (h' : k < xs.length) : xof (ns.drop k) (xs.drop k) s = if ns[k] = s then some xs[k] else xof (ns.drop (k + 1)) (xs.drop (k + 1)) s := by
  rw [List.drop_eq_getElem_cons h, List.drop_eq_getElem_cons h', xof]
theorem xof_end {ns : List ByteArray} {xs : List Int} {k : Nat} (s : ByteArray) (h : ns.length ≤ k) : xof (ns.drop k) (xs.drop k) s = none := by
  rw [List.drop_eq_nil_of_le h]; cases xs.drop k <;> rfl

theorem ref09_extent_abs (ns : List ByteArray) (xs : List Int) (s : ByteArray) (hl : ns.length = xs.length) : PCalls Try.prog n_ref09_extent [aStrs ns, aInts xs, S s] (.tup [I ((xof ns xs s).getD 0), Go.Abs.B (xof ns xs s).isSome]) := by
  refine PCalls.of is_ref09_extent (by simp) fun hb => runW_sound ?_
  have hx : ns.length ≤ 9223372036854775807 := by simpa [bndVs, bndV, bndA] using hb.1
  obtain ⟨r, hr⟩ : ∃ r, r = xof ns xs s := ⟨_, rfl⟩
  rw [← hr]
  simp only [c_ref09_extent]
  repeat' first
    | simp (disch := omega) only [go_sem, true_and, and_true, List.nil_append, ↓reduceIte, Nat.reduceEqDiff, andW_of, Int.toNat_natCast, List.length_map, List.length_cons, List.length_nil, ↓List.map_cons, ↓List.map_nil, reduceCtorEq, Option.some.injEq, not_true_eq_false, not_false_eq_true, condW_not, condW_beqT, condW_beqF, int_beq, int_bne, str_beq, str_bne, eqb_F, eqb_T, Bool.false_eq_true, List.cons_append, decide_true, decide_false, Nat.add_zero, Nat.zero_add, List.drop_succ_cons, List.drop_zero, List.take_succ_cons, List.take_zero, Option.map_some, Option.map_none, List.getElem?_cons_zero, List.getElem?_cons_succ, eq_self, beq_self_eq_true, Bool.bne_false, Bool.bne_true, Bool.true_beq, Bool.false_beq]
    | (with_reducible refine condD (fun h => ?_) (fun h => ?_) <;> first | (exfalso; omega) | simp (disch := omega) only [go_sem, true_and, and_true, List.nil_append, ↓reduceIte, Nat.reduceEqDiff, andW_of, Int.toNat_natCast, List.length_map, List.length_cons, List.length_nil, ↓List.map_cons, ↓List.map_nil, reduceCtorEq, Option.some.injEq, not_true_eq_false, not_false_eq_true, condW_not, condW_beqT, condW_beqF, int_beq, int_bne, str_beq, str_bne, eqb_F, eqb_T, Bool.false_eq_true, List.cons_append, decide_true, decide_false, Nat.add_zero, Nat.zero_add, List.drop_succ_cons, List.drop_zero, List.take_succ_cons, List.take_zero, Option.map_some, Option.map_none, List.getElem?_cons_zero, List.getElem?_cons_succ, eq_self, beq_self_eq_true, Bool.bne_false, Bool.bne_true, Bool.true_beq, Bool.false_beq, *, decide_true, decide_false] | skip)
    | (with_reducible refine condW_intro (fun h => ?_) (fun h => ?_) <;> first | (exfalso; omega) | simp (disch := omega) only [go_sem, true_and, and_true, List.nil_append, ↓reduceIte, Nat.reduceEqDiff, andW_of, Int.toNat_natCast, List.length_map, List.length_cons, List.length_nil, ↓List.map_cons, ↓List.map_nil, reduceCtorEq, Option.some.injEq, not_true_eq_false, not_false_eq_true, condW_not, condW_beqT, condW_beqF, int_beq, int_bne, str_beq, str_bne, eqb_F, eqb_T, Bool.false_eq_true, List.cons_append, decide_true, decide_false, Nat.add_zero, Nat.zero_add, List.drop_succ_cons, List.drop_zero, List.take_succ_cons, List.take_zero, Option.map_some, Option.map_none, List.getElem?_cons_zero, List.getElem?_cons_succ, eq_self, beq_self_eq_true, Bool.bne_false, Bool.bne_true, Bool.true_beq, Bool.false_beq, *, decide_true, decide_false] | skip)
  refine AW_loop (fun k : Nat => ⟨[(8, I k), (0, aStrs ns), (1, aInts xs), (2, S s)], [], 0, 0⟩) (fun k => k ≤ ns.length ∧ r = xof (ns.drop k) (xs.drop k) s) (fun k => ns.length - k) ⟨0, [], ⟨by omega, hr⟩, by simp [Wk, wkF, wkM, wkL, look_cons, renV, renA, renC, renB, rn, clV, clA, clAs, clB, notIn, findB, findB_setB, clA.go]⟩ ?_
  rintro k ⟨hk, hall⟩
  refine runW_sound ?_
  clear hr
  by_cases hlt : k < ns.length
  · have hlt' : k < xs.length := by omega
    rw [xof_drop s hlt hlt'] at hall
    have Hall := Lib.hid hall
    clear hall hl
    repeat' first
      | simp (disch := omega) only [go_sem, true_and, and_true, List.nil_append, ↓reduceIte, Nat.reduceEqDiff, andW_of, Int.toNat_natCast, List.length_map, List.length_cons, List.length_nil, ↓List.map_cons, ↓List.map_nil, reduceCtorEq, Option.some.injEq, not_true_eq_false, not_false_eq_true, condW_not, condW_beqT, condW_beqF, int_beq, int_bne, str_beq, str_bne, eqb_F, eqb_T, Bool.false_eq_true, List.cons_append, decide_true, decide_false, Nat.add_zero, Nat.zero_add, List.drop_succ_cons, List.drop_zero, List.take_succ_cons, List.take_zero, Option.map_some, Option.map_none, List.getElem?_cons_zero, List.getElem?_cons_succ, eq_self, beq_self_eq_true, Bool.bne_false, Bool.bne_true, Bool.true_beq, Bool.false_beq, map_get hlt, map_get hlt', wrap_i64]
      | (with_reducible refine condD (fun h => ?_) (fun h => ?_) <;> first | (exfalso; omega) | simp (disch := omega) only [go_sem, true_and, and_true, List.nil_append, ↓reduceIte, Nat.reduceEqDiff, andW_of, Int.toNat_natCast, List.length_map, List.length_cons, List.length_nil, ↓List.map_cons, ↓List.map_nil, reduceCtorEq, Option.some.injEq, not_true_eq_false, not_false_eq_true, condW_not, condW_beqT, condW_beqF, int_beq, int_bne, str_beq, str_bne, eqb_F, eqb_T, Bool.false_eq_true, List.cons_append, decide_true, decide_false, Nat.add_zero, Nat.zero_add, List.drop_succ_cons, List.drop_zero, List.take_succ_cons, List.take_zero, Option.map_some, Option.map_none, List.getElem?_cons_zero, List.getElem?_cons_succ, eq_self, beq_self_eq_true, Bool.bne_false, Bool.bne_true, Bool.true_beq, Bool.false_beq, *, decide_true, decide_false, map_get hlt, map_get hlt', wrap_i64] | skip)
      | (with_reducible refine condW_intro (fun h => ?_) (fun h => ?_) <;> first | (exfalso; omega) | simp (disch := omega) only [go_sem, true_and, and_true, List.nil_append, ↓reduceIte, Nat.reduceEqDiff, andW_of, Int.toNat_natCast, List.length_map, List.length_cons, List.length_nil, ↓List.map_cons, ↓List.map_nil, reduceCtorEq, Option.some.injEq, not_true_eq_false, not_false_eq_true, condW_not, condW_beqT, condW_beqF, int_beq, int_bne, str_beq, str_bne, eqb_F, eqb_T, Bool.false_eq_true, List.cons_append, decide_true, decide_false, Nat.add_zero, Nat.zero_add, List.drop_succ_cons, List.drop_zero, List.take_succ_cons, List.take_zero, Option.map_some, Option.map_none, List.getElem?_cons_zero, List.getElem?_cons_succ, eq_self, beq_self_eq_true, Bool.bne_false, Bool.bne_true, Bool.true_beq, Bool.false_beq, *, decide_true, decide_false, map_get hlt, map_get hlt', wrap_i64] | skip)
    · rw [Hall.out, if_pos h]
      rfl
    · refine ⟨k + 1, [], ⟨by omega, by rw [Hall.out, if_neg h]⟩, by omega, by simp [Wk, wkF, wkM, wkL, look_cons, renV, renA, renC, renB, rn, clV, clA, clAs, clB, notIn, findB, findB_setB, clA.go]⟩
  · rw [xof_end s (by omega)] at hall
    subst hall
    repeat' first
      | simp (disch := omega) only [go_sem, true_and, and_true, List.nil_append, ↓reduceIte, Nat.reduceEqDiff, andW_of, Int.toNat_natCast, List.length_map, List.length_cons, List.length_nil, ↓List.map_cons, ↓List.map_nil, reduceCtorEq, Option.some.injEq, not_true_eq_false, not_false_eq_true, condW_not, condW_beqT, condW_beqF, int_beq, int_bne, str_beq, str_bne, eqb_F, eqb_T, Bool.false_eq_true, List.cons_append, decide_true, decide_false, Nat.add_zero, Nat.zero_add, List.drop_succ_cons, List.drop_zero, List.take_succ_cons, List.take_zero, Option.map_some, Option.map_none, List.getElem?_cons_zero, List.getElem?_cons_succ, eq_self, beq_self_eq_true, Bool.bne_false, Bool.bne_true, Bool.true_beq, Bool.false_beq]
      | (with_reducible refine condD (fun h => ?_) (fun h => ?_) <;> first | (exfalso; omega) | simp (disch := omega) only [go_sem, true_and, and_true, List.nil_append, ↓reduceIte, Nat.reduceEqDiff, andW_of, Int.toNat_natCast, List.length_map, List.length_cons, List.length_nil, ↓List.map_cons, ↓List.map_nil, reduceCtorEq, Option.some.injEq, not_true_eq_false, not_false_eq_true, condW_not, condW_beqT, condW_beqF, int_beq, int_bne, str_beq, str_bne, eqb_F, eqb_T, Bool.false_eq_true, List.cons_append, decide_true, decide_false, Nat.add_zero, Nat.zero_add, List.drop_succ_cons, List.drop_zero, List.take_succ_cons, List.take_zero, Option.map_some, Option.map_none, List.getElem?_cons_zero, List.getElem?_cons_succ, eq_self, beq_self_eq_true, Bool.bne_false, Bool.bne_true, Bool.true_beq, Bool.false_beq, *, decide_true, decide_false] | skip)
      | (with_reducible refine condW_intro (fun h => ?_) (fun h => ?_) <;> first | (exfalso; omega) | simp (disch := omega) only [go_sem, true_and, and_true, List.nil_append, ↓reduceIte, Nat.reduceEqDiff, andW_of, Int.toNat_natCast, List.length_map, List.length_cons, List.length_nil, ↓List.map_cons, ↓List.map_nil, reduceCtorEq, Option.some.injEq, not_true_eq_false, not_false_eq_true, condW_not, condW_beqT, condW_beqF, int_beq, int_bne, str_beq, str_bne, eqb_F, eqb_T, Bool.false_eq_true, List.cons_append, decide_true, decide_false, Nat.add_zero, Nat.zero_add, List.drop_succ_cons, List.drop_zero, List.take_succ_cons, List.take_zero, Option.map_some, Option.map_none, List.getElem?_cons_zero, List.getElem?_cons_succ, eq_self, beq_self_eq_true, Bool.bne_false, Bool.bne_true, Bool.true_beq, Bool.false_beq, *, decide_true, decide_false] | skip)
    rfl

/-! Ranges. -/
def bsum (s a b : Int) : Option Int := if in64 (a * b) ∧ in64 (s + a * b) then some (s + a * b) else none
/-- The bounds, summed up. -/
def rngL (ns : List ByteArray) (xs : List Int) : Int → Int → List Mono → Option (Int × Int)
  | lo, hi, [] => some (lo, hi)
  | lo, hi, m :: r => if m.2 < 0 then (match bsum lo m.2 ((xof ns xs m.1).getD 0 - 1) with | some lo' => rngL ns xs lo' hi r | none => none)
    else (match bsum hi m.2 ((xof ns xs m.1).getD 0 - 1) with | some hi' => rngL ns xs lo hi' r | none => none)
noncomputable def rng (k : Int) (l : List Mono) (ns : List ByteArray) (xs : List Int) : Int × Int × Int :=
  if ¬ linOk l then (0, 0, 1) else if bval xs ≠ 0 then (0, 0, bval xs) else if ns.length ≠ xs.length ∨ bcount xs = 0 then (0, 0, 1)
  else if ∃ m ∈ l, xof ns xs m.1 = none then (0, 0, 9) else match rngL ns xs k k l with
    | some r => (r.1, r.2, 0)
    | none => (0, 0, 3)
abbrev aRng (r : Int × Int × Int) : AV := .tup [I r.1, I r.2.1, I r.2.2]

theorem xof_pos {ns : List ByteArray} {xs : List Int} {s : ByteArray} {x : Int} (h : xof ns xs s = some x) : x ∈ xs := by
  induction ns generalizing xs with
  | nil => cases xs <;> cases h
  | cons n ns ih =>
    cases xs with
    | nil => cases h
    | cons y ys =>
      rw [xof] at h
      split at h
      · cases h; exact List.mem_cons_self
      · exact List.mem_cons_of_mem _ (ih h)

theorem box_Range_abs {k : Int} {l : List Mono} (ns : List ByteArray) (xs : List Int) (hk : in64 k) (hl64 : ∀ m ∈ l, in64 m.2) : PCalls Try.prog n_box_Range [aLin k l, aStrs ns, aInts xs] (aRng (rng k l ns xs)) := by
  refine PCalls.of is_box_Range (by simp) fun hb => runW_sound ?_
  have hl := bnd_lin hb.1
  have hn : ns.length ≤ 9223372036854775807 := by simpa [bndVs, bndV, bndA] using hb.2.1
  have hxl : xs.length ≤ 9223372036854775807 := by simpa [bndVs, bndV, bndA] using hb.2.2.1
  simp only [c_box_Range]
  by_cases h1 : linOk l
  · by_cases h2 : bval xs = 0
    · by_cases h3 : ns.length = xs.length
      · by_cases h4 : bcount xs = 0
        · rw [rng, if_neg (not_not_intro h1), if_neg (not_not_intro h2), if_pos (.inr h4)]
          repeat' first
            | simp (disch := omega) only [go_sem, true_and, and_true, List.nil_append, ↓reduceIte, Nat.reduceEqDiff, andW_of, Int.toNat_natCast, List.length_map, List.length_cons, List.length_nil, ↓List.map_cons, ↓List.map_nil, reduceCtorEq, Option.some.injEq, not_true_eq_false, not_false_eq_true, condW_not, condW_beqT, condW_beqF, int_beq, int_bne, str_beq, str_bne, eqb_F, eqb_T, Bool.false_eq_true, List.cons_append, decide_true, decide_false, Nat.add_zero, Nat.zero_add, List.drop_succ_cons, List.drop_zero, List.take_succ_cons, List.take_zero, Option.map_some, Option.map_none, List.getElem?_cons_zero, List.getElem?_cons_succ, eq_self, beq_self_eq_true, Bool.bne_false, Bool.bne_true, Bool.true_beq, Bool.false_beq, h1, h2, h3, h4]
            | (with_reducible refine condD (fun h => ?_) (fun h => ?_) <;> first | (exfalso; omega) | simp (disch := omega) only [go_sem, true_and, and_true, List.nil_append, ↓reduceIte, Nat.reduceEqDiff, andW_of, Int.toNat_natCast, List.length_map, List.length_cons, List.length_nil, ↓List.map_cons, ↓List.map_nil, reduceCtorEq, Option.some.injEq, not_true_eq_false, not_false_eq_true, condW_not, condW_beqT, condW_beqF, int_beq, int_bne, str_beq, str_bne, eqb_F, eqb_T, Bool.false_eq_true, List.cons_append, decide_true, decide_false, Nat.add_zero, Nat.zero_add, List.drop_succ_cons, List.drop_zero, List.take_succ_cons, List.take_zero, Option.map_some, Option.map_none, List.getElem?_cons_zero, List.getElem?_cons_succ, eq_self, beq_self_eq_true, Bool.bne_false, Bool.bne_true, Bool.true_beq, Bool.false_beq, *, decide_true, decide_false, h1, h2, h3, h4] | skip)
            | (with_reducible refine condW_intro (fun h => ?_) (fun h => ?_) <;> first | (exfalso; omega) | simp (disch := omega) only [go_sem, true_and, and_true, List.nil_append, ↓reduceIte, Nat.reduceEqDiff, andW_of, Int.toNat_natCast, List.length_map, List.length_cons, List.length_nil, ↓List.map_cons, ↓List.map_nil, reduceCtorEq, Option.some.injEq, not_true_eq_false, not_false_eq_true, condW_not, condW_beqT, condW_beqF, int_beq, int_bne, str_beq, str_bne, eqb_F, eqb_T, Bool.false_eq_true, List.cons_append, decide_true, decide_false, Nat.add_zero, Nat.zero_add, List.drop_succ_cons, List.drop_zero, List.take_succ_cons, List.take_zero, Option.map_some, Option.map_none, List.getElem?_cons_zero, List.getElem?_cons_succ, eq_self, beq_self_eq_true, Bool.bne_false, Bool.bne_true, Bool.true_beq, Bool.false_beq, *, decide_true, decide_false, h1, h2, h3, h4] | skip)
            | (refine callW_of (lin_Validate_abs _ _) rfl (.inl rfl) ?_)
            | (refine callW_of (box_Validate_abs _) rfl (.inl rfl) ?_)
            | (refine callW_of (box_Count_abs _) rfl (.inl rfl) ?_)
        · have hpos := (boxOk_of h2)
          rw [rng, if_neg (not_not_intro h1), if_neg (not_not_intro h2), if_neg (by rintro (h | h); exact h h3; exact h4 h)]
          repeat' first
            | simp (disch := omega) only [go_sem, true_and, and_true, List.nil_append, ↓reduceIte, Nat.reduceEqDiff, andW_of, Int.toNat_natCast, List.length_map, List.length_cons, List.length_nil, ↓List.map_cons, ↓List.map_nil, reduceCtorEq, Option.some.injEq, not_true_eq_false, not_false_eq_true, condW_not, condW_beqT, condW_beqF, int_beq, int_bne, str_beq, str_bne, eqb_F, eqb_T, Bool.false_eq_true, List.cons_append, decide_true, decide_false, Nat.add_zero, Nat.zero_add, List.drop_succ_cons, List.drop_zero, List.take_succ_cons, List.take_zero, Option.map_some, Option.map_none, List.getElem?_cons_zero, List.getElem?_cons_succ, eq_self, beq_self_eq_true, Bool.bne_false, Bool.bne_true, Bool.true_beq, Bool.false_beq, h1, h2, h3, h4]
            | (with_reducible refine condD (fun h => ?_) (fun h => ?_) <;> first | (exfalso; omega) | simp (disch := omega) only [go_sem, true_and, and_true, List.nil_append, ↓reduceIte, Nat.reduceEqDiff, andW_of, Int.toNat_natCast, List.length_map, List.length_cons, List.length_nil, ↓List.map_cons, ↓List.map_nil, reduceCtorEq, Option.some.injEq, not_true_eq_false, not_false_eq_true, condW_not, condW_beqT, condW_beqF, int_beq, int_bne, str_beq, str_bne, eqb_F, eqb_T, Bool.false_eq_true, List.cons_append, decide_true, decide_false, Nat.add_zero, Nat.zero_add, List.drop_succ_cons, List.drop_zero, List.take_succ_cons, List.take_zero, Option.map_some, Option.map_none, List.getElem?_cons_zero, List.getElem?_cons_succ, eq_self, beq_self_eq_true, Bool.bne_false, Bool.bne_true, Bool.true_beq, Bool.false_beq, *, decide_true, decide_false, h1, h2, h3, h4] | skip)
            | (with_reducible refine condW_intro (fun h => ?_) (fun h => ?_) <;> first | (exfalso; omega) | simp (disch := omega) only [go_sem, true_and, and_true, List.nil_append, ↓reduceIte, Nat.reduceEqDiff, andW_of, Int.toNat_natCast, List.length_map, List.length_cons, List.length_nil, ↓List.map_cons, ↓List.map_nil, reduceCtorEq, Option.some.injEq, not_true_eq_false, not_false_eq_true, condW_not, condW_beqT, condW_beqF, int_beq, int_bne, str_beq, str_bne, eqb_F, eqb_T, Bool.false_eq_true, List.cons_append, decide_true, decide_false, Nat.add_zero, Nat.zero_add, List.drop_succ_cons, List.drop_zero, List.take_succ_cons, List.take_zero, Option.map_some, Option.map_none, List.getElem?_cons_zero, List.getElem?_cons_succ, eq_self, beq_self_eq_true, Bool.bne_false, Bool.bne_true, Bool.true_beq, Bool.false_beq, *, decide_true, decide_false, h1, h2, h3, h4] | skip)
            | (refine callW_of (lin_Validate_abs _ _) rfl (.inl rfl) ?_)
            | (refine callW_of (box_Validate_abs _) rfl (.inl rfl) ?_)
            | (refine callW_of (box_Count_abs _) rfl (.inl rfl) ?_)
          refine AW_loop (fun x : Nat × List (MK × List PC) => ⟨[(1, aStrs ns), (2, aInts xs), (3, .c (.ptr 0 0)), (10, .c (.mref 1)), (11, I ((x.1 : Int) - 1))], [(0, .var [.pure (pI k), .pure (pMonos l)]), (1, .map .str none x.2)], 2, 0⟩)
            (fun x => x.1 ≤ ns.length ∧ ∀ s : ByteArray, mlook x.2 (.str s.data.toList) = (xof (ns.drop x.1) (xs.drop x.1) s).map fun x => [pI x]) (fun x => x.1) ⟨(ns.length, []), [], ⟨Nat.le_refl _, fun s => ?_⟩, ?_⟩ ?_
          · rw [xof_end s (Nat.le_refl _)]; rfl
          · simp [Wk, wkF, wkM, wkL, look_cons, renV, renA, renC, renB, rn, clV, clA, clAs, clB, notIn, findB, findB_setB, clA.go, h3, wrap_i64 (show -9223372036854775808 ≤ (xs.length : Int) - 1 ∧ (xs.length : Int) - 1 ≤ 9223372036854775807 by omega)]
          rintro ⟨j, ents⟩ ⟨hj, hents⟩
          refine runW_sound ?_
          cases j with
          | succ j =>
            have hlt : j < ns.length := hj
            have hlt' : j < xs.length := by omega
            have e1 : (((j + 1 : Nat) : Int) - 1) = (j : Int) := by omega
            clear h3
            simp only [e1]
            have Hents := Lib.hid hents
            clear hents
            repeat' first
              | simp (disch := omega) only [go_sem, true_and, and_true, List.nil_append, ↓reduceIte, Nat.reduceEqDiff, andW_of, Int.toNat_natCast, List.length_map, List.length_cons, List.length_nil, ↓List.map_cons, ↓List.map_nil, reduceCtorEq, Option.some.injEq, not_true_eq_false, not_false_eq_true, condW_not, condW_beqT, condW_beqF, int_beq, int_bne, str_beq, str_bne, eqb_F, eqb_T, Bool.false_eq_true, List.cons_append, decide_true, decide_false, Nat.add_zero, Nat.zero_add, List.drop_succ_cons, List.drop_zero, List.take_succ_cons, List.take_zero, Option.map_some, Option.map_none, List.getElem?_cons_zero, List.getElem?_cons_succ, eq_self, beq_self_eq_true, Bool.bne_false, Bool.bne_true, Bool.true_beq, Bool.false_beq, map_get hlt, map_get hlt', wrap_i64]
              | (with_reducible refine condD (fun h => ?_) (fun h => ?_) <;> first | (exfalso; omega) | simp (disch := omega) only [go_sem, true_and, and_true, List.nil_append, ↓reduceIte, Nat.reduceEqDiff, andW_of, Int.toNat_natCast, List.length_map, List.length_cons, List.length_nil, ↓List.map_cons, ↓List.map_nil, reduceCtorEq, Option.some.injEq, not_true_eq_false, not_false_eq_true, condW_not, condW_beqT, condW_beqF, int_beq, int_bne, str_beq, str_bne, eqb_F, eqb_T, Bool.false_eq_true, List.cons_append, decide_true, decide_false, Nat.add_zero, Nat.zero_add, List.drop_succ_cons, List.drop_zero, List.take_succ_cons, List.take_zero, Option.map_some, Option.map_none, List.getElem?_cons_zero, List.getElem?_cons_succ, eq_self, beq_self_eq_true, Bool.bne_false, Bool.bne_true, Bool.true_beq, Bool.false_beq, *, decide_true, decide_false, map_get hlt, map_get hlt', wrap_i64] | skip)
              | (with_reducible refine condW_intro (fun h => ?_) (fun h => ?_) <;> first | (exfalso; omega) | simp (disch := omega) only [go_sem, true_and, and_true, List.nil_append, ↓reduceIte, Nat.reduceEqDiff, andW_of, Int.toNat_natCast, List.length_map, List.length_cons, List.length_nil, ↓List.map_cons, ↓List.map_nil, reduceCtorEq, Option.some.injEq, not_true_eq_false, not_false_eq_true, condW_not, condW_beqT, condW_beqF, int_beq, int_bne, str_beq, str_bne, eqb_F, eqb_T, Bool.false_eq_true, List.cons_append, decide_true, decide_false, Nat.add_zero, Nat.zero_add, List.drop_succ_cons, List.drop_zero, List.take_succ_cons, List.take_zero, Option.map_some, Option.map_none, List.getElem?_cons_zero, List.getElem?_cons_succ, eq_self, beq_self_eq_true, Bool.bne_false, Bool.bne_true, Bool.true_beq, Bool.false_beq, *, decide_true, decide_false, map_get hlt, map_get hlt', wrap_i64] | skip)
            refine ⟨(j, mset ents (.str ns[j].data.toList) [pI xs[j]]), [], ⟨by show j ≤ _; omega, fun s => ?_⟩, Nat.lt_succ_self _, by simp [Wk, wkF, wkM, wkL, look_cons, renV, renA, renC, renB, rn, clV, clA, clAs, clB, notIn, findB, findB_setB, clA.go]⟩
            show mlook (mset ents _ _) _ = _
            rw [mlook_mset, Hents.out s, xof_drop s hlt hlt']
            by_cases e2 : ns[j] = s
            · rw [if_pos e2, if_pos (by rw [e2])]; rfl
            · rw [if_neg e2, if_neg (fun e3 => e2 (Go.WideShapes.bytes_inj (by simpa using e3)))]
          | zero =>
            have hE : Hid (∀ s : ByteArray, mlook ents (.str s.data.toList) = (xof ns xs s).map fun x => [pI x]) := fun s => by simpa using hents s
            clear hents
            clear h3
            repeat' first
              | simp (disch := omega) only [go_sem, true_and, and_true, List.nil_append, ↓reduceIte, Nat.reduceEqDiff, andW_of, Int.toNat_natCast, List.length_map, List.length_cons, List.length_nil, ↓List.map_cons, ↓List.map_nil, reduceCtorEq, Option.some.injEq, not_true_eq_false, not_false_eq_true, condW_not, condW_beqT, condW_beqF, int_beq, int_bne, str_beq, str_bne, eqb_F, eqb_T, Bool.false_eq_true, List.cons_append, decide_true, decide_false, Nat.add_zero, Nat.zero_add, List.drop_succ_cons, List.drop_zero, List.take_succ_cons, List.take_zero, Option.map_some, Option.map_none, List.getElem?_cons_zero, List.getElem?_cons_succ, eq_self, beq_self_eq_true, Bool.bne_false, Bool.bne_true, Bool.true_beq, Bool.false_beq]
              | (with_reducible refine condD (fun h => ?_) (fun h => ?_) <;> first | (exfalso; omega) | simp (disch := omega) only [go_sem, true_and, and_true, List.nil_append, ↓reduceIte, Nat.reduceEqDiff, andW_of, Int.toNat_natCast, List.length_map, List.length_cons, List.length_nil, ↓List.map_cons, ↓List.map_nil, reduceCtorEq, Option.some.injEq, not_true_eq_false, not_false_eq_true, condW_not, condW_beqT, condW_beqF, int_beq, int_bne, str_beq, str_bne, eqb_F, eqb_T, Bool.false_eq_true, List.cons_append, decide_true, decide_false, Nat.add_zero, Nat.zero_add, List.drop_succ_cons, List.drop_zero, List.take_succ_cons, List.take_zero, Option.map_some, Option.map_none, List.getElem?_cons_zero, List.getElem?_cons_succ, eq_self, beq_self_eq_true, Bool.bne_false, Bool.bne_true, Bool.true_beq, Bool.false_beq, *, decide_true, decide_false] | skip)
              | (with_reducible refine condW_intro (fun h => ?_) (fun h => ?_) <;> first | (exfalso; omega) | simp (disch := omega) only [go_sem, true_and, and_true, List.nil_append, ↓reduceIte, Nat.reduceEqDiff, andW_of, Int.toNat_natCast, List.length_map, List.length_cons, List.length_nil, ↓List.map_cons, ↓List.map_nil, reduceCtorEq, Option.some.injEq, not_true_eq_false, not_false_eq_true, condW_not, condW_beqT, condW_beqF, int_beq, int_bne, str_beq, str_bne, eqb_F, eqb_T, Bool.false_eq_true, List.cons_append, decide_true, decide_false, Nat.add_zero, Nat.zero_add, List.drop_succ_cons, List.drop_zero, List.take_succ_cons, List.take_zero, Option.map_some, Option.map_none, List.getElem?_cons_zero, List.getElem?_cons_succ, eq_self, beq_self_eq_true, Bool.bne_false, Bool.bne_true, Bool.true_beq, Bool.false_beq, *, decide_true, decide_false] | skip)
            refine AW_loop (fun j : Nat => ⟨[(3, .c (.ptr 0 0)), (10, .c (.mref 1)), (58, .c (.pure (pMonos l))), (59, I l.length), (60, I j)], [(0, .var [.pure (pI k), .pure (pMonos l)]), (1, .map .str none ents)], 2, 0⟩)
              (fun j => j ≤ l.length ∧ upTo (fun i => ∀ h : i < l.length, xof ns xs l[i].1 ≠ none) j) (fun j => l.length - j) ⟨0, [], ⟨by omega, .zero⟩, by simp [Wk, wkF, wkM, wkL, look_cons, renV, renA, renC, renB, rn, clV, clA, clAs, clB, notIn, findB, findB_setB, clA.go]⟩ ?_
            rintro j ⟨hj, hall⟩
            refine runW_sound ?_
            by_cases hlt : j < l.length
            · have hE1 := hE.out l[j].1
              cases hx : xof ns xs l[j].1 with
              | some x =>
                rw [hx, Option.map_some] at hE1
                have Hx := Lib.hid hx
                clear hx
                repeat' first
                  | simp (disch := omega) only [go_sem, true_and, and_true, List.nil_append, ↓reduceIte, Nat.reduceEqDiff, andW_of, Int.toNat_natCast, List.length_map, List.length_cons, List.length_nil, ↓List.map_cons, ↓List.map_nil, reduceCtorEq, Option.some.injEq, not_true_eq_false, not_false_eq_true, condW_not, condW_beqT, condW_beqF, int_beq, int_bne, str_beq, str_bne, eqb_F, eqb_T, Bool.false_eq_true, List.cons_append, decide_true, decide_false, Nat.add_zero, Nat.zero_add, List.drop_succ_cons, List.drop_zero, List.take_succ_cons, List.take_zero, Option.map_some, Option.map_none, List.getElem?_cons_zero, List.getElem?_cons_succ, eq_self, beq_self_eq_true, Bool.bne_false, Bool.bne_true, Bool.true_beq, Bool.false_beq, map_get hlt, wrap_i64, mP, hE1]
                  | (with_reducible refine condD (fun h => ?_) (fun h => ?_) <;> first | (exfalso; omega) | simp (disch := omega) only [go_sem, true_and, and_true, List.nil_append, ↓reduceIte, Nat.reduceEqDiff, andW_of, Int.toNat_natCast, List.length_map, List.length_cons, List.length_nil, ↓List.map_cons, ↓List.map_nil, reduceCtorEq, Option.some.injEq, not_true_eq_false, not_false_eq_true, condW_not, condW_beqT, condW_beqF, int_beq, int_bne, str_beq, str_bne, eqb_F, eqb_T, Bool.false_eq_true, List.cons_append, decide_true, decide_false, Nat.add_zero, Nat.zero_add, List.drop_succ_cons, List.drop_zero, List.take_succ_cons, List.take_zero, Option.map_some, Option.map_none, List.getElem?_cons_zero, List.getElem?_cons_succ, eq_self, beq_self_eq_true, Bool.bne_false, Bool.bne_true, Bool.true_beq, Bool.false_beq, *, decide_true, decide_false, map_get hlt, wrap_i64, mP, hE1] | skip)
                  | (with_reducible refine condW_intro (fun h => ?_) (fun h => ?_) <;> first | (exfalso; omega) | simp (disch := omega) only [go_sem, true_and, and_true, List.nil_append, ↓reduceIte, Nat.reduceEqDiff, andW_of, Int.toNat_natCast, List.length_map, List.length_cons, List.length_nil, ↓List.map_cons, ↓List.map_nil, reduceCtorEq, Option.some.injEq, not_true_eq_false, not_false_eq_true, condW_not, condW_beqT, condW_beqF, int_beq, int_bne, str_beq, str_bne, eqb_F, eqb_T, Bool.false_eq_true, List.cons_append, decide_true, decide_false, Nat.add_zero, Nat.zero_add, List.drop_succ_cons, List.drop_zero, List.take_succ_cons, List.take_zero, Option.map_some, Option.map_none, List.getElem?_cons_zero, List.getElem?_cons_succ, eq_self, beq_self_eq_true, Bool.bne_false, Bool.bne_true, Bool.true_beq, Bool.false_beq, *, decide_true, decide_false, map_get hlt, wrap_i64, mP, hE1] | skip)
                refine ⟨j + 1, [], ⟨by omega, hall.succ fun _ => by rw [Hx.out]; simp⟩, by omega, by simp [Wk, wkF, wkM, wkL, look_cons, renV, renA, renC, renB, rn, clV, clA, clAs, clB, notIn, findB, findB_setB, clA.go]⟩
              | none =>
                rw [hx, Option.map_none] at hE1
                have Hx := Lib.hid hx
                clear hx
                have hex : ∃ m ∈ l, xof ns xs m.1 = none := ⟨l[j], List.getElem_mem hlt, Hx.out⟩
                rw [if_pos hex]
                repeat' first
                  | simp (disch := omega) only [go_sem, true_and, and_true, List.nil_append, ↓reduceIte, Nat.reduceEqDiff, andW_of, Int.toNat_natCast, List.length_map, List.length_cons, List.length_nil, ↓List.map_cons, ↓List.map_nil, reduceCtorEq, Option.some.injEq, not_true_eq_false, not_false_eq_true, condW_not, condW_beqT, condW_beqF, int_beq, int_bne, str_beq, str_bne, eqb_F, eqb_T, Bool.false_eq_true, List.cons_append, decide_true, decide_false, Nat.add_zero, Nat.zero_add, List.drop_succ_cons, List.drop_zero, List.take_succ_cons, List.take_zero, Option.map_some, Option.map_none, List.getElem?_cons_zero, List.getElem?_cons_succ, eq_self, beq_self_eq_true, Bool.bne_false, Bool.bne_true, Bool.true_beq, Bool.false_beq, map_get hlt, wrap_i64, mP, hE1]
                  | (with_reducible refine condD (fun h => ?_) (fun h => ?_) <;> first | (exfalso; omega) | simp (disch := omega) only [go_sem, true_and, and_true, List.nil_append, ↓reduceIte, Nat.reduceEqDiff, andW_of, Int.toNat_natCast, List.length_map, List.length_cons, List.length_nil, ↓List.map_cons, ↓List.map_nil, reduceCtorEq, Option.some.injEq, not_true_eq_false, not_false_eq_true, condW_not, condW_beqT, condW_beqF, int_beq, int_bne, str_beq, str_bne, eqb_F, eqb_T, Bool.false_eq_true, List.cons_append, decide_true, decide_false, Nat.add_zero, Nat.zero_add, List.drop_succ_cons, List.drop_zero, List.take_succ_cons, List.take_zero, Option.map_some, Option.map_none, List.getElem?_cons_zero, List.getElem?_cons_succ, eq_self, beq_self_eq_true, Bool.bne_false, Bool.bne_true, Bool.true_beq, Bool.false_beq, *, decide_true, decide_false, map_get hlt, wrap_i64, mP, hE1] | skip)
                  | (with_reducible refine condW_intro (fun h => ?_) (fun h => ?_) <;> first | (exfalso; omega) | simp (disch := omega) only [go_sem, true_and, and_true, List.nil_append, ↓reduceIte, Nat.reduceEqDiff, andW_of, Int.toNat_natCast, List.length_map, List.length_cons, List.length_nil, ↓List.map_cons, ↓List.map_nil, reduceCtorEq, Option.some.injEq, not_true_eq_false, not_false_eq_true, condW_not, condW_beqT, condW_beqF, int_beq, int_bne, str_beq, str_bne, eqb_F, eqb_T, Bool.false_eq_true, List.cons_append, decide_true, decide_false, Nat.add_zero, Nat.zero_add, List.drop_succ_cons, List.drop_zero, List.take_succ_cons, List.take_zero, Option.map_some, Option.map_none, List.getElem?_cons_zero, List.getElem?_cons_succ, eq_self, beq_self_eq_true, Bool.bne_false, Bool.bne_true, Bool.true_beq, Bool.false_beq, *, decide_true, decide_false, map_get hlt, wrap_i64, mP, hE1] | skip)
            · have hex : ¬ ∃ m ∈ l, xof ns xs m.1 = none := by
                rintro ⟨m, hm, he⟩
                obtain ⟨i, hi, rfl⟩ := List.mem_iff_getElem.1 hm
                exact hall i (by omega) hi he
              clear hall
              rw [if_neg hex]
              obtain ⟨R, hR⟩ : ∃ R, R = rngL ns xs k k l := ⟨_, rfl⟩
              rw [← hR]
              have HR := Lib.hid hR
              clear hR
              have Hex := Lib.hid hex
              clear hex
              repeat' first
                | simp (disch := omega) only [go_sem, true_and, and_true, List.nil_append, ↓reduceIte, Nat.reduceEqDiff, andW_of, Int.toNat_natCast, List.length_map, List.length_cons, List.length_nil, ↓List.map_cons, ↓List.map_nil, reduceCtorEq, Option.some.injEq, not_true_eq_false, not_false_eq_true, condW_not, condW_beqT, condW_beqF, int_beq, int_bne, str_beq, str_bne, eqb_F, eqb_T, Bool.false_eq_true, List.cons_append, decide_true, decide_false, Nat.add_zero, Nat.zero_add, List.drop_succ_cons, List.drop_zero, List.take_succ_cons, List.take_zero, Option.map_some, Option.map_none, List.getElem?_cons_zero, List.getElem?_cons_succ, eq_self, beq_self_eq_true, Bool.bne_false, Bool.bne_true, Bool.true_beq, Bool.false_beq]
                | (with_reducible refine condD (fun h => ?_) (fun h => ?_) <;> first | (exfalso; omega) | simp (disch := omega) only [go_sem, true_and, and_true, List.nil_append, ↓reduceIte, Nat.reduceEqDiff, andW_of, Int.toNat_natCast, List.length_map, List.length_cons, List.length_nil, ↓List.map_cons, ↓List.map_nil, reduceCtorEq, Option.some.injEq, not_true_eq_false, not_false_eq_true, condW_not, condW_beqT, condW_beqF, int_beq, int_bne, str_beq, str_bne, eqb_F, eqb_T, Bool.false_eq_true, List.cons_append, decide_true, decide_false, Nat.add_zero, Nat.zero_add, List.drop_succ_cons, List.drop_zero, List.take_succ_cons, List.take_zero, Option.map_some, Option.map_none, List.getElem?_cons_zero, List.getElem?_cons_succ, eq_self, beq_self_eq_true, Bool.bne_false, Bool.bne_true, Bool.true_beq, Bool.false_beq, *, decide_true, decide_false] | skip)
                | (with_reducible refine condW_intro (fun h => ?_) (fun h => ?_) <;> first | (exfalso; omega) | simp (disch := omega) only [go_sem, true_and, and_true, List.nil_append, ↓reduceIte, Nat.reduceEqDiff, andW_of, Int.toNat_natCast, List.length_map, List.length_cons, List.length_nil, ↓List.map_cons, ↓List.map_nil, reduceCtorEq, Option.some.injEq, not_true_eq_false, not_false_eq_true, condW_not, condW_beqT, condW_beqF, int_beq, int_bne, str_beq, str_bne, eqb_F, eqb_T, Bool.false_eq_true, List.cons_append, decide_true, decide_false, Nat.add_zero, Nat.zero_add, List.drop_succ_cons, List.drop_zero, List.take_succ_cons, List.take_zero, Option.map_some, Option.map_none, List.getElem?_cons_zero, List.getElem?_cons_succ, eq_self, beq_self_eq_true, Bool.bne_false, Bool.bne_true, Bool.true_beq, Bool.false_beq, *, decide_true, decide_false] | skip)
              refine AW_loop (fun x : Nat × Int × Int => ⟨[(10, .c (.mref 1)), (16, I x.2.1), (17, I x.2.2), (79, .c (.pure (pMonos l))), (80, I l.length), (81, I x.1)], [(1, .map .str none ents)], 2, 0⟩)
                (fun x => x.1 ≤ l.length ∧ in64 x.2.1 ∧ in64 x.2.2 ∧ Hid (R = rngL ns xs x.2.1 x.2.2 (l.drop x.1))) (fun x => l.length - x.1) ⟨(0, k, k), [], ⟨Nat.zero_le _, hk, hk, HR⟩, by simp [Wk, wkF, wkM, wkL, look_cons, renV, renA, renC, renB, rn, clV, clA, clAs, clB, notIn, findB, findB_setB, clA.go]⟩ ?_
              rintro ⟨j, lo, hi⟩ ⟨hj, hlo, hhi, HR⟩
              refine runW_sound ?_
              by_cases hlt : j < l.length
              · have hE1 := hE.out l[j].1
                have hm := List.getElem_mem hlt
                have h64 := hl64 _ hm
                cases hx : xof ns xs l[j].1 with
                | none => exact absurd ⟨l[j], hm, hx⟩ Hex.out
                | some x =>
                  rw [hx, Option.map_some] at hE1
                  have hxm := xof_pos hx
                  have hx1 := (pos_of_count (xs := xs) (by have := bcount_bd xs; omega)).2.2.2
                  have hxa := hx1.pos x hxm
                  have hxb : x ≤ 65536 := by
                    obtain ⟨i, hi, rfl⟩ := List.mem_iff_getElem.1 hxm
                    have := hx1.get hi
                    simp [hi] at this
                    exact this.2
                  have hn1 : in64 (x - 1) := by unfold in64; omega
                  have HR' : Hid (R = rngL ns xs lo hi (l[j] :: l.drop (j + 1))) := by
                    have := HR.out
                    rwa [List.drop_eq_getElem_cons hlt] at this
                  have HX := Lib.hid hx
                  clear HR hx
                  have b1 := box_add_abs hlo h64 hn1
                  have b2 := box_add_abs hhi h64 hn1
                  repeat' first
                    | simp (disch := omega) only [go_sem, true_and, and_true, List.nil_append, ↓reduceIte, Nat.reduceEqDiff, andW_of, Int.toNat_natCast, List.length_map, List.length_cons, List.length_nil, ↓List.map_cons, ↓List.map_nil, reduceCtorEq, Option.some.injEq, not_true_eq_false, not_false_eq_true, condW_not, condW_beqT, condW_beqF, int_beq, int_bne, str_beq, str_bne, eqb_F, eqb_T, Bool.false_eq_true, List.cons_append, decide_true, decide_false, Nat.add_zero, Nat.zero_add, List.drop_succ_cons, List.drop_zero, List.take_succ_cons, List.take_zero, Option.map_some, Option.map_none, List.getElem?_cons_zero, List.getElem?_cons_succ, eq_self, beq_self_eq_true, Bool.bne_false, Bool.bne_true, Bool.true_beq, Bool.false_beq, map_get hlt, wrap_i64, mP, hE1]
                    | (with_reducible refine condD (fun h => ?_) (fun h => ?_) <;> first | (exfalso; omega) | simp (disch := omega) only [go_sem, true_and, and_true, List.nil_append, ↓reduceIte, Nat.reduceEqDiff, andW_of, Int.toNat_natCast, List.length_map, List.length_cons, List.length_nil, ↓List.map_cons, ↓List.map_nil, reduceCtorEq, Option.some.injEq, not_true_eq_false, not_false_eq_true, condW_not, condW_beqT, condW_beqF, int_beq, int_bne, str_beq, str_bne, eqb_F, eqb_T, Bool.false_eq_true, List.cons_append, decide_true, decide_false, Nat.add_zero, Nat.zero_add, List.drop_succ_cons, List.drop_zero, List.take_succ_cons, List.take_zero, Option.map_some, Option.map_none, List.getElem?_cons_zero, List.getElem?_cons_succ, eq_self, beq_self_eq_true, Bool.bne_false, Bool.bne_true, Bool.true_beq, Bool.false_beq, *, decide_true, decide_false, map_get hlt, wrap_i64, mP, hE1] | skip)
                    | (with_reducible refine condW_intro (fun h => ?_) (fun h => ?_) <;> first | (exfalso; omega) | simp (disch := omega) only [go_sem, true_and, and_true, List.nil_append, ↓reduceIte, Nat.reduceEqDiff, andW_of, Int.toNat_natCast, List.length_map, List.length_cons, List.length_nil, ↓List.map_cons, ↓List.map_nil, reduceCtorEq, Option.some.injEq, not_true_eq_false, not_false_eq_true, condW_not, condW_beqT, condW_beqF, int_beq, int_bne, str_beq, str_bne, eqb_F, eqb_T, Bool.false_eq_true, List.cons_append, decide_true, decide_false, Nat.add_zero, Nat.zero_add, List.drop_succ_cons, List.drop_zero, List.take_succ_cons, List.take_zero, Option.map_some, Option.map_none, List.getElem?_cons_zero, List.getElem?_cons_succ, eq_self, beq_self_eq_true, Bool.bne_false, Bool.bne_true, Bool.true_beq, Bool.false_beq, *, decide_true, decide_false, map_get hlt, wrap_i64, mP, hE1] | skip)
                    | (refine callW_of b1 rfl (.inl rfl) ?_)
                    | (refine callW_of b2 rfl (.inl rfl) ?_)
                  · have h6 : in64 (l[j].2 * (x - 1)) ∧ in64 (lo + l[j].2 * (x - 1)) ∧ (badd lo l[j].2 (x - 1)).1 = lo + l[j].2 * (x - 1) := badd_ok h
                    refine ⟨(j + 1, (badd lo l[j].2 (x - 1)).1, hi), [], ⟨hlt, by rw [h6.2.2]; exact h6.2.1, hhi, ?_⟩, by show _ - _ < _ - _; omega, by simp [Wk, wkF, wkM, wkL, look_cons, renV, renA, renC, renB, rn, clV, clA, clAs, clB, notIn, findB, findB_setB, clA.go]⟩
                    show _ = _
                    rw [HR'.out, rngL, if_pos ‹_›, HX.out, Option.getD_some, bsum, if_pos ⟨h6.1, h6.2.1⟩, h6.2.2]
                  · have h6 := badd_no h
                    have hR := HR'.out
                    rw [rngL, if_pos ‹_›, HX.out, Option.getD_some, bsum, if_neg h6] at hR
                    rw [hR]
                  · have h6 : in64 (l[j].2 * (x - 1)) ∧ in64 (hi + l[j].2 * (x - 1)) ∧ (badd hi l[j].2 (x - 1)).1 = hi + l[j].2 * (x - 1) := badd_ok h
                    refine ⟨(j + 1, lo, (badd hi l[j].2 (x - 1)).1), [], ⟨hlt, hlo, by rw [h6.2.2]; exact h6.2.1, ?_⟩, by show _ - _ < _ - _; omega, by simp [Wk, wkF, wkM, wkL, look_cons, renV, renA, renC, renB, rn, clV, clA, clAs, clB, notIn, findB, findB_setB, clA.go]⟩
                    show _ = _
                    rw [HR'.out, rngL, if_neg ‹_›, HX.out, Option.getD_some, bsum, if_pos ⟨h6.1, h6.2.1⟩, h6.2.2]
                  · have h6 := badd_no h
                    have hR := HR'.out
                    rw [rngL, if_neg ‹_›, HX.out, Option.getD_some, bsum, if_neg h6] at hR
                    rw [hR]
              · have e0 : l.drop j = [] := List.drop_eq_nil_of_le (by omega)
                have hR := HR.out
                simp only [e0, rngL] at hR
                subst hR
                repeat' first
                  | simp (disch := omega) only [go_sem, true_and, and_true, List.nil_append, ↓reduceIte, Nat.reduceEqDiff, andW_of, Int.toNat_natCast, List.length_map, List.length_cons, List.length_nil, ↓List.map_cons, ↓List.map_nil, reduceCtorEq, Option.some.injEq, not_true_eq_false, not_false_eq_true, condW_not, condW_beqT, condW_beqF, int_beq, int_bne, str_beq, str_bne, eqb_F, eqb_T, Bool.false_eq_true, List.cons_append, decide_true, decide_false, Nat.add_zero, Nat.zero_add, List.drop_succ_cons, List.drop_zero, List.take_succ_cons, List.take_zero, Option.map_some, Option.map_none, List.getElem?_cons_zero, List.getElem?_cons_succ, eq_self, beq_self_eq_true, Bool.bne_false, Bool.bne_true, Bool.true_beq, Bool.false_beq]
                  | (with_reducible refine condD (fun h => ?_) (fun h => ?_) <;> first | (exfalso; omega) | simp (disch := omega) only [go_sem, true_and, and_true, List.nil_append, ↓reduceIte, Nat.reduceEqDiff, andW_of, Int.toNat_natCast, List.length_map, List.length_cons, List.length_nil, ↓List.map_cons, ↓List.map_nil, reduceCtorEq, Option.some.injEq, not_true_eq_false, not_false_eq_true, condW_not, condW_beqT, condW_beqF, int_beq, int_bne, str_beq, str_bne, eqb_F, eqb_T, Bool.false_eq_true, List.cons_append, decide_true, decide_false, Nat.add_zero, Nat.zero_add, List.drop_succ_cons, List.drop_zero, List.take_succ_cons, List.take_zero, Option.map_some, Option.map_none, List.getElem?_cons_zero, List.getElem?_cons_succ, eq_self, beq_self_eq_true, Bool.bne_false, Bool.bne_true, Bool.true_beq, Bool.false_beq, *, decide_true, decide_false] | skip)
                  | (with_reducible refine condW_intro (fun h => ?_) (fun h => ?_) <;> first | (exfalso; omega) | simp (disch := omega) only [go_sem, true_and, and_true, List.nil_append, ↓reduceIte, Nat.reduceEqDiff, andW_of, Int.toNat_natCast, List.length_map, List.length_cons, List.length_nil, ↓List.map_cons, ↓List.map_nil, reduceCtorEq, Option.some.injEq, not_true_eq_false, not_false_eq_true, condW_not, condW_beqT, condW_beqF, int_beq, int_bne, str_beq, str_bne, eqb_F, eqb_T, Bool.false_eq_true, List.cons_append, decide_true, decide_false, Nat.add_zero, Nat.zero_add, List.drop_succ_cons, List.drop_zero, List.take_succ_cons, List.take_zero, Option.map_some, Option.map_none, List.getElem?_cons_zero, List.getElem?_cons_succ, eq_self, beq_self_eq_true, Bool.bne_false, Bool.bne_true, Bool.true_beq, Bool.false_beq, *, decide_true, decide_false] | skip)
      · rw [rng, if_neg (not_not_intro h1), if_neg (not_not_intro h2), if_pos (.inl h3)]
        repeat' first
          | simp (disch := omega) only [go_sem, true_and, and_true, List.nil_append, ↓reduceIte, Nat.reduceEqDiff, andW_of, Int.toNat_natCast, List.length_map, List.length_cons, List.length_nil, ↓List.map_cons, ↓List.map_nil, reduceCtorEq, Option.some.injEq, not_true_eq_false, not_false_eq_true, condW_not, condW_beqT, condW_beqF, int_beq, int_bne, str_beq, str_bne, eqb_F, eqb_T, Bool.false_eq_true, List.cons_append, decide_true, decide_false, Nat.add_zero, Nat.zero_add, List.drop_succ_cons, List.drop_zero, List.take_succ_cons, List.take_zero, Option.map_some, Option.map_none, List.getElem?_cons_zero, List.getElem?_cons_succ, eq_self, beq_self_eq_true, Bool.bne_false, Bool.bne_true, Bool.true_beq, Bool.false_beq, h1, h2, h3]
          | (with_reducible refine condD (fun h => ?_) (fun h => ?_) <;> first | (exfalso; omega) | simp (disch := omega) only [go_sem, true_and, and_true, List.nil_append, ↓reduceIte, Nat.reduceEqDiff, andW_of, Int.toNat_natCast, List.length_map, List.length_cons, List.length_nil, ↓List.map_cons, ↓List.map_nil, reduceCtorEq, Option.some.injEq, not_true_eq_false, not_false_eq_true, condW_not, condW_beqT, condW_beqF, int_beq, int_bne, str_beq, str_bne, eqb_F, eqb_T, Bool.false_eq_true, List.cons_append, decide_true, decide_false, Nat.add_zero, Nat.zero_add, List.drop_succ_cons, List.drop_zero, List.take_succ_cons, List.take_zero, Option.map_some, Option.map_none, List.getElem?_cons_zero, List.getElem?_cons_succ, eq_self, beq_self_eq_true, Bool.bne_false, Bool.bne_true, Bool.true_beq, Bool.false_beq, *, decide_true, decide_false, h1, h2, h3] | skip)
          | (with_reducible refine condW_intro (fun h => ?_) (fun h => ?_) <;> first | (exfalso; omega) | simp (disch := omega) only [go_sem, true_and, and_true, List.nil_append, ↓reduceIte, Nat.reduceEqDiff, andW_of, Int.toNat_natCast, List.length_map, List.length_cons, List.length_nil, ↓List.map_cons, ↓List.map_nil, reduceCtorEq, Option.some.injEq, not_true_eq_false, not_false_eq_true, condW_not, condW_beqT, condW_beqF, int_beq, int_bne, str_beq, str_bne, eqb_F, eqb_T, Bool.false_eq_true, List.cons_append, decide_true, decide_false, Nat.add_zero, Nat.zero_add, List.drop_succ_cons, List.drop_zero, List.take_succ_cons, List.take_zero, Option.map_some, Option.map_none, List.getElem?_cons_zero, List.getElem?_cons_succ, eq_self, beq_self_eq_true, Bool.bne_false, Bool.bne_true, Bool.true_beq, Bool.false_beq, *, decide_true, decide_false, h1, h2, h3] | skip)
          | (refine callW_of (lin_Validate_abs _ _) rfl (.inl rfl) ?_)
          | (refine callW_of (box_Validate_abs _) rfl (.inl rfl) ?_)
          | (refine callW_of (box_Count_abs _) rfl (.inl rfl) ?_)
    · rw [rng, if_neg (not_not_intro h1), if_pos h2]
      repeat' first
        | simp (disch := omega) only [go_sem, true_and, and_true, List.nil_append, ↓reduceIte, Nat.reduceEqDiff, andW_of, Int.toNat_natCast, List.length_map, List.length_cons, List.length_nil, ↓List.map_cons, ↓List.map_nil, reduceCtorEq, Option.some.injEq, not_true_eq_false, not_false_eq_true, condW_not, condW_beqT, condW_beqF, int_beq, int_bne, str_beq, str_bne, eqb_F, eqb_T, Bool.false_eq_true, List.cons_append, decide_true, decide_false, Nat.add_zero, Nat.zero_add, List.drop_succ_cons, List.drop_zero, List.take_succ_cons, List.take_zero, Option.map_some, Option.map_none, List.getElem?_cons_zero, List.getElem?_cons_succ, eq_self, beq_self_eq_true, Bool.bne_false, Bool.bne_true, Bool.true_beq, Bool.false_beq, h1, h2]
        | (with_reducible refine condD (fun h => ?_) (fun h => ?_) <;> first | (exfalso; omega) | simp (disch := omega) only [go_sem, true_and, and_true, List.nil_append, ↓reduceIte, Nat.reduceEqDiff, andW_of, Int.toNat_natCast, List.length_map, List.length_cons, List.length_nil, ↓List.map_cons, ↓List.map_nil, reduceCtorEq, Option.some.injEq, not_true_eq_false, not_false_eq_true, condW_not, condW_beqT, condW_beqF, int_beq, int_bne, str_beq, str_bne, eqb_F, eqb_T, Bool.false_eq_true, List.cons_append, decide_true, decide_false, Nat.add_zero, Nat.zero_add, List.drop_succ_cons, List.drop_zero, List.take_succ_cons, List.take_zero, Option.map_some, Option.map_none, List.getElem?_cons_zero, List.getElem?_cons_succ, eq_self, beq_self_eq_true, Bool.bne_false, Bool.bne_true, Bool.true_beq, Bool.false_beq, *, decide_true, decide_false, h1, h2] | skip)
        | (with_reducible refine condW_intro (fun h => ?_) (fun h => ?_) <;> first | (exfalso; omega) | simp (disch := omega) only [go_sem, true_and, and_true, List.nil_append, ↓reduceIte, Nat.reduceEqDiff, andW_of, Int.toNat_natCast, List.length_map, List.length_cons, List.length_nil, ↓List.map_cons, ↓List.map_nil, reduceCtorEq, Option.some.injEq, not_true_eq_false, not_false_eq_true, condW_not, condW_beqT, condW_beqF, int_beq, int_bne, str_beq, str_bne, eqb_F, eqb_T, Bool.false_eq_true, List.cons_append, decide_true, decide_false, Nat.add_zero, Nat.zero_add, List.drop_succ_cons, List.drop_zero, List.take_succ_cons, List.take_zero, Option.map_some, Option.map_none, List.getElem?_cons_zero, List.getElem?_cons_succ, eq_self, beq_self_eq_true, Bool.bne_false, Bool.bne_true, Bool.true_beq, Bool.false_beq, *, decide_true, decide_false, h1, h2] | skip)
        | (refine callW_of (lin_Validate_abs _ _) rfl (.inl rfl) ?_)
        | (refine callW_of (box_Validate_abs _) rfl (.inl rfl) ?_)
  · rw [rng, if_pos h1]
    repeat' first
      | simp (disch := omega) only [go_sem, true_and, and_true, List.nil_append, ↓reduceIte, Nat.reduceEqDiff, andW_of, Int.toNat_natCast, List.length_map, List.length_cons, List.length_nil, ↓List.map_cons, ↓List.map_nil, reduceCtorEq, Option.some.injEq, not_true_eq_false, not_false_eq_true, condW_not, condW_beqT, condW_beqF, int_beq, int_bne, str_beq, str_bne, eqb_F, eqb_T, Bool.false_eq_true, List.cons_append, decide_true, decide_false, Nat.add_zero, Nat.zero_add, List.drop_succ_cons, List.drop_zero, List.take_succ_cons, List.take_zero, Option.map_some, Option.map_none, List.getElem?_cons_zero, List.getElem?_cons_succ, eq_self, beq_self_eq_true, Bool.bne_false, Bool.bne_true, Bool.true_beq, Bool.false_beq, h1]
      | (with_reducible refine condD (fun h => ?_) (fun h => ?_) <;> first | (exfalso; omega) | simp (disch := omega) only [go_sem, true_and, and_true, List.nil_append, ↓reduceIte, Nat.reduceEqDiff, andW_of, Int.toNat_natCast, List.length_map, List.length_cons, List.length_nil, ↓List.map_cons, ↓List.map_nil, reduceCtorEq, Option.some.injEq, not_true_eq_false, not_false_eq_true, condW_not, condW_beqT, condW_beqF, int_beq, int_bne, str_beq, str_bne, eqb_F, eqb_T, Bool.false_eq_true, List.cons_append, decide_true, decide_false, Nat.add_zero, Nat.zero_add, List.drop_succ_cons, List.drop_zero, List.take_succ_cons, List.take_zero, Option.map_some, Option.map_none, List.getElem?_cons_zero, List.getElem?_cons_succ, eq_self, beq_self_eq_true, Bool.bne_false, Bool.bne_true, Bool.true_beq, Bool.false_beq, *, decide_true, decide_false, h1] | skip)
      | (with_reducible refine condW_intro (fun h => ?_) (fun h => ?_) <;> first | (exfalso; omega) | simp (disch := omega) only [go_sem, true_and, and_true, List.nil_append, ↓reduceIte, Nat.reduceEqDiff, andW_of, Int.toNat_natCast, List.length_map, List.length_cons, List.length_nil, ↓List.map_cons, ↓List.map_nil, reduceCtorEq, Option.some.injEq, not_true_eq_false, not_false_eq_true, condW_not, condW_beqT, condW_beqF, int_beq, int_bne, str_beq, str_bne, eqb_F, eqb_T, Bool.false_eq_true, List.cons_append, decide_true, decide_false, Nat.add_zero, Nat.zero_add, List.drop_succ_cons, List.drop_zero, List.take_succ_cons, List.take_zero, Option.map_some, Option.map_none, List.getElem?_cons_zero, List.getElem?_cons_succ, eq_self, beq_self_eq_true, Bool.bne_false, Bool.bne_true, Bool.true_beq, Bool.false_beq, *, decide_true, decide_false, h1] | skip)
      | (refine callW_of (lin_Validate_abs _ _) rfl (.inl rfl) ?_)
end Go.Proofs.Ytcbnnjadgkgheaa
