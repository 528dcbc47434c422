/- Walks by the abstract machine: names, sums and products of numbers. -/
import Derived.Test.YtcbnnjadgkgheaaCodes
set_option linter.unusedVariables false
set_option linter.unusedSimpArgs false
set_option maxRecDepth 20000
namespace Go.Proofs.Ytcbnnjadgkgheaa
open Go.Abs Go.RowKit

/-- A number of 64 bits. -/
def in64 (x : Int) : Prop := -9223372036854775808 ≤ x ∧ x ≤ 9223372036854775807
instance (x : Int) : Decidable (in64 x) := by unfold in64; infer_instance
/-- The number, if it is one of 64 bits. -/
def ok64 (x : Int) : Int × Bool := if in64 x then (x, true) else (0, false)
abbrev aOk (x : Int × Bool) : AV := .tup [I x.1, Go.Abs.B x.2]
theorem ok64_in {x : Int} (h : in64 x) : ok64 x = (x, true) := if_pos h
theorem ok64_out {x : Int} (h : ¬ in64 x) : ok64 x = (0, false) := if_neg h

theorem base_Plus_abs {a b : Int} (ha : in64 a) (hb : in64 b) : PCalls Try.prog n_base_Plus [I a, I b] (aOk (ok64 (a + b))) := by
  refine PCalls.of is_base_Plus (by simp) fun _ => runW_sound ?_
  obtain ⟨ha1, ha2⟩ := ha
  obtain ⟨hb1, hb2⟩ := hb
  simp only [c_base_Plus]
  repeat' first
    | simp (disch := omega) only [go_sem, true_and, and_true, List.nil_append, ↓reduceIte, Nat.reduceEqDiff, andW_of, Int.toNat_natCast, List.length_map, List.length_cons, List.length_nil, ↓List.map_cons, ↓List.map_nil, reduceCtorEq, Option.some.injEq, not_true_eq_false, not_false_eq_true, condW_not, condW_beqT, condW_beqF, int_beq, int_bne, str_beq, str_bne, eqb_F, eqb_T, Bool.false_eq_true, List.cons_append, decide_true, decide_false, Nat.add_zero, Nat.zero_add, List.drop_succ_cons, List.drop_zero, List.take_succ_cons, List.take_zero, Option.map_some, Option.map_none, List.getElem?_cons_zero, List.getElem?_cons_succ, eq_self, beq_self_eq_true, Bool.bne_false, Bool.bne_true, Bool.true_beq, Bool.false_beq, wrap_i64]
    | (with_reducible refine condD (fun h => ?_) (fun h => ?_) <;> first | (exfalso; omega) | simp (disch := omega) only [go_sem, true_and, and_true, List.nil_append, ↓reduceIte, Nat.reduceEqDiff, andW_of, Int.toNat_natCast, List.length_map, List.length_cons, List.length_nil, ↓List.map_cons, ↓List.map_nil, reduceCtorEq, Option.some.injEq, not_true_eq_false, not_false_eq_true, condW_not, condW_beqT, condW_beqF, int_beq, int_bne, str_beq, str_bne, eqb_F, eqb_T, Bool.false_eq_true, List.cons_append, decide_true, decide_false, Nat.add_zero, Nat.zero_add, List.drop_succ_cons, List.drop_zero, List.take_succ_cons, List.take_zero, Option.map_some, Option.map_none, List.getElem?_cons_zero, List.getElem?_cons_succ, eq_self, beq_self_eq_true, Bool.bne_false, Bool.bne_true, Bool.true_beq, Bool.false_beq, *, decide_true, decide_false, wrap_i64] | skip)
    | (with_reducible refine condW_intro (fun h => ?_) (fun h => ?_) <;> first | (exfalso; omega) | simp (disch := omega) only [go_sem, true_and, and_true, List.nil_append, ↓reduceIte, Nat.reduceEqDiff, andW_of, Int.toNat_natCast, List.length_map, List.length_cons, List.length_nil, ↓List.map_cons, ↓List.map_nil, reduceCtorEq, Option.some.injEq, not_true_eq_false, not_false_eq_true, condW_not, condW_beqT, condW_beqF, int_beq, int_bne, str_beq, str_bne, eqb_F, eqb_T, Bool.false_eq_true, List.cons_append, decide_true, decide_false, Nat.add_zero, Nat.zero_add, List.drop_succ_cons, List.drop_zero, List.take_succ_cons, List.take_zero, Option.map_some, Option.map_none, List.getElem?_cons_zero, List.getElem?_cons_succ, eq_self, beq_self_eq_true, Bool.bne_false, Bool.bne_true, Bool.true_beq, Bool.false_beq, *, decide_true, decide_false, wrap_i64] | skip)
  all_goals first
    | omega
    | rw [ok64_in (by unfold in64; omega)]
    | rw [ok64_out (by unfold in64; omega)]

/-- A product in 64 bits, divided by a factor. -/
theorem wrap_mul {a b : Int} (ha : in64 a) (hb : in64 b) (h0 : b ≠ 0) (hm : ¬ (b = -1 ∧ a = -9223372036854775808)) : (IntKind.wrap .i64 (a * b)).tdiv b = a ↔ in64 (a * b) := by
  obtain ⟨ha1, ha2⟩ := ha
  obtain ⟨hb1, hb2⟩ := hb
  constructor
  · intro h
    rw [IntKind.wrap_i64] at h
    generalize hw : (a * b + 9223372036854775808) % 18446744073709551616 - 9223372036854775808 = w at h
    have hb1' : in64 w := by unfold in64; omega
    have key := Int.tmod_def w b
    have hr1 : (w.tmod b).natAbs < b.natAbs := by rw [Int.natAbs_tmod]; exact Nat.mod_lt _ (by omega)
    rw [h] at key
    -- w = b * a + r, r small: w and a * b differ by less than 2 ^ 63, and are equal modulo 2 ^ 64
    generalize hr : w.tmod b = r at key hr1
    have hr2 : r.natAbs < 9223372036854775808 := by omega
    have e : a * b = b * a := Int.mul_comm a b
    generalize hp : b * a = p at key e
    rw [e] at hw ⊢
    have : r = 0 := by omega
    unfold in64 at hb1' ⊢
    omega
  · intro h
    rw [wrap_i64 h, Int.mul_tdiv_cancel a h0]

theorem wrap_mul2 {a b : Int} (ha : in64 a) (hb : in64 b) (h0 : b ≠ 0) (hm : ¬ (b = -1 ∧ a = -9223372036854775808)) : IntKind.wrap .i64 ((IntKind.wrap .i64 (a * b)).tdiv b) = a ↔ in64 (a * b) := by
  rw [wrap_i64, wrap_mul ha hb h0 hm]
  have hw : in64 (IntKind.wrap .i64 (a * b)) := by rw [IntKind.wrap_i64]; unfold in64; omega
  have hne : ¬ (b = -1 ∧ IntKind.wrap .i64 (a * b) = -9223372036854775808) := by
    rintro ⟨rfl, h⟩
    rw [IntKind.wrap_i64] at h
    unfold in64 at ha
    omega
  generalize IntKind.wrap .i64 (a * b) = x at hw hne
  unfold in64 at hw
  have h2 : (x.tdiv b).natAbs ≤ x.natAbs := by rw [Int.natAbs_tdiv]; exact Nat.div_le_self _ _
  by_cases e : x = -9223372036854775808
  · by_cases e1 : b = 1
    · subst e1; simp; omega
    · have h3 : 2 ≤ b.natAbs := by omega
      have h4 : (x.tdiv b).natAbs ≤ x.natAbs / 2 := by rw [Int.natAbs_tdiv]; exact Nat.div_le_div_left h3 (by omega)
      omega
  · omega

theorem base_Times_abs {a b : Int} (ha : in64 a) (hb : in64 b) : PCalls Try.prog n_base_Times [I a, I b] (aOk (ok64 (a * b))) := by
  refine PCalls.of is_base_Times (by simp) fun _ => runW_sound ?_
  obtain ⟨ha1, ha2⟩ := ha
  obtain ⟨hb1, hb2⟩ := hb
  simp only [c_base_Times]
  repeat' first
    | simp (disch := omega) only [go_sem, true_and, and_true, List.nil_append, ↓reduceIte, Nat.reduceEqDiff, andW_of, Int.toNat_natCast, List.length_map, List.length_cons, List.length_nil, ↓List.map_cons, ↓List.map_nil, reduceCtorEq, Option.some.injEq, not_true_eq_false, not_false_eq_true, condW_not, condW_beqT, condW_beqF, int_beq, int_bne, str_beq, str_bne, eqb_F, eqb_T, Bool.false_eq_true, List.cons_append, decide_true, decide_false, Nat.add_zero, Nat.zero_add, List.drop_succ_cons, List.drop_zero, List.take_succ_cons, List.take_zero, Option.map_some, Option.map_none, List.getElem?_cons_zero, List.getElem?_cons_succ, eq_self, beq_self_eq_true, Bool.bne_false, Bool.bne_true, Bool.true_beq, Bool.false_beq]
    | (with_reducible refine condD (fun h => ?_) (fun h => ?_) <;> first | (exfalso; omega) | simp (disch := omega) only [go_sem, true_and, and_true, List.nil_append, ↓reduceIte, Nat.reduceEqDiff, andW_of, Int.toNat_natCast, List.length_map, List.length_cons, List.length_nil, ↓List.map_cons, ↓List.map_nil, reduceCtorEq, Option.some.injEq, not_true_eq_false, not_false_eq_true, condW_not, condW_beqT, condW_beqF, int_beq, int_bne, str_beq, str_bne, eqb_F, eqb_T, Bool.false_eq_true, List.cons_append, decide_true, decide_false, Nat.add_zero, Nat.zero_add, List.drop_succ_cons, List.drop_zero, List.take_succ_cons, List.take_zero, Option.map_some, Option.map_none, List.getElem?_cons_zero, List.getElem?_cons_succ, eq_self, beq_self_eq_true, Bool.bne_false, Bool.bne_true, Bool.true_beq, Bool.false_beq, *, decide_true, decide_false] | skip)
    | (with_reducible refine condW_intro (fun h => ?_) (fun h => ?_) <;> first | (exfalso; omega) | simp (disch := omega) only [go_sem, true_and, and_true, List.nil_append, ↓reduceIte, Nat.reduceEqDiff, andW_of, Int.toNat_natCast, List.length_map, List.length_cons, List.length_nil, ↓List.map_cons, ↓List.map_nil, reduceCtorEq, Option.some.injEq, not_true_eq_false, not_false_eq_true, condW_not, condW_beqT, condW_beqF, int_beq, int_bne, str_beq, str_bne, eqb_F, eqb_T, Bool.false_eq_true, List.cons_append, decide_true, decide_false, Nat.add_zero, Nat.zero_add, List.drop_succ_cons, List.drop_zero, List.take_succ_cons, List.take_zero, Option.map_some, Option.map_none, List.getElem?_cons_zero, List.getElem?_cons_succ, eq_self, beq_self_eq_true, Bool.bne_false, Bool.bne_true, Bool.true_beq, Bool.false_beq, *, decide_true, decide_false] | skip)
  all_goals first
    | (simp [ok64, in64]; done)
    | (rw [ok64_in (by unfold in64; omega)]; done)
    | (rw [ok64_out (by unfold in64; omega)]; done)
    | rw [ok64_out (fun hc => h ((wrap_mul2 (by unfold in64; omega) (by unfold in64; omega) (by omega) (by omega)).2 hc))]
    | (have hc := (wrap_mul2 (by unfold in64; omega) (by unfold in64; omega) (by omega) (by omega)).1 h; rw [ok64_in hc, wrap_i64 hc])

/-- The reserved words. -/
def words : List ByteArray := [⟨⟨[115, 105, 122, 101]⟩⟩, ⟨⟨[119, 104, 101, 114, 101]⟩⟩, ⟨⟨[105, 110]⟩⟩, ⟨⟨[100, 101, 102]⟩⟩, ⟨⟨[111, 117, 116]⟩⟩, ⟨⟨[115, 117, 109]⟩⟩, ⟨⟨[112, 114, 111, 100]⟩⟩, ⟨⟨[109, 105, 110]⟩⟩, ⟨⟨[109, 97, 120]⟩⟩, ⟨⟨[115, 99, 97, 110]⟩⟩, ⟨⟨[111, 118, 101, 114]⟩⟩, ⟨⟨[105, 102]⟩⟩, ⟨⟨[99, 97, 115, 116]⟩⟩, ⟨⟨[102, 114, 97, 99]⟩⟩, ⟨⟨[105, 110, 116]⟩⟩, ⟨⟨[102, 105, 120]⟩⟩, ⟨⟨[99, 101, 105, 108]⟩⟩, ⟨⟨[102, 108, 111, 111, 114]⟩⟩, ⟨⟨[122, 101, 114, 111]⟩⟩, ⟨⟨[101, 118, 101, 110]⟩⟩, ⟨⟨[115, 97, 116]⟩⟩, ⟨⟨[119, 114, 97, 112]⟩⟩]
abbrev aStrs (xs : List ByteArray) : AV := aSl (fun s => [pS s]) xs
theorem base_Words_abs : PCalls Try.prog n_base_Words [] (aStrs words) := by
  refine PCalls.of is_base_Words (by simp) fun _ => runW_sound ?_
  simp only [c_base_Words]
  repeat' first
    | simp (disch := omega) only [go_sem, true_and, and_true, List.nil_append, ↓reduceIte, Nat.reduceEqDiff, andW_of, Int.toNat_natCast, List.length_map, List.length_cons, List.length_nil, ↓List.map_cons, ↓List.map_nil, reduceCtorEq, Option.some.injEq, not_true_eq_false, not_false_eq_true, condW_not, condW_beqT, condW_beqF, int_beq, int_bne, str_beq, str_bne, eqb_F, eqb_T, Bool.false_eq_true, List.cons_append, decide_true, decide_false, Nat.add_zero, Nat.zero_add, List.drop_succ_cons, List.drop_zero, List.take_succ_cons, List.take_zero, Option.map_some, Option.map_none, List.getElem?_cons_zero, List.getElem?_cons_succ, eq_self, beq_self_eq_true, Bool.bne_false, Bool.bne_true, Bool.true_beq, Bool.false_beq]
    | (with_reducible refine condD (fun h => ?_) (fun h => ?_) <;> first | (exfalso; omega) | simp (disch := omega) only [go_sem, true_and, and_true, List.nil_append, ↓reduceIte, Nat.reduceEqDiff, andW_of, Int.toNat_natCast, List.length_map, List.length_cons, List.length_nil, ↓List.map_cons, ↓List.map_nil, reduceCtorEq, Option.some.injEq, not_true_eq_false, not_false_eq_true, condW_not, condW_beqT, condW_beqF, int_beq, int_bne, str_beq, str_bne, eqb_F, eqb_T, Bool.false_eq_true, List.cons_append, decide_true, decide_false, Nat.add_zero, Nat.zero_add, List.drop_succ_cons, List.drop_zero, List.take_succ_cons, List.take_zero, Option.map_some, Option.map_none, List.getElem?_cons_zero, List.getElem?_cons_succ, eq_self, beq_self_eq_true, Bool.bne_false, Bool.bne_true, Bool.true_beq, Bool.false_beq, *, decide_true, decide_false] | skip)
    | (with_reducible refine condW_intro (fun h => ?_) (fun h => ?_) <;> first | (exfalso; omega) | simp (disch := omega) only [go_sem, true_and, and_true, List.nil_append, ↓reduceIte, Nat.reduceEqDiff, andW_of, Int.toNat_natCast, List.length_map, List.length_cons, List.length_nil, ↓List.map_cons, ↓List.map_nil, reduceCtorEq, Option.some.injEq, not_true_eq_false, not_false_eq_true, condW_not, condW_beqT, condW_beqF, int_beq, int_bne, str_beq, str_bne, eqb_F, eqb_T, Bool.false_eq_true, List.cons_append, decide_true, decide_false, Nat.add_zero, Nat.zero_add, List.drop_succ_cons, List.drop_zero, List.take_succ_cons, List.take_zero, Option.map_some, Option.map_none, List.getElem?_cons_zero, List.getElem?_cons_succ, eq_self, beq_self_eq_true, Bool.bne_false, Bool.bne_true, Bool.true_beq, Bool.false_beq, *, decide_true, decide_false] | skip)
  rfl
theorem base_Has_abs (xs : List ByteArray) (s : ByteArray) : PCalls Try.prog n_base_Has [aStrs xs, S s] (Go.Abs.B (decide (s ∈ xs))) := by
  refine PCalls.of is_base_Has (by simp) fun hb => runW_sound ?_
  have hx : xs.length ≤ 9223372036854775807 := by simpa [bndVs, bndV, bndA] using hb.1
  simp only [c_base_Has]
  repeat' first
    | simp (disch := omega) only [go_sem, true_and, and_true, List.nil_append, ↓reduceIte, Nat.reduceEqDiff, andW_of, Int.toNat_natCast, List.length_map, List.length_cons, List.length_nil, ↓List.map_cons, ↓List.map_nil, reduceCtorEq, Option.some.injEq, not_true_eq_false, not_false_eq_true, condW_not, condW_beqT, condW_beqF, int_beq, int_bne, str_beq, str_bne, eqb_F, eqb_T, Bool.false_eq_true, List.cons_append, decide_true, decide_false, Nat.add_zero, Nat.zero_add, List.drop_succ_cons, List.drop_zero, List.take_succ_cons, List.take_zero, Option.map_some, Option.map_none, List.getElem?_cons_zero, List.getElem?_cons_succ, eq_self, beq_self_eq_true, Bool.bne_false, Bool.bne_true, Bool.true_beq, Bool.false_beq]
    | (with_reducible refine condD (fun h => ?_) (fun h => ?_) <;> first | (exfalso; omega) | simp (disch := omega) only [go_sem, true_and, and_true, List.nil_append, ↓reduceIte, Nat.reduceEqDiff, andW_of, Int.toNat_natCast, List.length_map, List.length_cons, List.length_nil, ↓List.map_cons, ↓List.map_nil, reduceCtorEq, Option.some.injEq, not_true_eq_false, not_false_eq_true, condW_not, condW_beqT, condW_beqF, int_beq, int_bne, str_beq, str_bne, eqb_F, eqb_T, Bool.false_eq_true, List.cons_append, decide_true, decide_false, Nat.add_zero, Nat.zero_add, List.drop_succ_cons, List.drop_zero, List.take_succ_cons, List.take_zero, Option.map_some, Option.map_none, List.getElem?_cons_zero, List.getElem?_cons_succ, eq_self, beq_self_eq_true, Bool.bne_false, Bool.bne_true, Bool.true_beq, Bool.false_beq, *, decide_true, decide_false] | skip)
    | (with_reducible refine condW_intro (fun h => ?_) (fun h => ?_) <;> first | (exfalso; omega) | simp (disch := omega) only [go_sem, true_and, and_true, List.nil_append, ↓reduceIte, Nat.reduceEqDiff, andW_of, Int.toNat_natCast, List.length_map, List.length_cons, List.length_nil, ↓List.map_cons, ↓List.map_nil, reduceCtorEq, Option.some.injEq, not_true_eq_false, not_false_eq_true, condW_not, condW_beqT, condW_beqF, int_beq, int_bne, str_beq, str_bne, eqb_F, eqb_T, Bool.false_eq_true, List.cons_append, decide_true, decide_false, Nat.add_zero, Nat.zero_add, List.drop_succ_cons, List.drop_zero, List.take_succ_cons, List.take_zero, Option.map_some, Option.map_none, List.getElem?_cons_zero, List.getElem?_cons_succ, eq_self, beq_self_eq_true, Bool.bne_false, Bool.bne_true, Bool.true_beq, Bool.false_beq, *, decide_true, decide_false] | skip)
  refine AW_loop (fun k : Nat => ⟨[(5, I k), (0, aStrs xs), (1, S s)], [], 0, 0⟩) (fun k => k ≤ xs.length ∧ ∀ j (h : j < xs.length), j < k → xs[j] ≠ s) (fun k => xs.length - k) ⟨0, [], ⟨by omega, fun j h h' => by omega⟩, by simp [Wk, wkF, wkM, wkL, look_cons, renV, renA, renC, renB, rn, clV, clA, clAs, clB, notIn, findB, findB_setB, clA.go]⟩ ?_
  rintro k ⟨hk, hall⟩
  refine runW_sound ?_
  by_cases hlt : k < xs.length
  · repeat' first
      | simp (disch := omega) only [go_sem, true_and, and_true, List.nil_append, ↓reduceIte, Nat.reduceEqDiff, andW_of, Int.toNat_natCast, List.length_map, List.length_cons, List.length_nil, ↓List.map_cons, ↓List.map_nil, reduceCtorEq, Option.some.injEq, not_true_eq_false, not_false_eq_true, condW_not, condW_beqT, condW_beqF, int_beq, int_bne, str_beq, str_bne, eqb_F, eqb_T, Bool.false_eq_true, List.cons_append, decide_true, decide_false, Nat.add_zero, Nat.zero_add, List.drop_succ_cons, List.drop_zero, List.take_succ_cons, List.take_zero, Option.map_some, Option.map_none, List.getElem?_cons_zero, List.getElem?_cons_succ, eq_self, beq_self_eq_true, Bool.bne_false, Bool.bne_true, Bool.true_beq, Bool.false_beq, map_get hlt, Option.map_some, wrap_i64]
      | (with_reducible refine condD (fun h => ?_) (fun h => ?_) <;> first | (exfalso; omega) | simp (disch := omega) only [go_sem, true_and, and_true, List.nil_append, ↓reduceIte, Nat.reduceEqDiff, andW_of, Int.toNat_natCast, List.length_map, List.length_cons, List.length_nil, ↓List.map_cons, ↓List.map_nil, reduceCtorEq, Option.some.injEq, not_true_eq_false, not_false_eq_true, condW_not, condW_beqT, condW_beqF, int_beq, int_bne, str_beq, str_bne, eqb_F, eqb_T, Bool.false_eq_true, List.cons_append, decide_true, decide_false, Nat.add_zero, Nat.zero_add, List.drop_succ_cons, List.drop_zero, List.take_succ_cons, List.take_zero, Option.map_some, Option.map_none, List.getElem?_cons_zero, List.getElem?_cons_succ, eq_self, beq_self_eq_true, Bool.bne_false, Bool.bne_true, Bool.true_beq, Bool.false_beq, *, decide_true, decide_false, map_get hlt, Option.map_some, wrap_i64] | skip)
      | (with_reducible refine condW_intro (fun h => ?_) (fun h => ?_) <;> first | (exfalso; omega) | simp (disch := omega) only [go_sem, true_and, and_true, List.nil_append, ↓reduceIte, Nat.reduceEqDiff, andW_of, Int.toNat_natCast, List.length_map, List.length_cons, List.length_nil, ↓List.map_cons, ↓List.map_nil, reduceCtorEq, Option.some.injEq, not_true_eq_false, not_false_eq_true, condW_not, condW_beqT, condW_beqF, int_beq, int_bne, str_beq, str_bne, eqb_F, eqb_T, Bool.false_eq_true, List.cons_append, decide_true, decide_false, Nat.add_zero, Nat.zero_add, List.drop_succ_cons, List.drop_zero, List.take_succ_cons, List.take_zero, Option.map_some, Option.map_none, List.getElem?_cons_zero, List.getElem?_cons_succ, eq_self, beq_self_eq_true, Bool.bne_false, Bool.bne_true, Bool.true_beq, Bool.false_beq, *, decide_true, decide_false, map_get hlt, Option.map_some, wrap_i64] | skip)
    · have : s ∈ xs := by subst h; exact List.getElem_mem hlt
      simp [this]
    · refine ⟨k + 1, [], ⟨by omega, fun j hj hj' => ?_⟩, by omega, by simp [Wk, wkF, wkM, wkL, look_cons, renV, renA, renC, renB, rn, clV, clA, clAs, clB, notIn, findB, findB_setB, clA.go]⟩
      by_cases e : j = k
      · subst e; exact h
      · exact hall j hj (by omega)
  · repeat' first
      | simp (disch := omega) only [go_sem, true_and, and_true, List.nil_append, ↓reduceIte, Nat.reduceEqDiff, andW_of, Int.toNat_natCast, List.length_map, List.length_cons, List.length_nil, ↓List.map_cons, ↓List.map_nil, reduceCtorEq, Option.some.injEq, not_true_eq_false, not_false_eq_true, condW_not, condW_beqT, condW_beqF, int_beq, int_bne, str_beq, str_bne, eqb_F, eqb_T, Bool.false_eq_true, List.cons_append, decide_true, decide_false, Nat.add_zero, Nat.zero_add, List.drop_succ_cons, List.drop_zero, List.take_succ_cons, List.take_zero, Option.map_some, Option.map_none, List.getElem?_cons_zero, List.getElem?_cons_succ, eq_self, beq_self_eq_true, Bool.bne_false, Bool.bne_true, Bool.true_beq, Bool.false_beq]
      | (with_reducible refine condD (fun h => ?_) (fun h => ?_) <;> first | (exfalso; omega) | simp (disch := omega) only [go_sem, true_and, and_true, List.nil_append, ↓reduceIte, Nat.reduceEqDiff, andW_of, Int.toNat_natCast, List.length_map, List.length_cons, List.length_nil, ↓List.map_cons, ↓List.map_nil, reduceCtorEq, Option.some.injEq, not_true_eq_false, not_false_eq_true, condW_not, condW_beqT, condW_beqF, int_beq, int_bne, str_beq, str_bne, eqb_F, eqb_T, Bool.false_eq_true, List.cons_append, decide_true, decide_false, Nat.add_zero, Nat.zero_add, List.drop_succ_cons, List.drop_zero, List.take_succ_cons, List.take_zero, Option.map_some, Option.map_none, List.getElem?_cons_zero, List.getElem?_cons_succ, eq_self, beq_self_eq_true, Bool.bne_false, Bool.bne_true, Bool.true_beq, Bool.false_beq, *, decide_true, decide_false] | skip)
      | (with_reducible refine condW_intro (fun h => ?_) (fun h => ?_) <;> first | (exfalso; omega) | simp (disch := omega) only [go_sem, true_and, and_true, List.nil_append, ↓reduceIte, Nat.reduceEqDiff, andW_of, Int.toNat_natCast, List.length_map, List.length_cons, List.length_nil, ↓List.map_cons, ↓List.map_nil, reduceCtorEq, Option.some.injEq, not_true_eq_false, not_false_eq_true, condW_not, condW_beqT, condW_beqF, int_beq, int_bne, str_beq, str_bne, eqb_F, eqb_T, Bool.false_eq_true, List.cons_append, decide_true, decide_false, Nat.add_zero, Nat.zero_add, List.drop_succ_cons, List.drop_zero, List.take_succ_cons, List.take_zero, Option.map_some, Option.map_none, List.getElem?_cons_zero, List.getElem?_cons_succ, eq_self, beq_self_eq_true, Bool.bne_false, Bool.bne_true, Bool.true_beq, Bool.false_beq, *, decide_true, decide_false] | skip)
    have : ¬ s ∈ xs := fun hm => by
      obtain ⟨j, hj, e⟩ := List.mem_iff_getElem.1 hm
      exact hall j hj (by omega) e
    simp [this]
theorem lin_reserved_abs (s : ByteArray) : PCalls Try.prog n_lin_reserved [S s] (Go.Abs.B (decide (s ∈ words))) := by
  refine PCalls.of is_lin_reserved (by simp) fun _ => runW_sound ?_
  simp only [c_lin_reserved]
  repeat' first
    | simp (disch := omega) only [go_sem, true_and, and_true, List.nil_append, ↓reduceIte, Nat.reduceEqDiff, andW_of, Int.toNat_natCast, List.length_map, List.length_cons, List.length_nil, ↓List.map_cons, ↓List.map_nil, reduceCtorEq, Option.some.injEq, not_true_eq_false, not_false_eq_true, condW_not, condW_beqT, condW_beqF, int_beq, int_bne, str_beq, str_bne, eqb_F, eqb_T, Bool.false_eq_true, List.cons_append, decide_true, decide_false, Nat.add_zero, Nat.zero_add, List.drop_succ_cons, List.drop_zero, List.take_succ_cons, List.take_zero, Option.map_some, Option.map_none, List.getElem?_cons_zero, List.getElem?_cons_succ, eq_self, beq_self_eq_true, Bool.bne_false, Bool.bne_true, Bool.true_beq, Bool.false_beq]
    | (with_reducible refine condD (fun h => ?_) (fun h => ?_) <;> first | (exfalso; omega) | simp (disch := omega) only [go_sem, true_and, and_true, List.nil_append, ↓reduceIte, Nat.reduceEqDiff, andW_of, Int.toNat_natCast, List.length_map, List.length_cons, List.length_nil, ↓List.map_cons, ↓List.map_nil, reduceCtorEq, Option.some.injEq, not_true_eq_false, not_false_eq_true, condW_not, condW_beqT, condW_beqF, int_beq, int_bne, str_beq, str_bne, eqb_F, eqb_T, Bool.false_eq_true, List.cons_append, decide_true, decide_false, Nat.add_zero, Nat.zero_add, List.drop_succ_cons, List.drop_zero, List.take_succ_cons, List.take_zero, Option.map_some, Option.map_none, List.getElem?_cons_zero, List.getElem?_cons_succ, eq_self, beq_self_eq_true, Bool.bne_false, Bool.bne_true, Bool.true_beq, Bool.false_beq, *, decide_true, decide_false] | skip)
    | (with_reducible refine condW_intro (fun h => ?_) (fun h => ?_) <;> first | (exfalso; omega) | simp (disch := omega) only [go_sem, true_and, and_true, List.nil_append, ↓reduceIte, Nat.reduceEqDiff, andW_of, Int.toNat_natCast, List.length_map, List.length_cons, List.length_nil, ↓List.map_cons, ↓List.map_nil, reduceCtorEq, Option.some.injEq, not_true_eq_false, not_false_eq_true, condW_not, condW_beqT, condW_beqF, int_beq, int_bne, str_beq, str_bne, eqb_F, eqb_T, Bool.false_eq_true, List.cons_append, decide_true, decide_false, Nat.add_zero, Nat.zero_add, List.drop_succ_cons, List.drop_zero, List.take_succ_cons, List.take_zero, Option.map_some, Option.map_none, List.getElem?_cons_zero, List.getElem?_cons_succ, eq_self, beq_self_eq_true, Bool.bne_false, Bool.bne_true, Bool.true_beq, Bool.false_beq, *, decide_true, decide_false] | skip)
  all_goals simp [words, *]
end Go.Proofs.Ytcbnnjadgkgheaa
