/- The laws of layer 25 on operators and folds, as contracts of the abstract machine. -/
import Derived.Test.YtjkaimaoihmgoaaV25d
import Derived.Test.YtjkaimaoihmgoaaIn0
set_option linter.unusedVariables false
set_option linter.unusedSimpArgs false
set_option maxRecDepth 20000
namespace Go.Proofs.Ytjkaimaoihmgoaa
open Go.Abs Go.RowKit

theorem frNew_one {n : Int} (h : -2147483647 ≤ n ∧ n ≤ 2147483647) : frNew n 1 = ((n, 1), 0) := by
  rw [frNew_eq (by decide)]
  have e : Nat.gcd n.natAbs (1 : Int).natAbs = 1 := Nat.gcd_one_right _
  rw [e, Nat.div_one, Nat.div_one, if_neg (by simp; omega)]
  by_cases hn : n < 0
  · simp [hn]; omega
  · simp [hn]; omega
theorem frOk_one {n : Int} (h : -2147483647 ≤ n ∧ n ≤ 2147483647) : frOk (n, 1) := ⟨by simp, by simp, h.1, h.2, Nat.gcd_one_right _⟩
theorem frMul_one {m n : Int} (hm : -2147483647 ≤ m ∧ m ≤ 2147483647) (hn : -2147483647 ≤ n ∧ n ≤ 2147483647) (h : -2147483647 ≤ m * n ∧ m * n ≤ 2147483647) : frMul (m, 1) (n, 1) = ((m * n, 1), 0) := by
  rw [frMul_eq (frOk_one hm) (frOk_one hn)]
  exact frNew_one h
theorem frAdd_one {m n : Int} (hm : -2147483647 ≤ m ∧ m ≤ 2147483647) (hn : -2147483647 ≤ n ∧ n ≤ 2147483647) (h : -2147483647 ≤ m + n ∧ m + n ≤ 2147483647) : frAdd (m, 1) (n, 1) = ((m + n, 1), 0) := by
  rw [frAdd_eq (frOk_one hm) (frOk_one hn)]
  simp only [Int.mul_one]
  exact frNew_one h
theorem alive_eq : duApply 6 ((2, 1), (1, 1)) ((3, 1), (0, 1)) = (((6, 1), (3, 1)), 0) := by
  have o1 : duOk ((2, 1), (1, 1)) := ⟨frOk_one (by omega), frOk_one (by omega)⟩
  have o2 : duOk ((3, 1), (0, 1)) := ⟨frOk_one (by omega), frOk_one (by omega)⟩
  have e1 : frApply 6 (2, 1) (3, 1) = ((6, 1), 0) := by simp [frApply, o1.1, o2.1, frMul_one]
  have e2 : duTan 6 ((2, 1), (1, 1)) ((3, 1), (0, 1)) (6, 1) = ((3, 1), 0) := by simp [duTan, bindF, frMul_one, frAdd_one]
  simp [duApply, o1, o2, e1, e2]
theorem law25_alive_1_abs (n d : Int) : PCalls Try.prog n_law25_alive_1 [I n, I d] (aDu ((n, 1), (d, 1))) := by
  refine PCalls.of is_law25_alive_1 (by simp) fun _ => runW_sound ?_
  simp only [c_law25_alive_1]
  repeat' first
    | simp (disch := omega) only [go_sem, true_and, and_true, List.nil_append, ↓reduceIte, Nat.reduceEqDiff, andW_of, Int.toNat_natCast, List.length_map, List.length_cons, List.length_nil, ↓List.map_cons, ↓List.map_nil, reduceCtorEq, Option.some.injEq, not_true_eq_false, not_false_eq_true, condW_not, condW_beqT, condW_beqF, int_beq, int_bne, str_beq, str_bne, eqb_F, eqb_T, dec_F, dec_T, decT, decF, Int.reduceEq, Bool.false_eq_true, List.cons_append, decide_true, decide_false, Nat.add_zero, Nat.zero_add, List.drop_succ_cons, List.drop_zero, List.take_succ_cons, List.take_zero, Option.map_some, Option.map_none, List.getElem?_cons_zero, List.getElem?_cons_succ, eq_self, beq_self_eq_true, Bool.bne_false, Bool.bne_true, Bool.true_beq, Bool.false_beq]
    | (with_reducible refine condD (fun h => ?_) (fun h => ?_) <;> first | (exfalso; omega) | simp (disch := omega) only [go_sem, true_and, and_true, List.nil_append, ↓reduceIte, Nat.reduceEqDiff, andW_of, Int.toNat_natCast, List.length_map, List.length_cons, List.length_nil, ↓List.map_cons, ↓List.map_nil, reduceCtorEq, Option.some.injEq, not_true_eq_false, not_false_eq_true, condW_not, condW_beqT, condW_beqF, int_beq, int_bne, str_beq, str_bne, eqb_F, eqb_T, dec_F, dec_T, decT, decF, Int.reduceEq, Bool.false_eq_true, List.cons_append, decide_true, decide_false, Nat.add_zero, Nat.zero_add, List.drop_succ_cons, List.drop_zero, List.take_succ_cons, List.take_zero, Option.map_some, Option.map_none, List.getElem?_cons_zero, List.getElem?_cons_succ, eq_self, beq_self_eq_true, Bool.bne_false, Bool.bne_true, Bool.true_beq, Bool.false_beq, *, decide_true, decide_false] | skip)
    | (with_reducible refine condX (fun h => ?_) (fun h => ?_) <;> first | (exfalso; omega) | simp (disch := omega) only [go_sem, true_and, and_true, List.nil_append, ↓reduceIte, Nat.reduceEqDiff, andW_of, Int.toNat_natCast, List.length_map, List.length_cons, List.length_nil, ↓List.map_cons, ↓List.map_nil, reduceCtorEq, Option.some.injEq, not_true_eq_false, not_false_eq_true, condW_not, condW_beqT, condW_beqF, int_beq, int_bne, str_beq, str_bne, eqb_F, eqb_T, dec_F, dec_T, decT, decF, Int.reduceEq, Bool.false_eq_true, List.cons_append, decide_true, decide_false, Nat.add_zero, Nat.zero_add, List.drop_succ_cons, List.drop_zero, List.take_succ_cons, List.take_zero, Option.map_some, Option.map_none, List.getElem?_cons_zero, List.getElem?_cons_succ, eq_self, beq_self_eq_true, Bool.bne_false, Bool.bne_true, Bool.true_beq, Bool.false_beq, *, decide_true, decide_false] | skip)
    | (with_reducible refine bothW_intro ?_ ?_)
    | (with_reducible refine condW_intro (fun h => ?_) (fun h => ?_) <;> first | (exfalso; omega) | simp (disch := omega) only [go_sem, true_and, and_true, List.nil_append, ↓reduceIte, Nat.reduceEqDiff, andW_of, Int.toNat_natCast, List.length_map, List.length_cons, List.length_nil, ↓List.map_cons, ↓List.map_nil, reduceCtorEq, Option.some.injEq, not_true_eq_false, not_false_eq_true, condW_not, condW_beqT, condW_beqF, int_beq, int_bne, str_beq, str_bne, eqb_F, eqb_T, dec_F, dec_T, decT, decF, Int.reduceEq, Bool.false_eq_true, List.cons_append, decide_true, decide_false, Nat.add_zero, Nat.zero_add, List.drop_succ_cons, List.drop_zero, List.take_succ_cons, List.take_zero, Option.map_some, Option.map_none, List.getElem?_cons_zero, List.getElem?_cons_succ, eq_self, beq_self_eq_true, Bool.bne_false, Bool.bne_true, Bool.true_beq, Bool.false_beq, *, decide_true, decide_false] | skip)
theorem law25_alive_abs : PCalls Try.prog n_law25_alive [] (Go.Abs.B true) := by
  refine PCalls.of is_law25_alive (by simp) fun _ => runW_sound ?_
  have p := dual_Apply_abs (op := 6) (a := ((2, 1), (1, 1))) (b := ((3, 1), (0, 1))) ⟨frOk_in (frOk_one (by omega)), frOk_in (frOk_one (by omega))⟩ ⟨frOk_in (frOk_one (by omega)), frOk_in (frOk_one (by omega))⟩
  rw [alive_eq] at p
  simp only [c_law25_alive]
  repeat' first
    | simp (disch := omega) only [go_sem, true_and, and_true, List.nil_append, ↓reduceIte, Nat.reduceEqDiff, andW_of, Int.toNat_natCast, List.length_map, List.length_cons, List.length_nil, ↓List.map_cons, ↓List.map_nil, reduceCtorEq, Option.some.injEq, not_true_eq_false, not_false_eq_true, condW_not, condW_beqT, condW_beqF, int_beq, int_bne, str_beq, str_bne, eqb_F, eqb_T, dec_F, dec_T, decT, decF, Int.reduceEq, Bool.false_eq_true, List.cons_append, decide_true, decide_false, Nat.add_zero, Nat.zero_add, List.drop_succ_cons, List.drop_zero, List.take_succ_cons, List.take_zero, Option.map_some, Option.map_none, List.getElem?_cons_zero, List.getElem?_cons_succ, eq_self, beq_self_eq_true, Bool.bne_false, Bool.bne_true, Bool.true_beq, Bool.false_beq]
    | (with_reducible refine condD (fun h => ?_) (fun h => ?_) <;> first | (exfalso; omega) | simp (disch := omega) only [go_sem, true_and, and_true, List.nil_append, ↓reduceIte, Nat.reduceEqDiff, andW_of, Int.toNat_natCast, List.length_map, List.length_cons, List.length_nil, ↓List.map_cons, ↓List.map_nil, reduceCtorEq, Option.some.injEq, not_true_eq_false, not_false_eq_true, condW_not, condW_beqT, condW_beqF, int_beq, int_bne, str_beq, str_bne, eqb_F, eqb_T, dec_F, dec_T, decT, decF, Int.reduceEq, Bool.false_eq_true, List.cons_append, decide_true, decide_false, Nat.add_zero, Nat.zero_add, List.drop_succ_cons, List.drop_zero, List.take_succ_cons, List.take_zero, Option.map_some, Option.map_none, List.getElem?_cons_zero, List.getElem?_cons_succ, eq_self, beq_self_eq_true, Bool.bne_false, Bool.bne_true, Bool.true_beq, Bool.false_beq, *, decide_true, decide_false] | skip)
    | (with_reducible refine condX (fun h => ?_) (fun h => ?_) <;> first | (exfalso; omega) | simp (disch := omega) only [go_sem, true_and, and_true, List.nil_append, ↓reduceIte, Nat.reduceEqDiff, andW_of, Int.toNat_natCast, List.length_map, List.length_cons, List.length_nil, ↓List.map_cons, ↓List.map_nil, reduceCtorEq, Option.some.injEq, not_true_eq_false, not_false_eq_true, condW_not, condW_beqT, condW_beqF, int_beq, int_bne, str_beq, str_bne, eqb_F, eqb_T, dec_F, dec_T, decT, decF, Int.reduceEq, Bool.false_eq_true, List.cons_append, decide_true, decide_false, Nat.add_zero, Nat.zero_add, List.drop_succ_cons, List.drop_zero, List.take_succ_cons, List.take_zero, Option.map_some, Option.map_none, List.getElem?_cons_zero, List.getElem?_cons_succ, eq_self, beq_self_eq_true, Bool.bne_false, Bool.bne_true, Bool.true_beq, Bool.false_beq, *, decide_true, decide_false] | skip)
    | (with_reducible refine bothW_intro ?_ ?_)
    | (with_reducible refine condW_intro (fun h => ?_) (fun h => ?_) <;> first | (exfalso; omega) | simp (disch := omega) only [go_sem, true_and, and_true, List.nil_append, ↓reduceIte, Nat.reduceEqDiff, andW_of, Int.toNat_natCast, List.length_map, List.length_cons, List.length_nil, ↓List.map_cons, ↓List.map_nil, reduceCtorEq, Option.some.injEq, not_true_eq_false, not_false_eq_true, condW_not, condW_beqT, condW_beqF, int_beq, int_bne, str_beq, str_bne, eqb_F, eqb_T, dec_F, dec_T, decT, decF, Int.reduceEq, Bool.false_eq_true, List.cons_append, decide_true, decide_false, Nat.add_zero, Nat.zero_add, List.drop_succ_cons, List.drop_zero, List.take_succ_cons, List.take_zero, Option.map_some, Option.map_none, List.getElem?_cons_zero, List.getElem?_cons_succ, eq_self, beq_self_eq_true, Bool.bne_false, Bool.bne_true, Bool.true_beq, Bool.false_beq, *, decide_true, decide_false] | skip)
    | (refine callW_of (law25_alive_1_abs _ _) rfl (.inl rfl) ?_)
    | (refine callW_of p rfl (.inl rfl) ?_)
  all_goals simp [*]

/-- A product of a quotient and its divisor is the dividend. -/
theorem divides {a b q : Du} (h : duApply 7 a b = (q, 0)) : duApply 6 q b = (a, 0) := by
  rw [duApply] at h
  split at h
  · cases h
  · rename_i hno
    have oa : duOk a := Classical.byContradiction fun h => hno (.inr (.inr (.inl h)))
    have ob : duOk b := Classical.byContradiction fun h => hno (.inr (.inr (.inr ⟨by decide, h⟩)))
    have e1 : frApply 7 a.1 b.1 = frDiv a.1 b.1 := by simp [frApply, oa.1, ob.1]
    rw [e1] at h
    split at h
    · rename_i hne
      exact absurd (Prod.mk.inj h).2 hne
    · rename_i he
      split at h
      · rename_i hne
        exact absurd (Prod.mk.inj h).2 hne
      · rename_i ht
        have hq := (Prod.mk.inj h).1
        subst hq
        generalize hD : frDiv a.1 b.1 = D at *
        obtain ⟨q1, d2⟩ := D
        simp only [ne_eq, Classical.not_not] at he ht
        subst he
        have hb0 : b.1.1 ≠ 0 := by
          intro h0
          rw [frDiv, if_neg (by simp [oa.1, ob.1]), if_pos h0] at hD
          cases hD
        rw [frDiv, if_neg (by simp [oa.1, ob.1]), if_neg hb0] at hD
        obtain ⟨k1, k2⟩ := ofRat_rat hD
        have tb : toRat b.1 ≠ 0 := fun h => hb0 (toRat_eq_zero ob.1 h)
        -- the tangent
        simp only [duTan] at ht ⊢
        rw [if_neg (by decide), if_neg (by decide), if_neg (by decide), if_pos trivial] at ht ⊢
        generalize hX : frMul q1 b.2 = X at *
        obtain ⟨x, x2⟩ := X
        simp only [bindF] at ht ⊢
        by_cases hx2 : x2 = 0
        · subst hx2
          simp only [ne_eq, not_true_eq_false, if_false] at ht ⊢
          generalize hY : frSub a.2 x = Y at *
          obtain ⟨y, y2⟩ := Y
          by_cases hy2 : y2 = 0
          · subst hy2
            simp only [ne_eq, not_true_eq_false, if_false] at ht ⊢
            generalize hZ : frDiv y b.1 = Z at *
            obtain ⟨z, z2⟩ := Z
            simp only at ht ⊢
            subst ht
            have ok : ∀ {f : Rat → Rat → Rat} {a b v : Fr}, frBin f a b = (v, 0) → frOk a ∧ frOk b ∧ ofRat (f (toRat a) (toRat b)) = (v, 0) := by
              intro f a b v h
              rw [frBin] at h
              split at h
              · cases h
              · rename_i hn
                exact ⟨Classical.byContradiction fun h => hn (.inl h), Classical.byContradiction fun h => hn (.inr h), h⟩
            obtain ⟨_, _, mX⟩ := ok (f := (· * ·)) hX
            obtain ⟨x1, x3⟩ := ofRat_rat mX
            obtain ⟨_, _, mY⟩ := ok (f := (· - ·)) hY
            obtain ⟨y1, y3⟩ := ofRat_rat mY
            rw [frDiv, if_neg (by simp [y1, ob.1]), if_neg hb0] at hZ
            obtain ⟨z1, z3⟩ := ofRat_rat hZ
            have oq : duOk (q1, z) := ⟨k1, z1⟩
            have m1 : frMul q1 b.1 = (a.1, 0) := by
              rw [frMul, frBin, if_neg (by simp [k1, ob.1])]
              show ofRat (toRat q1 * toRat b.1) = _
              rw [k2, Rat.div_mul_cancel tb, ofRat_to oa.1]
            have m2 : frMul z b.1 = (y, 0) := by
              rw [frMul, frBin, if_neg (by simp [z1, ob.1])]
              show ofRat (toRat z * toRat b.1) = _
              rw [z3, Rat.div_mul_cancel tb, ofRat_to y1]
            have m3 : frAdd y x = (a.2, 0) := by
              rw [frAdd, frBin, if_neg (by simp [y1, x1])]
              show ofRat (toRat y + toRat x) = _
              rw [y3]
              show ofRat (toRat a.2 - toRat x + toRat x) = _
              rw [Rat.sub_add_cancel, ofRat_to oa.2]
            have e2 : frApply 6 q1 b.1 = (a.1, 0) := by rw [← m1]; simp [frApply, k1, ob.1]
            have e3 : duTan 6 (q1, z) b a.1 = (a.2, 0) := by simp [duTan, bindF, m2, hX, m3]
            simp [duApply, oq, ob, e2, e3]
          · simp [hy2] at ht
        · simp [hx2] at ht

theorem okDu {ps : List PC} (h : OkPs [.int .i64, .int .i64, .int .i64, .int .i64] ps) : ∃ a : Du, ps = dP a ∧ duIn a := by
  obtain ⟨_, _, rfl, k0, k1⟩ := okCons h
  obtain ⟨_, _, rfl, k2, k3⟩ := okCons k1
  obtain ⟨_, _, rfl, k4, k5⟩ := okCons k3
  obtain ⟨_, rfl, k6⟩ := okOne k5
  obtain ⟨a, rfl, ha⟩ := okInt k0
  obtain ⟨b, rfl, hb⟩ := okInt k2
  obtain ⟨c, rfl, hc⟩ := okInt k4
  obtain ⟨d, rfl, hd⟩ := okInt k6
  exact ⟨((a, b), (c, d)), rfl, ⟨ha, hb⟩, ⟨hc, hd⟩⟩

theorem DualApplies_abs (ps0 ps1 ps2 : List PC) (h0 : OkPs [.int .i64] ps0) (h1 : OkPs [.int .i64, .int .i64, .int .i64, .int .i64] ps1) (h2 : OkPs [.int .i64, .int .i64, .int .i64, .int .i64] ps2) :
    PCalls Try.prog 3 [argV false ps0, argV true ps1, argV true ps2] (Go.Abs.B true) := by
  obtain ⟨_, rfl, k0⟩ := okOne h0
  obtain ⟨op, rfl, _⟩ := okInt k0
  obtain ⟨a, rfl, ha⟩ := okDu h1
  obtain ⟨b, rfl, hb⟩ := okDu h2
  clear h0 h1 h2 k0
  show PCalls _ n_law25_DualApplies [I op, aDu a, aDu b] _
  refine PCalls.of is_law25_DualApplies (by simp) fun _ => runW_sound ?_
  have q0 := law25_in_abs a
  have q1 := law25_in_abs b
  have q2 := dual_Apply_abs (op := op) ha hb
  have q3 := ref25_Apply_abs (op := op) ha hb
  have q4 := law25_same_abs (duApply op a b).1 (duApply op a b).1
  rw [dec_true rfl] at q4
  simp only [c_law25_DualApplies]
  generalize duApply op a b = R at *
  repeat' first
    | simp (disch := omega) only [go_sem, true_and, and_true, List.nil_append, ↓reduceIte, Nat.reduceEqDiff, andW_of, Int.toNat_natCast, List.length_map, List.length_cons, List.length_nil, ↓List.map_cons, ↓List.map_nil, reduceCtorEq, Option.some.injEq, not_true_eq_false, not_false_eq_true, condW_not, condW_beqT, condW_beqF, int_beq, int_bne, str_beq, str_bne, eqb_F, eqb_T, dec_F, dec_T, decT, decF, Int.reduceEq, Bool.false_eq_true, List.cons_append, decide_true, decide_false, Nat.add_zero, Nat.zero_add, List.drop_succ_cons, List.drop_zero, List.take_succ_cons, List.take_zero, Option.map_some, Option.map_none, List.getElem?_cons_zero, List.getElem?_cons_succ, eq_self, beq_self_eq_true, Bool.bne_false, Bool.bne_true, Bool.true_beq, Bool.false_beq]
    | (with_reducible refine condD (fun h => ?_) (fun h => ?_) <;> first | (exfalso; omega) | simp (disch := omega) only [go_sem, true_and, and_true, List.nil_append, ↓reduceIte, Nat.reduceEqDiff, andW_of, Int.toNat_natCast, List.length_map, List.length_cons, List.length_nil, ↓List.map_cons, ↓List.map_nil, reduceCtorEq, Option.some.injEq, not_true_eq_false, not_false_eq_true, condW_not, condW_beqT, condW_beqF, int_beq, int_bne, str_beq, str_bne, eqb_F, eqb_T, dec_F, dec_T, decT, decF, Int.reduceEq, Bool.false_eq_true, List.cons_append, decide_true, decide_false, Nat.add_zero, Nat.zero_add, List.drop_succ_cons, List.drop_zero, List.take_succ_cons, List.take_zero, Option.map_some, Option.map_none, List.getElem?_cons_zero, List.getElem?_cons_succ, eq_self, beq_self_eq_true, Bool.bne_false, Bool.bne_true, Bool.true_beq, Bool.false_beq, *, decide_true, decide_false] | skip)
    | (with_reducible refine condX (fun h => ?_) (fun h => ?_) <;> first | (exfalso; omega) | simp (disch := omega) only [go_sem, true_and, and_true, List.nil_append, ↓reduceIte, Nat.reduceEqDiff, andW_of, Int.toNat_natCast, List.length_map, List.length_cons, List.length_nil, ↓List.map_cons, ↓List.map_nil, reduceCtorEq, Option.some.injEq, not_true_eq_false, not_false_eq_true, condW_not, condW_beqT, condW_beqF, int_beq, int_bne, str_beq, str_bne, eqb_F, eqb_T, dec_F, dec_T, decT, decF, Int.reduceEq, Bool.false_eq_true, List.cons_append, decide_true, decide_false, Nat.add_zero, Nat.zero_add, List.drop_succ_cons, List.drop_zero, List.take_succ_cons, List.take_zero, Option.map_some, Option.map_none, List.getElem?_cons_zero, List.getElem?_cons_succ, eq_self, beq_self_eq_true, Bool.bne_false, Bool.bne_true, Bool.true_beq, Bool.false_beq, *, decide_true, decide_false] | skip)
    | (with_reducible refine bothW_intro ?_ ?_)
    | (with_reducible refine condW_intro (fun h => ?_) (fun h => ?_) <;> first | (exfalso; omega) | simp (disch := omega) only [go_sem, true_and, and_true, List.nil_append, ↓reduceIte, Nat.reduceEqDiff, andW_of, Int.toNat_natCast, List.length_map, List.length_cons, List.length_nil, ↓List.map_cons, ↓List.map_nil, reduceCtorEq, Option.some.injEq, not_true_eq_false, not_false_eq_true, condW_not, condW_beqT, condW_beqF, int_beq, int_bne, str_beq, str_bne, eqb_F, eqb_T, dec_F, dec_T, decT, decF, Int.reduceEq, Bool.false_eq_true, List.cons_append, decide_true, decide_false, Nat.add_zero, Nat.zero_add, List.drop_succ_cons, List.drop_zero, List.take_succ_cons, List.take_zero, Option.map_some, Option.map_none, List.getElem?_cons_zero, List.getElem?_cons_succ, eq_self, beq_self_eq_true, Bool.bne_false, Bool.bne_true, Bool.true_beq, Bool.false_beq, *, decide_true, decide_false] | skip)
    | (refine callW_of q0 rfl (.inl rfl) ?_)
    | (refine callW_of q1 rfl (.inl rfl) ?_)
    | (refine callW_of q2 rfl (.inl rfl) ?_)
    | (refine callW_of q3 rfl (.inl rfl) ?_)
    | (refine callW_of q4 rfl (.inl rfl) ?_)
    | (refine callW_of law25_alive_abs rfl (.inl rfl) ?_)

theorem DualDivides_abs (ps1 ps2 : List PC) (h1 : OkPs [.int .i64, .int .i64, .int .i64, .int .i64] ps1) (h2 : OkPs [.int .i64, .int .i64, .int .i64, .int .i64] ps2) :
    PCalls Try.prog 4 [argV true ps1, argV true ps2] (Go.Abs.B true) := by
  obtain ⟨a, rfl, ha⟩ := okDu h1
  obtain ⟨b, rfl, hb⟩ := okDu h2
  clear h1 h2
  show PCalls _ n_law25_DualDivides [aDu a, aDu b] _
  refine PCalls.of is_law25_DualDivides (by simp) fun _ => runW_sound ?_
  have q0 := law25_in_abs a
  have q1 := law25_in_abs b
  have q2 := dual_Apply_abs (op := 7) ha hb
  have q3 := ref25_Apply_abs (op := 7) ha hb
  have hin := duApply_in 7 ha hb
  have hdiv := @divides a b
  generalize duApply 7 a b = R at *
  obtain ⟨q, e⟩ := R
  have q4 := dual_Apply_abs (op := 6) hin hb
  have q5 := law25_same_abs a a
  rw [dec_true rfl] at q5
  simp only [c_law25_DualDivides]
  by_cases h0 : e = 0
  · subst h0
    rw [hdiv rfl] at q4
    clear hdiv
    repeat' first
      | simp (disch := omega) only [go_sem, true_and, and_true, List.nil_append, ↓reduceIte, Nat.reduceEqDiff, andW_of, Int.toNat_natCast, List.length_map, List.length_cons, List.length_nil, ↓List.map_cons, ↓List.map_nil, reduceCtorEq, Option.some.injEq, not_true_eq_false, not_false_eq_true, condW_not, condW_beqT, condW_beqF, int_beq, int_bne, str_beq, str_bne, eqb_F, eqb_T, dec_F, dec_T, decT, decF, Int.reduceEq, Bool.false_eq_true, List.cons_append, decide_true, decide_false, Nat.add_zero, Nat.zero_add, List.drop_succ_cons, List.drop_zero, List.take_succ_cons, List.take_zero, Option.map_some, Option.map_none, List.getElem?_cons_zero, List.getElem?_cons_succ, eq_self, beq_self_eq_true, Bool.bne_false, Bool.bne_true, Bool.true_beq, Bool.false_beq]
      | (with_reducible refine condD (fun h => ?_) (fun h => ?_) <;> first | (exfalso; omega) | simp (disch := omega) only [go_sem, true_and, and_true, List.nil_append, ↓reduceIte, Nat.reduceEqDiff, andW_of, Int.toNat_natCast, List.length_map, List.length_cons, List.length_nil, ↓List.map_cons, ↓List.map_nil, reduceCtorEq, Option.some.injEq, not_true_eq_false, not_false_eq_true, condW_not, condW_beqT, condW_beqF, int_beq, int_bne, str_beq, str_bne, eqb_F, eqb_T, dec_F, dec_T, decT, decF, Int.reduceEq, Bool.false_eq_true, List.cons_append, decide_true, decide_false, Nat.add_zero, Nat.zero_add, List.drop_succ_cons, List.drop_zero, List.take_succ_cons, List.take_zero, Option.map_some, Option.map_none, List.getElem?_cons_zero, List.getElem?_cons_succ, eq_self, beq_self_eq_true, Bool.bne_false, Bool.bne_true, Bool.true_beq, Bool.false_beq, *, decide_true, decide_false] | skip)
      | (with_reducible refine condX (fun h => ?_) (fun h => ?_) <;> first | (exfalso; omega) | simp (disch := omega) only [go_sem, true_and, and_true, List.nil_append, ↓reduceIte, Nat.reduceEqDiff, andW_of, Int.toNat_natCast, List.length_map, List.length_cons, List.length_nil, ↓List.map_cons, ↓List.map_nil, reduceCtorEq, Option.some.injEq, not_true_eq_false, not_false_eq_true, condW_not, condW_beqT, condW_beqF, int_beq, int_bne, str_beq, str_bne, eqb_F, eqb_T, dec_F, dec_T, decT, decF, Int.reduceEq, Bool.false_eq_true, List.cons_append, decide_true, decide_false, Nat.add_zero, Nat.zero_add, List.drop_succ_cons, List.drop_zero, List.take_succ_cons, List.take_zero, Option.map_some, Option.map_none, List.getElem?_cons_zero, List.getElem?_cons_succ, eq_self, beq_self_eq_true, Bool.bne_false, Bool.bne_true, Bool.true_beq, Bool.false_beq, *, decide_true, decide_false] | skip)
      | (with_reducible refine bothW_intro ?_ ?_)
      | (with_reducible refine condW_intro (fun h => ?_) (fun h => ?_) <;> first | (exfalso; omega) | simp (disch := omega) only [go_sem, true_and, and_true, List.nil_append, ↓reduceIte, Nat.reduceEqDiff, andW_of, Int.toNat_natCast, List.length_map, List.length_cons, List.length_nil, ↓List.map_cons, ↓List.map_nil, reduceCtorEq, Option.some.injEq, not_true_eq_false, not_false_eq_true, condW_not, condW_beqT, condW_beqF, int_beq, int_bne, str_beq, str_bne, eqb_F, eqb_T, dec_F, dec_T, decT, decF, Int.reduceEq, Bool.false_eq_true, List.cons_append, decide_true, decide_false, Nat.add_zero, Nat.zero_add, List.drop_succ_cons, List.drop_zero, List.take_succ_cons, List.take_zero, Option.map_some, Option.map_none, List.getElem?_cons_zero, List.getElem?_cons_succ, eq_self, beq_self_eq_true, Bool.bne_false, Bool.bne_true, Bool.true_beq, Bool.false_beq, *, decide_true, decide_false] | skip)
      | (refine callW_of q0 rfl (.inl rfl) ?_)
      | (refine callW_of q1 rfl (.inl rfl) ?_)
      | (refine callW_of q2 rfl (.inl rfl) ?_)
      | (refine callW_of q4 rfl (.inl rfl) ?_)
      | (refine callW_of q5 rfl (.inl rfl) ?_)
      | (refine callW_of law25_alive_abs rfl (.inl rfl) ?_)
  · clear hdiv q4
    repeat' first
      | simp (disch := omega) only [go_sem, true_and, and_true, List.nil_append, ↓reduceIte, Nat.reduceEqDiff, andW_of, Int.toNat_natCast, List.length_map, List.length_cons, List.length_nil, ↓List.map_cons, ↓List.map_nil, reduceCtorEq, Option.some.injEq, not_true_eq_false, not_false_eq_true, condW_not, condW_beqT, condW_beqF, int_beq, int_bne, str_beq, str_bne, eqb_F, eqb_T, dec_F, dec_T, decT, decF, Int.reduceEq, Bool.false_eq_true, List.cons_append, decide_true, decide_false, Nat.add_zero, Nat.zero_add, List.drop_succ_cons, List.drop_zero, List.take_succ_cons, List.take_zero, Option.map_some, Option.map_none, List.getElem?_cons_zero, List.getElem?_cons_succ, eq_self, beq_self_eq_true, Bool.bne_false, Bool.bne_true, Bool.true_beq, Bool.false_beq, h0]
      | (with_reducible refine condD (fun h => ?_) (fun h => ?_) <;> first | (exfalso; omega) | simp (disch := omega) only [go_sem, true_and, and_true, List.nil_append, ↓reduceIte, Nat.reduceEqDiff, andW_of, Int.toNat_natCast, List.length_map, List.length_cons, List.length_nil, ↓List.map_cons, ↓List.map_nil, reduceCtorEq, Option.some.injEq, not_true_eq_false, not_false_eq_true, condW_not, condW_beqT, condW_beqF, int_beq, int_bne, str_beq, str_bne, eqb_F, eqb_T, dec_F, dec_T, decT, decF, Int.reduceEq, Bool.false_eq_true, List.cons_append, decide_true, decide_false, Nat.add_zero, Nat.zero_add, List.drop_succ_cons, List.drop_zero, List.take_succ_cons, List.take_zero, Option.map_some, Option.map_none, List.getElem?_cons_zero, List.getElem?_cons_succ, eq_self, beq_self_eq_true, Bool.bne_false, Bool.bne_true, Bool.true_beq, Bool.false_beq, *, decide_true, decide_false, h0] | skip)
      | (with_reducible refine condX (fun h => ?_) (fun h => ?_) <;> first | (exfalso; omega) | simp (disch := omega) only [go_sem, true_and, and_true, List.nil_append, ↓reduceIte, Nat.reduceEqDiff, andW_of, Int.toNat_natCast, List.length_map, List.length_cons, List.length_nil, ↓List.map_cons, ↓List.map_nil, reduceCtorEq, Option.some.injEq, not_true_eq_false, not_false_eq_true, condW_not, condW_beqT, condW_beqF, int_beq, int_bne, str_beq, str_bne, eqb_F, eqb_T, dec_F, dec_T, decT, decF, Int.reduceEq, Bool.false_eq_true, List.cons_append, decide_true, decide_false, Nat.add_zero, Nat.zero_add, List.drop_succ_cons, List.drop_zero, List.take_succ_cons, List.take_zero, Option.map_some, Option.map_none, List.getElem?_cons_zero, List.getElem?_cons_succ, eq_self, beq_self_eq_true, Bool.bne_false, Bool.bne_true, Bool.true_beq, Bool.false_beq, *, decide_true, decide_false, h0] | skip)
      | (with_reducible refine bothW_intro ?_ ?_)
      | (with_reducible refine condW_intro (fun h => ?_) (fun h => ?_) <;> first | (exfalso; omega) | simp (disch := omega) only [go_sem, true_and, and_true, List.nil_append, ↓reduceIte, Nat.reduceEqDiff, andW_of, Int.toNat_natCast, List.length_map, List.length_cons, List.length_nil, ↓List.map_cons, ↓List.map_nil, reduceCtorEq, Option.some.injEq, not_true_eq_false, not_false_eq_true, condW_not, condW_beqT, condW_beqF, int_beq, int_bne, str_beq, str_bne, eqb_F, eqb_T, dec_F, dec_T, decT, decF, Int.reduceEq, Bool.false_eq_true, List.cons_append, decide_true, decide_false, Nat.add_zero, Nat.zero_add, List.drop_succ_cons, List.drop_zero, List.take_succ_cons, List.take_zero, Option.map_some, Option.map_none, List.getElem?_cons_zero, List.getElem?_cons_succ, eq_self, beq_self_eq_true, Bool.bne_false, Bool.bne_true, Bool.true_beq, Bool.false_beq, *, decide_true, decide_false, h0] | skip)
      | (refine callW_of q0 rfl (.inl rfl) ?_)
      | (refine callW_of q1 rfl (.inl rfl) ?_)
      | (refine callW_of q2 rfl (.inl rfl) ?_)
      | (refine callW_of q3 rfl (.inl rfl) ?_)
      | (refine callW_of law25_alive_abs rfl (.inl rfl) ?_)

theorem DualReduces_abs (ps0 ps1 : List PC) (h0 : OkPs [.int .i64] ps0) (h1 : OkPs [.slice [.int .i64, .int .i64, .int .i64, .int .i64]] ps1) :
    PCalls Try.prog 5 [argV false ps0, argV false ps1] (Go.Abs.B true) := by
  obtain ⟨_, rfl, k0⟩ := okOne h0
  obtain ⟨fold, rfl, _⟩ := okInt k0
  obtain ⟨_, rfl, k1⟩ := okOne h1
  obtain ⟨l, rfl, hl, _⟩ := okRows dP duIn (fun r hr => okDu hr) k1
  clear h0 h1 k0 k1
  show PCalls _ n_law25_DualReduces [I fold, aSl dP l] _
  refine PCalls.of is_law25_DualReduces (by simp) fun _ => runW_sound ?_
  have q2 := dual_Reduce_abs (fold := fold) hl
  have q3 := ref25_Reduce_abs (fold := fold) hl
  have q4 := law25_same_abs (duReduce fold l).1 (duReduce fold l).1
  rw [dec_true rfl] at q4
  generalize duReduce fold l = R at *
  simp only [c_law25_DualReduces]
  by_cases hbig : (l.length : Int) > 60
  · repeat' first
      | simp (disch := omega) only [go_sem, true_and, and_true, List.nil_append, ↓reduceIte, Nat.reduceEqDiff, andW_of, Int.toNat_natCast, List.length_map, List.length_cons, List.length_nil, ↓List.map_cons, ↓List.map_nil, reduceCtorEq, Option.some.injEq, not_true_eq_false, not_false_eq_true, condW_not, condW_beqT, condW_beqF, int_beq, int_bne, str_beq, str_bne, eqb_F, eqb_T, dec_F, dec_T, decT, decF, Int.reduceEq, Bool.false_eq_true, List.cons_append, decide_true, decide_false, Nat.add_zero, Nat.zero_add, List.drop_succ_cons, List.drop_zero, List.take_succ_cons, List.take_zero, Option.map_some, Option.map_none, List.getElem?_cons_zero, List.getElem?_cons_succ, eq_self, beq_self_eq_true, Bool.bne_false, Bool.bne_true, Bool.true_beq, Bool.false_beq]
      | (with_reducible refine condD (fun h => ?_) (fun h => ?_) <;> first | (exfalso; omega) | simp (disch := omega) only [go_sem, true_and, and_true, List.nil_append, ↓reduceIte, Nat.reduceEqDiff, andW_of, Int.toNat_natCast, List.length_map, List.length_cons, List.length_nil, ↓List.map_cons, ↓List.map_nil, reduceCtorEq, Option.some.injEq, not_true_eq_false, not_false_eq_true, condW_not, condW_beqT, condW_beqF, int_beq, int_bne, str_beq, str_bne, eqb_F, eqb_T, dec_F, dec_T, decT, decF, Int.reduceEq, Bool.false_eq_true, List.cons_append, decide_true, decide_false, Nat.add_zero, Nat.zero_add, List.drop_succ_cons, List.drop_zero, List.take_succ_cons, List.take_zero, Option.map_some, Option.map_none, List.getElem?_cons_zero, List.getElem?_cons_succ, eq_self, beq_self_eq_true, Bool.bne_false, Bool.bne_true, Bool.true_beq, Bool.false_beq, *, decide_true, decide_false] | skip)
      | (with_reducible refine condX (fun h => ?_) (fun h => ?_) <;> first | (exfalso; omega) | simp (disch := omega) only [go_sem, true_and, and_true, List.nil_append, ↓reduceIte, Nat.reduceEqDiff, andW_of, Int.toNat_natCast, List.length_map, List.length_cons, List.length_nil, ↓List.map_cons, ↓List.map_nil, reduceCtorEq, Option.some.injEq, not_true_eq_false, not_false_eq_true, condW_not, condW_beqT, condW_beqF, int_beq, int_bne, str_beq, str_bne, eqb_F, eqb_T, dec_F, dec_T, decT, decF, Int.reduceEq, Bool.false_eq_true, List.cons_append, decide_true, decide_false, Nat.add_zero, Nat.zero_add, List.drop_succ_cons, List.drop_zero, List.take_succ_cons, List.take_zero, Option.map_some, Option.map_none, List.getElem?_cons_zero, List.getElem?_cons_succ, eq_self, beq_self_eq_true, Bool.bne_false, Bool.bne_true, Bool.true_beq, Bool.false_beq, *, decide_true, decide_false] | skip)
      | (with_reducible refine bothW_intro ?_ ?_)
      | (with_reducible refine condW_intro (fun h => ?_) (fun h => ?_) <;> first | (exfalso; omega) | simp (disch := omega) only [go_sem, true_and, and_true, List.nil_append, ↓reduceIte, Nat.reduceEqDiff, andW_of, Int.toNat_natCast, List.length_map, List.length_cons, List.length_nil, ↓List.map_cons, ↓List.map_nil, reduceCtorEq, Option.some.injEq, not_true_eq_false, not_false_eq_true, condW_not, condW_beqT, condW_beqF, int_beq, int_bne, str_beq, str_bne, eqb_F, eqb_T, dec_F, dec_T, decT, decF, Int.reduceEq, Bool.false_eq_true, List.cons_append, decide_true, decide_false, Nat.add_zero, Nat.zero_add, List.drop_succ_cons, List.drop_zero, List.take_succ_cons, List.take_zero, Option.map_some, Option.map_none, List.getElem?_cons_zero, List.getElem?_cons_succ, eq_self, beq_self_eq_true, Bool.bne_false, Bool.bne_true, Bool.true_beq, Bool.false_beq, *, decide_true, decide_false] | skip)
      | (refine callW_of law25_alive_abs rfl (.inl rfl) ?_)
  · repeat' first
      | simp (disch := omega) only [go_sem, true_and, and_true, List.nil_append, ↓reduceIte, Nat.reduceEqDiff, andW_of, Int.toNat_natCast, List.length_map, List.length_cons, List.length_nil, ↓List.map_cons, ↓List.map_nil, reduceCtorEq, Option.some.injEq, not_true_eq_false, not_false_eq_true, condW_not, condW_beqT, condW_beqF, int_beq, int_bne, str_beq, str_bne, eqb_F, eqb_T, dec_F, dec_T, decT, decF, Int.reduceEq, Bool.false_eq_true, List.cons_append, decide_true, decide_false, Nat.add_zero, Nat.zero_add, List.drop_succ_cons, List.drop_zero, List.take_succ_cons, List.take_zero, Option.map_some, Option.map_none, List.getElem?_cons_zero, List.getElem?_cons_succ, eq_self, beq_self_eq_true, Bool.bne_false, Bool.bne_true, Bool.true_beq, Bool.false_beq]
      | (with_reducible refine condD (fun h => ?_) (fun h => ?_) <;> first | (exfalso; omega) | simp (disch := omega) only [go_sem, true_and, and_true, List.nil_append, ↓reduceIte, Nat.reduceEqDiff, andW_of, Int.toNat_natCast, List.length_map, List.length_cons, List.length_nil, ↓List.map_cons, ↓List.map_nil, reduceCtorEq, Option.some.injEq, not_true_eq_false, not_false_eq_true, condW_not, condW_beqT, condW_beqF, int_beq, int_bne, str_beq, str_bne, eqb_F, eqb_T, dec_F, dec_T, decT, decF, Int.reduceEq, Bool.false_eq_true, List.cons_append, decide_true, decide_false, Nat.add_zero, Nat.zero_add, List.drop_succ_cons, List.drop_zero, List.take_succ_cons, List.take_zero, Option.map_some, Option.map_none, List.getElem?_cons_zero, List.getElem?_cons_succ, eq_self, beq_self_eq_true, Bool.bne_false, Bool.bne_true, Bool.true_beq, Bool.false_beq, *, decide_true, decide_false] | skip)
      | (with_reducible refine condX (fun h => ?_) (fun h => ?_) <;> first | (exfalso; omega) | simp (disch := omega) only [go_sem, true_and, and_true, List.nil_append, ↓reduceIte, Nat.reduceEqDiff, andW_of, Int.toNat_natCast, List.length_map, List.length_cons, List.length_nil, ↓List.map_cons, ↓List.map_nil, reduceCtorEq, Option.some.injEq, not_true_eq_false, not_false_eq_true, condW_not, condW_beqT, condW_beqF, int_beq, int_bne, str_beq, str_bne, eqb_F, eqb_T, dec_F, dec_T, decT, decF, Int.reduceEq, Bool.false_eq_true, List.cons_append, decide_true, decide_false, Nat.add_zero, Nat.zero_add, List.drop_succ_cons, List.drop_zero, List.take_succ_cons, List.take_zero, Option.map_some, Option.map_none, List.getElem?_cons_zero, List.getElem?_cons_succ, eq_self, beq_self_eq_true, Bool.bne_false, Bool.bne_true, Bool.true_beq, Bool.false_beq, *, decide_true, decide_false] | skip)
      | (with_reducible refine bothW_intro ?_ ?_)
      | (with_reducible refine condW_intro (fun h => ?_) (fun h => ?_) <;> first | (exfalso; omega) | simp (disch := omega) only [go_sem, true_and, and_true, List.nil_append, ↓reduceIte, Nat.reduceEqDiff, andW_of, Int.toNat_natCast, List.length_map, List.length_cons, List.length_nil, ↓List.map_cons, ↓List.map_nil, reduceCtorEq, Option.some.injEq, not_true_eq_false, not_false_eq_true, condW_not, condW_beqT, condW_beqF, int_beq, int_bne, str_beq, str_bne, eqb_F, eqb_T, dec_F, dec_T, decT, decF, Int.reduceEq, Bool.false_eq_true, List.cons_append, decide_true, decide_false, Nat.add_zero, Nat.zero_add, List.drop_succ_cons, List.drop_zero, List.take_succ_cons, List.take_zero, Option.map_some, Option.map_none, List.getElem?_cons_zero, List.getElem?_cons_succ, eq_self, beq_self_eq_true, Bool.bne_false, Bool.bne_true, Bool.true_beq, Bool.false_beq, *, decide_true, decide_false] | skip)
    refine AW_adopt 5 26 4 rfl (by decide) ?_
    refine AW_loop (fun k : Nat => ⟨[(0, I fold), (1, aSl dP l), (5, .c (.ref 0)), (6, I k)], [(0, .arr 26 4 ((l.take k).map dP))], 1, 0⟩) (fun k => k ≤ l.length) (fun k => l.length - k) ⟨0, [], Nat.zero_le _, by simp [Wk, wkF, wkM, wkL, look_cons, renV, renA, renC, renB, rn, clV, clA, clAs, clB, notIn, findB, findB_setB, clA.go]⟩ ?_
    intro k hk
    refine runW_sound ?_
    by_cases hlt : k < l.length
    · repeat' first
        | simp (disch := omega) only [go_sem, true_and, and_true, List.nil_append, ↓reduceIte, Nat.reduceEqDiff, andW_of, Int.toNat_natCast, List.length_map, List.length_cons, List.length_nil, ↓List.map_cons, ↓List.map_nil, reduceCtorEq, Option.some.injEq, not_true_eq_false, not_false_eq_true, condW_not, condW_beqT, condW_beqF, int_beq, int_bne, str_beq, str_bne, eqb_F, eqb_T, dec_F, dec_T, decT, decF, Int.reduceEq, Bool.false_eq_true, List.cons_append, decide_true, decide_false, Nat.add_zero, Nat.zero_add, List.drop_succ_cons, List.drop_zero, List.take_succ_cons, List.take_zero, Option.map_some, Option.map_none, List.getElem?_cons_zero, List.getElem?_cons_succ, eq_self, beq_self_eq_true, Bool.bne_false, Bool.bne_true, Bool.true_beq, Bool.false_beq, map_get hlt, wrap_i64]
        | (with_reducible refine condD (fun h => ?_) (fun h => ?_) <;> first | (exfalso; omega) | simp (disch := omega) only [go_sem, true_and, and_true, List.nil_append, ↓reduceIte, Nat.reduceEqDiff, andW_of, Int.toNat_natCast, List.length_map, List.length_cons, List.length_nil, ↓List.map_cons, ↓List.map_nil, reduceCtorEq, Option.some.injEq, not_true_eq_false, not_false_eq_true, condW_not, condW_beqT, condW_beqF, int_beq, int_bne, str_beq, str_bne, eqb_F, eqb_T, dec_F, dec_T, decT, decF, Int.reduceEq, Bool.false_eq_true, List.cons_append, decide_true, decide_false, Nat.add_zero, Nat.zero_add, List.drop_succ_cons, List.drop_zero, List.take_succ_cons, List.take_zero, Option.map_some, Option.map_none, List.getElem?_cons_zero, List.getElem?_cons_succ, eq_self, beq_self_eq_true, Bool.bne_false, Bool.bne_true, Bool.true_beq, Bool.false_beq, *, decide_true, decide_false, map_get hlt, wrap_i64] | skip)
        | (with_reducible refine condX (fun h => ?_) (fun h => ?_) <;> first | (exfalso; omega) | simp (disch := omega) only [go_sem, true_and, and_true, List.nil_append, ↓reduceIte, Nat.reduceEqDiff, andW_of, Int.toNat_natCast, List.length_map, List.length_cons, List.length_nil, ↓List.map_cons, ↓List.map_nil, reduceCtorEq, Option.some.injEq, not_true_eq_false, not_false_eq_true, condW_not, condW_beqT, condW_beqF, int_beq, int_bne, str_beq, str_bne, eqb_F, eqb_T, dec_F, dec_T, decT, decF, Int.reduceEq, Bool.false_eq_true, List.cons_append, decide_true, decide_false, Nat.add_zero, Nat.zero_add, List.drop_succ_cons, List.drop_zero, List.take_succ_cons, List.take_zero, Option.map_some, Option.map_none, List.getElem?_cons_zero, List.getElem?_cons_succ, eq_self, beq_self_eq_true, Bool.bne_false, Bool.bne_true, Bool.true_beq, Bool.false_beq, *, decide_true, decide_false, map_get hlt, wrap_i64] | skip)
        | (with_reducible refine bothW_intro ?_ ?_)
        | (with_reducible refine condW_intro (fun h => ?_) (fun h => ?_) <;> first | (exfalso; omega) | simp (disch := omega) only [go_sem, true_and, and_true, List.nil_append, ↓reduceIte, Nat.reduceEqDiff, andW_of, Int.toNat_natCast, List.length_map, List.length_cons, List.length_nil, ↓List.map_cons, ↓List.map_nil, reduceCtorEq, Option.some.injEq, not_true_eq_false, not_false_eq_true, condW_not, condW_beqT, condW_beqF, int_beq, int_bne, str_beq, str_bne, eqb_F, eqb_T, dec_F, dec_T, decT, decF, Int.reduceEq, Bool.false_eq_true, List.cons_append, decide_true, decide_false, Nat.add_zero, Nat.zero_add, List.drop_succ_cons, List.drop_zero, List.take_succ_cons, List.take_zero, Option.map_some, Option.map_none, List.getElem?_cons_zero, List.getElem?_cons_succ, eq_self, beq_self_eq_true, Bool.bne_false, Bool.bne_true, Bool.true_beq, Bool.false_beq, *, decide_true, decide_false, map_get hlt, wrap_i64] | skip)
        | (refine callW_of (law25_in_abs l[k]) rfl (.inl rfl) ?_)
        | (refine app_own rfl (by intro h; cases h) (rowsOk_one rfl) (by simp; omega) (by simp; omega) ?_)
      refine ⟨k + 1, [(0, 1)], hlt, by omega, ?_⟩
      have e : (l.take (k + 1)).map dP = (l.take k).map dP ++ [dP l[k]] := by rw [List.take_succ_eq_append_getElem hlt, List.map_append]; rfl
      simp [Wk, wkF, wkM, wkL, look_cons, renV, renA, renC, renB, rn, clV, clA, clAs, clB, notIn, findB, findB_setB, clA.go, e]
    · have e : (l.take k).map dP = l.map dP := by rw [List.take_of_length_le (by omega)]
      repeat' first
        | simp (disch := omega) only [go_sem, true_and, and_true, List.nil_append, ↓reduceIte, Nat.reduceEqDiff, andW_of, Int.toNat_natCast, List.length_map, List.length_cons, List.length_nil, ↓List.map_cons, ↓List.map_nil, reduceCtorEq, Option.some.injEq, not_true_eq_false, not_false_eq_true, condW_not, condW_beqT, condW_beqF, int_beq, int_bne, str_beq, str_bne, eqb_F, eqb_T, dec_F, dec_T, decT, decF, Int.reduceEq, Bool.false_eq_true, List.cons_append, decide_true, decide_false, Nat.add_zero, Nat.zero_add, List.drop_succ_cons, List.drop_zero, List.take_succ_cons, List.take_zero, Option.map_some, Option.map_none, List.getElem?_cons_zero, List.getElem?_cons_succ, eq_self, beq_self_eq_true, Bool.bne_false, Bool.bne_true, Bool.true_beq, Bool.false_beq, e]
        | (with_reducible refine condD (fun h => ?_) (fun h => ?_) <;> first | (exfalso; omega) | simp (disch := omega) only [go_sem, true_and, and_true, List.nil_append, ↓reduceIte, Nat.reduceEqDiff, andW_of, Int.toNat_natCast, List.length_map, List.length_cons, List.length_nil, ↓List.map_cons, ↓List.map_nil, reduceCtorEq, Option.some.injEq, not_true_eq_false, not_false_eq_true, condW_not, condW_beqT, condW_beqF, int_beq, int_bne, str_beq, str_bne, eqb_F, eqb_T, dec_F, dec_T, decT, decF, Int.reduceEq, Bool.false_eq_true, List.cons_append, decide_true, decide_false, Nat.add_zero, Nat.zero_add, List.drop_succ_cons, List.drop_zero, List.take_succ_cons, List.take_zero, Option.map_some, Option.map_none, List.getElem?_cons_zero, List.getElem?_cons_succ, eq_self, beq_self_eq_true, Bool.bne_false, Bool.bne_true, Bool.true_beq, Bool.false_beq, *, decide_true, decide_false, e] | skip)
        | (with_reducible refine condX (fun h => ?_) (fun h => ?_) <;> first | (exfalso; omega) | simp (disch := omega) only [go_sem, true_and, and_true, List.nil_append, ↓reduceIte, Nat.reduceEqDiff, andW_of, Int.toNat_natCast, List.length_map, List.length_cons, List.length_nil, ↓List.map_cons, ↓List.map_nil, reduceCtorEq, Option.some.injEq, not_true_eq_false, not_false_eq_true, condW_not, condW_beqT, condW_beqF, int_beq, int_bne, str_beq, str_bne, eqb_F, eqb_T, dec_F, dec_T, decT, decF, Int.reduceEq, Bool.false_eq_true, List.cons_append, decide_true, decide_false, Nat.add_zero, Nat.zero_add, List.drop_succ_cons, List.drop_zero, List.take_succ_cons, List.take_zero, Option.map_some, Option.map_none, List.getElem?_cons_zero, List.getElem?_cons_succ, eq_self, beq_self_eq_true, Bool.bne_false, Bool.bne_true, Bool.true_beq, Bool.false_beq, *, decide_true, decide_false, e] | skip)
        | (with_reducible refine bothW_intro ?_ ?_)
        | (with_reducible refine condW_intro (fun h => ?_) (fun h => ?_) <;> first | (exfalso; omega) | simp (disch := omega) only [go_sem, true_and, and_true, List.nil_append, ↓reduceIte, Nat.reduceEqDiff, andW_of, Int.toNat_natCast, List.length_map, List.length_cons, List.length_nil, ↓List.map_cons, ↓List.map_nil, reduceCtorEq, Option.some.injEq, not_true_eq_false, not_false_eq_true, condW_not, condW_beqT, condW_beqF, int_beq, int_bne, str_beq, str_bne, eqb_F, eqb_T, dec_F, dec_T, decT, decF, Int.reduceEq, Bool.false_eq_true, List.cons_append, decide_true, decide_false, Nat.add_zero, Nat.zero_add, List.drop_succ_cons, List.drop_zero, List.take_succ_cons, List.take_zero, Option.map_some, Option.map_none, List.getElem?_cons_zero, List.getElem?_cons_succ, eq_self, beq_self_eq_true, Bool.bne_false, Bool.bne_true, Bool.true_beq, Bool.false_beq, *, decide_true, decide_false, e] | skip)
        | (refine callW_of q2 rfl (.inr rfl) ?_)
        | (refine callW_of q2 rfl (.inl rfl) ?_)
        | (refine callW_of q3 rfl (.inl rfl) ?_)
        | (refine callW_of q4 rfl (.inl rfl) ?_)
        | (refine callW_of law25_alive_abs rfl (.inl rfl) ?_)
end Go.Proofs.Ytjkaimaoihmgoaa
