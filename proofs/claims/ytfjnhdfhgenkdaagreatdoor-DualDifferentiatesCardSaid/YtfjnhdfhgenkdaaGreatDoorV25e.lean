/- Walks by the abstract machine: values of the type of fractions. Walks by the abstract machine: dual numbers. Walks by the abstract machine: tangents. Walks by the abstract machine: operators on dual numbers. Walks by the abstract machine: folds of dual numbers. The laws of layer 25 on operators and folds, as contracts of the abstract machine. -/
import Derived.Test.YtfjnhdfhgenkdaaGreatDoorV01b
import Derived.Test.YtfjnhdfhgenkdaaGreatDoorIn0
set_option linter.unusedVariables false
set_option linter.unusedSimpArgs false
set_option maxRecDepth 20000
namespace Go.Proofs.YtfjnhdfhgenkdaaGreatDoor
open Go.Abs Go.RowKit

/-- An operator at fractions. -/
noncomputable def frApply (op : Int) (a b : Fr) : Fr × Int :=
 if op < 4 ∨ op > 10 then ((0, 0), 1) else if ¬ frOk a ∨ op ≠ 8 ∧ ¬ frOk b then ((0, 0), 1) else
 if op = 4 then frAdd a b else if op = 5 then frSub a b else if op = 6 then frMul a b else if op = 7 then frDiv a b else if op = 8 then (frNeg a, 0) else
 if (op = 9 ∧ frCmp a b > 0) ∨ (op = 10 ∧ frCmp a b < 0) then (b, 0) else (a, 0)

theorem value_plain_abs : PCalls Tryz.prog n_value_plain [aFrac] (Go.Abs.B true) := by
 refine PCalls.of is_value_plain (by simp) fun _ => runW_sound ?_
 simp only [c_value_plain]
 repeat' first | simp (disch := omega) only [go_sem] | ((with_reducible first | refine condD ?_ ?_ | refine condX ?_ ?_ | refine condW_intro ?_ ?_) <;> intro h <;> first | (exfalso; omega) | simp (disch := omega) only [go_sem, *] | skip)
theorem value_ValidateType_abs : PCalls Tryz.prog n_value_ValidateType [aFrac] (I 0) := by
 refine PCalls.of is_value_ValidateType (by simp) fun _ => runW_sound ?_
 simp only [c_value_ValidateType]
 repeat' first | simp (disch := omega) only [go_sem] | ((with_reducible first | refine condD ?_ ?_ | refine condX ?_ ?_ | refine condW_intro ?_ ?_) <;> intro h <;> first | (exfalso; omega) | simp (disch := omega) only [go_sem, *] | skip) | (refine callW_of value_plain_abs rfl (.inl rfl) ?_)
theorem value_Valid_abs {a : Fr} (ha : frIn a) : PCalls Tryz.prog n_value_Valid [aFrac, aFr a] (Go.Abs.B (decide (frOk a))) := by
 refine PCalls.of is_value_Valid (by simp) fun _ => runW_sound ?_
 simp only [c_value_Valid]
 repeat' first | simp (disch := omega) only [go_sem] | ((with_reducible first | refine condD ?_ ?_ | refine condX ?_ ?_ | refine condW_intro ?_ ?_) <;> intro h <;> first | (exfalso; omega) | simp (disch := omega) only [go_sem, *] | skip) | (refine callW_of value_ValidateType_abs rfl (.inl rfl) ?_) | (refine callW_of (frac_Valid_abs ha) rfl (.inl rfl) ?_)
theorem value_negate_abs {a : Fr} (ha : frOk a) : PCalls Tryz.prog n_value_negate [aFrac, aFr a] (aFrE (frNeg a, 0)) := by
 refine PCalls.of is_value_negate (by simp) fun _ => runW_sound ?_
 rw [frNeg, if_pos ha]
 obtain ⟨o1, o2, o3, o4, _⟩ := id ha
 simp only [c_value_negate]
 repeat' first | simp (disch := omega) only [go_sem, wrap_i64, Int.zero_sub] | ((with_reducible first | refine condD ?_ ?_ | refine condX ?_ ?_ | refine condW_intro ?_ ?_) <;> intro h <;> first | (exfalso; omega) | simp (disch := omega) only [go_sem, *, wrap_i64, Int.zero_sub] | skip)
theorem value_Compare_abs {a b : Fr} (ha : frOk a) (hb : frOk b) : PCalls Tryz.prog n_value_Compare [aFrac, aFr a, aFr b] (I (frCmp a b)) := by
 refine PCalls.of is_value_Compare (by simp) fun _ => runW_sound ?_
 have p1 := value_Valid_abs (frOk_in ha)
 have p2 := value_Valid_abs (frOk_in hb)
 simp only [ha, decide_true] at p1
 simp only [hb, decide_true] at p2
 simp only [c_value_Compare]
 repeat' first | simp (disch := omega) only [go_sem] | ((with_reducible first | refine condD ?_ ?_ | refine condX ?_ ?_ | refine condW_intro ?_ ?_) <;> intro h <;> first | (exfalso; omega) | simp (disch := omega) only [go_sem, *] | skip) | (refine callW_of p1 rfl (.inl rfl) ?_) | (refine callW_of p2 rfl (.inl rfl) ?_) | (refine callW_of (frac_Compare_abs ha hb) rfl (.inl rfl) ?_)
theorem value_arithmetic_abs {op : Int} {a b : Fr} (ha : frIn a) (hb : frIn b) : PCalls Tryz.prog n_value_arithmetic [I op, aFrac, aFr a, aFr b] (aFrE (if op = 4 then frAdd a b else if op = 5 then frSub a b else if op = 6 then frMul a b else frDiv a b)) := by
 refine PCalls.of is_value_arithmetic (by simp) fun _ => runW_sound ?_
 simp only [c_value_arithmetic]
 repeat' first | simp (disch := omega) only [go_sem] | ((with_reducible first | refine condD ?_ ?_ | refine condX ?_ ?_ | refine condW_intro ?_ ?_) <;> intro h <;> first | (exfalso; omega) | simp (disch := omega) only [go_sem, *] | skip) | (refine callW_of (frac_Add_abs ha hb) rfl (.inl rfl) ?_) | (refine callW_of (frac_Sub_abs ha hb) rfl (.inl rfl) ?_) | (refine callW_of (frac_Mul_abs ha hb) rfl (.inl rfl) ?_) | (refine callW_of (frac_Div_abs ha hb) rfl (.inl rfl) ?_)
 all_goals simp [*]
theorem value_Apply_abs {op : Int} {a b : Fr} (ha : frIn a) (hb : frIn b) : PCalls Tryz.prog n_value_Apply [I op, aFrac, aFr a, aFr b] (aFrE (frApply op a b)) := by
 refine PCalls.of is_value_Apply (by simp) fun _ => runW_sound ?_
 have p1 := value_Valid_abs ha
 have p2 := value_Valid_abs hb
 have p3 := value_arithmetic_abs (op := op) ha hb
 simp only [c_value_Apply]
 by_cases oa : frOk a
 ·have q1 := value_negate_abs oa
  by_cases ob : frOk b
  ·have q2 := value_Compare_abs oa ob
   have q3 := frCmp_eq oa ob
   simp only [oa, decide_true] at p1
   simp only [ob, decide_true] at p2
   have hu : frApply op a b = if op < 4 ∨ op > 10 then ((0, 0), 1) else if op = 8 then (frNeg a, 0) else if op = 9 then (if frCmp a b > 0 then (b, 0) else (a, 0)) else if op = 10 then (if frCmp a b > 0 then (a, 0) else (b, 0)) else (if op = 4 then frAdd a b else if op = 5 then frSub a b else if op = 6 then frMul a b else frDiv a b) := by
    by_cases o1 : op < 4 ∨ op > 10
    ·simp [frApply, o1]
    ·have : op = 4 ∨ op = 5 ∨ op = 6 ∨ op = 7 ∨ op = 8 ∨ op = 9 ∨ op = 10 := by omega
     rcases this with rfl | rfl | rfl | rfl | rfl | rfl | rfl
     ·simp [frApply, oa, ob]
     ·simp [frApply, oa, ob]
     ·simp [frApply, oa, ob]
     ·simp [frApply, oa, ob]
     ·simp [frApply, oa, ob]
     ·simp [frApply, oa, ob]
     ·rcases Int.lt_trichotomy (frCmp a b) 0 with hc | hc | hc
      ·have h1 : ¬ 0 < frCmp a b := by omega
       simp [frApply, oa, ob, hc, h1]
      ·have h1 := q3 hc
       subst h1
       simp [frApply, oa, ob]
      ·have h1 : ¬ frCmp a b < 0 := by omega
       simp [frApply, oa, ob, hc, h1]
   rw [hu]
   clear hu
   generalize frCmp a b = c at *
   have heq : c = 0 → a = b := q3
   clear q3
   by_cases c0 : c = 0
   ·have := heq c0
    subst this
    subst c0
    clear heq
    repeat' first | simp (disch := omega) only [go_sem] | ((with_reducible first | refine condD ?_ ?_ | refine condX ?_ ?_ | refine condW_intro ?_ ?_) <;> intro h <;> first | (exfalso; omega) | simp (disch := omega) only [go_sem, *] | skip) | (refine callW_of value_ValidateType_abs rfl (.inl rfl) ?_) | (refine callW_of p1 rfl (.inl rfl) ?_) | (refine callW_of p2 rfl (.inl rfl) ?_) | (refine callW_of p3 rfl (.inl rfl) ?_) | (refine callW_of q1 rfl (.inl rfl) ?_) | (refine callW_of q2 rfl (.inl rfl) ?_)
    all_goals first | (simp [*]; done) | (exfalso; simp_all <;> omega)
   ·clear heq
    by_cases c1 : c > 0
    ·repeat' first | simp (disch := omega) only [go_sem] | ((with_reducible first | refine condD ?_ ?_ | refine condX ?_ ?_ | refine condW_intro ?_ ?_) <;> intro h <;> first | (exfalso; omega) | simp (disch := omega) only [go_sem, *] | skip) | (refine callW_of value_ValidateType_abs rfl (.inl rfl) ?_) | (refine callW_of p1 rfl (.inl rfl) ?_) | (refine callW_of p2 rfl (.inl rfl) ?_) | (refine callW_of p3 rfl (.inl rfl) ?_) | (refine callW_of q1 rfl (.inl rfl) ?_) | (refine callW_of q2 rfl (.inl rfl) ?_)
     all_goals first | (simp [*]; done) | (exfalso; simp_all <;> omega)
    ·repeat' first | simp (disch := omega) only [go_sem] | ((with_reducible first | refine condD ?_ ?_ | refine condX ?_ ?_ | refine condW_intro ?_ ?_) <;> intro h <;> first | (exfalso; omega) | simp (disch := omega) only [go_sem, *] | skip) | (refine callW_of value_ValidateType_abs rfl (.inl rfl) ?_) | (refine callW_of p1 rfl (.inl rfl) ?_) | (refine callW_of p2 rfl (.inl rfl) ?_) | (refine callW_of p3 rfl (.inl rfl) ?_) | (refine callW_of q1 rfl (.inl rfl) ?_) | (refine callW_of q2 rfl (.inl rfl) ?_)
     all_goals first | (simp [*]; done) | (exfalso; simp_all <;> omega)
  ·simp only [oa, decide_true] at p1
   simp only [ob, decide_false] at p2
   repeat' first | simp (disch := omega) only [go_sem] | ((with_reducible first | refine condD ?_ ?_ | refine condX ?_ ?_ | refine condW_intro ?_ ?_) <;> intro h <;> first | (exfalso; omega) | simp (disch := omega) only [go_sem, *] | skip) | (refine callW_of value_ValidateType_abs rfl (.inl rfl) ?_) | (refine callW_of p1 rfl (.inl rfl) ?_) | (refine callW_of p2 rfl (.inl rfl) ?_) | (refine callW_of p3 rfl (.inl rfl) ?_) | (refine callW_of q1 rfl (.inl rfl) ?_)
   all_goals (simp [frApply, *] <;> omega)
 ·simp only [oa, decide_false] at p1
  repeat' first | simp (disch := omega) only [go_sem] | ((with_reducible first | refine condD ?_ ?_ | refine condX ?_ ?_ | refine condW_intro ?_ ?_) <;> intro h <;> first | (exfalso; omega) | simp (disch := omega) only [go_sem, *] | skip) | (refine callW_of value_ValidateType_abs rfl (.inl rfl) ?_) | (refine callW_of p1 rfl (.inl rfl) ?_) | (refine callW_of p2 rfl (.inl rfl) ?_) | (refine callW_of p3 rfl (.inl rfl) ?_)
  all_goals (simp [frApply, *] <;> omega)

theorem frApply_eq {op : Int} {a b : Fr} (oa : frOk a) (ob : frOk b) : frApply op a b = if op < 4 ∨ op > 10 then ((0, 0), 1) else if op = 8 then (frNeg a, 0) else if op = 9 then (if frCmp a b > 0 then (b, 0) else (a, 0)) else if op = 10 then (if frCmp a b > 0 then (a, 0) else (b, 0)) else (if op = 4 then frAdd a b else if op = 5 then frSub a b else if op = 6 then frMul a b else frDiv a b) := by
 have q3 := frCmp_eq oa ob
 by_cases o1 : op < 4 ∨ op > 10
 ·simp [frApply, o1]
 ·have : op = 4 ∨ op = 5 ∨ op = 6 ∨ op = 7 ∨ op = 8 ∨ op = 9 ∨ op = 10 := by omega
  rcases this with rfl | rfl | rfl | rfl | rfl | rfl | rfl
  ·simp [frApply, oa, ob]
  ·simp [frApply, oa, ob]
  ·simp [frApply, oa, ob]
  ·simp [frApply, oa, ob]
  ·simp [frApply, oa, ob]
  ·simp [frApply, oa, ob]
  ·rcases Int.lt_trichotomy (frCmp a b) 0 with hc | hc | hc
   ·have h1 : ¬ 0 < frCmp a b := by omega
    simp [frApply, oa, ob, hc, h1]
   ·have h1 := q3 hc
    subst h1
    simp [frApply, oa, ob]
   ·have h1 : ¬ frCmp a b < 0 := by omega
    simp [frApply, oa, ob, hc, h1]
abbrev Du := Fr × Fr
abbrev dP (a : Du) : List PC := [pI a.1.1, pI a.1.2, pI a.2.1, pI a.2.2]
abbrev aDu (a : Du) : AV := .agg [.pure (pI a.1.1), .pure (pI a.1.2), .pure (pI a.2.1), .pure (pI a.2.2)]
abbrev aDuE (x : Du × Int) : AV := .tup [aDu x.1, I x.2]
def duOk (a : Du) : Prop := frOk a.1 ∧ frOk a.2
def duIn (a : Du) : Prop := frIn a.1 ∧ frIn a.2
noncomputable instance (a : Du) : Decidable (duOk a) := Classical.propDecidable _
theorem zero_in : frIn (0, 0) := ⟨by unfold in64; simp, by unfold in64; simp⟩
theorem ofRat_in (r : Rat) : frIn (ofRat r).1 := by
 rw [ofRat]
 split
 ·exact frOk_in (frOk_of ‹_›)
 ·exact zero_in
theorem frBin_in (f : Rat → Rat → Rat) (a b : Fr) : frIn (frBin f a b).1 := by
 rw [frBin]
 split
 ·exact zero_in
 ·exact ofRat_in _
theorem frDiv_in (a b : Fr) : frIn (frDiv a b).1 := by
 rw [frDiv]
 split
 ·exact zero_in
 ·split
  ·exact zero_in
  ·exact ofRat_in _
theorem frNeg_in (a : Fr) : frIn (frNeg a) := by
 rw [frNeg]
 split
 ·rename_i h
  obtain ⟨h1, h2, h3, h4, _⟩ := h
  exact ⟨by unfold in64; simp only; omega, by unfold in64; simp only; omega⟩
 ·exact zero_in
theorem frApply_in (op : Int) {a b : Fr} (ha : frIn a) (hb : frIn b) : frIn (frApply op a b).1 := by
 rw [frApply]
 repeat' split
 all_goals first
  | exact zero_in
  | exact frBin_in _ _ _
  | exact frDiv_in _ _
  | exact frNeg_in _
  | exact ha
  | exact hb

/-- Going on, where there is no error. -/
def bindF (x : Fr × Int) (f : Fr → Fr × Int) : Fr × Int := if x.2 ≠ 0 then ((0, 0), x.2) else f x.1
/-- The tangent. -/
noncomputable def duTan (op : Int) (a b : Du) (v : Fr) : Fr × Int :=
 if op = 4 then frAdd a.2 b.2 else if op = 5 then frSub a.2 b.2 else
 if op = 6 then bindF (frMul a.2 b.1) fun x => bindF (frMul a.1 b.2) fun y => frAdd x y else
 if op = 7 then bindF (frMul v b.2) fun x => bindF (frSub a.2 x) fun y => frDiv y b.1 else
 if op = 8 then (frNeg a.2, 0) else
 if (op = 9 ∧ frCmp a.1 b.1 > 0) ∨ (op = 10 ∧ frCmp a.1 b.1 < 0) then (b.2, 0) else (a.2, 0)
noncomputable def duApply (op : Int) (a b : Du) : Du × Int :=
 if op < 4 ∨ op > 10 ∨ ¬ duOk a ∨ (op ≠ 8 ∧ ¬ duOk b) then (((0, 0), (0, 0)), 1) else
 if (frApply op a.1 b.1).2 ≠ 0 then (((0, 0), (0, 0)), (frApply op a.1 b.1).2) else
 if (duTan op a b (frApply op a.1 b.1).1).2 ≠ 0 then (((0, 0), (0, 0)), (duTan op a b (frApply op a.1 b.1).1).2) else
 (((frApply op a.1 b.1).1, (duTan op a b (frApply op a.1 b.1).1).1), 0)

theorem dual_valid_abs {a : Du} (ha : duIn a) : PCalls Tryz.prog n_dual_Dual_valid [aDu a] (Go.Abs.B (decide (duOk a))) := by
 refine PCalls.of is_dual_Dual_valid (by simp) fun _ => runW_sound ?_
 have p1 := frac_Valid_abs ha.1
 have p2 := frac_Valid_abs ha.2
 simp only [c_dual_Dual_valid]
 by_cases h1 : frOk a.1 <;> by_cases h2 : frOk a.2 <;> simp only [h1, h2, decide_true, decide_false] at p1 p2
 all_goals
  repeat' first | simp (disch := omega) only [go_sem] | ((with_reducible first | refine condD ?_ ?_ | refine condX ?_ ?_ | refine condW_intro ?_ ?_) <;> intro h <;> first | (exfalso; omega) | simp (disch := omega) only [go_sem, *] | skip) | (refine callW_of p1 rfl (.inl rfl) ?_) | (refine callW_of p2 rfl (.inl rfl) ?_)
  all_goals simp [duOk, *]
theorem dual_fractions_abs : PCalls Tryz.prog n_dual_fractions [] aFrac := by
 refine PCalls.of is_dual_fractions (by simp) fun _ => runW_sound ?_
 simp only [c_dual_fractions]
 repeat' first | simp (disch := omega) only [go_sem] | ((with_reducible first | refine condD ?_ ?_ | refine condX ?_ ?_ | refine condW_intro ?_ ?_) <;> intro h <;> first | (exfalso; omega) | simp (disch := omega) only [go_sem, *] | skip)
theorem frMul_in (a b : Fr) : frIn (frMul a b).1 := frBin_in _ a b
theorem frSub_in (a b : Fr) : frIn (frSub a b).1 := frBin_in _ a b
theorem frAdd_in (a b : Fr) : frIn (frAdd a b).1 := frBin_in _ a b

set_option maxHeartbeats 2000000 in
theorem dual_tangent_abs {op : Int} {a b : Du} {v : Fr} (h4 : 4 ≤ op) (h10 : op ≤ 10) (ha : duOk a) (hai : duIn a) (hb : op ≠ 8 → duOk b) (hbi : duIn b) (hv : frIn v) : PCalls Tryz.prog n_dual_tangent [I op, aDu a, aDu b, aFr v] (aFrE (duTan op a b v)) := by
 refine PCalls.of is_dual_tangent (by simp) fun _ => runW_sound ?_
 have p1 := frac_Add_abs hai.2 hbi.2
 have p2 := frac_Sub_abs hai.2 hbi.2
 have p3 := frac_Mul_abs hai.2 hbi.1
 have p4 := frac_Mul_abs hai.1 hbi.2
 have p5 := frac_Add_abs (frMul_in a.2 b.1) (frMul_in a.1 b.2)
 have p6 := frac_Mul_abs hv hbi.2
 have p7 := frac_Sub_abs hai.2 (frMul_in v b.2)
 have p8 := frac_Div_abs (frSub_in a.2 (frMul v b.2).1) hbi.1
 have p9 := frac_Neg_abs hai.2
 simp only [c_dual_tangent]
 have hcase : op = 4 ∨ op = 5 ∨ op = 6 ∨ op = 7 ∨ op = 8 ∨ op = 9 ∨ op = 10 := by omega
 rcases hcase with rfl | rfl | rfl | rfl | rfl | h9
 ·repeat' first | simp (disch := omega) only [go_sem] | ((with_reducible first | refine condD ?_ ?_ | refine condX ?_ ?_ | refine condW_intro ?_ ?_) <;> intro h <;> first | (exfalso; omega) | simp (disch := omega) only [go_sem, *] | skip) | (refine callW_of p1 rfl (.inl rfl) ?_)
  all_goals simp [duTan]
 ·repeat' first | simp (disch := omega) only [go_sem] | ((with_reducible first | refine condD ?_ ?_ | refine condX ?_ ?_ | refine condW_intro ?_ ?_) <;> intro h <;> first | (exfalso; omega) | simp (disch := omega) only [go_sem, *] | skip) | (refine callW_of p2 rfl (.inl rfl) ?_)
  all_goals simp [duTan]
 ·repeat' first | simp (disch := omega) only [go_sem] | ((with_reducible first | refine condD ?_ ?_ | refine condX ?_ ?_ | refine condW_intro ?_ ?_) <;> intro h <;> first | (exfalso; omega) | simp (disch := omega) only [go_sem, *] | skip) | (refine callW_of p3 rfl (.inl rfl) ?_) | (refine callW_of p4 rfl (.inl rfl) ?_) | (refine callW_of p5 rfl (.inl rfl) ?_)
  all_goals simp [duTan, bindF, *]
 ·repeat' first | simp (disch := omega) only [go_sem] | ((with_reducible first | refine condD ?_ ?_ | refine condX ?_ ?_ | refine condW_intro ?_ ?_) <;> intro h <;> first | (exfalso; omega) | simp (disch := omega) only [go_sem, *] | skip) | (refine callW_of p6 rfl (.inl rfl) ?_) | (refine callW_of p7 rfl (.inl rfl) ?_) | (refine callW_of p8 rfl (.inl rfl) ?_)
  all_goals simp [duTan, bindF, *]
 ·repeat' first | simp (disch := omega) only [go_sem] | ((with_reducible first | refine condD ?_ ?_ | refine condX ?_ ?_ | refine condW_intro ?_ ?_) <;> intro h <;> first | (exfalso; omega) | simp (disch := omega) only [go_sem, *] | skip) | (refine callW_of p9 rfl (.inl rfl) ?_)
  all_goals simp [duTan]
 ·have p10 := frac_Compare_abs ha.1 (hb (by omega)).1
  have hE : duTan op a b v = if (op = 9 ∧ frCmp a.1 b.1 > 0) ∨ (op = 10 ∧ frCmp a.1 b.1 < 0) then (b.2, 0) else (a.2, 0) := by
   rcases h9 with rfl | rfl <;> simp [duTan]
  rw [hE]
  clear p1 p2 p3 p4 p5 p6 p7 p8 p9 hE
  generalize frCmp a.1 b.1 = c at *
  rcases h9 with rfl | rfl
  ·by_cases c1 : c > 0
   ·have c2 : ¬ c < 0 := by omega
    have c3 : ¬ c = 0 := by omega
    repeat' first | simp (disch := omega) only [go_sem, c1, c2, c3] | ((with_reducible first | refine condD ?_ ?_ | refine condX ?_ ?_ | refine condW_intro ?_ ?_) <;> intro h <;> first | (exfalso; omega) | simp (disch := omega) only [go_sem, *, c1, c2, c3] | skip) | (refine callW_of p10 rfl (.inl rfl) ?_)
    all_goals simp [*]
   ·by_cases c3 : c = 0
    ·subst c3
     repeat' first | simp (disch := omega) only [go_sem] | ((with_reducible first | refine condD ?_ ?_ | refine condX ?_ ?_ | refine condW_intro ?_ ?_) <;> intro h <;> first | (exfalso; omega) | simp (disch := omega) only [go_sem, *] | skip) | (refine callW_of p10 rfl (.inl rfl) ?_)
     all_goals simp [*]
    ·have c2 : c < 0 := by omega
     repeat' first | simp (disch := omega) only [go_sem, c1, c2, c3] | ((with_reducible first | refine condD ?_ ?_ | refine condX ?_ ?_ | refine condW_intro ?_ ?_) <;> intro h <;> first | (exfalso; omega) | simp (disch := omega) only [go_sem, *, c1, c2, c3] | skip) | (refine callW_of p10 rfl (.inl rfl) ?_)
     all_goals simp [*]
  ·by_cases c1 : c < 0
   ·have c2 : ¬ c > 0 := by omega
    have c3 : ¬ c = 0 := by omega
    repeat' first | simp (disch := omega) only [go_sem, c1, c2, c3] | ((with_reducible first | refine condD ?_ ?_ | refine condX ?_ ?_ | refine condW_intro ?_ ?_) <;> intro h <;> first | (exfalso; omega) | simp (disch := omega) only [go_sem, *, c1, c2, c3] | skip) | (refine callW_of p10 rfl (.inl rfl) ?_)
    all_goals simp [*]
   ·by_cases c3 : c = 0
    ·subst c3
     repeat' first | simp (disch := omega) only [go_sem] | ((with_reducible first | refine condD ?_ ?_ | refine condX ?_ ?_ | refine condW_intro ?_ ?_) <;> intro h <;> first | (exfalso; omega) | simp (disch := omega) only [go_sem, *] | skip) | (refine callW_of p10 rfl (.inl rfl) ?_)
     all_goals simp [*]
    ·have c2 : c > 0 := by omega
     repeat' first | simp (disch := omega) only [go_sem, c1, c2, c3] | ((with_reducible first | refine condD ?_ ?_ | refine condX ?_ ?_ | refine condW_intro ?_ ?_) <;> intro h <;> first | (exfalso; omega) | simp (disch := omega) only [go_sem, *, c1, c2, c3] | skip) | (refine callW_of p10 rfl (.inl rfl) ?_)
     all_goals simp [*]

set_option maxHeartbeats 2000000 in
theorem dual_Apply_abs {op : Int} {a b : Du} (ha : duIn a) (hb : duIn b) : PCalls Tryz.prog n_dual_Apply [I op, aDu a, aDu b] (aDuE (duApply op a b)) := by
 refine PCalls.of is_dual_Apply (by simp) fun _ => runW_sound ?_
 have p1 := dual_valid_abs ha
 have p2 := dual_valid_abs hb
 simp only [c_dual_Apply]
 by_cases hop : op < 4 ∨ op > 10
 ·rw [duApply, if_pos (by omega)]
  rcases hop with h | h
  ·repeat' first | simp (disch := omega) only [go_sem] | ((with_reducible first | refine condD ?_ ?_ | refine condX ?_ ?_ | refine condW_intro ?_ ?_) <;> intro h <;> first | (exfalso; omega) | simp (disch := omega) only [go_sem, *] | skip)
  ·repeat' first | simp (disch := omega) only [go_sem] | ((with_reducible first | refine condD ?_ ?_ | refine condX ?_ ?_ | refine condW_intro ?_ ?_) <;> intro h <;> first | (exfalso; omega) | simp (disch := omega) only [go_sem, *] | skip)
 have h4 : ¬ op < 4 := by omega
 have h10 : ¬ op > 10 := by omega
 by_cases oa : duOk a
 ·simp only [oa, decide_true] at p1
  by_cases h8 : op = 8
  ·have hd : duApply op a b = if (duTan op a b (frApply op a.1 b.1).1).2 ≠ 0 then (((0, 0), (0, 0)), (duTan op a b (frApply op a.1 b.1).1).2) else (((frApply op a.1 b.1).1, (duTan op a b (frApply op a.1 b.1).1).1), 0) := by
    rw [duApply, if_neg (by simp [h4, h10, oa, h8]), if_neg (by simp [frApply, h8, oa.1])]
   rw [hd]
   have e1 : frApply op a.1 b.1 = (frNeg a.1, 0) := by subst h8; simp [frApply, oa.1]
   have e2 : ∀ v, duTan op a b v = (frNeg a.2, 0) := by intro v; subst h8; simp [duTan]
   rw [e2, e1]
   have q1 := value_Apply_abs (op := op) ha.1 ha.1
   have q2 := dual_tangent_abs (op := op) (a := a) (b := a) (v := (frNeg a.1)) (by omega) (by omega) oa ha (by omega) ha (frNeg_in _)
   have e1' : frApply op a.1 (a).1 = (frNeg a.1, 0) := by subst h8; simp [frApply, oa.1]
   have e2' : ∀ v, duTan op a a v = (frNeg a.2, 0) := by intro v; subst h8; simp [duTan]
   rw [e1'] at q1
   rw [e2'] at q2
   clear e1 e2 e1' e2' hd hop p2
   subst h8
   repeat' first | simp (disch := omega) only [go_sem] | ((with_reducible first | refine condD ?_ ?_ | refine condX ?_ ?_ | refine condW_intro ?_ ?_) <;> intro h <;> first | (exfalso; omega) | simp (disch := omega) only [go_sem, *] | skip) | (refine callW_of p1 rfl (.inl rfl) ?_) | (refine callW_of dual_fractions_abs rfl (.inl rfl) ?_) | (refine callW_of q1 rfl (.inl rfl) ?_) | (refine callW_of q2 rfl (.inl rfl) ?_)
   rw [if_neg (by simp)]
  ·by_cases ob : duOk b
   ·simp only [ob, decide_true] at p2
    have hd : duApply op a b = if (frApply op a.1 b.1).2 ≠ 0 then (((0, 0), (0, 0)), (frApply op a.1 b.1).2) else if (duTan op a b (frApply op a.1 b.1).1).2 ≠ 0 then (((0, 0), (0, 0)), (duTan op a b (frApply op a.1 b.1).1).2) else (((frApply op a.1 b.1).1, (duTan op a b (frApply op a.1 b.1).1).1), 0) := by
     rw [duApply, if_neg (by simp [h4, h10, oa, ob])]
    rw [hd]
    have q1 := value_Apply_abs (op := op) ha.1 hb.1
    have q2 := dual_tangent_abs (op := op) (a := a) (b := b) (v := (frApply op a.1 b.1).1) (by omega) (by omega) oa ha (fun _ => ob) hb (frApply_in op ha.1 hb.1)
    generalize frApply op a.1 b.1 = F at *
    generalize duTan op a b F.1 = T at *
    clear hop hd
    repeat' first | simp (disch := omega) only [go_sem, h8] | ((with_reducible first | refine condD ?_ ?_ | refine condX ?_ ?_ | refine condW_intro ?_ ?_) <;> intro h <;> first | (exfalso; omega) | simp (disch := omega) only [go_sem, *, h8] | skip) | (refine callW_of p1 rfl (.inl rfl) ?_) | (refine callW_of p2 rfl (.inl rfl) ?_) | (refine callW_of dual_fractions_abs rfl (.inl rfl) ?_) | (refine callW_of q1 rfl (.inl rfl) ?_) | (refine callW_of q2 rfl (.inl rfl) ?_)
    all_goals simp [*]
   ·simp only [ob, decide_false] at p2
    rw [duApply, if_pos (.inr (.inr (.inr ⟨h8, ob⟩)))]
    repeat' first | simp (disch := omega) only [go_sem, h8] | ((with_reducible first | refine condD ?_ ?_ | refine condX ?_ ?_ | refine condW_intro ?_ ?_) <;> intro h <;> first | (exfalso; omega) | simp (disch := omega) only [go_sem, *, h8] | skip) | (refine callW_of p1 rfl (.inl rfl) ?_) | (refine callW_of p2 rfl (.inl rfl) ?_)
 ·simp only [oa, decide_false] at p1
  rw [duApply, if_pos (.inr (.inr (.inl oa)))]
  repeat' first | simp (disch := omega) only [go_sem] | ((with_reducible first | refine condD ?_ ?_ | refine condX ?_ ?_ | refine condW_intro ?_ ?_) <;> intro h <;> first | (exfalso; omega) | simp (disch := omega) only [go_sem, *] | skip) | (refine callW_of p1 rfl (.inl rfl) ?_) | (refine callW_of p2 rfl (.inl rfl) ?_)

theorem du_ext {a b : Du} : a = b ↔ (a.1.1 = b.1.1 ∧ a.1.2 = b.1.2) ∧ a.2.1 = b.2.1 ∧ a.2.2 = b.2.2 := by
 constructor
 ·rintro rfl; simp
 ·rintro ⟨⟨h1, h2⟩, h3, h4⟩
  exact Prod.ext (Prod.ext h1 h2) (Prod.ext h3 h4)
def duOp (n : Int) : Int := if n = 1 then 4 else if n = 2 then 6 else if n = 3 then 9 else if n = 4 then 10 else 0
noncomputable def duFold (op : Int) : Du → List Du → Du × Int
 | out, [] => (out, 0)
 | out, x :: r => if (duApply op out x).2 ≠ 0 then (((0, 0), (0, 0)), (duApply op out x).2) else duFold op (duApply op out x).1 r
noncomputable def duReduce (fold : Int) : List Du → Du × Int
 | [] => if fold = 1 then (((0, 1), (0, 1)), 0) else if fold = 2 then (((1, 1), (0, 1)), 0) else (((0, 0), (0, 0)), 1)
 | x :: r => if duOp fold = 0 ∨ (r = [] ∧ ¬ duOk x) then (((0, 0), (0, 0)), 1) else duFold (duOp fold) x r
theorem bindF_in {x : Fr × Int} {f : Fr → Fr × Int} (h : ∀ v, frIn (f v).1) : frIn (bindF x f).1 := by
 rw [bindF]
 split
 ·exact zero_in
 ·exact h _
theorem duTan_in (op : Int) {a b : Du} (ha : duIn a) (hb : duIn b) (v : Fr) : frIn (duTan op a b v).1 := by
 rw [duTan]
 repeat' split
 all_goals first
  | exact frAdd_in _ _
  | exact frSub_in _ _
  | exact bindF_in fun x => bindF_in fun y => frAdd_in _ _
  | exact bindF_in fun x => bindF_in fun y => frDiv_in _ _
  | exact frNeg_in _
  | exact ha.2
  | exact hb.2
theorem duApply_in (op : Int) {a b : Du} (ha : duIn a) (hb : duIn b) : duIn (duApply op a b).1 := by
 rw [duApply]
 repeat' split
 all_goals first
  | exact ⟨zero_in, zero_in⟩
  | exact ⟨frApply_in _ ha.1 hb.1, duTan_in _ ha hb _⟩
theorem bnd_dus {xs : List Du} (h : bndV (aSl dP xs)) : xs.length ≤ 9223372036854775807 := by simpa [bndV, bndA] using h
abbrev acDu (a : Du) : List AC := [.pure (pI a.1.1), .pure (pI a.1.2), .pure (pI a.2.1), .pure (pI a.2.2)]
abbrev acZ : List AC := [.pure (pI 0), .pure (pI 0), .pure (pI 0), .pure (pI 0)]

theorem frNew_one {n : Int} (h : -2147483647 ≤ n ∧ n ≤ 2147483647) : frNew n 1 = ((n, 1), 0) := by
 rw [frNew_eq (by decide)]
 have e : Nat.gcd n.natAbs (1 : Int).natAbs = 1 := Nat.gcd_one_right _
 rw [e, Nat.div_one, Nat.div_one, if_neg (by simp; omega)]
 by_cases hn : n < 0
 ·simp [hn]; omega
 ·simp [hn]; omega
theorem frOk_one {n : Int} (h : -2147483647 ≤ n ∧ n ≤ 2147483647) : frOk (n, 1) := ⟨by simp, by simp, h.1, h.2, Nat.gcd_one_right _⟩
theorem frMul_one {m n : Int} (hm : -2147483647 ≤ m ∧ m ≤ 2147483647) (hn : -2147483647 ≤ n ∧ n ≤ 2147483647) (h : -2147483647 ≤ m * n ∧ m * n ≤ 2147483647) : frMul (m, 1) (n, 1) = ((m * n, 1), 0) := by
 rw [frMul_eq (frOk_one hm) (frOk_one hn)]
 exact frNew_one h
theorem frAdd_one {m n : Int} (hm : -2147483647 ≤ m ∧ m ≤ 2147483647) (hn : -2147483647 ≤ n ∧ n ≤ 2147483647) (h : -2147483647 ≤ m + n ∧ m + n ≤ 2147483647) : frAdd (m, 1) (n, 1) = ((m + n, 1), 0) := by
 rw [frAdd_eq (frOk_one hm) (frOk_one hn)]
 simp only [Int.mul_one]
 exact frNew_one h
theorem alive_eq : duApply 6 ((2, 1), (1, 1)) ((3, 1), (0, 1)) = (((6, 1), (3, 1)), 0) := by
 have o1 : duOk ((2, 1), (1, 1)) := ⟨frOk_one (by omega), frOk_one (by omega)⟩
 have o2 : duOk ((3, 1), (0, 1)) := ⟨frOk_one (by omega), frOk_one (by omega)⟩
 have e1 : frApply 6 (2, 1) (3, 1) = ((6, 1), 0) := by simp [frApply, o1.1, o2.1, frMul_one]
 have e2 : duTan 6 ((2, 1), (1, 1)) ((3, 1), (0, 1)) (6, 1) = ((3, 1), 0) := by simp [duTan, bindF, frMul_one, frAdd_one]
 simp [duApply, o1, o2, e1, e2]
theorem law25_alive_1_abs (n d : Int) : PCalls Tryz.prog n_law25_alive_1 [I n, I d] (aDu ((n, 1), (d, 1))) := by
 refine PCalls.of is_law25_alive_1 (by simp) fun _ => runW_sound ?_
 simp only [c_law25_alive_1]
 repeat' first | simp (disch := omega) only [go_sem] | ((with_reducible first | refine condD ?_ ?_ | refine condX ?_ ?_ | refine condW_intro ?_ ?_) <;> intro h <;> first | (exfalso; omega) | simp (disch := omega) only [go_sem, *] | skip)
theorem law25_alive_abs : PCalls Tryz.prog n_law25_alive [] (Go.Abs.B true) := by
 refine PCalls.of is_law25_alive (by simp) fun _ => runW_sound ?_
 have p := dual_Apply_abs (op := 6) (a := ((2, 1), (1, 1))) (b := ((3, 1), (0, 1))) ⟨frOk_in (frOk_one (by omega)), frOk_in (frOk_one (by omega))⟩ ⟨frOk_in (frOk_one (by omega)), frOk_in (frOk_one (by omega))⟩
 rw [alive_eq] at p
 simp only [c_law25_alive]
 repeat' first | simp (disch := omega) only [go_sem] | ((with_reducible first | refine condD ?_ ?_ | refine condX ?_ ?_ | refine condW_intro ?_ ?_) <;> intro h <;> first | (exfalso; omega) | simp (disch := omega) only [go_sem, *] | skip) | (with_reducible refine bothW_intro ?_ ?_) | (with_reducible refine nilW_intro (fun h => ?_) ?_) | (refine callW_of (law25_alive_1_abs _ _) rfl (.inl rfl) ?_) | (refine callW_of p rfl (.inl rfl) ?_)
 all_goals first
  | rfl
  | decide
  | simp [*]

/-- A product of a quotient and its divisor is the dividend. -/
theorem divides {a b q : Du} (h : duApply 7 a b = (q, 0)) : duApply 6 q b = (a, 0) := by
 rw [duApply] at h
 split at h
 ·cases h
 ·rename_i hno
  have oa : duOk a := Classical.byContradiction fun h => hno (.inr (.inr (.inl h)))
  have ob : duOk b := Classical.byContradiction fun h => hno (.inr (.inr (.inr ⟨by decide, h⟩)))
  have e1 : frApply 7 a.1 b.1 = frDiv a.1 b.1 := by simp [frApply, oa.1, ob.1]
  rw [e1] at h
  split at h
  ·rename_i hne
   exact absurd (Prod.mk.inj h).2 hne
  ·rename_i he
   split at h
   ·rename_i hne
    exact absurd (Prod.mk.inj h).2 hne
   ·rename_i ht
    have hq := (Prod.mk.inj h).1
    subst hq
    generalize hD : frDiv a.1 b.1 = D at *
    obtain ⟨q1, d2⟩ := D
    simp only [ne_eq, Classical.not_not] at he ht
    subst he
    have hb0 : b.1.1 ≠ 0 := by
     intro h0
     rw [frDiv, if_neg (by simp [oa.1, ob.1]), if_pos h0] at hD
     cases hD
    rw [frDiv, if_neg (by simp [oa.1, ob.1]), if_neg hb0] at hD
    obtain ⟨k1, k2⟩ := ofRat_rat hD
    have tb : toRat b.1 ≠ 0 := fun h => hb0 (toRat_eq_zero ob.1 h)
    -- the tangent
    simp only [duTan] at ht ⊢
    rw [if_neg (by decide), if_neg (by decide), if_neg (by decide), if_pos trivial] at ht ⊢
    generalize hX : frMul q1 b.2 = X at *
    obtain ⟨x, x2⟩ := X
    simp only [bindF] at ht ⊢
    by_cases hx2 : x2 = 0
    ·subst hx2
     simp only [ne_eq, not_true_eq_false, if_false] at ht ⊢
     generalize hY : frSub a.2 x = Y at *
     obtain ⟨y, y2⟩ := Y
     by_cases hy2 : y2 = 0
     ·subst hy2
      simp only [ne_eq, not_true_eq_false, if_false] at ht ⊢
      generalize hZ : frDiv y b.1 = Z at *
      obtain ⟨z, z2⟩ := Z
      simp only at ht ⊢
      subst ht
      have ok : ∀ {f : Rat → Rat → Rat} {a b v : Fr}, frBin f a b = (v, 0) → frOk a ∧ frOk b ∧ ofRat (f (toRat a) (toRat b)) = (v, 0) := by
       intro f a b v h
       rw [frBin] at h
       split at h
       ·cases h
       ·rename_i hn
        exact ⟨Classical.byContradiction fun h => hn (.inl h), Classical.byContradiction fun h => hn (.inr h), h⟩
      obtain ⟨_, _, mX⟩ := ok (f := (· * ·)) hX
      obtain ⟨x1, x3⟩ := ofRat_rat mX
      obtain ⟨_, _, mY⟩ := ok (f := (· - ·)) hY
      obtain ⟨y1, y3⟩ := ofRat_rat mY
      rw [frDiv, if_neg (by simp [y1, ob.1]), if_neg hb0] at hZ
      obtain ⟨z1, z3⟩ := ofRat_rat hZ
      have oq : duOk (q1, z) := ⟨k1, z1⟩
      have m1 : frMul q1 b.1 = (a.1, 0) := by
       rw [frMul, frBin, if_neg (by simp [k1, ob.1])]
       show ofRat (toRat q1 * toRat b.1) = _
       rw [k2, Rat.div_mul_cancel tb, ofRat_to oa.1]
      have m2 : frMul z b.1 = (y, 0) := by
       rw [frMul, frBin, if_neg (by simp [z1, ob.1])]
       show ofRat (toRat z * toRat b.1) = _
       rw [z3, Rat.div_mul_cancel tb, ofRat_to y1]
      have m3 : frAdd y x = (a.2, 0) := by
       rw [frAdd, frBin, if_neg (by simp [y1, x1])]
       show ofRat (toRat y + toRat x) = _
       rw [y3]
       show ofRat (toRat a.2 - toRat x + toRat x) = _
       rw [Rat.sub_add_cancel, ofRat_to oa.2]
      have e2 : frApply 6 q1 b.1 = (a.1, 0) := by rw [← m1]; simp [frApply, k1, ob.1]
      have e3 : duTan 6 (q1, z) b a.1 = (a.2, 0) := by simp [duTan, bindF, m2, hX, m3]
      simp [duApply, oq, ob, e2, e3]
     ·simp [hy2] at ht
    ·simp [hx2] at ht

theorem okDu {ps : List PC} (h : OkPs [.int .i64, .int .i64, .int .i64, .int .i64] ps) : ∃ a : Du, ps = dP a ∧ duIn a := by
 obtain ⟨_, _, rfl, k0, k1⟩ := okCons h
 obtain ⟨_, _, rfl, k2, k3⟩ := okCons k1
 obtain ⟨_, _, rfl, k4, k5⟩ := okCons k3
 obtain ⟨_, rfl, k6⟩ := okOne k5
 obtain ⟨a, rfl, ha⟩ := okInt k0
 obtain ⟨b, rfl, hb⟩ := okInt k2
 obtain ⟨c, rfl, hc⟩ := okInt k4
 obtain ⟨d, rfl, hd⟩ := okInt k6
 exact ⟨((a, b), (c, d)), rfl, ⟨ha, hb⟩, ⟨hc, hd⟩⟩

end Go.Proofs.YtfjnhdfhgenkdaaGreatDoor
