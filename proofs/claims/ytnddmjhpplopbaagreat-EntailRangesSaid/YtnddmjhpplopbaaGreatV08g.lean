/- Walks by the abstract machine: bounds are found by bisection. -/
import Derived.Test.YtnddmjhpplopbaaGreatV08c
import Derived.Test.YtnddmjhpplopbaaGreatPlain08
set_option linter.unusedVariables false
set_option linter.unusedSimpArgs false
set_option maxRecDepth 20000
namespace Go.Proofs.YtnddmjhpplopbaaGreat
open Go.Abs Go.RowKit

theorem addE_64 (a b : Lin) : lin64 (addE a b).1 := by
 unfold addE addS
 (repeat' split)
 ·exact ⟨in64_zero, fun m hm => by cases hm⟩
 ·exact addV_64 ‹_›
 ·exact ⟨in64_zero, fun m hm => by cases hm⟩
theorem addE_len (a b : Lin) : (addE a b).1.2.length ≤ a.2.length + b.2.length := by
 unfold addE addS
 (repeat' split)
 ·exact Nat.zero_le _
 ·exact addV_len a b
 ·exact Nat.zero_le _
theorem scaleE_64 {a : Lin} : lin64 (scaleE a (-1)).1 := by
 unfold scaleE scaleS
 (repeat' split)
 ·exact ⟨in64_zero, fun m hm => by cases hm⟩
 ·rename_i h
  exact scaleV_64 h
 ·exact ⟨in64_zero, fun m hm => by cases hm⟩
theorem scaleE_len (a : Lin) (b : Int) : (scaleE a b).1.2.length ≤ a.2.length := by
 unfold scaleE scaleS
 (repeat' split)
 ·exact Nat.zero_le _
 ·exact scaleV_len a b
 ·exact Nat.zero_le _
theorem lin_Const_abs (k : Int) : PCalls Tryz.prog n_lin_Const [I k] (aLin k []) := by
 refine PCalls.of is_lin_Const (by simp) fun _ => runW_sound ?_
 simp only [c_lin_Const]
 repeat' first | simp (disch := omega) only [go_sem, ↓reduceIte, Nat.reduceEqDiff, reduceCtorEq, Int.reduceEq] | ((with_reducible first | refine condD ?_ ?_ | refine condX ?_ ?_ | refine condW_intro ?_ ?_) <;> intro h <;> first | (exfalso; omega) | simp (disch := omega) only [go_sem, ↓reduceIte, Nat.reduceEqDiff, reduceCtorEq, Int.reduceEq, *] | skip)
 all_goals rfl
/-- Bounds that are tried. -/
abbrev B40 (b : Int) : Prop := -1099511627777 ≤ b ∧ b ≤ 1099511627777
theorem entail_LowerBound_1_abs {l : List Con} {f : Lin} {fuel b : Int} (h64 : ∀ d ∈ l, con64 d) (hf : lin64 f) (hl : l.length ≤ 1000) (ht : tot l + f.2.length ≤ 1000000) (hfu : in64 fuel) (hb : B40 b) :
  PCalls Tryz.prog n_entail_LowerBound_1 [I b, .c (.cptr [pI f.1, pMonos f.2]), .c (.cptr [pSl cP l]), .c (.cptr [pI fuel])] (.tup [Go.Abs.B (provS l f fuel b).1, I (provS l f fuel b).2]) := by
 refine PCalls.of is_entail_LowerBound_1 (by simp) fun _ => runW_sound ?_
 simp only [c_entail_LowerBound_1]
 have wn : IntKind.wrap .i64 (0 - b) = -b := by rw [Int.zero_sub]; exact wrap_i64 (by omega)
 have pc := lin_Const_abs (-b)
 have pa := lin_Add_abs (a := f) (b := (-b, [])) hf ⟨by unfold in64; simp only; omega, fun m hm => by cases hm⟩ (by unfold short; omega) (by unfold short; simp)
 have hg := addE_64 f (-b, [])
 have hgl := addE_len f (-b, [])
 simp only [List.length_nil, Nat.add_zero] at hgl
 unfold provS
 generalize addE f (-b, []) = G at *
 obtain ⟨⟨GK, GL⟩, ge⟩ := G
 obtain ⟨K, m⟩ := f
 simp only at pa hg hgl ht ⊢
 by_cases h0 : ge = 0
 ·subst h0
  rw [if_neg (by simp)]
  have pi := entail_Implies_abs (l := l) (c := ((GK, GL), false)) (fuel := fuel) h64 hg hl (by simp only; omega) hfu
  generalize implS l ((GK, GL), false) fuel = R at *
  obtain ⟨by', ok, e⟩ := R
  try simp only at pi
  clear hg h64 hf
  repeat' first | simp (disch := omega) only [go_sem, ↓reduceIte, Nat.reduceEqDiff, reduceCtorEq, Int.reduceEq, wn] | ((with_reducible first | refine condD ?_ ?_ | refine condX ?_ ?_ | refine condW_intro ?_ ?_) <;> intro h <;> first | (exfalso; omega) | simp (disch := omega) only [go_sem, ↓reduceIte, Nat.reduceEqDiff, reduceCtorEq, Int.reduceEq, *, wn] | skip) | (with_reducible refine bothW_intro ?_ ?_) | (with_reducible refine nilW_intro (fun h => ?_) ?_) | (refine callW_of pc rfl (.inr rfl) ?_) | (refine callW_of pa rfl (.inr rfl) ?_) | (refine callW_of pi rfl (.inr rfl) ?_)
  all_goals rfl
 ·rw [if_pos h0]
  clear hg h64 hf
  repeat' first | simp (disch := omega) only [go_sem, ↓reduceIte, Nat.reduceEqDiff, reduceCtorEq, Int.reduceEq, wn, h0] | ((with_reducible first | refine condD ?_ ?_ | refine condX ?_ ?_ | refine condW_intro ?_ ?_) <;> intro h <;> first | (exfalso; omega) | simp (disch := omega) only [go_sem, ↓reduceIte, Nat.reduceEqDiff, reduceCtorEq, Int.reduceEq, *, wn, h0] | skip) | (with_reducible refine bothW_intro ?_ ?_) | (with_reducible refine nilW_intro (fun h => ?_) ?_) | (refine callW_of pc rfl (.inr rfl) ?_) | (refine callW_of pa rfl (.inr rfl) ?_)
  all_goals rfl
set_option maxHeartbeats 2000000 in
theorem entail_LowerBound_abs {l : List Con} {f : Lin} {fuel : Int} (h64 : ∀ d ∈ l, con64 d) (hf : lin64 f) (hl : l.length ≤ 1000) (ht : tot l + f.2.length ≤ 1000000) (hfu : in64 fuel) :
  PCalls Tryz.prog n_entail_LowerBound [aCons l, aLin f.1 f.2, I fuel] (.tup [I (lowS l f fuel).1, Go.Abs.B (lowS l f fuel).2.1, I (lowS l f fuel).2.2]) := by
 refine PCalls.of is_entail_LowerBound (by simp) fun _ => runW_sound ?_
 simp only [c_entail_LowerBound]
 have p1 := entail_valid_abs l
 have p2 := lin_Validate_abs f.1 f.2
 have pp := fun (b : Int) (hb : B40 b) => entail_LowerBound_1_abs (b := b) h64 hf hl ht hfu hb
 clear h64 hf ht hfu
 unfold lowS
 by_cases h1 : okL l
 ·rw [decide_eq_true h1] at p1
  by_cases h2 : linOk f.2
  ·rw [if_pos h2] at p2
   rw [if_neg (by rintro (h | h); exact h h1; exact h h2)]
   clear h1 h2
   have p3 := pp (-1099511627776) (by decide)
   obtain ⟨N0, hN0⟩ : ∃ N : Nat, N = 2199023255553 := ⟨_, rfl⟩
   rw [← hN0]
   generalize provS l f fuel (-1099511627776) = X at *
   obtain ⟨ok0, e0⟩ := X
   obtain ⟨K, m⟩ := f
   simp only at p2 p3 pp ⊢
   by_cases h0 : e0 = 0
   ·subst h0
    cases ok0
    ·rw [if_pos (.inr rfl)]
     clear pp
     repeat' first | simp (disch := omega) only [go_sem, ↓reduceIte, Nat.reduceEqDiff, reduceCtorEq, Int.reduceEq] | ((with_reducible first | refine condD ?_ ?_ | refine condX ?_ ?_ | refine condW_intro ?_ ?_) <;> intro h <;> first | (exfalso; omega) | simp (disch := omega) only [go_sem, ↓reduceIte, Nat.reduceEqDiff, reduceCtorEq, Int.reduceEq, *] | skip) | (refine callW_of p1 rfl (.inl rfl) ?_) | (refine callW_of p2 rfl (.inl rfl) ?_) | (refine callW_of p3 rfl (.inl rfl) ?_)
     all_goals rfl
    ·rw [if_neg (by simp)]
     obtain ⟨R, hR⟩ : ∃ R, R = bisS l (K, m) fuel N0 (-1099511627776) 1099511627777 := ⟨_, rfl⟩
     rw [← hR]
     have HR := Lib.hid hR
     have hN : (2199023255553 : Int) ≤ N0 := by omega
     clear hR hN0
     repeat' first | simp (disch := omega) only [go_sem, ↓reduceIte, Nat.reduceEqDiff, reduceCtorEq, Int.reduceEq] | ((with_reducible first | refine condD ?_ ?_ | refine condX ?_ ?_ | refine condW_intro ?_ ?_) <;> intro h <;> first | (exfalso; omega) | simp (disch := omega) only [go_sem, ↓reduceIte, Nat.reduceEqDiff, reduceCtorEq, Int.reduceEq, *] | skip) | (refine callW_of p1 rfl (.inl rfl) ?_) | (refine callW_of p2 rfl (.inl rfl) ?_) | (refine callW_of p3 rfl (.inl rfl) ?_)
     refine AW_loop (fun s : Nat × Int × Int => ⟨[(9, .c (.clo n_entail_LowerBound_1 [.ptr 1 0, .ptr 0 0, .ptr 2 0])), (10, I s.2.1), (11, I s.2.2)], [(0, .var [.pure (pSl cP l)]), (1, .var [.pure (pI K), .pure (pMonos m)]), (2, .var [.pure (pI fuel)])], 3, 0⟩)
      (fun s => -1099511627776 ≤ s.2.1 ∧ s.2.1 < s.2.2 ∧ s.2.2 ≤ 1099511627777 ∧ s.2.2 - s.2.1 ≤ s.1 ∧ Hid (R = bisS l (K, m) fuel s.1 s.2.1 s.2.2)) (fun s => (s.2.2 - s.2.1).toNat) ⟨(N0, -1099511627776, 1099511627777), [], ⟨Int.le_refl _, (by decide : (-1099511627776 : Int) < 1099511627777), Int.le_refl _, by simp only; omega, HR⟩, by simp [Wk, wkF, wkM, wkL, look_cons, renV, renA, renC, renB, rn, clV, clA, clAs, clB, notIn, findB, findB_setB, clA.go]⟩ ?_
     clear HR hN p1 p2 p3 N0
     rintro ⟨N, low, high⟩ ⟨i1, i2, i3, i4, HR⟩
     simp only at i1 i2 i3 i4 HR
     refine runW_sound ?_
     by_cases hgo : high > low + 1
     ·have h2 := HR.out
      obtain ⟨N, rfl⟩ : ∃ M, N = M + 1 := ⟨N - 1, by omega⟩
      rw [bisS, if_neg (by omega)] at h2
      have hm1 : low < (low + high) / 2 := by omega
      have hm2 : (low + high) / 2 < high := by omega
      have p4 := pp ((low + high) / 2) (by omega)
      have ed : (low + high).fdiv 2 = (low + high) / 2 := by rw [Int.fdiv_eq_ediv_of_nonneg]; decide
      clear HR pp
      generalize provS l (K, m) fuel ((low + high) / 2) = X at *
      obtain ⟨ok, e⟩ := X
      simp only at p4 h2
      rw [← ed] at p4 h2 hm1 hm2
      clear ed
      by_cases he : e = 0
      ·subst he
       rw [if_neg (by simp)] at h2
       cases ok
       ·rw [if_neg (by simp)] at h2
        have HR := Lib.hid h2
        clear h2
        repeat' first | simp (disch := omega) only [go_sem, ↓reduceIte, Nat.reduceEqDiff, reduceCtorEq, Int.reduceEq, hgo, wrap_i64] | ((with_reducible first | refine condD ?_ ?_ | refine condX ?_ ?_ | refine condW_intro ?_ ?_) <;> intro h <;> first | (exfalso; omega) | simp (disch := omega) only [go_sem, ↓reduceIte, Nat.reduceEqDiff, reduceCtorEq, Int.reduceEq, *, hgo, wrap_i64] | skip) | (refine callW_of p4 rfl (.inl rfl) ?_)
        exact ⟨(N, low, (low + high).fdiv 2), [], ⟨i1, hm1, by simp only; omega, by simp only; omega, HR⟩, by simp only; omega, by simp [Wk, wkF, wkM, wkL, look_cons, renV, renA, renC, renB, rn, clV, clA, clAs, clB, notIn, findB, findB_setB, clA.go]⟩
       ·rw [if_pos rfl] at h2
        have HR := Lib.hid h2
        clear h2
        repeat' first | simp (disch := omega) only [go_sem, ↓reduceIte, Nat.reduceEqDiff, reduceCtorEq, Int.reduceEq, hgo, wrap_i64] | ((with_reducible first | refine condD ?_ ?_ | refine condX ?_ ?_ | refine condW_intro ?_ ?_) <;> intro h <;> first | (exfalso; omega) | simp (disch := omega) only [go_sem, ↓reduceIte, Nat.reduceEqDiff, reduceCtorEq, Int.reduceEq, *, hgo, wrap_i64] | skip) | (refine callW_of p4 rfl (.inl rfl) ?_)
        exact ⟨(N, (low + high).fdiv 2, high), [], ⟨by simp only; omega, hm2, i3, by simp only; omega, HR⟩, by simp only; omega, by simp [Wk, wkF, wkM, wkL, look_cons, renV, renA, renC, renB, rn, clV, clA, clAs, clB, notIn, findB, findB_setB, clA.go]⟩
      ·rw [if_pos he] at h2
       subst h2
       repeat' first | simp (disch := omega) only [go_sem, ↓reduceIte, Nat.reduceEqDiff, reduceCtorEq, Int.reduceEq, hgo, he, wrap_i64] | ((with_reducible first | refine condD ?_ ?_ | refine condX ?_ ?_ | refine condW_intro ?_ ?_) <;> intro h <;> first | (exfalso; omega) | simp (disch := omega) only [go_sem, ↓reduceIte, Nat.reduceEqDiff, reduceCtorEq, Int.reduceEq, *, hgo, he, wrap_i64] | skip) | (refine callW_of p4 rfl (.inl rfl) ?_)
       all_goals rfl
     ·have h2 := HR.out
      have e : bisS l (K, m) fuel N low high = (low, true, 0) := by
       cases N with
       | zero => rw [bisS]
       | succ N => rw [bisS, if_pos (by omega)]
      rw [e] at h2
      subst h2
      clear HR pp
      repeat' first | simp (disch := omega) only [go_sem, ↓reduceIte, Nat.reduceEqDiff, reduceCtorEq, Int.reduceEq, hgo, wrap_i64] | ((with_reducible first | refine condD ?_ ?_ | refine condX ?_ ?_ | refine condW_intro ?_ ?_) <;> intro h <;> first | (exfalso; omega) | simp (disch := omega) only [go_sem, ↓reduceIte, Nat.reduceEqDiff, reduceCtorEq, Int.reduceEq, *, hgo, wrap_i64] | skip)
      all_goals rfl
   ·rw [if_pos (.inl h0)]
    clear pp
    repeat' first | simp (disch := omega) only [go_sem, ↓reduceIte, Nat.reduceEqDiff, reduceCtorEq, Int.reduceEq, h0] | ((with_reducible first | refine condD ?_ ?_ | refine condX ?_ ?_ | refine condW_intro ?_ ?_) <;> intro h <;> first | (exfalso; omega) | simp (disch := omega) only [go_sem, ↓reduceIte, Nat.reduceEqDiff, reduceCtorEq, Int.reduceEq, *, h0] | skip) | (refine callW_of p1 rfl (.inl rfl) ?_) | (refine callW_of p2 rfl (.inl rfl) ?_) | (refine callW_of p3 rfl (.inl rfl) ?_)
    all_goals rfl
  ·rw [if_neg h2] at p2
   rw [if_pos (.inr h2)]
   clear h1 h2 pp
   obtain ⟨K, m⟩ := f
   simp only at p2
   repeat' first | simp (disch := omega) only [go_sem, ↓reduceIte, Nat.reduceEqDiff, reduceCtorEq, Int.reduceEq] | ((with_reducible first | refine condD ?_ ?_ | refine condX ?_ ?_ | refine condW_intro ?_ ?_) <;> intro h <;> first | (exfalso; omega) | simp (disch := omega) only [go_sem, ↓reduceIte, Nat.reduceEqDiff, reduceCtorEq, Int.reduceEq, *] | skip) | (refine callW_of p1 rfl (.inl rfl) ?_) | (refine callW_of p2 rfl (.inl rfl) ?_)
   all_goals rfl
 ·rw [decide_eq_false h1] at p1
  rw [if_pos (.inl h1)]
  clear h1 p2 pp
  obtain ⟨K, m⟩ := f
  repeat' first | simp (disch := omega) only [go_sem, ↓reduceIte, Nat.reduceEqDiff, reduceCtorEq, Int.reduceEq] | ((with_reducible first | refine condD ?_ ?_ | refine condX ?_ ?_ | refine condW_intro ?_ ?_) <;> intro h <;> first | (exfalso; omega) | simp (disch := omega) only [go_sem, ↓reduceIte, Nat.reduceEqDiff, reduceCtorEq, Int.reduceEq, *] | skip) | (refine callW_of p1 rfl (.inl rfl) ?_)
  all_goals rfl
end Go.Proofs.YtnddmjhpplopbaaGreat
