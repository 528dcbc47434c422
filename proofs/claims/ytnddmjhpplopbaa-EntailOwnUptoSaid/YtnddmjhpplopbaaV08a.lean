/- Walks by the abstract machine: which constraints are valid, the negation of a constraint, one constraint more. -/
import Derived.Test.YtnddmjhpplopbaaV07x
import Derived.Test.YtnddmjhpplopbaaPlain08
import Derived.Test.YtnddmjhpplopbaaCodesE
set_option linter.unusedVariables false
set_option linter.unusedSimpArgs false
set_option maxRecDepth 20000
namespace Go.Proofs.Ytnddmjhpplopbaa
open Go.Abs Go.RowKit

/-- Where the first invalid constraint lies. -/
noncomputable def badIx : Nat → List Con → Int
 | _, [] => -1
 | k, c :: l => if linOk c.1.2 then badIx (k + 1) l else k
theorem badIx_iff : ∀ {l : List Con} {k : Nat}, 0 ≤ badIx k l ↔ ¬ okL l
 | [], k => by simp [badIx, okL]
 |c :: l, k => by
  rw [badIx]
  have ih := badIx_iff (l := l) (k := k + 1)
  by_cases h : linOk c.1.2
  ·rw [if_pos h, ih]
   simp only [okL, List.mem_cons, forall_eq_or_imp]
   constructor
   ·exact fun h1 h2 => h1 h2.2
   ·exact fun h1 h2 => h1 ⟨h, h2⟩
  ·rw [if_neg h]
   exact ⟨fun _ h2 => h (h2 c List.mem_cons_self), fun _ => by omega⟩
theorem badIx_drop {l : List Con} {k : Nat} (h : k < l.length) : badIx k (l.drop k) = if linOk l[k].1.2 then badIx (k + 1) (l.drop (k + 1)) else k := by
 rw [List.drop_eq_getElem_cons h, badIx]
theorem entail_valid_1_abs (c : Con) : PCalls Try.prog n_entail_valid_1 [aCon c] (Go.Abs.B (decide (¬ linOk c.1.2))) := by
 refine PCalls.of is_entail_valid_1 (by simp) fun _ => runW_sound ?_
 simp only [c_entail_valid_1]
 have pv := constraint_Validate_abs c
 obtain ⟨⟨k, l⟩, q⟩ := c
 simp only at pv ⊢
 by_cases h : linOk l
 ·rw [if_pos h] at pv
  rw [decide_eq_false (not_not_intro h)]
  clear h
  repeat' first | simp (disch := omega) only [go_sem, ↓reduceIte, Nat.reduceEqDiff, reduceCtorEq, Int.reduceEq] | ((with_reducible first | refine condD ?_ ?_ | refine condX ?_ ?_ | refine condW_intro ?_ ?_) <;> intro h <;> first | (exfalso; omega) | simp (disch := omega) only [go_sem, ↓reduceIte, Nat.reduceEqDiff, reduceCtorEq, Int.reduceEq, *] | skip) | (refine callW_of pv rfl (.inl rfl) ?_)
  all_goals rfl
 ·rw [if_neg h] at pv
  rw [decide_eq_true h]
  clear h
  repeat' first | simp (disch := omega) only [go_sem, ↓reduceIte, Nat.reduceEqDiff, reduceCtorEq, Int.reduceEq] | ((with_reducible first | refine condD ?_ ?_ | refine condX ?_ ?_ | refine condW_intro ?_ ?_) <;> intro h <;> first | (exfalso; omega) | simp (disch := omega) only [go_sem, ↓reduceIte, Nat.reduceEqDiff, reduceCtorEq, Int.reduceEq, *] | skip) | (refine callW_of pv rfl (.inl rfl) ?_)
  all_goals rfl
theorem slices_IndexFunc_valid (l : List Con) : PCalls Try.prog n_slices_IndexFunc_api_Constraint_api_Constraint [aCons l, .c (.clo n_entail_valid_1 [])] (I (badIx 0 l)) := by
 refine PCalls.of is_slices_IndexFunc_api_Constraint_api_Constraint (by simp) fun hb => runW_sound ?_
 have hbl : l.length ≤ 9223372036854775807 := by have := hb.1; simpa [bndV, bndA] using this
 clear hb
 simp only [c_slices_IndexFunc_api_Constraint_api_Constraint]
 obtain ⟨R, hR⟩ : ∃ R, R = badIx 0 (l.drop 0) := ⟨_, rfl⟩
 have hR0 : badIx 0 l = R := hR.symm
 rw [hR0]
 have HR := Lib.hid hR
 clear hR hR0
 repeat' first | simp (disch := omega) only [go_sem, ↓reduceIte, Nat.reduceEqDiff, reduceCtorEq, Int.reduceEq] | ((with_reducible first | refine condD ?_ ?_ | refine condX ?_ ?_ | refine condW_intro ?_ ?_) <;> intro h <;> first | (exfalso; omega) | simp (disch := omega) only [go_sem, ↓reduceIte, Nat.reduceEqDiff, reduceCtorEq, Int.reduceEq, *] | skip)
 refine AW_loop (fun k : Nat => ⟨[(0, aCons l), (1, .c (.clo n_entail_valid_1 [])), (7, I l.length), (8, I k)], [], 0, 0⟩) (fun k => k ≤ l.length ∧ Hid (R = badIx k (l.drop k))) (fun k => l.length - k) ⟨0, [], ⟨Nat.zero_le _, HR⟩, by simp [Wk, wkF, wkM, wkL, look_cons, renV, renA, renC, renB, rn, clV, clA, clAs, clB, notIn, findB, findB_setB, clA.go]⟩ ?_
 clear HR
 rintro k ⟨hk, HR⟩
 refine runW_sound ?_
 by_cases hlt : k < l.length
 ·have g1 := map_get (f := cP) hlt
  have h2 := HR.out
  rw [badIx_drop hlt] at h2
  have p1 := entail_valid_1_abs l[k]
  clear HR
  generalize l[k] = c at *
  obtain ⟨⟨ck, cl⟩, q⟩ := c
  simp only [cP] at g1
  simp only at h2 p1
  by_cases hc : linOk cl
  ·rw [if_pos hc] at h2
   rw [decide_eq_false (not_not_intro hc)] at p1
   have HR := Lib.hid h2
   clear h2 hc
   repeat' first | simp (disch := omega) only [go_sem, ↓reduceIte, Nat.reduceEqDiff, reduceCtorEq, Int.reduceEq, g1, wrap_i64] | ((with_reducible first | refine condD ?_ ?_ | refine condX ?_ ?_ | refine condW_intro ?_ ?_) <;> intro h <;> first | (exfalso; omega) | simp (disch := omega) only [go_sem, ↓reduceIte, Nat.reduceEqDiff, reduceCtorEq, Int.reduceEq, *, g1, wrap_i64] | skip) | (refine callW_of p1 rfl (.inl rfl) ?_)
   exact ⟨k + 1, [], ⟨hlt, HR⟩, by omega, by simp [Wk, wkF, wkM, wkL, look_cons, renV, renA, renC, renB, rn, clV, clA, clAs, clB, notIn, findB, findB_setB, clA.go]⟩
  ·rw [if_neg hc] at h2
   rw [decide_eq_true hc] at p1
   subst h2
   clear hc
   repeat' first | simp (disch := omega) only [go_sem, ↓reduceIte, Nat.reduceEqDiff, reduceCtorEq, Int.reduceEq, g1, wrap_i64] | ((with_reducible first | refine condD ?_ ?_ | refine condX ?_ ?_ | refine condW_intro ?_ ?_) <;> intro h <;> first | (exfalso; omega) | simp (disch := omega) only [go_sem, ↓reduceIte, Nat.reduceEqDiff, reduceCtorEq, Int.reduceEq, *, g1, wrap_i64] | skip) | (refine callW_of p1 rfl (.inl rfl) ?_)
   all_goals rfl
 ·have h2 := HR.out
  rw [List.drop_eq_nil_of_le (by omega), badIx] at h2
  subst h2
  clear HR
  repeat' first | simp (disch := omega) only [go_sem, ↓reduceIte, Nat.reduceEqDiff, reduceCtorEq, Int.reduceEq] | ((with_reducible first | refine condD ?_ ?_ | refine condX ?_ ?_ | refine condW_intro ?_ ?_) <;> intro h <;> first | (exfalso; omega) | simp (disch := omega) only [go_sem, ↓reduceIte, Nat.reduceEqDiff, reduceCtorEq, Int.reduceEq, *] | skip)
  all_goals rfl
theorem slices_ContainsFunc_valid (l : List Con) : PCalls Try.prog n_slices_ContainsFunc_api_Constraint_api_Constraint [aCons l, .c (.clo n_entail_valid_1 [])] (Go.Abs.B (decide (¬ okL l))) := by
 refine PCalls.of is_slices_ContainsFunc_api_Constraint_api_Constraint (by simp) fun hb => runW_sound ?_
 simp only [c_slices_ContainsFunc_api_Constraint_api_Constraint]
 have p1 := slices_IndexFunc_valid l
 have e := badIx_iff (l := l) (k := 0)
 have e2 : decide (¬ okL l) = decide (0 ≤ badIx 0 l) := by
  by_cases h : okL l
  ·rw [decide_eq_false (not_not_intro h), decide_eq_false (fun h' => e.1 h' h)]
  ·rw [decide_eq_true h, decide_eq_true (e.2 h)]
 rw [e2]
 clear e e2
 generalize badIx 0 l = R at *
 by_cases h0 : 0 ≤ R
 ·rw [decide_eq_true h0]
  repeat' first | simp (disch := omega) only [go_sem, ↓reduceIte, Nat.reduceEqDiff, reduceCtorEq, Int.reduceEq, h0] | ((with_reducible first | refine condD ?_ ?_ | refine condX ?_ ?_ | refine condW_intro ?_ ?_) <;> intro h <;> first | (exfalso; omega) | simp (disch := omega) only [go_sem, ↓reduceIte, Nat.reduceEqDiff, reduceCtorEq, Int.reduceEq, *, h0] | skip) | (refine callW_of p1 rfl (.inl rfl) ?_)
  all_goals first | rfl | simp [h0]
 ·rw [decide_eq_false h0]
  repeat' first | simp (disch := omega) only [go_sem, ↓reduceIte, Nat.reduceEqDiff, reduceCtorEq, Int.reduceEq, h0] | ((with_reducible first | refine condD ?_ ?_ | refine condX ?_ ?_ | refine condW_intro ?_ ?_) <;> intro h <;> first | (exfalso; omega) | simp (disch := omega) only [go_sem, ↓reduceIte, Nat.reduceEqDiff, reduceCtorEq, Int.reduceEq, *, h0] | skip) | (refine callW_of p1 rfl (.inl rfl) ?_)
  all_goals first | rfl | simp [h0]
theorem entail_valid_abs (l : List Con) : PCalls Try.prog n_entail_valid [aCons l] (Go.Abs.B (decide (okL l))) := by
 refine PCalls.of is_entail_valid (by simp) fun hb => runW_sound ?_
 simp only [c_entail_valid]
 have p1 := slices_ContainsFunc_valid l
 by_cases h : okL l
 ·rw [decide_eq_false (not_not_intro h)] at p1
  rw [decide_eq_true h]
  clear h
  repeat' first | simp (disch := omega) only [go_sem, ↓reduceIte, Nat.reduceEqDiff, reduceCtorEq, Int.reduceEq] | ((with_reducible first | refine condD ?_ ?_ | refine condX ?_ ?_ | refine condW_intro ?_ ?_) <;> intro h <;> first | (exfalso; omega) | simp (disch := omega) only [go_sem, ↓reduceIte, Nat.reduceEqDiff, reduceCtorEq, Int.reduceEq, *] | skip) | (refine callW_of p1 rfl (.inl rfl) ?_)
  all_goals rfl
 ·rw [decide_eq_true h] at p1
  rw [decide_eq_false h]
  clear h
  repeat' first | simp (disch := omega) only [go_sem, ↓reduceIte, Nat.reduceEqDiff, reduceCtorEq, Int.reduceEq] | ((with_reducible first | refine condD ?_ ?_ | refine condX ?_ ?_ | refine condW_intro ?_ ?_) <;> intro h <;> first | (exfalso; omega) | simp (disch := omega) only [go_sem, ↓reduceIte, Nat.reduceEqDiff, reduceCtorEq, Int.reduceEq, *] | skip) | (refine callW_of p1 rfl (.inl rfl) ?_)
  all_goals rfl
/-- The lower part of a negation, as a form. -/
def negL (l : List Mono) : List Mono := l.map fun m => (m.1, -m.2)
noncomputable def oppS (f : Lin) : Lin × Int := if minAt f.2 then ((0, []), 3) else ((-1 - f.1, negL f.2), 0)
theorem negL_take {l : List Mono} {k : Nat} (h : k < l.length) : (negL (l.take (k + 1))).map mP = (negL (l.take k)).map mP ++ [[pS l[k].1, pI (-l[k].2)]] := by
 rw [List.take_succ_eq_append_getElem h]
 show ((l.take k ++ [l[k]]).map _).map mP = _
 rw [List.map_append, List.map_append]
 rfl
theorem minAt_take {l : List Mono} {k : Nat} (h : k < l.length) (h0 : ¬ minAt (l.take k)) (h1 : l[k].2 ≠ -9223372036854775808) : ¬ minAt (l.take (k + 1)) := by
 rw [List.take_succ_eq_append_getElem h]
 rintro ⟨m, hm, e⟩
 rcases List.mem_append.1 hm with hm | hm
 ·exact h0 ⟨m, hm, e⟩
 ·rw [List.mem_singleton.1 hm] at e; exact h1 e
theorem constraint_opposite_abs {f : Lin} (h64 : lin64 f) (hs : short f.2) : PCalls Try.prog n_constraint_opposite [aLin f.1 f.2] (aLinE (oppS f)) := by
 refine PCalls.of is_constraint_opposite (by simp) fun _ => runW_sound ?_
 simp only [c_constraint_opposite]
 obtain ⟨K, l⟩ := f
 obtain ⟨hK, hl⟩ := h64
 unfold short at hs
 simp only at hK hl hs ⊢
 have wk : IntKind.wrap .i64 (-1 - K) = -1 - K := wrap_i64 (by unfold in64 at hK; omega)
 obtain ⟨R, hR⟩ : ∃ R, R = oppS (K, l) := ⟨_, rfl⟩
 rw [← hR]
 have HR := Lib.hid hR
 clear hR hK
 repeat' first | simp (disch := omega) only [go_sem, ↓reduceIte, Nat.reduceEqDiff, reduceCtorEq, Int.reduceEq, wk] | ((with_reducible first | refine condD ?_ ?_ | refine condX ?_ ?_ | refine condW_intro ?_ ?_) <;> intro h <;> first | (exfalso; omega) | simp (disch := omega) only [go_sem, ↓reduceIte, Nat.reduceEqDiff, reduceCtorEq, Int.reduceEq, *, wk] | skip)
 refine AW_adoptM 2 1 79 2 _ rfl rfl (by decide) ?_
 refine AW_loop (fun j : Nat => ⟨[(2, .c (.ptr 1 0)), (4, .c (.ptr 2 0)), (12, .c (.pure (pMonos l))), (13, I l.length), (14, I j)],
  [(0, .var [.pure (pI K), .pure (pMonos l)]), (1, .var [.pure (pI 0), .nils]), (2, .var [.pure (pI (-1 - K)), .ref 3]), (3, .arr 79 2 ((negL (l.take j)).map mP))], 4, 0⟩) (fun j => j ≤ l.length ∧ Hid (¬ minAt (l.take j))) (fun j => l.length - j) ⟨0, [], ⟨Nat.zero_le _, Lib.hid (by simp [minAt])⟩, by simp [Wk, wkF, wkM, wkL, look_cons, renV, renA, renC, renB, rn, clV, clA, clAs, clB, notIn, findB, findB_setB, clA.go, negL]⟩ ?_
 rintro j ⟨hj, HM⟩
 refine runW_sound ?_
 by_cases hlt : j < l.length
 ·have e1 := negL_take hlt
  have g1 := map_get (f := mP) hlt
  have hlen : (negL (l.take j)).length ≤ 1000000000 := by simp [negL]; omega
  have hx := hl _ (List.getElem_mem hlt)
  by_cases hm : l[j].2 = -9223372036854775808
  ·have h2 : R = ((0, []), 3) := by rw [HR.out, oppS, if_pos ⟨_, List.getElem_mem hlt, hm⟩]
   subst h2
   clear HR HM
   generalize l[j] = m at *
   obtain ⟨n, x⟩ := m
   simp only [mP] at g1 e1
   simp only at hm hx
   subst hm
   repeat' first | simp (disch := omega) only [go_sem, ↓reduceIte, Nat.reduceEqDiff, reduceCtorEq, Int.reduceEq, g1, wrap_i64] | ((with_reducible first | refine condD ?_ ?_ | refine condX ?_ ?_ | refine condW_intro ?_ ?_) <;> intro h <;> first | (exfalso; omega) | simp (disch := omega) only [go_sem, ↓reduceIte, Nat.reduceEqDiff, reduceCtorEq, Int.reduceEq, *, g1, wrap_i64] | skip)
   all_goals rfl
  ·have HM' : Hid (¬ minAt (l.take (j + 1))) := Lib.hid (minAt_take hlt HM.out hm)
   clear HM
   generalize l[j] = m at *
   obtain ⟨n, x⟩ := m
   simp only [mP] at g1 e1
   simp only at hm hx
   have wx : IntKind.wrap .i64 (-x) = -x := wrap_i64 (by unfold in64 at hx; omega)
   generalize negL (l.take j) = D0 at *
   repeat' first | simp (disch := omega) only [go_sem, ↓reduceIte, Nat.reduceEqDiff, reduceCtorEq, Int.reduceEq, g1, wrap_i64, hm, wx] | ((with_reducible first | refine condD ?_ ?_ | refine condX ?_ ?_ | refine condW_intro ?_ ?_) <;> intro h <;> first | (exfalso; omega) | simp (disch := omega) only [go_sem, ↓reduceIte, Nat.reduceEqDiff, reduceCtorEq, Int.reduceEq, *, g1, wrap_i64, hm, wx] | skip) | (refine app_own rfl (by intro h; cases h) (rowsOk_one rfl) (by simp; omega) (by simp; omega) ?_)
   exact ⟨j + 1, [(3, 5)], ⟨hlt, HM'⟩, by omega, by simp [Wk, wkF, wkM, wkL, look_cons, renV, renA, renC, renB, rn, clV, clA, clAs, clB, notIn, findB, findB_setB, clA.go, e1, wx]⟩
 ·obtain rfl : j = l.length := by omega
  have hM := HM.out
  rw [List.take_of_length_le (Nat.le_refl _)] at hM
  have h2 : R = ((-1 - K, negL l), 0) := by rw [HR.out, oppS, if_neg hM]
  subst h2
  clear HR HM hM
  rw [List.take_of_length_le (Nat.le_refl _)]
  repeat' first | simp (disch := omega) only [go_sem, ↓reduceIte, Nat.reduceEqDiff, reduceCtorEq, Int.reduceEq] | ((with_reducible first | refine condD ?_ ?_ | refine condX ?_ ?_ | refine condW_intro ?_ ?_) <;> intro h <;> first | (exfalso; omega) | simp (disch := omega) only [go_sem, ↓reduceIte, Nat.reduceEqDiff, reduceCtorEq, Int.reduceEq, *] | skip)
  all_goals rfl
theorem oppS_neg {c : Con} (hok : linOk c.1.2) : negS c = if (oppS c.1).2 ≠ 0 then ([], (oppS c.1).2) else if c.2 = false then ([((oppS c.1).1, false)], 0) else if c.1.1 = -9223372036854775808 then ([], 3) else ([((c.1.1 - 1, c.1.2), false), ((oppS c.1).1, false)], 0) := by
 unfold negS oppS
 rw [if_neg (not_not_intro hok)]
 by_cases h : minAt c.1.2
 ·rw [if_pos h, if_pos h, if_pos (by decide)]
 ·rw [if_neg h, if_neg h]
  simp only [ne_eq, not_true_eq_false, if_false]
  rfl
theorem constraint_Negate_abs {c : Con} (h64 : con64 c) (hs : short c.1.2) : PCalls Try.prog n_constraint_Negate [aCon c] (aConsE (negS c)) := by
 refine PCalls.of is_constraint_Negate (by simp) fun _ => runW_sound ?_
 simp only [c_constraint_Negate]
 have pv := constraint_Validate_abs c
 by_cases hok : linOk c.1.2
 ·have po := constraint_opposite_abs (f := c.1) h64 hs
  rw [oppS_neg hok]
  rw [if_pos hok] at pv
  have hK := h64.1
  generalize oppS c.1 = O at *
  obtain ⟨⟨OK, OL⟩, oe⟩ := O
  obtain ⟨⟨K, l⟩, q⟩ := c
  unfold short at hs
  try simp only at po pv hs hK ⊢
  clear hok h64
  unfold in64 at hK
  by_cases h0 : oe = 0
  ·subst h0
   rw [if_neg (by simp)]
   cases q
   ·rw [if_pos rfl]
    repeat' first | simp (disch := omega) only [go_sem, ↓reduceIte, Nat.reduceEqDiff, reduceCtorEq, Int.reduceEq] | ((with_reducible first | refine condD ?_ ?_ | refine condX ?_ ?_ | refine condW_intro ?_ ?_) <;> intro h <;> first | (exfalso; omega) | simp (disch := omega) only [go_sem, ↓reduceIte, Nat.reduceEqDiff, reduceCtorEq, Int.reduceEq, *] | skip) | (refine callW_of pv rfl (.inl rfl) ?_) | (refine callW_of po rfl (.inr rfl) ?_)
    all_goals rfl
   ·rw [if_neg (by simp)]
    by_cases h1 : K = -9223372036854775808
    ·rw [if_pos h1]
     subst h1
     repeat' first | simp (disch := omega) only [go_sem, ↓reduceIte, Nat.reduceEqDiff, reduceCtorEq, Int.reduceEq] | ((with_reducible first | refine condD ?_ ?_ | refine condX ?_ ?_ | refine condW_intro ?_ ?_) <;> intro h <;> first | (exfalso; omega) | simp (disch := omega) only [go_sem, ↓reduceIte, Nat.reduceEqDiff, reduceCtorEq, Int.reduceEq, *] | skip) | (refine callW_of pv rfl (.inl rfl) ?_) | (refine callW_of po rfl (.inr rfl) ?_)
     all_goals rfl
    ·rw [if_neg h1]
     have wk : IntKind.wrap .i64 (K - 1) = K - 1 := wrap_i64 (by omega)
     have hro : rowsOk 2 (l.map mP) := rowsOk_map fun _ => rfl
     repeat' first | simp (disch := omega) only [go_sem, ↓reduceIte, Nat.reduceEqDiff, reduceCtorEq, Int.reduceEq, h1, wk] | ((with_reducible first | refine condD ?_ ?_ | refine condX ?_ ?_ | refine condW_intro ?_ ?_) <;> intro h <;> first | (exfalso; omega) | simp (disch := omega) only [go_sem, ↓reduceIte, Nat.reduceEqDiff, reduceCtorEq, Int.reduceEq, *, h1, wk] | skip) | (with_reducible refine bothW_intro ?_ ?_) | (with_reducible refine nilW_intro (fun h => ?_) ?_) | (refine callW_of pv rfl (.inl rfl) ?_) | (refine callW_of po rfl (.inr rfl) ?_) | (refine app_nilP hro (by simp; omega) (by simp; omega) ?_)
     all_goals rfl
  ·rw [if_pos h0]
   repeat' first | simp (disch := omega) only [go_sem, ↓reduceIte, Nat.reduceEqDiff, reduceCtorEq, Int.reduceEq, h0] | ((with_reducible first | refine condD ?_ ?_ | refine condX ?_ ?_ | refine condW_intro ?_ ?_) <;> intro h <;> first | (exfalso; omega) | simp (disch := omega) only [go_sem, ↓reduceIte, Nat.reduceEqDiff, reduceCtorEq, Int.reduceEq, *, h0] | skip) | (refine callW_of pv rfl (.inl rfl) ?_) | (refine callW_of po rfl (.inr rfl) ?_)
   all_goals rfl
 ·rw [if_neg hok] at pv
  rw [negS, if_pos hok]
  obtain ⟨⟨K, l⟩, q⟩ := c
  try simp only at pv ⊢
  clear hok
  repeat' first | simp (disch := omega) only [go_sem, ↓reduceIte, Nat.reduceEqDiff, reduceCtorEq, Int.reduceEq] | ((with_reducible first | refine condD ?_ ?_ | refine condX ?_ ?_ | refine condW_intro ?_ ?_) <;> intro h <;> first | (exfalso; omega) | simp (disch := omega) only [go_sem, ↓reduceIte, Nat.reduceEqDiff, reduceCtorEq, Int.reduceEq, *] | skip) | (refine callW_of pv rfl (.inl rfl) ?_)
  all_goals rfl
theorem entail_negation_abs {l : List Con} {c : Con} (h64 : con64 c) (hs : short c.1.2) : PCalls Try.prog n_entail_negation [aCons l, aCon c] (aConsE (negaS l c)) := by
 refine PCalls.of is_entail_negation (by simp) fun _ => runW_sound ?_
 simp only [c_entail_negation]
 have p1 := entail_valid_abs l
 have p2 := constraint_Validate_abs c
 have p3 := constraint_Negate_abs h64 hs
 unfold negaS
 by_cases h1 : okL l
 ·rw [decide_eq_true h1] at p1
  by_cases h2 : linOk c.1.2
  ·rw [if_pos h2] at p2
   rw [if_neg (by rintro (h | h); exact h h1; exact h h2)]
   clear h1 h2 h64 hs
   obtain ⟨⟨K, m⟩, q⟩ := c
   try simp only at p2 p3
   generalize negS ((K, m), q) = X at *
   obtain ⟨xs, e⟩ := X
   try simp only at p3
   repeat' first | simp (disch := omega) only [go_sem, ↓reduceIte, Nat.reduceEqDiff, reduceCtorEq, Int.reduceEq] | ((with_reducible first | refine condD ?_ ?_ | refine condX ?_ ?_ | refine condW_intro ?_ ?_) <;> intro h <;> first | (exfalso; omega) | simp (disch := omega) only [go_sem, ↓reduceIte, Nat.reduceEqDiff, reduceCtorEq, Int.reduceEq, *] | skip) | (refine callW_of p1 rfl (.inl rfl) ?_) | (refine callW_of p2 rfl (.inl rfl) ?_) | (refine callW_of p3 rfl (.inr rfl) ?_)
   all_goals rfl
  ·rw [if_neg h2] at p2
   rw [if_pos (.inr h2)]
   clear h1 h2 h64 hs p3
   obtain ⟨⟨K, m⟩, q⟩ := c
   try simp only at p2
   repeat' first | simp (disch := omega) only [go_sem, ↓reduceIte, Nat.reduceEqDiff, reduceCtorEq, Int.reduceEq] | ((with_reducible first | refine condD ?_ ?_ | refine condX ?_ ?_ | refine condW_intro ?_ ?_) <;> intro h <;> first | (exfalso; omega) | simp (disch := omega) only [go_sem, ↓reduceIte, Nat.reduceEqDiff, reduceCtorEq, Int.reduceEq, *] | skip) | (refine callW_of p1 rfl (.inl rfl) ?_) | (refine callW_of p2 rfl (.inl rfl) ?_)
   all_goals rfl
 ·rw [decide_eq_false h1] at p1
  rw [if_pos (.inl h1)]
  clear h1 h64 hs p3 p2
  obtain ⟨⟨K, m⟩, q⟩ := c
  repeat' first | simp (disch := omega) only [go_sem, ↓reduceIte, Nat.reduceEqDiff, reduceCtorEq, Int.reduceEq] | ((with_reducible first | refine condD ?_ ?_ | refine condX ?_ ?_ | refine condW_intro ?_ ?_) <;> intro h <;> first | (exfalso; omega) | simp (disch := omega) only [go_sem, ↓reduceIte, Nat.reduceEqDiff, reduceCtorEq, Int.reduceEq, *] | skip) | (refine callW_of p1 rfl (.inl rfl) ?_)
  all_goals rfl
theorem Clone_nil (B : Box) : ICalls Try.prog n_slices_Clone_api_Constraint_api_Constraint [aCons []] [(0, B)] 1 (.c (.tsl [])) [(0, B)] 1 := by
 refine ICalls.of is_slices_Clone_api_Constraint_api_Constraint (by simp) fun _ => ?_
 simp only [c_slices_Clone_api_Constraint_api_Constraint]
 refine AW_seq (runW_sound ?_)
 repeat' first | simp (disch := omega) only [go_sem, ↓reduceIte, Nat.reduceEqDiff, reduceCtorEq, Int.reduceEq] | ((with_reducible first | refine condD ?_ ?_ | refine condX ?_ ?_ | refine condW_intro ?_ ?_) <;> intro h <;> first | (exfalso; omega) | simp (disch := omega) only [go_sem, ↓reduceIte, Nat.reduceEqDiff, reduceCtorEq, Int.reduceEq, *] | skip)
 refine AW_seq (AW_seq (runW_sound ?_))
 repeat' first | simp (disch := omega) only [go_sem, ↓reduceIte, Nat.reduceEqDiff, reduceCtorEq, Int.reduceEq] | ((with_reducible first | refine condD ?_ ?_ | refine condX ?_ ?_ | refine condW_intro ?_ ?_) <;> intro h <;> first | (exfalso; omega) | simp (disch := omega) only [go_sem, ↓reduceIte, Nat.reduceEqDiff, reduceCtorEq, Int.reduceEq, *] | skip) | (with_reducible refine bothW_intro ?_ ?_) | (with_reducible refine nilW_intro (fun h => ?_) ?_)
 ·refine AW_cond (t := true) rfl (fun _ => ?_) (fun e => by cases e)
  refine AW_seq (runW_sound ?_)
  repeat' first | simp (disch := omega) only [go_sem, ↓reduceIte, Nat.reduceEqDiff, reduceCtorEq, Int.reduceEq] | ((with_reducible first | refine condD ?_ ?_ | refine condX ?_ ?_ | refine condW_intro ?_ ?_) <;> intro h <;> first | (exfalso; omega) | simp (disch := omega) only [go_sem, ↓reduceIte, Nat.reduceEqDiff, reduceCtorEq, Int.reduceEq, *] | skip)
  refine AW_nilT 2 rfl (AW_ret ?_)
  repeat' first | simp (disch := omega) only [go_sem, ↓reduceIte, Nat.reduceEqDiff, reduceCtorEq, Int.reduceEq, retI] | ((with_reducible first | refine condD ?_ ?_ | refine condX ?_ ?_ | refine condW_intro ?_ ?_) <;> intro h <;> first | (exfalso; omega) | simp (disch := omega) only [go_sem, ↓reduceIte, Nat.reduceEqDiff, reduceCtorEq, Int.reduceEq, *, retI] | skip)
  all_goals first | rfl | trace_state
 ·refine AW_cond (t := false) rfl (fun e => by cases e) (fun _ => AW_skip ?_)
  change AW _ _ _ _ _
  refine AW_seq (runW_sound ?_)
  repeat' first | simp (disch := omega) only [go_sem, ↓reduceIte, Nat.reduceEqDiff, reduceCtorEq, Int.reduceEq] | ((with_reducible first | refine condD ?_ ?_ | refine condX ?_ ?_ | refine condW_intro ?_ ?_) <;> intro h <;> first | (exfalso; omega) | simp (disch := omega) only [go_sem, ↓reduceIte, Nat.reduceEqDiff, reduceCtorEq, Int.reduceEq, *] | skip) | (refine app_tslN (by intro r hr; cases hr) ?_)
  refine AW_ret ?_
  repeat' first | simp (disch := omega) only [go_sem, ↓reduceIte, Nat.reduceEqDiff, reduceCtorEq, Int.reduceEq, retI] | ((with_reducible first | refine condD ?_ ?_ | refine condX ?_ ?_ | refine condW_intro ?_ ?_) <;> intro h <;> first | (exfalso; omega) | simp (disch := omega) only [go_sem, ↓reduceIte, Nat.reduceEqDiff, reduceCtorEq, Int.reduceEq, *, retI] | skip)
  all_goals first | rfl | trace_state
theorem Clone_cons (B : Box) (x : Con) (l : List Con) (hl : l.length + 1 ≤ 1000000000) : ICalls Try.prog n_slices_Clone_api_Constraint_api_Constraint [aCons (x :: l)] [(0, B)] 1 (.c (.ref 1)) [(1, .arr 36 3 ((x :: l).map cP)), (0, B)] 2 := by
 refine ICalls.of is_slices_Clone_api_Constraint_api_Constraint (by simp) fun _ => runW_sound ?_
 simp only [c_slices_Clone_api_Constraint_api_Constraint]
 have hok : rowsOk 3 ((x :: l).map cP) := by
  intro r hr
  obtain ⟨y, _, rfl⟩ := List.mem_map.1 hr
  rfl
 repeat' first | simp (disch := omega) only [go_sem, ↓reduceIte, Nat.reduceEqDiff, reduceCtorEq, Int.reduceEq] | ((with_reducible first | refine condD ?_ ?_ | refine condX ?_ ?_ | refine condW_intro ?_ ?_) <;> intro h <;> first | (exfalso; omega) | simp (disch := omega) only [go_sem, ↓reduceIte, Nat.reduceEqDiff, reduceCtorEq, Int.reduceEq, *] | skip) | (with_reducible refine bothW_intro ?_ ?_) | (with_reducible refine nilW_intro (fun h => ?_) ?_) | (refine app_tsl (by intro r hr; cases hr) hok (by simp) (by simp; omega) (by simp; omega) ?_)
 all_goals first | rfl | (exfalso; have := h (cP x) List.mem_cons_self; cases this)
end Go.Proofs.Ytnddmjhpplopbaa
