/- Walks by the abstract machine: the reference's sorted names of forms. -/
import Derived.Test.YtnddmjhpplopbaaV07x
import Derived.Test.YtnddmjhpplopbaaCodesE
set_option linter.unusedVariables false
set_option linter.unusedSimpArgs false
set_option maxRecDepth 20000
namespace Go.Proofs.Ytnddmjhpplopbaa
open Go.Abs Go.RowKit

def srtN (a : List ByteArray) : Prop := a.Pairwise fun x y => sless x y = true
/-- A name more in a sorted list. -/
def insN (a : List ByteArray) (s : ByteArray) : List ByteArray := if s ∈ a then a else a.filter (fun x => sless x s) ++ s :: a.filter (fun x => !sless x s)
def namesS (l : List ByteArray) : List ByteArray := l.foldl insN []
theorem insN_mem {a : List ByteArray} {s n : ByteArray} : n ∈ insN a s ↔ n ∈ a ∨ n = s := by
 rw [insN]
 split
 ·rename_i h
  constructor
  ·exact .inl
  ·rintro (h1 | rfl)
   ·exact h1
   ·exact h
 ·simp only [List.mem_append, List.mem_cons, List.mem_filter]
  constructor
  ·rintro (h | rfl | h)
   ·exact .inl h.1
   ·exact .inr rfl
   ·exact .inl h.1
  ·rintro (h | rfl)
   ·cases hx : sless n s with
    | true => exact .inl ⟨h, rfl⟩
    | false => exact .inr (.inr ⟨h, rfl⟩)
   ·exact .inr (.inl rfl)
theorem insN_srt {a : List ByteArray} {s : ByteArray} (h : srtN a) : srtN (insN a s) := by
 rw [insN]
 split
 ·exact h
 ·rename_i hs
  unfold srtN at h ⊢
  rw [List.pairwise_append, List.pairwise_cons]
  have hge : ∀ x ∈ a, (!sless x s) = true → sless s x = true := fun x hx hn => by
   rcases sless_tri x s with h1 | h1 | h1
   ·rw [h1] at hn; cases hn
   ·exact absurd (h1 ▸ hx) hs
   ·exact h1
  refine ⟨h.filter _, ⟨fun x hx => ?_, h.filter _⟩, fun x hx y hy => ?_⟩
  ·obtain ⟨h1, h2⟩ := List.mem_filter.1 hx
   exact hge x h1 h2
  ·obtain ⟨h1, h2⟩ := List.mem_filter.1 hx
   rcases List.mem_cons.1 hy with rfl | hy
   ·exact h2
   ·obtain ⟨h3, h4⟩ := List.mem_filter.1 hy
    exact sless_trans h2 (hge y h3 h4)
theorem insN_len {a : List ByteArray} {s : ByteArray} : (insN a s).length ≤ a.length + 1 := by
 rw [insN]
 split
 ·omega
 ·rw [List.length_append, List.length_cons]
  have h : ∀ l : List ByteArray, (l.filter fun x => sless x s).length + (l.filter fun x => !sless x s).length = l.length := fun l => by
   induction l with
   | nil => rfl
   | cons x l ih =>
    rw [List.filter_cons, List.filter_cons, List.length_cons]
    cases sless x s
    ·simp only [Bool.false_eq_true, if_false, Bool.not_false, if_true, List.length_cons]; omega
    ·simp only [if_true, Bool.not_true, Bool.false_eq_true, if_false, List.length_cons]; omega
  have := h a
  omega
theorem insN_at {a : List ByteArray} {s : ByteArray} {p : Nat} (h : srtN a) (hs : ¬ s ∈ a) (h1 : ∀ x ∈ a.drop p, sless s x = true) (h2 : ∀ x ∈ a.take p, sless x s = true) : insN a s = a.take p ++ s :: a.drop p := by
 have e1 : a.filter (fun x => sless x s) = a.take p := by
  conv => lhs; rw [← List.take_append_drop p a]
  rw [List.filter_append, List.filter_eq_self.2 h2, List.filter_eq_nil_iff.2 (fun x hx h => by
   have := sless_asymm (h1 x hx)
   rw [h] at this
   simp at this), List.append_nil]
 have e2 : a.filter (fun x => !sless x s) = a.drop p := by
  conv => lhs; rw [← List.take_append_drop p a]
  rw [List.filter_append, List.filter_eq_nil_iff.2 (fun x hx h => by rw [h2 x hx] at h; cases h), List.nil_append, List.filter_eq_self.2 (fun x hx => by
   have := sless_asymm (h1 x hx)
   simpa using this)]
 rw [insN, if_neg hs, e1, e2]
theorem take_less {a : List ByteArray} {s : ByteArray} {p : Nat} (h : srtN a) (hp : p < a.length) (h2 : sless a[p] s = true) : ∀ x ∈ a.take (p + 1), sless x s = true := by
 intro x hx
 obtain ⟨i, hi, rfl⟩ := List.mem_iff_getElem.1 hx
 rw [List.length_take] at hi
 rw [List.getElem_take]
 by_cases e : i = p
 ·subst e; exact h2
 ·exact sless_trans (List.pairwise_iff_getElem.1 h i p (by omega) hp (by omega)) h2
abbrev sRows (l : List ByteArray) : List (List PC) := l.map fun s => [pS s]
theorem ins_swap {a : List ByteArray} {s : ByteArray} {p : Nat} (hp : p < a.length) : ((sRows (a.take (p + 1) ++ s :: a.drop (p + 1))).set (p + 1) [pS a[p]]).set p [pS s] = sRows (a.take p ++ s :: a.drop p) := by
 apply List.ext_getElem?
 intro i
 rw [List.getElem?_set, List.getElem?_set]
 have hl1 : (a.take (p + 1)).length = p + 1 := by rw [List.length_take]; omega
 have hl2 : (a.take p).length = p := by rw [List.length_take]; omega
 simp only [sRows, List.length_set, List.length_map, List.length_append, List.length_cons, hl1, List.length_drop]
 by_cases e1 : p = i
 ·subst e1
  rw [if_pos rfl, if_pos (by omega), List.getElem?_map, List.getElem?_append_right (by omega), hl2]
  simp
 ·rw [if_neg e1]
  by_cases e2 : p + 1 = i
  ·subst e2
   rw [if_pos rfl, if_pos (by omega), List.getElem?_map, List.getElem?_append_right (by omega), hl2, show p + 1 - p = 1 by omega, List.getElem?_cons_succ, List.getElem?_drop]
   simp [hp]
  ·rw [if_neg e2, List.getElem?_map, List.getElem?_map]
   congr 1
   by_cases e3 : i < p
   ·rw [List.getElem?_append_left (by omega), List.getElem?_append_left (by omega), List.getElem?_take_of_lt (by omega), List.getElem?_take_of_lt (by omega)]
   ·rw [List.getElem?_append_right (by omega), List.getElem?_append_right (by omega), hl1, hl2]
    obtain ⟨k, rfl⟩ : ∃ k, i = p + 2 + k := ⟨i - (p + 2), by omega⟩
    rw [show p + 2 + k - (p + 1) = k + 1 by omega, show p + 2 + k - p = (k + 1) + 1 by omega, List.getElem?_cons_succ, List.getElem?_cons_succ, List.getElem?_drop, List.getElem?_drop]
    congr 1
    omega
theorem ref05_insert_has {a : List ByteArray} {s : ByteArray} (h : s ∈ a) : ICalls Try.prog n_ref05_insert [.c (.ref 0), S s] [(0, .arr 9 1 (sRows a))] 1 (.c (.ref 0)) [(0, .arr 9 1 (sRows a))] 1 := by
 refine ICalls.of is_ref05_insert (by simp) fun _ => runW_sound ?_
 have ph := base_Has_abs a s
 rw [decide_eq_true h] at ph
 clear h
 simp only [c_ref05_insert]
 repeat' first | simp (disch := omega) only [go_sem, ↓reduceIte, Nat.reduceEqDiff, reduceCtorEq, Int.reduceEq] | ((with_reducible first | refine condD ?_ ?_ | refine condX ?_ ?_ | refine condW_intro ?_ ?_) <;> intro h <;> first | (exfalso; omega) | simp (disch := omega) only [go_sem, ↓reduceIte, Nat.reduceEqDiff, reduceCtorEq, Int.reduceEq, *] | skip) | (refine callW_of ph rfl (.inl rfl) ?_)
 all_goals rfl
set_option maxHeartbeats 2000000 in
theorem ref05_insert_new {a : List ByteArray} {s : ByteArray} (h : ¬ s ∈ a) (hs : srtN a) (hl : a.length ≤ 1000000000) : ICalls Try.prog n_ref05_insert [.c (.ref 0), S s] [(0, .arr 9 1 (sRows a))] 1 (.c (.ref 1)) [(1, .arr 9 1 (sRows (insN a s)))] 2 := by
 refine ICalls.of is_ref05_insert (by simp) fun _ => runW_sound ?_
 have ph := base_Has_abs a s
 rw [decide_eq_false h] at ph
 simp only [c_ref05_insert]
 obtain ⟨R, hR⟩ : ∃ R, R = sRows (insN a s) := ⟨_, rfl⟩
 rw [← hR]
 have HR : Hid (∀ p, (∀ x ∈ a.drop p, sless s x = true) → (∀ x ∈ a.take p, sless x s = true) → R = sRows (a.take p ++ s :: a.drop p)) := Lib.hid (fun p h1 h2 => by rw [hR, insN_at hs h h1 h2])
 have HN := Lib.hid h
 have HS := Lib.hid hs
 clear hR h hs
 have e0 : ((sRows a ++ [[PC.val (Value.string s)]]).length : Int) = (a.length : Int) + 1 := by simp
 have w0 : IntKind.wrap .i64 ((a.length : Int) + 1 - 1) = (a.length : Int) := by rw [wrap_i64 (by omega)]; omega
 repeat' first | simp (disch := omega) only [go_sem, ↓reduceIte, Nat.reduceEqDiff, reduceCtorEq, Int.reduceEq, e0, w0] | ((with_reducible first | refine condD ?_ ?_ | refine condX ?_ ?_ | refine condW_intro ?_ ?_) <;> intro h <;> first | (exfalso; omega) | simp (disch := omega) only [go_sem, ↓reduceIte, Nat.reduceEqDiff, reduceCtorEq, Int.reduceEq, *, e0, w0] | skip) | (refine callW_of ph rfl (.inl rfl) ?_) | (refine app_own rfl (by intro h; cases h) (rowsOk_one rfl) (by simp; omega) (by simp; omega) ?_)
 clear ph
 have est : sRows a ++ [[PC.val (Value.string s)]] = sRows (a.take a.length ++ s :: a.drop a.length) := by simp [sRows]
 rw [est]
 refine AW_loop (fun p : Nat => ⟨[(0, .c (.ref 1)), (5, I p)], [(1, .arr 9 1 (sRows (a.take p ++ s :: a.drop p)))], 2, 1⟩) (fun p => p ≤ a.length ∧ Hid (∀ x ∈ a.drop p, sless s x = true)) (fun p => p) ⟨a.length, [], ⟨Nat.le_refl _, Lib.hid (by simp)⟩, by simp [Wk, wkF, wkM, wkL, look_cons, renV, renA, renC, renB, rn, clV, clA, clAs, clB, notIn, findB, findB_setB, clA.go]⟩ ?_
 clear est e0 w0
 rintro p ⟨hp, HD⟩
 refine runW_sound ?_
 cases p with
 | zero =>
  have hR := HR.out 0 HD.out (by simp)
  subst hR
  clear HR HN HS HD
  repeat' first | simp (disch := omega) only [go_sem, ↓reduceIte, Nat.reduceEqDiff, reduceCtorEq, Int.reduceEq, Int.natCast_zero] | ((with_reducible first | refine condD ?_ ?_ | refine condX ?_ ?_ | refine condW_intro ?_ ?_) <;> intro h <;> first | (exfalso; omega) | simp (disch := omega) only [go_sem, ↓reduceIte, Nat.reduceEqDiff, reduceCtorEq, Int.reduceEq, *, Int.natCast_zero] | skip)
  all_goals rfl
 | succ q =>
  have hq : q < a.length := hp
  have hlen : (a.take (q + 1)).length = q + 1 := by rw [List.length_take]; omega
  have g1 : (sRows (a.take (q + 1) ++ s :: a.drop (q + 1)))[q]? = some [pS a[q]] := by
   rw [sRows, List.getElem?_map, List.getElem?_append_left (by omega), List.getElem?_take_of_lt (by omega)]
   simp [hq]
  have g2 : (sRows (a.take (q + 1) ++ s :: a.drop (q + 1)))[q + 1]? = some [pS s] := by
   rw [sRows, List.getElem?_map, List.getElem?_append_right (by omega), hlen]
   simp
  have e1 := ins_swap (s := s) hq
  have wq : IntKind.wrap .i64 ((q : Int) + 1 - 1) = q := by rw [wrap_i64 (by omega)]; omega
  have cq : ((q + 1 : Nat) : Int) = (q : Int) + 1 := by omega
  have tq : ((q : Int) + 1).toNat = q + 1 := by omega
  by_cases hl : sless s a[q] = true
  ·have HD' : Hid (∀ x ∈ a.drop q, sless s x = true) := Lib.hid (by
    rw [List.drop_eq_getElem_cons hq]
    intro x hx
    rcases List.mem_cons.1 hx with rfl | hx
    ·exact hl
    ·exact HD.out x hx)
   have hl' : Op.bytesLess a[q].toList s.toList = false := by simpa [sless] using sless_asymm hl
   have hne : ¬ a[q] = s := fun e => by rw [e] at hl; exact sless_irrefl _ hl
   clear HR HN HS HD hl
   generalize hRW : sRows (a.take (q + 1) ++ s :: a.drop (q + 1)) = RW at *
   have hRl : q + 1 < RW.length := by
    rw [← hRW]
    simp only [sRows, List.length_map, List.length_append, List.length_cons, hlen, List.length_drop]
    omega
   clear hRW
   generalize hRW2 : sRows (a.take q ++ s :: a.drop q) = RW2 at *
   generalize a[q] = x at *
   have g3 : (RW.set (q + 1) [pS x])[q]? = some [pS x] := by rw [List.getElem?_set, if_neg (by omega)]; exact g1
   repeat' first | simp (disch := omega) only [go_sem, ↓reduceIte, Nat.reduceEqDiff, reduceCtorEq, Int.reduceEq, g1, g2, g3, hl', hne, wq, cq, tq, wrap_i64, Int.toNat_natCast, List.length_set, decide_false, Bool.or_false, Bool.not_false] | ((with_reducible first | refine condD ?_ ?_ | refine condX ?_ ?_ | refine condW_intro ?_ ?_) <;> intro h <;> first | (exfalso; omega) | simp (disch := omega) only [go_sem, ↓reduceIte, Nat.reduceEqDiff, reduceCtorEq, Int.reduceEq, *, g1, g2, g3, hl', hne, wq, cq, tq, wrap_i64, Int.toNat_natCast, List.length_set, decide_false, Bool.or_false, Bool.not_false] | skip) | (with_reducible refine bothW_intro ?_ ?_) | (with_reducible refine nilW_intro (fun h => ?_) ?_)
   exact ⟨q, [], ⟨by omega, HD'⟩, by omega, by simp [Wk, wkF, wkM, wkL, look_cons, renV, renA, renC, renB, rn, clV, clA, clAs, clB, notIn, findB, findB_setB, clA.go, e1, hRW2]⟩
  ·have hl2 : sless a[q] s = true := by
    rcases sless_tri s a[q] with h | h | h
    ·exact absurd h hl
    ·exact absurd (by rw [h]; exact List.getElem_mem _) HN.out
    ·exact h
   have hR := HR.out (q + 1) HD.out (take_less HS.out hq hl2)
   rw [← hR]
   rw [← hR] at g1 g2
   have hl' : Op.bytesLess a[q].toList s.toList = true := hl2
   have hRl : q + 1 < R.length := by
    rw [hR]
    simp only [sRows, List.length_map, List.length_append, List.length_cons, hlen, List.length_drop]
    omega
   clear HR HN HS HD hl hl2 e1 hR
   generalize a[q] = x at *
   repeat' first | simp (disch := omega) only [go_sem, ↓reduceIte, Nat.reduceEqDiff, reduceCtorEq, Int.reduceEq, g1, g2, hl', wq, cq, tq, wrap_i64, Int.toNat_natCast, Bool.true_or, Bool.not_true] | ((with_reducible first | refine condD ?_ ?_ | refine condX ?_ ?_ | refine condW_intro ?_ ?_) <;> intro h <;> first | (exfalso; omega) | simp (disch := omega) only [go_sem, ↓reduceIte, Nat.reduceEqDiff, reduceCtorEq, Int.reduceEq, *, g1, g2, hl', wq, cq, tq, wrap_i64, Int.toNat_natCast, Bool.true_or, Bool.not_true] | skip) | (with_reducible refine bothW_intro ?_ ?_) | (with_reducible refine nilW_intro (fun h => ?_) ?_)
   all_goals rfl
theorem allN_drop {l : List Lin} {k : Nat} (h : k < l.length) : allNames (l.drop k) = l[k].2.map (·.1) ++ allNames (l.drop (k + 1)) := by
 rw [List.drop_eq_getElem_cons h, allNames, List.flatMap_cons]; rfl
set_option maxHeartbeats 2000000 in
theorem ref05_Names_abs {l : List Lin} (hs : (allNames l).length ≤ 1000000000) : PCalls Try.prog n_ref05_Names [aSl lP l] (aStrs (namesS (allNames l))) := by
 refine PCalls.of is_ref05_Names (by simp) fun hb => runW_sound ?_
 have hbl : l.length ≤ 9223372036854775807 := by have := hb.1; simpa [bndV, bndA] using this
 clear hb
 simp only [c_ref05_Names]
 obtain ⟨R, hR⟩ : ∃ R, R = (allNames (l.drop 0)).foldl insN [] := ⟨_, rfl⟩
 have hR0 : namesS (allNames l) = R := hR.symm
 rw [hR0]
 have HR := Lib.hid hR
 clear hR hR0
 repeat' first | simp (disch := omega) only [go_sem, ↓reduceIte, Nat.reduceEqDiff, reduceCtorEq, Int.reduceEq] | ((with_reducible first | refine condD ?_ ?_ | refine condX ?_ ?_ | refine condW_intro ?_ ?_) <;> intro h <;> first | (exfalso; omega) | simp (disch := omega) only [go_sem, ↓reduceIte, Nat.reduceEqDiff, reduceCtorEq, Int.reduceEq, *] | skip)
 refine AW_adopt 3 9 1 rfl (by decide) ?_
 refine AW_loop (fun s : Nat × List ByteArray => ⟨[(0, aSl lP l), (3, .c (.ref 0)), (4, I s.1)], [(0, .arr 9 1 (sRows s.2))], 1, 0⟩)
  (fun s => s.1 ≤ l.length ∧ s.2.length + (allNames (l.drop s.1)).length ≤ 1000000000 ∧ Hid (srtN s.2) ∧ Hid (R = (allNames (l.drop s.1)).foldl insN s.2)) (fun s => l.length - s.1) ⟨(0, []), [], ⟨Nat.zero_le _, by simpa using hs, Lib.hid List.Pairwise.nil, HR⟩, by simp [Wk, wkF, wkM, wkL, look_cons, renV, renA, renC, renB, rn, clV, clA, clAs, clB, notIn, findB, findB_setB, clA.go]⟩ ?_
 clear HR hs
 rintro ⟨k, acc⟩ ⟨hk, ha, HS, HR⟩
 simp only at hk ha HS HR
 refine runW_sound ?_
 by_cases hlt : k < l.length
 ·have g1 := map_get (f := lP) hlt
  have h2 := HR.out
  rw [allN_drop hlt, List.foldl_append] at h2
  rw [allN_drop hlt, List.length_append, List.length_map] at ha
  clear HR
  generalize l[k] = c at *
  obtain ⟨ck, cl⟩ := c
  simp only [lP] at g1
  simp only at h2 ha
  have HR : Hid (R = (allNames (l.drop (k + 1))).foldl insN (((cl.drop 0).map (·.1)).foldl insN acc)) := Lib.hid h2
  clear h2
  generalize hT : (allNames (l.drop (k + 1))).length = TL at *
  have hcl : cl.length ≤ 1000000000 := by omega
  repeat' first | simp (disch := omega) only [go_sem, ↓reduceIte, Nat.reduceEqDiff, reduceCtorEq, Int.reduceEq, g1] | ((with_reducible first | refine condD ?_ ?_ | refine condX ?_ ?_ | refine condW_intro ?_ ?_) <;> intro h <;> first | (exfalso; omega) | simp (disch := omega) only [go_sem, ↓reduceIte, Nat.reduceEqDiff, reduceCtorEq, Int.reduceEq, *, g1] | skip)
  refine AW_loop (fun s : Nat × List ByteArray => ⟨[(0, aSl lP l), (3, .c (.ref 0)), (4, I k), (5, I s.1)], [(0, .arr 9 1 (sRows s.2))], 1, 0⟩)
   (fun s => s.1 ≤ cl.length ∧ s.2.length + (cl.length - s.1) + TL ≤ 1000000000 ∧ Hid (srtN s.2) ∧ Hid (R = (allNames (l.drop (k + 1))).foldl insN (((cl.drop s.1).map (·.1)).foldl insN s.2))) (fun s => cl.length - s.1) ⟨(0, acc), [], ⟨Nat.zero_le _, by simp only; omega, HS, HR⟩, by simp [Wk, wkF, wkM, wkL, look_cons, renV, renA, renC, renB, rn, clV, clA, clAs, clB, notIn, findB, findB_setB, clA.go]⟩ ?_
  clear HR ha HS
  rintro ⟨j, acc⟩ ⟨hj, ha, HS, HR⟩
  simp only at hj ha HS HR
  refine runW_sound ?_
  by_cases hlj : j < cl.length
  ·have g2 := map_get (f := mP) hlj
   have h2 := HR.out
   rw [List.drop_eq_getElem_cons hlj, List.map_cons, List.foldl_cons] at h2
   have HS2 : Hid (srtN (insN acc cl[j].1)) := Lib.hid (insN_srt HS.out)
   have hil := insN_len (a := acc) (s := cl[j].1)
   clear HR
   by_cases hn : cl[j].1 ∈ acc
   ·have ph := ref05_insert_has hn
    have e : insN acc cl[j].1 = acc := by rw [insN, if_pos hn]
    rw [e] at h2 HS2
    have HR := Lib.hid h2
    clear h2 hn HS e hil
    generalize cl[j] = m at *
    obtain ⟨n, x⟩ := m
    simp only [mP] at g2
    simp only at ph
    repeat' first | simp (disch := omega) only [go_sem, ↓reduceIte, Nat.reduceEqDiff, reduceCtorEq, Int.reduceEq, g1, g2, wrap_i64] | ((with_reducible first | refine condD ?_ ?_ | refine condX ?_ ?_ | refine condW_intro ?_ ?_) <;> intro h <;> first | (exfalso; omega) | simp (disch := omega) only [go_sem, ↓reduceIte, Nat.reduceEqDiff, reduceCtorEq, Int.reduceEq, *, g1, g2, wrap_i64] | skip) | (refine callW_i ph ?_)
    exact ⟨(j + 1, acc), [], ⟨hlj, by simp only; omega, HS2, HR⟩, by show _ - _ < _ - _; omega, by simp [Wk, wkF, wkM, wkL, look_cons, renV, renA, renC, renB, rn, clV, clA, clAs, clB, notIn, findB, findB_setB, clA.go]⟩
   ·have ph := ref05_insert_new hn HS.out (by omega)
    have HR := Lib.hid h2
    clear h2 hn HS
    generalize insN acc cl[j].1 = acc2 at *
    generalize cl[j] = m at *
    obtain ⟨n, x⟩ := m
    simp only [mP] at g2
    simp only at ph
    repeat' first | simp (disch := omega) only [go_sem, ↓reduceIte, Nat.reduceEqDiff, reduceCtorEq, Int.reduceEq, g1, g2, wrap_i64] | ((with_reducible first | refine condD ?_ ?_ | refine condX ?_ ?_ | refine condW_intro ?_ ?_) <;> intro h <;> first | (exfalso; omega) | simp (disch := omega) only [go_sem, ↓reduceIte, Nat.reduceEqDiff, reduceCtorEq, Int.reduceEq, *, g1, g2, wrap_i64] | skip) | (refine callW_i ph ?_)
    exact ⟨(j + 1, acc2), [(0, 1)], ⟨hlj, by simp only; omega, HS2, HR⟩, by show _ - _ < _ - _; omega, by simp [Wk, wkF, wkM, wkL, look_cons, renV, renA, renC, renB, rn, clV, clA, clAs, clB, notIn, findB, findB_setB, clA.go]⟩
  ·have h2 := HR.out
   rw [List.drop_eq_nil_of_le (by omega)] at h2
   have HR : Hid (R = (allNames (l.drop (k + 1))).foldl insN acc) := Lib.hid h2
   clear h2
   repeat' first | simp (disch := omega) only [go_sem, ↓reduceIte, Nat.reduceEqDiff, reduceCtorEq, Int.reduceEq, g1, wrap_i64] | ((with_reducible first | refine condD ?_ ?_ | refine condX ?_ ?_ | refine condW_intro ?_ ?_) <;> intro h <;> first | (exfalso; omega) | simp (disch := omega) only [go_sem, ↓reduceIte, Nat.reduceEqDiff, reduceCtorEq, Int.reduceEq, *, g1, wrap_i64] | skip)
   exact ⟨(k + 1, acc), [], ⟨hlt, by simp only [hT]; omega, HS, HR⟩, by show _ - _ < _ - _; omega, by simp [Wk, wkF, wkM, wkL, look_cons, renV, renA, renC, renB, rn, clV, clA, clAs, clB, notIn, findB, findB_setB, clA.go]⟩
 ·have h2 := HR.out
  rw [List.drop_eq_nil_of_le (by omega)] at h2
  simp only [allNames, List.flatMap_nil, List.foldl_nil] at h2
  subst h2
  clear HR HS
  repeat' first | simp (disch := omega) only [go_sem, ↓reduceIte, Nat.reduceEqDiff, reduceCtorEq, Int.reduceEq] | ((with_reducible first | refine condD ?_ ?_ | refine condX ?_ ?_ | refine condW_intro ?_ ?_) <;> intro h <;> first | (exfalso; omega) | simp (disch := omega) only [go_sem, ↓reduceIte, Nat.reduceEqDiff, reduceCtorEq, Int.reduceEq, *] | skip)
  all_goals rfl
end Go.Proofs.Ytnddmjhpplopbaa
