/- Walks by the abstract machine: the reference's forms and weighted sums. -/
import Derived.Test.YtnddmjhpplopbaaV07e
set_option linter.unusedVariables false
set_option linter.unusedSimpArgs false
set_option maxRecDepth 20000
namespace Go.Proofs.Ytnddmjhpplopbaa
open Go.Abs Go.RowKit

theorem formR_take {l : List Mono} {k : Nat} (h : k < l.length) : (formR (l.take (k + 1))).map mP = (formR (l.take k)).map mP ++ (if l[k].2 = 0 then [] else [mP l[k]]) := by
 rw [List.take_succ_eq_append_getElem h]
 show (List.filter _ _).map mP = _
 rw [List.filter_append, List.map_append]
 congr 1
 by_cases e : l[k].2 = 0
 ·rw [if_pos e]; simp [e]
 ·rw [if_neg e]; simp [e]
theorem ref07_form_abs (s : Sum) (hl : s.2.1.length ≤ 2000000000) : PCalls Try.prog n_ref07_form [aSum s] (aLin s.1 (formR s.2.1)) := by
 refine PCalls.of is_ref07_form (by simp) fun _ => runW_sound ?_
 obtain ⟨c, l, ok⟩ := s
 simp only at hl ⊢
 simp only [c_ref07_form]
 repeat' first | simp (disch := omega) only [go_sem, ↓reduceIte, Nat.reduceEqDiff, reduceCtorEq, Int.reduceEq] | ((with_reducible first | refine condD ?_ ?_ | refine condX ?_ ?_ | refine condW_intro ?_ ?_) <;> intro h <;> first | (exfalso; omega) | simp (disch := omega) only [go_sem, ↓reduceIte, Nat.reduceEqDiff, reduceCtorEq, Int.reduceEq, *] | skip)
 refine AW_adoptM 2 1 79 2 _ rfl rfl (by decide) ?_
 refine AW_loop (fun k : Nat => ⟨[(1, .c (.ptr 0 0)), (2, .c (.ptr 1 0)), (3, .c (.ptr 2 0)), (4, I k)],
  [(0, .var [.pure (pI c), .pure (nms l), .pure (bys l), .pure (pB ok)]), (1, .var [.pure (pI 0), .nils]), (2, .var [.pure (pI c), .ref 3]), (3, .arr 79 2 ((formR (l.take k)).map mP))], 4, 0⟩) (fun k => k ≤ l.length) (fun k => l.length - k) ⟨0, [], Nat.zero_le _, by simp [Wk, wkF, wkM, wkL, look_cons, renV, renA, renC, renB, rn, clV, clA, clAs, clB, notIn, findB, findB_setB, clA.go, formR]⟩ ?_
 intro k hk
 refine runW_sound ?_
 by_cases hlt : k < l.length
 ·have e1 := formR_take hlt
  have g1 := map_get (f := fun m : Mono => [pS m.1]) hlt
  have g2 := map_get (f := fun m : Mono => [pI m.2]) hlt
  have hlen : (formR (l.take k)).length ≤ 2000000000 := by
   have : (formR (l.take k)).length ≤ (l.take k).length := List.length_filter_le _ _
   simp at this; omega
  simp only [mP] at e1
  generalize l[k] = m at *
  obtain ⟨n, x⟩ := m
  simp only at g1 g2 e1
  generalize formR (l.take k) = F0 at *
  by_cases hx : x = 0
  ·subst hx
   rw [if_pos rfl, List.append_nil] at e1
   repeat' first | simp (disch := omega) only [go_sem, ↓reduceIte, Nat.reduceEqDiff, reduceCtorEq, Int.reduceEq, g1, g2, wrap_i64] | ((with_reducible first | refine condD ?_ ?_ | refine condX ?_ ?_ | refine condW_intro ?_ ?_) <;> intro h <;> first | (exfalso; omega) | simp (disch := omega) only [go_sem, ↓reduceIte, Nat.reduceEqDiff, reduceCtorEq, Int.reduceEq, *, g1, g2, wrap_i64] | skip)
   exact ⟨k + 1, [], hlt, by omega, by simp [Wk, wkF, wkM, wkL, look_cons, renV, renA, renC, renB, rn, clV, clA, clAs, clB, notIn, findB, findB_setB, clA.go, e1]⟩
  ·rw [if_neg hx] at e1
   repeat' first | simp (disch := omega) only [go_sem, ↓reduceIte, Nat.reduceEqDiff, reduceCtorEq, Int.reduceEq, g1, g2, wrap_i64] | ((with_reducible first | refine condD ?_ ?_ | refine condX ?_ ?_ | refine condW_intro ?_ ?_) <;> intro h <;> first | (exfalso; omega) | simp (disch := omega) only [go_sem, ↓reduceIte, Nat.reduceEqDiff, reduceCtorEq, Int.reduceEq, *, g1, g2, wrap_i64] | skip) | (refine app_own rfl (by intro h; cases h) (rowsOk_one rfl) (by simp; omega) (by simp; omega) ?_)
   exact ⟨k + 1, [(3, 4)], hlt, by omega, by simp [Wk, wkF, wkM, wkL, look_cons, renV, renA, renC, renB, rn, clV, clA, clAs, clB, notIn, findB, findB_setB, clA.go, e1]⟩
 ·obtain rfl : k = l.length := by omega
  rw [List.take_of_length_le (Nat.le_refl _)]
  repeat' first | simp (disch := omega) only [go_sem, ↓reduceIte, Nat.reduceEqDiff, reduceCtorEq, Int.reduceEq] | ((with_reducible first | refine condD ?_ ?_ | refine condX ?_ ?_ | refine condW_intro ?_ ?_) <;> intro h <;> first | (exfalso; omega) | simp (disch := omega) only [go_sem, ↓reduceIte, Nat.reduceEqDiff, reduceCtorEq, Int.reduceEq, *] | skip)
theorem foldR_len {b : Int} : ∀ {c l : List Mono} {o : Bool}, (foldR b c (l, o)).1.length ≤ l.length + c.length
 | [], l, o => by simp [foldR]
 |m :: r, l, o => by
  rw [foldR]
  have h1 := insR_len l m.1 (ok64 (m.2 * b)).1
  have h2 := foldR_len (b := b) (c := r) (l := (insR l m.1 (ok64 (m.2 * b)).1).1) (o := o && (ok64 (m.2 * b)).2 && (insR l m.1 (ok64 (m.2 * b)).1).2)
  simp only [List.length_cons]
  omega
theorem foldR_64 {b : Int} : ∀ {c l : List Mono} {o : Bool}, (∀ m ∈ l, in64 m.2) → ∀ m ∈ (foldR b c (l, o)).1, in64 m.2
 | [], l, o, h => h
 |x :: r, l, o, h => by
  rw [foldR]
  exact foldR_64 (insR_64 (ok64_in64 _) h)
theorem eqR_drop {l : List (Con × Int)} {k : Nat} (h : k < l.length) : eqR (l.drop k) = ((l[k].1.2 || decide (l[k].2 = 0)) && eqR (l.drop (k + 1))) := by
 rw [List.drop_eq_getElem_cons h]
 rfl
set_option maxHeartbeats 4000000 in
theorem ref07_Weighted_abs {l : List Con} {b : List Int} (hl : ∀ c ∈ l, con64 c) (hb : ∀ x ∈ b, in64 x) (hs : tot l ≤ 1000000000) : PCalls Try.prog n_ref07_Weighted [aCons l, aInts b] (aConE (weighted l b)) := by
 refine PCalls.of is_ref07_Weighted (by simp) fun hbd => runW_sound ?_
 have hlen := bnd_cons hbd.1
 clear hbd
 simp only [c_ref07_Weighted]
 by_cases hne : l.length = b.length
 ·have hz : (l.zip b).length = l.length := by simp [hne]
  obtain ⟨N, hN⟩ : ∃ N, N = l.length := ⟨_, rfl⟩
  rw [← hN] at hlen hz
  have e1 : l.length = N := hN.symm
  have e2 : b.length = N := by rw [← hne, e1]
  have HZ := Lib.hid hz
  have HE := Lib.hid hne
  clear hN hne hz
  repeat' first | simp (disch := omega) only [go_sem, ↓reduceIte, Nat.reduceEqDiff, reduceCtorEq, Int.reduceEq, e1, e2] | ((with_reducible first | refine condD ?_ ?_ | refine condX ?_ ?_ | refine condW_intro ?_ ?_) <;> intro h <;> first | (exfalso; omega) | simp (disch := omega) only [go_sem, ↓reduceIte, Nat.reduceEqDiff, reduceCtorEq, Int.reduceEq, *, e1, e2] | skip)
  refine AW_loop (fun s : Nat × Bool => ⟨[(0, aCons l), (1, aInts b), (3, .top), (4, .c (.ptr 0 0)), (6, Go.Abs.B s.2), (7, I s.1)], [(0, .var [.pure (pI 0), .nils, .pure (pB false)])], 1, 0⟩) (fun s => s.1 ≤ N ∧ upTo (fun i => ∀ (h1 : i < l.length) (h2 : i < b.length), ¬ (b[i] < 0 ∧ l[i].2 = false)) s.1 ∧ Hid (eqR (l.zip b) = (s.2 && eqR ((l.zip b).drop s.1)))) (fun s => N - s.1) ⟨(0, true), [], ⟨Nat.zero_le _, .zero, Lib.hid rfl⟩, by simp [Wk, wkF, wkM, wkL, look_cons, renV, renA, renC, renB, rn, clV, clA, clAs, clB, notIn, findB, findB_setB, clA.go, e1, e2]⟩ ?_
  rintro ⟨k, e⟩ ⟨hk, hall, HQ⟩
  refine runW_sound ?_
  simp only at hk hall HQ
  by_cases hltN : k < N
  ·have hlt : k < l.length := by omega
   have hlt2 : k < b.length := by omega
   have hbad : (b[k] < 0 ∧ l[k].2 = false) → weighted l b = (conZ, 1) := fun h => by
    rw [weighted, if_neg (not_not_intro HE.out), if_pos]
    refine ⟨(l[k], b[k]), ?_, h⟩
    rw [List.mem_iff_getElem]
    exact ⟨k, by rw [HZ.out]; exact hltN, by simp⟩
   have nxt : ¬ (b[k] < 0 ∧ l[k].2 = false) → Hid (upTo (fun i => ∀ (h1 : i < l.length) (h2 : i < b.length), ¬ (b[i] < 0 ∧ l[i].2 = false)) (k + 1)) := fun h => Lib.hid (hall.succ fun _ _ => h)
   have hq := HQ.out
   have hd := eqR_drop (l := l.zip b) (k := k) (by rw [HZ.out]; exact hltN)
   rw [List.getElem_zip] at hd
   rw [hd] at hq
   have g1 := map_get (f := cP) hlt
   have g2 := map_get (f := fun n => [pI n]) hlt2
   clear hd HQ
   generalize l[k] = c at *
   generalize b[k] = x at *
   obtain ⟨⟨ck, cl⟩, q⟩ := c
   simp only [cP] at g1
   simp only at hq
   have BAD := Lib.hid hbad
   have NXT := Lib.hid nxt
   have HQ : Hid (eqR (l.zip b) = ((e && (q || decide (x = 0))) && eqR ((l.zip b).drop (k + 1)))) := Lib.hid (by rw [hq, Bool.and_assoc])
   clear hbad nxt hall hq
   by_cases hb2 : x < 0 ∧ q = false
   ·rw [BAD.out hb2]
    obtain ⟨hb2, rfl⟩ := hb2
    clear BAD NXT HQ
    repeat' first | simp (disch := omega) only [go_sem, ↓reduceIte, Nat.reduceEqDiff, reduceCtorEq, Int.reduceEq, g1, g2, wrap_i64] | ((with_reducible first | refine condD ?_ ?_ | refine condX ?_ ?_ | refine condW_intro ?_ ?_) <;> intro h <;> first | (exfalso; omega) | simp (disch := omega) only [go_sem, ↓reduceIte, Nat.reduceEqDiff, reduceCtorEq, Int.reduceEq, *, g1, g2, wrap_i64] | skip)
    rfl
   ·have NX := NXT.out hb2
    clear BAD NXT
    have NX2 := NX
    simp only [e1, e2] at NX2
    by_cases hx : x = 0
    ·subst hx
     cases e <;> cases q
     all_goals
      repeat' first | simp (disch := omega) only [go_sem, ↓reduceIte, Nat.reduceEqDiff, reduceCtorEq, Int.reduceEq, g1, g2, wrap_i64] | ((with_reducible first | refine condD ?_ ?_ | refine condX ?_ ?_ | refine condW_intro ?_ ?_) <;> intro h <;> first | (exfalso; omega) | simp (disch := omega) only [go_sem, ↓reduceIte, Nat.reduceEqDiff, reduceCtorEq, Int.reduceEq, *, g1, g2, wrap_i64] | skip)
      first
       | exact ⟨(k + 1, false), [], ⟨hltN, NX2.out, Lib.hid (by have := HQ.out; simpa [] using this)⟩, by show _ - _ < _ - _; omega, by simp [Wk, wkF, wkM, wkL, look_cons, renV, renA, renC, renB, rn, clV, clA, clAs, clB, notIn, findB, findB_setB, clA.go]⟩
       | exact ⟨(k + 1, true), [], ⟨hltN, NX2.out, Lib.hid (by have := HQ.out; simpa [] using this)⟩, by show _ - _ < _ - _; omega, by simp [Wk, wkF, wkM, wkL, look_cons, renV, renA, renC, renB, rn, clV, clA, clAs, clB, notIn, findB, findB_setB, clA.go]⟩
    ·cases e <;> cases q
     all_goals
      by_cases hneg : x < 0
      all_goals first
      | (exact (hb2 (And.intro hneg rfl)).elim)
      | skip
      all_goals
       repeat' first | simp (disch := omega) only [go_sem, ↓reduceIte, Nat.reduceEqDiff, reduceCtorEq, Int.reduceEq, g1, g2, hx, hneg, wrap_i64] | ((with_reducible first | refine condD ?_ ?_ | refine condX ?_ ?_ | refine condW_intro ?_ ?_) <;> intro h <;> first | (exfalso; omega) | simp (disch := omega) only [go_sem, ↓reduceIte, Nat.reduceEqDiff, reduceCtorEq, Int.reduceEq, *, g1, g2, hx, hneg, wrap_i64] | skip)
       first
        | exact ⟨(k + 1, false), [], ⟨hltN, NX2.out, Lib.hid (by have := HQ.out; simpa [hx] using this)⟩, by show _ - _ < _ - _; omega, by simp [Wk, wkF, wkM, wkL, look_cons, renV, renA, renC, renB, rn, clV, clA, clAs, clB, notIn, findB, findB_setB, clA.go, hx]⟩
        | exact ⟨(k + 1, true), [], ⟨hltN, NX2.out, Lib.hid (by have := HQ.out; simpa [hx] using this)⟩, by show _ - _ < _ - _; omega, by simp [Wk, wkF, wkM, wkL, look_cons, renV, renA, renC, renB, rn, clV, clA, clAs, clB, notIn, findB, findB_setB, clA.go, hx]⟩
  ·obtain rfl : k = N := by omega
   have hno : ¬ ∃ p ∈ l.zip b, p.2 < 0 ∧ p.1.2 = false := by
    rintro ⟨p, hp, hbp⟩
    obtain ⟨i, hi, rfl⟩ := List.mem_iff_getElem.1 hp
    rw [HZ.out] at hi
    have h2 := hall i hi (by omega) (by omega)
    rw [List.getElem_zip] at hbp
    exact h2 hbp
   have hq : eqR (l.zip b) = e := by
    have := HQ.out
    rw [List.drop_eq_nil_of_le (by rw [HZ.out]; exact Nat.le_refl _)] at this
    simpa [eqR] using this
   rw [weighted, if_neg (not_not_intro HE.out), if_neg hno, hq]
   obtain ⟨R, hR⟩ : ∃ R, R = sumR ((l.zip b).drop 0) (0, [], true) := ⟨_, rfl⟩
   have hR2 : sumR (l.zip b) (0, [], true) = R := hR.symm
   rw [hR2]
   have HR := Lib.hid hR
   clear hR hR2 hno hall hq HQ
   repeat' first | simp (disch := omega) only [go_sem, ↓reduceIte, Nat.reduceEqDiff, reduceCtorEq, Int.reduceEq, e1, e2] | ((with_reducible first | refine condD ?_ ?_ | refine condX ?_ ?_ | refine condW_intro ?_ ?_) <;> intro h <;> first | (exfalso; omega) | simp (disch := omega) only [go_sem, ↓reduceIte, Nat.reduceEqDiff, reduceCtorEq, Int.reduceEq, *, e1, e2] | skip)
   refine AW_nilM 1 1 _ rfl rfl ?_
   refine AW_nilM 1 2 _ rfl rfl ?_
   refine AW_loop (fun s : Nat × Sum => ⟨[(0, aCons l), (1, aInts b), (4, .c (.ptr 0 0)), (6, Go.Abs.B e), (8, .c (.ptr 1 0)), (9, I s.1)], [(0, .var [.pure (pI 0), .nils, .pure (pB false)]), (1, .var [.pure (pI s.2.1), .pure (nms s.2.2.1), .pure (bys s.2.2.1), .pure (pB s.2.2.2)])], 2, 0⟩)
    (fun s => s.1 ≤ k ∧ in64 s.2.1 ∧ (∀ m ∈ s.2.2.1, in64 m.2) ∧ s.2.2.1.length + tot (l.drop s.1) ≤ 1000000000 ∧ Hid (R = sumR ((l.zip b).drop s.1) s.2)) (fun s => k - s.1)
    ⟨(0, (0, [], true)), [], ⟨Nat.zero_le _, in64_zero, fun m hm => by simp at hm, by simpa using hs, HR⟩, by simp [Wk, wkF, wkM, wkL, look_cons, renV, renA, renC, renB, rn, clV, clA, clAs, clB, notIn, findB, findB_setB, clA.go, e1, e2]⟩ ?_
   clear HR hs
   rintro ⟨j, S⟩ ⟨hj, h0, h64, hs, HR⟩
   refine runW_sound ?_
   simp only at hj h0 h64 hs HR
   by_cases hltk : j < k
   ·have hlt : j < l.length := by omega
    have hlt2 : j < b.length := by omega
    have hc64 : lin64 l[j].1 := hl _ (List.getElem_mem hlt)
    have hb64 := hb _ (List.getElem_mem hlt2)
    have htd : tot (l.drop j) = l[j].1.2.length + tot (l.drop (j + 1)) := by rw [List.drop_eq_getElem_cons hlt, tot]
    have h2 := HR.out
    rw [zip_get hlt hlt2, sumR] at h2
    simp only at h2
    have g1 := map_get (f := cP) hlt
    have g2 := map_get (f := fun n => [pI n]) hlt2
    clear HR
    generalize l[j] = c at *
    generalize b[j] = x at *
    obtain ⟨⟨ck, cl⟩, q⟩ := c
    simp only [cP] at g1
    simp only at h2 htd hc64
    have ps := ref07_scaled_abs (s := S) (c := (ck, cl)) (b := x) h0 h64 hc64 hb64 (by simp only; omega)
    have n1 : in64 (scaledR S (ck, cl) x).1 := ok64_in64 _
    have n2 : ∀ m ∈ (scaledR S (ck, cl) x).2.1, in64 m.2 := foldR_64 h64
    have n3 : (scaledR S (ck, cl) x).2.1.length ≤ S.2.1.length + cl.length := foldR_len
    have n4 : (scaledR S (ck, cl) x).2.1.length + tot (l.drop (j + 1)) ≤ 1000000000 := by omega
    have HR := Lib.hid h2
    clear h2 hs htd n3 hc64 hb64 h0 h64
    generalize scaledR S (ck, cl) x = S2 at *
    obtain ⟨sk, sl, so⟩ := S
    obtain ⟨sk2, sl2, so2⟩ := S2
    repeat' first | simp (disch := omega) only [go_sem, ↓reduceIte, Nat.reduceEqDiff, reduceCtorEq, Int.reduceEq, g1, g2, wrap_i64] | ((with_reducible first | refine condD ?_ ?_ | refine condX ?_ ?_ | refine condW_intro ?_ ?_) <;> intro h <;> first | (exfalso; omega) | simp (disch := omega) only [go_sem, ↓reduceIte, Nat.reduceEqDiff, reduceCtorEq, Int.reduceEq, *, g1, g2, wrap_i64] | skip) | (refine callW_of ps rfl (.inl rfl) ?_) | (refine callW_of ps rfl (.inr rfl) ?_)
    exact ⟨(j + 1, (sk2, sl2, so2)), [], ⟨hltk, n1, n2, n4, HR⟩, by show _ - _ < _ - _; omega, by simp [Wk, wkF, wkM, wkL, look_cons, renV, renA, renC, renB, rn, clV, clA, clAs, clB, notIn, findB, findB_setB, clA.go]⟩
   ·have h2 := HR.out
    rw [List.drop_eq_nil_of_le (by rw [HZ.out]; omega), sumR] at h2
    subst h2
    have hll : R.2.1.length ≤ 2000000000 := by omega
    have pf := ref07_form_abs R hll
    obtain ⟨sk, sl, so⟩ := R
    simp only at hll pf ⊢
    cases so
    ·repeat' first | simp (disch := omega) only [go_sem, ↓reduceIte, Nat.reduceEqDiff, reduceCtorEq, Int.reduceEq] | ((with_reducible first | refine condD ?_ ?_ | refine condX ?_ ?_ | refine condW_intro ?_ ?_) <;> intro h <;> first | (exfalso; omega) | simp (disch := omega) only [go_sem, ↓reduceIte, Nat.reduceEqDiff, reduceCtorEq, Int.reduceEq, *] | skip)
     rfl
    ·repeat' first | simp (disch := omega) only [go_sem, ↓reduceIte, Nat.reduceEqDiff, reduceCtorEq, Int.reduceEq] | ((with_reducible first | refine condD ?_ ?_ | refine condX ?_ ?_ | refine condW_intro ?_ ?_) <;> intro h <;> first | (exfalso; omega) | simp (disch := omega) only [go_sem, ↓reduceIte, Nat.reduceEqDiff, reduceCtorEq, Int.reduceEq, *] | skip) | (refine callW_of pf rfl (.inl rfl) ?_) | (refine callW_of pf rfl (.inr rfl) ?_)
 ·rw [weighted, if_pos hne]
  have hne2 : ¬ (l.length : Int) = b.length := by omega
  clear hne
  repeat' first | simp (disch := omega) only [go_sem, ↓reduceIte, Nat.reduceEqDiff, reduceCtorEq, Int.reduceEq, hne2] | ((with_reducible first | refine condD ?_ ?_ | refine condX ?_ ?_ | refine condW_intro ?_ ?_) <;> intro h <;> first | (exfalso; omega) | simp (disch := omega) only [go_sem, ↓reduceIte, Nat.reduceEqDiff, reduceCtorEq, Int.reduceEq, *, hne2] | skip)
  rfl
end Go.Proofs.Ytnddmjhpplopbaa
