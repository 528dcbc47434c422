/- Walks by the abstract machine: the reference's sums and multiples of forms. -/
import Derived.Test.YtnddmjhpplopbaaGreatV08g
import Derived.Test.YtnddmjhpplopbaaGreatV08n
set_option linter.unusedVariables false
set_option linter.unusedSimpArgs false
set_option maxRecDepth 20000
namespace Go.Proofs.YtnddmjhpplopbaaGreat
open Go.Abs Go.RowKit

theorem ref05_Const_abs (k : Int) : PCalls Tryz.prog n_ref05_Const [I k] (aLin k []) := by
 refine PCalls.of is_ref05_Const (by simp) fun _ => runW_sound ?_
 simp only [c_ref05_Const]
 repeat' first | simp (disch := omega) only [go_sem, ↓reduceIte, Nat.reduceEqDiff, reduceCtorEq, Int.reduceEq] | ((with_reducible first | refine condD ?_ ?_ | refine condX ?_ ?_ | refine condW_intro ?_ ?_) <;> intro h <;> first | (exfalso; omega) | simp (disch := omega) only [go_sem, ↓reduceIte, Nat.reduceEqDiff, reduceCtorEq, Int.reduceEq, *] | skip)
 all_goals rfl
theorem ref05_Coeff_abs (k : Int) (l : List Mono) (n : ByteArray) : PCalls Tryz.prog n_ref05_Coeff [aLin k l, S n] (I (cf l n)) := by
 refine PCalls.of is_ref05_Coeff (by simp) fun hb => runW_sound ?_
 have hbl : l.length ≤ 9223372036854775807 := by have := hb.1; simpa [bndV, bndA, bndAs] using this
 clear hb
 simp only [c_ref05_Coeff]
 obtain ⟨R, hR⟩ : ∃ R, R = cf (l.drop 0) n := ⟨_, rfl⟩
 have hR0 : cf l n = R := hR.symm
 rw [hR0]
 have HR := Lib.hid hR
 clear hR hR0
 repeat' first | simp (disch := omega) only [go_sem, ↓reduceIte, Nat.reduceEqDiff, reduceCtorEq, Int.reduceEq] | ((with_reducible first | refine condD ?_ ?_ | refine condX ?_ ?_ | refine condW_intro ?_ ?_) <;> intro h <;> first | (exfalso; omega) | simp (disch := omega) only [go_sem, ↓reduceIte, Nat.reduceEqDiff, reduceCtorEq, Int.reduceEq, *] | skip)
 refine AW_loop (fun j : Nat => ⟨[(1, S n), (2, .c (.ptr 0 0)), (5, I j)], [(0, .var [.pure (pI k), .pure (pMonos l)])], 1, 0⟩) (fun j => j ≤ l.length ∧ Hid (R = cf (l.drop j) n)) (fun j => l.length - j) ⟨0, [], ⟨Nat.zero_le _, HR⟩, by simp [Wk, wkF, wkM, wkL, look_cons, renV, renA, renC, renB, rn, clV, clA, clAs, clB, notIn, findB, findB_setB, clA.go]⟩ ?_
 clear HR
 rintro j ⟨hj, HR⟩
 refine runW_sound ?_
 by_cases hlt : j < l.length
 ·have g1 := map_get (f := mP) hlt
  have h2 := HR.out
  rw [List.drop_eq_getElem_cons hlt, cf] at h2
  clear HR
  generalize l[j] = m at *
  obtain ⟨m, x⟩ := m
  simp only [mP] at g1
  simp only at h2
  by_cases hn : m = n
  ·rw [if_pos hn] at h2
   subst h2
   subst hn
   repeat' first | simp (disch := omega) only [go_sem, ↓reduceIte, Nat.reduceEqDiff, reduceCtorEq, Int.reduceEq, g1, wrap_i64] | ((with_reducible first | refine condD ?_ ?_ | refine condX ?_ ?_ | refine condW_intro ?_ ?_) <;> intro h <;> first | (exfalso; omega) | simp (disch := omega) only [go_sem, ↓reduceIte, Nat.reduceEqDiff, reduceCtorEq, Int.reduceEq, *, g1, wrap_i64] | skip)
   all_goals rfl
  ·rw [if_neg hn] at h2
   have HR := Lib.hid h2
   clear h2
   repeat' first | simp (disch := omega) only [go_sem, ↓reduceIte, Nat.reduceEqDiff, reduceCtorEq, Int.reduceEq, g1, hn, wrap_i64] | ((with_reducible first | refine condD ?_ ?_ | refine condX ?_ ?_ | refine condW_intro ?_ ?_) <;> intro h <;> first | (exfalso; omega) | simp (disch := omega) only [go_sem, ↓reduceIte, Nat.reduceEqDiff, reduceCtorEq, Int.reduceEq, *, g1, hn, wrap_i64] | skip)
   exact ⟨j + 1, [], ⟨hlt, HR⟩, by omega, by simp [Wk, wkF, wkM, wkL, look_cons, renV, renA, renC, renB, rn, clV, clA, clAs, clB, notIn, findB, findB_setB, clA.go]⟩
 ·have h2 := HR.out
  rw [List.drop_eq_nil_of_le (by omega), cf] at h2
  subst h2
  clear HR
  repeat' first | simp (disch := omega) only [go_sem, ↓reduceIte, Nat.reduceEqDiff, reduceCtorEq, Int.reduceEq] | ((with_reducible first | refine condD ?_ ?_ | refine condX ?_ ?_ | refine condW_intro ?_ ?_) <;> intro h <;> first | (exfalso; omega) | simp (disch := omega) only [go_sem, ↓reduceIte, Nat.reduceEqDiff, reduceCtorEq, Int.reduceEq, *] | skip)
  all_goals rfl
theorem scaleS_neg {a : Lin} {b : Int} (h0 : b ≠ 0) (h : ¬ scaleOk a b) : scaleS a b = ((0, []), 3) := by rw [scaleS, if_neg (by rintro (h' | h'); exact h0 h'; exact h h')]
theorem scaleS_pos {a : Lin} {b : Int} (h0 : b ≠ 0) (h : scaleOk a b) : scaleS a b = ((a.1 * b, a.2.map fun m => (m.1, m.2 * b)), 0) := by rw [scaleS, if_pos (.inr h), scaleV, if_neg h0]
def sclT (b : Int) (l : List Mono) : List (List PC) := (l.map fun m => (m.1, m.2 * b)).map mP
set_option maxHeartbeats 2000000 in
theorem ref05_Scale_abs {a : Lin} {b : Int} (ha : lin64 a) (hb : in64 b) (hs : short a.2) : PCalls Tryz.prog n_ref05_Scale [aLin a.1 a.2, I b] (aLinE (scaleE a b)) := by
 refine PCalls.of is_ref05_Scale (by simp) fun _ => runW_sound ?_
 simp only [c_ref05_Scale]
 have pv := ref05_Validate_abs a.1 a.2
 unfold scaleE
 by_cases hok : linOk a.2
 ·rw [if_pos hok] at pv
  rw [if_neg (not_not_intro hok)]
  by_cases h0 : b = 0
  ·have e : scaleS a b = ((0, []), 0) := by rw [scaleS, if_pos (.inl h0), scaleV, if_pos h0]
   rw [e]
   clear hok ha
   obtain ⟨k, l⟩ := a
   simp only at pv
   repeat' first | simp (disch := omega) only [go_sem, ↓reduceIte, Nat.reduceEqDiff, reduceCtorEq, Int.reduceEq, h0] | ((with_reducible first | refine condD ?_ ?_ | refine condX ?_ ?_ | refine condW_intro ?_ ?_) <;> intro h <;> first | (exfalso; omega) | simp (disch := omega) only [go_sem, ↓reduceIte, Nat.reduceEqDiff, reduceCtorEq, Int.reduceEq, *, h0] | skip) | (refine callW_of pv rfl (.inl rfl) ?_)
   all_goals rfl
  ·have pt := base_Times_abs ha.1 hb
   by_cases hk : in64 (a.1 * b)
   ·have ek : ok64 (a.1 * b) = (a.1 * b, true) := by rw [ok64, if_pos hk]
    rw [ek] at pt
    obtain ⟨R, hR⟩ : ∃ R, R = scaleS a b := ⟨_, rfl⟩
    rw [← hR]
    have HR := Lib.hid hR
    have HK := Lib.hid hk
    clear hR hok hk ek
    obtain ⟨_, hl⟩ := ha
    obtain ⟨k, l⟩ := a
    unfold short at hs
    simp only at pv pt hl hs
    generalize hkb : k * b = kb at *
    have HKB := Lib.hid hkb
    clear hkb
    repeat' first | simp (disch := omega) only [go_sem, ↓reduceIte, Nat.reduceEqDiff, reduceCtorEq, Int.reduceEq, h0] | ((with_reducible first | refine condD ?_ ?_ | refine condX ?_ ?_ | refine condW_intro ?_ ?_) <;> intro h <;> first | (exfalso; omega) | simp (disch := omega) only [go_sem, ↓reduceIte, Nat.reduceEqDiff, reduceCtorEq, Int.reduceEq, *, h0] | skip) | (refine callW_of pv rfl (.inl rfl) ?_) | (refine callW_of pt rfl (.inl rfl) ?_)
    refine AW_adoptM 2 1 52 2 _ rfl rfl (by decide) ?_
    refine AW_loop (fun j : Nat => ⟨[(1, I b), (2, .c (.ptr 0 0)), (4, .c (.ptr 1 0)), (8, .c (.ptr 2 0)), (9, I j)],
     [(0, .var [.pure (pI k), .pure (pMonos l)]), (1, .var [.pure (pI 0), .nils]), (2, .var [.pure (pI kb), .ref 3]), (3, .arr 52 2 (sclT b (l.take j)))], 4, 0⟩) (fun j => j ≤ l.length ∧ Hid (∀ m ∈ l.take j, in64 (m.2 * b))) (fun j => l.length - j) ⟨0, [], ⟨Nat.zero_le _, Lib.hid (by simp)⟩, by simp [Wk, wkF, wkM, wkL, look_cons, renV, renA, renC, renB, rn, clV, clA, clAs, clB, notIn, findB, findB_setB, clA.go, sclT]⟩ ?_
    clear pv pt
    rintro j ⟨hj, HT⟩
    refine runW_sound ?_
    by_cases hlt : j < l.length
    ·have g1 := map_get (f := mP) hlt
     have hx := hl _ (List.getElem_mem hlt)
     have pt := base_Times_abs hx hb
     have hlen : (sclT b (l.take j)).length ≤ 1000000000 := by simp [sclT]; omega
     have e1 : sclT b (l.take (j + 1)) = sclT b (l.take j) ++ [[pS l[j].1, pI (l[j].2 * b)]] := by
      rw [sclT, sclT, List.take_succ_eq_append_getElem hlt, List.map_append, List.map_append]; rfl
     by_cases hm : in64 (l[j].2 * b)
     ·have ek : ok64 (l[j].2 * b) = (l[j].2 * b, true) := by rw [ok64, if_pos hm]
      rw [ek] at pt
      have HT' : Hid (∀ m ∈ l.take (j + 1), in64 (m.2 * b)) := Lib.hid (by
       rw [List.take_succ_eq_append_getElem hlt]
       intro m hmm
       rcases List.mem_append.1 hmm with h | h
       ·exact HT.out m h
       ·rw [List.mem_singleton.1 h]; exact hm)
      clear HT hm ek hx
      generalize l[j] = m at *
      obtain ⟨n, x⟩ := m
      simp only [mP] at g1
      simp only at pt e1
      generalize x * b = xb at *
      generalize sclT b (l.take j) = D0 at *
      repeat' first | simp (disch := omega) only [go_sem, ↓reduceIte, Nat.reduceEqDiff, reduceCtorEq, Int.reduceEq, g1, wrap_i64] | ((with_reducible first | refine condD ?_ ?_ | refine condX ?_ ?_ | refine condW_intro ?_ ?_) <;> intro h <;> first | (exfalso; omega) | simp (disch := omega) only [go_sem, ↓reduceIte, Nat.reduceEqDiff, reduceCtorEq, Int.reduceEq, *, g1, wrap_i64] | skip) | (refine callW_of pt rfl (.inl rfl) ?_) | (refine app_own rfl (by intro h; cases h) (rowsOk_one rfl) (by simp; omega) (by simp; omega) ?_)
      exact ⟨j + 1, [(3, 4)], ⟨hlt, HT'⟩, by omega, by simp [Wk, wkF, wkM, wkL, look_cons, renV, renA, renC, renB, rn, clV, clA, clAs, clB, notIn, findB, findB_setB, clA.go, e1]⟩
     ·have ek : ok64 (l[j].2 * b) = (0, false) := by rw [ok64, if_neg hm]
      rw [ek] at pt
      have h2 : R = ((0, []), 3) := by rw [HR.out]; exact scaleS_neg h0 fun h => hm (h.2 _ (List.getElem_mem hlt))
      subst h2
      clear HR HT hm ek hx e1
      generalize l[j] = m at *
      obtain ⟨n, x⟩ := m
      simp only [mP] at g1
      simp only at pt
      repeat' first | simp (disch := omega) only [go_sem, ↓reduceIte, Nat.reduceEqDiff, reduceCtorEq, Int.reduceEq, g1, wrap_i64] | ((with_reducible first | refine condD ?_ ?_ | refine condX ?_ ?_ | refine condW_intro ?_ ?_) <;> intro h <;> first | (exfalso; omega) | simp (disch := omega) only [go_sem, ↓reduceIte, Nat.reduceEqDiff, reduceCtorEq, Int.reduceEq, *, g1, wrap_i64] | skip) | (refine callW_of pt rfl (.inl rfl) ?_)
      all_goals rfl
    ·obtain rfl : j = l.length := by omega
     have hT := HT.out
     rw [List.take_of_length_le (Nat.le_refl _)] at hT
     have h2 : R = ((kb, l.map fun m => (m.1, m.2 * b)), 0) := by
      rw [HR.out, ← HKB.out]
      exact scaleS_pos h0 ⟨by rw [HKB.out]; exact HK.out, hT⟩
     subst h2
     clear HR HT hT HK HKB
     rw [List.take_of_length_le (Nat.le_refl _)]
     repeat' first | simp (disch := omega) only [go_sem, ↓reduceIte, Nat.reduceEqDiff, reduceCtorEq, Int.reduceEq] | ((with_reducible first | refine condD ?_ ?_ | refine condX ?_ ?_ | refine condW_intro ?_ ?_) <;> intro h <;> first | (exfalso; omega) | simp (disch := omega) only [go_sem, ↓reduceIte, Nat.reduceEqDiff, reduceCtorEq, Int.reduceEq, *] | skip)
     all_goals rfl
   ·have ek : ok64 (a.1 * b) = (0, false) := by rw [ok64, if_neg hk]
    rw [ek] at pt
    rw [scaleS_neg h0 fun h => hk h.1]
    clear hok hk ek ha
    obtain ⟨k, l⟩ := a
    simp only at pv pt
    repeat' first | simp (disch := omega) only [go_sem, ↓reduceIte, Nat.reduceEqDiff, reduceCtorEq, Int.reduceEq, h0] | ((with_reducible first | refine condD ?_ ?_ | refine condX ?_ ?_ | refine condW_intro ?_ ?_) <;> intro h <;> first | (exfalso; omega) | simp (disch := omega) only [go_sem, ↓reduceIte, Nat.reduceEqDiff, reduceCtorEq, Int.reduceEq, *, h0] | skip) | (refine callW_of pv rfl (.inl rfl) ?_) | (refine callW_of pt rfl (.inl rfl) ?_)
    all_goals rfl
 ·rw [if_neg hok] at pv
  rw [if_pos hok]
  clear hok
  obtain ⟨k, l⟩ := a
  simp only at pv
  repeat' first | simp (disch := omega) only [go_sem, ↓reduceIte, Nat.reduceEqDiff, reduceCtorEq, Int.reduceEq] | ((with_reducible first | refine condD ?_ ?_ | refine condX ?_ ?_ | refine condW_intro ?_ ?_) <;> intro h <;> first | (exfalso; omega) | simp (disch := omega) only [go_sem, ↓reduceIte, Nat.reduceEqDiff, reduceCtorEq, Int.reduceEq, *] | skip) | (refine callW_of pv rfl (.inl rfl) ?_)
  all_goals rfl
theorem srtN_ext : ∀ {a b : List ByteArray}, srtN a → srtN b → (∀ n, n ∈ a ↔ n ∈ b) → a = b
 | [], [], _, _, _ => rfl
 | [], y :: b, _, _, h => absurd ((h y).2 List.mem_cons_self) (by simp)
 | x :: a, [], _, _, h => absurd ((h x).1 List.mem_cons_self) (by simp)
 |x :: a, y :: b, ha, hb, h => by
  obtain ⟨a1, a2⟩ := List.pairwise_cons.1 ha
  obtain ⟨b1, b2⟩ := List.pairwise_cons.1 hb
  have e : x = y := by
   rcases List.mem_cons.1 ((h x).1 List.mem_cons_self) with e | e
   ·exact e
   ·rcases List.mem_cons.1 ((h y).2 List.mem_cons_self) with e' | e'
    ·exact e'.symm
    ·exact absurd (b1 x e) (sless_asymm (a1 y e'))
  subst e
  rw [srtN_ext a2 b2 fun n => ?_]
  constructor
  ·intro hn
   rcases List.mem_cons.1 ((h n).1 (List.mem_cons_of_mem _ hn)) with e | e
   ·subst e
    exact absurd (a1 n hn) (sless_irrefl n)
   ·exact e
  ·intro hn
   rcases List.mem_cons.1 ((h n).2 (List.mem_cons_of_mem _ hn)) with e | e
   ·subst e
    exact absurd (b1 n hn) (sless_irrefl n)
   ·exact e
theorem foldI_mem : ∀ {s a : List ByteArray} {n : ByteArray}, n ∈ s.foldl insN a ↔ n ∈ a ∨ n ∈ s
 | [], a, n => by simp
 |b :: s, a, n => by
  rw [List.foldl_cons, foldI_mem, insN_mem]
  simp only [List.mem_cons, or_assoc]
theorem foldI_srt : ∀ {s a : List ByteArray}, srtN a → srtN (s.foldl insN a)
 | [], a, h => h
 |b :: s, a, h => by
  rw [List.foldl_cons]
  exact foldI_srt (insN_srt h)
theorem names_merge {k1 k2 : Int} {l1 l2 : List Mono} (h1 : srt l1) (h2 : srt l2) : namesS (allNames [(k1, l1), (k2, l2)]) = (mergeX l1 l2).map (·.1) := by
 obtain ⟨m1, m2, m3⟩ := mergeX_spec l1 l2 h1 h2
 refine srtN_ext (foldI_srt List.Pairwise.nil) (by unfold srtN; rw [List.pairwise_map]; exact m1) fun n => ?_
 rw [namesS, foldI_mem]
 simp only [allNames, List.flatMap_cons, List.flatMap_nil, List.append_nil, List.mem_append, List.mem_map, List.not_mem_nil, false_or]
 constructor
 ·rintro (⟨m, hm, rfl⟩ | ⟨m, hm, rfl⟩)
  ·obtain ⟨t, ht, e⟩ := m3 m (.inl hm)
   exact ⟨t, ht, e⟩
  ·obtain ⟨t, ht, e⟩ := m3 m (.inr hm)
   exact ⟨t, ht, e⟩
 ·rintro ⟨t, ht, rfl⟩
  obtain ⟨_, _, h⟩ := m2 t ht
  rcases h with ⟨m, hm, e⟩ | ⟨m, hm, e⟩
  ·exact .inl ⟨m, hm, e⟩
  ·exact .inr ⟨m, hm, e⟩
def addR2 (T : List Tri) : List (List PC) := (addT T).map mP
theorem addR2_take {T : List Tri} {j : Nat} (h : j < T.length) : addR2 (T.take (j + 1)) = if T[j].2.1 + T[j].2.2 = 0 then addR2 (T.take j) else addR2 (T.take j) ++ [[pS T[j].1, pI (T[j].2.1 + T[j].2.2)]] := by
 rw [addR2, addR2, List.take_succ_eq_append_getElem h, addT, List.filterMap_append]
 by_cases h0 : T[j].2.1 + T[j].2.2 = 0
 ·rw [if_pos h0]
  simp [h0, addT]
 ·rw [if_neg h0]
  simp [h0, addT, mP]
theorem addT_len (T : List Tri) : (addT T).length ≤ T.length := List.length_filterMap_le _ _
theorem addS_bad {a b : Lin} (h : ¬ addOk a b) : addS a b = ((0, []), 3) := by rw [addS, if_neg h]
set_option maxHeartbeats 4000000 in
theorem ref05_Add_abs {a b : Lin} (ha : lin64 a) (hb : lin64 b) (hs : a.2.length + b.2.length ≤ 1000000000) : PCalls Tryz.prog n_ref05_Add [aLin a.1 a.2, aLin b.1 b.2] (aLinE (addE a b)) := by
 refine PCalls.of is_ref05_Add (by simp) fun _ => runW_sound ?_
 obtain ⟨k1, l1⟩ := a
 obtain ⟨k2, l2⟩ := b
 obtain ⟨hk1, hl1⟩ := ha
 obtain ⟨hk2, hl2⟩ := hb
 simp only at hk1 hl1 hk2 hl2 hs
 have pv1 := ref05_Validate_abs k1 l1
 have pv2 := ref05_Validate_abs k2 l2
 have pp := base_Plus_abs hk1 hk2
 simp only [c_ref05_Add]
 unfold addE
 simp only
 by_cases o1 : linOk l1
 ·by_cases o2 : linOk l2
  ·rw [if_pos o1] at pv1
   rw [if_pos o2] at pv2
   rw [if_neg (by rintro (h | h); exact h o1; exact h o2)]
   by_cases hk : in64 (k1 + k2)
   ·have ek : ok64 (k1 + k2) = (k1 + k2, true) := by rw [ok64, if_pos hk]
    rw [ek] at pp
    obtain ⟨m1, m2, m3⟩ := mergeX_spec l1 l2 (linOk_iff.1 o1).1 (linOk_iff.1 o2).1
    have hTl := mergeX_len l1 l2
    have pn := ref05_Names_abs (l := [(k1, l1), (k2, l2)]) (by simp [allNames]; omega)
    rw [names_merge (linOk_iff.1 o1).1 (linOk_iff.1 o2).1] at pn
    have hc1 : ∀ n, in64 (cf l1 n) := cf_64 hl1
    have hc2 : ∀ n, in64 (cf l2 n) := cf_64 hl2
    obtain ⟨R, hR⟩ : ∃ R, R = addS (k1, l1) (k2, l2) := ⟨_, rfl⟩
    rw [← hR]
    have HBad : Hid ((∃ t ∈ mergeX l1 l2, ¬ in64 (t.2.1 + t.2.2)) → R = ((0, []), 3)) := Lib.hid fun ⟨t, ht, h⟩ => by
     rw [hR]; exact addS_bad fun h' => h (h'.2 t ht)
    have HGood : Hid ((∀ t ∈ mergeX l1 l2, in64 (t.2.1 + t.2.2)) → R = ((k1 + k2, addT (mergeX l1 l2)), 0)) := Lib.hid fun h => by
     rw [hR, addS, if_pos ⟨hk, h⟩]; rfl
    have pc1 := fun n => ref05_Coeff_abs k1 l1 n
    have pc2 := fun n => ref05_Coeff_abs k2 l2 n
    clear hR ek hk m1 m3 o1 o2 hl1 hl2 hk1 hk2
    generalize mergeX l1 l2 = T at *
    generalize k1 + k2 = K at *
    repeat' first | simp (disch := omega) only [go_sem, ↓reduceIte, Nat.reduceEqDiff, reduceCtorEq, Int.reduceEq] | ((with_reducible first | refine condD ?_ ?_ | refine condX ?_ ?_ | refine condW_intro ?_ ?_) <;> intro h <;> first | (exfalso; omega) | simp (disch := omega) only [go_sem, ↓reduceIte, Nat.reduceEqDiff, reduceCtorEq, Int.reduceEq, *] | skip) | (refine callW_of pv1 rfl (.inl rfl) ?_) | (refine callW_of pv2 rfl (.inl rfl) ?_) | (refine callW_of pp rfl (.inl rfl) ?_) | (refine callW_of pn rfl (.inr rfl) ?_)
    clear pv1 pv2 pp pn
    refine AW_adoptM 3 1 52 2 _ rfl rfl (by decide) ?_
    refine AW_loop (fun j : Nat => ⟨[(2, .c (.ptr 0 0)), (3, .c (.ptr 1 0)), (4, .c (.ptr 2 0)), (8, .c (.ptr 3 0)), (9, aStrs (T.map (·.1))), (10, I j)],
     [(0, .var [.pure (pI k1), .pure (pMonos l1)]), (1, .var [.pure (pI k2), .pure (pMonos l2)]), (2, .var [.pure (pI 0), .nils]), (3, .var [.pure (pI K), .ref 4]), (4, .arr 52 2 (addR2 (T.take j)))], 5, 0⟩) (fun j => j ≤ T.length ∧ Hid (∀ t ∈ T.take j, in64 (t.2.1 + t.2.2))) (fun j => T.length - j) ⟨0, [], ⟨Nat.zero_le _, Lib.hid (by simp)⟩, by simp [Wk, wkF, wkM, wkL, look_cons, renV, renA, renC, renB, rn, clV, clA, clAs, clB, notIn, findB, findB_setB, clA.go, addR2, addT]⟩ ?_
    rintro j ⟨hj, HT⟩
    refine runW_sound ?_
    have hml : ((T.map (·.1)).map fun s => [pS s]).length = T.length := by simp
    by_cases hlt : j < T.length
    ·have g1 : ((T.map (·.1)).map fun s => [pS s])[j]? = some [pS T[j].1] := by simp [hlt]
     obtain ⟨t1, t2, _⟩ := m2 _ (List.getElem_mem hlt)
     have q1 := pc1 T[j].1
     have q2 := pc2 T[j].1
     have b1 := hc1 T[j].1
     have b2 := hc2 T[j].1
     rw [← t1] at q1 b1
     rw [← t2] at q2 b2
     have qp := base_Plus_abs b1 b2
     have e1 := addR2_take hlt
     have hlen : (addR2 (T.take j)).length ≤ 2000000000 := by
      have := addT_len (T.take j)
      rw [List.length_take] at this
      simp only [addR2, List.length_map]
      omega
     by_cases hm : in64 (T[j].2.1 + T[j].2.2)
     ·have ek : ok64 (T[j].2.1 + T[j].2.2) = (T[j].2.1 + T[j].2.2, true) := by rw [ok64, if_pos hm]
      rw [ek] at qp
      have HT' : Hid (∀ t ∈ T.take (j + 1), in64 (t.2.1 + t.2.2)) := Lib.hid (by
       rw [List.take_succ_eq_append_getElem hlt]
       intro t ht
       rcases List.mem_append.1 ht with h | h
       ·exact HT.out t h
       ·rw [List.mem_singleton.1 h]; exact hm)
      clear HT hm ek b1 b2 t1 t2 m2 pc1 pc2 hc1 hc2
      generalize T[j] = t at *
      obtain ⟨n, x, y⟩ := t
      simp only at g1 q1 q2 qp e1
      generalize x + y = xy at *
      generalize addR2 (T.take j) = D0 at *
      by_cases hz : xy = 0
      ·rw [if_pos hz] at e1
       subst hz
       repeat' first | simp (disch := omega) only [go_sem, ↓reduceIte, Nat.reduceEqDiff, reduceCtorEq, Int.reduceEq, g1, hml, wrap_i64] | ((with_reducible first | refine condD ?_ ?_ | refine condX ?_ ?_ | refine condW_intro ?_ ?_) <;> intro h <;> first | (exfalso; omega) | simp (disch := omega) only [go_sem, ↓reduceIte, Nat.reduceEqDiff, reduceCtorEq, Int.reduceEq, *, g1, hml, wrap_i64] | skip) | (with_reducible refine bothW_intro ?_ ?_) | (with_reducible refine nilW_intro (fun h => ?_) ?_) | (refine callW_of q1 rfl (.inl rfl) ?_) | (refine callW_of q2 rfl (.inl rfl) ?_) | (refine callW_of qp rfl (.inl rfl) ?_)
       all_goals exact ⟨j + 1, [], ⟨hlt, HT'⟩, by omega, by simp [Wk, wkF, wkM, wkL, look_cons, renV, renA, renC, renB, rn, clV, clA, clAs, clB, notIn, findB, findB_setB, clA.go, e1]⟩
      ·rw [if_neg hz] at e1
       repeat' first | simp (disch := omega) only [go_sem, ↓reduceIte, Nat.reduceEqDiff, reduceCtorEq, Int.reduceEq, g1, hml, hz, wrap_i64] | ((with_reducible first | refine condD ?_ ?_ | refine condX ?_ ?_ | refine condW_intro ?_ ?_) <;> intro h <;> first | (exfalso; omega) | simp (disch := omega) only [go_sem, ↓reduceIte, Nat.reduceEqDiff, reduceCtorEq, Int.reduceEq, *, g1, hml, hz, wrap_i64] | skip) | (with_reducible refine bothW_intro ?_ ?_) | (with_reducible refine nilW_intro (fun h => ?_) ?_) | (refine callW_of q1 rfl (.inl rfl) ?_) | (refine callW_of q2 rfl (.inl rfl) ?_) | (refine callW_of qp rfl (.inl rfl) ?_) | (refine app_own rfl (by intro h; cases h) (rowsOk_one rfl) (by simp; omega) (by simp; omega) ?_)
       all_goals exact ⟨j + 1, [(4, 5)], ⟨hlt, HT'⟩, by omega, by simp [Wk, wkF, wkM, wkL, look_cons, renV, renA, renC, renB, rn, clV, clA, clAs, clB, notIn, findB, findB_setB, clA.go, e1]⟩
     ·have ek : ok64 (T[j].2.1 + T[j].2.2) = (0, false) := by rw [ok64, if_neg hm]
      rw [ek] at qp
      have h2 := HBad.out ⟨_, List.getElem_mem hlt, hm⟩
      subst h2
      clear HBad HGood HT hm ek b1 b2 t1 t2 m2 pc1 pc2 hc1 hc2 e1
      generalize T[j] = t at *
      obtain ⟨n, x, y⟩ := t
      simp only at g1 q1 q2 qp
      repeat' first | simp (disch := omega) only [go_sem, ↓reduceIte, Nat.reduceEqDiff, reduceCtorEq, Int.reduceEq, g1, hml, wrap_i64] | ((with_reducible first | refine condD ?_ ?_ | refine condX ?_ ?_ | refine condW_intro ?_ ?_) <;> intro h <;> first | (exfalso; omega) | simp (disch := omega) only [go_sem, ↓reduceIte, Nat.reduceEqDiff, reduceCtorEq, Int.reduceEq, *, g1, hml, wrap_i64] | skip) | (with_reducible refine bothW_intro ?_ ?_) | (with_reducible refine nilW_intro (fun h => ?_) ?_) | (refine callW_of q1 rfl (.inl rfl) ?_) | (refine callW_of q2 rfl (.inl rfl) ?_) | (refine callW_of qp rfl (.inl rfl) ?_)
      all_goals rfl
    ·obtain rfl : j = T.length := by omega
     have hT := HT.out
     rw [List.take_of_length_le (Nat.le_refl _)] at hT
     have h2 := HGood.out hT
     subst h2
     clear HBad HGood HT hT m2 pc1 pc2 hc1 hc2
     rw [List.take_of_length_le (Nat.le_refl _)]
     repeat' first | simp (disch := omega) only [go_sem, ↓reduceIte, Nat.reduceEqDiff, reduceCtorEq, Int.reduceEq, hml] | ((with_reducible first | refine condD ?_ ?_ | refine condX ?_ ?_ | refine condW_intro ?_ ?_) <;> intro h <;> first | (exfalso; omega) | simp (disch := omega) only [go_sem, ↓reduceIte, Nat.reduceEqDiff, reduceCtorEq, Int.reduceEq, *, hml] | skip)
     all_goals rfl
   ·have ek : ok64 (k1 + k2) = (0, false) := by rw [ok64, if_neg hk]
    rw [ek] at pp
    rw [addS_bad fun h => hk h.1]
    clear hk ek o1 o2
    repeat' first | simp (disch := omega) only [go_sem, ↓reduceIte, Nat.reduceEqDiff, reduceCtorEq, Int.reduceEq] | ((with_reducible first | refine condD ?_ ?_ | refine condX ?_ ?_ | refine condW_intro ?_ ?_) <;> intro h <;> first | (exfalso; omega) | simp (disch := omega) only [go_sem, ↓reduceIte, Nat.reduceEqDiff, reduceCtorEq, Int.reduceEq, *] | skip) | (refine callW_of pv1 rfl (.inl rfl) ?_) | (refine callW_of pv2 rfl (.inl rfl) ?_) | (refine callW_of pp rfl (.inl rfl) ?_)
    all_goals rfl
  ·rw [if_pos o1] at pv1
   rw [if_neg o2] at pv2
   rw [if_pos (.inr o2)]
   clear o1 o2
   repeat' first | simp (disch := omega) only [go_sem, ↓reduceIte, Nat.reduceEqDiff, reduceCtorEq, Int.reduceEq] | ((with_reducible first | refine condD ?_ ?_ | refine condX ?_ ?_ | refine condW_intro ?_ ?_) <;> intro h <;> first | (exfalso; omega) | simp (disch := omega) only [go_sem, ↓reduceIte, Nat.reduceEqDiff, reduceCtorEq, Int.reduceEq, *] | skip) | (refine callW_of pv1 rfl (.inl rfl) ?_) | (refine callW_of pv2 rfl (.inl rfl) ?_)
   all_goals rfl
 ·rw [if_neg o1] at pv1
  rw [if_pos (.inl o1)]
  clear o1 pv2
  repeat' first | simp (disch := omega) only [go_sem, ↓reduceIte, Nat.reduceEqDiff, reduceCtorEq, Int.reduceEq] | ((with_reducible first | refine condD ?_ ?_ | refine condX ?_ ?_ | refine condW_intro ?_ ?_) <;> intro h <;> first | (exfalso; omega) | simp (disch := omega) only [go_sem, ↓reduceIte, Nat.reduceEqDiff, reduceCtorEq, Int.reduceEq, *] | skip) | (refine callW_of pv1 rfl (.inl rfl) ?_)
  all_goals rfl
abbrev aConE2 (x : Lin × Int) : AV := .tup [aCon (x.1, false), I x.2]
theorem ref08_AtLeast_abs {f : Lin} {b : Int} (hf : lin64 f) (hl : f.2.length ≤ 1000000) (hb : B40 b) : PCalls Tryz.prog n_ref08_AtLeast [aLin f.1 f.2, I b] (aConE2 (addE f (-b, []))) := by
 refine PCalls.of is_ref08_AtLeast (by simp) fun _ => runW_sound ?_
 simp only [c_ref08_AtLeast]
 have wn : IntKind.wrap .i64 (0 - b) = -b := by rw [Int.zero_sub]; exact wrap_i64 (by omega)
 have pc := ref05_Const_abs (-b)
 have pa := ref05_Add_abs (a := f) (b := (-b, [])) hf ⟨by unfold in64; simp only; omega, fun m hm => by cases hm⟩ (by simp; omega)
 generalize addE f (-b, []) = G at *
 obtain ⟨⟨GK, GL⟩, ge⟩ := G
 obtain ⟨K, m⟩ := f
 simp only at pa
 repeat' first | simp (disch := omega) only [go_sem, ↓reduceIte, Nat.reduceEqDiff, reduceCtorEq, Int.reduceEq, wn] | ((with_reducible first | refine condD ?_ ?_ | refine condX ?_ ?_ | refine condW_intro ?_ ?_) <;> intro h <;> first | (exfalso; omega) | simp (disch := omega) only [go_sem, ↓reduceIte, Nat.reduceEqDiff, reduceCtorEq, Int.reduceEq, *, wn] | skip) | (with_reducible refine bothW_intro ?_ ?_) | (with_reducible refine nilW_intro (fun h => ?_) ?_) | (refine callW_of pc rfl (.inr rfl) ?_) | (refine callW_of pa rfl (.inr rfl) ?_)
 all_goals rfl
set_option maxHeartbeats 2000000 in
theorem ref08_Below_abs {f s : Lin} (hf : lin64 f) (hs : lin64 s) (hl : f.2.length ≤ 1000000) (hl2 : s.2.length ≤ 1000000) : PCalls Tryz.prog n_ref08_Below [aLin f.1 f.2, aLin s.1 s.2] (aConE2 (belowS f s)) := by
 refine PCalls.of is_ref08_Below (by simp) fun _ => runW_sound ?_
 simp only [c_ref08_Below]
 have p1 := ref05_Scale_abs (a := f) (b := -1) hf (by simp [in64]) (by unfold short; omega)
 have g1 := scaleE_64 (a := f)
 have g2 := scaleE_len f (-1)
 have p2 := ref05_Add_abs (a := s) (b := (scaleE f (-1)).1) hs g1 (by omega)
 have g3 := addE_64 s (scaleE f (-1)).1
 have g4 := addE_len s (scaleE f (-1)).1
 have pc := ref05_Const_abs (-1)
 have p3 := ref05_Add_abs (a := (addE s (scaleE f (-1)).1).1) (b := (-1, [])) g3 ⟨by simp [in64], fun m hm => by cases hm⟩ (by simp; omega)
 unfold belowS
 generalize addE (addE s (scaleE f (-1)).1).1 (-1, []) = G3 at *
 generalize addE s (scaleE f (-1)).1 = G2 at *
 generalize scaleE f (-1) = G1 at *
 obtain ⟨⟨K1, L1⟩, e1⟩ := G1
 obtain ⟨⟨K2, L2⟩, e2⟩ := G2
 obtain ⟨⟨K3, L3⟩, e3⟩ := G3
 obtain ⟨K, m⟩ := f
 obtain ⟨K', m'⟩ := s
 simp only at p1 p2 p3 ⊢
 clear g1 g2 g3 g4
 by_cases h1 : e1 = 0
 ·subst h1
  rw [if_neg (by simp)]
  by_cases h2 : e2 = 0
  ·subst h2
   rw [if_neg (by simp)]
   repeat' first | simp (disch := omega) only [go_sem, ↓reduceIte, Nat.reduceEqDiff, reduceCtorEq, Int.reduceEq] | ((with_reducible first | refine condD ?_ ?_ | refine condX ?_ ?_ | refine condW_intro ?_ ?_) <;> intro h <;> first | (exfalso; omega) | simp (disch := omega) only [go_sem, ↓reduceIte, Nat.reduceEqDiff, reduceCtorEq, Int.reduceEq, *] | skip) | (with_reducible refine bothW_intro ?_ ?_) | (with_reducible refine nilW_intro (fun h => ?_) ?_) | (refine callW_of p1 rfl (.inr rfl) ?_) | (refine callW_of p2 rfl (.inr rfl) ?_) | (refine callW_of pc rfl (.inr rfl) ?_) | (refine callW_of p3 rfl (.inr rfl) ?_)
   all_goals rfl
  ·rw [if_pos h2]
   repeat' first | simp (disch := omega) only [go_sem, ↓reduceIte, Nat.reduceEqDiff, reduceCtorEq, Int.reduceEq, h2] | ((with_reducible first | refine condD ?_ ?_ | refine condX ?_ ?_ | refine condW_intro ?_ ?_) <;> intro h <;> first | (exfalso; omega) | simp (disch := omega) only [go_sem, ↓reduceIte, Nat.reduceEqDiff, reduceCtorEq, Int.reduceEq, *, h2] | skip) | (with_reducible refine bothW_intro ?_ ?_) | (with_reducible refine nilW_intro (fun h => ?_) ?_) | (refine callW_of p1 rfl (.inr rfl) ?_) | (refine callW_of p2 rfl (.inr rfl) ?_)
   all_goals rfl
 ·rw [if_pos h1]
  repeat' first | simp (disch := omega) only [go_sem, ↓reduceIte, Nat.reduceEqDiff, reduceCtorEq, Int.reduceEq, h1] | ((with_reducible first | refine condD ?_ ?_ | refine condX ?_ ?_ | refine condW_intro ?_ ?_) <;> intro h <;> first | (exfalso; omega) | simp (disch := omega) only [go_sem, ↓reduceIte, Nat.reduceEqDiff, reduceCtorEq, Int.reduceEq, *, h1] | skip) | (with_reducible refine bothW_intro ?_ ?_) | (with_reducible refine nilW_intro (fun h => ?_) ?_) | (refine callW_of p1 rfl (.inr rfl) ?_)
  all_goals rfl
set_option maxHeartbeats 2000000 in
theorem entail_below_abs {f s : Lin} (hf : lin64 f) (hs : lin64 s) (hl : f.2.length ≤ 1000000) (hl2 : s.2.length ≤ 1000000) : PCalls Tryz.prog n_entail_below [aLin f.1 f.2, aLin s.1 s.2] (aLinE (belowS f s)) := by
 refine PCalls.of is_entail_below (by simp) fun _ => runW_sound ?_
 simp only [c_entail_below]
 have p1 := lin_Scale_abs (a := f) (b := -1) hf (by simp [in64]) (by unfold short; omega)
 have g1 := scaleE_64 (a := f)
 have g2 := scaleE_len f (-1)
 have p2 := lin_Add_abs (a := s) (b := (scaleE f (-1)).1) hs g1 (by unfold short; omega) (by unfold short; omega)
 have g3 := addE_64 s (scaleE f (-1)).1
 have g4 := addE_len s (scaleE f (-1)).1
 have pc := lin_Const_abs (-1)
 have p3 := lin_Add_abs (a := (addE s (scaleE f (-1)).1).1) (b := (-1, [])) g3 ⟨by simp [in64], fun m hm => by cases hm⟩ (by unfold short; omega) (by unfold short; simp)
 unfold belowS
 generalize addE (addE s (scaleE f (-1)).1).1 (-1, []) = G3 at *
 generalize addE s (scaleE f (-1)).1 = G2 at *
 generalize scaleE f (-1) = G1 at *
 obtain ⟨⟨K1, L1⟩, e1⟩ := G1
 obtain ⟨⟨K2, L2⟩, e2⟩ := G2
 obtain ⟨⟨K3, L3⟩, e3⟩ := G3
 obtain ⟨K, m⟩ := f
 obtain ⟨K', m'⟩ := s
 simp only at p1 p2 p3 ⊢
 clear g1 g2 g3 g4
 by_cases h1 : e1 = 0
 ·subst h1
  rw [if_neg (by simp)]
  by_cases h2 : e2 = 0
  ·subst h2
   rw [if_neg (by simp)]
   repeat' first | simp (disch := omega) only [go_sem, ↓reduceIte, Nat.reduceEqDiff, reduceCtorEq, Int.reduceEq] | ((with_reducible first | refine condD ?_ ?_ | refine condX ?_ ?_ | refine condW_intro ?_ ?_) <;> intro h <;> first | (exfalso; omega) | simp (disch := omega) only [go_sem, ↓reduceIte, Nat.reduceEqDiff, reduceCtorEq, Int.reduceEq, *] | skip) | (with_reducible refine bothW_intro ?_ ?_) | (with_reducible refine nilW_intro (fun h => ?_) ?_) | (refine callW_of p1 rfl (.inr rfl) ?_) | (refine callW_of p2 rfl (.inr rfl) ?_) | (refine callW_of pc rfl (.inr rfl) ?_) | (refine callW_of p3 rfl (.inr rfl) ?_)
   all_goals rfl
  ·rw [if_pos h2]
   repeat' first | simp (disch := omega) only [go_sem, ↓reduceIte, Nat.reduceEqDiff, reduceCtorEq, Int.reduceEq, h2] | ((with_reducible first | refine condD ?_ ?_ | refine condX ?_ ?_ | refine condW_intro ?_ ?_) <;> intro h <;> first | (exfalso; omega) | simp (disch := omega) only [go_sem, ↓reduceIte, Nat.reduceEqDiff, reduceCtorEq, Int.reduceEq, *, h2] | skip) | (with_reducible refine bothW_intro ?_ ?_) | (with_reducible refine nilW_intro (fun h => ?_) ?_) | (refine callW_of p1 rfl (.inr rfl) ?_) | (refine callW_of p2 rfl (.inr rfl) ?_)
   all_goals rfl
 ·rw [if_pos h1]
  repeat' first | simp (disch := omega) only [go_sem, ↓reduceIte, Nat.reduceEqDiff, reduceCtorEq, Int.reduceEq, h1] | ((with_reducible first | refine condD ?_ ?_ | refine condX ?_ ?_ | refine condW_intro ?_ ?_) <;> intro h <;> first | (exfalso; omega) | simp (disch := omega) only [go_sem, ↓reduceIte, Nat.reduceEqDiff, reduceCtorEq, Int.reduceEq, *, h1] | skip) | (with_reducible refine bothW_intro ?_ ?_) | (with_reducible refine nilW_intro (fun h => ?_) ?_) | (refine callW_of p1 rfl (.inr rfl) ?_)
  all_goals rfl
end Go.Proofs.YtnddmjhpplopbaaGreat
