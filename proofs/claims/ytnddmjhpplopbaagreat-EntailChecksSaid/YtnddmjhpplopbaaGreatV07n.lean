/- Walks by the abstract machine: the reference's tight constraints. -/
import Derived.Test.YtnddmjhpplopbaaGreatV07k
set_option linter.unusedVariables false
set_option linter.unusedSimpArgs false
set_option maxRecDepth 20000
namespace Go.Proofs.YtnddmjhpplopbaaGreat
open Go.Abs Go.RowKit

/-- The reference's coefficients, and whether all are numbers. -/
def divRL (g : Nat) (s : Bool) (l : List Mono) : List Mono := l.map fun m => (m.1, (divR m.2 g s).1)
def allR (g : Nat) (s : Bool) (l : List Mono) : Bool := l.all fun m => (divR m.2 g s).2
theorem divRL_take {l : List Mono} {g k : Nat} {s : Bool} (h : k < l.length) : (divRL g s (l.take (k + 1))).map mP = (divRL g s (l.take k)).map mP ++ [[pS l[k].1, pI (divR l[k].2 g s).1]] := by
 rw [List.take_succ_eq_append_getElem h]
 show ((l.take k ++ [l[k]]).map _).map mP = _
 rw [List.map_append, List.map_append]
 rfl
theorem allR_take {l : List Mono} {g k : Nat} {s : Bool} (h : k < l.length) : allR g s (l.take (k + 1)) = (allR g s (l.take k) && (divR l[k].2 g s).2) := by
 rw [List.take_succ_eq_append_getElem h]
 show (l.take k ++ [l[k]]).all _ = _
 rw [List.all_append, List.all_cons, List.all_nil, Bool.and_true]
 rfl
theorem allR_false {g : Nat} {l : List Mono} : allR g false l = true := by simp [allR, divR]
theorem divRL_false {g : Nat} {l : List Mono} : divRL g false l = divL g l := by simp [divRL, divL, divR]
theorem allR_true {g : Nat} {l : List Mono} : allR g true l = true ↔ ∀ m ∈ divL g l, in64 (-m.2) := by
 simp only [allR, divR, List.all_eq_true, if_true, divL, List.mem_map]
 constructor
 ·rintro h m ⟨x, hx, rfl⟩
  exact ok64_snd.1 (h x hx)
 ·intro h x hx
  exact ok64_snd.2 (h _ ⟨x, hx, rfl⟩)
theorem divRL_true {g : Nat} {l : List Mono} (h : allR g true l = true) : divRL g true l = (divL g l).map fun m => (m.1, -m.2) := by
 rw [divRL, divL, List.map_map]
 refine List.map_congr_left fun m hm => ?_
 have := ok64_snd.1 (by simpa [divR] using List.all_eq_true.1 h m hm : (ok64 (-(m.2 / (g : Int)))).2 = true)
 simp only [divR, if_true, Function.comp_apply, ok64_in this]
/-- The reference's tight form of a constraint with variables. -/
def tightR (k : Int) (G : Nat) (q neg : Bool) (L : List Mono) : Con × Int := if ((divR k G neg).2 && allR G neg L) = true then ((((divR k G neg).1, divRL G neg L), q), 0) else (conZ, 3)
theorem tightS_cons {k : Int} {L : List Mono} {q : Bool} (hok : linOk L) (hl : L ≠ []) : ((tightS ((k, L), q)).1, (tightS ((k, L), q)).2.2) =
  if q = true ∧ k.natAbs % gcdL L ≠ 0 then (conF, 0) else tightR k (gcdL L) q (q && decide ((L.headD (.empty, 0)).2 < 0)) L := by
 unfold tightS
 simp only
 rw [if_neg (not_not_intro hok), if_neg hl]
 generalize gcdL L = G
 by_cases h1 : q = true ∧ k.natAbs % G ≠ 0
 ·rw [if_pos h1, if_pos h1]
 ·rw [if_neg h1, if_neg h1]
  by_cases h2 : q = true ∧ (L.headD (.empty, 0)).2 < 0
  ·rw [if_pos h2]
   obtain ⟨rfl, h3⟩ := h2
   have e : (true && decide ((L.headD (ByteArray.empty, (0 : Int))).2 < 0)) = true := by rw [decide_eq_true h3]; rfl
   rw [e]
   unfold tightR
   by_cases h4 : in64 (-(k / (G : Int)))
   ·by_cases h5 : allR G true L = true
    ·rw [if_pos ⟨h4, allR_true.1 h5⟩, if_pos (by simp [divR, ok64_in h4, h5]), divRL_true h5]
     simp only [divR, if_true, ok64_in h4]
    ·rw [if_neg (fun h => h5 (allR_true.2 h.2)), if_neg (by simp [h5])]
   ·rw [if_neg (fun h => h4 h.1), if_neg (by simp [divR, ok64_out h4])]
  ·rw [if_neg h2]
   have e : (q && decide ((L.headD (ByteArray.empty, (0 : Int))).2 < 0)) = false := by
    cases q
    ·rfl
    ·simpa using h2
   rw [e]
   unfold tightR
   rw [if_pos (by simp [divR, allR_false]), divRL_false]
   simp [divR]
set_option maxHeartbeats 4000000 in
theorem ref07_Tight_abs {c : Con} (h64 : con64 c) (hs : c.1.2.length ≤ 1000000000) : PCalls Tryz.prog n_ref07_Tight [aCon c] (.tup [aCon (tightS c).1, I (tightS c).2.2]) := by
 refine PCalls.of is_ref07_Tight (by simp) fun _ => runW_sound ?_
 obtain ⟨⟨k, l⟩, q⟩ := c
 obtain ⟨hk, h64⟩ := h64
 simp only at hk h64 hs
 have pv := base_LinRight_abs k l
 simp only [c_ref07_Tight]
 by_cases hok : linOk l
 ·rw [decide_eq_true hok] at pv
  cases l with
  | nil =>
   unfold tightS
   simp only
   rw [if_neg (not_not_intro hok)]
   first | rw [if_pos rfl] | rw [if_pos trivial] | skip
   by_cases hneg : k < 0
   ·rw [if_neg (by omega)]
    repeat' first | simp (disch := omega) only [go_sem, ↓reduceIte, Nat.reduceEqDiff, reduceCtorEq, Int.reduceEq] | ((with_reducible first | refine condD ?_ ?_ | refine condX ?_ ?_ | refine condW_intro ?_ ?_) <;> intro h <;> first | (exfalso; omega) | simp (disch := omega) only [go_sem, ↓reduceIte, Nat.reduceEqDiff, reduceCtorEq, Int.reduceEq, *] | skip) | (refine callW_of pv rfl (.inl rfl) ?_)
    all_goals rfl
   ·by_cases h0 : k = 0
    ·subst h0
     rw [if_pos (.inl rfl)]
     cases q
     all_goals
      repeat' first | simp (disch := omega) only [go_sem, ↓reduceIte, Nat.reduceEqDiff, reduceCtorEq, Int.reduceEq] | ((with_reducible first | refine condD ?_ ?_ | refine condX ?_ ?_ | refine condW_intro ?_ ?_) <;> intro h <;> first | (exfalso; omega) | simp (disch := omega) only [go_sem, ↓reduceIte, Nat.reduceEqDiff, reduceCtorEq, Int.reduceEq, *] | skip) | (refine callW_of pv rfl (.inl rfl) ?_)
      all_goals rfl
    ·cases q
     ·rw [if_pos (.inr ⟨by omega, rfl⟩)]
      repeat' first | simp (disch := omega) only [go_sem, ↓reduceIte, Nat.reduceEqDiff, reduceCtorEq, Int.reduceEq, h0] | ((with_reducible first | refine condD ?_ ?_ | refine condX ?_ ?_ | refine condW_intro ?_ ?_) <;> intro h <;> first | (exfalso; omega) | simp (disch := omega) only [go_sem, ↓reduceIte, Nat.reduceEqDiff, reduceCtorEq, Int.reduceEq, *, h0] | skip) | (refine callW_of pv rfl (.inl rfl) ?_)
      all_goals rfl
     ·rw [if_neg (by rintro (h | h); exact h0 h; cases h.2)]
      repeat' first | simp (disch := omega) only [go_sem, ↓reduceIte, Nat.reduceEqDiff, reduceCtorEq, Int.reduceEq, h0] | ((with_reducible first | refine condD ?_ ?_ | refine condX ?_ ?_ | refine condW_intro ?_ ?_) <;> intro h <;> first | (exfalso; omega) | simp (disch := omega) only [go_sem, ↓reduceIte, Nat.reduceEqDiff, reduceCtorEq, Int.reduceEq, *, h0] | skip) | (refine callW_of pv rfl (.inl rfl) ?_)
      all_goals rfl
  | cons m r =>
   have hall := (linOk_iff.1 hok).2
   have hne : (m :: r) ≠ [] := by simp
   have hsp := tightS_cons (k := k) (q := q) hok hne
   have hg := gcdL_pos hne (fun x hx => (hall x hx).2)
   have hg2 := gcdL_le hne (fun x hx => (hall x hx).2) h64
   have pz := ref07_size_abs hk
   have e0 : ¬ (((m :: r).length : Nat) : Int) = 0 := by simp; omega
   have gD : ((m :: r).map mP)[0]? = some [pS m.1, pI m.2] := rfl
   have hhd : ((m :: r).headD (.empty, 0)).2 = m.2 := rfl
   rw [hhd] at hsp
   generalize m.1 = n0 at *
   generalize m.2 = x0 at *
   generalize hL : m :: r = L at *
   clear hL hok hne hall hhd
   generalize tightS ((k, L), q) = TS at *
   obtain ⟨TC, TT, TE⟩ := TS
   simp only at hsp ⊢
   have HSP := Lib.hid hsp
   clear hsp
   obtain ⟨G, hG⟩ : ∃ G, G = gcdF 0 (L.drop 0) := ⟨_, rfl⟩
   have hG0 : gcdL L = G := hG.symm
   rw [hG0] at hg hg2 HSP
   have HG := Lib.hid hG
   clear hG hG0
   generalize hM : k.natAbs % G = M at *
   have HM := Lib.hid hM
   clear hM
   repeat' first | simp (disch := omega) only [go_sem, ↓reduceIte, Nat.reduceEqDiff, reduceCtorEq, Int.reduceEq, e0] | ((with_reducible first | refine condD ?_ ?_ | refine condX ?_ ?_ | refine condW_intro ?_ ?_) <;> intro h <;> first | (exfalso; omega) | simp (disch := omega) only [go_sem, ↓reduceIte, Nat.reduceEqDiff, reduceCtorEq, Int.reduceEq, *, e0] | skip) | (refine callW_of pv rfl (.inl rfl) ?_)
   refine AW_loop (fun s : Nat × Nat => ⟨[(1, .c (.ptr 0 0)), (2, .c (.ptr 1 0)), (4, .c (.ptr 2 0)), (5, U s.2), (6, I s.1)], [(2, .var [.pure (pI (-1)), .nils, .pure (pB false)]), (1, .var [.pure (pI 0), .nils, .pure (pB false)]), (0, .var [.pure (pI k), .pure (pMonos L), .pure (pB q)])], 3, 0⟩)
    (fun s => s.1 ≤ L.length ∧ s.2 ≤ 9223372036854775808 ∧ Hid (G = gcdF s.2 (L.drop s.1))) (fun s => L.length - s.1) ⟨(0, 0), [], ⟨Nat.zero_le _, by simp, HG⟩, by simp [Wk, wkF, wkM, wkL, look_cons, renV, renA, renC, renB, rn, clV, clA, clAs, clB, notIn, findB, findB_setB, clA.go]⟩ ?_
   clear HG pv
   rintro ⟨j, g⟩ ⟨hj, hgb, HG⟩
   simp only at hj hgb HG
   refine runW_sound ?_
   by_cases hlt : j < L.length
   ·have g1 := map_get (f := mP) hlt
    have h2 := HG.out
    rw [List.drop_eq_getElem_cons hlt] at h2
    have hx := h64 _ (List.getElem_mem hlt)
    clear HG
    generalize L[j] = m at *
    obtain ⟨n, x⟩ := m
    simp only [mP] at g1
    simp only [gcdF, List.foldl_cons] at h2
    simp only at hx
    have ps := ref07_size_abs hx
    have pg := ref07_gcd_abs g x.natAbs
    have hgb' : Nat.gcd g x.natAbs ≤ 9223372036854775808 := by
     have hx2 : x.natAbs ≤ 9223372036854775808 := by unfold in64 at hx; omega
     by_cases h0 : g = 0
     ·rw [h0, Nat.gcd_zero_left]; exact hx2
     ·exact Nat.le_trans (Nat.gcd_le_left _ (Nat.pos_of_ne_zero h0)) hgb
    have HG : Hid (G = gcdF (Nat.gcd g x.natAbs) (L.drop (j + 1))) := Lib.hid h2
    clear h2
    generalize Nat.gcd g x.natAbs = g' at *
    generalize x.natAbs = X at *
    repeat' first | simp (disch := omega) only [go_sem, ↓reduceIte, Nat.reduceEqDiff, reduceCtorEq, Int.reduceEq, g1, wrap_i64] | ((with_reducible first | refine condD ?_ ?_ | refine condX ?_ ?_ | refine condW_intro ?_ ?_) <;> intro h <;> first | (exfalso; omega) | simp (disch := omega) only [go_sem, ↓reduceIte, Nat.reduceEqDiff, reduceCtorEq, Int.reduceEq, *, g1, wrap_i64] | skip) | (refine callW_of ps rfl (.inl rfl) ?_) | (refine callW_of pg rfl (.inl rfl) ?_)
    exact ⟨(j + 1, g'), [], ⟨hlt, hgb', HG⟩, by show _ - _ < _ - _; omega, by simp [Wk, wkF, wkM, wkL, look_cons, renV, renA, renC, renB, rn, clV, clA, clAs, clB, notIn, findB, findB_setB, clA.go]⟩
   ·have h2 := HG.out
    rw [List.drop_eq_nil_of_le (by omega)] at h2
    simp only [gcdF, List.foldl_nil] at h2
    subst h2
    clear HG hgb
    have hgi : ¬ (G : Int) = 0 := by omega
    have hmod : ((k.natAbs : Nat) : Int).tmod (G : Int) = (M : Int) := by rw [tmod_nat, HM.out]
    generalize k.natAbs = KN at *
    clear HM
    cases q
    ·have h3 := HSP.out
     rw [if_neg (by simp)] at h3
     simp only [Bool.false_and] at h3
     have pd := ref07_divided_abs (x := k) false hk hg hg2
     unfold tightR at h3
     generalize divR k G false = KR at *
     obtain ⟨KR, kok⟩ := KR
     simp only at h3
     have H3 := Lib.hid h3
     clear h3 HSP
     repeat' first | simp (disch := omega) only [go_sem, ↓reduceIte, Nat.reduceEqDiff, reduceCtorEq, Int.reduceEq, hgi, ne_eq, hmod, gD, wrap_i64] | ((with_reducible first | refine condD ?_ ?_ | refine condX ?_ ?_ | refine condW_intro ?_ ?_) <;> intro h <;> first | (exfalso; omega) | simp (disch := omega) only [go_sem, ↓reduceIte, Nat.reduceEqDiff, reduceCtorEq, Int.reduceEq, *, hgi, ne_eq, hmod, gD, wrap_i64] | skip) | (refine callW_of pz rfl (.inl rfl) ?_) | (refine callW_of pd rfl (.inl rfl) ?_)
     refine AW_adoptM 3 1 52 2 [.pure (pI KR), .nils, .pure (pB false)] rfl rfl (by decide) ?_
     refine AW_loop (fun j : Nat => ⟨[(1, .c (.ptr 0 0)), (2, .c (.ptr 1 0)), (5, U G), (7, Go.Abs.B false), (8, .c (.ptr 3 0)), (10, Go.Abs.B (kok && allR G false (L.take j))), (11, I j)], [(4, .arr 52 2 ((divRL G false (L.take j)).map mP)), (3, .var [.pure (pI KR), .ref 4, .pure (pB false)]), (1, .var [.pure (pI 0), .nils, .pure (pB false)]), (0, .var [.pure (pI k), .pure (pMonos L), .pure (pB false)])], 5, 0⟩)
      (fun j => j ≤ L.length) (fun j => L.length - j) ⟨0, [], Nat.zero_le _, by simp [Wk, wkF, wkM, wkL, look_cons, renV, renA, renC, renB, rn, clV, clA, clAs, clB, notIn, findB, findB_setB, clA.go, allR, divRL, setB]⟩ ?_
     clear pz pd gD hmod hgi
     intro j hj
     refine runW_sound ?_
     by_cases hlt : j < L.length
     ·have g1 := map_get (f := mP) hlt
      have e1 := divRL_take (g := G) (s := false) hlt
      have e2 := allR_take (g := G) (s := false) hlt
      have hx := h64 _ (List.getElem_mem hlt)
      have hdl : ((divRL G false (L.take j)).map mP).length ≤ 1000000000 := by simp [divRL]; omega
      generalize (divRL G false (L.take j)).map mP = D at *
      generalize allR G false (L.take j) = ak at *
      generalize L[j] = m at *
      obtain ⟨n, x⟩ := m
      simp only [mP] at g1
      simp only at hx
      have pd := ref07_divided_abs (x := x) false hx hg hg2
      simp only at e1 e2
      generalize divR x G false = Y at *
      obtain ⟨Y, yok⟩ := Y
      simp only at e1 e2
      cases kok
      ·repeat' first | simp (disch := omega) only [go_sem, ↓reduceIte, Nat.reduceEqDiff, reduceCtorEq, Int.reduceEq, g1, Bool.false_and, Bool.true_and, wrap_i64] | ((with_reducible first | refine condD ?_ ?_ | refine condX ?_ ?_ | refine condW_intro ?_ ?_) <;> intro h <;> first | (exfalso; omega) | simp (disch := omega) only [go_sem, ↓reduceIte, Nat.reduceEqDiff, reduceCtorEq, Int.reduceEq, *, g1, Bool.false_and, Bool.true_and, wrap_i64] | skip) | (refine callW_of pd rfl (.inl rfl) ?_) | (refine app_own rfl (by intro h; cases h) (rowsOk_one rfl) (by simp; omega) (by simp; omega) ?_)
       exact ⟨j + 1, [(4, 5)], hlt, by omega, by simp [Wk, wkF, wkM, wkL, look_cons, renV, renA, renC, renB, rn, clV, clA, clAs, clB, notIn, findB, findB_setB, clA.go, e1, e2]⟩
      ·cases ak
       ·repeat' first | simp (disch := omega) only [go_sem, ↓reduceIte, Nat.reduceEqDiff, reduceCtorEq, Int.reduceEq, g1, Bool.false_and, Bool.true_and, wrap_i64] | ((with_reducible first | refine condD ?_ ?_ | refine condX ?_ ?_ | refine condW_intro ?_ ?_) <;> intro h <;> first | (exfalso; omega) | simp (disch := omega) only [go_sem, ↓reduceIte, Nat.reduceEqDiff, reduceCtorEq, Int.reduceEq, *, g1, Bool.false_and, Bool.true_and, wrap_i64] | skip) | (refine callW_of pd rfl (.inl rfl) ?_) | (refine app_own rfl (by intro h; cases h) (rowsOk_one rfl) (by simp; omega) (by simp; omega) ?_)
        exact ⟨j + 1, [(4, 5)], hlt, by omega, by simp [Wk, wkF, wkM, wkL, look_cons, renV, renA, renC, renB, rn, clV, clA, clAs, clB, notIn, findB, findB_setB, clA.go, e1, e2]⟩
       ·repeat' first | simp (disch := omega) only [go_sem, ↓reduceIte, Nat.reduceEqDiff, reduceCtorEq, Int.reduceEq, g1, Bool.false_and, Bool.true_and, wrap_i64] | ((with_reducible first | refine condD ?_ ?_ | refine condX ?_ ?_ | refine condW_intro ?_ ?_) <;> intro h <;> first | (exfalso; omega) | simp (disch := omega) only [go_sem, ↓reduceIte, Nat.reduceEqDiff, reduceCtorEq, Int.reduceEq, *, g1, Bool.false_and, Bool.true_and, wrap_i64] | skip) | (refine callW_of pd rfl (.inl rfl) ?_) | (refine app_own rfl (by intro h; cases h) (rowsOk_one rfl) (by simp; omega) (by simp; omega) ?_)
        exact ⟨j + 1, [(4, 5)], hlt, by omega, by simp [Wk, wkF, wkM, wkL, look_cons, renV, renA, renC, renB, rn, clV, clA, clAs, clB, notIn, findB, findB_setB, clA.go, e1, e2]⟩
     ·obtain rfl : j = L.length := by omega
      rw [List.take_of_length_le (Nat.le_refl _)]
      have h3 := H3.out
      clear H3
      generalize (kok && allR G false L) = fin at *
      cases fin
      ·rw [if_neg (by simp)] at h3
       cases h3
       repeat' first | simp (disch := omega) only [go_sem, ↓reduceIte, Nat.reduceEqDiff, reduceCtorEq, Int.reduceEq] | ((with_reducible first | refine condD ?_ ?_ | refine condX ?_ ?_ | refine condW_intro ?_ ?_) <;> intro h <;> first | (exfalso; omega) | simp (disch := omega) only [go_sem, ↓reduceIte, Nat.reduceEqDiff, reduceCtorEq, Int.reduceEq, *] | skip)
       all_goals rfl
      ·rw [if_pos rfl] at h3
       cases h3
       repeat' first | simp (disch := omega) only [go_sem, ↓reduceIte, Nat.reduceEqDiff, reduceCtorEq, Int.reduceEq] | ((with_reducible first | refine condD ?_ ?_ | refine condX ?_ ?_ | refine condW_intro ?_ ?_) <;> intro h <;> first | (exfalso; omega) | simp (disch := omega) only [go_sem, ↓reduceIte, Nat.reduceEqDiff, reduceCtorEq, Int.reduceEq, *] | skip)
       all_goals rfl
    ·by_cases hm0 : M = 0
     ·subst hm0
      have h3 := HSP.out
      rw [if_neg (by simp)] at h3
      simp only [Bool.true_and] at h3
      obtain ⟨neg, hn⟩ : ∃ neg, neg = decide (x0 < 0) := ⟨_, rfl⟩
      rw [← hn] at h3
      have hn' := hn.symm
      clear hn
      have pd := ref07_divided_abs (x := k) neg hk hg hg2
      unfold tightR at h3
      generalize divR k G neg = KR at *
      obtain ⟨KR, kok⟩ := KR
      simp only at h3
      have H3 := Lib.hid h3
      clear h3 HSP
      repeat' first | simp (disch := omega) only [go_sem, ↓reduceIte, Nat.reduceEqDiff, reduceCtorEq, Int.reduceEq, hn', Int.natCast_zero, Int.toNat_zero, hgi, ne_eq, hmod, gD, wrap_i64] | ((with_reducible first | refine condD ?_ ?_ | refine condX ?_ ?_ | refine condW_intro ?_ ?_) <;> intro h <;> first | (exfalso; omega) | simp (disch := omega) only [go_sem, ↓reduceIte, Nat.reduceEqDiff, reduceCtorEq, Int.reduceEq, *, hn', Int.natCast_zero, Int.toNat_zero, hgi, ne_eq, hmod, gD, wrap_i64] | skip) | (refine callW_of pz rfl (.inl rfl) ?_) | (refine callW_of pd rfl (.inl rfl) ?_)
      refine AW_adoptM 3 1 52 2 [.pure (pI KR), .nils, .pure (pB true)] rfl rfl (by decide) ?_
      refine AW_loop (fun j : Nat => ⟨[(1, .c (.ptr 0 0)), (2, .c (.ptr 1 0)), (5, U G), (7, Go.Abs.B neg), (8, .c (.ptr 3 0)), (10, Go.Abs.B (kok && allR G neg (L.take j))), (11, I j)], [(4, .arr 52 2 ((divRL G neg (L.take j)).map mP)), (3, .var [.pure (pI KR), .ref 4, .pure (pB true)]), (1, .var [.pure (pI 0), .nils, .pure (pB false)]), (0, .var [.pure (pI k), .pure (pMonos L), .pure (pB true)])], 5, 0⟩)
       (fun j => j ≤ L.length) (fun j => L.length - j) ⟨0, [], Nat.zero_le _, by simp [Wk, wkF, wkM, wkL, look_cons, renV, renA, renC, renB, rn, clV, clA, clAs, clB, notIn, findB, findB_setB, clA.go, allR, divRL, setB]⟩ ?_
      clear pz pd gD hmod hgi hn'
      intro j hj
      refine runW_sound ?_
      by_cases hlt : j < L.length
      ·have g1 := map_get (f := mP) hlt
       have e1 := divRL_take (g := G) (s := neg) hlt
       have e2 := allR_take (g := G) (s := neg) hlt
       have hx := h64 _ (List.getElem_mem hlt)
       have hdl : ((divRL G neg (L.take j)).map mP).length ≤ 1000000000 := by simp [divRL]; omega
       generalize (divRL G neg (L.take j)).map mP = D at *
       generalize allR G neg (L.take j) = ak at *
       generalize L[j] = m at *
       obtain ⟨n, x⟩ := m
       simp only [mP] at g1
       simp only at hx
       have pd := ref07_divided_abs (x := x) neg hx hg hg2
       simp only at e1 e2
       generalize divR x G neg = Y at *
       obtain ⟨Y, yok⟩ := Y
       simp only at e1 e2
       cases kok
       ·repeat' first | simp (disch := omega) only [go_sem, ↓reduceIte, Nat.reduceEqDiff, reduceCtorEq, Int.reduceEq, g1, Bool.false_and, Bool.true_and, wrap_i64] | ((with_reducible first | refine condD ?_ ?_ | refine condX ?_ ?_ | refine condW_intro ?_ ?_) <;> intro h <;> first | (exfalso; omega) | simp (disch := omega) only [go_sem, ↓reduceIte, Nat.reduceEqDiff, reduceCtorEq, Int.reduceEq, *, g1, Bool.false_and, Bool.true_and, wrap_i64] | skip) | (refine callW_of pd rfl (.inl rfl) ?_) | (refine app_own rfl (by intro h; cases h) (rowsOk_one rfl) (by simp; omega) (by simp; omega) ?_)
        exact ⟨j + 1, [(4, 5)], hlt, by omega, by simp [Wk, wkF, wkM, wkL, look_cons, renV, renA, renC, renB, rn, clV, clA, clAs, clB, notIn, findB, findB_setB, clA.go, e1, e2]⟩
       ·cases ak
        ·repeat' first | simp (disch := omega) only [go_sem, ↓reduceIte, Nat.reduceEqDiff, reduceCtorEq, Int.reduceEq, g1, Bool.false_and, Bool.true_and, wrap_i64] | ((with_reducible first | refine condD ?_ ?_ | refine condX ?_ ?_ | refine condW_intro ?_ ?_) <;> intro h <;> first | (exfalso; omega) | simp (disch := omega) only [go_sem, ↓reduceIte, Nat.reduceEqDiff, reduceCtorEq, Int.reduceEq, *, g1, Bool.false_and, Bool.true_and, wrap_i64] | skip) | (refine callW_of pd rfl (.inl rfl) ?_) | (refine app_own rfl (by intro h; cases h) (rowsOk_one rfl) (by simp; omega) (by simp; omega) ?_)
         exact ⟨j + 1, [(4, 5)], hlt, by omega, by simp [Wk, wkF, wkM, wkL, look_cons, renV, renA, renC, renB, rn, clV, clA, clAs, clB, notIn, findB, findB_setB, clA.go, e1, e2]⟩
        ·repeat' first | simp (disch := omega) only [go_sem, ↓reduceIte, Nat.reduceEqDiff, reduceCtorEq, Int.reduceEq, g1, Bool.false_and, Bool.true_and, wrap_i64] | ((with_reducible first | refine condD ?_ ?_ | refine condX ?_ ?_ | refine condW_intro ?_ ?_) <;> intro h <;> first | (exfalso; omega) | simp (disch := omega) only [go_sem, ↓reduceIte, Nat.reduceEqDiff, reduceCtorEq, Int.reduceEq, *, g1, Bool.false_and, Bool.true_and, wrap_i64] | skip) | (refine callW_of pd rfl (.inl rfl) ?_) | (refine app_own rfl (by intro h; cases h) (rowsOk_one rfl) (by simp; omega) (by simp; omega) ?_)
         exact ⟨j + 1, [(4, 5)], hlt, by omega, by simp [Wk, wkF, wkM, wkL, look_cons, renV, renA, renC, renB, rn, clV, clA, clAs, clB, notIn, findB, findB_setB, clA.go, e1, e2]⟩
      ·obtain rfl : j = L.length := by omega
       rw [List.take_of_length_le (Nat.le_refl _)]
       have h3 := H3.out
       clear H3
       generalize (kok && allR G neg L) = fin at *
       cases fin
       ·rw [if_neg (by simp)] at h3
        cases h3
        repeat' first | simp (disch := omega) only [go_sem, ↓reduceIte, Nat.reduceEqDiff, reduceCtorEq, Int.reduceEq] | ((with_reducible first | refine condD ?_ ?_ | refine condX ?_ ?_ | refine condW_intro ?_ ?_) <;> intro h <;> first | (exfalso; omega) | simp (disch := omega) only [go_sem, ↓reduceIte, Nat.reduceEqDiff, reduceCtorEq, Int.reduceEq, *] | skip)
        all_goals rfl
       ·rw [if_pos rfl] at h3
        cases h3
        repeat' first | simp (disch := omega) only [go_sem, ↓reduceIte, Nat.reduceEqDiff, reduceCtorEq, Int.reduceEq] | ((with_reducible first | refine condD ?_ ?_ | refine condX ?_ ?_ | refine condW_intro ?_ ?_) <;> intro h <;> first | (exfalso; omega) | simp (disch := omega) only [go_sem, ↓reduceIte, Nat.reduceEqDiff, reduceCtorEq, Int.reduceEq, *] | skip)
        all_goals rfl
     ·have h3 := HSP.out
      rw [if_pos ⟨rfl, hm0⟩] at h3
      cases h3
      have hmi : ¬ (M : Int) = 0 := by omega
      clear HSP
      repeat' first | simp (disch := omega) only [go_sem, ↓reduceIte, Nat.reduceEqDiff, reduceCtorEq, Int.reduceEq, hgi, ne_eq, hmod, hmi, wrap_i64] | ((with_reducible first | refine condD ?_ ?_ | refine condX ?_ ?_ | refine condW_intro ?_ ?_) <;> intro h <;> first | (exfalso; omega) | simp (disch := omega) only [go_sem, ↓reduceIte, Nat.reduceEqDiff, reduceCtorEq, Int.reduceEq, *, hgi, ne_eq, hmod, hmi, wrap_i64] | skip) | (refine callW_of pz rfl (.inl rfl) ?_)
      all_goals rfl
 ·rw [decide_eq_false hok] at pv
  unfold tightS
  simp only
  rw [if_pos hok]
  repeat' first | simp (disch := omega) only [go_sem, ↓reduceIte, Nat.reduceEqDiff, reduceCtorEq, Int.reduceEq] | ((with_reducible first | refine condD ?_ ?_ | refine condX ?_ ?_ | refine condW_intro ?_ ?_) <;> intro h <;> first | (exfalso; omega) | simp (disch := omega) only [go_sem, ↓reduceIte, Nat.reduceEqDiff, reduceCtorEq, Int.reduceEq, *] | skip) | (refine callW_of pv rfl (.inl rfl) ?_)
  all_goals rfl
end Go.Proofs.YtnddmjhpplopbaaGreat
