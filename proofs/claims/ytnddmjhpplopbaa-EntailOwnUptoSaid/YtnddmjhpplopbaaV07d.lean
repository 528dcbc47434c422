/- Walks by the abstract machine: combinations of constraints. -/
import Derived.Test.YtnddmjhpplopbaaV07c
import Derived.Test.YtnddmjhpplopbaaAbs23
set_option linter.unusedVariables false
set_option linter.unusedSimpArgs false
set_option maxRecDepth 20000
namespace Go.Proofs.Ytnddmjhpplopbaa
open Go.Abs Go.RowKit

def cP (c : Con) : List PC := [pI c.1.1, pMonos c.1.2, pB c.2]
abbrev aCon (c : Con) : AV := .agg [.pure (pI c.1.1), .pure (pMonos c.1.2), .pure (pB c.2)]
abbrev aConE (x : Con × Int) : AV := .tup [aCon x.1, I x.2]
abbrev aCons (l : List Con) : AV := aSl cP l
def con64 (c : Con) : Prop := lin64 c.1
/-- The monomials of a list of constraints. -/
def tot : List Con → Nat
 | [] => 0
 | c :: r => c.1.2.length + tot r
theorem bnd_cons {l : List Con} (h : bndV (aCons l)) : l.length ≤ 9223372036854775807 := by simpa [bndV, bndA] using h
theorem constraint_Validate_abs (c : Con) : PCalls Try.prog n_constraint_Validate [aCon c] (I (if linOk c.1.2 then 0 else 1)) := by
 refine PCalls.of is_constraint_Validate (by simp) fun _ => runW_sound ?_
 simp only [c_constraint_Validate]
 repeat' first | simp (disch := omega) only [go_sem, ↓reduceIte, Nat.reduceEqDiff, reduceCtorEq, Int.reduceEq] | ((with_reducible first | refine condD ?_ ?_ | refine condX ?_ ?_ | refine condW_intro ?_ ?_) <;> intro h <;> first | (exfalso; omega) | simp (disch := omega) only [go_sem, ↓reduceIte, Nat.reduceEqDiff, reduceCtorEq, Int.reduceEq, *] | skip) | (refine callW_of (lin_Validate_abs _ _) rfl (.inl rfl) ?_)

/-- Where all is valid. -/
def okC (p : Con × Int) : Prop := linOk p.1.1.2 ∧ ¬ (p.2 < 0 ∧ p.1.2 = false)
theorem okC_not {p : Con × Int} : ¬ badC p ↔ okC p := by
 unfold badC okC
 constructor
 ·intro h; exact ⟨Classical.byContradiction fun h' => h (.inl h'), fun h' => h (.inr h')⟩
 ·rintro ⟨h1, h2⟩ (h | h); exact h h1; exact h2 h
theorem scaleV_len (a : Lin) (b : Int) : (scaleV a b).2.length ≤ a.2.length := by
 rw [scaleV]
 split
 ·simp
 ·simp
theorem addV_len (a b : Lin) : (addV a b).2.length ≤ a.2.length + b.2.length := by
 have h1 := mergeX_len a.2 b.2
 have h2 : (addT (mergeX a.2 b.2)).length ≤ (mergeX a.2 b.2).length := List.length_filterMap_le _ _
 show (addT (mergeX a.2 b.2)).length ≤ _
 omega
theorem scaleV_64 {a : Lin} {b : Int} (h : b = 0 ∨ scaleOk a b) : lin64 (scaleV a b) := by
 rw [scaleV]
 split
 ·exact ⟨in64_zero, fun m hm => by cases hm⟩
 ·rename_i hb
  have h := h.resolve_left hb
  refine ⟨h.1, fun m hm => ?_⟩
  obtain ⟨x, hx, rfl⟩ := List.mem_map.1 hm
  exact h.2 x hx
theorem addV_64 {a b : Lin} (h : addOk a b) : lin64 (addV a b) := by
 refine ⟨h.1, fun m hm => ?_⟩
 obtain ⟨t, ht, e⟩ := List.mem_filterMap.1 hm
 split at e
 ·cases e
 ·cases e
  exact h.2 t ht
theorem zip_get {α β : Type} {l : List α} {b : List β} {k : Nat} (h1 : k < l.length) (h2 : k < b.length) : (l.zip b).drop k = (l[k], b[k]) :: (l.zip b).drop (k + 1) := by
 rw [List.drop_eq_getElem_cons (by simp; omega)]
 simp
theorem tot_drop : ∀ {l : List Con} {k : Nat}, k < l.length → tot (l.drop k) = l[k]!.1.2.length + tot (l.drop (k + 1)) := by
 intro l k h
 rw [List.drop_eq_getElem_cons h, tot]
 simp [h]
set_option maxHeartbeats 4000000 in
theorem constraint_Combine_abs {l : List Con} {b : List Int} (hl : ∀ c ∈ l, con64 c) (hb : ∀ x ∈ b, in64 x) (hs : tot l ≤ 1000000000) : PCalls Try.prog n_constraint_Combine [aCons l, aInts b] (aConE (conCombine l b)) := by
 refine PCalls.of is_constraint_Combine (by simp) fun hbd => runW_sound ?_
 have hlen := bnd_cons hbd.1
 clear hbd
 simp only [c_constraint_Combine]
 by_cases hne : l.length = b.length
 ·have hz : (l.zip b).length = l.length := by simp [hne]
  obtain ⟨N, hN⟩ : ∃ N, N = l.length := ⟨_, rfl⟩
  rw [← hN] at hlen hz
  have e1 : l.length = N := hN.symm
  have e2 : b.length = N := by rw [← hne, e1]
  have HZ := Lib.hid hz
  have HE := Lib.hid hne
  clear hN hne hz
  repeat' first | simp (disch := omega) only [go_sem, ↓reduceIte, Nat.reduceEqDiff, reduceCtorEq, Int.reduceEq, e1, e2] | ((with_reducible first | refine condD ?_ ?_ | refine condX ?_ ?_ | refine condW_intro ?_ ?_) <;> intro h <;> first | (exfalso; omega) | simp (disch := omega) only [go_sem, ↓reduceIte, Nat.reduceEqDiff, reduceCtorEq, Int.reduceEq, *, e1, e2] | skip)
  refine AW_loop (fun k : Nat => ⟨[(0, aCons l), (1, aInts b), (4, .c (.ptr 0 0)), (21, aCons l), (22, I N), (23, I k)], [(0, .var [.pure (pI 0), .nils, .pure (pB false)])], 1, 0⟩) (fun k => k ≤ N ∧ upTo (fun i => ∀ (h1 : i < l.length) (h2 : i < b.length), okC (l[i], b[i])) k) (fun k => N - k) ⟨0, [], ⟨Nat.zero_le _, .zero⟩, by simp [Wk, wkF, wkM, wkL, look_cons, renV, renA, renC, renB, rn, clV, clA, clAs, clB, notIn, findB, findB_setB, clA.go, e1, e2]⟩ ?_
  rintro k ⟨hk, hall⟩
  refine runW_sound ?_
  by_cases hltN : k < N
  ·have hlt : k < l.length := by omega
   have hlt2 : k < b.length := by omega
   have hbad : badC (l[k], b[k]) → conCombine l b = (conZ, 1) := fun h => by
    rw [conCombine, if_neg (not_not_intro HE.out), if_pos]
    refine ⟨(l[k], b[k]), ?_, h⟩
    rw [List.mem_iff_getElem]
    exact ⟨k, by rw [HZ.out]; exact hltN, by simp⟩
   have nxt : okC (l[k], b[k]) → Hid (upTo (fun i => ∀ (h1 : i < l.length) (h2 : i < b.length), okC (l[i], b[i])) (k + 1)) := fun h => Lib.hid (hall.succ fun _ _ => h)
   have g1 := map_get (f := cP) hlt
   have g2 := map_get (f := fun n => [pI n]) hlt2
   generalize l[k] = c at *
   generalize b[k] = x at *
   obtain ⟨⟨ck, cl⟩, q⟩ := c
   simp only [cP] at g1
   have pv := constraint_Validate_abs ((ck, cl), q)
   have BAD := Lib.hid hbad
   have NXT := Lib.hid nxt
   clear hbad nxt hall
   by_cases hv : linOk cl
   ·rw [if_pos hv] at pv
    cases q
    ·by_cases hneg : x < 0
     ·rw [BAD.out (.inr ⟨hneg, rfl⟩)]
      repeat' first | simp (disch := omega) only [go_sem, ↓reduceIte, Nat.reduceEqDiff, reduceCtorEq, Int.reduceEq, g1, g2, wrap_i64] | ((with_reducible first | refine condD ?_ ?_ | refine condX ?_ ?_ | refine condW_intro ?_ ?_) <;> intro h <;> first | (exfalso; omega) | simp (disch := omega) only [go_sem, ↓reduceIte, Nat.reduceEqDiff, reduceCtorEq, Int.reduceEq, *, g1, g2, wrap_i64] | skip) | (refine callW_of pv rfl (.inl rfl) ?_)
      rfl
     ·have NX := NXT.out ⟨hv, fun h => hneg h.1⟩
      repeat' first | simp (disch := omega) only [go_sem, ↓reduceIte, Nat.reduceEqDiff, reduceCtorEq, Int.reduceEq, g1, g2, wrap_i64] | ((with_reducible first | refine condD ?_ ?_ | refine condX ?_ ?_ | refine condW_intro ?_ ?_) <;> intro h <;> first | (exfalso; omega) | simp (disch := omega) only [go_sem, ↓reduceIte, Nat.reduceEqDiff, reduceCtorEq, Int.reduceEq, *, g1, g2, wrap_i64] | skip) | (refine callW_of pv rfl (.inl rfl) ?_)
      exact ⟨k + 1, [], ⟨hltN, by have := NX.out; simp only [e1, e2] at this; exact this⟩, by omega, by simp [Wk, wkF, wkM, wkL, look_cons, renV, renA, renC, renB, rn, clV, clA, clAs, clB, notIn, findB, findB_setB, clA.go]⟩
    ·have NX := NXT.out ⟨hv, fun h => by cases h.2⟩
     by_cases hneg : x < 0
     ·repeat' first | simp (disch := omega) only [go_sem, ↓reduceIte, Nat.reduceEqDiff, reduceCtorEq, Int.reduceEq, g1, g2, wrap_i64] | ((with_reducible first | refine condD ?_ ?_ | refine condX ?_ ?_ | refine condW_intro ?_ ?_) <;> intro h <;> first | (exfalso; omega) | simp (disch := omega) only [go_sem, ↓reduceIte, Nat.reduceEqDiff, reduceCtorEq, Int.reduceEq, *, g1, g2, wrap_i64] | skip) | (refine callW_of pv rfl (.inl rfl) ?_)
      exact ⟨k + 1, [], ⟨hltN, by have := NX.out; simp only [e1, e2] at this; exact this⟩, by omega, by simp [Wk, wkF, wkM, wkL, look_cons, renV, renA, renC, renB, rn, clV, clA, clAs, clB, notIn, findB, findB_setB, clA.go]⟩
     ·repeat' first | simp (disch := omega) only [go_sem, ↓reduceIte, Nat.reduceEqDiff, reduceCtorEq, Int.reduceEq, g1, g2, wrap_i64] | ((with_reducible first | refine condD ?_ ?_ | refine condX ?_ ?_ | refine condW_intro ?_ ?_) <;> intro h <;> first | (exfalso; omega) | simp (disch := omega) only [go_sem, ↓reduceIte, Nat.reduceEqDiff, reduceCtorEq, Int.reduceEq, *, g1, g2, wrap_i64] | skip) | (refine callW_of pv rfl (.inl rfl) ?_)
      exact ⟨k + 1, [], ⟨hltN, by have := NX.out; simp only [e1, e2] at this; exact this⟩, by omega, by simp [Wk, wkF, wkM, wkL, look_cons, renV, renA, renC, renB, rn, clV, clA, clAs, clB, notIn, findB, findB_setB, clA.go]⟩
   ·rw [if_neg hv] at pv
    rw [BAD.out (.inl hv)]
    repeat' first | simp (disch := omega) only [go_sem, ↓reduceIte, Nat.reduceEqDiff, reduceCtorEq, Int.reduceEq, g1, g2, wrap_i64] | ((with_reducible first | refine condD ?_ ?_ | refine condX ?_ ?_ | refine condW_intro ?_ ?_) <;> intro h <;> first | (exfalso; omega) | simp (disch := omega) only [go_sem, ↓reduceIte, Nat.reduceEqDiff, reduceCtorEq, Int.reduceEq, *, g1, g2, wrap_i64] | skip) | (refine callW_of pv rfl (.inl rfl) ?_)
    rfl
  ·obtain rfl : k = N := by omega
   have hno : ¬ ∃ p ∈ l.zip b, badC p := by
    rintro ⟨p, hp, hbp⟩
    obtain ⟨i, hi, rfl⟩ := List.mem_iff_getElem.1 hp
    rw [HZ.out] at hi
    have h2 := hall i hi (by omega) (by omega)
    rw [List.getElem_zip] at hbp
    exact okC_not.2 h2 hbp
   have hcomb : conCombine l b = combS (0, []) true ((l.zip b).drop 0) := by rw [conCombine, if_neg (not_not_intro HE.out), if_neg hno]; rfl
   rw [hcomb]
   obtain ⟨R, hR⟩ : ∃ R, R = combS (0, []) true ((l.zip b).drop 0) := ⟨_, rfl⟩
   rw [← hR]
   have HR := Lib.hid hR
   have HA := Lib.hid hall
   clear hR hcomb hno hall
   repeat' first | simp (disch := omega) only [go_sem, ↓reduceIte, Nat.reduceEqDiff, reduceCtorEq, Int.reduceEq, e1, e2] | ((with_reducible first | refine condD ?_ ?_ | refine condX ?_ ?_ | refine condW_intro ?_ ?_) <;> intro h <;> first | (exfalso; omega) | simp (disch := omega) only [go_sem, ↓reduceIte, Nat.reduceEqDiff, reduceCtorEq, Int.reduceEq, *, e1, e2] | skip)
   refine AW_nilM 1 1 _ rfl rfl ?_
   refine AW_loop (fun s : Nat × Lin × Bool => ⟨[(1, aInts b), (4, .c (.ptr 0 0)), (9, .c (.ptr 1 0)), (47, aCons l), (48, I k), (49, I s.1)], [(0, .var [.pure (pI 0), .nils, .pure (pB false)]), (1, .var [.pure (pI s.2.1.1), .pure (pMonos s.2.1.2), .pure (pB s.2.2)])], 2, 0⟩)
    (fun s => s.1 ≤ k ∧ linOk s.2.1.2 ∧ lin64 s.2.1 ∧ s.2.1.2.length + tot (l.drop s.1) ≤ 1000000000 ∧ Hid (R = combS s.2.1 s.2.2 ((l.zip b).drop s.1))) (fun s => k - s.1)
    ⟨(0, ((0, []), true)), [], ⟨Nat.zero_le _, fun i hi => by simp at hi, ⟨in64_zero, fun m hm => by cases hm⟩, by simpa using hs, HR⟩, by simp [Wk, wkF, wkM, wkL, look_cons, renV, renA, renC, renB, rn, clV, clA, clAs, clB, notIn, findB, findB_setB, clA.go, e1, e2]⟩ ?_
   clear HR hs
   rintro ⟨j, out, eq⟩ ⟨hj, hok, h64, hs, HR⟩
   refine runW_sound ?_
   simp only at hj hok h64 hs HR
   by_cases hltk : j < k
   ·have hlt : j < l.length := by omega
    have hlt2 : j < b.length := by omega
    have hc := HA.out j hltk hlt hlt2
    have hc64 : lin64 l[j].1 := hl _ (List.getElem_mem hlt)
    have hb64 := hb _ (List.getElem_mem hlt2)
    have htd : tot (l.drop j) = l[j].1.2.length + tot (l.drop (j + 1)) := by rw [List.drop_eq_getElem_cons hlt, tot]
    have h2 := HR.out
    rw [zip_get hlt hlt2, combS] at h2
    simp only at h2
    have g1 := map_get (f := cP) hlt
    have g2 := map_get (f := fun n => [pI n]) hlt2
    clear HR
    generalize l[j] = c at *
    generalize b[j] = x at *
    obtain ⟨⟨ck, cl⟩, q⟩ := c
    simp only [cP] at g1
    simp only at h2 htd hc64
    have hsl := scaleV_len (ck, cl) x
    have hal := addV_len out (scaleV (ck, cl) x)
    simp only at hsl
    have hclin : linOk cl := hc.1
    have ps := lin_Scale_abs (a := (ck, cl)) (b := x) hc64 hb64 (by unfold short; simp only; omega)
    rw [scaleE, if_neg (not_not_intro hclin), scaleS] at ps
    by_cases hsc : x = 0 ∨ scaleOk (ck, cl) x
    ·have hv64 := scaleV_64 hsc
     have hvok := scaleV_ok (a := (ck, cl)) (b := x) hclin
     rw [if_pos hsc] at ps
     have pa := lin_Add_abs h64 hv64 (by unfold short; omega) (by unfold short; omega)
     rw [addE, if_neg (by simp [hok, hvok]), addS] at pa
     by_cases had : addOk out (scaleV (ck, cl) x)
     ·have ha64 := addV_64 had
      have haok := addV_ok hok hvok
      rw [if_pos had] at pa
      rw [if_neg (by rintro (h | h); exact h hsc; exact h had)] at h2
      have hs' : (addV out (scaleV (ck, cl) x)).2.length + tot (l.drop (j + 1)) ≤ 1000000000 := by omega
      clear hsc had hvok hv64 hok h64 hc hc64 hb64 hsl hal htd hs hclin
      generalize scaleV (ck, cl) x = SV at *
      generalize addV out SV = AV' at *
      have HR := Lib.hid h2
      clear h2
      by_cases hz : x = 0
      ·subst hz
       have HR : Hid (R = combS AV' eq ((l.zip b).drop (j + 1))) := Lib.hid (by
        have := HR.out
        simpa using this)
       cases eq <;> cases q
       all_goals
        repeat' first | simp (disch := omega) only [go_sem, ↓reduceIte, Nat.reduceEqDiff, reduceCtorEq, Int.reduceEq, g1, g2, wrap_i64] | ((with_reducible first | refine condD ?_ ?_ | refine condX ?_ ?_ | refine condW_intro ?_ ?_) <;> intro h <;> first | (exfalso; omega) | simp (disch := omega) only [go_sem, ↓reduceIte, Nat.reduceEqDiff, reduceCtorEq, Int.reduceEq, *, g1, g2, wrap_i64] | skip) | (refine callW_of ps rfl (.inl rfl) ?_) | (refine callW_of ps rfl (.inr rfl) ?_) | (refine callW_of pa rfl (.inr rfl) ?_)
        exact ⟨(j + 1, AV', _), [], ⟨hltk, haok, ha64, hs', HR⟩, by show _ - _ < _ - _; omega, by simp [Wk, wkF, wkM, wkL, look_cons, renV, renA, renC, renB, rn, clV, clA, clAs, clB, notIn, findB, findB_setB, clA.go]⟩
      ·have HR : Hid (R = combS AV' (eq && q) ((l.zip b).drop (j + 1))) := Lib.hid (by
        have := HR.out
        simpa [hz] using this)
       cases eq <;> cases q
       all_goals
        repeat' first | simp (disch := omega) only [go_sem, ↓reduceIte, Nat.reduceEqDiff, reduceCtorEq, Int.reduceEq, g1, g2, wrap_i64, hz] | ((with_reducible first | refine condD ?_ ?_ | refine condX ?_ ?_ | refine condW_intro ?_ ?_) <;> intro h <;> first | (exfalso; omega) | simp (disch := omega) only [go_sem, ↓reduceIte, Nat.reduceEqDiff, reduceCtorEq, Int.reduceEq, *, g1, g2, wrap_i64, hz] | skip) | (refine callW_of ps rfl (.inl rfl) ?_) | (refine callW_of ps rfl (.inr rfl) ?_) | (refine callW_of pa rfl (.inr rfl) ?_)
        exact ⟨(j + 1, AV', _), [], ⟨hltk, haok, ha64, hs', HR⟩, by show _ - _ < _ - _; omega, by simp [Wk, wkF, wkM, wkL, look_cons, renV, renA, renC, renB, rn, clV, clA, clAs, clB, notIn, findB, findB_setB, clA.go]⟩
     ·rw [if_neg had] at pa
      rw [if_pos (.inr had)] at h2
      subst h2
      clear hsc had hvok hv64
      generalize scaleV (ck, cl) x = SV at *
      repeat' first | simp (disch := omega) only [go_sem, ↓reduceIte, Nat.reduceEqDiff, reduceCtorEq, Int.reduceEq, g1, g2, wrap_i64] | ((with_reducible first | refine condD ?_ ?_ | refine condX ?_ ?_ | refine condW_intro ?_ ?_) <;> intro h <;> first | (exfalso; omega) | simp (disch := omega) only [go_sem, ↓reduceIte, Nat.reduceEqDiff, reduceCtorEq, Int.reduceEq, *, g1, g2, wrap_i64] | skip) | (refine callW_of ps rfl (.inl rfl) ?_) | (refine callW_of ps rfl (.inr rfl) ?_) | (refine callW_of pa rfl (.inr rfl) ?_)
      rfl
    ·rw [if_neg hsc] at ps
     rw [if_pos (.inl hsc)] at h2
     subst h2
     clear hsc
     repeat' first | simp (disch := omega) only [go_sem, ↓reduceIte, Nat.reduceEqDiff, reduceCtorEq, Int.reduceEq, g1, g2, wrap_i64] | ((with_reducible first | refine condD ?_ ?_ | refine condX ?_ ?_ | refine condW_intro ?_ ?_) <;> intro h <;> first | (exfalso; omega) | simp (disch := omega) only [go_sem, ↓reduceIte, Nat.reduceEqDiff, reduceCtorEq, Int.reduceEq, *, g1, g2, wrap_i64] | skip) | (refine callW_of ps rfl (.inl rfl) ?_) | (refine callW_of ps rfl (.inr rfl) ?_)
     rfl
   ·have h2 := HR.out
    rw [List.drop_eq_nil_of_le (by rw [HZ.out]; omega), combS] at h2
    subst h2
    repeat' first | simp (disch := omega) only [go_sem, ↓reduceIte, Nat.reduceEqDiff, reduceCtorEq, Int.reduceEq] | ((with_reducible first | refine condD ?_ ?_ | refine condX ?_ ?_ | refine condW_intro ?_ ?_) <;> intro h <;> first | (exfalso; omega) | simp (disch := omega) only [go_sem, ↓reduceIte, Nat.reduceEqDiff, reduceCtorEq, Int.reduceEq, *] | skip)
 ·rw [conCombine, if_pos hne]
  repeat' first | simp (disch := omega) only [go_sem, ↓reduceIte, Nat.reduceEqDiff, reduceCtorEq, Int.reduceEq] | ((with_reducible first | refine condD ?_ ?_ | refine condX ?_ ?_ | refine condW_intro ?_ ?_) <;> intro h <;> first | (exfalso; omega) | simp (disch := omega) only [go_sem, ↓reduceIte, Nat.reduceEqDiff, reduceCtorEq, Int.reduceEq, *] | skip)
  rfl
end Go.Proofs.Ytnddmjhpplopbaa
