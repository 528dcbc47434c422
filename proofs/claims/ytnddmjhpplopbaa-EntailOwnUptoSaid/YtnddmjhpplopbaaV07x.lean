/- Walks by the abstract machine: certificates are checked, the search. -/
import Derived.Test.YtnddmjhpplopbaaV07w
import Derived.Test.YtnddmjhpplopbaaPlain07g
set_option linter.unusedVariables false
set_option linter.unusedSimpArgs false
set_option maxRecDepth 20000
namespace Go.Proofs.Ytnddmjhpplopbaa
open Go.Abs Go.RowKit

theorem tot_append : ∀ {l m : List Con}, tot (l ++ m) = tot l + tot m
 | [], m => by simp [tot]
 |c :: l, m => by
  rw [List.cons_append, tot, tot, tot_append]
  omega
theorem tightG_tot : ∀ {l acc t : List Con}, tightG acc l = (t, 0) → tot t ≤ tot acc + tot l
 |[], acc, t, h => by
  rw [tightG] at h
  cases h
  exact Nat.le_add_right _ _
 |c :: l, acc, t, h => by
  rw [tightG] at h
  split at h
  ·rename_i h0
   exact absurd (congrArg Prod.snd h) h0
  ·have h1 := tightG_tot h
   have h2 := tightS_len c
   rw [tot_append] at h1
   simp only [tot] at h1 ⊢
   omega
theorem tightL_tot {l t : List Con} (h : tightL l = (t, 0)) : tot t ≤ tot l := by
 rw [tightL] at h
 split at h
 ·cases h
 ·have := tightG_tot h
  simpa [tot] using this
theorem tot_mem {l : List Con} {c : Con} (h : c ∈ l) : c.1.2.length ≤ tot l := by
 induction l with
 | nil => cases h
 | cons d l ih =>
  rw [tot]
  rcases List.mem_cons.1 h with rfl | h
  ·omega
  ·have := ih h
   omega
theorem tightL_256 {l t : List Con} (h : tightL l = (t, 0)) : l.length ≤ 256 := by
 rw [tightL] at h
 split at h
 ·cases h
 ·omega
theorem elim_CheckCertificate_abs {l : List Con} {b : List Int} (h64 : ∀ c ∈ l, con64 c) (hs : tot l ≤ 400000000) (hb : ∀ x ∈ b, in64 x) : PCalls Try.prog n_elim_CheckCertificate [aCons l, aInts b] (I (checkS l b)) := by
 refine PCalls.of is_elim_CheckCertificate (by simp) fun _ => runW_sound ?_
 simp only [c_elim_CheckCertificate]
 have pt := elim_tighten_abs h64 (fun c hc => by have := tot_mem hc; omega)
 unfold checkS
 by_cases h0 : (tightL l).2 = 0
 ·have ht : tightL l = ((tightL l).1, 0) := Prod.ext rfl h0
  have pc := constraint_Combine_abs (l := (tightL l).1) (b := b) (fun c hc => (tightL_ok ht h64 c hc).2) hb (by have := tightL_tot ht; omega)
  rw [if_neg (not_not_intro h0)]
  clear ht h64 hs
  generalize tightL l = X at *
  obtain ⟨t, e⟩ := X
  simp only at h0 pc ⊢
  subst h0
  have pb := elim_contradictory_abs (conCombine t b).1
  generalize conCombine t b = C at *
  obtain ⟨⟨⟨K, m⟩, q⟩, ce⟩ := C
  simp only at pb ⊢
  by_cases hce : ce = 0
  ·subst hce
   rw [if_neg (by simp)]
   by_cases hbad : conBad ((K, m), q)
   ·rw [if_pos hbad]
    rw [decide_eq_true hbad] at pb
    clear hbad
    repeat' first | simp (disch := omega) only [go_sem, ↓reduceIte, Nat.reduceEqDiff, reduceCtorEq, Int.reduceEq] | ((with_reducible first | refine condD ?_ ?_ | refine condX ?_ ?_ | refine condW_intro ?_ ?_) <;> intro h <;> first | (exfalso; omega) | simp (disch := omega) only [go_sem, ↓reduceIte, Nat.reduceEqDiff, reduceCtorEq, Int.reduceEq, *] | skip) | (refine callW_of pt rfl (.inr rfl) ?_) | (refine callW_of pc rfl (.inr rfl) ?_) | (refine callW_of pb rfl (.inl rfl) ?_)
    all_goals rfl
   ·rw [if_neg hbad]
    rw [decide_eq_false hbad] at pb
    clear hbad
    repeat' first | simp (disch := omega) only [go_sem, ↓reduceIte, Nat.reduceEqDiff, reduceCtorEq, Int.reduceEq] | ((with_reducible first | refine condD ?_ ?_ | refine condX ?_ ?_ | refine condW_intro ?_ ?_) <;> intro h <;> first | (exfalso; omega) | simp (disch := omega) only [go_sem, ↓reduceIte, Nat.reduceEqDiff, reduceCtorEq, Int.reduceEq, *] | skip) | (refine callW_of pt rfl (.inr rfl) ?_) | (refine callW_of pc rfl (.inr rfl) ?_) | (refine callW_of pb rfl (.inl rfl) ?_)
    all_goals rfl
  ·rw [if_pos hce]
   clear pb
   repeat' first | simp (disch := omega) only [go_sem, ↓reduceIte, Nat.reduceEqDiff, reduceCtorEq, Int.reduceEq, hce] | ((with_reducible first | refine condD ?_ ?_ | refine condX ?_ ?_ | refine condW_intro ?_ ?_) <;> intro h <;> first | (exfalso; omega) | simp (disch := omega) only [go_sem, ↓reduceIte, Nat.reduceEqDiff, reduceCtorEq, Int.reduceEq, *, hce] | skip) | (refine callW_of pt rfl (.inr rfl) ?_) | (refine callW_of pc rfl (.inr rfl) ?_)
   all_goals rfl
 ·rw [if_pos h0]
  clear h64 hs
  generalize tightL l = X at *
  obtain ⟨t, e⟩ := X
  simp only at h0 ⊢
  repeat' first | simp (disch := omega) only [go_sem, ↓reduceIte, Nat.reduceEqDiff, reduceCtorEq, Int.reduceEq, h0] | ((with_reducible first | refine condD ?_ ?_ | refine condX ?_ ?_ | refine condW_intro ?_ ?_) <;> intro h <;> first | (exfalso; omega) | simp (disch := omega) only [go_sem, ↓reduceIte, Nat.reduceEqDiff, reduceCtorEq, Int.reduceEq, *, h0] | skip) | (refine callW_of pt rfl (.inr rfl) ?_)
  all_goals rfl
theorem initS_drop {n k : Nat} {t : List Con} {rows : List Row} (h : k < t.length) : initS n k (t.drop k) rows = if (addS2 rows (t[k], unitB n k)).2 ≠ 0 then ([], (addS2 rows (t[k], unitB n k)).2) else initS n (k + 1) (t.drop (k + 1)) (addS2 rows (t[k], unitB n k)).1 := by
 rw [List.drop_eq_getElem_cons h, initS]
theorem unit_rows {n k : Nat} : ((List.replicate n [pI 0]).set k [pI 1]) = (unitB n k).map fun x => [pI x] := by
 rw [unitB, List.map_set, List.map_replicate]
abbrev aInf (x : List Int × Bool × Int) : AV := .tup [aInts x.1, Go.Abs.B x.2.1, I x.2.2]
theorem names_short {T : List Con} {rows : List Row} (h : ∀ z ∈ rows, RowT T z) : (namesAll rows).length ≤ rows.length * tot T := by
 induction rows with
 | nil => simp [namesAll]
 | cons z rows ih =>
  have h1 := (h z List.mem_cons_self).short
  have h2 := ih fun y hy => h y (List.mem_cons_of_mem _ hy)
  simp only [namesAll, List.flatMap_cons, List.length_append, List.length_map, List.length_cons] at h2 ⊢
  rw [Nat.add_mul]
  omega
set_option maxHeartbeats 4000000 in
theorem elim_Infeasible_abs {l : List Con} {fuel : Int} (h64 : ∀ c ∈ l, con64 c) (hs : tot l ≤ 1000000) (hf : in64 fuel) : PCalls Try.prog n_elim_Infeasible [aCons l, I fuel] (aInf (infS l fuel)) := by
 refine PCalls.of is_elim_Infeasible (by simp) fun _ => runW_sound ?_
 simp only [c_elim_Infeasible]
 have pt := elim_tighten_abs h64 (fun c hc => by have := tot_mem hc; omega)
 unfold infS
 by_cases h0 : (tightL l).2 = 0
 ·rw [if_neg (not_not_intro h0)]
  by_cases hfu : fuel < 0 ∨ 1048576 < fuel
  ·rw [if_pos hfu]
   clear h64 hs
   generalize tightL l = X at *
   obtain ⟨t, e⟩ := X
   simp only at h0
   subst h0
   rcases hfu with hfu | hfu
   ·repeat' first | simp (disch := omega) only [go_sem, ↓reduceIte, Nat.reduceEqDiff, reduceCtorEq, Int.reduceEq, hfu] | ((with_reducible first | refine condD ?_ ?_ | refine condX ?_ ?_ | refine condW_intro ?_ ?_) <;> intro h <;> first | (exfalso; omega) | simp (disch := omega) only [go_sem, ↓reduceIte, Nat.reduceEqDiff, reduceCtorEq, Int.reduceEq, *, hfu] | skip) | (refine callW_of pt rfl (.inr rfl) ?_)
    all_goals rfl
   ·repeat' first | simp (disch := omega) only [go_sem, ↓reduceIte, Nat.reduceEqDiff, reduceCtorEq, Int.reduceEq, hfu] | ((with_reducible first | refine condD ?_ ?_ | refine condX ?_ ?_ | refine condW_intro ?_ ?_) <;> intro h <;> first | (exfalso; omega) | simp (disch := omega) only [go_sem, ↓reduceIte, Nat.reduceEqDiff, reduceCtorEq, Int.reduceEq, *, hfu] | skip) | (refine callW_of pt rfl (.inr rfl) ?_)
    all_goals rfl
  ·rw [if_neg hfu]
   have f1 : ¬ fuel < 0 := fun h => hfu (.inl h)
   have f2 : ¬ fuel > 1048576 := fun h => hfu (.inr h)
   clear hfu hf
   have ht : tightL l = ((tightL l).1, 0) := Prod.ext rfl h0
   have hT := tightL_ok ht h64
   have htot := tightL_tot ht
   have h256 := tightL_256 ht
   have htl := (tightL_spec ht).1
   have pk := fun (b : List Int) (hb : ∀ x ∈ b, in64 x) => elim_CheckCertificate_abs (b := b) h64 (by omega) hb
   generalize (tightL l).1 = t at *
   rw [ht] at pt
   clear ht h0 h64
   rw [← htl] at h256 ⊢
   have hll : (l.length : Int) = (t.length : Int) := by omega
   obtain ⟨R, hR⟩ : ∃ R, R = initS t.length 0 (t.drop 0) [] := ⟨_, rfl⟩
   have hR0 : initS t.length 0 t [] = R := hR.symm
   rw [hR0]
   have HR := Lib.hid hR
   clear hR hR0 htl
   repeat' first | simp (disch := omega) only [go_sem, ↓reduceIte, Nat.reduceEqDiff, reduceCtorEq, Int.reduceEq, f1, f2, hll] | ((with_reducible first | refine condD ?_ ?_ | refine condX ?_ ?_ | refine condW_intro ?_ ?_) <;> intro h <;> first | (exfalso; omega) | simp (disch := omega) only [go_sem, ↓reduceIte, Nat.reduceEqDiff, reduceCtorEq, Int.reduceEq, *, f1, f2, hll] | skip) | (refine callW_of pt rfl (.inr rfl) ?_)
   clear pt
   refine AW_adoptM 0 0 64 4 [.nils, .pure (pI fuel)] rfl rfl (by decide) ?_
   refine AW_loop (fun s : Nat × List Row => ⟨[(0, aCons l), (9, .c (.ptr 0 0)), (37, aCons t), (38, I t.length), (39, I s.1)], sysM 1 s.2 fuel [], 2, 0⟩)
    (fun s => s.1 ≤ t.length ∧ (∀ z ∈ s.2, RowT t z) ∧ s.2.length ≤ 256 ∧ Hid (R = initS t.length s.1 (t.drop s.1) s.2)) (fun s => t.length - s.1) ⟨(0, []), [], ⟨Nat.zero_le _, by simp, by simp, HR⟩, by simp [Wk, wkF, wkM, wkL, look_cons, renV, renA, renC, renB, rn, clV, clA, clAs, clB, notIn, findB, findB_setB, clA.go]⟩ ?_
   clear HR
   rintro ⟨k, acc⟩ ⟨hk, hacc, hal, HR⟩
   simp only at hk hacc hal HR
   refine runW_sound ?_
   by_cases hlt : k < t.length
   ·have g1 := map_get (f := cP) hlt
    have h2 := HR.out
    rw [initS_drop hlt] at h2
    have hTk := RowT.unit hlt hT
    clear HR
    generalize t[k] = c at *
    obtain ⟨⟨K, m⟩, q⟩ := c
    simp only [cP] at g1
    have hrep : (List.replicate t.length [pI 0])[k]? = some [pI 0] := by rw [List.getElem?_replicate, if_pos hlt]
    have pa := elim_add_abs (d := (((K, m), q), unitB t.length k)) (fuel := fuel) (r := 1) (nx := 4) (rows := acc) (F := [(2, .var [.pure (pI K), .pure (pMonos m), .pure (pB q)])]) hal (by omega) (by omega) (by simp [frOk, flatX, flatC, notIn])
    have pa' : ICalls Try.prog n_elim_system_add [.c (.ptr 0 0), .agg [.pure (pI K), .pure (pMonos m), .pure (pB q), .pure (.slice ((List.replicate t.length [pI 0]).set k [pI 1]))]] (sysM 1 acc fuel [(2, .var [.pure (pI K), .pure (pMonos m), .pure (pB q)])]) 4
     (packV [I (addS2 acc (((K, m), q), unitB t.length k)).2]) (sysM 4 (addS2 acc (((K, m), q), unitB t.length k)).1 fuel [(2, .var [.pure (pI K), .pure (pMonos m), .pure (pB q)])]) 5 := by rw [unit_rows]; exact pa
    clear pa
    obtain ⟨a1, a2, a3, a4⟩ := addS2_spec (d := (((K, m), q), unitB t.length k)) hal
    generalize addS2 acc (((K, m), q), unitB t.length k) = A at *
    obtain ⟨A, ae⟩ := A
    simp only at pa' h2 a1 a2 a3 a4
    by_cases hae : ae = 0
    ·subst hae
     rw [if_neg (by simp)] at h2
     have HR := Lib.hid h2
     have hA : ∀ z ∈ A, RowT t z := fun z hz => (a3 z hz).elim (fun e => e ▸ hTk) (hacc z)
     clear h2 hacc a3 a4
     repeat' first | simp (disch := omega) only [go_sem, ↓reduceIte, Nat.reduceEqDiff, reduceCtorEq, Int.reduceEq, g1, hll, hrep, wrap_i64, List.length_replicate] | ((with_reducible first | refine condD ?_ ?_ | refine condX ?_ ?_ | refine condW_intro ?_ ?_) <;> intro h <;> first | (exfalso; omega) | simp (disch := omega) only [go_sem, ↓reduceIte, Nat.reduceEqDiff, reduceCtorEq, Int.reduceEq, *, g1, hll, hrep, wrap_i64, List.length_replicate] | skip) | (refine callW_zi1 3 2 1 ((List.replicate t.length [pI 0]).set k [pI 1]) (by simp (disch := omega) only [findB, findB_setB, ifN, eq_self, ↓reduceIte, Option.map_some] <;> rfl) (pa'.perm (by intro nm; first | (simp [St.frz, frzM, frzB, frz1, findB, findB_setB]; done) | (simp only [St.frz, frzM, frzB, frz1, findB, findB_setB, List.map_cons, List.map_nil, ↓reduceIte, Nat.reduceAdd, Nat.reduceEqDiff, reduceCtorEq]; (repeat' split) <;> first | rfl | omega | simp_all))) ?_)
     refine ⟨(k + 1, A), [(1, 4)], ⟨hlt, hA, a1, HR⟩, by show _ - _ < _ - _; omega, by simp [Wk, wkF, wkM, wkL, look_cons, renV, renA, renC, renB, rn, clV, clA, clAs, clB, notIn, findB, findB_setB, clA.go]⟩
    ·rw [if_pos hae] at h2
     subst h2
     rw [if_pos hae]
     clear hacc a3 a4
     repeat' first | simp (disch := omega) only [go_sem, ↓reduceIte, Nat.reduceEqDiff, reduceCtorEq, Int.reduceEq, g1, hll, hrep, wrap_i64, List.length_replicate, hae] | ((with_reducible first | refine condD ?_ ?_ | refine condX ?_ ?_ | refine condW_intro ?_ ?_) <;> intro h <;> first | (exfalso; omega) | simp (disch := omega) only [go_sem, ↓reduceIte, Nat.reduceEqDiff, reduceCtorEq, Int.reduceEq, *, g1, hll, hrep, wrap_i64, List.length_replicate, hae] | skip) | (refine callW_zi1 3 2 1 ((List.replicate t.length [pI 0]).set k [pI 1]) (by simp (disch := omega) only [findB, findB_setB, ifN, eq_self, ↓reduceIte, Option.map_some] <;> rfl) (pa'.perm (by intro nm; first | (simp [St.frz, frzM, frzB, frz1, findB, findB_setB]; done) | (simp only [St.frz, frzM, frzB, frz1, findB, findB_setB, List.map_cons, List.map_nil, ↓reduceIte, Nat.reduceAdd, Nat.reduceEqDiff, reduceCtorEq]; (repeat' split) <;> first | rfl | omega | simp_all))) ?_)
     all_goals rfl
   ·have h2 := HR.out
    rw [List.drop_eq_nil_of_le (by omega), initS] at h2
    subst h2
    rw [if_neg (by simp)]
    clear HR
    obtain ⟨R, hR⟩ : ∃ R, R = searchN l (fuel.toNat * 300 + 300) acc fuel := ⟨_, rfl⟩
    simp only
    rw [← hR]
    have HR := Lib.hid hR
    clear hR
    repeat' first | simp (disch := omega) only [go_sem, ↓reduceIte, Nat.reduceEqDiff, reduceCtorEq, Int.reduceEq, hll] | ((with_reducible first | refine condD ?_ ?_ | refine condX ?_ ?_ | refine condW_intro ?_ ?_) <;> intro h <;> first | (exfalso; omega) | simp (disch := omega) only [go_sem, ↓reduceIte, Nat.reduceEqDiff, reduceCtorEq, Int.reduceEq, *, hll] | skip)
    clear hk hlt
    refine AW_loop (fun s : List Row × Int × Nat => ⟨[(0, aCons l), (9, .c (.ptr 0 0))], sysM 1 s.1 s.2.1 [], 2, 0⟩)
     (fun s => (∀ z ∈ s.1, RowT t z) ∧ s.1.length ≤ 256 ∧ 0 ≤ s.2.1 ∧ s.2.1 ≤ fuel ∧ msr s.1 s.2.1 < s.2.2 ∧ Hid (R = searchN l s.2.2 s.1 s.2.1)) (fun s => msr s.1 s.2.1) ⟨(acc, fuel, fuel.toNat * 300 + 300), [], ⟨hacc, hal, by simp only; omega, by simp, by simp only [msr]; omega, HR⟩, by simp [Wk, wkF, wkM, wkL, look_cons, renV, renA, renC, renB, rn, clV, clA, clAs, clB, notIn, findB, findB_setB, clA.go]⟩ ?_
    clear HR hacc hal
    rintro ⟨rows, fu, N⟩ ⟨hrows, hal, hfu0, hfu1, hN, HR⟩
    simp only at hrows hal hfu0 hfu1 hN HR
    refine runW_sound ?_
    have hF : frOk 2 [0, 1] [] := trivial
    have pcd := elim_contradiction_abs (fuel := fu) (r := 1) (nx := 2) (F := []) hal (fun z hz => by rw [(hrows z hz).len]; omega) (by omega) (by omega) hF
    have pch := elim_choose_abs (fuel := fu) (r := 1) (nx := 2) (F := []) hal (by have := names_short hrows; have : rows.length * tot t ≤ 256 * tot t := Nat.mul_le_mul_right _ hal; omega) (by omega) (by omega) hF
    have h2 := HR.out
    obtain ⟨N, rfl⟩ : ∃ M, N = M + 1 := ⟨N - 1, by omega⟩
    rw [searchN] at h2
    clear HR
    cases hb : badRow rows with
    | some b =>
     rw [hb] at pcd h2
     simp only [badX] at pcd
     simp only at h2
     obtain ⟨z, hz, _, hzb⟩ := badRow_spec hb
     have pk := pk b (by rw [← hzb]; exact (hrows z hz).r64.2)
     clear hb hz hzb
     generalize checkS l b = ck at *
     by_cases hck : ck = 0
     ·subst hck
      rw [if_neg (by simp)] at h2
      subst h2
      repeat' first | simp (disch := omega) only [go_sem, ↓reduceIte, Nat.reduceEqDiff, reduceCtorEq, Int.reduceEq] | ((with_reducible first | refine condD ?_ ?_ | refine condX ?_ ?_ | refine condW_intro ?_ ?_) <;> intro h <;> first | (exfalso; omega) | simp (disch := omega) only [go_sem, ↓reduceIte, Nat.reduceEqDiff, reduceCtorEq, Int.reduceEq, *] | skip) | (refine callW_i pcd ?_) | (refine callW_of pk rfl (.inl rfl) ?_)
      all_goals rfl
     ·rw [if_pos hck] at h2
      subst h2
      repeat' first | simp (disch := omega) only [go_sem, ↓reduceIte, Nat.reduceEqDiff, reduceCtorEq, Int.reduceEq, hck] | ((with_reducible first | refine condD ?_ ?_ | refine condX ?_ ?_ | refine condW_intro ?_ ?_) <;> intro h <;> first | (exfalso; omega) | simp (disch := omega) only [go_sem, ↓reduceIte, Nat.reduceEqDiff, reduceCtorEq, Int.reduceEq, *, hck] | skip) | (refine callW_i pcd ?_) | (refine callW_of pk rfl (.inl rfl) ?_)
      all_goals rfl
    | none =>
     rw [hb] at pcd h2
     simp only [badX] at pcd
     simp only at h2
     clear hb pk
     by_cases hc : (chooseS rows).2.2 = true
     ·rw [if_neg (by simp [hc])] at h2
      obtain ⟨s1, s2⟩ := stepS_ok (fuel := fu) hrows hc
      have s3 := fun he => stepS_msr (fuel := fu) hrows hal hfu0 hc he
      obtain ⟨c1, c2, c3, c4⟩ := chooseF_spec (rows := rows) (N := namesU rows) (vs := namesU rows) (best := -1) (name := .empty) (fun h => (by omega)) (fun v hv => hv)
      have c2 : 0 ≤ (chooseS rows).2.1 → eqAt (chooseS rows).1 0 rows = some (chooseS rows).2.1.toNat := fun h => (c2 h).2.1
      clear c1 c3 c4 s2
      have hdef : stepS rows fu = if 0 ≤ (chooseS rows).2.1 then substS (chooseS rows).1 (chooseS rows).2.1.toNat rows fu else combS2 (chooseS rows).1 rows fu := rfl
      generalize chooseS rows = C at *
      obtain ⟨name, eq, ok⟩ := C
      simp only at hc c2 hdef
      subst hc
      simp only [chR] at pch
      by_cases heq : 0 ≤ eq
      ·rw [if_pos heq] at hdef
       obtain ⟨m1, m2, m3, m4⟩ := eqAt_some (c2 heq)
       simp only [Nat.sub_zero] at m1 m4
       have ps := elim_substitute_abs (n := name) (e := eq.toNat) (fuel := fu) (r := 1) (nx := 2) (F := []) hrows (by omega) (by omega) hal m1 m4 hfu0 (by omega) (by omega) (by omega) hF
       rw [← hdef] at ps
       have he : ((eq.toNat : Nat) : Int) = eq := Int.toNat_of_nonneg heq
       rw [he] at ps
       clear he m1 m2 m3 m4 c2 hdef
       generalize stepS rows fu = Z at *
       obtain ⟨rows', fu', e⟩ := Z
       simp only at ps s3 h2
       by_cases he : e = 0
       ·subst he
        rw [if_neg (by simp)] at h2
        have HR := Lib.hid h2
        have t1 := s1.all
        have t2 := s1.len
        have t3 := s1.le
        have t4 := s1.pos rfl hfu0
        have t5 := s3 rfl
        clear h2 s1 s3
        simp only at t1 t2 t3 t4 t5
        repeat' first | simp (disch := omega) only [go_sem, ↓reduceIte, Nat.reduceEqDiff, reduceCtorEq, Int.reduceEq, heq] | ((with_reducible first | refine condD ?_ ?_ | refine condX ?_ ?_ | refine condW_intro ?_ ?_) <;> intro h <;> first | (exfalso; omega) | simp (disch := omega) only [go_sem, ↓reduceIte, Nat.reduceEqDiff, reduceCtorEq, Int.reduceEq, *, heq] | skip) | (refine callW_i pcd ?_) | (refine callW_i pch ?_) | (refine callW_i ps ?_)
        refine ⟨(rows', fu', N), [(1, 2)], ⟨t1, t2, t4, by simp only; omega, by simp only; omega, HR⟩, t5, by simp [Wk, wkF, wkM, wkL, look_cons, renV, renA, renC, renB, rn, clV, clA, clAs, clB, notIn, findB, findB_setB, clA.go]⟩
       ·rw [if_pos he] at h2
        subst h2
        clear s1 s3
        repeat' first | simp (disch := omega) only [go_sem, ↓reduceIte, Nat.reduceEqDiff, reduceCtorEq, Int.reduceEq, heq, he] | ((with_reducible first | refine condD ?_ ?_ | refine condX ?_ ?_ | refine condW_intro ?_ ?_) <;> intro h <;> first | (exfalso; omega) | simp (disch := omega) only [go_sem, ↓reduceIte, Nat.reduceEqDiff, reduceCtorEq, Int.reduceEq, *, heq, he] | skip) | (refine callW_i pcd ?_) | (refine callW_i pch ?_) | (refine callW_i ps ?_)
        all_goals rfl
      ·rw [if_neg heq] at hdef
       have ps := elim_combine_abs (n := name) (fuel := fu) (r := 1) (nx := 2) (F := []) hrows (by omega) (by omega) hal hfu0 (by omega) (by omega) (by omega) hF
       rw [← hdef] at ps
       clear c2 hdef
       generalize stepS rows fu = Z at *
       obtain ⟨rows', fu', e⟩ := Z
       simp only at ps s3 h2
       by_cases he : e = 0
       ·subst he
        rw [if_neg (by simp)] at h2
        have HR := Lib.hid h2
        have t1 := s1.all
        have t2 := s1.len
        have t3 := s1.le
        have t4 := s1.pos rfl hfu0
        have t5 := s3 rfl
        clear h2 s1 s3
        simp only at t1 t2 t3 t4 t5
        repeat' first | simp (disch := omega) only [go_sem, ↓reduceIte, Nat.reduceEqDiff, reduceCtorEq, Int.reduceEq, heq] | ((with_reducible first | refine condD ?_ ?_ | refine condX ?_ ?_ | refine condW_intro ?_ ?_) <;> intro h <;> first | (exfalso; omega) | simp (disch := omega) only [go_sem, ↓reduceIte, Nat.reduceEqDiff, reduceCtorEq, Int.reduceEq, *, heq] | skip) | (refine callW_i pcd ?_) | (refine callW_i pch ?_) | (refine callW_i ps ?_)
        refine ⟨(rows', fu', N), [(1, 2)], ⟨t1, t2, t4, by simp only; omega, by simp only; omega, HR⟩, t5, by simp [Wk, wkF, wkM, wkL, look_cons, renV, renA, renC, renB, rn, clV, clA, clAs, clB, notIn, findB, findB_setB, clA.go]⟩
       ·rw [if_pos he] at h2
        subst h2
        clear s1 s3
        repeat' first | simp (disch := omega) only [go_sem, ↓reduceIte, Nat.reduceEqDiff, reduceCtorEq, Int.reduceEq, heq, he] | ((with_reducible first | refine condD ?_ ?_ | refine condX ?_ ?_ | refine condW_intro ?_ ?_) <;> intro h <;> first | (exfalso; omega) | simp (disch := omega) only [go_sem, ↓reduceIte, Nat.reduceEqDiff, reduceCtorEq, Int.reduceEq, *, heq, he] | skip) | (refine callW_i pcd ?_) | (refine callW_i pch ?_) | (refine callW_i ps ?_)
        all_goals rfl
     ·rw [if_pos (by simpa using hc)] at h2
      subst h2
      have hc : (chooseS rows).2.2 = false := by simpa using hc
      generalize chooseS rows = C at *
      obtain ⟨name, eq, ok⟩ := C
      simp only at hc
      subst hc
      simp only [chR] at pch
      repeat' first | simp (disch := omega) only [go_sem, ↓reduceIte, Nat.reduceEqDiff, reduceCtorEq, Int.reduceEq] | ((with_reducible first | refine condD ?_ ?_ | refine condX ?_ ?_ | refine condW_intro ?_ ?_) <;> intro h <;> first | (exfalso; omega) | simp (disch := omega) only [go_sem, ↓reduceIte, Nat.reduceEqDiff, reduceCtorEq, Int.reduceEq, *] | skip) | (refine callW_i pcd ?_) | (refine callW_i pch ?_)
      all_goals rfl
 ·rw [if_pos h0]
  clear h64 hs
  generalize tightL l = X at *
  obtain ⟨t, e⟩ := X
  simp only at h0
  repeat' first | simp (disch := omega) only [go_sem, ↓reduceIte, Nat.reduceEqDiff, reduceCtorEq, Int.reduceEq, h0] | ((with_reducible first | refine condD ?_ ?_ | refine condX ?_ ?_ | refine condW_intro ?_ ?_) <;> intro h <;> first | (exfalso; omega) | simp (disch := omega) only [go_sem, ↓reduceIte, Nat.reduceEqDiff, reduceCtorEq, Int.reduceEq, *, h0] | skip) | (refine callW_of pt rfl (.inr rfl) ?_)
  all_goals rfl
end Go.Proofs.Ytnddmjhpplopbaa
