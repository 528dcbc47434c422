/- Walks by the abstract machine: the reference's sums. -/
import Derived.Test.YtnddmjhpplopbaaV07d
set_option linter.unusedVariables false
set_option linter.unusedSimpArgs false
set_option maxRecDepth 20000
namespace Go.Proofs.Ytnddmjhpplopbaa
open Go.Abs Go.RowKit

theorem app_tslP {e sz bytes : Nat} {y : AV} {rows ys : List (List PC)} {σ : St} {K : Blk (AV → St → Prop)} (h0 : rowsOk sz rows) (hok : rowsOk sz ys) (h1 : (rows.length + ys.length) * bytes ≤ 140737488355328) (h2 : rows.length + ys.length ≤ 140737488355328)
  (hk : K.out (.c (.pure (.slice (rows ++ ys)))) σ) : @appW e sz bytes (.c (.tsl rows)) y ys σ K := ⟨hok, .inr (.inr ⟨rows, rfl, h0, .inr (.inl ⟨h1, h2, hk⟩)⟩)⟩
/-- Nothing is appended to a literal. -/
theorem app_tslN {e sz bytes : Nat} {y : AV} {rows : List (List PC)} {σ : St} {K : Blk (AV → St → Prop)} (h0 : rowsOk sz rows) (hk : K.out (.c (.tsl rows)) σ) : @appW e sz bytes (.c (.tsl rows)) y [] σ K := ⟨(by intro r hr; cases hr), .inr (.inr ⟨rows, rfl, h0, .inr (.inr ⟨rfl, hk⟩)⟩)⟩
theorem app_tsl {e sz bytes : Nat} {y : AV} {rows ys : List (List PC)} {σ : St} {K : Blk (AV → St → Prop)} (h0 : rowsOk sz rows) (hok : rowsOk sz ys) (hne : ys ≠ []) (h1 : (rows.length + ys.length) * bytes ≤ 140737488355328) (h2 : rows.length + ys.length ≤ 140737488355328)
  (hk : K.out (.c (.ref σ.nx)) { σ with mem := (σ.nx, .arr e sz (rows ++ ys)) :: σ.mem, nx := σ.nx + 1 }) : @appW e sz bytes (.c (.tsl rows)) y ys σ K := ⟨hok, .inr (.inr ⟨rows, rfl, h0, .inl ⟨hne, h1, h2, hk⟩⟩)⟩

theorem insR_at {n : ByteArray} {x : Int} : ∀ {l : List Mono} {p : Nat}, (∀ i (h : i < l.length), i < p → sless l[i].1 n = true) → p ≤ l.length →
  (∀ (h : p < l.length), ¬ sless l[p].1 n = true → insR l n x = if l[p].1 = n then (l.set p (l[p].1, (ok64 (l[p].2 + x)).1), (ok64 (l[p].2 + x)).2) else (l.take p ++ (n, x) :: l.drop p, true)) ∧
  (p = l.length → insR l n x = (l.take p ++ (n, x) :: l.drop p, true))
 |[], p, h1, h2 => by
  simp at h2
  subst h2
  exact ⟨fun h => by simp at h, fun _ => rfl⟩
 |m :: r, 0, h1, h2 => by
  refine ⟨fun h hs => ?_, fun h => by simp at h⟩
  simp only [List.getElem_cons_zero] at hs ⊢
  rw [insR, if_neg hs]
  by_cases e : m.1 = n
  ·rw [if_pos e, if_pos e]; rfl
  ·rw [if_neg e, if_neg e]; rfl
 |m :: r, p + 1, h1, h2 => by
  have hm := h1 0 (by simp) (by omega)
  simp only [List.getElem_cons_zero] at hm
  obtain ⟨i1, i2⟩ := insR_at (n := n) (x := x) (l := r) (p := p) (fun i h hi => by have := h1 (i + 1) (by simp; omega) (by omega); simpa using this) (by simpa using h2)
  refine ⟨fun h hs => ?_, fun h => ?_⟩
  ·simp only [List.getElem_cons_succ] at hs ⊢
   rw [insR, if_pos hm, i1 (by simpa using h) hs]
   split <;> simp
  ·rw [insR, if_pos hm, i2 (by simpa using h)]
   simp
abbrev pStrs (xs : List ByteArray) : PC := pSl (fun s => [pS s]) xs
abbrev nms (l : List Mono) : PC := .slice (l.map fun m => [pS m.1])
abbrev bys (l : List Mono) : PC := .slice (l.map fun m => [pI m.2])
abbrev byR (l : List Mono) : List (List PC) := l.map fun m => [pI m.2]
abbrev nmR (l : List Mono) : List (List PC) := l.map fun m => [pS m.1]
abbrev aSum (s : Sum) : AV := .agg [.pure (pI s.1), .pure (nms s.2.1), .pure (bys s.2.1), .pure (pB s.2.2)]
theorem ok64_in64 (x : Int) : in64 (ok64 x).1 := by
 by_cases h : in64 x
 ·rw [ok64_in h]; exact h
 ·rw [ok64_out h]; exact in64_zero
theorem insR_len : ∀ (l : List Mono) (n : ByteArray) (x : Int), (insR l n x).1.length ≤ l.length + 1
 | [], n, x => by simp [insR]
 |m :: r, n, x => by
  rw [insR]
  have := insR_len r n x
  split
  ·simp only [List.length_cons]; omega
  ·split <;> simp
theorem insR_64 {n : ByteArray} {x : Int} (hx : in64 x) : ∀ {l : List Mono}, (∀ m ∈ l, in64 m.2) → ∀ m ∈ (insR l n x).1, in64 m.2
 |[], _, m, hm => by
  rw [insR, List.mem_singleton] at hm
  rw [hm]; exact hx
 |y :: r, hl, m, hm => by
  rw [insR] at hm
  split at hm
  ·rcases List.mem_cons.1 hm with rfl | hm
   ·exact hl _ List.mem_cons_self
   ·exact insR_64 hx (fun z hz => hl z (List.mem_cons_of_mem _ hz)) m hm
  ·split at hm
   ·rcases List.mem_cons.1 hm with rfl | hm
    ·exact ok64_in64 _
    ·exact hl m (List.mem_cons_of_mem _ hm)
   ·rcases List.mem_cons.1 hm with rfl | hm
    ·exact hx
    ·exact hl m hm
theorem findP (l : List Mono) (n : ByteArray) : ∃ p, p ≤ l.length ∧ (∀ i (h : i < l.length), i < p → sless l[i].1 n = true) ∧ (p = l.length ∨ ∃ h : p < l.length, ¬ sless l[p].1 n = true) := by
 induction l with
 | nil => exact ⟨0, Nat.le_refl _, fun i h => by simp at h, .inl rfl⟩
 | cons m r ih =>
  by_cases hm : sless m.1 n = true
  ·obtain ⟨p, h1, h2, h3⟩ := ih
   refine ⟨p + 1, by simpa using h1, fun i h hi => ?_, ?_⟩
   ·cases i with
    | zero => exact hm
    | succ i => simpa using h2 i (by simpa using h) (by omega)
   ·rcases h3 with h3 | ⟨h3, h4⟩
    ·exact .inl (by simp [h3])
    ·exact .inr ⟨by simpa using h3, by simpa using h4⟩
  ·exact ⟨0, Nat.zero_le _, fun i h hi => by omega, .inr ⟨by simp, by simpa using hm⟩⟩
theorem base_Times_ok {a b : Int} (ha : in64 a) (hb : in64 b) : PCalls Try.prog n_base_Times [I a, I b] (aOk (ok64 (a * b))) := base_Times_abs ha hb
abbrev sumZ : Box := .var [.pure (pI 0), .nils, .nils, .pure (pB false)]
abbrev scM (c : Lin) (k : Int) (l : List Mono) (ok : Bool) : List (Nat × Box) :=
 [(4, .arr 2 1 (byR l)), (3, .var [.pure (pI k), .pure (nms l), .ref 4, .pure (pB ok)]), (2, sumZ), (1, .var [.pure (pI c.1), .pure (pMonos c.2)])]
set_option maxHeartbeats 4000000 in
theorem ref07_scaled_abs {s : Sum} {c : Lin} {b : Int} (hs : in64 s.1) (hsl : ∀ m ∈ s.2.1, in64 m.2) (hc : lin64 c) (hb : in64 b) (hlen : s.2.1.length + c.2.length ≤ 1000000000) : PCalls Try.prog n_ref07_scaled [aSum s, aLin c.1 c.2, I b] (aSum (scaledR s c b)) := by
 refine PCalls.of is_ref07_scaled (by simp) fun _ => runW_sound ?_
 obtain ⟨sk, sl, sok⟩ := s
 obtain ⟨ck, cl⟩ := c
 obtain ⟨hck, hcl⟩ := hc
 have hN : cl.length ≤ 1000000000 := by simp only at hlen; omega
 simp only at hs hsl hck hcl hlen
 have p1 := base_Times_abs hck hb
 have p2 := base_Plus_abs hs (ok64_in64 (ck * b))
 simp only [c_ref07_scaled, scaledR]
 generalize ok64 (sk + (ok64 (ck * b)).1) = K at *
 generalize ok64 (ck * b) = T at *
 obtain ⟨o, ho⟩ : ∃ o, o = (sok && T.2 && K.2) := ⟨_, rfl⟩
 rw [← ho]
 obtain ⟨R, hR⟩ : ∃ R, R = foldR b cl (sl, o) := ⟨_, rfl⟩
 rw [← hR]
 have HR : Hid (R = foldR b (cl.drop 0) (sl, o)) := Lib.hid (by rw [hR]; rfl)
 clear hR
 have hnl : (nmR sl).length ≤ 1000000000 := by simp; omega
 have hbl : (byR sl).length ≤ 1000000000 := by simp; omega
 have hrn : rowsOk 1 (nmR sl) := rowsOk_map fun _ => rfl
 have hrb : rowsOk 1 (byR sl) := rowsOk_map fun _ => rfl
 have e3 : (sok && T.2 && K.2) = o := ho.symm
 clear ho
 cases sok
 all_goals
  repeat' first | simp (disch := omega) only [go_sem, ↓reduceIte, Nat.reduceEqDiff, reduceCtorEq, Int.reduceEq] | ((with_reducible first | refine condD ?_ ?_ | refine condX ?_ ?_ | refine condW_intro ?_ ?_) <;> intro h <;> first | (exfalso; omega) | simp (disch := omega) only [go_sem, ↓reduceIte, Nat.reduceEqDiff, reduceCtorEq, Int.reduceEq, *] | skip) | (refine callW_of p1 rfl (.inl rfl) ?_) | (refine callW_of p2 rfl (.inl rfl) ?_) | (refine app_nilP hrn (by simp at hnl; simp; omega) (by simp at hnl; simp; omega) ?_) | (refine app_nil hrb (by simp at hbl; simp; omega) (by simp at hbl; simp; omega) ?_)
 all_goals
  refine AW_loop (fun s : Nat × List Mono × Bool => ⟨[(2, I b), (4, .c (.ptr 1 0)), (6, .c (.ptr 2 0)), (11, .c (.ptr 3 0)), (12, I s.1)], scM (ck, cl) K.1 s.2.1 s.2.2, 5, 0⟩)
   (fun s => s.1 ≤ cl.length ∧ (∀ m ∈ s.2.1, in64 m.2) ∧ s.2.1.length + (cl.length - s.1) ≤ 1000000000 ∧ Hid (R = foldR b (cl.drop s.1) (s.2.1, s.2.2))) (fun s => cl.length - s.1)
   ⟨(0, sl, o), [], ⟨Nat.zero_le _, hsl, by simpa using hlen, HR⟩, by subst e3; simp [Wk, wkF, wkM, wkL, look_cons, renV, renA, renC, renB, rn, clV, clA, clAs, clB, notIn, findB, findB_setB, clA.go, *]⟩ ?_
  clear HR hlen hsl p1 p2 e3 hnl hbl hrn hrb
  rintro ⟨i, l, ok⟩ ⟨hi, h64, hlen, HR⟩
  refine runW_sound ?_
  simp only at hi h64 hlen HR
  by_cases hlt : i < cl.length
  ·have hm64 := hcl _ (List.getElem_mem hlt)
   have h2 := HR.out
   rw [List.drop_eq_getElem_cons hlt, foldR] at h2
   have g1 := map_get (f := mP) hlt
   clear HR
   generalize cl[i] = m at *
   obtain ⟨n, y⟩ := m
   simp only [mP] at g1
   simp only at h2
   have pt := base_Times_abs hm64 hb
   have hX := ok64_in64 (y * b)
   generalize ok64 (y * b) = X at *
   obtain ⟨p, hp0, hp1, hp2⟩ : ∃ p, p ≤ l.length ∧ (∀ i (h : i < l.length), i < p → sless l[i].1 n = true) ∧ (p = l.length ∨ ∃ h : p < l.length, ¬ sless l[p].1 n = true) := findP l n
   obtain ⟨i1, i2⟩ := insR_at (n := n) (x := X.1) hp1 hp0
   have hI64 := insR_64 (n := n) hX h64
   have hIl := insR_len l n X.1
   obtain ⟨ok2, hok2⟩ : ∃ ok2, ok2 = (ok && X.2) := ⟨_, rfl⟩
   rw [← hok2] at h2
   have H2 := Lib.hid h2
   have HI64 := Lib.hid hI64
   clear h2 hI64
   have X2 := hX
   have wr : IntKind.wrap .i64 ((i : Int) + 1) = (i : Int) + 1 := wrap_i64 (by omega)
   cases ok
   all_goals
    repeat' first | simp (disch := omega) only [go_sem, ↓reduceIte, Nat.reduceEqDiff, reduceCtorEq, Int.reduceEq, g1, wrap_i64] | ((with_reducible first | refine condD ?_ ?_ | refine condX ?_ ?_ | refine condW_intro ?_ ?_) <;> intro h <;> first | (exfalso; omega) | simp (disch := omega) only [go_sem, ↓reduceIte, Nat.reduceEqDiff, reduceCtorEq, Int.reduceEq, *, g1, wrap_i64] | skip) | (refine callW_of pt rfl (.inl rfl) ?_)
   all_goals
    by_cases hf : ∃ h : p < l.length, l[p].1 = n
    ·obtain ⟨hpl, hpn⟩ := hf
     have hns : ¬ sless l[p].1 n = true := by rw [hpn]; exact sless_irrefl n
     have hI := i1 hpl hns
     rw [if_pos hpn] at hI
     refine AW_loop (fun j : Nat => ⟨[(2, I b), (4, .c (.ptr 1 0)), (6, .c (.ptr 2 0)), (11, .c (.ptr 3 0)), (12, I i), (13, I X.1), (15, I j)], scM (ck, cl) K.1 l ok2, 5, 0⟩) (fun j => j ≤ p) (fun j => p - j) ⟨0, [], Nat.zero_le _, by subst hok2; simp [Wk, wkF, wkM, wkL, look_cons, renV, renA, renC, renB, rn, clV, clA, clAs, clB, notIn, findB, findB_setB, clA.go, *]⟩ ?_
     intro j hj
     refine runW_sound ?_
     have hjl : j < l.length := by omega
     have g2 := map_get (f := fun m : Mono => [pS m.1]) hjl
     by_cases hjp : j < p
     ·have g3 : Op.bytesLess l[j].1.toList n.toList = true := hp1 j hjl hjp
      repeat' first | simp (disch := omega) only [go_sem, ↓reduceIte, Nat.reduceEqDiff, reduceCtorEq, Int.reduceEq, g1, g2, g3, wrap_i64] | ((with_reducible first | refine condD ?_ ?_ | refine condX ?_ ?_ | refine condW_intro ?_ ?_) <;> intro h <;> first | (exfalso; omega) | simp (disch := omega) only [go_sem, ↓reduceIte, Nat.reduceEqDiff, reduceCtorEq, Int.reduceEq, *, g1, g2, g3, wrap_i64] | skip)
      exact ⟨j + 1, [], hjp, by omega, by simp [Wk, wkF, wkM, wkL, look_cons, renV, renA, renC, renB, rn, clV, clA, clAs, clB, notIn, findB, findB_setB, clA.go]⟩
     ·obtain rfl : j = p := by omega
      rw [hpn] at g2 hns
      have g4 : Op.bytesLess n.toList n.toList = false := by
       cases h : Op.bytesLess n.toList n.toList with
       | false => rfl
       | true => exact absurd h hns
      have g5 := map_get (f := fun m : Mono => [pI m.2]) hjl
      have q2 := base_Plus_abs (h64 _ (List.getElem_mem hjl)) hX
      have hset : ∀ v, (byR l).set j [pI v] = byR (l.set j (l[j].1, v)) := fun v => by simp [List.map_set]
      have hnset : ∀ v, nmR (l.set j (l[j].1, v)) = nmR l := fun v => by
       refine List.ext_getElem (by simp) fun i' h1 h2 => ?_
       simp only [List.getElem_map, List.getElem_set]
       split
       ·rename_i e; subst e; rfl
       ·rfl
      have HR2 := H2.out
      have HI2 := HI64.out
      rw [hI, hpn] at HR2 HI2
      rw [hpn] at hset hnset
      have hll : (l.set j (n, (ok64 (l[j].2 + X.1)).1)).length = l.length := by simp
      clear H2 HI64 hI i1 i2 hIl hp0 hp1 hp2 hns
      generalize ok64 (l[j].2 + X.1) = Y at *
      have HR3 := Lib.hid HR2
      have HI3 := Lib.hid HI2
      have hset2 := hset Y.1
      have hnset2 := hnset Y.1
      clear HR2 HI2 hset hnset hok2
      generalize hL : l.set j (n, Y.1) = L' at *
      clear hL hpn
      generalize l[j].2 = lv at *
      cases ok2
      ·repeat' first | simp (disch := omega) only [go_sem, ↓reduceIte, Nat.reduceEqDiff, reduceCtorEq, Int.reduceEq, g1, g2, g4, g5, wrap_i64] | ((with_reducible first | refine condD ?_ ?_ | refine condX ?_ ?_ | refine condW_intro ?_ ?_) <;> intro h <;> first | (exfalso; omega) | simp (disch := omega) only [go_sem, ↓reduceIte, Nat.reduceEqDiff, reduceCtorEq, Int.reduceEq, *, g1, g2, g4, g5, wrap_i64] | skip) | (refine callW_of q2 rfl (.inl rfl) ?_)
       exact ⟨(i + 1, L', false), [], ⟨hlt, HI3.out, by simp only; omega, HR3⟩, by show _ - _ < _ - _; omega, by simp [Wk, wkF, wkM, wkL, look_cons, renV, renA, renC, renB, rn, clV, clA, clAs, clB, notIn, findB, findB_setB, clA.go, hset2, hnset2, wr]⟩
      ·repeat' first | simp (disch := omega) only [go_sem, ↓reduceIte, Nat.reduceEqDiff, reduceCtorEq, Int.reduceEq, g1, g2, g4, g5, wrap_i64] | ((with_reducible first | refine condD ?_ ?_ | refine condX ?_ ?_ | refine condW_intro ?_ ?_) <;> intro h <;> first | (exfalso; omega) | simp (disch := omega) only [go_sem, ↓reduceIte, Nat.reduceEqDiff, reduceCtorEq, Int.reduceEq, *, g1, g2, g4, g5, wrap_i64] | skip) | (refine callW_of q2 rfl (.inl rfl) ?_)
       exact ⟨(i + 1, L', Y.2), [], ⟨hlt, HI3.out, by simp only; omega, HR3⟩, by show _ - _ < _ - _; omega, by simp [Wk, wkF, wkM, wkL, look_cons, renV, renA, renC, renB, rn, clV, clA, clAs, clB, notIn, findB, findB_setB, clA.go, hset2, hnset2, wr]⟩
    ·have hI : insR l n X.1 = (l.take p ++ (n, X.1) :: l.drop p, true) := by
      rcases hp2 with e | ⟨hpl, hns⟩
      ·exact i2 e
      ·have := i1 hpl hns
       rw [if_neg (fun e => hf ⟨hpl, e⟩)] at this
       exact this
     refine AW_frz [4] (AW_loop (fun j : Nat => ⟨[(2, I b), (4, .c (.ptr 1 0)), (6, .c (.ptr 2 0)), (11, .c (.ptr 3 0)), (12, I i), (13, I X.1), (15, I j)], [(3, .var [.pure (pI K.1), .pure (nms l), .pure (bys l), .pure (pB ok2)]), (2, sumZ), (1, .var [.pure (pI ck), .pure (pMonos cl)])], 5, 0⟩) (fun j => j ≤ p) (fun j => p - j) ⟨0, [], Nat.zero_le _, by subst hok2; simp [Wk, wkF, wkM, wkL, look_cons, renV, renA, renC, renB, rn, clV, clA, clAs, clB, notIn, findB, findB_setB, clA.go, *, frzLA, St.frz, frzF, frzM, frzV, frz1, frzB, findB]⟩ ?_)
     intro j hj
     refine runW_sound ?_
     by_cases hjp : j < p
     ·have hjl : j < l.length := by omega
      have g2 := map_get (f := fun m : Mono => [pS m.1]) hjl
      have g3 : Op.bytesLess l[j].1.toList n.toList = true := hp1 j hjl hjp
      repeat' first | simp (disch := omega) only [go_sem, ↓reduceIte, Nat.reduceEqDiff, reduceCtorEq, Int.reduceEq, g1, g2, g3, wrap_i64] | ((with_reducible first | refine condD ?_ ?_ | refine condX ?_ ?_ | refine condW_intro ?_ ?_) <;> intro h <;> first | (exfalso; omega) | simp (disch := omega) only [go_sem, ↓reduceIte, Nat.reduceEqDiff, reduceCtorEq, Int.reduceEq, *, g1, g2, g3, wrap_i64] | skip)
      exact ⟨j + 1, [], hjp, by omega, by simp [Wk, wkF, wkM, wkL, look_cons, renV, renA, renC, renB, rn, clV, clA, clAs, clB, notIn, findB, findB_setB, clA.go]⟩
     ·obtain rfl : j = p := by omega
      have HR2 := H2.out
      have HI2 := HI64.out
      rw [hI, Bool.and_true] at HR2
      rw [hI] at HI2
      have HR3 := Lib.hid HR2
      have HI3 := Lib.hid HI2
      clear H2 HI64 i1 i2 hIl hp1 hok2 hI HR2 HI2
      have r5 : rowsOk 1 (nmR l) := rowsOk_map fun _ => rfl
      have r6 : rowsOk 1 (byR l) := rowsOk_map fun _ => rfl
      have tk1 : List.take l.length (nmR l) = nmR l := List.take_of_length_le (by simp)
      have tk2 : List.take l.length (byR l) = byR l := List.take_of_length_le (by simp)
      have u1 : (j : Int) ≤ l.length := by omega
      have u2 : (0 : Int) ≤ (j : Int) := Int.natCast_nonneg j
      have r1 : rowsOk 1 ((nmR l).take j) := rowsOk_take (rowsOk_map fun _ => rfl)
      have r2 : rowsOk 1 ((nmR l).drop j) := rowsOk_drop (rowsOk_map fun _ => rfl)
      have r3 : rowsOk 1 ((byR l).take j) := rowsOk_take (rowsOk_map fun _ => rfl)
      have r4 : rowsOk 1 ((byR l).drop j) := rowsOk_drop (rowsOk_map fun _ => rfl)
      have hlen2 : (l.take j ++ (n, X.1) :: l.drop j).length = l.length + 1 := by simp; omega
      by_cases hjl : j < l.length
      ·have g2 := map_get (f := fun m : Mono => [pS m.1]) hjl
       have g4 : Op.bytesLess l[j].1.toList n.toList = false := by
        rcases hp2 with e | ⟨hpl, hns⟩
        ·omega
        ·cases h : Op.bytesLess l[j].1.toList n.toList with
         | false => rfl
         | true => exact absurd h hns
       have g6 : ¬ l[j].1 = n := fun e => hf ⟨hjl, e⟩
       clear hp2 hf
       generalize l[j].1 = nn at *
       repeat' first | simp (disch := omega) only [go_sem, ↓reduceIte, Nat.reduceEqDiff, reduceCtorEq, Int.reduceEq, g1, g2, g4, g6, r5, r6, u1, u2, tk1, tk2, Option.getD_none, Option.getD_some, Option.isSome_none, Option.isSome_some, Int.toNat_zero, List.drop_zero, Bool.false_eq_true, wrap_i64] | ((with_reducible first | refine condD ?_ ?_ | refine condX ?_ ?_ | refine condW_intro ?_ ?_) <;> intro h <;> first | (exfalso; omega) | simp (disch := omega) only [go_sem, ↓reduceIte, Nat.reduceEqDiff, reduceCtorEq, Int.reduceEq, *, g1, g2, g4, g6, r5, r6, u1, u2, tk1, tk2, Option.getD_none, Option.getD_some, Option.isSome_none, Option.isSome_some, Int.toNat_zero, List.drop_zero, Bool.false_eq_true, wrap_i64] | skip) | (refine app_tslP (rowsOk_one rfl) r2 (by simp; omega) (by simp; omega) ?_) | (refine app_tslP r1 (rowsOk_append (rowsOk_one rfl) r2) (by simp; omega) (by simp; omega) ?_) | (refine app_tslP (rowsOk_one rfl) r4 (by simp; omega) (by simp; omega) ?_) | (refine app_tsl r3 (rowsOk_append (rowsOk_one rfl) r4) (by simp) (by simp; omega) (by simp; omega) ?_)
       exact ⟨(i + 1, l.take j ++ (n, X.1) :: l.drop j, ok2), [(4, 5)], ⟨hlt, HI3.out, by simp only [hlen2]; omega, HR3⟩, by show _ - _ < _ - _; omega, by simp [Wk, wkF, wkM, wkL, look_cons, renV, renA, renC, renB, rn, clV, clA, clAs, clB, notIn, findB, findB_setB, clA.go, List.map_append, List.map_cons, List.map_take, List.map_drop, Int.toNat_zero, List.drop_zero, wr]⟩
      ·repeat' first | simp (disch := omega) only [go_sem, ↓reduceIte, Nat.reduceEqDiff, reduceCtorEq, Int.reduceEq, g1, r5, r6, u1, u2, tk1, tk2, Option.getD_none, Option.getD_some, Option.isSome_none, Option.isSome_some, Int.toNat_zero, List.drop_zero, Bool.false_eq_true, wrap_i64] | ((with_reducible first | refine condD ?_ ?_ | refine condX ?_ ?_ | refine condW_intro ?_ ?_) <;> intro h <;> first | (exfalso; omega) | simp (disch := omega) only [go_sem, ↓reduceIte, Nat.reduceEqDiff, reduceCtorEq, Int.reduceEq, *, g1, r5, r6, u1, u2, tk1, tk2, Option.getD_none, Option.getD_some, Option.isSome_none, Option.isSome_some, Int.toNat_zero, List.drop_zero, Bool.false_eq_true, wrap_i64] | skip) | (refine app_tslP (rowsOk_one rfl) r2 (by simp; omega) (by simp; omega) ?_) | (refine app_tslP r1 (rowsOk_append (rowsOk_one rfl) r2) (by simp; omega) (by simp; omega) ?_) | (refine app_tslP (rowsOk_one rfl) r4 (by simp; omega) (by simp; omega) ?_) | (refine app_tsl r3 (rowsOk_append (rowsOk_one rfl) r4) (by simp) (by simp; omega) (by simp; omega) ?_)
       exact ⟨(i + 1, l.take j ++ (n, X.1) :: l.drop j, ok2), [(4, 5)], ⟨hlt, HI3.out, by simp only [hlen2]; omega, HR3⟩, by show _ - _ < _ - _; omega, by simp [Wk, wkF, wkM, wkL, look_cons, renV, renA, renC, renB, rn, clV, clA, clAs, clB, notIn, findB, findB_setB, clA.go, List.map_append, List.map_cons, List.map_take, List.map_drop, Int.toNat_zero, List.drop_zero, wr]⟩
  ·have h2 := HR.out
   rw [List.drop_eq_nil_of_le (by omega), foldR] at h2
   subst h2
   repeat' first | simp (disch := omega) only [go_sem, ↓reduceIte, Nat.reduceEqDiff, reduceCtorEq, Int.reduceEq] | ((with_reducible first | refine condD ?_ ?_ | refine condX ?_ ?_ | refine condW_intro ?_ ?_) <;> intro h <;> first | (exfalso; omega) | simp (disch := omega) only [go_sem, ↓reduceIte, Nat.reduceEqDiff, reduceCtorEq, Int.reduceEq, *] | skip)
end Go.Proofs.Ytnddmjhpplopbaa
