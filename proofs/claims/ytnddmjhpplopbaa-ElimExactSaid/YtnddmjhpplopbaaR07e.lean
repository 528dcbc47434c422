/- Walks by the abstract machine: combinations of a list, a variable eliminated by an equation and by pairs; the whole elimination. -/
import Derived.Test.YtnddmjhpplopbaaR07s
set_option linter.unusedVariables false
set_option linter.unusedSimpArgs false
set_option maxRecDepth 20000
namespace Go.Proofs.Ytnddmjhpplopbaa
open Go.Abs Go.RowKit

theorem set_rowI {l : List Int} {k : Nat} {x : Int} : (l.map fun n => [pI n]).set k [pI x] = (l.set k x).map fun n => [pI n] := by rw [List.map_set]
def byT (b : List Int) : List (Nat × Int) → List Int
 | [] => b
 | t :: ts => byT (b.set t.1 t.2) ts
abbrev tP (t : Nat × Int) : List PC := [pI t.1, pI t.2]
theorem byT_one (n i : Nat) : byT (List.replicate n 0) [(i, 1)] = units2 n i 1 i 1 := by
 simp [byT, units2]
theorem byT_two {n i k : Nat} {x y : Int} (h : i ≠ k) : byT (List.replicate n 0) [(i, x), (k, y)] = units2 n i x k y := by
 simp only [byT, units2]
 rw [List.set_comm _ _ h]
theorem byT_drop {b : List Int} {ts : List (Nat × Int)} {k : Nat} (h : k < ts.length) : byT b (ts.drop k) = byT (b.set ts[k].1 ts[k].2) (ts.drop (k + 1)) := by
 rw [List.drop_eq_getElem_cons h, byT]
abbrev aDer (x : Row × Int) : AV := .tup [aRow x.1, I x.2]
theorem elim_derive_abs {l : List Con} {ts : List (Nat × Int)} (hl : ∀ c ∈ l, con64 c) (hs : tot l ≤ 400000000) (h256 : l.length ≤ 1000000) (hts : ∀ t ∈ ts, t.1 < l.length ∧ in64 t.2) :
  PCalls Try.prog n_elim_derive [aCons l, aSl tP ts] (aDer (derS l (byT (List.replicate l.length 0) ts))) := by
 refine PCalls.of is_elim_derive (by simp) fun hb => runW_sound ?_
 have hbt : ts.length ≤ 9223372036854775807 := by have := hb.2.1; simpa [bndV, bndA] using this
 clear hb
 simp only [c_elim_derive]
 obtain ⟨R, hR⟩ : ∃ R, R = byT (List.replicate l.length 0) (ts.drop 0) := ⟨_, rfl⟩
 have hR0 : byT (List.replicate l.length 0) ts = R := hR.symm
 rw [hR0]
 have HR := Lib.hid hR
 clear hR hR0
 have hrep : (List.replicate l.length (0 : Int)).map (fun n => [pI n]) = List.replicate l.length [pI 0] := by rw [List.map_replicate]
 repeat' first | simp (disch := omega) only [go_sem, ↓reduceIte, Nat.reduceEqDiff, reduceCtorEq, Int.reduceEq] | ((with_reducible first | refine condD ?_ ?_ | refine condX ?_ ?_ | refine condW_intro ?_ ?_) <;> intro h <;> first | (exfalso; omega) | simp (disch := omega) only [go_sem, ↓reduceIte, Nat.reduceEqDiff, reduceCtorEq, Int.reduceEq, *] | skip)
 refine AW_loop (fun s : Nat × List Int => ⟨[(0, aCons l), (4, .c (.ptr 0 0)), (6, .c (.ref 1)), (14, aSl tP ts), (15, I ts.length), (16, I s.1)], [(1, .arr 2 1 (s.2.map fun n => [pI n])), (0, .var zeroC)], 2, 0⟩)
  (fun s => s.1 ≤ ts.length ∧ s.2.length = l.length ∧ (∀ x ∈ s.2, in64 x) ∧ Hid (R = byT s.2 (ts.drop s.1))) (fun s => ts.length - s.1) ⟨(0, List.replicate l.length 0), [], ⟨Nat.zero_le _, List.length_replicate, (fun x hx => by rw [List.eq_of_mem_replicate hx]; exact in64_zero), HR⟩, by simp [Wk, wkF, wkM, wkL, look_cons, renV, renA, renC, renB, rn, clV, clA, clAs, clB, notIn, findB, findB_setB, clA.go, -List.map_replicate, hrep]⟩ ?_
 clear HR
 rintro ⟨k, b⟩ ⟨hk, hbl, hb64, HR⟩
 simp only at hk hbl hb64 HR
 refine runW_sound ?_
 by_cases hlt : k < ts.length
 ·have g1 := map_get (f := tP) hlt
  have h2 := HR.out
  rw [byT_drop hlt] at h2
  obtain ⟨ht1, ht2⟩ := hts _ (List.getElem_mem hlt)
  clear HR
  generalize ts[k] = t at *
  obtain ⟨i, x⟩ := t
  simp only [tP] at g1
  simp only at ht1 ht2 h2
  have HR := Lib.hid h2
  clear h2
  have hi : i < b.length := by omega
  have g2 := map_get (f := fun n => [pI n]) hi
  have hset := set_rowI (l := b) (k := i) (x := x)
  have h64' : ∀ z ∈ b.set i x, in64 z := fun z hz => (List.mem_or_eq_of_mem_set hz).elim (hb64 z) fun e => e ▸ ht2
  clear hb64
  repeat' first | simp (disch := omega) only [go_sem, ↓reduceIte, Nat.reduceEqDiff, reduceCtorEq, Int.reduceEq, g1, g2, wrap_i64] | ((with_reducible first | refine condD ?_ ?_ | refine condX ?_ ?_ | refine condW_intro ?_ ?_) <;> intro h <;> first | (exfalso; omega) | simp (disch := omega) only [go_sem, ↓reduceIte, Nat.reduceEqDiff, reduceCtorEq, Int.reduceEq, *, g1, g2, wrap_i64] | skip)
  exact ⟨(k + 1, b.set i x), [], ⟨hlt, by rw [List.length_set]; exact hbl, h64', HR⟩, by show _ - _ < _ - _; omega, by simp [Wk, wkF, wkM, wkL, look_cons, renV, renA, renC, renB, rn, clV, clA, clAs, clB, notIn, findB, findB_setB, clA.go, List.map_set]⟩
 ·have h2 := HR.out
  rw [List.drop_eq_nil_of_le (by omega), byT] at h2
  subst h2
  clear HR
  have pc := constraint_Combine_abs (l := l) (b := R) hl hb64 (by omega)
  unfold derS
  generalize conCombine l R = C at *
  obtain ⟨⟨⟨K, m⟩, q⟩, e⟩ := C
  simp only
  by_cases he : e = 0
  ·subst he
   rw [if_neg (by simp)]
   repeat' first | simp (disch := omega) only [go_sem, ↓reduceIte, Nat.reduceEqDiff, reduceCtorEq, Int.reduceEq] | ((with_reducible first | refine condD ?_ ?_ | refine condX ?_ ?_ | refine condW_intro ?_ ?_) <;> intro h <;> first | (exfalso; omega) | simp (disch := omega) only [go_sem, ↓reduceIte, Nat.reduceEqDiff, reduceCtorEq, Int.reduceEq, *] | skip) | (refine callW_z1 1 2 1 (R.map fun n => [pI n]) pc (by simp (disch := omega) only [findB, findB_setB, ifN, eq_self, ↓reduceIte, Option.map_some] <;> rfl) (by simp [frzV, frz1, purVs, purV, purAs, purA, purC]) (.inr (by simp [frzV, frz1, norefV, norefA, norefC])) ?_)
   all_goals rfl
  ·rw [if_pos he]
   repeat' first | simp (disch := omega) only [go_sem, ↓reduceIte, Nat.reduceEqDiff, reduceCtorEq, Int.reduceEq, he] | ((with_reducible first | refine condD ?_ ?_ | refine condX ?_ ?_ | refine condW_intro ?_ ?_) <;> intro h <;> first | (exfalso; omega) | simp (disch := omega) only [go_sem, ↓reduceIte, Nat.reduceEqDiff, reduceCtorEq, Int.reduceEq, *, he] | skip) | (refine callW_z1 1 2 1 (R.map fun n => [pI n]) pc (by simp (disch := omega) only [findB, findB_setB, ifN, eq_self, ↓reduceIte, Option.map_some] <;> rfl) (by simp [frzV, frz1, purVs, purV, purAs, purA, purC]) (.inr (by simp [frzV, frz1, norefV, norefA, norefC])) ?_)
   all_goals rfl
set_option maxHeartbeats 4000000 in
theorem elim_solve_abs {l : List Con} {n : ByteArray} {k : Nat} (hl : ∀ c ∈ l, linOk c.1.2 ∧ con64 c) (hs : tot l ≤ 400000000) (h256 : l.length ≤ 256) (hk : k < l.length) :
  PCalls Try.prog n_elim_solve [aCons l, S n, I k] (aDers (solveS l n k)) := by
 refine PCalls.of is_elim_solve (by simp) fun _ => runW_sound ?_
 have gk := map_get (f := cP) hk
 have hck := (hl _ (List.getElem_mem hk)).2
 have hkk := conAt_get hk
 simp only [c_elim_solve]
 unfold solveS
 obtain ⟨R, hR⟩ : ∃ R, R = runE (stepQ l n k) ((List.range l.length).drop 0) [] := ⟨_, rfl⟩
 have hR0 : runE (stepQ l n k) (List.range l.length) [] = R := hR.symm
 rw [hR0]
 have HR := Lib.hid hR
 clear hR hR0
 have pd := fun (ts : List (Nat × Int)) (h : ∀ t ∈ ts, t.1 < l.length ∧ in64 t.2) => elim_derive_abs (ts := ts) (fun c hc => (hl c hc).2) hs (by omega) h
 generalize l[k] = w at *
 obtain ⟨⟨Kw, lw⟩, qw⟩ := w
 simp only [cP] at gk
 have pcw := elim_coefficient_abs ((Kw, lw), qw) n
 simp only at pcw
 have hcw : in64 (cf lw n) := cf_64 hck.2 n
 have hkc : cf (conAt l k).1.2 n = cf lw n := by rw [hkk]
 generalize cf lw n = ck at *
 repeat' first | simp (disch := omega) only [go_sem, ↓reduceIte, Nat.reduceEqDiff, reduceCtorEq, Int.reduceEq, gk] | ((with_reducible first | refine condD ?_ ?_ | refine condX ?_ ?_ | refine condW_intro ?_ ?_) <;> intro h <;> first | (exfalso; omega) | simp (disch := omega) only [go_sem, ↓reduceIte, Nat.reduceEqDiff, reduceCtorEq, Int.reduceEq, *, gk] | skip) | (refine callW_of pcw rfl (.inl rfl) ?_)
 refine AW_adopt 9 64 4 rfl (by decide) ?_
 refine AW_loop (fun s : Nat × List Row => ⟨[(0, aCons l), (1, S n), (2, I k), (8, I ck), (9, .c (.ref 0)), (25, I l.length), (26, I s.1)], [(0, .arr 64 4 (s.2.map rCells))], 1, 0⟩)
  (fun s => s.1 ≤ l.length ∧ s.2.length ≤ s.1 ∧ Hid (R = runE (stepQ l n k) ((List.range l.length).drop s.1) s.2)) (fun s => l.length - s.1) ⟨(0, []), [], ⟨Nat.zero_le _, Nat.le_refl _, HR⟩, by simp [Wk, wkF, wkM, wkL, look_cons, renV, renA, renC, renB, rn, clV, clA, clAs, clB, notIn, findB, findB_setB, clA.go]⟩ ?_
 clear HR pcw gk
 rintro ⟨i, acc⟩ ⟨hi, hacc, HR⟩
 simp only at hi hacc HR
 refine runW_sound ?_
 by_cases hlt : i < l.length
 ·have g1 := map_get (f := cP) hlt
  have hci := (hl _ (List.getElem_mem hlt)).2
  have hii := conAt_get hlt
  have h2 := HR.out
  rw [range_drop hlt, runE_cons] at h2
  clear HR
  generalize l[i] = z at *
  obtain ⟨⟨Kz, lz⟩, qz⟩ := z
  simp only [cP] at g1
  have pc := elim_coefficient_abs ((Kz, lz), qz) n
  simp only at pc
  have hcz : in64 (cf lz n) := cf_64 hci.2 n
  have hic : cf (conAt l i).1.2 n = cf lz n := by rw [hii]
  generalize cf lz n = d at *
  clear hii hkk
  by_cases hik : i = k
  ·have hs0 : stepQ l n k i acc = (acc, 0) := if_pos hik
   rw [hs0, if_neg (by simp)] at h2
   have HR := Lib.hid h2
   have hiki : ((i : Int) = (k : Int)) = True := eq_true (by omega)
   clear h2 hs0 pd
   repeat' first | simp (disch := omega) only [go_sem, ↓reduceIte, Nat.reduceEqDiff, reduceCtorEq, Int.reduceEq, g1, hiki, wrap_i64] | ((with_reducible first | refine condD ?_ ?_ | refine condX ?_ ?_ | refine condW_intro ?_ ?_) <;> intro h <;> first | (exfalso; omega) | simp (disch := omega) only [go_sem, ↓reduceIte, Nat.reduceEqDiff, reduceCtorEq, Int.reduceEq, *, g1, hiki, wrap_i64] | skip)
   exact ⟨(i + 1, acc), [], ⟨hlt, by simp only; omega, HR⟩, by show _ - _ < _ - _; omega, by simp [Wk, wkF, wkM, wkL, look_cons, renV, renA, renC, renB, rn, clV, clA, clAs, clB, notIn, findB, findB_setB, clA.go, hik]⟩
  ·have hiki : ¬ (i : Int) = (k : Int) := by omega
   by_cases hd : d = 0
   ·have hs0 : stepQ l n k i acc = stepD l (units2 l.length i 1 i 1) acc := by rw [stepQ, if_neg hik, hic, if_pos hd]
    rw [hs0] at h2
    subst hd
    have pd := pd [(i, 1)] (by simp; exact ⟨hlt, by simp [in64]⟩)
    rw [byT_one] at pd
    unfold stepD at h2
    clear hs0 hic
    generalize derS l (units2 l.length i 1 i 1) = D at *
    obtain ⟨⟨⟨⟨dk, dl⟩, dq⟩, db⟩, e⟩ := D
    simp only at h2
    by_cases he : e = 0
    ·subst he
     have h00 : ¬ ((0 : Int) ≠ 0) := by simp
     rw [if_neg h00] at h2
     simp only at h2
     rw [if_neg h00] at h2
     have HR := Lib.hid h2
     clear h2 h00
     repeat' first | simp (disch := omega) only [go_sem, ↓reduceIte, Nat.reduceEqDiff, reduceCtorEq, Int.reduceEq, g1, hiki, wrap_i64] | ((with_reducible first | refine condD ?_ ?_ | refine condX ?_ ?_ | refine condW_intro ?_ ?_) <;> intro h <;> first | (exfalso; omega) | simp (disch := omega) only [go_sem, ↓reduceIte, Nat.reduceEqDiff, reduceCtorEq, Int.reduceEq, *, g1, hiki, wrap_i64] | skip) | (refine callW_of pc rfl (.inl rfl) ?_) | (refine callW_of pd rfl (.inr rfl) ?_) | (refine app_own (by simp (disch := omega) only [findB, findB_setB, ifN, eq_self, ↓reduceIte, Option.map_some] <;> rfl) (by intro h; cases h) (rowsOk_one rfl) (by simp; omega) (by simp; omega) ?_)
     exact ⟨(i + 1, acc ++ [(((dk, dl), dq), db)]), [(0, 2)], ⟨hlt, by simp; omega, HR⟩, by show _ - _ < _ - _; omega, by simp [Wk, wkF, wkM, wkL, look_cons, renV, renA, renC, renB, rn, clV, clA, clAs, clB, notIn, findB, findB_setB, clA.go]⟩
    ·rw [if_pos he] at h2
     simp only at h2
     rw [if_pos he] at h2
     subst h2
     repeat' first | simp (disch := omega) only [go_sem, ↓reduceIte, Nat.reduceEqDiff, reduceCtorEq, Int.reduceEq, g1, hiki, wrap_i64, he] | ((with_reducible first | refine condD ?_ ?_ | refine condX ?_ ?_ | refine condW_intro ?_ ?_) <;> intro h <;> first | (exfalso; omega) | simp (disch := omega) only [go_sem, ↓reduceIte, Nat.reduceEqDiff, reduceCtorEq, Int.reduceEq, *, g1, hiki, wrap_i64, he] | skip) | (refine callW_of pc rfl (.inl rfl) ?_) | (refine callW_of pd rfl (.inr rfl) ?_)
     all_goals rfl
   ·have pk := elim_cancel_abs hcw hcz hd
    have hs0 : stepQ l n k i acc = if (cancelX ck d).2.2 = false then ([], 3) else stepD l (units2 l.length i (cancelX ck d).1 k (cancelX ck d).2.1) acc := by rw [stepQ, if_neg hik, hic, if_neg hd, hkc]
    rw [hs0] at h2
    have hx64 : in64 (cancelX ck d).1 := sgnE_64 _ _
    have hy64 : in64 (cancelX ck d).2.1 := sgnE_64 _ _
    clear hs0 hic hkc
    generalize cancelX ck d = X at *
    obtain ⟨x, y, ok⟩ := X
    simp only at h2 hx64 hy64 pk
    cases ok
    ·rw [if_pos rfl, if_pos (by simp)] at h2
     subst h2
     clear pd
     repeat' first | simp (disch := omega) only [go_sem, ↓reduceIte, Nat.reduceEqDiff, reduceCtorEq, Int.reduceEq, g1, hiki, wrap_i64, hd] | ((with_reducible first | refine condD ?_ ?_ | refine condX ?_ ?_ | refine condW_intro ?_ ?_) <;> intro h <;> first | (exfalso; omega) | simp (disch := omega) only [go_sem, ↓reduceIte, Nat.reduceEqDiff, reduceCtorEq, Int.reduceEq, *, g1, hiki, wrap_i64, hd] | skip) | (refine callW_of pc rfl (.inl rfl) ?_) | (refine callW_of pk rfl (.inl rfl) ?_)
     all_goals rfl
    ·have hft : ¬ (true = false) := by simp
     rw [if_neg hft] at h2
     clear hft
     have pd := pd [(i, x), (k, y)] (by simp; exact ⟨⟨hlt, hx64⟩, hk, hy64⟩)
     rw [byT_two hik] at pd
     unfold stepD at h2
     generalize derS l (units2 l.length i x k y) = D at *
     obtain ⟨⟨⟨⟨dk, dl⟩, dq⟩, db⟩, e⟩ := D
     simp only at h2
     by_cases he : e = 0
     ·subst he
      have h00 : ¬ ((0 : Int) ≠ 0) := by simp
      rw [if_neg h00] at h2
      simp only at h2
      rw [if_neg h00] at h2
      have HR := Lib.hid h2
      clear h2 h00
      repeat' first | simp (disch := omega) only [go_sem, ↓reduceIte, Nat.reduceEqDiff, reduceCtorEq, Int.reduceEq, g1, hiki, wrap_i64, hd] | ((with_reducible first | refine condD ?_ ?_ | refine condX ?_ ?_ | refine condW_intro ?_ ?_) <;> intro h <;> first | (exfalso; omega) | simp (disch := omega) only [go_sem, ↓reduceIte, Nat.reduceEqDiff, reduceCtorEq, Int.reduceEq, *, g1, hiki, wrap_i64, hd] | skip) | (refine callW_of pc rfl (.inl rfl) ?_) | (refine callW_of pk rfl (.inl rfl) ?_) | (refine callW_of pd rfl (.inr rfl) ?_) | (refine app_own (by simp (disch := omega) only [findB, findB_setB, ifN, eq_self, ↓reduceIte, Option.map_some] <;> rfl) (by intro h; cases h) (rowsOk_one rfl) (by simp; omega) (by simp; omega) ?_)
      exact ⟨(i + 1, acc ++ [(((dk, dl), dq), db)]), [(0, 2)], ⟨hlt, by simp; omega, HR⟩, by show _ - _ < _ - _; omega, by simp [Wk, wkF, wkM, wkL, look_cons, renV, renA, renC, renB, rn, clV, clA, clAs, clB, notIn, findB, findB_setB, clA.go]⟩
     ·rw [if_pos he] at h2
      simp only at h2
      rw [if_pos he] at h2
      subst h2
      repeat' first | simp (disch := omega) only [go_sem, ↓reduceIte, Nat.reduceEqDiff, reduceCtorEq, Int.reduceEq, g1, hiki, wrap_i64, hd, he] | ((with_reducible first | refine condD ?_ ?_ | refine condX ?_ ?_ | refine condW_intro ?_ ?_) <;> intro h <;> first | (exfalso; omega) | simp (disch := omega) only [go_sem, ↓reduceIte, Nat.reduceEqDiff, reduceCtorEq, Int.reduceEq, *, g1, hiki, wrap_i64, hd, he] | skip) | (refine callW_of pc rfl (.inl rfl) ?_) | (refine callW_of pk rfl (.inl rfl) ?_) | (refine callW_of pd rfl (.inr rfl) ?_)
      all_goals rfl
 ·have h2 := HR.out
  rw [List.drop_eq_nil_of_le (by simp; omega), runE] at h2
  subst h2
  clear HR
  repeat' first | simp (disch := omega) only [go_sem, ↓reduceIte, Nat.reduceEqDiff, reduceCtorEq, Int.reduceEq] | ((with_reducible first | refine condD ?_ ?_ | refine condX ?_ ?_ | refine condW_intro ?_ ?_) <;> intro h <;> first | (exfalso; omega) | simp (disch := omega) only [go_sem, ↓reduceIte, Nat.reduceEqDiff, reduceCtorEq, Int.reduceEq, *] | skip)
  all_goals rfl

/-- An array of the call's own that nobody names yet. -/
theorem AW_ghost {P : Program} {nt : Nat} {c : ACode} {σ : St} {Q : AExit → St → Prop} (e sz : Nat) (h0 : 0 < sz) (h : AW P nt c { σ with mem := (σ.nx, .arr e sz []) :: σ.mem, nx := σ.nx + 1 } Q) : AW P nt c σ Q := by
 intro c' hc w0 U ι a w hs hz
 obtain ⟨ι', h1, h2, h3, h4⟩ := hs.newBox (w' := w) (pv := .slice none 0 0) (bx := .arr e sz []) (Below.refl _ _) (fun b hb => by simp [blockOf] at hb) (fun ι' e1 e2 hfree => ⟨[], h0, by rw [e2]; exact World.ownsRow_nil _ _ _ _, by simp, RowsRep.nil⟩)
 exact h c' hc w0 U ι' a w h1 hz

/-! The map of the kinds: its keys in the order of their first place. -/
def nmK (s : Int) : Nat := if s = 0 then 1 else if s = 1 then 2 else 3
def entK (f : Int → AC) (o : List Int) : List (MK × List AC) := o.map fun s => (.int s, [f s])
theorem mlook_ent {f : Int → AC} {s : Int} : ∀ {o : List Int}, mlook (entK f o) (.int s) = if s ∈ o then some [f s] else none
 | [] => rfl
 |t :: o => by
  have ih := mlook_ent (f := f) (s := s) (o := o)
  simp only [entK, List.map_cons, mlook] at ih ⊢
  by_cases e : t = s
  ·subst e; simp
  ·rw [if_neg (by intro h; cases h; exact e rfl), ih]
   have : s ∈ t :: o ↔ s ∈ o := by simp [Ne.symm e]
   simp only [this]
/-- Key s has a new thing. -/
theorem mset_ent {f g : Int → AC} {s : Int} (hg : ∀ t, t ≠ s → g t = f t) : ∀ {o : List Int}, o.Nodup → mset (entK f o) (.int s) [g s] = entK g (if s ∈ o then o else o ++ [s])
 | [], _ => by simp [entK, mset]
 |t :: o, hn => by
  obtain ⟨h1, h2⟩ := List.nodup_cons.1 hn
  have ih := mset_ent hg (o := o) h2
  simp only [entK, List.map_cons, mset] at ih ⊢
  by_cases e : t = s
  ·subst e
   simp only [if_true, List.mem_cons, true_or, List.map_cons]
   congr 1
   exact List.map_congr_left fun u hu => by rw [hg u (fun e => h1 (e ▸ hu))]
  ·rw [if_neg (by intro h; cases h; exact e rfl), ih]
   have hm : s ∈ t :: o ↔ s ∈ o := by simp [Ne.symm e]
   by_cases hs : s ∈ o
   ·rw [if_pos hs, if_pos (hm.2 hs), List.map_cons, hg t e]
   ·rw [if_neg hs, if_neg (fun h => hs (hm.1 h)), List.cons_append, List.map_cons, hg t e]
theorem clEs_ent {N : Nat} {f : Int → AC} (h : ∀ s, clA N (f s)) : ∀ {o : List Int}, clEs N (entK f o)
 | [] => trivial
 | t :: o => ⟨⟨h t, trivial⟩, clEs_ent h⟩
theorem map_ent {f : Int → AC} {g : AC → AC} {o : List Int} : (entK f o).map (fun x => (x.1, x.2.map g)) = entK (fun s => g (f s)) o := by
 simp [entK, List.map_map, Function.comp_def]
theorem sgn_mem (c : Int) : c.sign = 0 ∨ c.sign = 1 ∨ c.sign = -1 := by
 rcases sgn_cases c with ⟨_, h⟩ | ⟨_, h⟩ | ⟨_, h⟩
 ·exact .inl h
 ·exact .inr (.inl h)
 ·exact .inr (.inr h)
theorem sgI_sign {s : Int} {n : ByteArray} {l : List Con} {m : Nat} (h : sgI s n l m ≠ []) : s = 0 ∨ s = 1 ∨ s = -1 := by
 obtain ⟨i, r, e⟩ := List.exists_cons_of_ne_nil h
 have hi : i ∈ sgI s n l m := by rw [e]; exact List.mem_cons_self
 have := (sgI_lt hi).2
 rw [← this]
 exact sgn_mem _
abbrev refK (s : Int) : AC := .ref (nmK s)
theorem ent_congr {f g : Int → AC} {o : List Int} (h : ∀ t ∈ o, f t = g t) : entK f o = entK g o := List.map_congr_left fun t ht => by rw [h t ht]
/-- The keys, with one more. -/
abbrev addK (o : List Int) (s : Int) : List Int := if s ∈ o then o else o ++ [s]
theorem addK_mem {o : List Int} {s t : Int} : t ∈ addK o s ↔ t ∈ o ∨ t = s := by
 unfold addK
 split
 ·rename_i h
  exact ⟨.inl, fun h' => h'.elim id fun e => e ▸ h⟩
 ·simp
theorem addK_nodup {o : List Int} {s : Int} (h : o.Nodup) : (addK o s).Nodup := by
 unfold addK
 split
 ·exact h
 ·rename_i h'
  exact List.nodup_append.2 ⟨h, by simp, fun a ha b hb => by rw [List.mem_singleton.1 hb]; exact fun e => h' (e ▸ ha)⟩
theorem mset_ren {o : List Int} {s : Int} {k : Nat} (hn : o.Nodup) (ho : ∀ t ∈ o, t = 0 ∨ t = 1 ∨ t = -1) (hs : s = 0 ∨ s = 1 ∨ s = -1) :
  mset (entK refK o) (.int s) [.ref k] = (entK refK (addK o s)).map fun x => (x.1, x.2.map (renA [(nmK s, k)])) := by
 have h1 := mset_ent (f := refK) (g := fun t => if t = s then .ref k else refK t) (s := s) (fun t ht => if_neg ht) hn
 simp only [if_true] at h1
 rw [h1, map_ent]
 refine ent_congr fun t ht => ?_
 have ht' : t = 0 ∨ t = 1 ∨ t = -1 := by
  rcases addK_mem.1 ht with h | h
  ·exact ho t h
  ·rw [h]; exact hs
 rcases ht' with rfl | rfl | rfl <;> rcases hs with rfl | rfl | rfl <;> simp [refK, renA, rn, nmK]
set_option maxHeartbeats 8000000 in
theorem elim_pairs_abs {l : List Con} {n : ByteArray} (hl : ∀ c ∈ l, linOk c.1.2 ∧ con64 c) (hs : tot l ≤ 400000000) (h256 : l.length ≤ 256) : PCalls Try.prog n_elim_pairs [aCons l, S n] (aDers (pairsS l n)) := by
 refine PCalls.of is_elim_pairs (by simp) fun _ => runW_sound ?_
 simp only [c_elim_pairs]
 unfold pairsS
 repeat' first | simp (disch := omega) only [go_sem, ↓reduceIte, Nat.reduceEqDiff, reduceCtorEq, Int.reduceEq] | ((with_reducible first | refine condD ?_ ?_ | refine condX ?_ ?_ | refine condW_intro ?_ ?_) <;> intro h <;> first | (exfalso; omega) | simp (disch := omega) only [go_sem, ↓reduceIte, Nat.reduceEqDiff, reduceCtorEq, Int.reduceEq, *] | skip)
 refine AW_ghost 3 1 (by decide) ?_
 refine AW_ghost 3 1 (by decide) ?_
 refine AW_ghost 3 1 (by decide) ?_
 refine AW_loop (fun s : Nat × List Int => ⟨[(0, aCons l), (1, S n), (6, .c (.mref 0)), (26, aCons l), (27, I l.length), (28, I s.1)], [(3, .arr 3 1 (natR (sgI (-1) n l s.1))), (2, .arr 3 1 (natR (sgI 1 n l s.1))), (1, .arr 3 1 (natR (sgI 0 n l s.1))), (0, .map (.int .i64) none (entK refK s.2))], 4, 0⟩)
  (fun s => s.1 ≤ l.length ∧ s.2.Nodup ∧ ∀ t, t ∈ s.2 ↔ sgI t n l s.1 ≠ []) (fun s => l.length - s.1) ⟨(0, []), [], ⟨Nat.zero_le _, by simp, by simp [sgI]⟩, by simp [Wk, wkF, wkM, wkL, look_cons, renV, renA, renC, renB, rn, clV, clA, clAs, clB, notIn, findB, findB_setB, clA.go, sgI, entK, clEs]⟩ ?_
 rintro ⟨i, o⟩ ⟨hi, hnd, ho⟩
 simp only at hi hnd ho
 refine runW_sound ?_
 have hos : ∀ t ∈ o, t = 0 ∨ t = 1 ∨ t = -1 := fun t ht => sgI_sign ((ho t).1 ht)
 have hcl : ∀ o, clEs 4 (entK refK o) := fun o => clEs_ent fun s => by show nmK s < 4; unfold nmK; split <;> (try split) <;> omega
 by_cases hlt : i < l.length
 ·have g1 := map_get (f := cP) hlt
  have hii := conAt_get hlt
  have e0 := sgI_succ (s := 0) (n := n) (l := l) (m := i)
  have e1 := sgI_succ (s := 1) (n := n) (l := l) (m := i)
  have e2 := sgI_succ (s := -1) (n := n) (l := l) (m := i)
  have hoo : ∀ s, (cf (conAt l i).1.2 n).sign = s → ∀ t, t ∈ addK o s ↔ sgI t n l (i + 1) ≠ [] := fun s hs t => by
   rw [addK_mem, ho t, sgI_succ, hs]
   by_cases e : s = t
   ·subst e; simp
   ·simp [e, Ne.symm e]
  have m0 := mlook_ent (f := refK) (s := 0) (o := o)
  have m1 := mlook_ent (f := refK) (s := 1) (o := o)
  have m2 := mlook_ent (f := refK) (s := -1) (o := o)
  have b0 := sgI_len (s := 0) (n := n) (l := l) (m := i)
  have b1 := sgI_len (s := 1) (n := n) (l := l) (m := i)
  have b2 := sgI_len (s := -1) (n := n) (l := l) (m := i)
  have o0 := ho 0
  have o1 := ho 1
  have o2 := ho (-1)
  have r0 := mset_ren (s := 0) (k := 5) hnd hos (by simp)
  have r1 := mset_ren (s := 1) (k := 5) hnd hos (by simp)
  have r2 := mset_ren (s := -1) (k := 5) hnd hos (by simp)
  generalize l[i] = z at *
  obtain ⟨⟨Kz, lz⟩, qz⟩ := z
  simp only [cP] at g1
  have pc := elim_coefficient_abs ((Kz, lz), qz) n
  simp only at pc
  have hic : cf (conAt l i).1.2 n = cf lz n := by rw [hii]
  rw [hic] at e0 e1 e2 hoo
  clear hic hii
  generalize cf lz n = d at *
  have HO := Lib.hid hoo
  clear hoo ho hos
  rcases sgn_cases d with ⟨h, h'⟩ | ⟨h, h'⟩ | ⟨h, h'⟩
  ·rw [h', if_pos rfl] at e0
   rw [h', if_neg (by decide)] at e1 e2
   have hoo := HO.out 0 h'
   have hcl' := hcl (addK o 0)
   clear h' HO m1 m2 o1 o2 r1 r2 hcl
   subst h
   by_cases hp : (0 : Int) ∈ o
   ·rw [if_pos hp] at m0
    rw [show refK 0 = .ref 1 from rfl] at m0
    clear hp o0
    generalize sgI 0 n l i = L0 at *
    generalize sgI 1 n l i = L1 at *
    generalize sgI (-1) n l i = L2 at *
    repeat' first | simp (disch := omega) only [go_sem, ↓reduceIte, Nat.reduceEqDiff, reduceCtorEq, Int.reduceEq, g1, m0, caseW_some, caseW_none, mval, mcells, mkOf, and_self, andW_true, wrap_i64] | ((with_reducible first | refine condD ?_ ?_ | refine condX ?_ ?_ | refine condW_intro ?_ ?_) <;> intro h <;> first | (exfalso; omega) | simp (disch := omega) only [go_sem, ↓reduceIte, Nat.reduceEqDiff, reduceCtorEq, Int.reduceEq, *, g1, m0, caseW_some, caseW_none, mval, mcells, mkOf, and_self, andW_true, wrap_i64] | skip) | (refine callW_of pc rfl (.inl rfl) ?_) | (refine app_own rfl (by intro h; cases h) (rowsOk_one rfl) (by simp; omega) (by simp; omega) ?_)
    refine ⟨(i + 1, addK o 0), [(1, 5)], ⟨hlt, addK_nodup hnd, hoo⟩, by show _ - _ < _ - _; omega, ?_⟩
    rw [r0]
    simp [Wk, wkF, wkM, wkL, look_cons, renV, renA, renC, renB, rn, clV, clA, clAs, clB, notIn, findB, findB_setB, clA.go, e0, e1, e2, hcl', nmK]
   ·rw [if_neg hp] at m0
    have hz : sgI 0 n l i = [] := Classical.byContradiction fun h => hp (o0.2 h)
    rw [hz] at e0
    clear hp o0
    generalize sgI 1 n l i = L1 at *
    generalize sgI (-1) n l i = L2 at *
    repeat' first | simp (disch := omega) only [go_sem, ↓reduceIte, Nat.reduceEqDiff, reduceCtorEq, Int.reduceEq, g1, m0, caseW_some, caseW_none, mval, mcells, mkOf, and_self, andW_true, wrap_i64] | ((with_reducible first | refine condD ?_ ?_ | refine condX ?_ ?_ | refine condW_intro ?_ ?_) <;> intro h <;> first | (exfalso; omega) | simp (disch := omega) only [go_sem, ↓reduceIte, Nat.reduceEqDiff, reduceCtorEq, Int.reduceEq, *, g1, m0, caseW_some, caseW_none, mval, mcells, mkOf, and_self, andW_true, wrap_i64] | skip) | (refine callW_of pc rfl (.inl rfl) ?_) | (refine app_nil (rowsOk_one rfl) (by simp) (by simp) ?_)
    refine ⟨(i + 1, addK o 0), [(1, 5)], ⟨hlt, addK_nodup hnd, hoo⟩, by show _ - _ < _ - _; omega, ?_⟩
    rw [r0]
    simp [Wk, wkF, wkM, wkL, look_cons, renV, renA, renC, renB, rn, clV, clA, clAs, clB, notIn, findB, findB_setB, clA.go, e0, e1, e2, hcl', nmK]
  ·rw [h', if_pos rfl] at e1
   rw [h', if_neg (by decide)] at e0 e2
   have hoo := HO.out 1 h'
   have hcl' := hcl (addK o 1)
   clear h' HO m0 m2 o0 o2 r0 r2 hcl
   have n0 : d > 0 := h
   by_cases hp : (1 : Int) ∈ o
   ·rw [if_pos hp] at m1
    rw [show refK 1 = .ref 2 from rfl] at m1
    clear hp o1
    generalize sgI 0 n l i = L0 at *
    generalize sgI 1 n l i = L1 at *
    generalize sgI (-1) n l i = L2 at *
    repeat' first | simp (disch := omega) only [go_sem, ↓reduceIte, Nat.reduceEqDiff, reduceCtorEq, Int.reduceEq, g1, n0, m1, caseW_some, caseW_none, mval, mcells, mkOf, and_self, andW_true, wrap_i64] | ((with_reducible first | refine condD ?_ ?_ | refine condX ?_ ?_ | refine condW_intro ?_ ?_) <;> intro h <;> first | (exfalso; omega) | simp (disch := omega) only [go_sem, ↓reduceIte, Nat.reduceEqDiff, reduceCtorEq, Int.reduceEq, *, g1, n0, m1, caseW_some, caseW_none, mval, mcells, mkOf, and_self, andW_true, wrap_i64] | skip) | (refine callW_of pc rfl (.inl rfl) ?_) | (refine app_own rfl (by intro h; cases h) (rowsOk_one rfl) (by simp; omega) (by simp; omega) ?_)
    refine ⟨(i + 1, addK o 1), [(2, 5)], ⟨hlt, addK_nodup hnd, hoo⟩, by show _ - _ < _ - _; omega, ?_⟩
    rw [r1]
    simp [Wk, wkF, wkM, wkL, look_cons, renV, renA, renC, renB, rn, clV, clA, clAs, clB, notIn, findB, findB_setB, clA.go, e0, e1, e2, hcl', nmK]
   ·rw [if_neg hp] at m1
    have hz : sgI 1 n l i = [] := Classical.byContradiction fun h => hp (o1.2 h)
    rw [hz] at e1
    clear hp o1
    generalize sgI 0 n l i = L0 at *
    generalize sgI (-1) n l i = L2 at *
    repeat' first | simp (disch := omega) only [go_sem, ↓reduceIte, Nat.reduceEqDiff, reduceCtorEq, Int.reduceEq, g1, n0, m1, caseW_some, caseW_none, mval, mcells, mkOf, and_self, andW_true, wrap_i64] | ((with_reducible first | refine condD ?_ ?_ | refine condX ?_ ?_ | refine condW_intro ?_ ?_) <;> intro h <;> first | (exfalso; omega) | simp (disch := omega) only [go_sem, ↓reduceIte, Nat.reduceEqDiff, reduceCtorEq, Int.reduceEq, *, g1, n0, m1, caseW_some, caseW_none, mval, mcells, mkOf, and_self, andW_true, wrap_i64] | skip) | (refine callW_of pc rfl (.inl rfl) ?_) | (refine app_nil (rowsOk_one rfl) (by simp) (by simp) ?_)
    refine ⟨(i + 1, addK o 1), [(2, 5)], ⟨hlt, addK_nodup hnd, hoo⟩, by show _ - _ < _ - _; omega, ?_⟩
    rw [r1]
    simp [Wk, wkF, wkM, wkL, look_cons, renV, renA, renC, renB, rn, clV, clA, clAs, clB, notIn, findB, findB_setB, clA.go, e0, e1, e2, hcl', nmK]
  ·rw [h', if_pos rfl] at e2
   rw [h', if_neg (by decide)] at e0 e1
   have hoo := HO.out (-1) h'
   have hcl' := hcl (addK o (-1))
   clear h' HO m0 m1 o0 o1 r0 r1 hcl
   have n0 : ¬ d > 0 := by omega
   have n1 : d < 0 := h
   by_cases hp : (-1 : Int) ∈ o
   ·rw [if_pos hp] at m2
    rw [show refK (-1) = .ref 3 from rfl] at m2
    clear hp o2
    generalize sgI 0 n l i = L0 at *
    generalize sgI 1 n l i = L1 at *
    generalize sgI (-1) n l i = L2 at *
    repeat' first | simp (disch := omega) only [go_sem, ↓reduceIte, Nat.reduceEqDiff, reduceCtorEq, Int.reduceEq, g1, n0, n1, m2, caseW_some, caseW_none, mval, mcells, mkOf, and_self, andW_true, wrap_i64] | ((with_reducible first | refine condD ?_ ?_ | refine condX ?_ ?_ | refine condW_intro ?_ ?_) <;> intro h <;> first | (exfalso; omega) | simp (disch := omega) only [go_sem, ↓reduceIte, Nat.reduceEqDiff, reduceCtorEq, Int.reduceEq, *, g1, n0, n1, m2, caseW_some, caseW_none, mval, mcells, mkOf, and_self, andW_true, wrap_i64] | skip) | (refine callW_of pc rfl (.inl rfl) ?_) | (refine app_own rfl (by intro h; cases h) (rowsOk_one rfl) (by simp; omega) (by simp; omega) ?_)
    refine ⟨(i + 1, addK o (-1)), [(3, 5)], ⟨hlt, addK_nodup hnd, hoo⟩, by show _ - _ < _ - _; omega, ?_⟩
    rw [r2]
    simp [Wk, wkF, wkM, wkL, look_cons, renV, renA, renC, renB, rn, clV, clA, clAs, clB, notIn, findB, findB_setB, clA.go, e0, e1, e2, hcl', nmK]
   ·rw [if_neg hp] at m2
    have hz : sgI (-1) n l i = [] := Classical.byContradiction fun h => hp (o2.2 h)
    rw [hz] at e2
    clear hp o2
    generalize sgI 0 n l i = L0 at *
    generalize sgI 1 n l i = L1 at *
    repeat' first | simp (disch := omega) only [go_sem, ↓reduceIte, Nat.reduceEqDiff, reduceCtorEq, Int.reduceEq, g1, n0, n1, m2, caseW_some, caseW_none, mval, mcells, mkOf, and_self, andW_true, wrap_i64] | ((with_reducible first | refine condD ?_ ?_ | refine condX ?_ ?_ | refine condW_intro ?_ ?_) <;> intro h <;> first | (exfalso; omega) | simp (disch := omega) only [go_sem, ↓reduceIte, Nat.reduceEqDiff, reduceCtorEq, Int.reduceEq, *, g1, n0, n1, m2, caseW_some, caseW_none, mval, mcells, mkOf, and_self, andW_true, wrap_i64] | skip) | (refine callW_of pc rfl (.inl rfl) ?_) | (refine app_nil (rowsOk_one rfl) (by simp) (by simp) ?_)
    refine ⟨(i + 1, addK o (-1)), [(3, 5)], ⟨hlt, addK_nodup hnd, hoo⟩, by show _ - _ < _ - _; omega, ?_⟩
    rw [r2]
    simp [Wk, wkF, wkM, wkL, look_cons, renV, renA, renC, renB, rn, clV, clA, clAs, clB, notIn, findB, findB_setB, clA.go, e0, e1, e2, hcl', nmK]
 ·obtain rfl : i = l.length := by omega
  have q0 : ∀ j ∈ sgI 0 n l l.length, j < l.length := fun j h => (sgI_lt h).1
  have q1 : ∀ j ∈ sgI 1 n l l.length, j < l.length ∧ (cf (conAt l j).1.2 n).sign = 1 := fun j h => sgI_lt h
  have q2 : ∀ j ∈ sgI (-1) n l l.length, j < l.length ∧ (cf (conAt l j).1.2 n).sign = -1 := fun j h => sgI_lt h
  have b0 := sgI_len (s := 0) (n := n) (l := l) (m := l.length)
  have b1 := sgI_len (s := 1) (n := n) (l := l) (m := l.length)
  have b2 := sgI_len (s := -1) (n := n) (l := l) (m := l.length)
  obtain ⟨pK, hpK⟩ : ∃ pK : Int → AC, pK = fun s => if s = 0 then .pure (.slice (natR (sgI 0 n l l.length))) else if s = 1 then .pure (.slice (natR (sgI 1 n l l.length))) else .pure (.slice (natR (sgI (-1) n l l.length))) := ⟨_, rfl⟩
  have look : ∀ s, (sgI s n l l.length = [] ∧ mlook (entK refK o) (.int s) = none ∧ mlook (entK pK o) (.int s) = none) ∨ (mlook (entK refK o) (.int s) = some [refK s] ∧ mlook (entK pK o) (.int s) = some [pK s]) := fun s => by
   rw [mlook_ent, mlook_ent]
   by_cases h : s ∈ o
   ·exact .inr ⟨if_pos h, if_pos h⟩
   ·exact .inl ⟨Classical.byContradiction fun h' => h ((ho s).2 h'), if_neg h, if_neg h⟩
  have c0 := look 0
  have c1 := look 1
  have c2 := look (-1)
  rw [show pK 0 = .pure (.slice (natR (sgI 0 n l l.length))) by rw [hpK]; rfl, show refK 0 = .ref 1 from rfl] at c0
  rw [show pK 1 = .pure (.slice (natR (sgI 1 n l l.length))) by rw [hpK]; rfl, show refK 1 = .ref 2 from rfl] at c1
  rw [show pK (-1) = .pure (.slice (natR (sgI (-1) n l l.length))) by rw [hpK]; rfl, show refK (-1) = .ref 3 from rfl] at c2
  have hfz : ((((entK refK o).map fun x => (x.1, x.2.map (frz1 1 (natR (sgI 0 n l l.length))))).map fun x => (x.1, x.2.map (frz1 2 (natR (sgI 1 n l l.length))))).map fun x => (x.1, x.2.map (frz1 3 (natR (sgI (-1) n l l.length))))) = entK pK o := by
   rw [map_ent, map_ent, map_ent]
   refine ent_congr fun t ht => ?_
   rw [hpK]
   rcases hos t ht with rfl | rfl | rfl <;> simp [refK, frz1, nmK]
  have hren : ∀ r, (entK pK o).map (fun x => (x.1, x.2.map (renA r))) = entK pK o := fun r => by
   rw [map_ent]
   refine ent_congr fun t ht => ?_
   rw [hpK]
   simp only
   split
   ·rfl
   ·split <;> rfl
  have hclE : ∀ N, clEs N (entK pK o) := fun N => clEs_ent fun s => by
   rw [hpK]
   simp only
   split
   ·trivial
   ·split <;> trivial
  clear look hpK hos ho hcl hnd
  generalize sgI 0 n l l.length = L0 at *
  generalize sgI 1 n l l.length = L1 at *
  generalize sgI (-1) n l l.length = L2 at *
  generalize entK pK o = E2 at *
  generalize entK refK o = E1 at *
  have hm : L1.length * L2.length ≤ 65536 := Nat.le_trans (Nat.mul_le_mul (Nat.le_trans b1 h256) (Nat.le_trans b2 h256)) (by decide)
  have hmi : (L1.length : Int) * (L2.length : Int) = ((L1.length * L2.length : Nat) : Int) := by simp
  have w1 : IntKind.wrap .i64 ((L1.length : Int) * (L2.length : Int)) = ((L1.length * L2.length : Nat) : Int) := by rw [hmi]; exact wrap_small (by omega) (by omega)
  unfold pairsT
  generalize L1.length * L2.length = P at *
  have w2 : IntKind.wrap .i64 ((L0.length : Int) + (P : Int)) = ((L0.length + P : Nat) : Int) := by rw [wrap_small (by omega) (by omega)]; omega
  clear hmi hi hlt
  have pd := fun (ts : List (Nat × Int)) (h : ∀ t ∈ ts, t.1 < l.length ∧ in64 t.2) => elim_derive_abs (ts := ts) (fun c hc => (hl c hc).2) hs (by omega) h
  by_cases hbig : 256 < L0.length + P
  ·rw [if_pos hbig]
   have hb : ((L0.length + P : Nat) : Int) > 256 := by omega
   generalize L0.length + P = Z at *
   clear hfz hren hclE pd
   rcases c0 with ⟨hL0, m0, n0⟩ | ⟨m0, n0⟩ <;> rcases c1 with ⟨hL1, m1, n1⟩ | ⟨m1, n1⟩ <;> rcases c2 with ⟨hL2, m2, n2⟩ | ⟨m2, n2⟩
   all_goals
    (try rw [hL0] at w2)
    (try rw [hL1] at w1)
    (try rw [hL2] at w1)
    (try simp only [List.length_nil, Int.natCast_zero] at w1 w2)
    (try clear hL0)
    (try clear hL1)
    (try clear hL2)
    clear n0 n1 n2
    repeat' first | simp (disch := omega) only [go_sem, ↓reduceIte, Nat.reduceEqDiff, reduceCtorEq, Int.reduceEq, m0, m1, m2, caseW_some, caseW_none, mval, mkOf, w1, w2, hb] | ((with_reducible first | refine condD ?_ ?_ | refine condX ?_ ?_ | refine condW_intro ?_ ?_) <;> intro h <;> first | (exfalso; omega) | simp (disch := omega) only [go_sem, ↓reduceIte, Nat.reduceEqDiff, reduceCtorEq, Int.reduceEq, *, m0, m1, m2, caseW_some, caseW_none, mval, mkOf, w1, w2, hb] | skip)
    all_goals rfl
  ·rw [if_neg hbig]
   have hb : ¬ ((L0.length + P : Nat) : Int) > 256 := by omega
   generalize hZ : L0.length + P = Z at *
   have hL0Z : L0.length ≤ 256 := by omega
   clear hZ hbig
   obtain ⟨R1, hR1⟩ : ∃ R1, R1 = runE (fun i => stepD l (units2 l.length i 1 i 1)) (L0.drop 0) [] := ⟨_, rfl⟩
   have hR10 : runE (fun i => stepD l (units2 l.length i 1 i 1)) L0 [] = R1 := hR1.symm
   rw [hR10]
   have HR1 := Lib.hid hR1
   clear hR1 hR10
   rcases c0 with ⟨hL0, m0, n0⟩ | ⟨m0, n0⟩ <;> rcases c1 with ⟨hL1, m1, n1⟩ | ⟨m1, n1⟩ <;> rcases c2 with ⟨hL2, m2, n2⟩ | ⟨m2, n2⟩
   all_goals
    (try rw [hL0] at w2)
    (try rw [hL1] at w1)
    (try rw [hL2] at w1)
    (try simp only [List.length_nil, Int.natCast_zero] at w1 w2)
    (try have HL0 := Lib.hid hL0)
    (try have HL1 := Lib.hid hL1)
    (try have HL2 := Lib.hid hL2)
    (try clear hL0)
    (try clear hL1)
    (try clear hL2)
    repeat' first | simp (disch := omega) only [go_sem, ↓reduceIte, Nat.reduceEqDiff, reduceCtorEq, Int.reduceEq, m0, m1, m2, caseW_some, caseW_none, mval, mkOf, w1, w2, hb] | ((with_reducible first | refine condD ?_ ?_ | refine condX ?_ ?_ | refine condW_intro ?_ ?_) <;> intro h <;> first | (exfalso; omega) | simp (disch := omega) only [go_sem, ↓reduceIte, Nat.reduceEqDiff, reduceCtorEq, Int.reduceEq, *, m0, m1, m2, caseW_some, caseW_none, mval, mkOf, w1, w2, hb] | skip)
    clear w1 w2 hb m0 m1 m2
    refine AW_adopt 11 64 4 rfl (by decide) ?_
    refine AW_frz1 1 3 1 _ rfl ?_
    refine AW_frz1 2 3 1 _ rfl ?_
    refine AW_frz1 3 3 1 _ rfl ?_
    refine AW_mem (mem' := [(4, .arr 64 4 []), (0, .map (.int .i64) none E2)]) (by simp [-List.map_map, frzM, frzB, hfz]) ?_
    clear hfz
    first
    | refine AW_nilF 64 rfl ?_
    | skip
    refine AW_loop (fun s : Nat × List Row => ⟨[(0, aCons l), (1, S n), (6, .c (.mref 0)), (11, .c (.ref 1)), (64, .c (.pure (.slice (natR L0)))), (65, I L0.length), (66, I s.1)], [(1, .arr 64 4 (s.2.map rCells)), (0, .map (.int .i64) none E2)], 2, 0⟩)
     (fun s => s.1 ≤ L0.length ∧ s.2.length ≤ s.1 ∧ Hid (R1 = runE (fun i => stepD l (units2 l.length i 1 i 1)) (L0.drop s.1) s.2)) (fun s => L0.length - s.1) ⟨(0, []), [(1, 4)], ⟨Nat.zero_le _, Nat.le_refl _, HR1⟩, by first | (simp [Wk, wkF, wkM, wkL, look_cons, renV, renA, renC, renB, rn, clV, clA, clAs, clB, notIn, findB, findB_setB, clA.go, frzF, frzV, frz1, hren, hclE]; done) | (rw [HL0.out]; simp [Wk, wkF, wkM, wkL, look_cons, renV, renA, renC, renB, rn, clV, clA, clAs, clB, notIn, findB, findB_setB, clA.go, frzF, frzV, frz1, hren, hclE])⟩ ?_
    clear HR1
    rintro ⟨j, acc⟩ ⟨hj, hacc, HR1⟩
    simp only at hj hacc HR1
    refine runW_sound ?_
    by_cases hlj : j < L0.length
    ·have g0 := map_get (f := fun (i : Nat) => [pI (i : Int)]) hlj
     have hlt := q0 _ (List.getElem_mem hlj)
     have h2 := HR1.out
     rw [list_drop hlj, runE_cons] at h2
     clear HR1
     generalize L0[j] = i at *
     rw [step_unit hl hlt, if_neg (by simp)] at h2
     have g1 := map_get (f := cP) hlt
     have pd := pd [(i, 1)] (by simp; exact ⟨hlt, by simp [in64]⟩)
     rw [byT_one, units_one, der_unit hlt hl] at pd
     rw [units_one] at h2
     generalize unitB l.length i = b at *
     generalize l[i] = z at *
     obtain ⟨⟨Kz, lz⟩, qz⟩ := z
     simp only [cP] at g1
     simp only at h2
     have HR1 := Lib.hid h2
     clear h2 n1 n2
     repeat' first | simp (disch := omega) only [go_sem, ↓reduceIte, Nat.reduceEqDiff, reduceCtorEq, Int.reduceEq, g0, g1, wrap_i64] | ((with_reducible first | refine condD ?_ ?_ | refine condX ?_ ?_ | refine condW_intro ?_ ?_) <;> intro h <;> first | (exfalso; omega) | simp (disch := omega) only [go_sem, ↓reduceIte, Nat.reduceEqDiff, reduceCtorEq, Int.reduceEq, *, g0, g1, wrap_i64] | skip) | (refine callW_of pd rfl (.inr rfl) ?_) | (refine app_own rfl (by intro h; cases h) (rowsOk_one rfl) (by simp; omega) (by simp; omega) ?_)
     exact ⟨(j + 1, acc ++ [(((Kz, lz), qz), b)]), [(1, 3)], ⟨hlj, by simp; omega, HR1⟩, by show _ - _ < _ - _; omega, by simp [Wk, wkF, wkM, wkL, look_cons, renV, renA, renC, renB, rn, clV, clA, clAs, clB, notIn, findB, findB_setB, clA.go, hren, hclE]⟩
    ·have h2 := HR1.out
     rw [List.drop_eq_nil_of_le (by omega), runE] at h2
     subst h2
     clear HR1
     rw [if_neg (by simp)]
     simp only
     obtain ⟨R, hR⟩ : ∃ R, R = runE (fun i => runE (fun k => stepU l n i k) L2) (L1.drop 0) acc := ⟨_, rfl⟩
     have hR0 : runE (fun i => runE (fun k => stepU l n i k) L2) L1 acc = R := hR.symm
     rw [hR0]
     have HR := Lib.hid hR
     clear hR hR0
     have hacc0 : acc.length ≤ 256 := by omega
     repeat' first | simp (disch := omega) only [go_sem, ↓reduceIte, Nat.reduceEqDiff, reduceCtorEq, Int.reduceEq, n1, caseW_some, caseW_none, mval, mkOf] | ((with_reducible first | refine condD ?_ ?_ | refine condX ?_ ?_ | refine condW_intro ?_ ?_) <;> intro h <;> first | (exfalso; omega) | simp (disch := omega) only [go_sem, ↓reduceIte, Nat.reduceEqDiff, reduceCtorEq, Int.reduceEq, *, n1, caseW_some, caseW_none, mval, mkOf] | skip)
     clear hj hacc hlj n1
     first
     | refine AW_nilF 87 rfl ?_
     | skip
     refine AW_loop (fun s : Nat × List Row => ⟨[(0, aCons l), (1, S n), (6, .c (.mref 0)), (11, .c (.ref 1)), (87, .c (.pure (.slice (natR L1)))), (88, I L1.length), (89, I s.1)], [(1, .arr 64 4 (s.2.map rCells)), (0, .map (.int .i64) none E2)], 2, 0⟩)
      (fun s => s.1 ≤ L1.length ∧ s.2.length ≤ 256 + s.1 * 256 ∧ Hid (R = runE (fun i => runE (fun k => stepU l n i k) L2) (L1.drop s.1) s.2)) (fun s => L1.length - s.1) ⟨(0, acc), [], ⟨Nat.zero_le _, by simp only; omega, HR⟩, by first | (simp [Wk, wkF, wkM, wkL, look_cons, renV, renA, renC, renB, rn, clV, clA, clAs, clB, notIn, findB, findB_setB, clA.go, hren, hclE]; done) | (rw [HL1.out]; simp [Wk, wkF, wkM, wkL, look_cons, renV, renA, renC, renB, rn, clV, clA, clAs, clB, notIn, findB, findB_setB, clA.go, hren, hclE])⟩ ?_
     clear HR hacc0
     rintro ⟨j, acc⟩ ⟨hj, hacc, HR⟩
     simp only at hj hacc HR
     refine runW_sound ?_
     by_cases hlj : j < L1.length
     ·have gj := map_get (f := fun (i : Nat) => [pI (i : Int)]) hlj
      obtain ⟨hlt, hsg⟩ := q1 _ (List.getElem_mem hlj)
      have h2 := HR.out
      rw [list_drop hlj, runE_cons] at h2
      clear HR
      generalize L1[j] = i at *
      obtain ⟨E, hE⟩ : ∃ E, E = runE (fun k => stepU l n i k) (L2.drop 0) acc := ⟨_, rfl⟩
      have hE0 : runE (fun k => stepU l n i k) L2 acc = E := hE.symm
      rw [hE0] at h2
      have HE := Lib.hid hE
      have HR := Lib.hid h2
      clear hE hE0 h2
      have g1 := map_get (f := cP) hlt
      have hii := conAt_get hlt
      have hci := (hl _ (List.getElem_mem hlt)).2
      generalize l[i] = z at *
      obtain ⟨⟨Ki, li⟩, qi⟩ := z
      simp only [cP] at g1
      have pci := elim_coefficient_abs ((Ki, li), qi) n
      simp only at pci
      have hpi : in64 (cf li n) := cf_64 hci.2 n
      have hici : cf (conAt l i).1.2 n = cf li n := by rw [hii]
      have hne2 : ∀ k, (cf (conAt l k).1.2 n).sign = -1 → i ≠ k := fun k hk e => by
       subst e
       rw [hsg] at hk
       exact absurd hk (by decide)
      rw [hici] at hsg
      generalize cf li n = ca at *
      clear hii
      have hca : ca ≠ 0 := by intro h; rw [h] at hsg; cases hsg
      repeat' first | simp (disch := omega) only [go_sem, ↓reduceIte, Nat.reduceEqDiff, reduceCtorEq, Int.reduceEq, gj, n2, caseW_some, caseW_none, mval, mkOf] | ((with_reducible first | refine condD ?_ ?_ | refine condX ?_ ?_ | refine condW_intro ?_ ?_) <;> intro h <;> first | (exfalso; omega) | simp (disch := omega) only [go_sem, ↓reduceIte, Nat.reduceEqDiff, reduceCtorEq, Int.reduceEq, *, gj, n2, caseW_some, caseW_none, mval, mkOf] | skip)
      first
      | refine AW_nilF 94 rfl ?_
      | skip
      refine AW_loop (fun s : Nat × List Row => ⟨[(0, aCons l), (1, S n), (6, .c (.mref 0)), (11, .c (.ref 1)), (17, I i), (87, .c (.pure (.slice (natR L1)))), (88, I L1.length), (89, I j), (94, .c (.pure (.slice (natR L2)))), (95, I L2.length), (96, I s.1)], [(1, .arr 64 4 (s.2.map rCells)), (0, .map (.int .i64) none E2)], 2, 0⟩)
       (fun s => s.1 ≤ L2.length ∧ s.2.length ≤ 256 + j * 256 + s.1 ∧ Hid (E = runE (fun k => stepU l n i k) (L2.drop s.1) s.2)) (fun s => L2.length - s.1) ⟨(0, acc), [], ⟨Nat.zero_le _, by simp only; omega, HE⟩, by first | (simp [Wk, wkF, wkM, wkL, look_cons, renV, renA, renC, renB, rn, clV, clA, clAs, clB, notIn, findB, findB_setB, clA.go, hren, hclE]; done) | (rw [HL2.out]; simp [Wk, wkF, wkM, wkL, look_cons, renV, renA, renC, renB, rn, clV, clA, clAs, clB, notIn, findB, findB_setB, clA.go, hren, hclE])⟩ ?_
      clear HE hacc
      rintro ⟨k, acc⟩ ⟨hk, hacc, HE⟩
      simp only at hk hacc HE
      refine runW_sound ?_
      by_cases hlk : k < L2.length
      ·have gk := map_get (f := fun (i : Nat) => [pI (i : Int)]) hlk
       obtain ⟨hlt2, hsg2⟩ := q2 _ (List.getElem_mem hlk)
       have h2 := HE.out
       rw [list_drop hlk, runE_cons] at h2
       clear HE
       generalize L2[k] = i2 at *
       have hne := hne2 _ hsg2
       have g2 := map_get (f := cP) hlt2
       have hii2 := conAt_get hlt2
       have hci2 := (hl _ (List.getElem_mem hlt2)).2
       generalize l[i2] = z at *
       obtain ⟨⟨K2, l2⟩, qq2⟩ := z
       simp only [cP] at g2
       have pc2 := elim_coefficient_abs ((K2, l2), qq2) n
       simp only at pc2
       have hp2 : in64 (cf l2 n) := cf_64 hci2.2 n
       have hici2 : cf (conAt l i2).1.2 n = cf l2 n := by rw [hii2]
       generalize cf l2 n = cb at *
       clear hii2 hsg2 hne2
       have pf := elim_factorsX_abs hpi hp2 hca
       have hs0 : stepU l n i i2 acc = if (factorsX ca cb).2.2 = false then ([], 3) else stepD l (units2 l.length i (factorsX ca cb).1 i2 (factorsX ca cb).2.1) acc := by rw [stepU, hici, hici2]
       rw [hs0] at h2
       clear hs0 hici2
       have hx64 : in64 (factorsX ca cb).1 := sgnE_64 _ _
       have hy64 : in64 (factorsX ca cb).2.1 := sgnE_64 _ _
       generalize factorsX ca cb = X at *
       obtain ⟨x, y, ok⟩ := X
       simp only at h2 hx64 hy64 pf
       have hj256 : j ≤ 256 := by omega
       cases ok
       ·rw [if_pos rfl, if_pos (by simp)] at h2
        subst h2
        have h3 := HR.out
        rw [if_pos (by simp)] at h3
        subst h3
        clear HR pd n2
        repeat' first | simp (disch := omega) only [go_sem, ↓reduceIte, Nat.reduceEqDiff, reduceCtorEq, Int.reduceEq, gj, g1, gk, g2, wrap_i64] | ((with_reducible first | refine condD ?_ ?_ | refine condX ?_ ?_ | refine condW_intro ?_ ?_) <;> intro h <;> first | (exfalso; omega) | simp (disch := omega) only [go_sem, ↓reduceIte, Nat.reduceEqDiff, reduceCtorEq, Int.reduceEq, *, gj, g1, gk, g2, wrap_i64] | skip) | (refine callW_of pci rfl (.inl rfl) ?_) | (refine callW_of pc2 rfl (.inl rfl) ?_) | (refine callW_of pf rfl (.inl rfl) ?_)
        all_goals rfl
       ·have hft : ¬ (true = false) := by simp
        rw [if_neg hft] at h2
        clear hft
        have pd := pd [(i, x), (i2, y)] (by simp; exact ⟨⟨hlt, hx64⟩, hlt2, hy64⟩)
        rw [byT_two hne] at pd
        unfold stepD at h2
        generalize derS l (units2 l.length i x i2 y) = D at *
        obtain ⟨⟨⟨⟨dk, dl⟩, dq⟩, db⟩, e⟩ := D
        simp only at h2
        by_cases he : e = 0
        ·subst he
         have h00 : ¬ ((0 : Int) ≠ 0) := by simp
         rw [if_neg h00] at h2
         simp only at h2
         rw [if_neg h00] at h2
         have HE := Lib.hid h2
         clear h2 h00 n2
         repeat' first | simp (disch := omega) only [go_sem, ↓reduceIte, Nat.reduceEqDiff, reduceCtorEq, Int.reduceEq, gj, g1, gk, g2, wrap_i64] | ((with_reducible first | refine condD ?_ ?_ | refine condX ?_ ?_ | refine condW_intro ?_ ?_) <;> intro h <;> first | (exfalso; omega) | simp (disch := omega) only [go_sem, ↓reduceIte, Nat.reduceEqDiff, reduceCtorEq, Int.reduceEq, *, gj, g1, gk, g2, wrap_i64] | skip) | (refine callW_of pci rfl (.inl rfl) ?_) | (refine callW_of pc2 rfl (.inl rfl) ?_) | (refine callW_of pf rfl (.inl rfl) ?_) | (refine callW_of pd rfl (.inr rfl) ?_) | (refine app_own rfl (by intro h; cases h) (rowsOk_one rfl) (by simp; omega) (by simp; omega) ?_)
         exact ⟨(k + 1, acc ++ [(((dk, dl), dq), db)]), [(1, 3)], ⟨hlk, by simp; omega, HE⟩, by show _ - _ < _ - _; omega, by simp [Wk, wkF, wkM, wkL, look_cons, renV, renA, renC, renB, rn, clV, clA, clAs, clB, notIn, findB, findB_setB, clA.go, hren, hclE]⟩
        ·rw [if_pos he] at h2
         simp only at h2
         rw [if_pos he] at h2
         subst h2
         have h3 := HR.out
         rw [if_pos he] at h3
         subst h3
         clear HR n2
         repeat' first | simp (disch := omega) only [go_sem, ↓reduceIte, Nat.reduceEqDiff, reduceCtorEq, Int.reduceEq, gj, g1, gk, g2, wrap_i64, he] | ((with_reducible first | refine condD ?_ ?_ | refine condX ?_ ?_ | refine condW_intro ?_ ?_) <;> intro h <;> first | (exfalso; omega) | simp (disch := omega) only [go_sem, ↓reduceIte, Nat.reduceEqDiff, reduceCtorEq, Int.reduceEq, *, gj, g1, gk, g2, wrap_i64, he] | skip) | (refine callW_of pci rfl (.inl rfl) ?_) | (refine callW_of pc2 rfl (.inl rfl) ?_) | (refine callW_of pf rfl (.inl rfl) ?_) | (refine callW_of pd rfl (.inr rfl) ?_)
         all_goals rfl
      ·have h2 := HE.out
       rw [List.drop_eq_nil_of_le (by omega), runE] at h2
       subst h2
       have h3 := HR.out
       rw [if_neg (by simp)] at h3
       have HR := Lib.hid h3
       clear HE h3
       repeat' first | simp (disch := omega) only [go_sem, ↓reduceIte, Nat.reduceEqDiff, reduceCtorEq, Int.reduceEq, wrap_i64] | ((with_reducible first | refine condD ?_ ?_ | refine condX ?_ ?_ | refine condW_intro ?_ ?_) <;> intro h <;> first | (exfalso; omega) | simp (disch := omega) only [go_sem, ↓reduceIte, Nat.reduceEqDiff, reduceCtorEq, Int.reduceEq, *, wrap_i64] | skip)
       exact ⟨(j + 1, acc), [], ⟨hlj, by simp only; omega, HR⟩, by show _ - _ < _ - _; omega, by simp [Wk, wkF, wkM, wkL, look_cons, renV, renA, renC, renB, rn, clV, clA, clAs, clB, notIn, findB, findB_setB, clA.go, hren, hclE]⟩
     ·have h2 := HR.out
      rw [List.drop_eq_nil_of_le (by omega), runE] at h2
      subst h2
      clear HR
      repeat' first | simp (disch := omega) only [go_sem, ↓reduceIte, Nat.reduceEqDiff, reduceCtorEq, Int.reduceEq] | ((with_reducible first | refine condD ?_ ?_ | refine condX ?_ ?_ | refine condW_intro ?_ ?_) <;> intro h <;> first | (exfalso; omega) | simp (disch := omega) only [go_sem, ↓reduceIte, Nat.reduceEqDiff, reduceCtorEq, Int.reduceEq, *] | skip)
      all_goals rfl

set_option maxHeartbeats 2000000 in
theorem elim_Eliminate_abs {l : List Con} {n : ByteArray} (hl : ∀ c ∈ l, con64 c) (hs : tot l ≤ 400000000) : PCalls Try.prog n_elim_Eliminate [aCons l, S n] (aDers (elimS l n)) := by
 refine PCalls.of is_elim_Eliminate (by simp) fun _ => runW_sound ?_
 simp only [c_elim_Eliminate]
 unfold elimS
 by_cases h256 : 256 < l.length
 ·rw [if_pos h256]
  have hb : (l.length : Int) > 256 := by omega
  repeat' first | simp (disch := omega) only [go_sem, ↓reduceIte, Nat.reduceEqDiff, reduceCtorEq, Int.reduceEq, hb] | ((with_reducible first | refine condD ?_ ?_ | refine condX ?_ ?_ | refine condW_intro ?_ ?_) <;> intro h <;> first | (exfalso; omega) | simp (disch := omega) only [go_sem, ↓reduceIte, Nat.reduceEqDiff, reduceCtorEq, Int.reduceEq, *, hb] | skip)
  all_goals rfl
 ·rw [if_neg h256]
  have hb : ¬ (l.length : Int) > 256 := by omega
  have pi := elim_identifier_abs n
  obtain ⟨R, hR⟩ : ∃ R, R = elimT l n := ⟨_, rfl⟩
  rw [← hR]
  have HR := Lib.hid hR
  clear hR
  repeat' first | simp (disch := omega) only [go_sem, ↓reduceIte, Nat.reduceEqDiff, reduceCtorEq, Int.reduceEq, hb] | ((with_reducible first | refine condD ?_ ?_ | refine condX ?_ ?_ | refine condW_intro ?_ ?_) <;> intro h <;> first | (exfalso; omega) | simp (disch := omega) only [go_sem, ↓reduceIte, Nat.reduceEqDiff, reduceCtorEq, Int.reduceEq, *, hb] | skip)
  refine AW_loop (fun s : Nat × Option Nat => ⟨[(0, aCons l), (1, S n), (6, I (match s.2 with | some k => (k : Int) | none => -1)), (12, aCons l), (13, I l.length), (14, I s.1)], [], 0, 0⟩)
   (fun s => s.1 ≤ l.length ∧ Hid (∀ c ∈ l.take s.1, linOk c.1.2) ∧ Hid (eqIx n 0 l = match s.2 with | some k => some k | none => eqIx n s.1 (l.drop s.1))) (fun s => l.length - s.1) ⟨(0, none), [], ⟨Nat.zero_le _, Lib.hid (by simp), Lib.hid rfl⟩, by simp [Wk, wkF, wkM, wkL, look_cons, renV, renA, renC, renB, rn, clV, clA, clAs, clB, notIn, findB, findB_setB, clA.go]⟩ ?_
  rintro ⟨i, o⟩ ⟨hi, HA, HE⟩
  simp only at hi HA HE
  refine runW_sound ?_
  by_cases hlt : i < l.length
  ·have g1 := map_get (f := cP) hlt
   have pv := constraint_Validate_abs l[i]
   by_cases hok : linOk l[i].1.2
   ·rw [if_pos hok] at pv
    have HA' : Hid (∀ c ∈ l.take (i + 1), linOk c.1.2) := Lib.hid (by
     rw [List.take_succ_eq_append_getElem hlt]
     intro c hc
     rcases List.mem_append.1 hc with h | h
     ·exact HA.out c h
     ·rw [List.mem_singleton.1 h]; exact hok)
    have h2 := HE.out
    clear HA HE hok
    cases o with
    | some k =>
     have HE := Lib.hid h2
     clear h2
     generalize l[i] = z at *
     obtain ⟨⟨Kz, lz⟩, qz⟩ := z
     simp only [cP] at g1
     have hk : ¬ (k : Int) < 0 := by omega
     repeat' first | simp (disch := omega) only [go_sem, ↓reduceIte, Nat.reduceEqDiff, reduceCtorEq, Int.reduceEq, g1, hk, wrap_i64] | ((with_reducible first | refine condD ?_ ?_ | refine condX ?_ ?_ | refine condW_intro ?_ ?_) <;> intro h <;> first | (exfalso; omega) | simp (disch := omega) only [go_sem, ↓reduceIte, Nat.reduceEqDiff, reduceCtorEq, Int.reduceEq, *, g1, hk, wrap_i64] | skip) | (refine callW_of pv rfl (.inl rfl) ?_)
     all_goals exact ⟨(i + 1, some k), [], ⟨hlt, HA', HE⟩, by show _ - _ < _ - _; omega, by simp [Wk, wkF, wkM, wkL, look_cons, renV, renA, renC, renB, rn, clV, clA, clAs, clB, notIn, findB, findB_setB, clA.go]⟩
    | none =>
     simp only at h2
     rw [eqIx_drop hlt] at h2
     generalize l[i] = z at *
     obtain ⟨⟨Kz, lz⟩, qz⟩ := z
     simp only [cP] at g1
     have pc := elim_coefficient_abs ((Kz, lz), qz) n
     simp only at pc h2
     generalize cf lz n = d at *
     cases qz
     ·rw [if_neg (by simp)] at h2
      have HE := Lib.hid h2
      clear h2 pc
      repeat' first | simp (disch := omega) only [go_sem, ↓reduceIte, Nat.reduceEqDiff, reduceCtorEq, Int.reduceEq, g1, wrap_i64] | ((with_reducible first | refine condD ?_ ?_ | refine condX ?_ ?_ | refine condW_intro ?_ ?_) <;> intro h <;> first | (exfalso; omega) | simp (disch := omega) only [go_sem, ↓reduceIte, Nat.reduceEqDiff, reduceCtorEq, Int.reduceEq, *, g1, wrap_i64] | skip) | (refine callW_of pv rfl (.inl rfl) ?_)
      all_goals exact ⟨(i + 1, none), [], ⟨hlt, HA', HE⟩, by show _ - _ < _ - _; omega, by simp [Wk, wkF, wkM, wkL, look_cons, renV, renA, renC, renB, rn, clV, clA, clAs, clB, notIn, findB, findB_setB, clA.go]⟩
     ·by_cases hd : d = 0
      ·subst hd
       rw [if_neg (by simp)] at h2
       have HE := Lib.hid h2
       clear h2
       repeat' first | simp (disch := omega) only [go_sem, ↓reduceIte, Nat.reduceEqDiff, reduceCtorEq, Int.reduceEq, g1, wrap_i64] | ((with_reducible first | refine condD ?_ ?_ | refine condX ?_ ?_ | refine condW_intro ?_ ?_) <;> intro h <;> first | (exfalso; omega) | simp (disch := omega) only [go_sem, ↓reduceIte, Nat.reduceEqDiff, reduceCtorEq, Int.reduceEq, *, g1, wrap_i64] | skip) | (refine callW_of pv rfl (.inl rfl) ?_) | (refine callW_of pc rfl (.inl rfl) ?_)
       all_goals exact ⟨(i + 1, none), [], ⟨hlt, HA', HE⟩, by show _ - _ < _ - _; omega, by simp [Wk, wkF, wkM, wkL, look_cons, renV, renA, renC, renB, rn, clV, clA, clAs, clB, notIn, findB, findB_setB, clA.go]⟩
      ·rw [if_pos ⟨rfl, hd⟩] at h2
       have HE := Lib.hid h2
       clear h2
       repeat' first | simp (disch := omega) only [go_sem, ↓reduceIte, Nat.reduceEqDiff, reduceCtorEq, Int.reduceEq, g1, hd, wrap_i64] | ((with_reducible first | refine condD ?_ ?_ | refine condX ?_ ?_ | refine condW_intro ?_ ?_) <;> intro h <;> first | (exfalso; omega) | simp (disch := omega) only [go_sem, ↓reduceIte, Nat.reduceEqDiff, reduceCtorEq, Int.reduceEq, *, g1, hd, wrap_i64] | skip) | (refine callW_of pv rfl (.inl rfl) ?_) | (refine callW_of pc rfl (.inl rfl) ?_)
       all_goals exact ⟨(i + 1, some i), [], ⟨hlt, HA', HE⟩, by show _ - _ < _ - _; omega, by simp [Wk, wkF, wkM, wkL, look_cons, renV, renA, renC, renB, rn, clV, clA, clAs, clB, notIn, findB, findB_setB, clA.go]⟩
   ·rw [if_neg hok] at pv
    have h2 := HR.out
    rw [elimT, if_pos (.inl fun h => hok (h _ (List.getElem_mem hlt)))] at h2
    subst h2
    clear HA HE HR hok
    generalize l[i] = z at *
    obtain ⟨⟨Kz, lz⟩, qz⟩ := z
    simp only [cP] at g1
    repeat' first | simp (disch := omega) only [go_sem, ↓reduceIte, Nat.reduceEqDiff, reduceCtorEq, Int.reduceEq, g1, wrap_i64] | ((with_reducible first | refine condD ?_ ?_ | refine condX ?_ ?_ | refine condW_intro ?_ ?_) <;> intro h <;> first | (exfalso; omega) | simp (disch := omega) only [go_sem, ↓reduceIte, Nat.reduceEqDiff, reduceCtorEq, Int.reduceEq, *, g1, wrap_i64] | skip) | (refine callW_of pv rfl (.inl rfl) ?_)
    all_goals rfl
  ·have hall := HA.out
   rw [List.take_of_length_le (by omega)] at hall
   have h2 := HE.out
   have h3 := HR.out
   rw [elimT] at h3
   clear HA HE HR
   by_cases hn : idOk n
   ·rw [decide_eq_true hn] at pi
    rw [if_neg (by rintro (h | h); exact h hall; exact h hn)] at h3
    have hlc : ∀ c ∈ l, linOk c.1.2 ∧ con64 c := fun c hc => ⟨hall c hc, hl c hc⟩
    cases o with
    | some k =>
     simp only at h2
     rw [h2] at h3
     simp only at h3
     obtain ⟨h4, h5⟩ := eqIx_some h2
     have ps := elim_solve_abs (n := n) hlc hs (by omega) (by omega : k < l.length)
     subst h3
     clear h2 h5 h4 hall hn hlc
     generalize solveS l n k = D at *
     have hk : (k : Int) ≥ 0 := by omega
     repeat' first | simp (disch := omega) only [go_sem, ↓reduceIte, Nat.reduceEqDiff, reduceCtorEq, Int.reduceEq, hk] | ((with_reducible first | refine condD ?_ ?_ | refine condX ?_ ?_ | refine condW_intro ?_ ?_) <;> intro h <;> first | (exfalso; omega) | simp (disch := omega) only [go_sem, ↓reduceIte, Nat.reduceEqDiff, reduceCtorEq, Int.reduceEq, *, hk] | skip) | (refine callW_of pi rfl (.inl rfl) ?_) | (refine callW_of ps rfl (.inr rfl) ?_)
     all_goals rfl
    | none =>
     simp only at h2
     rw [List.drop_eq_nil_of_le (by omega), eqIx] at h2
     rw [h2] at h3
     simp only at h3
     have ps := elim_pairs_abs (n := n) hlc hs (by omega)
     subst h3
     clear h2 hall hn hlc
     generalize pairsS l n = D at *
     repeat' first | simp (disch := omega) only [go_sem, ↓reduceIte, Nat.reduceEqDiff, reduceCtorEq, Int.reduceEq] | ((with_reducible first | refine condD ?_ ?_ | refine condX ?_ ?_ | refine condW_intro ?_ ?_) <;> intro h <;> first | (exfalso; omega) | simp (disch := omega) only [go_sem, ↓reduceIte, Nat.reduceEqDiff, reduceCtorEq, Int.reduceEq, *] | skip) | (refine callW_of pi rfl (.inl rfl) ?_) | (refine callW_of ps rfl (.inr rfl) ?_)
     all_goals rfl
   ·rw [decide_eq_false hn] at pi
    rw [if_pos (.inr hn)] at h3
    subst h3
    clear h2 hall hn
    repeat' first | simp (disch := omega) only [go_sem, ↓reduceIte, Nat.reduceEqDiff, reduceCtorEq, Int.reduceEq] | ((with_reducible first | refine condD ?_ ?_ | refine condX ?_ ?_ | refine condW_intro ?_ ?_) <;> intro h <;> first | (exfalso; omega) | simp (disch := omega) only [go_sem, ↓reduceIte, Nat.reduceEqDiff, reduceCtorEq, Int.reduceEq, *] | skip) | (refine callW_of pi rfl (.inl rfl) ?_)
    all_goals rfl
end Go.Proofs.Ytnddmjhpplopbaa
