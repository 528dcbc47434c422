/- Walks by the abstract machine: fractions made and compared. The law ElimExact as a contract of the abstract machine. The law ElimExact as a contract of the abstract machine. -/
import Derived.Test.YtnddmjhpplopbaaPlain07l
import Derived.Test.YtnddmjhpplopbaaPlainFr
import Derived.Test.YtnddmjhpplopbaaV07g
import Derived.Test.YtnddmjhpplopbaaR07e
import Derived.Test.YtnddmjhpplopbaaN07a
import Derived.Test.YtnddmjhpplopbaaIn7
import Derived.Test.YtnddmjhpplopbaaCodesLX
set_option linter.unusedVariables false
set_option linter.unusedSimpArgs false
set_option maxRecDepth 20000
namespace Go.Proofs.Ytnddmjhpplopbaa
open Go.Abs Go.RowKit

abbrev aFr (a : Fr) : AV := .agg [.pure (pI a.1), .pure (pI a.2)]
abbrev aFrE (x : Fr × Int) : AV := .tup [aFr x.1, I x.2]
theorem frac_gcd_abs (a b : Nat) : PCalls Try.prog n_frac_gcd [U a, U b] (U (Nat.gcd a b)) := by
 refine PCalls.of is_frac_gcd (by simp) fun _ => runW_sound ?_
 obtain ⟨R, hR⟩ : ∃ R, R = Nat.gcd a b := ⟨_, rfl⟩
 rw [← hR]
 simp only [c_frac_gcd]
 repeat' first | simp (disch := omega) only [go_sem, ↓reduceIte, Nat.reduceEqDiff, reduceCtorEq, Int.reduceEq] | ((with_reducible first | refine condD ?_ ?_ | refine condX ?_ ?_ | refine condW_intro ?_ ?_) <;> intro h <;> first | (exfalso; omega) | simp (disch := omega) only [go_sem, ↓reduceIte, Nat.reduceEqDiff, reduceCtorEq, Int.reduceEq, *] | skip)
 refine AW_loop (fun s : Nat × Nat => ⟨[(0, U s.1), (1, U s.2)], [], 0, 0⟩) (fun s => Hid (R = Nat.gcd s.1 s.2)) (fun s => s.2) ⟨(a, b), [], Lib.hid hR, by simp [Wk, wkF, wkM, wkL, look_cons, renV, renA, renC, renB, rn, clV, clA, clAs, clB, notIn, findB, findB_setB, clA.go]⟩ ?_
 clear hR
 rintro ⟨x, y⟩ HR
 refine runW_sound ?_
 by_cases h0 : y = 0
 ·have h1 := HR.out
  simp only [h0, Nat.gcd_zero_right] at h1
  subst h0
  subst h1
  repeat' first | simp (disch := omega) only [go_sem, ↓reduceIte, Nat.reduceEqDiff, reduceCtorEq, Int.reduceEq, Int.natCast_zero] | ((with_reducible first | refine condD ?_ ?_ | refine condX ?_ ?_ | refine condW_intro ?_ ?_) <;> intro h <;> first | (exfalso; omega) | simp (disch := omega) only [go_sem, ↓reduceIte, Nat.reduceEqDiff, reduceCtorEq, Int.reduceEq, *, Int.natCast_zero] | skip)
 ·have h1 : (y : Int) ≠ 0 := by omega
  repeat' first | simp (disch := omega) only [go_sem, ↓reduceIte, Nat.reduceEqDiff, reduceCtorEq, Int.reduceEq, h1, ne_eq, tmod_nat] | ((with_reducible first | refine condD ?_ ?_ | refine condX ?_ ?_ | refine condW_intro ?_ ?_) <;> intro h <;> first | (exfalso; omega) | simp (disch := omega) only [go_sem, ↓reduceIte, Nat.reduceEqDiff, reduceCtorEq, Int.reduceEq, *, h1, ne_eq, tmod_nat] | skip)
  exact ⟨(y, x % y), [], Lib.hid (by rw [HR.out]; simp only; rw [Nat.gcd_comm, Nat.gcd_rec, Nat.gcd_comm]), Nat.mod_lt _ (by omega), by simp [Wk, wkF, wkM, wkL, look_cons, renV, renA, renC, renB, rn, clV, clA, clAs, clB, notIn, findB, findB_setB, clA.go]⟩
theorem frac_magnitude_abs {n : Int} (hn : in64 n) : PCalls Try.prog n_frac_magnitude [I n] (U n.natAbs) := by
 refine PCalls.of is_frac_magnitude (by simp) fun _ => runW_sound ?_
 obtain ⟨h1, h2⟩ := hn
 simp only [c_frac_magnitude]
 by_cases h0 : n < 0
 ·have e1 : IntKind.wrap .u64 n = n + 18446744073709551616 := by rw [IntKind.wrap_u64]; omega
  have e2 : IntKind.wrap .u64 (0 - (n + 18446744073709551616)) = n.natAbs := by rw [IntKind.wrap_u64]; omega
  repeat' first | simp (disch := omega) only [go_sem, ↓reduceIte, Nat.reduceEqDiff, reduceCtorEq, Int.reduceEq, e1, e2] | ((with_reducible first | refine condD ?_ ?_ | refine condX ?_ ?_ | refine condW_intro ?_ ?_) <;> intro h <;> first | (exfalso; omega) | simp (disch := omega) only [go_sem, ↓reduceIte, Nat.reduceEqDiff, reduceCtorEq, Int.reduceEq, *, e1, e2] | skip)
 ·have e2 : IntKind.wrap .u64 n = n.natAbs := by rw [IntKind.wrap_u64]; omega
  repeat' first | simp (disch := omega) only [go_sem, ↓reduceIte, Nat.reduceEqDiff, reduceCtorEq, Int.reduceEq, e2] | ((with_reducible first | refine condD ?_ ?_ | refine condX ?_ ?_ | refine condW_intro ?_ ?_) <;> intro h <;> first | (exfalso; omega) | simp (disch := omega) only [go_sem, ↓reduceIte, Nat.reduceEqDiff, reduceCtorEq, Int.reduceEq, *, e2] | skip)
theorem frac_inRange_abs (n : Int) : PCalls Try.prog n_frac_inRange [I n] (Go.Abs.B (decide (-2147483647 ≤ n ∧ n ≤ 2147483647))) := by
 refine PCalls.of is_frac_inRange (by simp) fun _ => runW_sound ?_
 simp only [c_frac_inRange]
 repeat' first | simp (disch := omega) only [go_sem, ↓reduceIte, Nat.reduceEqDiff, reduceCtorEq, Int.reduceEq] | ((with_reducible first | refine condD ?_ ?_ | refine condX ?_ ?_ | refine condW_intro ?_ ?_) <;> intro h <;> first | (exfalso; omega) | simp (disch := omega) only [go_sem, ↓reduceIte, Nat.reduceEqDiff, reduceCtorEq, Int.reduceEq, *] | skip)
 all_goals (simp <;> omega)
theorem frac_Valid_abs {a : Fr} (ha : frIn a) : PCalls Try.prog n_frac_Valid [aFr a] (Go.Abs.B (decide (frOk a))) := by
 refine PCalls.of is_frac_Valid (by simp) fun _ => runW_sound ?_
 obtain ⟨n, d⟩ := a
 have p1 := frac_magnitude_abs ha.1
 have p2 := frac_gcd_abs n.natAbs d.natAbs
 simp only at p1
 simp only [c_frac_Valid]
 by_cases h1 : 1 ≤ d
 ·by_cases h2 : d ≤ 2147483647
  ·have e : IntKind.wrap .u64 d = d.natAbs := by rw [IntKind.wrap_u64]; omega
   by_cases h3 : -2147483647 ≤ n ∧ n ≤ 2147483647
   ·repeat' first | simp (disch := omega) only [go_sem, ↓reduceIte, Nat.reduceEqDiff, reduceCtorEq, Int.reduceEq, e, h3] | ((with_reducible first | refine condD ?_ ?_ | refine condX ?_ ?_ | refine condW_intro ?_ ?_) <;> intro h <;> first | (exfalso; omega) | simp (disch := omega) only [go_sem, ↓reduceIte, Nat.reduceEqDiff, reduceCtorEq, Int.reduceEq, *, e, h3] | skip) | (refine callW_of (frac_inRange_abs _) rfl (.inl rfl) ?_) | (refine callW_of p1 rfl (.inl rfl) ?_) | (refine callW_of p2 rfl (.inl rfl) ?_)
    rw [show decide (((n.natAbs.gcd d.natAbs : Nat) : Int) = 1) = decide (frOk (n, d)) by rw [decide_eq_decide]; simp only [frOk]; omega]
   ·repeat' first | simp (disch := omega) only [go_sem, ↓reduceIte, Nat.reduceEqDiff, reduceCtorEq, Int.reduceEq, e, h3] | ((with_reducible first | refine condD ?_ ?_ | refine condX ?_ ?_ | refine condW_intro ?_ ?_) <;> intro h <;> first | (exfalso; omega) | simp (disch := omega) only [go_sem, ↓reduceIte, Nat.reduceEqDiff, reduceCtorEq, Int.reduceEq, *, e, h3] | skip) | (refine callW_of (frac_inRange_abs _) rfl (.inl rfl) ?_) | (refine callW_of p1 rfl (.inl rfl) ?_) | (refine callW_of p2 rfl (.inl rfl) ?_)
    rw [decide_eq_false]
    simp only [frOk]
    omega
  ·repeat' first | simp (disch := omega) only [go_sem, ↓reduceIte, Nat.reduceEqDiff, reduceCtorEq, Int.reduceEq] | ((with_reducible first | refine condD ?_ ?_ | refine condX ?_ ?_ | refine condW_intro ?_ ?_) <;> intro h <;> first | (exfalso; omega) | simp (disch := omega) only [go_sem, ↓reduceIte, Nat.reduceEqDiff, reduceCtorEq, Int.reduceEq, *] | skip)
   rw [decide_eq_false]
   simp only [frOk]
   omega
 ·repeat' first | simp (disch := omega) only [go_sem, ↓reduceIte, Nat.reduceEqDiff, reduceCtorEq, Int.reduceEq] | ((with_reducible first | refine condD ?_ ?_ | refine condX ?_ ?_ | refine condW_intro ?_ ?_) <;> intro h <;> first | (exfalso; omega) | simp (disch := omega) only [go_sem, ↓reduceIte, Nat.reduceEqDiff, reduceCtorEq, Int.reduceEq, *] | skip)
  rw [decide_eq_false]
  simp only [frOk]
  omega
theorem frac_New_abs {n d : Int} (hn : in64 n) (hd : in64 d) : PCalls Try.prog n_frac_New [I n, I d] (aFrE (frNew n d)) := by
 refine PCalls.of is_frac_New (by simp) fun _ => runW_sound ?_
 have p1 := frac_magnitude_abs hn
 have p2 := frac_magnitude_abs hd
 have p3 := frac_gcd_abs n.natAbs d.natAbs
 simp only [c_frac_New]
 by_cases h0 : d = 0
 ·rw [frNew, if_pos h0]
  repeat' first | simp (disch := omega) only [go_sem, ↓reduceIte, Nat.reduceEqDiff, reduceCtorEq, Int.reduceEq] | ((with_reducible first | refine condD ?_ ?_ | refine condX ?_ ?_ | refine condW_intro ?_ ?_) <;> intro h <;> first | (exfalso; omega) | simp (disch := omega) only [go_sem, ↓reduceIte, Nat.reduceEqDiff, reduceCtorEq, Int.reduceEq, *] | skip)
 have e := frNew_eq (n := n) h0
 rw [e]
 have g0 : ((Nat.gcd n.natAbs d.natAbs : Nat) : Int) ≠ 0 := by
  have : 0 < Nat.gcd n.natAbs d.natAbs := Nat.gcd_pos_of_pos_right _ (by omega)
  omega
 have b1 : n.natAbs / Nat.gcd n.natAbs d.natAbs ≤ n.natAbs := Nat.div_le_self _ _
 have b2 : d.natAbs / Nat.gcd n.natAbs d.natAbs ≤ d.natAbs := Nat.div_le_self _ _
 have d1 := tdiv_nat n.natAbs (Nat.gcd n.natAbs d.natAbs)
 have d2 := tdiv_nat d.natAbs (Nat.gcd n.natAbs d.natAbs)
 clear e
 generalize Nat.gcd n.natAbs d.natAbs = g at *
 generalize n.natAbs / g = q1 at *
 generalize d.natAbs / g = q2 at *
 obtain ⟨hn1, hn2⟩ := hn
 obtain ⟨hd1, hd2⟩ := hd
 repeat' first | simp (disch := omega) only [go_sem, ↓reduceIte, Nat.reduceEqDiff, reduceCtorEq, Int.reduceEq, g0, ne_eq, d1, d2, wrap_u64, wrap_i64] | ((with_reducible first | refine condD ?_ ?_ | refine condX ?_ ?_ | refine condW_intro ?_ ?_) <;> intro h <;> first | (exfalso; omega) | simp (disch := omega) only [go_sem, ↓reduceIte, Nat.reduceEqDiff, reduceCtorEq, Int.reduceEq, *, g0, ne_eq, d1, d2, wrap_u64, wrap_i64] | skip) | (refine callW_of p1 rfl (.inl rfl) ?_) | (refine callW_of p2 rfl (.inl rfl) ?_) | (refine callW_of p3 rfl (.inl rfl) ?_)
 all_goals first
  | (rw [if_pos (by omega)]; done)
  | (rw [if_neg (by omega)]; by_cases hn0 : n < 0 <;> by_cases hd0 : d < 0 <;> simp_all <;> omega)
theorem frac_order_abs (a b : Int) : PCalls Try.prog n_frac_order [I a, I b] (I (cmpI a b)) := by
 refine PCalls.of is_frac_order (by simp) fun _ => runW_sound ?_
 simp only [c_frac_order]
 repeat' first | simp (disch := omega) only [go_sem, ↓reduceIte, Nat.reduceEqDiff, reduceCtorEq, Int.reduceEq] | ((with_reducible first | refine condD ?_ ?_ | refine condX ?_ ?_ | refine condW_intro ?_ ?_) <;> intro h <;> first | (exfalso; omega) | simp (disch := omega) only [go_sem, ↓reduceIte, Nat.reduceEqDiff, reduceCtorEq, Int.reduceEq, *] | skip)
 all_goals simp [cmpI, *]
theorem frac_Compare_abs {a b : Fr} (ha : frOk a) (hb : frOk b) : PCalls Try.prog n_frac_Compare [aFr a, aFr b] (I (frCmp a b)) := by
 refine PCalls.of is_frac_Compare (by simp) fun _ => runW_sound ?_
 obtain ⟨n, d⟩ := a
 obtain ⟨m, k⟩ := b
 rw [frCmp, if_pos ⟨ha, hb⟩]
 have p1 := frac_Valid_abs (frOk_in ha)
 have p2 := frac_Valid_abs (frOk_in hb)
 obtain ⟨o1, o2, o3, o4, _⟩ := id ha
 obtain ⟨r1, r2, r3, r4, _⟩ := id hb
 simp only at o1 o2 o3 o4 r1 r2 r3 r4
 have q1 := mulM (x := n) (y := k) (by omega) (by omega)
 have q2 := mulM (x := m) (y := d) (by omega) (by omega)
 have p3 := frac_order_abs (n * k) (m * d)
 simp only [ha, decide_true] at p1
 simp only [hb, decide_true] at p2
 simp only [c_frac_Compare]
 generalize hx1 : n * k = x1 at *
 generalize hx2 : m * d = x2 at *
 repeat' first | simp (disch := omega) only [go_sem, ↓reduceIte, Nat.reduceEqDiff, reduceCtorEq, Int.reduceEq, hx1, hx2, wrap_i64] | ((with_reducible first | refine condD ?_ ?_ | refine condX ?_ ?_ | refine condW_intro ?_ ?_) <;> intro h <;> first | (exfalso; omega) | simp (disch := omega) only [go_sem, ↓reduceIte, Nat.reduceEqDiff, reduceCtorEq, Int.reduceEq, *, hx1, hx2, wrap_i64] | skip) | (refine callW_of p1 rfl (.inl rfl) ?_) | (refine callW_of p2 rfl (.inl rfl) ?_) | (refine callW_of p3 rfl (.inl rfl) ?_)

theorem comb_few {l : List Con} {b : List Int} {c : Con} (h : conCombine l b = (c, 0)) : c.1.2.length ≤ tot l := by
 obtain ⟨_, _, h3, _, h5, _⟩ := conCombine_spec h
 obtain ⟨h1, h2⟩ := linOk_iff.1 h3
 have hn : (c.1.2.map (·.1)).Nodup := by
  refine List.pairwise_map.2 (h1.imp fun {a b} hab e => ?_)
  rw [e] at hab
  exact sless_irrefl _ hab
 have := nodup_le hn (m := l.flatMap fun c => c.1.2.map (·.1)) fun x hx => by
  obtain ⟨m, hm, rfl⟩ := List.mem_map.1 hx
  have hc : dotC m.1 (l.zip b) ≠ 0 := by
   rw [← h5, cf_mem h1 hm]
   exact (h2 m hm).2
  obtain ⟨p, hp, h0⟩ := dotC_in hc
  obtain ⟨z, hz, h3, _⟩ := cf_in h0
  exact List.mem_flatMap.2 ⟨p.1, (List.of_mem_zip hp).1, List.mem_map.2 ⟨z, hz, h3⟩⟩
 rw [tot_flat, List.length_map] at this
 exact this
/-! Bounds as fractions. -/
def valN (env : List Mono) (n : ByteArray) (c : Con) : Int := c.1.1 + evI (cf ((n, 0) :: env)) c.1.2
noncomputable def bndF (env : List Mono) (n : ByteArray) (c : Con) : Fr := (frNew (-(valN env n c)) (cf c.1.2 n)).1
theorem cast_upd {env : List Mono} {n : ByteArray} : castX (cf ((n, 0) :: env)) = updX (castX (cf env)) n 0 := by
 funext m
 show ((cf ((n, 0) :: env) m : Int) : Rat) = _
 rw [cf, updX]
 by_cases h : m = n
 ·subst h
  rw [if_pos rfl, if_pos rfl]; rfl
 ·rw [if_neg (fun e => h e.symm), if_neg h]
theorem frNew_small {a d : Int} (hd : d ≠ 0) (h1 : a.natAbs ≤ 2147483647) (h2 : d.natAbs ≤ 2147483647) : (frNew a d).2 = 0 ∧ frOk (frNew a d).1 ∧ toRat (frNew a d).1 = (a : Rat) / (d : Rat) := by
 obtain ⟨p1, p2⟩ := divInt_parts a d hd
 have b1 : a.natAbs / Nat.gcd a.natAbs d.natAbs ≤ a.natAbs := Nat.div_le_self _ _
 have b2 : d.natAbs / Nat.gcd a.natAbs d.natAbs ≤ d.natAbs := Nat.div_le_self _ _
 have hf : frFits (Rat.divInt a d) := by
  refine ⟨?_, by rw [p2]; omega⟩
  rw [p1]
  generalize a.natAbs / Nat.gcd a.natAbs d.natAbs = Q at *
  split <;> omega
 have e : frNew a d = (((Rat.divInt a d).num, ((Rat.divInt a d).den : Int)), 0) := by rw [frNew, if_neg hd, ofRat, if_pos hf]
 rw [e]
 exact ⟨rfl, frOk_of hf, by rw [toRat_of, Rat.divInt_eq_div]⟩
theorem frCmp_le {a b : Fr} (ha : frOk a) (hb : frOk b) (h : toRat a ≤ toRat b) : frCmp a b ≤ 0 := by
 rw [frCmp, if_pos ⟨ha, hb⟩]
 have a0 := ha.1
 have b0 := hb.1
 have e1 : toRat a * (a.2 : Rat) = (a.1 : Rat) := by
  rw [toRat, Rat.divInt_eq_div]
  have : (a.2 : Rat) ≠ 0 := by exact_mod_cast (show a.2 ≠ 0 by omega)
  grind
 have e2 : toRat b * (b.2 : Rat) = (b.1 : Rat) := by
  rw [toRat, Rat.divInt_eq_div]
  have : (b.2 : Rat) ≠ 0 := by exact_mod_cast (show b.2 ≠ 0 by omega)
  grind
 have p := Rat.mul_pos ((Rat.intCast_pos (a := a.2)).2 (by omega)) ((Rat.intCast_pos (a := b.2)).2 (by omega))
 have q : 0 ≤ (toRat b - toRat a) * ((a.2 : Rat) * (b.2 : Rat)) := Rat.mul_nonneg (by grind) (by grind)
 have e3 : (toRat b - toRat a) * ((a.2 : Rat) * (b.2 : Rat)) = (b.1 : Rat) * (a.2 : Rat) - (a.1 : Rat) * (b.2 : Rat) := by rw [← e1, ← e2]; grind
 rw [e3] at q
 have h3 : a.1 * b.2 ≤ b.1 * a.2 := by
  refine Rat.intCast_le_intCast.1 ?_
  rw [Rat.intCast_mul, Rat.intCast_mul]
  grind
 unfold cmpI
 split
 ·omega
 ·split <;> omega
/-- Numbers up to 100, 8 monomials. -/
theorem bndF_ok {l : List Con} {env : List Mono} {n : ByteArray} (hw : withinP l (100 : Nat) 8) (hm : smallP env) {c : Con} (hc : c ∈ l) (h0 : cf c.1.2 n ≠ 0) :
  frOk (bndF env n c) ∧ toRat (bndF env n c) = bndR (castX (cf env)) n c := by
 obtain ⟨w1, w2, w3⟩ := within_lin hw hc
 have hcf := cf_abs (M := 100) (by decide) w3 n
 have he : ∀ m, absLe (cf ((n, 0) :: env) m) 1000 := fun m => cf_abs (by decide) (fun b hb => by
  rcases List.mem_cons.1 hb with rfl | hb
  ·unfold absLe; simp
  ·exact hm.1 b hb) m
 have hev := evI_abs he w3
 have hv : (-(valN env n c)).natAbs ≤ 2147483647 := by
  unfold valN absLe at *
  omega
 obtain ⟨_, h2, h3⟩ := frNew_small h0 hv (by unfold absLe at hcf; omega)
 refine ⟨h2, ?_⟩
 show toRat (frNew _ _).1 = _
 rw [h3, bndR, ← cast_upd, val_cast, Rat.intCast_neg]
 rfl
noncomputable instance (n : ByteArray) (c : Con) : Decidable (isLow n c) := Classical.propDecidable _
noncomputable instance (n : ByteArray) (c : Con) : Decidable (isUp n c) := Classical.propDecidable _
noncomputable def bLow (env : List Mono) (n : ByteArray) (o : List Fr) (c : Con) : List Fr :=
 if isLow n c then (match o with | [] => [bndF env n c] | w :: _ => if 0 < frCmp (bndF env n c) w then [bndF env n c] else o) else o
noncomputable def bUp (env : List Mono) (n : ByteArray) (o : List Fr) (c : Con) : List Fr :=
 if isUp n c then (match o with | [] => [bndF env n c] | w :: _ => if frCmp (bndF env n c) w < 0 then [bndF env n c] else o) else o
noncomputable def bLows (env : List Mono) (n : ByteArray) (l : List Con) : List Fr := l.foldl (bLow env n) []
noncomputable def bUps (env : List Mono) (n : ByteArray) (l : List Con) : List Fr := l.foldl (bUp env n) []
theorem bLows_in {env : List Mono} {n : ByteArray} {L : List Con} : ∀ {l : List Con} {o : List Fr}, (∀ c ∈ l, c ∈ L) → (o = [] ∨ ∃ c ∈ L, isLow n c ∧ o = [bndF env n c]) → (l.foldl (bLow env n) o = [] ∨ ∃ c ∈ L, isLow n c ∧ l.foldl (bLow env n) o = [bndF env n c])
 | [], o, _, h => h
 |c :: l, o, hl, h => by
  rw [List.foldl_cons]
  refine bLows_in (fun d hd => hl d (List.mem_cons_of_mem _ hd)) ?_
  unfold bLow
  by_cases hc : isLow n c
  ·have := hl c List.mem_cons_self
   rw [if_pos hc]
   split
   ·exact .inr ⟨c, this, hc, rfl⟩
   ·split
    ·exact .inr ⟨c, this, hc, rfl⟩
    ·exact h
  ·rw [if_neg hc]; exact h
theorem bUps_in {env : List Mono} {n : ByteArray} {L : List Con} : ∀ {l : List Con} {o : List Fr}, (∀ c ∈ l, c ∈ L) → (o = [] ∨ ∃ c ∈ L, isUp n c ∧ o = [bndF env n c]) → (l.foldl (bUp env n) o = [] ∨ ∃ c ∈ L, isUp n c ∧ l.foldl (bUp env n) o = [bndF env n c])
 | [], o, _, h => h
 |c :: l, o, hl, h => by
  rw [List.foldl_cons]
  refine bUps_in (fun d hd => hl d (List.mem_cons_of_mem _ hd)) ?_
  unfold bUp
  by_cases hc : isUp n c
  ·have := hl c List.mem_cons_self
   rw [if_pos hc]
   split
   ·exact .inr ⟨c, this, hc, rfl⟩
   ·split
    ·exact .inr ⟨c, this, hc, rfl⟩
    ·exact h
  ·rw [if_neg hc]; exact h
/-- The rows of a literal as a slice that nobody writes. -/
theorem AW_tslF {P : Program} {σ : St} {nt : Nat} {c : ACode} {Q : AExit → St → Prop} (t : Nat) {rows : List (List PC)} (ht : Go.Abs.look σ.fr t = AV.c (.tsl rows)) (h : AW P nt c { σ with fr := (t, AV.c (.pure (.slice rows))) :: σ.fr } Q) : AW P nt c σ Q := by
 intro c' hc w0 U ι a w hs hz
 refine h c' hc w0 U ι a w ⟨fun s => ?_, hs.defers, hs.names, hs.box, hs.apart, hs.below, hs.keep, hs.base⟩ hz
 show RepV w (Free w0.heap.size U ι σ.mem) ι σ.nx (Go.Abs.look ((t, AV.c (.pure (.slice rows))) :: σ.fr) s) _
 rw [look_put]
 by_cases es : t = s
 ·subst es
  rw [if_pos rfl]
  have hv := hs.val t
  rw [ht] at hv
  obtain ⟨_, _, hp⟩ := repV_tsl hv
  exact .c (.pure hp)
 ·rw [if_neg es]
  exact hs.val s
/-- At most one fraction: nil, or a literal. -/
def aOne : List Fr → AV
 | [] => .c (.pure (.slice []))
 | w :: _ => .c (.tsl [[pI w.1, pI w.2]])
theorem aOne_nil : aOne [] = .c (.pure (.slice [])) := rfl
theorem aOne_one (w : Fr) : aOne [w] = .c (.tsl [[pI w.1, pI w.2]]) := rfl
abbrev aFrs (l : List Fr) : AV := aSl (fun v : Fr => [pI v.1, pI v.2]) l
set_option maxHeartbeats 4000000 in
theorem law07_bounds_abs {l : List Con} {env : List Mono} {n : ByteArray} (hl : ∀ c ∈ l, con64 c) (hw : withinP l (100 : Nat) 8) (hm : smallP env) : PCalls Try.prog n_law07_bounds [aCons l, S n, aSl mP env] (.tup [aFrs (bLows env n l), aFrs (bUps env n l)]) := by
 refine PCalls.of is_law07_bounds (by simp) fun hb => runW_sound ?_
 have hbl : l.length ≤ 9223372036854775807 := by have := hb.1; simpa [bndV, bndA] using this
 have hbe : env.length ≤ 12 := hm.2
 clear hb
 have HF := Lib.hid fun (c : Con) (hc : c ∈ l) (h0 : cf c.1.2 n ≠ 0) => (bndF_ok hw hm hc h0).1
 have HV := Lib.hid fun (c : Con) (hc : c ∈ l) => (show (-(valN env n c)).natAbs ≤ 2147483647 ∧ (cf c.1.2 n).natAbs ≤ 100 ∧ PCalls Try.prog n_ref07_Value [aLin c.1.1 c.1.2, aSl mP ((n, 0) :: env)] (I (valN env n c)) from by
  obtain ⟨w1, w2, w3⟩ := within_lin hw hc
  have hcf := cf_abs (M := 100) (by decide) w3 n
  have he' : ∀ b ∈ (n, (0 : Int)) :: env, absLe b.2 1000 := fun b hb => by
   rcases List.mem_cons.1 hb with rfl | hb
   ·unfold absLe; simp
   ·exact hm.1 b hb
  have hev := evI_abs (fun m => cf_abs (by decide) he' m) w3
  refine ⟨by unfold valN absLe at *; omega, by unfold absLe at hcf; omega, ref07_Value_abs (by unfold absLe at *; omega) (fun m hm => by have := w3 m hm; unfold absLe at *; omega) he' (by omega)⟩)
 have LO := Lib.hid fun k => bLows_in (env := env) (n := n) (L := l) (l := l.take k) (o := []) (fun c hc => List.mem_of_mem_take hc) (.inl rfl)
 have UP := Lib.hid fun k => bUps_in (env := env) (n := n) (L := l) (l := l.take k) (o := []) (fun c hc => List.mem_of_mem_take hc) (.inl rfl)
 clear hw hm hl
 simp only [c_law07_bounds]
 repeat' first | simp (disch := omega) only [go_sem, ↓reduceIte, Nat.reduceEqDiff, reduceCtorEq, Int.reduceEq] | ((with_reducible first | refine condD ?_ ?_ | refine condX ?_ ?_ | refine condW_intro ?_ ?_) <;> intro h <;> first | (exfalso; omega) | simp (disch := omega) only [go_sem, ↓reduceIte, Nat.reduceEqDiff, reduceCtorEq, Int.reduceEq, *] | skip)
 refine AW_nilF 8 rfl ?_
 refine AW_nilF 9 rfl ?_
 refine AW_loop (fun k : Nat => ⟨[(0, aCons l), (1, S n), (2, aSl mP env), (8, aOne (bLows env n (l.take k))), (9, aOne (bUps env n (l.take k))), (10, I k)], [], 0, 0⟩) (fun k => k ≤ l.length) (fun k => l.length - k) ⟨0, [], Nat.zero_le _, by simp [Wk, wkF, wkM, wkL, look_cons, renV, renA, renC, renB, rn, clV, clA, clAs, clB, notIn, findB, findB_setB, clA.go, bLows, bUps, aOne]⟩ ?_
 intro k hk
 by_cases hlt : k < l.length
 ·refine runW_sound ?_
  have g1 := map_get (f := cP) hlt
  have hmem := List.getElem_mem hlt
  have eL : bLows env n (l.take (k + 1)) = bLow env n (bLows env n (l.take k)) l[k] := by rw [List.take_succ_eq_append_getElem hlt, bLows, bLows, List.foldl_append]; rfl
  have eU : bUps env n (l.take (k + 1)) = bUp env n (bUps env n (l.take k)) l[k] := by rw [List.take_succ_eq_append_getElem hlt, bUps, bUps, List.foldl_append]; rfl
  obtain ⟨v1, v2, pv⟩ := HV.out _ hmem
  have hfr := HF.out _ hmem
  have hlo : bLows env n (l.take k) = [] ∨ ∃ w, frOk w ∧ bLows env n (l.take k) = [w] := (LO.out k).imp id fun ⟨c, h1, h2, h3⟩ => ⟨_, HF.out c h1 h2.1, h3⟩
  have hup : bUps env n (l.take k) = [] ∨ ∃ w, frOk w ∧ bUps env n (l.take k) = [w] := (UP.out k).imp id fun ⟨c, h1, h2, h3⟩ => ⟨_, HF.out c h1 h2.1, h3⟩
  generalize bLows env n (l.take k) = lo at *
  generalize bUps env n (l.take k) = up at *
  have pn := frac_New_abs (n := -(valN env n l[k])) (d := cf l[k].1.2 n) (by unfold in64; omega) (by unfold in64; omega)
  have hbf : (frNew (-(valN env n l[k])) (cf l[k].1.2 n)).1 = bndF env n l[k] := rfl
  generalize frNew (-(valN env n l[k])) (cf l[k].1.2 n) = FR at *
  obtain ⟨v, ve⟩ := FR
  simp only at hbf
  simp only [bLow, bUp, ← hbf, isLow, isUp] at eL eU hfr
  clear hbf HV HF LO UP
  generalize valN env n l[k] = V at *
  have pco := lin_Coeff_abs l[k].1.1 l[k].1.2 n
  generalize hA : cf l[k].1.2 n = A at *
  generalize l[k] = c at *
  obtain ⟨⟨ck, cl⟩, q⟩ := c
  simp only [cP] at g1
  simp only at hA pv pco eL eU
  clear hA hmem
  by_cases h0 : A = 0
  ·subst h0
   simp only [ne_eq, not_true, false_and, if_false] at eL eU
   clear hfr hlo hup pn pv
   repeat' first | simp (disch := omega) only [go_sem, ↓reduceIte, Nat.reduceEqDiff, reduceCtorEq, Int.reduceEq, g1, wrap_i64] | ((with_reducible first | refine condD ?_ ?_ | refine condX ?_ ?_ | refine condW_intro ?_ ?_) <;> intro h <;> first | (exfalso; omega) | simp (disch := omega) only [go_sem, ↓reduceIte, Nat.reduceEqDiff, reduceCtorEq, Int.reduceEq, *, g1, wrap_i64] | skip) | (refine callW_of pco rfl (.inl rfl) ?_)
   cases lo
   all_goals
    cases up
    all_goals exact ⟨k + 1, [], hlt, by omega, by simp [Wk, wkF, wkM, wkL, look_cons, renV, renA, renC, renB, rn, clV, clA, clAs, clB, notIn, findB, findB_setB, clA.go, eL, eU, aOne]⟩
  ·have hv := hfr h0
   have w1 : IntKind.wrap .i64 (0 - V) = -V := by rw [wrap_i64 (by omega)]; omega
   clear hfr v1 v2
   have hlo' : (lo = [] ∧ True) ∨ (∃ w, frOk w ∧ lo = [w] ∧ 0 < frCmp v w) ∨ ∃ w, frOk w ∧ lo = [w] ∧ ¬ 0 < frCmp v w := hlo.imp (fun h => ⟨h, trivial⟩) fun ⟨w, h1, h2⟩ => (Classical.em (0 < frCmp v w)).imp (fun h => ⟨w, h1, h2, h⟩) fun h => ⟨w, h1, h2, h⟩
   have hup' : (up = [] ∧ True) ∨ (∃ w, frOk w ∧ up = [w] ∧ frCmp v w < 0) ∨ ∃ w, frOk w ∧ up = [w] ∧ ¬ frCmp v w < 0 := hup.imp (fun h => ⟨h, trivial⟩) fun ⟨w, h1, h2⟩ => (Classical.em (frCmp v w < 0)).imp (fun h => ⟨w, h1, h2, h⟩) fun h => ⟨w, h1, h2, h⟩
   clear hlo hup
   rcases (by omega : 0 < A ∧ ¬ A < 0 ∨ ¬ 0 < A ∧ A < 0) with ⟨hp, hn⟩ | ⟨hp, hn⟩
   all_goals
    cases q
    all_goals
     rcases hlo' with ⟨rfl, hc⟩ | ⟨w, hw, rfl, hc⟩ | ⟨w, hw, rfl, hc⟩
     all_goals
      rcases hup' with ⟨rfl, hd⟩ | ⟨u, hu, rfl, hd⟩ | ⟨u, hu, rfl, hd⟩
      all_goals
       simp only [ne_eq, h0, not_false_iff, true_and, hp, hn, true_or, or_true, false_or, or_false, if_true, if_false, or_self, Bool.false_eq_true, hc, hd] at eL eU
       repeat' first | simp (disch := omega) only [go_sem, ↓reduceIte, Nat.reduceEqDiff, reduceCtorEq, Int.reduceEq, aOne_nil, aOne_one, g1, h0, hp, hn, w1, wrap_i64, Int.toNat_zero, List.getElem?_cons_zero] | ((with_reducible first | refine condD ?_ ?_ | refine condX ?_ ?_ | refine condW_intro ?_ ?_) <;> intro h <;> first | (exfalso; omega) | simp (disch := omega) only [go_sem, ↓reduceIte, Nat.reduceEqDiff, reduceCtorEq, Int.reduceEq, *, aOne_nil, aOne_one, g1, h0, hp, hn, w1, wrap_i64, Int.toNat_zero, List.getElem?_cons_zero] | skip) | (refine callW_of pco rfl (.inl rfl) ?_) | (refine app_tslP (rowsOk_one rfl) (rowsOk_map fun _ => rfl) (by simp; omega) (by simp; omega) ?_) | (refine callW_of pv rfl (.inl rfl) ?_) | (refine callW_of pn rfl (.inl rfl) ?_) | (refine callW_of (frac_Compare_abs hv hw) rfl (.inl rfl) ?_) | (refine callW_of (frac_Compare_abs hv hu) rfl (.inl rfl) ?_)
       exact ⟨k + 1, [], hlt, by omega, by simp [Wk, wkF, wkM, wkL, look_cons, renV, renA, renC, renB, rn, clV, clA, clAs, clB, notIn, findB, findB_setB, clA.go, eL, eU, aOne]⟩
 ·obtain rfl : k = l.length := by omega
  have hlo := LO.out l.length
  have hup := UP.out l.length
  rw [List.take_of_length_le (Nat.le_refl _)] at hlo hup ⊢
  have hlo : bLows env n l = [] ∨ ∃ w, bLows env n l = [w] := hlo.imp id fun ⟨c, _, _, h⟩ => ⟨_, h⟩
  have hup : bUps env n l = [] ∨ ∃ w, bUps env n l = [w] := hup.imp id fun ⟨c, _, _, h⟩ => ⟨_, h⟩
  clear HV HF LO UP
  generalize bLows env n l = lo at *
  generalize bUps env n l = up at *
  rcases hlo with rfl | ⟨w, rfl⟩
  ·rcases hup with rfl | ⟨u, rfl⟩
   ·refine runW_sound ?_
    repeat' first | simp (disch := omega) only [go_sem, ↓reduceIte, Nat.reduceEqDiff, reduceCtorEq, Int.reduceEq, aOne] | ((with_reducible first | refine condD ?_ ?_ | refine condX ?_ ?_ | refine condW_intro ?_ ?_) <;> intro h <;> first | (exfalso; omega) | simp (disch := omega) only [go_sem, ↓reduceIte, Nat.reduceEqDiff, reduceCtorEq, Int.reduceEq, *, aOne] | skip)
    all_goals rfl
   ·refine AW_tslF 9 rfl ?_
    refine runW_sound ?_
    repeat' first | simp (disch := omega) only [go_sem, ↓reduceIte, Nat.reduceEqDiff, reduceCtorEq, Int.reduceEq, aOne] | ((with_reducible first | refine condD ?_ ?_ | refine condX ?_ ?_ | refine condW_intro ?_ ?_) <;> intro h <;> first | (exfalso; omega) | simp (disch := omega) only [go_sem, ↓reduceIte, Nat.reduceEqDiff, reduceCtorEq, Int.reduceEq, *, aOne] | skip)
    all_goals rfl
  ·refine AW_tslF 8 rfl ?_
   rcases hup with rfl | ⟨u, rfl⟩
   ·refine runW_sound ?_
    repeat' first | simp (disch := omega) only [go_sem, ↓reduceIte, Nat.reduceEqDiff, reduceCtorEq, Int.reduceEq, aOne] | ((with_reducible first | refine condD ?_ ?_ | refine condX ?_ ?_ | refine condW_intro ?_ ?_) <;> intro h <;> first | (exfalso; omega) | simp (disch := omega) only [go_sem, ↓reduceIte, Nat.reduceEqDiff, reduceCtorEq, Int.reduceEq, *, aOne] | skip)
    all_goals rfl
   ·refine AW_tslF 9 rfl ?_
    refine runW_sound ?_
    repeat' first | simp (disch := omega) only [go_sem, ↓reduceIte, Nat.reduceEqDiff, reduceCtorEq, Int.reduceEq, aOne] | ((with_reducible first | refine condD ?_ ?_ | refine condX ?_ ?_ | refine condW_intro ?_ ?_) <;> intro h <;> first | (exfalso; omega) | simp (disch := omega) only [go_sem, ↓reduceIte, Nat.reduceEqDiff, reduceCtorEq, Int.reduceEq, *, aOne] | skip)
    all_goals rfl

set_option maxHeartbeats 2000000 in
theorem ElimExact_abs (ps0 ps1 ps2 : List PC) (h0 : OkPs [.slice [.int .i64, .slice [.str, .int .i64], .bool]] ps0) (h1 : OkPs [.str] ps1) (h2 : OkPs [.slice [.str, .int .i64]] ps2) :
  PCalls Try.prog 8 [argV false ps0, argV false ps1, argV false ps2] (Go.Abs.B true) := by
 obtain ⟨l, rfl, hl, _⟩ := okConsL h0
 obtain ⟨_, rfl, k1⟩ := okOne h1
 obtain ⟨n, rfl, _⟩ := okStr k1
 obtain ⟨_, rfl, k2⟩ := okOne h2
 obtain ⟨env, rfl, henv, _⟩ := okMonos k2
 clear h0 h1 h2 k1 k2
 show PCalls _ n_law07_ElimExact [aCons l, S n, aSl mP env] _
 refine PCalls.of is_law07_ElimExact (by simp) fun _ => runW_sound ?_
 have pf := law07_few_abs l 12
 have pm := law07_small_abs env
 simp only [c_law07_ElimExact]
 by_cases hf : fewP l 12
 ·have pw := ref07_Within_abs hl (fun c hc => by have := hf.2 c hc; omega) 100 8
  rw [decide_eq_true hf] at pf
  by_cases hw : withinP l (100 : Nat) 8
  ·rw [decide_eq_true hw] at pw
   by_cases hm : smallP env
   ·rw [decide_eq_true hm] at pm
    by_cases hn : (n.size : Int) > 100
    ·clear hw hm hf
     repeat' first | simp (disch := omega) only [go_sem, ↓reduceIte, Nat.reduceEqDiff, reduceCtorEq, Int.reduceEq, hn] | ((with_reducible first | refine condD ?_ ?_ | refine condX ?_ ?_ | refine condW_intro ?_ ?_) <;> intro h <;> first | (exfalso; omega) | simp (disch := omega) only [go_sem, ↓reduceIte, Nat.reduceEqDiff, reduceCtorEq, Int.reduceEq, *, hn] | skip) | (refine callW_of pf rfl (.inl rfl) ?_) | (refine callW_of pw rfl (.inl rfl) ?_) | (refine callW_of pm rfl (.inl rfl) ?_) | (refine callW_of law07_examples_abs rfl (.inl rfl) ?_)
    ·have ht := few_tot hf.2
     have hl12 := hf.1
     have q1 := elim_Eliminate_abs (n := n) hl (by omega)
     by_cases he : (elimS l n).2 = 0
     ·have hB : ∀ d ∈ l, d.1.1.natAbs ≤ 100 ∧ ∀ m ∈ d.1.2, m.2.natAbs ≤ 100 := fun d hd => by
       obtain ⟨h1, _, h3⟩ := hw d hd
       exact ⟨by omega, fun m hm => by have := h3 m hm; omega⟩
      have hout := elimS_out (l := l) (n := n) (M := 100) (by decide) (fun c hc => cf_natAbs (hB c hc).2 n) he
      have hback := elimS_back he
      have hR : ∀ r ∈ (elimS l n).1, PCalls Try.prog n_ref07_Holds [aCon r.1, aSl mP env] (Go.Abs.B (decide (holdsE env r.1))) := fun r hr => by
       have ho := hout r hr
       obtain ⟨c1, c2⟩ := comb_abs ho.comb hB ho.small
       have c3 := comb_few ho.comb
       have hlen : l.length * (100 * 100) ≤ 12 * (100 * 100) := Nat.mul_le_mul_right _ (by omega)
       exact ref07_Holds_abs (by unfold absLe; omega) (fun m hm => by have := c2 m hm; unfold absLe; omega) hm.1 (by omega)
      have ph := fun (c : Con) (hc : c ∈ l) => ref07_Holds_abs (c := c) (env := env) (by have := (within_lin hw hc).1; unfold absLe at *; omega) (fun m hm => by have := (within_lin hw hc).2.2 m hm; unfold absLe at *; omega) hm.1 (by have := (within_lin hw hc).2.1; omega)
      have pb := law07_bounds_abs (n := n) hl hw hm
      have hz : (∀ r ∈ (elimS l n).1, holdsE env r.1) → ∀ c ∈ l, cf c.1.2 n = 0 → holdsE env c := fun hD => exact_zero hback hD
      have hfin : (∀ r ∈ (elimS l n).1, holdsE env r.1) → bLows env n l = [] ∨ bUps env n l = [] ∨ ∃ v u, bLows env n l = [v] ∧ bUps env n l = [u] ∧ frOk v ∧ frOk u ∧ frCmp v u ≤ 0 := fun hD => by
       rcases bLows_in (env := env) (n := n) (L := l) (l := l) (o := []) (fun c hc => hc) (.inl rfl) with h | ⟨a, ha, hla, ea⟩
       ·exact .inl h
       ·rcases bUps_in (env := env) (n := n) (L := l) (l := l) (o := []) (fun c hc => hc) (.inl rfl) with h | ⟨c, hc, huc, eu⟩
        ·exact .inr (.inl h)
        ·obtain ⟨a1, a2⟩ := bndF_ok hw hm ha hla.1
         obtain ⟨c1, c2⟩ := bndF_ok hw hm hc huc.1
         exact .inr (.inr ⟨_, _, ea, eu, a1, c1, frCmp_le a1 c1 (by rw [a2, c2]; exact exact_le hback hD ha hc hla huc)⟩)
      have hone : bUps env n l = [] ∨ ∃ u, bUps env n l = [u] := (bUps_in (env := env) (n := n) (L := l) (l := l) (o := []) (fun c hc => hc) (.inl rfl)).imp id fun ⟨c, _, _, h⟩ => ⟨_, h⟩
      have hone' : bLows env n l = [] ∨ ∃ u, bLows env n l = [u] := (bLows_in (env := env) (n := n) (L := l) (l := l) (o := []) (fun c hc => hc) (.inl rfl)).imp id fun ⟨c, _, _, h⟩ => ⟨_, h⟩
      clear hout hback hB hw hm hf ht henv hl
      generalize elimS l n = D at *
      generalize bLows env n l = lo at *
      generalize bUps env n l = up at *
      obtain ⟨D, e⟩ := D
      simp only at he hR hz hfin
      subst he
      have HRR := Lib.hid hR
      have PH := Lib.hid ph
      have HZ := Lib.hid hz
      have HFIN := Lib.hid hfin
      have HONE := Lib.hid hone
      have HONE' := Lib.hid hone'
      clear hR ph hz hfin hone hone'
      repeat' first | simp (disch := omega) only [go_sem, ↓reduceIte, Nat.reduceEqDiff, reduceCtorEq, Int.reduceEq, hn] | ((with_reducible first | refine condD ?_ ?_ | refine condX ?_ ?_ | refine condW_intro ?_ ?_) <;> intro h <;> first | (exfalso; omega) | simp (disch := omega) only [go_sem, ↓reduceIte, Nat.reduceEqDiff, reduceCtorEq, Int.reduceEq, *, hn] | skip) | (refine callW_of pf rfl (.inl rfl) ?_) | (refine callW_of pw rfl (.inl rfl) ?_) | (refine callW_of pm rfl (.inl rfl) ?_) | (refine callW_of q1 rfl (.inr rfl) ?_)
      clear q1 pf pw pm
      refine AW_bnd 7 fun hbd => ?_
      have hDl : D.length ≤ 9223372036854775807 := by simpa [look_cons, bndV, bndA] using hbd
      clear hbd
      refine AW_loop (fun j : Nat => ⟨[(0, aCons l), (1, S n), (2, aSl mP env), (7, aRows D), (9, I j)], [], 0, 0⟩) (fun j => j ≤ D.length ∧ Hid (∀ r ∈ D.take j, holdsE env r.1)) (fun j => D.length - j) ⟨0, [], ⟨Nat.zero_le _, Lib.hid (by simp)⟩, by simp [Wk, wkF, wkM, wkL, look_cons, renV, renA, renC, renB, rn, clV, clA, clAs, clB, notIn, findB, findB_setB, clA.go]⟩ ?_
      rintro j ⟨hj, HT⟩
      refine runW_sound ?_
      by_cases hlj : j < D.length
      ·have g1 := map_get (f := rCells) hlj
       have r4 := HRR.out _ (List.getElem_mem hlj)
       by_cases hh : holdsE env D[j].1
       ·have HT' : Hid (∀ r ∈ D.take (j + 1), holdsE env r.1) := Lib.hid (by
         rw [List.take_succ_eq_append_getElem hlj]
         intro r hr
         rcases List.mem_append.1 hr with h' | h'
         ·exact HT.out r h'
         ·rw [List.mem_singleton.1 h']; exact hh)
        rw [decide_eq_true hh] at r4
        clear hh HT
        generalize D[j] = z at *
        obtain ⟨⟨⟨K, m⟩, q⟩, b⟩ := z
        simp only [rCells] at g1
        simp only at r4
        repeat' first | simp (disch := omega) only [go_sem, ↓reduceIte, Nat.reduceEqDiff, reduceCtorEq, Int.reduceEq, g1, wrap_i64] | ((with_reducible first | refine condD ?_ ?_ | refine condX ?_ ?_ | refine condW_intro ?_ ?_) <;> intro h <;> first | (exfalso; omega) | simp (disch := omega) only [go_sem, ↓reduceIte, Nat.reduceEqDiff, reduceCtorEq, Int.reduceEq, *, g1, wrap_i64] | skip) | (refine callW_of r4 rfl (.inl rfl) ?_)
        exact ⟨j + 1, [], ⟨hlj, HT'⟩, by omega, by simp [Wk, wkF, wkM, wkL, look_cons, renV, renA, renC, renB, rn, clV, clA, clAs, clB, notIn, findB, findB_setB, clA.go]⟩
       ·rw [decide_eq_false hh] at r4
        clear hh HT
        generalize D[j] = z at *
        obtain ⟨⟨⟨K, m⟩, q⟩, b⟩ := z
        simp only [rCells] at g1
        simp only at r4
        repeat' first | simp (disch := omega) only [go_sem, ↓reduceIte, Nat.reduceEqDiff, reduceCtorEq, Int.reduceEq, g1, wrap_i64] | ((with_reducible first | refine condD ?_ ?_ | refine condX ?_ ?_ | refine condW_intro ?_ ?_) <;> intro h <;> first | (exfalso; omega) | simp (disch := omega) only [go_sem, ↓reduceIte, Nat.reduceEqDiff, reduceCtorEq, Int.reduceEq, *, g1, wrap_i64] | skip) | (refine callW_of r4 rfl (.inl rfl) ?_) | (refine callW_of law07_examples_abs rfl (.inl rfl) ?_)
        all_goals rfl
      ·have hD := HT.out
       rw [List.take_of_length_le (by omega)] at hD
       have HZ' := Lib.hid (HZ.out hD)
       have HF' := Lib.hid (HFIN.out hD)
       clear hD HT HZ HFIN HRR
       repeat' first | simp (disch := omega) only [go_sem, ↓reduceIte, Nat.reduceEqDiff, reduceCtorEq, Int.reduceEq] | ((with_reducible first | refine condD ?_ ?_ | refine condX ?_ ?_ | refine condW_intro ?_ ?_) <;> intro h <;> first | (exfalso; omega) | simp (disch := omega) only [go_sem, ↓reduceIte, Nat.reduceEqDiff, reduceCtorEq, Int.reduceEq, *] | skip)
       refine AW_loop (fun k : Nat => ⟨[(0, aCons l), (1, S n), (2, aSl mP env), (10, I k)], [], 0, 0⟩) (fun k => k ≤ l.length) (fun k => l.length - k) ⟨0, [], Nat.zero_le _, by simp [Wk, wkF, wkM, wkL, look_cons, renV, renA, renC, renB, rn, clV, clA, clAs, clB, notIn, findB, findB_setB, clA.go]⟩ ?_
       intro k hk
       refine runW_sound ?_
       by_cases hlt : k < l.length
       ·have g1 := map_get (f := cP) hlt
        have hmem := List.getElem_mem hlt
        have p1 := lin_Coeff_abs l[k].1.1 l[k].1.2 n
        have p2 := PH.out _ hmem
        have hzk := HZ'.out _ hmem
        by_cases h0 : cf l[k].1.2 n = 0
        ·rw [decide_eq_true (hzk h0)] at p2
         rw [h0] at p1
         clear hzk h0 hmem
         generalize l[k] = c at *
         obtain ⟨⟨ck, cl⟩, q⟩ := c
         simp only [cP] at g1
         simp only at p1 p2
         repeat' first | simp (disch := omega) only [go_sem, ↓reduceIte, Nat.reduceEqDiff, reduceCtorEq, Int.reduceEq, g1, wrap_i64] | ((with_reducible first | refine condD ?_ ?_ | refine condX ?_ ?_ | refine condW_intro ?_ ?_) <;> intro h <;> first | (exfalso; omega) | simp (disch := omega) only [go_sem, ↓reduceIte, Nat.reduceEqDiff, reduceCtorEq, Int.reduceEq, *, g1, wrap_i64] | skip) | (refine callW_of p1 rfl (.inl rfl) ?_) | (refine callW_of p2 rfl (.inl rfl) ?_)
         exact ⟨k + 1, [], hlt, by omega, by simp [Wk, wkF, wkM, wkL, look_cons, renV, renA, renC, renB, rn, clV, clA, clAs, clB, notIn, findB, findB_setB, clA.go]⟩
        ·clear hzk hmem p2
         generalize cf l[k].1.2 n = A at *
         generalize l[k] = c at *
         obtain ⟨⟨ck, cl⟩, q⟩ := c
         simp only [cP] at g1
         simp only at p1
         repeat' first | simp (disch := omega) only [go_sem, ↓reduceIte, Nat.reduceEqDiff, reduceCtorEq, Int.reduceEq, g1, h0, wrap_i64] | ((with_reducible first | refine condD ?_ ?_ | refine condX ?_ ?_ | refine condW_intro ?_ ?_) <;> intro h <;> first | (exfalso; omega) | simp (disch := omega) only [go_sem, ↓reduceIte, Nat.reduceEqDiff, reduceCtorEq, Int.reduceEq, *, g1, h0, wrap_i64] | skip) | (refine callW_of p1 rfl (.inl rfl) ?_)
         exact ⟨k + 1, [], hlt, by omega, by simp [Wk, wkF, wkM, wkL, look_cons, renV, renA, renC, renB, rn, clV, clA, clAs, clB, notIn, findB, findB_setB, clA.go]⟩
       ·have hf := HF'.out
        have h1 := HONE.out
        have h2 := HONE'.out
        clear HF' HZ' PH HONE HONE'
        rcases h2 with rfl | ⟨v, rfl⟩
        ·clear hf
         rcases h1 with rfl | ⟨u, rfl⟩
         all_goals
          repeat' first | simp (disch := omega) only [go_sem, ↓reduceIte, Nat.reduceEqDiff, reduceCtorEq, Int.reduceEq, Int.toNat_zero, List.getElem?_cons_zero] | ((with_reducible first | refine condD ?_ ?_ | refine condX ?_ ?_ | refine condW_intro ?_ ?_) <;> intro h <;> first | (exfalso; omega) | simp (disch := omega) only [go_sem, ↓reduceIte, Nat.reduceEqDiff, reduceCtorEq, Int.reduceEq, *, Int.toNat_zero, List.getElem?_cons_zero] | skip) | (refine callW_of pb rfl (.inr rfl) ?_) | (refine callW_of law07_examples_abs rfl (.inl rfl) ?_)
          all_goals rfl
        ·rcases h1 with rfl | ⟨u, rfl⟩
         ·clear hf
          repeat' first | simp (disch := omega) only [go_sem, ↓reduceIte, Nat.reduceEqDiff, reduceCtorEq, Int.reduceEq, Int.toNat_zero, List.getElem?_cons_zero] | ((with_reducible first | refine condD ?_ ?_ | refine condX ?_ ?_ | refine condW_intro ?_ ?_) <;> intro h <;> first | (exfalso; omega) | simp (disch := omega) only [go_sem, ↓reduceIte, Nat.reduceEqDiff, reduceCtorEq, Int.reduceEq, *, Int.toNat_zero, List.getElem?_cons_zero] | skip) | (refine callW_of pb rfl (.inr rfl) ?_) | (refine callW_of law07_examples_abs rfl (.inl rfl) ?_)
          all_goals rfl
         ·obtain ⟨hv, hu, hc⟩ : frOk v ∧ frOk u ∧ frCmp v u ≤ 0 := by
           rcases hf with h | h | ⟨v', u', e1, e2, h3⟩
           ·cases h
           ·cases h
           ·cases e1; cases e2; exact h3
          clear hf
          have pc := frac_Compare_abs hv hu
          generalize frCmp v u = z at *
          obtain ⟨v1, v2⟩ := v
          obtain ⟨u1, u2⟩ := u
          repeat' first | simp (disch := omega) only [go_sem, ↓reduceIte, Nat.reduceEqDiff, reduceCtorEq, Int.reduceEq, hc, Int.toNat_zero, List.getElem?_cons_zero] | ((with_reducible first | refine condD ?_ ?_ | refine condX ?_ ?_ | refine condW_intro ?_ ?_) <;> intro h <;> first | (exfalso; omega) | simp (disch := omega) only [go_sem, ↓reduceIte, Nat.reduceEqDiff, reduceCtorEq, Int.reduceEq, *, hc, Int.toNat_zero, List.getElem?_cons_zero] | skip) | (refine callW_of pb rfl (.inr rfl) ?_) | (refine callW_of pc rfl (.inl rfl) ?_) | (refine callW_of law07_examples_abs rfl (.inl rfl) ?_)
          all_goals rfl
     ·have hz := elimS_err he
      clear hw hm hf ht henv hl
      generalize elimS l n = D at *
      obtain ⟨D, e⟩ := D
      simp only at he hz
      subst hz
      repeat' first | simp (disch := omega) only [go_sem, ↓reduceIte, Nat.reduceEqDiff, reduceCtorEq, Int.reduceEq, hn, he] | ((with_reducible first | refine condD ?_ ?_ | refine condX ?_ ?_ | refine condW_intro ?_ ?_) <;> intro h <;> first | (exfalso; omega) | simp (disch := omega) only [go_sem, ↓reduceIte, Nat.reduceEqDiff, reduceCtorEq, Int.reduceEq, *, hn, he] | skip) | (refine callW_of pf rfl (.inl rfl) ?_) | (refine callW_of pw rfl (.inl rfl) ?_) | (refine callW_of pm rfl (.inl rfl) ?_) | (refine callW_of q1 rfl (.inr rfl) ?_) | (refine callW_of law07_examples_abs rfl (.inl rfl) ?_)
      all_goals rfl
   ·rw [decide_eq_false hm] at pm
    clear hw hm hf
    repeat' first | simp (disch := omega) only [go_sem, ↓reduceIte, Nat.reduceEqDiff, reduceCtorEq, Int.reduceEq] | ((with_reducible first | refine condD ?_ ?_ | refine condX ?_ ?_ | refine condW_intro ?_ ?_) <;> intro h <;> first | (exfalso; omega) | simp (disch := omega) only [go_sem, ↓reduceIte, Nat.reduceEqDiff, reduceCtorEq, Int.reduceEq, *] | skip) | (refine callW_of pf rfl (.inl rfl) ?_) | (refine callW_of pw rfl (.inl rfl) ?_) | (refine callW_of pm rfl (.inl rfl) ?_) | (refine callW_of law07_examples_abs rfl (.inl rfl) ?_)
  ·rw [decide_eq_false hw] at pw
   clear hw hf
   repeat' first | simp (disch := omega) only [go_sem, ↓reduceIte, Nat.reduceEqDiff, reduceCtorEq, Int.reduceEq] | ((with_reducible first | refine condD ?_ ?_ | refine condX ?_ ?_ | refine condW_intro ?_ ?_) <;> intro h <;> first | (exfalso; omega) | simp (disch := omega) only [go_sem, ↓reduceIte, Nat.reduceEqDiff, reduceCtorEq, Int.reduceEq, *] | skip) | (refine callW_of pf rfl (.inl rfl) ?_) | (refine callW_of pw rfl (.inl rfl) ?_) | (refine callW_of pm rfl (.inl rfl) ?_) | (refine callW_of law07_examples_abs rfl (.inl rfl) ?_)
 ·rw [decide_eq_false hf] at pf
  clear hf
  repeat' first | simp (disch := omega) only [go_sem, ↓reduceIte, Nat.reduceEqDiff, reduceCtorEq, Int.reduceEq] | ((with_reducible first | refine condD ?_ ?_ | refine condX ?_ ?_ | refine condW_intro ?_ ?_) <;> intro h <;> first | (exfalso; omega) | simp (disch := omega) only [go_sem, ↓reduceIte, Nat.reduceEqDiff, reduceCtorEq, Int.reduceEq, *] | skip) | (refine callW_of pf rfl (.inl rfl) ?_) | (refine callW_of law07_examples_abs rfl (.inl rfl) ?_)
end Go.Proofs.Ytnddmjhpplopbaa
