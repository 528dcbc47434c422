/- Walks by the abstract machine: the reference's values of forms. -/
import Derived.Test.YtnddmjhpplopbaaV05c
set_option linter.unusedVariables false
set_option linter.unusedSimpArgs false
set_option maxRecDepth 20000
namespace Go.Proofs.Ytnddmjhpplopbaa
open Go.Abs Go.RowKit

/-- The sum of the monomials, where the names have values. -/
def lsum (f : ByteArray → Int) : List Mono → Int
 | [] => 0
 | m :: r => m.2 * f m.1 + lsum f r
theorem lsum_append (f : ByteArray → Int) : ∀ (l r : List Mono), lsum f (l ++ r) = lsum f l + lsum f r
 | [], r => by simp [lsum]
 | m :: l, r => by simp only [List.cons_append, lsum, lsum_append f l r, Int.add_assoc]
theorem lsum_take {f : ByteArray → Int} {l : List Mono} {j : Nat} (h : j < l.length) : lsum f (l.take (j + 1)) = lsum f (l.take j) + l[j].2 * f l[j].1 := by
 rw [List.take_succ_eq_append_getElem h, lsum_append]
 simp [lsum]
def valOf (env : List Mono) (s : ByteArray) : Int := (bnd env s).getD 0
/-- The value of a form. -/
noncomputable def evl (k : Int) (l : List Mono) (env : List Mono) : Int × Int :=
 if ¬ linOk l then (0, 1) else if ∃ m ∈ l, bnd env m.1 = none then (0, 9) else if in64 (k + lsum (valOf env) l) then (k + lsum (valOf env) l, 0) else (0, 3)
theorem bnd_mem {env : List Mono} {s : ByteArray} {x : Int} (h : bnd env s = some x) : ∃ m ∈ env, m.2 = x := by
 induction env with
 | nil => cases h
 | cons m r ih =>
  rw [bnd] at h
  split at h
  ·cases h; exact ⟨m, List.mem_cons_self, rfl⟩
  ·obtain ⟨m', h1, h2⟩ := ih h
   exact ⟨m', List.mem_cons_of_mem _ h1, h2⟩
theorem natAbs_mul_bd {a b : Int} (ha : in64 a) (hb : in64 b) : 0 ≤ (a.natAbs : Int) * b.natAbs ∧ (a.natAbs : Int) * b.natAbs ≤ 85070591730234615865843651857942052864 := by
 have h1 : (a.natAbs : Int) ≤ 9223372036854775808 := by unfold in64 at ha; omega
 have h2 : (b.natAbs : Int) ≤ 9223372036854775808 := by unfold in64 at hb; omega
 refine ⟨Int.mul_nonneg (by omega) (by omega), ?_⟩
 have := Int.mul_le_mul h1 h2 (by omega) (by omega)
 omega
theorem mul_sign_pos {a b : Int} (h : (a < 0 ∧ b < 0) ∨ (¬ a < 0 ∧ ¬ b < 0)) : (a.natAbs : Int) * b.natAbs = b * a := by
 rcases h with ⟨h1, h2⟩ | ⟨h1, h2⟩
 ·rw [show (a.natAbs : Int) = -a by omega, show (b.natAbs : Int) = -b by omega, Int.neg_mul_neg, Int.mul_comm]
 ·rw [show (a.natAbs : Int) = a by omega, show (b.natAbs : Int) = b by omega, Int.mul_comm]
theorem mul_sign_neg {a b : Int} (h : (a < 0 ∧ ¬ b < 0) ∨ (¬ a < 0 ∧ b < 0)) : (a.natAbs : Int) * b.natAbs = -(b * a) := by
 rcases h with ⟨h1, h2⟩ | ⟨h1, h2⟩
 ·rw [show (a.natAbs : Int) = -a by omega, show (b.natAbs : Int) = b by omega, Int.neg_mul, Int.mul_comm]
 ·rw [show (a.natAbs : Int) = a by omega, show (b.natAbs : Int) = -b by omega, Int.mul_neg, Int.mul_comm]
theorem dg_zero : dg 0 = fun _ => 0 := by
 funext j
 simp [dg]

set_option maxHeartbeats 2000000 in
theorem ref05_Eval_abs {k : Int} {l env : List Mono} (hk : in64 k) (hl64 : ∀ m ∈ l, in64 m.2) (he64 : ∀ m ∈ env, in64 m.2) : PCalls Try.prog n_ref05_Eval [aLin k l, aSl mP env] (.tup [I (evl k l env).1, I (evl k l env).2]) := by
 refine PCalls.of is_ref05_Eval (by simp) fun hb => runW_sound ?_
 have hl := bnd_lin hb.1
 simp only [c_ref05_Eval]
 by_cases h1 : linOk l
 ·have pk := ref05_size_abs hk
  have hka : (k.natAbs : Int) ≤ 9223372036854775808 := by unfold in64 at hk; omega
  have fnd := ref05_find_abs env
  have v64 : ∀ s x, bnd env s = some x → in64 x := fun s x h => by
   obtain ⟨m, hm, rfl⟩ := bnd_mem h
   exact he64 m hm
  by_cases hneg : k < 0
  ·have pp := ref05_plus_abs (x := 0) (a := k.natAbs) (b := 1) (by omega) (by omega) (by omega) (by omega) (by omega) (by simp only [Bp]; omega)
   rw [show (0 : Int) + k.natAbs * 1 = k.natAbs by omega] at pp
   have z0 : (fun _ : Nat => (0 : Int)) = dg 0 := dg_zero.symm
   have e0 : dg 0 0 = 0 := by simp [dg]
   simp only [aW, u6, dg_zero] at pp
   repeat' first | simp (disch := omega) only [go_sem, ↓reduceIte, Nat.reduceEqDiff, reduceCtorEq, Int.reduceEq, h1] | ((with_reducible first | refine condD ?_ ?_ | refine condX ?_ ?_ | refine condW_intro ?_ ?_) <;> intro h <;> first | (exfalso; omega) | simp (disch := omega) only [go_sem, ↓reduceIte, Nat.reduceEqDiff, reduceCtorEq, Int.reduceEq, *, h1] | skip) | (refine callW_of (ref05_Validate_abs _ _) rfl (.inl rfl) ?_) | (refine callW_of pk rfl (.inl rfl) ?_) | (refine callW_of pp rfl (.inl rfl) ?_)
   refine AW_loop (fun s : Nat × Int × Int => ⟨[(1, aSl mP env), (2, .c (.ptr 0 0)), (6, .c (.ptr 1 0)), (7, .c (.ptr 2 0)), (8, I s.1)], [(0, .var [.pure (pI k), .pure (pMonos l)]), (1, .var (u6 (dg s.2.1))), (2, .var (u6 (dg s.2.2)))], 3, 0⟩)
    (fun s => s.1 ≤ l.length ∧ 0 ≤ s.2.1 ∧ 0 ≤ s.2.2 ∧ s.2.1 ≤ 9223372036854775808 + s.1 * 85070591730234615865843651857942052864 ∧ s.2.2 ≤ 9223372036854775808 + s.1 * 85070591730234615865843651857942052864 ∧ Hid (s.2.1 - s.2.2 = k + lsum (valOf env) (l.take s.1)) ∧ upTo (fun i => ∀ h : i < l.length, bnd env l[i].1 ≠ none) s.1) (fun s => l.length - s.1) ⟨(0, (0 : Int), (k.natAbs : Int)), [], ⟨Nat.zero_le _, by show (0 : Int) ≤ (0 : Int); omega, by show (0 : Int) ≤ (k.natAbs : Int); omega, by show (0 : Int) ≤ (9223372036854775808 : Int) + ((0 : Nat) : Int) * _; omega, by show (k.natAbs : Int) ≤ (9223372036854775808 : Int) + ((0 : Nat) : Int) * _; omega, ?_, .zero⟩, ?_⟩ ?_
   ·show _ = _
    simp only [List.take_zero, lsum]
    omega
   ·simp [Wk, wkF, wkM, wkL, look_cons, renV, renA, renC, renB, rn, clV, clA, clAs, clB, notIn, findB, findB_setB, clA.go, dg_zero]
   rintro ⟨j, p, n⟩ ⟨hj, hp0, hn0, hp1, hn1, hs, hall⟩
   refine runW_sound ?_
   simp only at hj hp0 hn0 hp1 hn1
   clear pp pk
   by_cases hlt : j < l.length
   ·have hm := List.getElem_mem hlt
    have h64 := hl64 _ hm
    cases hx : bnd env l[j].1 with
    | none =>
     have hex : ∃ m ∈ l, bnd env m.1 = none := ⟨l[j], hm, hx⟩
     rw [evl, if_neg (not_not_intro h1), if_pos hex]
     have hE := fnd l[j].1
     rw [hx] at hE
     clear hex hs hall hx
     repeat' first | simp (disch := omega) only [go_sem, ↓reduceIte, Nat.reduceEqDiff, reduceCtorEq, Int.reduceEq, map_get hlt, mP] | ((with_reducible first | refine condD ?_ ?_ | refine condX ?_ ?_ | refine condW_intro ?_ ?_) <;> intro h <;> first | (exfalso; omega) | simp (disch := omega) only [go_sem, ↓reduceIte, Nat.reduceEqDiff, reduceCtorEq, Int.reduceEq, *, map_get hlt, mP] | skip) | (refine callW_of hE rfl (.inl rfl) ?_)
     all_goals (simp at *; done)
    | some x =>
     have hE := fnd l[j].1
     rw [hx] at hE
     have hx64 := v64 _ _ hx
     have hbd := natAbs_mul_bd hx64 h64
     have q1 := ref05_size_abs hx64
     have q2 := ref05_size_abs h64
     have hjl : (j : Int) < 9223372036854775807 := by omega
     have hx0 : (x.natAbs : Int) < 18446744073709551616 := by unfold in64 at hx64; omega
     have hl0 : (l[j].2.natAbs : Int) < 18446744073709551616 := by unfold in64 at h64; omega
     have ap := ref05_plus_abs (x := p) (a := x.natAbs) (b := l[j].2.natAbs) hp0 (by omega) hx0 (by omega) hl0 (by simp only [Bp]; omega)
     have an := ref05_plus_abs (x := n) (a := x.natAbs) (b := l[j].2.natAbs) hn0 (by omega) hx0 (by omega) hl0 (by simp only [Bp]; omega)
     have hv : valOf env l[j].1 = x := by rw [valOf, hx]; rfl
     have HX := Lib.hid hx
     clear hx
     have stepP : (x < 0 ∧ l[j].2 < 0) ∨ (¬ x < 0 ∧ ¬ l[j].2 < 0) → Hid (p + (x.natAbs : Int) * l[j].2.natAbs - n = k + lsum (valOf env) (l.take (j + 1))) := fun h => by
      show _ = _
      rw [lsum_take hlt, hv, mul_sign_pos h]
      have := hs.out
      simp only at this
      omega
     have stepN : (x < 0 ∧ ¬ l[j].2 < 0) ∨ (¬ x < 0 ∧ l[j].2 < 0) → Hid (p - (n + (x.natAbs : Int) * l[j].2.natAbs) = k + lsum (valOf env) (l.take (j + 1))) := fun h => by
      show _ = _
      rw [lsum_take hlt, hv, mul_sign_neg h]
      have := hs.out
      simp only at this
      omega
     have HP := Lib.hid stepP
     have HN := Lib.hid stepN
     have nxt := hall.succ (p := fun i => ∀ h : i < l.length, bnd env l[i].1 ≠ none) fun _ => by rw [HX.out]; simp
     have NX := Lib.hid nxt
     clear stepP stepN hs hall hv hm nxt
     by_cases hxn : x < 0
     ·by_cases hbn : l[j].2 < 0
      ·repeat' first | simp (disch := omega) only [go_sem, ↓reduceIte, Nat.reduceEqDiff, reduceCtorEq, Int.reduceEq, map_get hlt, mP, wrap_i64, Option.getD_some, Option.isSome_some, hxn, hbn] | ((with_reducible first | refine condD ?_ ?_ | refine condX ?_ ?_ | refine condW_intro ?_ ?_) <;> intro h <;> first | (exfalso; omega) | simp (disch := omega) only [go_sem, ↓reduceIte, Nat.reduceEqDiff, reduceCtorEq, Int.reduceEq, *, map_get hlt, mP, wrap_i64, Option.getD_some, Option.isSome_some, hxn, hbn] | skip) | (refine callW_of hE rfl (.inl rfl) ?_) | (refine callW_of q1 rfl (.inl rfl) ?_) | (refine callW_of q2 rfl (.inl rfl) ?_) | (refine callW_of ap rfl (.inl rfl) ?_) | (refine callW_of an rfl (.inl rfl) ?_)
       refine ⟨(j + 1, p + (x.natAbs : Int) * l[j].2.natAbs, n), [], ⟨hlt, by show 0 ≤ p + _; omega, hn0, by show p + _ ≤ _; omega, by show n ≤ _; omega, HP.out (.inl ⟨hxn, hbn⟩), NX.out⟩, by show _ - _ < _ - _; omega, by simp [Wk, wkF, wkM, wkL, look_cons, renV, renA, renC, renB, rn, clV, clA, clAs, clB, notIn, findB, findB_setB, clA.go]⟩
      ·repeat' first | simp (disch := omega) only [go_sem, ↓reduceIte, Nat.reduceEqDiff, reduceCtorEq, Int.reduceEq, map_get hlt, mP, wrap_i64, Option.getD_some, Option.isSome_some, hxn, hbn] | ((with_reducible first | refine condD ?_ ?_ | refine condX ?_ ?_ | refine condW_intro ?_ ?_) <;> intro h <;> first | (exfalso; omega) | simp (disch := omega) only [go_sem, ↓reduceIte, Nat.reduceEqDiff, reduceCtorEq, Int.reduceEq, *, map_get hlt, mP, wrap_i64, Option.getD_some, Option.isSome_some, hxn, hbn] | skip) | (refine callW_of hE rfl (.inl rfl) ?_) | (refine callW_of q1 rfl (.inl rfl) ?_) | (refine callW_of q2 rfl (.inl rfl) ?_) | (refine callW_of ap rfl (.inl rfl) ?_) | (refine callW_of an rfl (.inl rfl) ?_)
       refine ⟨(j + 1, p, n + (x.natAbs : Int) * l[j].2.natAbs), [], ⟨hlt, hp0, by show 0 ≤ n + _; omega, by show p ≤ _; omega, by show n + _ ≤ _; omega, HN.out (.inl ⟨hxn, hbn⟩), NX.out⟩, by show _ - _ < _ - _; omega, by simp [Wk, wkF, wkM, wkL, look_cons, renV, renA, renC, renB, rn, clV, clA, clAs, clB, notIn, findB, findB_setB, clA.go]⟩
     ·by_cases hbn : l[j].2 < 0
      ·repeat' first | simp (disch := omega) only [go_sem, ↓reduceIte, Nat.reduceEqDiff, reduceCtorEq, Int.reduceEq, map_get hlt, mP, wrap_i64, Option.getD_some, Option.isSome_some, hxn, hbn] | ((with_reducible first | refine condD ?_ ?_ | refine condX ?_ ?_ | refine condW_intro ?_ ?_) <;> intro h <;> first | (exfalso; omega) | simp (disch := omega) only [go_sem, ↓reduceIte, Nat.reduceEqDiff, reduceCtorEq, Int.reduceEq, *, map_get hlt, mP, wrap_i64, Option.getD_some, Option.isSome_some, hxn, hbn] | skip) | (refine callW_of hE rfl (.inl rfl) ?_) | (refine callW_of q1 rfl (.inl rfl) ?_) | (refine callW_of q2 rfl (.inl rfl) ?_) | (refine callW_of ap rfl (.inl rfl) ?_) | (refine callW_of an rfl (.inl rfl) ?_)
       refine ⟨(j + 1, p, n + (x.natAbs : Int) * l[j].2.natAbs), [], ⟨hlt, hp0, by show 0 ≤ n + _; omega, by show p ≤ _; omega, by show n + _ ≤ _; omega, HN.out (.inr ⟨hxn, hbn⟩), NX.out⟩, by show _ - _ < _ - _; omega, by simp [Wk, wkF, wkM, wkL, look_cons, renV, renA, renC, renB, rn, clV, clA, clAs, clB, notIn, findB, findB_setB, clA.go]⟩
      ·repeat' first | simp (disch := omega) only [go_sem, ↓reduceIte, Nat.reduceEqDiff, reduceCtorEq, Int.reduceEq, map_get hlt, mP, wrap_i64, Option.getD_some, Option.isSome_some, hxn, hbn] | ((with_reducible first | refine condD ?_ ?_ | refine condX ?_ ?_ | refine condW_intro ?_ ?_) <;> intro h <;> first | (exfalso; omega) | simp (disch := omega) only [go_sem, ↓reduceIte, Nat.reduceEqDiff, reduceCtorEq, Int.reduceEq, *, map_get hlt, mP, wrap_i64, Option.getD_some, Option.isSome_some, hxn, hbn] | skip) | (refine callW_of hE rfl (.inl rfl) ?_) | (refine callW_of q1 rfl (.inl rfl) ?_) | (refine callW_of q2 rfl (.inl rfl) ?_) | (refine callW_of ap rfl (.inl rfl) ?_) | (refine callW_of an rfl (.inl rfl) ?_)
       refine ⟨(j + 1, p + (x.natAbs : Int) * l[j].2.natAbs, n), [], ⟨hlt, by show 0 ≤ p + _; omega, hn0, by show p + _ ≤ _; omega, by show n ≤ _; omega, HP.out (.inr ⟨hxn, hbn⟩), NX.out⟩, by show _ - _ < _ - _; omega, by simp [Wk, wkF, wkM, wkL, look_cons, renV, renA, renC, renB, rn, clV, clA, clAs, clB, notIn, findB, findB_setB, clA.go]⟩
   ·have hex : ¬ ∃ m ∈ l, bnd env m.1 = none := by
     rintro ⟨m, hm, he⟩
     obtain ⟨i, hi, rfl⟩ := List.mem_iff_getElem.1 hm
     exact hall i (by omega) hi he
    have hS := hs.out
    simp only at hS
    rw [List.take_of_length_le (by omega)] at hS
    rw [evl, if_neg (not_not_intro h1), if_neg hex, ← hS]
    have hjl : (j : Int) ≤ 9223372036854775807 := by omega
    clear hs hall hex hS fnd v64 hl64 he64
    by_cases hlt2 : p < n
    ·have cl := ref05_less_abs (x := p) (y := n) hp0 (by simp only [Bp]; omega) hn0 (by simp only [Bp]; omega)
     rw [decide_eq_true hlt2] at cl
     have cm : PCalls Try.prog n_ref05_minus [aW n, aW p] (.agg (u6 (dg (n - p)))) := ref05_minus_abs (x := n) (y := p) (by simp only [Bp]; omega) hp0 (by omega)
     have sD := dg_sum (x := n - p) (by omega) (by simp only [Bp]; omega)
     have dD := dg_dig (n - p)
     generalize dg (n - p) = d at *
     have d0 := dD 0 (by omega)
     have d1 := dD 1 (by omega)
     have d2 := dD 2 (by omega)
     have d3 := dD 3 (by omega)
     have d4 := dD 4 (by omega)
     have d5 := dD 5 (by omega)
     simp only [w6sum, Bp] at sD
     clear dD
     have hR : p - n = -(d 0 + d 1 * 4294967296 + d 2 * 18446744073709551616 + d 3 * 79228162514264337593543950336 + d 4 * 340282366920938463463374607431768211456 + d 5 * 1461501637330902918203684832716283019655932542976) := by omega
     have hlow : in64 (p - n) ↔ (d 2 = 0 ∧ d 3 = 0 ∧ d 4 = 0 ∧ d 5 = 0 ∧ d 0 + d 1 * 4294967296 ≤ 9223372036854775808) := by unfold in64; omega
     have hpos : 0 < d 0 + d 1 * 4294967296 + d 2 * 18446744073709551616 + d 3 * 79228162514264337593543950336 + d 4 * 340282366920938463463374607431768211456 + d 5 * 1461501637330902918203684832716283019655932542976 := by omega
     by_cases hin : in64 (p - n)
     ·rw [if_pos hin]
      obtain ⟨z2, z3, z4, z5, zz⟩ := hlow.1 hin
      have e1 : p - n = -(d 0 + d 1 * 4294967296) := by omega
      rw [e1]
      clear hlow hR sD e1 hlt2
      repeat' first | simp (disch := omega) only [go_sem, ↓reduceIte, Nat.reduceEqDiff, reduceCtorEq, Int.reduceEq, z2, z3, z4, z5, Int.toNat_natCast, Int.toNat_zero, show Int.toNat 1 = 1 from rfl, show Int.toNat 2 = 2 from rfl, show Int.toNat 3 = 3 from rfl, show Int.toNat 4 = 4 from rfl, show Int.toNat 5 = 5 from rfl, Nat.mul_one, wrap_u64, wrap_i64] | ((with_reducible first | refine condD ?_ ?_ | refine condX ?_ ?_ | refine condW_intro ?_ ?_) <;> intro h <;> first | (exfalso; omega) | simp (disch := omega) only [go_sem, ↓reduceIte, Nat.reduceEqDiff, reduceCtorEq, Int.reduceEq, *, z2, z3, z4, z5, Int.toNat_natCast, Int.toNat_zero, show Int.toNat 1 = 1 from rfl, show Int.toNat 2 = 2 from rfl, show Int.toNat 3 = 3 from rfl, show Int.toNat 4 = 4 from rfl, show Int.toNat 5 = 5 from rfl, Nat.mul_one, wrap_u64, wrap_i64] | skip) | (refine callW_of cl rfl (.inl rfl) ?_) | (refine callW_of cm rfl (.inl rfl) ?_)
      rw [show 0 - (d 0 + d 1 * 4294967296 - 1) - 1 = -(d 0 + d 1 * 4294967296) by omega]
     ·rw [if_neg hin]
      have hno : ¬ (d 2 = 0 ∧ d 3 = 0 ∧ d 4 = 0 ∧ d 5 = 0 ∧ d 0 + d 1 * 4294967296 ≤ 9223372036854775808) := fun h => hin (hlow.2 h)
      clear hlow hR sD hlt2
      repeat' first | simp (disch := omega) only [go_sem, ↓reduceIte, Nat.reduceEqDiff, reduceCtorEq, Int.reduceEq, Int.toNat_natCast, Int.toNat_zero, show Int.toNat 1 = 1 from rfl, show Int.toNat 2 = 2 from rfl, show Int.toNat 3 = 3 from rfl, show Int.toNat 4 = 4 from rfl, show Int.toNat 5 = 5 from rfl, Nat.mul_one, wrap_u64, wrap_i64] | ((with_reducible first | refine condD ?_ ?_ | refine condX ?_ ?_ | refine condW_intro ?_ ?_) <;> intro h <;> first | (exfalso; omega) | simp (disch := omega) only [go_sem, ↓reduceIte, Nat.reduceEqDiff, reduceCtorEq, Int.reduceEq, *, Int.toNat_natCast, Int.toNat_zero, show Int.toNat 1 = 1 from rfl, show Int.toNat 2 = 2 from rfl, show Int.toNat 3 = 3 from rfl, show Int.toNat 4 = 4 from rfl, show Int.toNat 5 = 5 from rfl, Nat.mul_one, wrap_u64, wrap_i64] | skip) | (refine callW_of cl rfl (.inl rfl) ?_) | (refine callW_of cm rfl (.inl rfl) ?_)
    ·have cl := ref05_less_abs (x := p) (y := n) hp0 (by simp only [Bp]; omega) hn0 (by simp only [Bp]; omega)
     rw [decide_eq_false hlt2] at cl
     have cm : PCalls Try.prog n_ref05_minus [aW p, aW n] (.agg (u6 (dg (p - n)))) := ref05_minus_abs (x := p) (y := n) (by simp only [Bp]; omega) hn0 (by omega)
     have sD := dg_sum (x := p - n) (by omega) (by simp only [Bp]; omega)
     have dD := dg_dig (p - n)
     generalize dg (p - n) = d at *
     have d0 := dD 0 (by omega)
     have d1 := dD 1 (by omega)
     have d2 := dD 2 (by omega)
     have d3 := dD 3 (by omega)
     have d4 := dD 4 (by omega)
     have d5 := dD 5 (by omega)
     simp only [w6sum, Bp] at sD
     clear dD
     have hR : p - n = (d 0 + d 1 * 4294967296 + d 2 * 18446744073709551616 + d 3 * 79228162514264337593543950336 + d 4 * 340282366920938463463374607431768211456 + d 5 * 1461501637330902918203684832716283019655932542976) := by omega
     have hlow : in64 (p - n) ↔ (d 2 = 0 ∧ d 3 = 0 ∧ d 4 = 0 ∧ d 5 = 0 ∧ d 0 + d 1 * 4294967296 ≤ 9223372036854775807) := by unfold in64; omega
     have hpos : 0 ≤ d 0 + d 1 * 4294967296 + d 2 * 18446744073709551616 + d 3 * 79228162514264337593543950336 + d 4 * 340282366920938463463374607431768211456 + d 5 * 1461501637330902918203684832716283019655932542976 := by omega
     by_cases hin : in64 (p - n)
     ·rw [if_pos hin]
      obtain ⟨z2, z3, z4, z5, zz⟩ := hlow.1 hin
      have e1 : p - n = d 0 + d 1 * 4294967296 := by omega
      rw [e1]
      clear hlow hR sD e1 hlt2
      repeat' first | simp (disch := omega) only [go_sem, ↓reduceIte, Nat.reduceEqDiff, reduceCtorEq, Int.reduceEq, z2, z3, z4, z5, Int.toNat_natCast, Int.toNat_zero, show Int.toNat 1 = 1 from rfl, show Int.toNat 2 = 2 from rfl, show Int.toNat 3 = 3 from rfl, show Int.toNat 4 = 4 from rfl, show Int.toNat 5 = 5 from rfl, Nat.mul_one, wrap_u64, wrap_i64] | ((with_reducible first | refine condD ?_ ?_ | refine condX ?_ ?_ | refine condW_intro ?_ ?_) <;> intro h <;> first | (exfalso; omega) | simp (disch := omega) only [go_sem, ↓reduceIte, Nat.reduceEqDiff, reduceCtorEq, Int.reduceEq, *, z2, z3, z4, z5, Int.toNat_natCast, Int.toNat_zero, show Int.toNat 1 = 1 from rfl, show Int.toNat 2 = 2 from rfl, show Int.toNat 3 = 3 from rfl, show Int.toNat 4 = 4 from rfl, show Int.toNat 5 = 5 from rfl, Nat.mul_one, wrap_u64, wrap_i64] | skip) | (refine callW_of cl rfl (.inl rfl) ?_) | (refine callW_of cm rfl (.inl rfl) ?_)
     ·rw [if_neg hin]
      have hno : ¬ (d 2 = 0 ∧ d 3 = 0 ∧ d 4 = 0 ∧ d 5 = 0 ∧ d 0 + d 1 * 4294967296 ≤ 9223372036854775807) := fun h => hin (hlow.2 h)
      clear hlow hR sD hlt2
      repeat' first | simp (disch := omega) only [go_sem, ↓reduceIte, Nat.reduceEqDiff, reduceCtorEq, Int.reduceEq, Int.toNat_natCast, Int.toNat_zero, show Int.toNat 1 = 1 from rfl, show Int.toNat 2 = 2 from rfl, show Int.toNat 3 = 3 from rfl, show Int.toNat 4 = 4 from rfl, show Int.toNat 5 = 5 from rfl, Nat.mul_one, wrap_u64, wrap_i64] | ((with_reducible first | refine condD ?_ ?_ | refine condX ?_ ?_ | refine condW_intro ?_ ?_) <;> intro h <;> first | (exfalso; omega) | simp (disch := omega) only [go_sem, ↓reduceIte, Nat.reduceEqDiff, reduceCtorEq, Int.reduceEq, *, Int.toNat_natCast, Int.toNat_zero, show Int.toNat 1 = 1 from rfl, show Int.toNat 2 = 2 from rfl, show Int.toNat 3 = 3 from rfl, show Int.toNat 4 = 4 from rfl, show Int.toNat 5 = 5 from rfl, Nat.mul_one, wrap_u64, wrap_i64] | skip) | (refine callW_of cl rfl (.inl rfl) ?_) | (refine callW_of cm rfl (.inl rfl) ?_)
  ·have pp := ref05_plus_abs (x := 0) (a := k.natAbs) (b := 1) (by omega) (by omega) (by omega) (by omega) (by omega) (by simp only [Bp]; omega)
   rw [show (0 : Int) + k.natAbs * 1 = k.natAbs by omega] at pp
   simp only [aW, u6, dg_zero] at pp
   repeat' first | simp (disch := omega) only [go_sem, ↓reduceIte, Nat.reduceEqDiff, reduceCtorEq, Int.reduceEq, h1] | ((with_reducible first | refine condD ?_ ?_ | refine condX ?_ ?_ | refine condW_intro ?_ ?_) <;> intro h <;> first | (exfalso; omega) | simp (disch := omega) only [go_sem, ↓reduceIte, Nat.reduceEqDiff, reduceCtorEq, Int.reduceEq, *, h1] | skip) | (refine callW_of (ref05_Validate_abs _ _) rfl (.inl rfl) ?_) | (refine callW_of pk rfl (.inl rfl) ?_) | (refine callW_of pp rfl (.inl rfl) ?_)
   refine AW_loop (fun s : Nat × Int × Int => ⟨[(1, aSl mP env), (2, .c (.ptr 0 0)), (6, .c (.ptr 1 0)), (7, .c (.ptr 2 0)), (8, I s.1)], [(0, .var [.pure (pI k), .pure (pMonos l)]), (1, .var (u6 (dg s.2.1))), (2, .var (u6 (dg s.2.2)))], 3, 0⟩)
    (fun s => s.1 ≤ l.length ∧ 0 ≤ s.2.1 ∧ 0 ≤ s.2.2 ∧ s.2.1 ≤ 9223372036854775808 + s.1 * 85070591730234615865843651857942052864 ∧ s.2.2 ≤ 9223372036854775808 + s.1 * 85070591730234615865843651857942052864 ∧ Hid (s.2.1 - s.2.2 = k + lsum (valOf env) (l.take s.1)) ∧ upTo (fun i => ∀ h : i < l.length, bnd env l[i].1 ≠ none) s.1) (fun s => l.length - s.1) ⟨(0, (k.natAbs : Int), (0 : Int)), [], ⟨Nat.zero_le _, by show (0 : Int) ≤ (k.natAbs : Int); omega, by show (0 : Int) ≤ (0 : Int); omega, by show (k.natAbs : Int) ≤ (9223372036854775808 : Int) + ((0 : Nat) : Int) * _; omega, by show (0 : Int) ≤ (9223372036854775808 : Int) + ((0 : Nat) : Int) * _; omega, ?_, .zero⟩, ?_⟩ ?_
   ·show _ = _
    simp only [List.take_zero, lsum]
    omega
   ·simp [Wk, wkF, wkM, wkL, look_cons, renV, renA, renC, renB, rn, clV, clA, clAs, clB, notIn, findB, findB_setB, clA.go, dg_zero]
   rintro ⟨j, p, n⟩ ⟨hj, hp0, hn0, hp1, hn1, hs, hall⟩
   refine runW_sound ?_
   simp only at hj hp0 hn0 hp1 hn1
   clear pp pk
   by_cases hlt : j < l.length
   ·have hm := List.getElem_mem hlt
    have h64 := hl64 _ hm
    cases hx : bnd env l[j].1 with
    | none =>
     have hex : ∃ m ∈ l, bnd env m.1 = none := ⟨l[j], hm, hx⟩
     rw [evl, if_neg (not_not_intro h1), if_pos hex]
     have hE := fnd l[j].1
     rw [hx] at hE
     clear hex hs hall hx
     repeat' first | simp (disch := omega) only [go_sem, ↓reduceIte, Nat.reduceEqDiff, reduceCtorEq, Int.reduceEq, map_get hlt, mP] | ((with_reducible first | refine condD ?_ ?_ | refine condX ?_ ?_ | refine condW_intro ?_ ?_) <;> intro h <;> first | (exfalso; omega) | simp (disch := omega) only [go_sem, ↓reduceIte, Nat.reduceEqDiff, reduceCtorEq, Int.reduceEq, *, map_get hlt, mP] | skip) | (refine callW_of hE rfl (.inl rfl) ?_)
     all_goals (simp at *; done)
    | some x =>
     have hE := fnd l[j].1
     rw [hx] at hE
     have hx64 := v64 _ _ hx
     have hbd := natAbs_mul_bd hx64 h64
     have q1 := ref05_size_abs hx64
     have q2 := ref05_size_abs h64
     have hjl : (j : Int) < 9223372036854775807 := by omega
     have hx0 : (x.natAbs : Int) < 18446744073709551616 := by unfold in64 at hx64; omega
     have hl0 : (l[j].2.natAbs : Int) < 18446744073709551616 := by unfold in64 at h64; omega
     have ap := ref05_plus_abs (x := p) (a := x.natAbs) (b := l[j].2.natAbs) hp0 (by omega) hx0 (by omega) hl0 (by simp only [Bp]; omega)
     have an := ref05_plus_abs (x := n) (a := x.natAbs) (b := l[j].2.natAbs) hn0 (by omega) hx0 (by omega) hl0 (by simp only [Bp]; omega)
     have hv : valOf env l[j].1 = x := by rw [valOf, hx]; rfl
     have HX := Lib.hid hx
     clear hx
     have stepP : (x < 0 ∧ l[j].2 < 0) ∨ (¬ x < 0 ∧ ¬ l[j].2 < 0) → Hid (p + (x.natAbs : Int) * l[j].2.natAbs - n = k + lsum (valOf env) (l.take (j + 1))) := fun h => by
      show _ = _
      rw [lsum_take hlt, hv, mul_sign_pos h]
      have := hs.out
      simp only at this
      omega
     have stepN : (x < 0 ∧ ¬ l[j].2 < 0) ∨ (¬ x < 0 ∧ l[j].2 < 0) → Hid (p - (n + (x.natAbs : Int) * l[j].2.natAbs) = k + lsum (valOf env) (l.take (j + 1))) := fun h => by
      show _ = _
      rw [lsum_take hlt, hv, mul_sign_neg h]
      have := hs.out
      simp only at this
      omega
     have HP := Lib.hid stepP
     have HN := Lib.hid stepN
     have nxt := hall.succ (p := fun i => ∀ h : i < l.length, bnd env l[i].1 ≠ none) fun _ => by rw [HX.out]; simp
     have NX := Lib.hid nxt
     clear stepP stepN hs hall hv hm nxt
     by_cases hxn : x < 0
     ·by_cases hbn : l[j].2 < 0
      ·repeat' first | simp (disch := omega) only [go_sem, ↓reduceIte, Nat.reduceEqDiff, reduceCtorEq, Int.reduceEq, map_get hlt, mP, wrap_i64, Option.getD_some, Option.isSome_some, hxn, hbn] | ((with_reducible first | refine condD ?_ ?_ | refine condX ?_ ?_ | refine condW_intro ?_ ?_) <;> intro h <;> first | (exfalso; omega) | simp (disch := omega) only [go_sem, ↓reduceIte, Nat.reduceEqDiff, reduceCtorEq, Int.reduceEq, *, map_get hlt, mP, wrap_i64, Option.getD_some, Option.isSome_some, hxn, hbn] | skip) | (refine callW_of hE rfl (.inl rfl) ?_) | (refine callW_of q1 rfl (.inl rfl) ?_) | (refine callW_of q2 rfl (.inl rfl) ?_) | (refine callW_of ap rfl (.inl rfl) ?_) | (refine callW_of an rfl (.inl rfl) ?_)
       refine ⟨(j + 1, p + (x.natAbs : Int) * l[j].2.natAbs, n), [], ⟨hlt, by show 0 ≤ p + _; omega, hn0, by show p + _ ≤ _; omega, by show n ≤ _; omega, HP.out (.inl ⟨hxn, hbn⟩), NX.out⟩, by show _ - _ < _ - _; omega, by simp [Wk, wkF, wkM, wkL, look_cons, renV, renA, renC, renB, rn, clV, clA, clAs, clB, notIn, findB, findB_setB, clA.go]⟩
      ·repeat' first | simp (disch := omega) only [go_sem, ↓reduceIte, Nat.reduceEqDiff, reduceCtorEq, Int.reduceEq, map_get hlt, mP, wrap_i64, Option.getD_some, Option.isSome_some, hxn, hbn] | ((with_reducible first | refine condD ?_ ?_ | refine condX ?_ ?_ | refine condW_intro ?_ ?_) <;> intro h <;> first | (exfalso; omega) | simp (disch := omega) only [go_sem, ↓reduceIte, Nat.reduceEqDiff, reduceCtorEq, Int.reduceEq, *, map_get hlt, mP, wrap_i64, Option.getD_some, Option.isSome_some, hxn, hbn] | skip) | (refine callW_of hE rfl (.inl rfl) ?_) | (refine callW_of q1 rfl (.inl rfl) ?_) | (refine callW_of q2 rfl (.inl rfl) ?_) | (refine callW_of ap rfl (.inl rfl) ?_) | (refine callW_of an rfl (.inl rfl) ?_)
       refine ⟨(j + 1, p, n + (x.natAbs : Int) * l[j].2.natAbs), [], ⟨hlt, hp0, by show 0 ≤ n + _; omega, by show p ≤ _; omega, by show n + _ ≤ _; omega, HN.out (.inl ⟨hxn, hbn⟩), NX.out⟩, by show _ - _ < _ - _; omega, by simp [Wk, wkF, wkM, wkL, look_cons, renV, renA, renC, renB, rn, clV, clA, clAs, clB, notIn, findB, findB_setB, clA.go]⟩
     ·by_cases hbn : l[j].2 < 0
      ·repeat' first | simp (disch := omega) only [go_sem, ↓reduceIte, Nat.reduceEqDiff, reduceCtorEq, Int.reduceEq, map_get hlt, mP, wrap_i64, Option.getD_some, Option.isSome_some, hxn, hbn] | ((with_reducible first | refine condD ?_ ?_ | refine condX ?_ ?_ | refine condW_intro ?_ ?_) <;> intro h <;> first | (exfalso; omega) | simp (disch := omega) only [go_sem, ↓reduceIte, Nat.reduceEqDiff, reduceCtorEq, Int.reduceEq, *, map_get hlt, mP, wrap_i64, Option.getD_some, Option.isSome_some, hxn, hbn] | skip) | (refine callW_of hE rfl (.inl rfl) ?_) | (refine callW_of q1 rfl (.inl rfl) ?_) | (refine callW_of q2 rfl (.inl rfl) ?_) | (refine callW_of ap rfl (.inl rfl) ?_) | (refine callW_of an rfl (.inl rfl) ?_)
       refine ⟨(j + 1, p, n + (x.natAbs : Int) * l[j].2.natAbs), [], ⟨hlt, hp0, by show 0 ≤ n + _; omega, by show p ≤ _; omega, by show n + _ ≤ _; omega, HN.out (.inr ⟨hxn, hbn⟩), NX.out⟩, by show _ - _ < _ - _; omega, by simp [Wk, wkF, wkM, wkL, look_cons, renV, renA, renC, renB, rn, clV, clA, clAs, clB, notIn, findB, findB_setB, clA.go]⟩
      ·repeat' first | simp (disch := omega) only [go_sem, ↓reduceIte, Nat.reduceEqDiff, reduceCtorEq, Int.reduceEq, map_get hlt, mP, wrap_i64, Option.getD_some, Option.isSome_some, hxn, hbn] | ((with_reducible first | refine condD ?_ ?_ | refine condX ?_ ?_ | refine condW_intro ?_ ?_) <;> intro h <;> first | (exfalso; omega) | simp (disch := omega) only [go_sem, ↓reduceIte, Nat.reduceEqDiff, reduceCtorEq, Int.reduceEq, *, map_get hlt, mP, wrap_i64, Option.getD_some, Option.isSome_some, hxn, hbn] | skip) | (refine callW_of hE rfl (.inl rfl) ?_) | (refine callW_of q1 rfl (.inl rfl) ?_) | (refine callW_of q2 rfl (.inl rfl) ?_) | (refine callW_of ap rfl (.inl rfl) ?_) | (refine callW_of an rfl (.inl rfl) ?_)
       refine ⟨(j + 1, p + (x.natAbs : Int) * l[j].2.natAbs, n), [], ⟨hlt, by show 0 ≤ p + _; omega, hn0, by show p + _ ≤ _; omega, by show n ≤ _; omega, HP.out (.inr ⟨hxn, hbn⟩), NX.out⟩, by show _ - _ < _ - _; omega, by simp [Wk, wkF, wkM, wkL, look_cons, renV, renA, renC, renB, rn, clV, clA, clAs, clB, notIn, findB, findB_setB, clA.go]⟩
   ·have hex : ¬ ∃ m ∈ l, bnd env m.1 = none := by
     rintro ⟨m, hm, he⟩
     obtain ⟨i, hi, rfl⟩ := List.mem_iff_getElem.1 hm
     exact hall i (by omega) hi he
    have hS := hs.out
    simp only at hS
    rw [List.take_of_length_le (by omega)] at hS
    rw [evl, if_neg (not_not_intro h1), if_neg hex, ← hS]
    have hjl : (j : Int) ≤ 9223372036854775807 := by omega
    clear hs hall hex hS fnd v64 hl64 he64
    by_cases hlt2 : p < n
    ·have cl := ref05_less_abs (x := p) (y := n) hp0 (by simp only [Bp]; omega) hn0 (by simp only [Bp]; omega)
     rw [decide_eq_true hlt2] at cl
     have cm : PCalls Try.prog n_ref05_minus [aW n, aW p] (.agg (u6 (dg (n - p)))) := ref05_minus_abs (x := n) (y := p) (by simp only [Bp]; omega) hp0 (by omega)
     have sD := dg_sum (x := n - p) (by omega) (by simp only [Bp]; omega)
     have dD := dg_dig (n - p)
     generalize dg (n - p) = d at *
     have d0 := dD 0 (by omega)
     have d1 := dD 1 (by omega)
     have d2 := dD 2 (by omega)
     have d3 := dD 3 (by omega)
     have d4 := dD 4 (by omega)
     have d5 := dD 5 (by omega)
     simp only [w6sum, Bp] at sD
     clear dD
     have hR : p - n = -(d 0 + d 1 * 4294967296 + d 2 * 18446744073709551616 + d 3 * 79228162514264337593543950336 + d 4 * 340282366920938463463374607431768211456 + d 5 * 1461501637330902918203684832716283019655932542976) := by omega
     have hlow : in64 (p - n) ↔ (d 2 = 0 ∧ d 3 = 0 ∧ d 4 = 0 ∧ d 5 = 0 ∧ d 0 + d 1 * 4294967296 ≤ 9223372036854775808) := by unfold in64; omega
     have hpos : 0 < d 0 + d 1 * 4294967296 + d 2 * 18446744073709551616 + d 3 * 79228162514264337593543950336 + d 4 * 340282366920938463463374607431768211456 + d 5 * 1461501637330902918203684832716283019655932542976 := by omega
     by_cases hin : in64 (p - n)
     ·rw [if_pos hin]
      obtain ⟨z2, z3, z4, z5, zz⟩ := hlow.1 hin
      have e1 : p - n = -(d 0 + d 1 * 4294967296) := by omega
      rw [e1]
      clear hlow hR sD e1 hlt2
      repeat' first | simp (disch := omega) only [go_sem, ↓reduceIte, Nat.reduceEqDiff, reduceCtorEq, Int.reduceEq, z2, z3, z4, z5, Int.toNat_natCast, Int.toNat_zero, show Int.toNat 1 = 1 from rfl, show Int.toNat 2 = 2 from rfl, show Int.toNat 3 = 3 from rfl, show Int.toNat 4 = 4 from rfl, show Int.toNat 5 = 5 from rfl, Nat.mul_one, wrap_u64, wrap_i64] | ((with_reducible first | refine condD ?_ ?_ | refine condX ?_ ?_ | refine condW_intro ?_ ?_) <;> intro h <;> first | (exfalso; omega) | simp (disch := omega) only [go_sem, ↓reduceIte, Nat.reduceEqDiff, reduceCtorEq, Int.reduceEq, *, z2, z3, z4, z5, Int.toNat_natCast, Int.toNat_zero, show Int.toNat 1 = 1 from rfl, show Int.toNat 2 = 2 from rfl, show Int.toNat 3 = 3 from rfl, show Int.toNat 4 = 4 from rfl, show Int.toNat 5 = 5 from rfl, Nat.mul_one, wrap_u64, wrap_i64] | skip) | (refine callW_of cl rfl (.inl rfl) ?_) | (refine callW_of cm rfl (.inl rfl) ?_)
      rw [show 0 - (d 0 + d 1 * 4294967296 - 1) - 1 = -(d 0 + d 1 * 4294967296) by omega]
     ·rw [if_neg hin]
      have hno : ¬ (d 2 = 0 ∧ d 3 = 0 ∧ d 4 = 0 ∧ d 5 = 0 ∧ d 0 + d 1 * 4294967296 ≤ 9223372036854775808) := fun h => hin (hlow.2 h)
      clear hlow hR sD hlt2
      repeat' first | simp (disch := omega) only [go_sem, ↓reduceIte, Nat.reduceEqDiff, reduceCtorEq, Int.reduceEq, Int.toNat_natCast, Int.toNat_zero, show Int.toNat 1 = 1 from rfl, show Int.toNat 2 = 2 from rfl, show Int.toNat 3 = 3 from rfl, show Int.toNat 4 = 4 from rfl, show Int.toNat 5 = 5 from rfl, Nat.mul_one, wrap_u64, wrap_i64] | ((with_reducible first | refine condD ?_ ?_ | refine condX ?_ ?_ | refine condW_intro ?_ ?_) <;> intro h <;> first | (exfalso; omega) | simp (disch := omega) only [go_sem, ↓reduceIte, Nat.reduceEqDiff, reduceCtorEq, Int.reduceEq, *, Int.toNat_natCast, Int.toNat_zero, show Int.toNat 1 = 1 from rfl, show Int.toNat 2 = 2 from rfl, show Int.toNat 3 = 3 from rfl, show Int.toNat 4 = 4 from rfl, show Int.toNat 5 = 5 from rfl, Nat.mul_one, wrap_u64, wrap_i64] | skip) | (refine callW_of cl rfl (.inl rfl) ?_) | (refine callW_of cm rfl (.inl rfl) ?_)
    ·have cl := ref05_less_abs (x := p) (y := n) hp0 (by simp only [Bp]; omega) hn0 (by simp only [Bp]; omega)
     rw [decide_eq_false hlt2] at cl
     have cm : PCalls Try.prog n_ref05_minus [aW p, aW n] (.agg (u6 (dg (p - n)))) := ref05_minus_abs (x := p) (y := n) (by simp only [Bp]; omega) hn0 (by omega)
     have sD := dg_sum (x := p - n) (by omega) (by simp only [Bp]; omega)
     have dD := dg_dig (p - n)
     generalize dg (p - n) = d at *
     have d0 := dD 0 (by omega)
     have d1 := dD 1 (by omega)
     have d2 := dD 2 (by omega)
     have d3 := dD 3 (by omega)
     have d4 := dD 4 (by omega)
     have d5 := dD 5 (by omega)
     simp only [w6sum, Bp] at sD
     clear dD
     have hR : p - n = (d 0 + d 1 * 4294967296 + d 2 * 18446744073709551616 + d 3 * 79228162514264337593543950336 + d 4 * 340282366920938463463374607431768211456 + d 5 * 1461501637330902918203684832716283019655932542976) := by omega
     have hlow : in64 (p - n) ↔ (d 2 = 0 ∧ d 3 = 0 ∧ d 4 = 0 ∧ d 5 = 0 ∧ d 0 + d 1 * 4294967296 ≤ 9223372036854775807) := by unfold in64; omega
     have hpos : 0 ≤ d 0 + d 1 * 4294967296 + d 2 * 18446744073709551616 + d 3 * 79228162514264337593543950336 + d 4 * 340282366920938463463374607431768211456 + d 5 * 1461501637330902918203684832716283019655932542976 := by omega
     by_cases hin : in64 (p - n)
     ·rw [if_pos hin]
      obtain ⟨z2, z3, z4, z5, zz⟩ := hlow.1 hin
      have e1 : p - n = d 0 + d 1 * 4294967296 := by omega
      rw [e1]
      clear hlow hR sD e1 hlt2
      repeat' first | simp (disch := omega) only [go_sem, ↓reduceIte, Nat.reduceEqDiff, reduceCtorEq, Int.reduceEq, z2, z3, z4, z5, Int.toNat_natCast, Int.toNat_zero, show Int.toNat 1 = 1 from rfl, show Int.toNat 2 = 2 from rfl, show Int.toNat 3 = 3 from rfl, show Int.toNat 4 = 4 from rfl, show Int.toNat 5 = 5 from rfl, Nat.mul_one, wrap_u64, wrap_i64] | ((with_reducible first | refine condD ?_ ?_ | refine condX ?_ ?_ | refine condW_intro ?_ ?_) <;> intro h <;> first | (exfalso; omega) | simp (disch := omega) only [go_sem, ↓reduceIte, Nat.reduceEqDiff, reduceCtorEq, Int.reduceEq, *, z2, z3, z4, z5, Int.toNat_natCast, Int.toNat_zero, show Int.toNat 1 = 1 from rfl, show Int.toNat 2 = 2 from rfl, show Int.toNat 3 = 3 from rfl, show Int.toNat 4 = 4 from rfl, show Int.toNat 5 = 5 from rfl, Nat.mul_one, wrap_u64, wrap_i64] | skip) | (refine callW_of cl rfl (.inl rfl) ?_) | (refine callW_of cm rfl (.inl rfl) ?_)
     ·rw [if_neg hin]
      have hno : ¬ (d 2 = 0 ∧ d 3 = 0 ∧ d 4 = 0 ∧ d 5 = 0 ∧ d 0 + d 1 * 4294967296 ≤ 9223372036854775807) := fun h => hin (hlow.2 h)
      clear hlow hR sD hlt2
      repeat' first | simp (disch := omega) only [go_sem, ↓reduceIte, Nat.reduceEqDiff, reduceCtorEq, Int.reduceEq, Int.toNat_natCast, Int.toNat_zero, show Int.toNat 1 = 1 from rfl, show Int.toNat 2 = 2 from rfl, show Int.toNat 3 = 3 from rfl, show Int.toNat 4 = 4 from rfl, show Int.toNat 5 = 5 from rfl, Nat.mul_one, wrap_u64, wrap_i64] | ((with_reducible first | refine condD ?_ ?_ | refine condX ?_ ?_ | refine condW_intro ?_ ?_) <;> intro h <;> first | (exfalso; omega) | simp (disch := omega) only [go_sem, ↓reduceIte, Nat.reduceEqDiff, reduceCtorEq, Int.reduceEq, *, Int.toNat_natCast, Int.toNat_zero, show Int.toNat 1 = 1 from rfl, show Int.toNat 2 = 2 from rfl, show Int.toNat 3 = 3 from rfl, show Int.toNat 4 = 4 from rfl, show Int.toNat 5 = 5 from rfl, Nat.mul_one, wrap_u64, wrap_i64] | skip) | (refine callW_of cl rfl (.inl rfl) ?_) | (refine callW_of cm rfl (.inl rfl) ?_)
 ·rw [evl, if_pos h1]
  repeat' first | simp (disch := omega) only [go_sem, ↓reduceIte, Nat.reduceEqDiff, reduceCtorEq, Int.reduceEq, h1] | ((with_reducible first | refine condD ?_ ?_ | refine condX ?_ ?_ | refine condW_intro ?_ ?_) <;> intro h <;> first | (exfalso; omega) | simp (disch := omega) only [go_sem, ↓reduceIte, Nat.reduceEqDiff, reduceCtorEq, Int.reduceEq, *, h1] | skip) | (refine callW_of (ref05_Validate_abs _ _) rfl (.inl rfl) ?_)
end Go.Proofs.Ytnddmjhpplopbaa
