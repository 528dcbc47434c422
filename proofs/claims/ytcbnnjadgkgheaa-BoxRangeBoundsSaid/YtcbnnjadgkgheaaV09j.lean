/- The ranges of forms over boxes are exact: the plain law, and the law of layer 9. -/
import Derived.Test.YtcbnnjadgkgheaaV09i
import Derived.Test.YtcbnnjadgkgheaaV05d
set_option linter.unusedVariables false
set_option linter.unusedSimpArgs false
set_option maxRecDepth 20000
namespace Go.Proofs.Ytcbnnjadgkgheaa
open Go.Abs Go.RowKit

/-! Orders of names. -/
theorem bl_irrefl : ∀ x : List UInt8, Op.bytesLess x x = false
  | [] => rfl
  | a :: x => by simp [Op.bytesLess, bl_irrefl x]
theorem bl_trans : ∀ {x y z : List UInt8}, Op.bytesLess x y = true → Op.bytesLess y z = true → Op.bytesLess x z = true
  | x, [], z, h, _ => by cases x <;> simp [Op.bytesLess] at h
  | x, b :: y, [], _, h => by simp [Op.bytesLess] at h
  | [], b :: y, c :: z, _, _ => rfl
  | a :: x, b :: y, c :: z, h, h' => by
    simp only [Op.bytesLess, Bool.or_eq_true, Bool.and_eq_true, decide_eq_true_eq, beq_iff_eq] at h h' ⊢
    rcases h with h | ⟨rfl, h⟩
    · rcases h' with h' | ⟨rfl, h'⟩
      · exact .inl (UInt8.lt_trans h h')
      · exact .inl h
    · rcases h' with h' | ⟨rfl, h'⟩
      · exact .inl h'
      · exact .inr ⟨rfl, bl_trans h h'⟩
theorem lin_lt {l : List Mono} (h : linOk l) : ∀ (d i : Nat) (hj : i + d + 1 < l.length), sless (l[i]'(by omega)).1 l[i + d + 1].1 = true
  | 0, i, hj => by
    have := (h (i + 1) hj hj).2.2 (by omega)
    simpa using this
  | d + 1, i, hj => by
    have h1 := lin_lt h d i (by omega)
    have h2 := (h (i + d + 1 + 1) hj hj).2.2 (by omega)
    simp only [show i + (d + 1) + 1 = i + d + 1 + 1 from by omega]
    exact bl_trans h1 (by simpa [sless] using h2)
theorem lin_inj {l : List Mono} (h : linOk l) {i j : Nat} (hi : i < l.length) (hj : j < l.length) (e : l[i].1 = l[j].1) : i = j := by
  rcases Nat.lt_trichotomy i j with hlt | he | hgt
  · have := lin_lt h (j - i - 1) i (by omega)
    have e1 : i + (j - i - 1) + 1 = j := by omega
    simp only [e1] at this
    rw [e, sless, bl_irrefl] at this
    cases this
  · exact he
  · have := lin_lt h (i - j - 1) j (by omega)
    have e1 : j + (i - j - 1) + 1 = i := by omega
    simp only [e1] at this
    rw [e, sless, bl_irrefl] at this
    cases this
theorem bnd_some {env : List Mono} {s : ByteArray} {x : Int} (h : bnd env s = some x) : ∃ m ∈ env, m.1 = s ∧ m.2 = x := by
  induction env with
  | nil => cases h
  | cons m r ih =>
    rw [bnd] at h
    split at h
    · cases h; exact ⟨m, List.mem_cons_self, ‹_›, rfl⟩
    · obtain ⟨m', h1, h2⟩ := ih h
      exact ⟨m', List.mem_cons_of_mem _ h1, h2⟩
theorem bnd_none {env : List Mono} {s : ByteArray} (h : bnd env s = none) : ∀ m ∈ env, m.1 ≠ s := by
  induction env with
  | nil => intro m hm; cases hm
  | cons m r ih =>
    rw [bnd] at h
    split at h
    · cases h
    · intro m' hm
      rcases List.mem_cons.1 hm with rfl | hm
      · assumption
      · exact ih h m' hm
theorem lin_coef {l : List Mono} (h : linOk l) {m : Mono} (hm : m ∈ l) : bnd l m.1 = some m.2 := by
  cases e : bnd l m.1 with
  | none => exact absurd rfl (bnd_none e m hm)
  | some x =>
    obtain ⟨m', h1, h2, rfl⟩ := bnd_some e
    obtain ⟨i, hi, rfl⟩ := List.mem_iff_getElem.1 hm
    obtain ⟨j, hj, rfl⟩ := List.mem_iff_getElem.1 h1
    have := lin_inj h hj hi h2
    subst this
    rfl

/-! Sums. -/
def sumM (h : Mono → Int) : List Mono → Int
  | [] => 0
  | m :: r => h m + sumM h r
theorem sumM_le {h h' : Mono → Int} : ∀ {l : List Mono}, (∀ m ∈ l, h m ≤ h' m) → sumM h l ≤ sumM h' l
  | [], _ => Int.le_refl _
  | m :: r, hl => by
    have h1 := hl m List.mem_cons_self
    have h2 := sumM_le (l := r) fun m hm => hl m (List.mem_cons_of_mem _ hm)
    simp only [sumM]
    omega
theorem sumM_congr {h h' : Mono → Int} : ∀ {l : List Mono}, (∀ m ∈ l, h m = h' m) → sumM h l = sumM h' l
  | [], _ => rfl
  | m :: r, hl => by
    simp only [sumM]
    rw [hl m List.mem_cons_self, sumM_congr fun m hm => hl m (List.mem_cons_of_mem _ hm)]
theorem lsum_sumM (f : ByteArray → Int) : ∀ l, lsum f l = sumM (fun m => m.2 * f m.1) l
  | [] => rfl
  | m :: r => by simp only [lsum, sumM, lsum_sumM f r]

def loM (ns : List ByteArray) (xs : List Int) (m : Mono) : Int := if m.2 < 0 then m.2 * ((xof ns xs m.1).getD 0 - 1) else 0
def hiM (ns : List ByteArray) (xs : List Int) (m : Mono) : Int := if m.2 < 0 then 0 else m.2 * ((xof ns xs m.1).getD 0 - 1)
theorem rngL_sum {ns : List ByteArray} {xs : List Int} : ∀ {l : List Mono} {lo hi : Int} {r : Int × Int}, in64 lo → in64 hi → rngL ns xs lo hi l = some r → r.1 = lo + sumM (loM ns xs) l ∧ r.2 = hi + sumM (hiM ns xs) l ∧ in64 r.1 ∧ in64 r.2
  | [], lo, hi, r, h1, h2, h => by
    cases h
    exact ⟨by simp [sumM], by simp [sumM], h1, h2⟩
  | m :: l, lo, hi, r, h1, h2, h => by
    rw [rngL] at h
    split at h
    · rename_i hneg
      split at h
      · rename_i lo' hb
        unfold bsum at hb
        split at hb
        · rename_i h64
          cases hb
          obtain ⟨g1, g2, g3⟩ := rngL_sum h64.2 h2 h
          refine ⟨?_, ?_, g3⟩
          · rw [g1, sumM, loM, if_pos hneg, Int.add_assoc]
          · rw [g2, sumM, hiM, if_pos hneg, Int.zero_add]
        · cases hb
      · cases h
    · rename_i hneg
      split at h
      · rename_i hi' hb
        unfold bsum at hb
        split at hb
        · rename_i h64
          cases hb
          obtain ⟨g1, g2, g3⟩ := rngL_sum h1 h64.2 h
          refine ⟨?_, ?_, g3⟩
          · rw [g1, sumM, loM, if_neg hneg, Int.zero_add]
          · rw [g2, sumM, hiM, if_neg hneg, Int.add_assoc]
        · cases hb
      · cases h

/-! Values at points. -/
theorem bnd_zip : ∀ (ns : List ByteArray) (p : List Int) (s : ByteArray), bnd (ns.zip p) s = xof ns p s
  | [], p, s => by cases p <;> rfl
  | n :: ns, [], s => rfl
  | n :: ns, x :: p, s => by
    rw [List.zip_cons_cons, bnd, xof, bnd_zip ns p s]
theorem xof_pair {s : ByteArray} {x : Int} : ∀ {ns : List ByteArray} {xs p : List Int}, p.length = xs.length → (∀ k, k < xs.length → 0 ≤ p[k]?.getD 0 ∧ p[k]?.getD 0 < xs[k]?.getD 0) → xof ns xs s = some x → ∃ y, xof ns p s = some y ∧ 0 ≤ y ∧ y < x
  | [], xs, p, _, _, h => by cases xs <;> cases h
  | n :: ns, [], p, _, _, h => by cases h
  | n :: ns, x0 :: xs, [], hl, _, _ => by simp at hl
  | n :: ns, x0 :: xs, y0 :: p, hl, hin, h => by
    rw [xof] at h
    split at h
    · rename_i e
      cases h
      have := hin 0 (by simp)
      exact ⟨y0, by rw [xof, if_pos e], by simpa using this⟩
    · rename_i e
      obtain ⟨y, h1, h2⟩ := xof_pair (ns := ns) (xs := xs) (p := p) (by simpa using hl) (fun k hk => by simpa using hin (k + 1) (by simpa using hk)) h
      exact ⟨y, by rw [xof, if_neg e]; exact h1, h2⟩
def valAt (k : Int) (l : List Mono) (ns : List ByteArray) (p : List Int) : Int := k + lsum (valOf (ns.zip p)) l
theorem val_bounds {k : Int} {l : List Mono} {ns : List ByteArray} {xs p : List Int} (hin : InB xs p) (hall : ∀ m ∈ l, xof ns xs m.1 ≠ none) : k + sumM (loM ns xs) l ≤ valAt k l ns p ∧ valAt k l ns p ≤ k + sumM (hiM ns xs) l := by
  have key : ∀ m ∈ l, loM ns xs m ≤ m.2 * valOf (ns.zip p) m.1 ∧ m.2 * valOf (ns.zip p) m.1 ≤ hiM ns xs m := by
    intro m hm
    cases hx : xof ns xs m.1 with
    | none => exact absurd hx (hall m hm)
    | some x =>
      obtain ⟨y, h1, h2, h3⟩ := xof_pair hin.1 hin.2 hx
      have e : valOf (ns.zip p) m.1 = y := by rw [valOf, bnd_zip, h1]; rfl
      rw [e, loM, hiM, hx, Option.getD_some]
      by_cases hneg : m.2 < 0
      · rw [if_pos hneg, if_pos hneg]
        have a1 := Int.mul_nonneg (show 0 ≤ -m.2 by omega) (show 0 ≤ x - 1 - y by omega)
        have a2 := Int.mul_nonneg (show 0 ≤ -m.2 by omega) h2
        rw [Int.neg_mul] at a1 a2
        rw [Int.mul_sub] at a1
        omega
      · rw [if_neg hneg, if_neg hneg]
        have a1 := Int.mul_nonneg (show 0 ≤ m.2 by omega) (show 0 ≤ x - 1 - y by omega)
        have a2 := Int.mul_nonneg (show 0 ≤ m.2 by omega) h2
        rw [Int.mul_sub] at a1
        omega
  unfold valAt
  rw [lsum_sumM]
  have h1 := sumM_le fun m hm => (key m hm).1
  have h2 := sumM_le fun m hm => (key m hm).2
  omega
/-- A corner of the box. -/
def corner (g : ByteArray → Bool) : List ByteArray → List Int → List Int
  | n :: ns, x :: xs => (if g n = true then x - 1 else 0) :: corner g ns xs
  | _, _ => []
theorem corner_len {g : ByteArray → Bool} : ∀ {ns : List ByteArray} {xs : List Int}, ns.length = xs.length → (corner g ns xs).length = xs.length
  | [], [], _ => rfl
  | n :: ns, x :: xs, h => by simp [corner, corner_len (ns := ns) (xs := xs) (by simpa using h)]
  | [], _ :: _, h => by simp at h
  | _ :: _, [], h => by simp at h
theorem corner_in {g : ByteArray → Bool} : ∀ {ns : List ByteArray} {xs : List Int}, ns.length = xs.length → (∀ x ∈ xs, 1 ≤ x) → ∀ k, k < xs.length → 0 ≤ (corner g ns xs)[k]?.getD 0 ∧ (corner g ns xs)[k]?.getD 0 < xs[k]?.getD 0
  | [], [], _, _, k, hk => by simp at hk
  | n :: ns, x :: xs, h, hp, k, hk => by
    have h1 := hp x List.mem_cons_self
    cases k with
    | zero => simp only [corner, List.getElem?_cons_zero, Option.getD_some]; split <;> omega
    | succ k => simpa [corner] using corner_in (g := g) (ns := ns) (xs := xs) (by simpa using h) (fun x hx => hp x (List.mem_cons_of_mem _ hx)) k (by simpa using hk)
  | [], _ :: _, h, _, _, _ => by simp at h
  | _ :: _, [], h, _, _, _ => by simp at h
theorem corner_of {g : ByteArray → Bool} {s : ByteArray} : ∀ {ns : List ByteArray} {xs : List Int}, xof ns (corner g ns xs) s = (xof ns xs s).map fun x => if g s = true then x - 1 else 0
  | [], [] => rfl
  | [], _ :: _ => rfl
  | _ :: _, [] => rfl
  | n :: ns, x :: xs => by
    rw [corner, xof, xof]
    by_cases e : n = s
    · subst e; rw [if_pos rfl, if_pos rfl]; rfl
    · rw [if_neg e, if_neg e, corner_of]
theorem corner_val {k : Int} {l : List Mono} {ns : List ByteArray} {xs : List Int} (g : ByteArray → Bool) (h : Mono → Int) (hall : ∀ m ∈ l, xof ns xs m.1 ≠ none) (hh : ∀ m ∈ l, h m = m.2 * (if g m.1 = true then (xof ns xs m.1).getD 0 - 1 else 0)) :
    valAt k l ns (corner g ns xs) = k + sumM h l := by
  unfold valAt
  rw [lsum_sumM]
  congr 1
  refine sumM_congr fun m hm => ?_
  rw [hh m hm, valOf, bnd_zip, corner_of]
  cases hx : xof ns xs m.1 with
  | none => exact absurd hx (hall m hm)
  | some x => rfl
/-- Both bounds are attained, at points of the box. -/
theorem val_attained {k : Int} {l : List Mono} {ns : List ByteArray} {xs : List Int} (hlin : linOk l) (hb : bval xs = 0) (hpos : ∀ x ∈ xs, 1 ≤ x) (hlen : ns.length = xs.length) (hall : ∀ m ∈ l, xof ns xs m.1 ≠ none) :
    (∃ i : Nat, i < (bcount xs).toNat ∧ valAt k l ns (pointOf xs i) = k + sumM (loM ns xs) l) ∧ ∃ i : Nat, i < (bcount xs).toNat ∧ valAt k l ns (pointOf xs i) = k + sumM (hiM ns xs) l := by
  have pt : ∀ g : ByteArray → Bool, ∃ i : Nat, i < (bcount xs).toNat ∧ pointOf xs i = corner g ns xs := by
    intro g
    have hin : InB xs (corner g ns xs) := ⟨corner_len hlen, corner_in hlen hpos⟩
    have hbd := rankTo_bd hpos xs.length (Nat.le_refl _) fun j hj => hin.2 j hj
    rw [List.take_length] at hbd
    have hr : 0 ≤ rank xs (corner g ns xs) ∧ rank xs (corner g ns xs) < prod xs := hbd
    refine ⟨(rank xs (corner g ns xs)).toNat, by rw [bcount_ok hb]; omega, ?_⟩
    rw [show (((rank xs (corner g ns xs)).toNat : Nat) : Int) = rank xs (corner g ns xs) by omega]
    exact point_rank hpos hin
  have coef : ∀ m ∈ l, (bnd l m.1).getD 0 = m.2 := fun m hm => by rw [lin_coef hlin hm]; rfl
  constructor
  · obtain ⟨i, h1, h2⟩ := pt fun s => decide ((bnd l s).getD 0 < 0)
    refine ⟨i, h1, ?_⟩
    rw [h2]
    refine corner_val _ _ hall fun m hm => ?_
    rw [coef m hm, loM]
    by_cases hneg : m.2 < 0
    · rw [if_pos hneg, if_pos (decide_eq_true hneg)]
    · rw [if_neg hneg, if_neg (by simpa using hneg), Int.mul_zero]
  · obtain ⟨i, h1, h2⟩ := pt fun s => decide (¬ (bnd l s).getD 0 < 0)
    refine ⟨i, h1, ?_⟩
    rw [h2]
    refine corner_val _ _ hall fun m hm => ?_
    rw [coef m hm, hiM]
    by_cases hneg : m.2 < 0
    · rw [if_pos hneg, if_neg (by simpa using hneg), Int.mul_zero]
    · rw [if_neg hneg, if_pos (decide_eq_true hneg)]

/-! The walks. -/
def ptRow (xs : List Int) (i : Nat) : List PC := [pInts (pointOf xs (i : Int))]
theorem ref09_All_abs (xs : List Int) : PCalls Try.prog n_ref09_All [aInts xs] (aSl (ptRow xs) (List.range (bcount xs).toNat)) := by
  refine PCalls.of is_ref09_All (by simp) fun hb => runW_sound ?_
  have hc := bcount_bd xs
  obtain ⟨n, hn⟩ : ∃ n : Nat, bcount xs = n := ⟨(bcount xs).toNat, by omega⟩
  have cnt := ref09_Count_abs xs
  rw [hn] at cnt ⊢
  rw [Int.toNat_natCast]
  have hn6 : n ≤ 65536 := by omega
  simp only [c_ref09_All]
  repeat' first
    | simp (disch := omega) only [go_sem, true_and, and_true, List.nil_append, ↓reduceIte, Nat.reduceEqDiff, andW_of, Int.toNat_natCast, List.length_map, List.length_cons, List.length_nil, ↓List.map_cons, ↓List.map_nil, reduceCtorEq, Option.some.injEq, not_true_eq_false, not_false_eq_true, condW_not, condW_beqT, condW_beqF, int_beq, int_bne, str_beq, str_bne, eqb_F, eqb_T, Bool.false_eq_true, List.cons_append, decide_true, decide_false, Nat.add_zero, Nat.zero_add, List.drop_succ_cons, List.drop_zero, List.take_succ_cons, List.take_zero, Option.map_some, Option.map_none, List.getElem?_cons_zero, List.getElem?_cons_succ, eq_self, beq_self_eq_true, Bool.bne_false, Bool.bne_true, Bool.true_beq, Bool.false_beq]
    | (with_reducible refine condD (fun h => ?_) (fun h => ?_) <;> first | (exfalso; omega) | simp (disch := omega) only [go_sem, true_and, and_true, List.nil_append, ↓reduceIte, Nat.reduceEqDiff, andW_of, Int.toNat_natCast, List.length_map, List.length_cons, List.length_nil, ↓List.map_cons, ↓List.map_nil, reduceCtorEq, Option.some.injEq, not_true_eq_false, not_false_eq_true, condW_not, condW_beqT, condW_beqF, int_beq, int_bne, str_beq, str_bne, eqb_F, eqb_T, Bool.false_eq_true, List.cons_append, decide_true, decide_false, Nat.add_zero, Nat.zero_add, List.drop_succ_cons, List.drop_zero, List.take_succ_cons, List.take_zero, Option.map_some, Option.map_none, List.getElem?_cons_zero, List.getElem?_cons_succ, eq_self, beq_self_eq_true, Bool.bne_false, Bool.bne_true, Bool.true_beq, Bool.false_beq, *, decide_true, decide_false] | skip)
    | (with_reducible refine condW_intro (fun h => ?_) (fun h => ?_) <;> first | (exfalso; omega) | simp (disch := omega) only [go_sem, true_and, and_true, List.nil_append, ↓reduceIte, Nat.reduceEqDiff, andW_of, Int.toNat_natCast, List.length_map, List.length_cons, List.length_nil, ↓List.map_cons, ↓List.map_nil, reduceCtorEq, Option.some.injEq, not_true_eq_false, not_false_eq_true, condW_not, condW_beqT, condW_beqF, int_beq, int_bne, str_beq, str_bne, eqb_F, eqb_T, Bool.false_eq_true, List.cons_append, decide_true, decide_false, Nat.add_zero, Nat.zero_add, List.drop_succ_cons, List.drop_zero, List.take_succ_cons, List.take_zero, Option.map_some, Option.map_none, List.getElem?_cons_zero, List.getElem?_cons_succ, eq_self, beq_self_eq_true, Bool.bne_false, Bool.bne_true, Bool.true_beq, Bool.false_beq, *, decide_true, decide_false] | skip)
    | (refine callW_of cnt rfl (.inl rfl) ?_)
  refine AW_adopt 3 22 1 rfl (by decide) ?_
  refine AW_loop (fun k : Nat => ⟨[(0, aInts xs), (3, .c (.ref 0)), (4, I n), (5, I k)], [(0, .arr 22 1 ((List.range k).map (ptRow xs)))], 1, 0⟩) (fun k => k ≤ n) (fun k => n - k) ⟨0, [], Nat.zero_le _, by simp [Wk, wkF, wkM, wkL, look_cons, renV, renA, renC, renB, rn, clV, clA, clAs, clB, notIn, findB, findB_setB, clA.go]⟩ ?_
  rintro k hk
  refine runW_sound ?_
  by_cases hlt : k < n
  · have hp := ref09_Point_abs xs (at' := (k : Int)) (by unfold in64; omega)
    rw [bpoint_in ⟨by omega, by omega⟩] at hp
    repeat' first
      | simp (disch := omega) only [go_sem, true_and, and_true, List.nil_append, ↓reduceIte, Nat.reduceEqDiff, andW_of, Int.toNat_natCast, List.length_map, List.length_cons, List.length_nil, ↓List.map_cons, ↓List.map_nil, reduceCtorEq, Option.some.injEq, not_true_eq_false, not_false_eq_true, condW_not, condW_beqT, condW_beqF, int_beq, int_bne, str_beq, str_bne, eqb_F, eqb_T, Bool.false_eq_true, List.cons_append, decide_true, decide_false, Nat.add_zero, Nat.zero_add, List.drop_succ_cons, List.drop_zero, List.take_succ_cons, List.take_zero, Option.map_some, Option.map_none, List.getElem?_cons_zero, List.getElem?_cons_succ, eq_self, beq_self_eq_true, Bool.bne_false, Bool.bne_true, Bool.true_beq, Bool.false_beq, wrap_i64]
      | (with_reducible refine condD (fun h => ?_) (fun h => ?_) <;> first | (exfalso; omega) | simp (disch := omega) only [go_sem, true_and, and_true, List.nil_append, ↓reduceIte, Nat.reduceEqDiff, andW_of, Int.toNat_natCast, List.length_map, List.length_cons, List.length_nil, ↓List.map_cons, ↓List.map_nil, reduceCtorEq, Option.some.injEq, not_true_eq_false, not_false_eq_true, condW_not, condW_beqT, condW_beqF, int_beq, int_bne, str_beq, str_bne, eqb_F, eqb_T, Bool.false_eq_true, List.cons_append, decide_true, decide_false, Nat.add_zero, Nat.zero_add, List.drop_succ_cons, List.drop_zero, List.take_succ_cons, List.take_zero, Option.map_some, Option.map_none, List.getElem?_cons_zero, List.getElem?_cons_succ, eq_self, beq_self_eq_true, Bool.bne_false, Bool.bne_true, Bool.true_beq, Bool.false_beq, *, decide_true, decide_false, wrap_i64] | skip)
      | (with_reducible refine condW_intro (fun h => ?_) (fun h => ?_) <;> first | (exfalso; omega) | simp (disch := omega) only [go_sem, true_and, and_true, List.nil_append, ↓reduceIte, Nat.reduceEqDiff, andW_of, Int.toNat_natCast, List.length_map, List.length_cons, List.length_nil, ↓List.map_cons, ↓List.map_nil, reduceCtorEq, Option.some.injEq, not_true_eq_false, not_false_eq_true, condW_not, condW_beqT, condW_beqF, int_beq, int_bne, str_beq, str_bne, eqb_F, eqb_T, Bool.false_eq_true, List.cons_append, decide_true, decide_false, Nat.add_zero, Nat.zero_add, List.drop_succ_cons, List.drop_zero, List.take_succ_cons, List.take_zero, Option.map_some, Option.map_none, List.getElem?_cons_zero, List.getElem?_cons_succ, eq_self, beq_self_eq_true, Bool.bne_false, Bool.bne_true, Bool.true_beq, Bool.false_beq, *, decide_true, decide_false, wrap_i64] | skip)
      | (refine callW_of hp rfl (.inr rfl) ?_)
      | (refine app_own rfl (by intro h; cases h) (rowsOk_one rfl) (by simp; omega) (by simp; omega) ?_)
    refine ⟨k + 1, [(0, 1)], hlt, by omega, ?_⟩
    simp [Wk, wkF, wkM, wkL, look_cons, renV, renA, renC, renB, rn, clV, clA, clAs, clB, notIn, findB, findB_setB, clA.go, List.range_succ, ptRow]
  · obtain rfl : k = n := by omega
    repeat' first
      | simp (disch := omega) only [go_sem, true_and, and_true, List.nil_append, ↓reduceIte, Nat.reduceEqDiff, andW_of, Int.toNat_natCast, List.length_map, List.length_cons, List.length_nil, ↓List.map_cons, ↓List.map_nil, reduceCtorEq, Option.some.injEq, not_true_eq_false, not_false_eq_true, condW_not, condW_beqT, condW_beqF, int_beq, int_bne, str_beq, str_bne, eqb_F, eqb_T, Bool.false_eq_true, List.cons_append, decide_true, decide_false, Nat.add_zero, Nat.zero_add, List.drop_succ_cons, List.drop_zero, List.take_succ_cons, List.take_zero, Option.map_some, Option.map_none, List.getElem?_cons_zero, List.getElem?_cons_succ, eq_self, beq_self_eq_true, Bool.bne_false, Bool.bne_true, Bool.true_beq, Bool.false_beq]
      | (with_reducible refine condD (fun h => ?_) (fun h => ?_) <;> first | (exfalso; omega) | simp (disch := omega) only [go_sem, true_and, and_true, List.nil_append, ↓reduceIte, Nat.reduceEqDiff, andW_of, Int.toNat_natCast, List.length_map, List.length_cons, List.length_nil, ↓List.map_cons, ↓List.map_nil, reduceCtorEq, Option.some.injEq, not_true_eq_false, not_false_eq_true, condW_not, condW_beqT, condW_beqF, int_beq, int_bne, str_beq, str_bne, eqb_F, eqb_T, Bool.false_eq_true, List.cons_append, decide_true, decide_false, Nat.add_zero, Nat.zero_add, List.drop_succ_cons, List.drop_zero, List.take_succ_cons, List.take_zero, Option.map_some, Option.map_none, List.getElem?_cons_zero, List.getElem?_cons_succ, eq_self, beq_self_eq_true, Bool.bne_false, Bool.bne_true, Bool.true_beq, Bool.false_beq, *, decide_true, decide_false] | skip)
      | (with_reducible refine condW_intro (fun h => ?_) (fun h => ?_) <;> first | (exfalso; omega) | simp (disch := omega) only [go_sem, true_and, and_true, List.nil_append, ↓reduceIte, Nat.reduceEqDiff, andW_of, Int.toNat_natCast, List.length_map, List.length_cons, List.length_nil, ↓List.map_cons, ↓List.map_nil, reduceCtorEq, Option.some.injEq, not_true_eq_false, not_false_eq_true, condW_not, condW_beqT, condW_beqF, int_beq, int_bne, str_beq, str_bne, eqb_F, eqb_T, Bool.false_eq_true, List.cons_append, decide_true, decide_false, Nat.add_zero, Nat.zero_add, List.drop_succ_cons, List.drop_zero, List.take_succ_cons, List.take_zero, Option.map_some, Option.map_none, List.getElem?_cons_zero, List.getElem?_cons_succ, eq_self, beq_self_eq_true, Bool.bne_false, Bool.bne_true, Bool.true_beq, Bool.false_beq, *, decide_true, decide_false] | skip)

theorem rng_ok {k : Int} {l : List Mono} {ns : List ByteArray} {xs : List Int} (he : (rng k l ns xs).2.2 = 0) :
    linOk l ∧ bval xs = 0 ∧ bcount xs ≠ 0 ∧ (∀ m ∈ l, xof ns xs m.1 ≠ none) ∧ ∃ r, rngL ns xs k k l = some r ∧ rng k l ns xs = (r.1, r.2, 0) := by
  unfold rng at he ⊢
  split at he
  · cases he
  · rename_i h1
    split at he
    · rename_i h2; exact absurd he h2
    · rename_i h2
      split at he
      · cases he
      · rename_i h3
        split at he
        · cases he
        · rename_i h4
          split at he
          · rename_i r hr
            refine ⟨Decidable.not_not.1 h1, Decidable.not_not.1 h2, fun h => h3 (.inr h), fun m hm e => h4 ⟨m, hm, e⟩, r, hr, ?_⟩
            rw [if_neg h1, if_neg h2, if_neg h3, if_neg h4]
          · cases he
set_option maxHeartbeats 8000000 in
theorem BoxRangeBounds_abs (ps0 ps1 ps2 : List PC) (h0 : OkPs [.int .i64, .slice [.str, .int .i64]] ps0) (h1 : OkPs [.slice [.str]] ps1) (h2 : OkPs [.slice [.int .i64]] ps2) : PCalls Try.prog 11 [argV true ps0, argV false ps1, argV false ps2] (Go.Abs.B true) := by
  obtain ⟨k, l, rfl, hk, hl, _⟩ := okLin h0
  obtain ⟨_, rfl, k1⟩ := okOne h1
  obtain ⟨_, rfl, k2⟩ := okOne h2
  obtain ⟨ns, rfl, _⟩ := okStrs k1
  obtain ⟨xs, rfl, hx64, _⟩ := okInts k2
  clear h0 h1 h2 k1 k2
  show PCalls _ n_law09_BoxRangeBounds [aLin k l, aStrs ns, aInts xs] _
  refine PCalls.of is_law09_BoxRangeBounds (by simp) fun hb => runW_sound ?_
  clear hb
  obtain ⟨b, p0, hfew⟩ := law09_few_abs k l ns xs
  have p1 := box_Range_abs ns xs hk hl
  have p3 := ref09_All_abs xs
  have p4 := ref09_Count_abs xs
  simp only [c_law09_BoxRangeBounds]
  cases b with
  | false => repeat' first
               | simp (disch := omega) only [go_sem, true_and, and_true, List.nil_append, ↓reduceIte, Nat.reduceEqDiff, andW_of, Int.toNat_natCast, List.length_map, List.length_cons, List.length_nil, ↓List.map_cons, ↓List.map_nil, reduceCtorEq, Option.some.injEq, not_true_eq_false, not_false_eq_true, condW_not, condW_beqT, condW_beqF, int_beq, int_bne, str_beq, str_bne, eqb_F, eqb_T, Bool.false_eq_true, List.cons_append, decide_true, decide_false, Nat.add_zero, Nat.zero_add, List.drop_succ_cons, List.drop_zero, List.take_succ_cons, List.take_zero, Option.map_some, Option.map_none, List.getElem?_cons_zero, List.getElem?_cons_succ, eq_self, beq_self_eq_true, Bool.bne_false, Bool.bne_true, Bool.true_beq, Bool.false_beq]
               | (with_reducible refine condD (fun h => ?_) (fun h => ?_) <;> first | (exfalso; omega) | simp (disch := omega) only [go_sem, true_and, and_true, List.nil_append, ↓reduceIte, Nat.reduceEqDiff, andW_of, Int.toNat_natCast, List.length_map, List.length_cons, List.length_nil, ↓List.map_cons, ↓List.map_nil, reduceCtorEq, Option.some.injEq, not_true_eq_false, not_false_eq_true, condW_not, condW_beqT, condW_beqF, int_beq, int_bne, str_beq, str_bne, eqb_F, eqb_T, Bool.false_eq_true, List.cons_append, decide_true, decide_false, Nat.add_zero, Nat.zero_add, List.drop_succ_cons, List.drop_zero, List.take_succ_cons, List.take_zero, Option.map_some, Option.map_none, List.getElem?_cons_zero, List.getElem?_cons_succ, eq_self, beq_self_eq_true, Bool.bne_false, Bool.bne_true, Bool.true_beq, Bool.false_beq, *, decide_true, decide_false] | skip)
               | (with_reducible refine condW_intro (fun h => ?_) (fun h => ?_) <;> first | (exfalso; omega) | simp (disch := omega) only [go_sem, true_and, and_true, List.nil_append, ↓reduceIte, Nat.reduceEqDiff, andW_of, Int.toNat_natCast, List.length_map, List.length_cons, List.length_nil, ↓List.map_cons, ↓List.map_nil, reduceCtorEq, Option.some.injEq, not_true_eq_false, not_false_eq_true, condW_not, condW_beqT, condW_beqF, int_beq, int_bne, str_beq, str_bne, eqb_F, eqb_T, Bool.false_eq_true, List.cons_append, decide_true, decide_false, Nat.add_zero, Nat.zero_add, List.drop_succ_cons, List.drop_zero, List.take_succ_cons, List.take_zero, Option.map_some, Option.map_none, List.getElem?_cons_zero, List.getElem?_cons_succ, eq_self, beq_self_eq_true, Bool.bne_false, Bool.bne_true, Bool.true_beq, Bool.false_beq, *, decide_true, decide_false] | skip)
               | (refine callW_of law09_examples_abs rfl (.inl rfl) ?_)
               | (refine callW_of p0 rfl (.inl rfl) ?_)
  | true =>
    obtain ⟨f1, f2, f3⟩ := hfew rfl
    by_cases hsz : bcount xs > 500
    · repeat' first
        | simp (disch := omega) only [go_sem, true_and, and_true, List.nil_append, ↓reduceIte, Nat.reduceEqDiff, andW_of, Int.toNat_natCast, List.length_map, List.length_cons, List.length_nil, ↓List.map_cons, ↓List.map_nil, reduceCtorEq, Option.some.injEq, not_true_eq_false, not_false_eq_true, condW_not, condW_beqT, condW_beqF, int_beq, int_bne, str_beq, str_bne, eqb_F, eqb_T, Bool.false_eq_true, List.cons_append, decide_true, decide_false, Nat.add_zero, Nat.zero_add, List.drop_succ_cons, List.drop_zero, List.take_succ_cons, List.take_zero, Option.map_some, Option.map_none, List.getElem?_cons_zero, List.getElem?_cons_succ, eq_self, beq_self_eq_true, Bool.bne_false, Bool.bne_true, Bool.true_beq, Bool.false_beq]
        | (with_reducible refine condD (fun h => ?_) (fun h => ?_) <;> first | (exfalso; omega) | simp (disch := omega) only [go_sem, true_and, and_true, List.nil_append, ↓reduceIte, Nat.reduceEqDiff, andW_of, Int.toNat_natCast, List.length_map, List.length_cons, List.length_nil, ↓List.map_cons, ↓List.map_nil, reduceCtorEq, Option.some.injEq, not_true_eq_false, not_false_eq_true, condW_not, condW_beqT, condW_beqF, int_beq, int_bne, str_beq, str_bne, eqb_F, eqb_T, Bool.false_eq_true, List.cons_append, decide_true, decide_false, Nat.add_zero, Nat.zero_add, List.drop_succ_cons, List.drop_zero, List.take_succ_cons, List.take_zero, Option.map_some, Option.map_none, List.getElem?_cons_zero, List.getElem?_cons_succ, eq_self, beq_self_eq_true, Bool.bne_false, Bool.bne_true, Bool.true_beq, Bool.false_beq, *, decide_true, decide_false] | skip)
        | (with_reducible refine condW_intro (fun h => ?_) (fun h => ?_) <;> first | (exfalso; omega) | simp (disch := omega) only [go_sem, true_and, and_true, List.nil_append, ↓reduceIte, Nat.reduceEqDiff, andW_of, Int.toNat_natCast, List.length_map, List.length_cons, List.length_nil, ↓List.map_cons, ↓List.map_nil, reduceCtorEq, Option.some.injEq, not_true_eq_false, not_false_eq_true, condW_not, condW_beqT, condW_beqF, int_beq, int_bne, str_beq, str_bne, eqb_F, eqb_T, Bool.false_eq_true, List.cons_append, decide_true, decide_false, Nat.add_zero, Nat.zero_add, List.drop_succ_cons, List.drop_zero, List.take_succ_cons, List.take_zero, Option.map_some, Option.map_none, List.getElem?_cons_zero, List.getElem?_cons_succ, eq_self, beq_self_eq_true, Bool.bne_false, Bool.bne_true, Bool.true_beq, Bool.false_beq, *, decide_true, decide_false] | skip)
        | (refine callW_of law09_examples_abs rfl (.inl rfl) ?_)
        | (refine callW_of p0 rfl (.inl rfl) ?_)
        | (refine callW_of p4 rfl (.inl rfl) ?_)
    by_cases hlen : ns.length = xs.length
    · by_cases he : (rng k l ns xs).2.2 = 0
      · obtain ⟨g1, g2, g3, g4, ⟨ra, rb⟩, hr, hrng⟩ := rng_ok he
        rw [hrng] at p1
        have hpos : ∀ x ∈ xs, 1 ≤ x := (pos_of_count (xs := xs) (by have := bcount_bd xs; omega)).2.2.2.pos
        obtain ⟨r1, r2, r3, r4⟩ : ra = k + sumM (loM ns xs) l ∧ rb = k + sumM (hiM ns xs) l ∧ in64 ra ∧ in64 rb := rngL_sum hk hk hr
        obtain ⟨at1, at2⟩ := val_attained (k := k) g1 g2 hpos hlen g4
        rw [← r1] at at1
        rw [← r2] at at2
        obtain ⟨n, hn⟩ : ∃ n : Nat, bcount xs = n := ⟨(bcount xs).toNat, by have := bcount_bd xs; omega⟩
        rw [hn, Int.toNat_natCast] at at1 at2 p3
        have hx16 : xs.length ≤ 16 := (pos_of_count (xs := xs) (by have := bcount_bd xs; omega)).2.2.1
        have AT := Lib.hid (And.intro at1 at2)
        have vb : ∀ i : Nat, ra ≤ valAt k l ns (pointOf xs i) ∧ valAt k l ns (pointOf xs i) ≤ rb := fun i => by
          rw [r1, r2]; exact val_bounds (pointOf_in hpos i) g4
        have VB := Lib.hid vb
        have G4 := Lib.hid g4
        rw [hn] at hsz p4
        clear at1 at2 vb g4 r1 r2 hr hrng he hn
        repeat' first
          | simp (disch := omega) only [go_sem, true_and, and_true, List.nil_append, ↓reduceIte, Nat.reduceEqDiff, andW_of, Int.toNat_natCast, List.length_map, List.length_cons, List.length_nil, ↓List.map_cons, ↓List.map_nil, reduceCtorEq, Option.some.injEq, not_true_eq_false, not_false_eq_true, condW_not, condW_beqT, condW_beqF, int_beq, int_bne, str_beq, str_bne, eqb_F, eqb_T, Bool.false_eq_true, List.cons_append, decide_true, decide_false, Nat.add_zero, Nat.zero_add, List.drop_succ_cons, List.drop_zero, List.take_succ_cons, List.take_zero, Option.map_some, Option.map_none, List.getElem?_cons_zero, List.getElem?_cons_succ, eq_self, beq_self_eq_true, Bool.bne_false, Bool.bne_true, Bool.true_beq, Bool.false_beq]
          | (with_reducible refine condD (fun h => ?_) (fun h => ?_) <;> first | (exfalso; omega) | simp (disch := omega) only [go_sem, true_and, and_true, List.nil_append, ↓reduceIte, Nat.reduceEqDiff, andW_of, Int.toNat_natCast, List.length_map, List.length_cons, List.length_nil, ↓List.map_cons, ↓List.map_nil, reduceCtorEq, Option.some.injEq, not_true_eq_false, not_false_eq_true, condW_not, condW_beqT, condW_beqF, int_beq, int_bne, str_beq, str_bne, eqb_F, eqb_T, Bool.false_eq_true, List.cons_append, decide_true, decide_false, Nat.add_zero, Nat.zero_add, List.drop_succ_cons, List.drop_zero, List.take_succ_cons, List.take_zero, Option.map_some, Option.map_none, List.getElem?_cons_zero, List.getElem?_cons_succ, eq_self, beq_self_eq_true, Bool.bne_false, Bool.bne_true, Bool.true_beq, Bool.false_beq, *, decide_true, decide_false] | skip)
          | (with_reducible refine condW_intro (fun h => ?_) (fun h => ?_) <;> first | (exfalso; omega) | simp (disch := omega) only [go_sem, true_and, and_true, List.nil_append, ↓reduceIte, Nat.reduceEqDiff, andW_of, Int.toNat_natCast, List.length_map, List.length_cons, List.length_nil, ↓List.map_cons, ↓List.map_nil, reduceCtorEq, Option.some.injEq, not_true_eq_false, not_false_eq_true, condW_not, condW_beqT, condW_beqF, int_beq, int_bne, str_beq, str_bne, eqb_F, eqb_T, Bool.false_eq_true, List.cons_append, decide_true, decide_false, Nat.add_zero, Nat.zero_add, List.drop_succ_cons, List.drop_zero, List.take_succ_cons, List.take_zero, Option.map_some, Option.map_none, List.getElem?_cons_zero, List.getElem?_cons_succ, eq_self, beq_self_eq_true, Bool.bne_false, Bool.bne_true, Bool.true_beq, Bool.false_beq, *, decide_true, decide_false] | skip)
          | (refine callW_of law09_examples_abs rfl (.inl rfl) ?_)
          | (refine callW_of p0 rfl (.inl rfl) ?_)
          | (refine callW_of p4 rfl (.inl rfl) ?_)
          | (refine callW_of p1 rfl (.inl rfl) ?_)
          | (refine callW_of p3 rfl (.inr rfl) ?_)
        refine AW_loop (fun s : Nat × Bool × Bool => ⟨[(1, aStrs ns), (3, .c (.ptr 0 0)), (7, I ra), (8, I rb), (10, Go.Abs.B s.2.1), (11, Go.Abs.B s.2.2), (12, aSl (ptRow xs) (List.range n)), (13, I s.1)], [(0, .var [.pure (pI k), .pure (pMonos l)])], 1, 0⟩)
          (fun s => s.1 ≤ n ∧ Hid ((s.2.1 = true ↔ ∃ j, j < s.1 ∧ valAt k l ns (pointOf xs (j : Nat)) = ra) ∧ (s.2.2 = true ↔ ∃ j, j < s.1 ∧ valAt k l ns (pointOf xs (j : Nat)) = rb))) (fun s => n - s.1) ⟨(0, false, false), [], ⟨Nat.zero_le _, by simp [Hid]⟩, by simp [Wk, wkF, wkM, wkL, look_cons, renV, renA, renC, renB, rn, clV, clA, clAs, clB, notIn, findB, findB_setB, clA.go]⟩ ?_
        rintro ⟨i, least, most⟩ ⟨hi, hlm⟩
        refine runW_sound ?_
        simp only at hi
        by_cases hlt : i < n
        · obtain ⟨p, hp⟩ : ∃ p, p = pointOf xs (i : Int) := ⟨_, rfl⟩
          have hin : InB xs p := hp ▸ pointOf_in hpos i
          have hpl : p.length = xs.length := hin.1
          have hrow : ((List.range n).map (ptRow xs))[i]? = some [pInts p] := by simp [hlt, ptRow, hp]
          have hvb := VB.out i
          rw [← hp] at hvb
          have henv : ∀ m ∈ ns.zip p, in64 m.2 := by
            intro m hm
            obtain ⟨q, hq, rfl⟩ := List.mem_iff_getElem.1 hm
            rw [List.length_zip] at hq
            rw [List.getElem_zip]
            have h1 := hin.2 q (by omega)
            have h2 := hx64 (xs[q]'(by omega)) (List.getElem_mem _)
            have e1 : p[q]?.getD 0 = p[q]'(by omega) := by simp [show q < p.length by omega]
            have e2 : xs[q]?.getD 0 = xs[q]'(by omega) := by simp [show q < xs.length by omega]
            rw [e1, e2] at h1
            unfold in64 at h2 ⊢
            show _ ≤ p[q] ∧ p[q] ≤ _
            omega
          have p5 := ref05_Eval_abs (env := ns.zip p) hk hl henv
          have hev : evl k l (ns.zip p) = (valAt k l ns p, 0) := by
            rw [evl, if_neg (not_not_intro g1), if_neg, if_pos]
            · rfl
            · show in64 (valAt k l ns p)
              unfold in64 at r3 r4 ⊢
              omega
            · rintro ⟨m, hm, e⟩
              rw [bnd_zip] at e
              cases hx : xof ns xs m.1 with
              | none => exact G4.out m hm hx
              | some x =>
                obtain ⟨y, h1, _⟩ := xof_pair hin.1 hin.2 hx
                rw [h1] at e
                cases e
          rw [hev] at p5
          have hstep : ∀ (b : Bool) (x : Int), (b = true ↔ ∃ j, j < i ∧ valAt k l ns (pointOf xs (j : Nat)) = x) → ((b || decide (valAt k l ns p = x)) = true ↔ ∃ j, j < i + 1 ∧ valAt k l ns (pointOf xs (j : Nat)) = x) := by
            intro b x hb
            rw [Bool.or_eq_true, hb, decide_eq_true_eq, hp]
            constructor
            · rintro (⟨j, h1, h2⟩ | h)
              · exact ⟨j, by omega, h2⟩
              · exact ⟨i, by omega, h⟩
            · rintro ⟨j, h1, h2⟩
              by_cases e : j = i
              · subst e; exact .inr h2
              · exact .inl ⟨j, by omega, h2⟩
          have h1' := hstep _ _ hlm.out.1
          have h2' := hstep _ _ hlm.out.2
          have HS := Lib.hid (And.intro h1' h2')
          clear hstep h1' h2' hlm hev hp VB G4 AT hin henv hpos r3 r4
          obtain ⟨v, hv⟩ : ∃ v, v = valAt k l ns p := ⟨_, rfl⟩
          rw [← hv] at HS p5 hvb
          clear hv
          repeat' first
            | simp (disch := omega) only [go_sem, true_and, and_true, List.nil_append, ↓reduceIte, Nat.reduceEqDiff, andW_of, Int.toNat_natCast, List.length_map, List.length_cons, List.length_nil, ↓List.map_cons, ↓List.map_nil, reduceCtorEq, Option.some.injEq, not_true_eq_false, not_false_eq_true, condW_not, condW_beqT, condW_beqF, int_beq, int_bne, str_beq, str_bne, eqb_F, eqb_T, Bool.false_eq_true, List.cons_append, decide_true, decide_false, Nat.add_zero, Nat.zero_add, List.drop_succ_cons, List.drop_zero, List.take_succ_cons, List.take_zero, Option.map_some, Option.map_none, List.getElem?_cons_zero, List.getElem?_cons_succ, eq_self, beq_self_eq_true, Bool.bne_false, Bool.bne_true, Bool.true_beq, Bool.false_beq, hrow, List.length_range]
            | (with_reducible refine condD (fun h => ?_) (fun h => ?_) <;> first | (exfalso; omega) | simp (disch := omega) only [go_sem, true_and, and_true, List.nil_append, ↓reduceIte, Nat.reduceEqDiff, andW_of, Int.toNat_natCast, List.length_map, List.length_cons, List.length_nil, ↓List.map_cons, ↓List.map_nil, reduceCtorEq, Option.some.injEq, not_true_eq_false, not_false_eq_true, condW_not, condW_beqT, condW_beqF, int_beq, int_bne, str_beq, str_bne, eqb_F, eqb_T, Bool.false_eq_true, List.cons_append, decide_true, decide_false, Nat.add_zero, Nat.zero_add, List.drop_succ_cons, List.drop_zero, List.take_succ_cons, List.take_zero, Option.map_some, Option.map_none, List.getElem?_cons_zero, List.getElem?_cons_succ, eq_self, beq_self_eq_true, Bool.bne_false, Bool.bne_true, Bool.true_beq, Bool.false_beq, *, decide_true, decide_false, hrow, List.length_range] | skip)
            | (with_reducible refine condW_intro (fun h => ?_) (fun h => ?_) <;> first | (exfalso; omega) | simp (disch := omega) only [go_sem, true_and, and_true, List.nil_append, ↓reduceIte, Nat.reduceEqDiff, andW_of, Int.toNat_natCast, List.length_map, List.length_cons, List.length_nil, ↓List.map_cons, ↓List.map_nil, reduceCtorEq, Option.some.injEq, not_true_eq_false, not_false_eq_true, condW_not, condW_beqT, condW_beqF, int_beq, int_bne, str_beq, str_bne, eqb_F, eqb_T, Bool.false_eq_true, List.cons_append, decide_true, decide_false, Nat.add_zero, Nat.zero_add, List.drop_succ_cons, List.drop_zero, List.take_succ_cons, List.take_zero, Option.map_some, Option.map_none, List.getElem?_cons_zero, List.getElem?_cons_succ, eq_self, beq_self_eq_true, Bool.bne_false, Bool.bne_true, Bool.true_beq, Bool.false_beq, *, decide_true, decide_false, hrow, List.length_range] | skip)
          refine AW_adopt 14 66 2 rfl (by decide) ?_
          refine AW_loop (fun q : Nat => ⟨[(1, aStrs ns), (3, .c (.ptr 0 0)), (7, I ra), (8, I rb), (10, Go.Abs.B least), (11, Go.Abs.B most), (12, aSl (ptRow xs) (List.range n)), (13, I i), (14, .c (.ref 1)), (15, I q)], [(0, .var [.pure (pI k), .pure (pMonos l)]), (1, .arr 66 2 (((ns.zip p).take q).map mP))], 2, 0⟩)
            (fun q => q ≤ ns.length) (fun q => ns.length - q) ⟨0, [], Nat.zero_le _, by simp [Wk, wkF, wkM, wkL, look_cons, renV, renA, renC, renB, rn, clV, clA, clAs, clB, notIn, findB, findB_setB, clA.go]⟩ ?_
          rintro q hq
          refine runW_sound ?_
          by_cases hqt : q < ns.length
          · have hqp : q < p.length := by omega
            have hqz : q < (ns.zip p).length := by rw [List.length_zip]; omega
            have hlen2 : (((ns.zip p).take q).map mP).length = q := by simp; omega
            clear hpl hlen
            repeat' first
              | simp (disch := omega) only [go_sem, true_and, and_true, List.nil_append, ↓reduceIte, Nat.reduceEqDiff, andW_of, Int.toNat_natCast, List.length_map, List.length_cons, List.length_nil, ↓List.map_cons, ↓List.map_nil, reduceCtorEq, Option.some.injEq, not_true_eq_false, not_false_eq_true, condW_not, condW_beqT, condW_beqF, int_beq, int_bne, str_beq, str_bne, eqb_F, eqb_T, Bool.false_eq_true, List.cons_append, decide_true, decide_false, Nat.add_zero, Nat.zero_add, List.drop_succ_cons, List.drop_zero, List.take_succ_cons, List.take_zero, Option.map_some, Option.map_none, List.getElem?_cons_zero, List.getElem?_cons_succ, eq_self, beq_self_eq_true, Bool.bne_false, Bool.bne_true, Bool.true_beq, Bool.false_beq, hrow, List.length_range, map_get hqt, map_get hqp, wrap_i64]
              | (with_reducible refine condD (fun h => ?_) (fun h => ?_) <;> first | (exfalso; omega) | simp (disch := omega) only [go_sem, true_and, and_true, List.nil_append, ↓reduceIte, Nat.reduceEqDiff, andW_of, Int.toNat_natCast, List.length_map, List.length_cons, List.length_nil, ↓List.map_cons, ↓List.map_nil, reduceCtorEq, Option.some.injEq, not_true_eq_false, not_false_eq_true, condW_not, condW_beqT, condW_beqF, int_beq, int_bne, str_beq, str_bne, eqb_F, eqb_T, Bool.false_eq_true, List.cons_append, decide_true, decide_false, Nat.add_zero, Nat.zero_add, List.drop_succ_cons, List.drop_zero, List.take_succ_cons, List.take_zero, Option.map_some, Option.map_none, List.getElem?_cons_zero, List.getElem?_cons_succ, eq_self, beq_self_eq_true, Bool.bne_false, Bool.bne_true, Bool.true_beq, Bool.false_beq, *, decide_true, decide_false, hrow, List.length_range, map_get hqt, map_get hqp, wrap_i64] | skip)
              | (with_reducible refine condW_intro (fun h => ?_) (fun h => ?_) <;> first | (exfalso; omega) | simp (disch := omega) only [go_sem, true_and, and_true, List.nil_append, ↓reduceIte, Nat.reduceEqDiff, andW_of, Int.toNat_natCast, List.length_map, List.length_cons, List.length_nil, ↓List.map_cons, ↓List.map_nil, reduceCtorEq, Option.some.injEq, not_true_eq_false, not_false_eq_true, condW_not, condW_beqT, condW_beqF, int_beq, int_bne, str_beq, str_bne, eqb_F, eqb_T, Bool.false_eq_true, List.cons_append, decide_true, decide_false, Nat.add_zero, Nat.zero_add, List.drop_succ_cons, List.drop_zero, List.take_succ_cons, List.take_zero, Option.map_some, Option.map_none, List.getElem?_cons_zero, List.getElem?_cons_succ, eq_self, beq_self_eq_true, Bool.bne_false, Bool.bne_true, Bool.true_beq, Bool.false_beq, *, decide_true, decide_false, hrow, List.length_range, map_get hqt, map_get hqp, wrap_i64] | skip)
              | (refine app_own rfl (by intro h; cases h) (rowsOk_one rfl) (by rw [hlen2]; simp; omega) (by rw [hlen2]; simp; omega) ?_)
            refine ⟨q + 1, [(1, 2)], hqt, by omega, ?_⟩
            have e : ((ns.zip p).take (q + 1)).map mP = ((ns.zip p).take q).map mP ++ [[pS ns[q], pI p[q]]] := by
              rw [List.take_succ_eq_append_getElem hqz, List.map_append, List.getElem_zip]
              rfl
            rw [e]
            simp [Wk, wkF, wkM, wkL, look_cons, renV, renA, renC, renB, rn, clV, clA, clAs, clB, notIn, findB, findB_setB, clA.go]
          · obtain rfl : q = ns.length := by omega
            have e : (ns.zip p).take ns.length = ns.zip p := List.take_of_length_le (by rw [List.length_zip]; omega)
            simp only [e]
            clear hpl hlen
            obtain ⟨L, hL⟩ : ∃ L, L = (least || decide (v = ra)) := ⟨_, rfl⟩
            obtain ⟨M, hM⟩ : ∃ M, M = (most || decide (v = rb)) := ⟨_, rfl⟩
            rw [← hL, ← hM] at HS
            have HL := Lib.hid hL
            have HM := Lib.hid hM
            clear hL hM
            obtain ⟨v1, v2⟩ := hvb
            by_cases e12 : ra = rb
            · subst e12
              cases least <;> cases most <;> by_cases e1 : v = ra
              all_goals try (exfalso; omega)
              all_goals
                have E1 := Lib.hid e1
              all_goals
                repeat' first
                  | simp (disch := omega) only [go_sem, true_and, and_true, List.nil_append, ↓reduceIte, Nat.reduceEqDiff, andW_of, Int.toNat_natCast, List.length_map, List.length_cons, List.length_nil, ↓List.map_cons, ↓List.map_nil, reduceCtorEq, Option.some.injEq, not_true_eq_false, not_false_eq_true, condW_not, condW_beqT, condW_beqF, int_beq, int_bne, str_beq, str_bne, eqb_F, eqb_T, Bool.false_eq_true, List.cons_append, decide_true, decide_false, Nat.add_zero, Nat.zero_add, List.drop_succ_cons, List.drop_zero, List.take_succ_cons, List.take_zero, Option.map_some, Option.map_none, List.getElem?_cons_zero, List.getElem?_cons_succ, eq_self, beq_self_eq_true, Bool.bne_false, Bool.bne_true, Bool.true_beq, Bool.false_beq, e1, wrap_i64]
                  | (with_reducible refine condD (fun h => ?_) (fun h => ?_) <;> first | (exfalso; omega) | simp (disch := omega) only [go_sem, true_and, and_true, List.nil_append, ↓reduceIte, Nat.reduceEqDiff, andW_of, Int.toNat_natCast, List.length_map, List.length_cons, List.length_nil, ↓List.map_cons, ↓List.map_nil, reduceCtorEq, Option.some.injEq, not_true_eq_false, not_false_eq_true, condW_not, condW_beqT, condW_beqF, int_beq, int_bne, str_beq, str_bne, eqb_F, eqb_T, Bool.false_eq_true, List.cons_append, decide_true, decide_false, Nat.add_zero, Nat.zero_add, List.drop_succ_cons, List.drop_zero, List.take_succ_cons, List.take_zero, Option.map_some, Option.map_none, List.getElem?_cons_zero, List.getElem?_cons_succ, eq_self, beq_self_eq_true, Bool.bne_false, Bool.bne_true, Bool.true_beq, Bool.false_beq, *, decide_true, decide_false, e1, wrap_i64] | skip)
                  | (with_reducible refine condW_intro (fun h => ?_) (fun h => ?_) <;> first | (exfalso; omega) | simp (disch := omega) only [go_sem, true_and, and_true, List.nil_append, ↓reduceIte, Nat.reduceEqDiff, andW_of, Int.toNat_natCast, List.length_map, List.length_cons, List.length_nil, ↓List.map_cons, ↓List.map_nil, reduceCtorEq, Option.some.injEq, not_true_eq_false, not_false_eq_true, condW_not, condW_beqT, condW_beqF, int_beq, int_bne, str_beq, str_bne, eqb_F, eqb_T, Bool.false_eq_true, List.cons_append, decide_true, decide_false, Nat.add_zero, Nat.zero_add, List.drop_succ_cons, List.drop_zero, List.take_succ_cons, List.take_zero, Option.map_some, Option.map_none, List.getElem?_cons_zero, List.getElem?_cons_succ, eq_self, beq_self_eq_true, Bool.bne_false, Bool.bne_true, Bool.true_beq, Bool.false_beq, *, decide_true, decide_false, e1, wrap_i64] | skip)
                  | (refine callW_of p5 rfl (.inl rfl) ?_)
              all_goals
                refine ⟨(i + 1, L, M), [], ⟨hlt, HS⟩, by show _ - _ < _ - _; omega, ?_⟩
                simp [Wk, wkF, wkM, wkL, look_cons, renV, renA, renC, renB, rn, clV, clA, clAs, clB, notIn, findB, findB_setB, clA.go, HL.out, HM.out, E1.out]
            · have e21 : ¬ rb = ra := fun h => e12 h.symm
              cases least <;> cases most <;> by_cases e1 : v = ra <;> by_cases e2 : v = rb
              all_goals try (exfalso; omega)
              all_goals
                have E1 := Lib.hid e1
              all_goals
                have E2 := Lib.hid e2
              all_goals
                repeat' first
                  | simp (disch := omega) only [go_sem, true_and, and_true, List.nil_append, ↓reduceIte, Nat.reduceEqDiff, andW_of, Int.toNat_natCast, List.length_map, List.length_cons, List.length_nil, ↓List.map_cons, ↓List.map_nil, reduceCtorEq, Option.some.injEq, not_true_eq_false, not_false_eq_true, condW_not, condW_beqT, condW_beqF, int_beq, int_bne, str_beq, str_bne, eqb_F, eqb_T, Bool.false_eq_true, List.cons_append, decide_true, decide_false, Nat.add_zero, Nat.zero_add, List.drop_succ_cons, List.drop_zero, List.take_succ_cons, List.take_zero, Option.map_some, Option.map_none, List.getElem?_cons_zero, List.getElem?_cons_succ, eq_self, beq_self_eq_true, Bool.bne_false, Bool.bne_true, Bool.true_beq, Bool.false_beq, e12, e21, e1, e2, wrap_i64]
                  | (with_reducible refine condD (fun h => ?_) (fun h => ?_) <;> first | (exfalso; omega) | simp (disch := omega) only [go_sem, true_and, and_true, List.nil_append, ↓reduceIte, Nat.reduceEqDiff, andW_of, Int.toNat_natCast, List.length_map, List.length_cons, List.length_nil, ↓List.map_cons, ↓List.map_nil, reduceCtorEq, Option.some.injEq, not_true_eq_false, not_false_eq_true, condW_not, condW_beqT, condW_beqF, int_beq, int_bne, str_beq, str_bne, eqb_F, eqb_T, Bool.false_eq_true, List.cons_append, decide_true, decide_false, Nat.add_zero, Nat.zero_add, List.drop_succ_cons, List.drop_zero, List.take_succ_cons, List.take_zero, Option.map_some, Option.map_none, List.getElem?_cons_zero, List.getElem?_cons_succ, eq_self, beq_self_eq_true, Bool.bne_false, Bool.bne_true, Bool.true_beq, Bool.false_beq, *, decide_true, decide_false, e12, e21, e1, e2, wrap_i64] | skip)
                  | (with_reducible refine condW_intro (fun h => ?_) (fun h => ?_) <;> first | (exfalso; omega) | simp (disch := omega) only [go_sem, true_and, and_true, List.nil_append, ↓reduceIte, Nat.reduceEqDiff, andW_of, Int.toNat_natCast, List.length_map, List.length_cons, List.length_nil, ↓List.map_cons, ↓List.map_nil, reduceCtorEq, Option.some.injEq, not_true_eq_false, not_false_eq_true, condW_not, condW_beqT, condW_beqF, int_beq, int_bne, str_beq, str_bne, eqb_F, eqb_T, Bool.false_eq_true, List.cons_append, decide_true, decide_false, Nat.add_zero, Nat.zero_add, List.drop_succ_cons, List.drop_zero, List.take_succ_cons, List.take_zero, Option.map_some, Option.map_none, List.getElem?_cons_zero, List.getElem?_cons_succ, eq_self, beq_self_eq_true, Bool.bne_false, Bool.bne_true, Bool.true_beq, Bool.false_beq, *, decide_true, decide_false, e12, e21, e1, e2, wrap_i64] | skip)
                  | (refine callW_of p5 rfl (.inl rfl) ?_)
              all_goals
                refine ⟨(i + 1, L, M), [], ⟨hlt, HS⟩, by show _ - _ < _ - _; omega, ?_⟩
                simp [Wk, wkF, wkM, wkL, look_cons, renV, renA, renC, renB, rn, clV, clA, clAs, clB, notIn, findB, findB_setB, clA.go, HL.out, HM.out, e12, e21, E1.out, E2.out]
        · obtain rfl : i = n := by omega
          have a1 : least = true := hlm.out.1.2 AT.out.1
          have a2 : most = true := hlm.out.2.2 AT.out.2
          subst a1
          subst a2
          clear hlm AT VB G4
          repeat' first
            | simp (disch := omega) only [go_sem, true_and, and_true, List.nil_append, ↓reduceIte, Nat.reduceEqDiff, andW_of, Int.toNat_natCast, List.length_map, List.length_cons, List.length_nil, ↓List.map_cons, ↓List.map_nil, reduceCtorEq, Option.some.injEq, not_true_eq_false, not_false_eq_true, condW_not, condW_beqT, condW_beqF, int_beq, int_bne, str_beq, str_bne, eqb_F, eqb_T, Bool.false_eq_true, List.cons_append, decide_true, decide_false, Nat.add_zero, Nat.zero_add, List.drop_succ_cons, List.drop_zero, List.take_succ_cons, List.take_zero, Option.map_some, Option.map_none, List.getElem?_cons_zero, List.getElem?_cons_succ, eq_self, beq_self_eq_true, Bool.bne_false, Bool.bne_true, Bool.true_beq, Bool.false_beq, List.length_range]
            | (with_reducible refine condD (fun h => ?_) (fun h => ?_) <;> first | (exfalso; omega) | simp (disch := omega) only [go_sem, true_and, and_true, List.nil_append, ↓reduceIte, Nat.reduceEqDiff, andW_of, Int.toNat_natCast, List.length_map, List.length_cons, List.length_nil, ↓List.map_cons, ↓List.map_nil, reduceCtorEq, Option.some.injEq, not_true_eq_false, not_false_eq_true, condW_not, condW_beqT, condW_beqF, int_beq, int_bne, str_beq, str_bne, eqb_F, eqb_T, Bool.false_eq_true, List.cons_append, decide_true, decide_false, Nat.add_zero, Nat.zero_add, List.drop_succ_cons, List.drop_zero, List.take_succ_cons, List.take_zero, Option.map_some, Option.map_none, List.getElem?_cons_zero, List.getElem?_cons_succ, eq_self, beq_self_eq_true, Bool.bne_false, Bool.bne_true, Bool.true_beq, Bool.false_beq, *, decide_true, decide_false, List.length_range] | skip)
            | (with_reducible refine condW_intro (fun h => ?_) (fun h => ?_) <;> first | (exfalso; omega) | simp (disch := omega) only [go_sem, true_and, and_true, List.nil_append, ↓reduceIte, Nat.reduceEqDiff, andW_of, Int.toNat_natCast, List.length_map, List.length_cons, List.length_nil, ↓List.map_cons, ↓List.map_nil, reduceCtorEq, Option.some.injEq, not_true_eq_false, not_false_eq_true, condW_not, condW_beqT, condW_beqF, int_beq, int_bne, str_beq, str_bne, eqb_F, eqb_T, Bool.false_eq_true, List.cons_append, decide_true, decide_false, Nat.add_zero, Nat.zero_add, List.drop_succ_cons, List.drop_zero, List.take_succ_cons, List.take_zero, Option.map_some, Option.map_none, List.getElem?_cons_zero, List.getElem?_cons_succ, eq_self, beq_self_eq_true, Bool.bne_false, Bool.bne_true, Bool.true_beq, Bool.false_beq, *, decide_true, decide_false, List.length_range] | skip)
            | (refine callW_of law09_examples_abs rfl (.inl rfl) ?_)
      · have hz : (rng k l ns xs).1 = 0 ∧ (rng k l ns xs).2.1 = 0 := by
          unfold rng at he ⊢
          split
          · exact ⟨rfl, rfl⟩
          · split
            · exact ⟨rfl, rfl⟩
            · split
              · exact ⟨rfl, rfl⟩
              · split
                · exact ⟨rfl, rfl⟩
                · split
                  · simp_all
                  · exact ⟨rfl, rfl⟩
        obtain ⟨hz1, hz2⟩ := hz
        repeat' first
          | simp (disch := omega) only [go_sem, true_and, and_true, List.nil_append, ↓reduceIte, Nat.reduceEqDiff, andW_of, Int.toNat_natCast, List.length_map, List.length_cons, List.length_nil, ↓List.map_cons, ↓List.map_nil, reduceCtorEq, Option.some.injEq, not_true_eq_false, not_false_eq_true, condW_not, condW_beqT, condW_beqF, int_beq, int_bne, str_beq, str_bne, eqb_F, eqb_T, Bool.false_eq_true, List.cons_append, decide_true, decide_false, Nat.add_zero, Nat.zero_add, List.drop_succ_cons, List.drop_zero, List.take_succ_cons, List.take_zero, Option.map_some, Option.map_none, List.getElem?_cons_zero, List.getElem?_cons_succ, eq_self, beq_self_eq_true, Bool.bne_false, Bool.bne_true, Bool.true_beq, Bool.false_beq, hz1, hz2]
          | (with_reducible refine condD (fun h => ?_) (fun h => ?_) <;> first | (exfalso; omega) | simp (disch := omega) only [go_sem, true_and, and_true, List.nil_append, ↓reduceIte, Nat.reduceEqDiff, andW_of, Int.toNat_natCast, List.length_map, List.length_cons, List.length_nil, ↓List.map_cons, ↓List.map_nil, reduceCtorEq, Option.some.injEq, not_true_eq_false, not_false_eq_true, condW_not, condW_beqT, condW_beqF, int_beq, int_bne, str_beq, str_bne, eqb_F, eqb_T, Bool.false_eq_true, List.cons_append, decide_true, decide_false, Nat.add_zero, Nat.zero_add, List.drop_succ_cons, List.drop_zero, List.take_succ_cons, List.take_zero, Option.map_some, Option.map_none, List.getElem?_cons_zero, List.getElem?_cons_succ, eq_self, beq_self_eq_true, Bool.bne_false, Bool.bne_true, Bool.true_beq, Bool.false_beq, *, decide_true, decide_false, hz1, hz2] | skip)
          | (with_reducible refine condW_intro (fun h => ?_) (fun h => ?_) <;> first | (exfalso; omega) | simp (disch := omega) only [go_sem, true_and, and_true, List.nil_append, ↓reduceIte, Nat.reduceEqDiff, andW_of, Int.toNat_natCast, List.length_map, List.length_cons, List.length_nil, ↓List.map_cons, ↓List.map_nil, reduceCtorEq, Option.some.injEq, not_true_eq_false, not_false_eq_true, condW_not, condW_beqT, condW_beqF, int_beq, int_bne, str_beq, str_bne, eqb_F, eqb_T, Bool.false_eq_true, List.cons_append, decide_true, decide_false, Nat.add_zero, Nat.zero_add, List.drop_succ_cons, List.drop_zero, List.take_succ_cons, List.take_zero, Option.map_some, Option.map_none, List.getElem?_cons_zero, List.getElem?_cons_succ, eq_self, beq_self_eq_true, Bool.bne_false, Bool.bne_true, Bool.true_beq, Bool.false_beq, *, decide_true, decide_false, hz1, hz2] | skip)
          | (refine callW_of law09_examples_abs rfl (.inl rfl) ?_)
          | (refine callW_of p0 rfl (.inl rfl) ?_)
          | (refine callW_of p4 rfl (.inl rfl) ?_)
          | (refine callW_of p1 rfl (.inl rfl) ?_)
    · have hlen' : ¬ (ns.length : Int) = xs.length := by omega
      repeat' first
        | simp (disch := omega) only [go_sem, true_and, and_true, List.nil_append, ↓reduceIte, Nat.reduceEqDiff, andW_of, Int.toNat_natCast, List.length_map, List.length_cons, List.length_nil, ↓List.map_cons, ↓List.map_nil, reduceCtorEq, Option.some.injEq, not_true_eq_false, not_false_eq_true, condW_not, condW_beqT, condW_beqF, int_beq, int_bne, str_beq, str_bne, eqb_F, eqb_T, Bool.false_eq_true, List.cons_append, decide_true, decide_false, Nat.add_zero, Nat.zero_add, List.drop_succ_cons, List.drop_zero, List.take_succ_cons, List.take_zero, Option.map_some, Option.map_none, List.getElem?_cons_zero, List.getElem?_cons_succ, eq_self, beq_self_eq_true, Bool.bne_false, Bool.bne_true, Bool.true_beq, Bool.false_beq, hlen']
        | (with_reducible refine condD (fun h => ?_) (fun h => ?_) <;> first | (exfalso; omega) | simp (disch := omega) only [go_sem, true_and, and_true, List.nil_append, ↓reduceIte, Nat.reduceEqDiff, andW_of, Int.toNat_natCast, List.length_map, List.length_cons, List.length_nil, ↓List.map_cons, ↓List.map_nil, reduceCtorEq, Option.some.injEq, not_true_eq_false, not_false_eq_true, condW_not, condW_beqT, condW_beqF, int_beq, int_bne, str_beq, str_bne, eqb_F, eqb_T, Bool.false_eq_true, List.cons_append, decide_true, decide_false, Nat.add_zero, Nat.zero_add, List.drop_succ_cons, List.drop_zero, List.take_succ_cons, List.take_zero, Option.map_some, Option.map_none, List.getElem?_cons_zero, List.getElem?_cons_succ, eq_self, beq_self_eq_true, Bool.bne_false, Bool.bne_true, Bool.true_beq, Bool.false_beq, *, decide_true, decide_false, hlen'] | skip)
        | (with_reducible refine condW_intro (fun h => ?_) (fun h => ?_) <;> first | (exfalso; omega) | simp (disch := omega) only [go_sem, true_and, and_true, List.nil_append, ↓reduceIte, Nat.reduceEqDiff, andW_of, Int.toNat_natCast, List.length_map, List.length_cons, List.length_nil, ↓List.map_cons, ↓List.map_nil, reduceCtorEq, Option.some.injEq, not_true_eq_false, not_false_eq_true, condW_not, condW_beqT, condW_beqF, int_beq, int_bne, str_beq, str_bne, eqb_F, eqb_T, Bool.false_eq_true, List.cons_append, decide_true, decide_false, Nat.add_zero, Nat.zero_add, List.drop_succ_cons, List.drop_zero, List.take_succ_cons, List.take_zero, Option.map_some, Option.map_none, List.getElem?_cons_zero, List.getElem?_cons_succ, eq_self, beq_self_eq_true, Bool.bne_false, Bool.bne_true, Bool.true_beq, Bool.false_beq, *, decide_true, decide_false, hlen'] | skip)
        | (refine callW_of law09_examples_abs rfl (.inl rfl) ?_)
        | (refine callW_of p0 rfl (.inl rfl) ?_)
        | (refine callW_of p4 rfl (.inl rfl) ?_)
end Go.Proofs.Ytcbnnjadgkgheaa
