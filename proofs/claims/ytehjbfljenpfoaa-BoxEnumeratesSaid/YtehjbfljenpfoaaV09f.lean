/- Walks by the abstract machine: boxes: points, ranks, successors. -/
import Derived.Test.YtehjbfljenpfoaaV09e
import Derived.Test.YtehjbfljenpfoaaV05b
import Derived.Test.YtehjbfljenpfoaaPlain51
set_option linter.unusedVariables false
set_option linter.unusedSimpArgs false
set_option maxRecDepth 20000
namespace Go.Proofs.Ytehjbfljenpfoaa
open Go.Abs Go.RowKit

theorem box_Point_abs (xs : List Int) {at' : Int} (hat : in64 at') : PCalls Try.prog n_box_Point [aInts xs, I at'] (.tup [aInts (bpoint xs at').1, Go.Abs.B (bpoint xs at').2]) := by
 refine PCalls.of is_box_Point (by simp) fun hb => runW_sound ?_
 have hx : xs.length ≤ 9223372036854775807 := by simpa [bndVs, bndV, bndA] using hb.1
 obtain ⟨hat1, hat2⟩ := hat
 by_cases hin : 0 ≤ at' ∧ at' < bcount xs
 ·have hsc := pos_of_count (xs := xs) (by omega)
  have hg := hsc.2.2.2
  have h6 : xs.length ≤ 16 := hsc.2.2.1
  obtain ⟨h0, h1⟩ := hin
  rw [bpoint_in ⟨h0, h1⟩]
  clear hsc
  simp only [c_box_Point]
  repeat' first | simp (disch := omega) only [go_sem] | ((with_reducible refine condT ?_ ?_) <;> intro h <;> try first | omega | simp (disch := omega) only [go_sem, *]) | (refine callW_of (box_Count_abs xs) rfl (.inl rfl) ?_)
  refine AW_loop (fun x : Nat × Int => ⟨[(0, aInts xs), (1, I x.2), (6, .c (.ref 0)), (7, I ((x.1 : Int) - 1))], [(0, .arr 3 1 ((List.replicate x.1 0 ++ (pointOf xs at').drop x.1).map fun n => [pI n]))], 1, 0⟩)
   (fun x => x.1 ≤ xs.length ∧ 0 ≤ x.2 ∧ x.2 ≤ 9223372036854775807 ∧ x.2 = at' / prod (xs.drop x.1)) (fun x => x.1) ⟨(xs.length, at'), [], ⟨Nat.le_refl _, h0, hat2, ?_⟩, ?_⟩ ?_
  ·rw [List.drop_eq_nil_of_le (Nat.le_refl _), prod, Int.ediv_one]
  ·have e1 : (pointOf xs at').drop xs.length = [] := List.drop_eq_nil_of_le (by rw [length_pointOf]; exact Nat.le_refl _)
   simp [e1, wrap_i64 (show -9223372036854775808 ≤ (xs.length : Int) - 1 ∧ (xs.length : Int) - 1 ≤ 9223372036854775807 by omega)]
  ·rintro ⟨k, z⟩ ⟨hk, hz0, hz1, hz⟩
   refine runW_sound ?_
   cases k with
   | zero =>
    repeat' first | simp (disch := omega) only [go_sem] | ((with_reducible refine condT ?_ ?_) <;> intro h <;> try first | omega | simp (disch := omega) only [go_sem, *])
    all_goals simp
   | succ k =>
    have hlt : k < xs.length := hk
    have e1 : (((k + 1 : Nat) : Int) - 1) = (k : Int) := by omega
    have hx1 := (hg.get hlt).1
    have hget : xs[k]?.getD 0 = xs[k] := by simp [hlt]
    rw [hget] at hx1
    have hne : xs[k] ≠ 0 := by omega
    have hq0 : 0 ≤ z / xs[k] := Int.ediv_nonneg hz0 (by omega)
    have hq1 : z / xs[k] ≤ z := Int.ediv_le_self _ hz0
    have eq1 : z.tdiv xs[k] = z / xs[k] := Int.tdiv_eq_ediv_of_nonneg hz0
    have eq2 : z.tmod xs[k] = z % xs[k] := Int.tmod_eq_emod_of_nonneg hz0
    have hrow : ((List.replicate (k + 1) (0 : Int) ++ (pointOf xs at').drop (k + 1)).map fun n => [pI n])[k]? = some [pI 0] := by
     rw [List.getElem?_map, List.getElem?_append_left (by simp), List.getElem?_replicate, if_pos (by omega)]
     rfl
    have hlen : k < (List.replicate (k + 1) (0 : Int) ++ (pointOf xs at').drop (k + 1)).length := by simp; omega
    simp only [e1]
    repeat' first | simp (disch := omega) only [go_sem, map_get hlt, hrow, wrap_i64, eq1, eq2, hne, ne_eq] | ((with_reducible refine condT ?_ ?_) <;> intro h <;> try first | omega | simp (disch := omega) only [go_sem, *, map_get hlt, hrow, wrap_i64, eq1, eq2, hne, ne_eq])
    have hz' : z = at' / prod (xs.drop (k + 1)) := hz
    have hset : (((List.replicate (k + 1) (0 : Int) ++ (pointOf xs at').drop (k + 1)).map fun n => [pI n]).set k [PC.val (.int .i64 (z % xs[k]))]) = (List.replicate k 0 ++ (pointOf xs at').drop k).map fun n => [pI n] := by
     have h2 := set_fill k (0 : Int) (z % xs[k]?.getD 0) ((pointOf xs at').drop (k + 1))
     rw [hget] at h2
     rw [← List.map_set (f := fun n : Int => [pI n]) (a := z % xs[k])]
     rw [h2, pointOf_drop hlt, ← coord_div hz', hget]
    rw [hset]
    refine ⟨(k, z / xs[k]), [], ⟨by omega, hq0, by show z / xs[k] ≤ _; omega, ?_⟩, Nat.lt_succ_self _, by simp⟩
    show z / xs[k] = at' / prod (xs.drop k)
    rw [div_drop hg.pos at' hlt, ← hz', hget]
 ·rw [bpoint_out hin]
  simp only [c_box_Point]
  repeat' first | simp (disch := omega) only [go_sem] | ((with_reducible refine condT ?_ ?_) <;> intro h <;> try first | omega | simp (disch := omega) only [go_sem, *]) | (refine callW_of (box_Count_abs xs) rfl (.inl rfl) ?_)
  all_goals rfl
theorem ref09_Point_abs (xs : List Int) {at' : Int} (hat : in64 at') : PCalls Try.prog n_ref09_Point [aInts xs, I at'] (.tup [aInts (bpoint xs at').1, Go.Abs.B (bpoint xs at').2]) := by
 refine PCalls.of is_ref09_Point (by simp) fun hb => runW_sound ?_
 have hx : xs.length ≤ 9223372036854775807 := by simpa [bndVs, bndV, bndA] using hb.1
 obtain ⟨hat1, hat2⟩ := hat
 by_cases hin : 0 ≤ at' ∧ at' < bcount xs
 ·have hsc := pos_of_count (xs := xs) (by omega)
  have hg := hsc.2.2.2
  have h6 : xs.length ≤ 16 := hsc.2.2.1
  obtain ⟨h0, h1⟩ := hin
  rw [bpoint_in ⟨h0, h1⟩]
  clear hsc
  simp only [c_ref09_Point]
  repeat' first | simp (disch := omega) only [go_sem] | ((with_reducible refine condT ?_ ?_) <;> intro h <;> try first | omega | simp (disch := omega) only [go_sem, *]) | (refine callW_of (ref09_Count_abs xs) rfl (.inl rfl) ?_)
  refine AW_loop (fun x : Nat × Int => ⟨[(0, aInts xs), (1, I x.2), (6, .c (.ref 0)), (7, I ((x.1 : Int) - 1))], [(0, .arr 3 1 ((List.replicate x.1 0 ++ (pointOf xs at').drop x.1).map fun n => [pI n]))], 1, 0⟩)
   (fun x => x.1 ≤ xs.length ∧ 0 ≤ x.2 ∧ x.2 ≤ 9223372036854775807 ∧ x.2 = at' / prod (xs.drop x.1)) (fun x => x.1) ⟨(xs.length, at'), [], ⟨Nat.le_refl _, h0, hat2, ?_⟩, ?_⟩ ?_
  ·rw [List.drop_eq_nil_of_le (Nat.le_refl _), prod, Int.ediv_one]
  ·have e1 : (pointOf xs at').drop xs.length = [] := List.drop_eq_nil_of_le (by rw [length_pointOf]; exact Nat.le_refl _)
   simp [e1, wrap_i64 (show -9223372036854775808 ≤ (xs.length : Int) - 1 ∧ (xs.length : Int) - 1 ≤ 9223372036854775807 by omega)]
  ·rintro ⟨k, z⟩ ⟨hk, hz0, hz1, hz⟩
   refine runW_sound ?_
   cases k with
   | zero =>
    repeat' first | simp (disch := omega) only [go_sem] | ((with_reducible refine condT ?_ ?_) <;> intro h <;> try first | omega | simp (disch := omega) only [go_sem, *])
    all_goals simp
   | succ k =>
    have hlt : k < xs.length := hk
    have e1 : (((k + 1 : Nat) : Int) - 1) = (k : Int) := by omega
    have hx1 := (hg.get hlt).1
    have hget : xs[k]?.getD 0 = xs[k] := by simp [hlt]
    rw [hget] at hx1
    have hne : xs[k] ≠ 0 := by omega
    have hq0 : 0 ≤ z / xs[k] := Int.ediv_nonneg hz0 (by omega)
    have hq1 : z / xs[k] ≤ z := Int.ediv_le_self _ hz0
    have eq1 : z.tdiv xs[k] = z / xs[k] := Int.tdiv_eq_ediv_of_nonneg hz0
    have eq2 : z.tmod xs[k] = z % xs[k] := Int.tmod_eq_emod_of_nonneg hz0
    have hrow : ((List.replicate (k + 1) (0 : Int) ++ (pointOf xs at').drop (k + 1)).map fun n => [pI n])[k]? = some [pI 0] := by
     rw [List.getElem?_map, List.getElem?_append_left (by simp), List.getElem?_replicate, if_pos (by omega)]
     rfl
    have hlen : k < (List.replicate (k + 1) (0 : Int) ++ (pointOf xs at').drop (k + 1)).length := by simp; omega
    simp only [e1]
    repeat' first | simp (disch := omega) only [go_sem, map_get hlt, hrow, wrap_i64, eq1, eq2, hne, ne_eq] | ((with_reducible refine condT ?_ ?_) <;> intro h <;> try first | omega | simp (disch := omega) only [go_sem, *, map_get hlt, hrow, wrap_i64, eq1, eq2, hne, ne_eq])
    have hz' : z = at' / prod (xs.drop (k + 1)) := hz
    have hset : (((List.replicate (k + 1) (0 : Int) ++ (pointOf xs at').drop (k + 1)).map fun n => [pI n]).set k [PC.val (.int .i64 (z % xs[k]))]) = (List.replicate k 0 ++ (pointOf xs at').drop k).map fun n => [pI n] := by
     have h2 := set_fill k (0 : Int) (z % xs[k]?.getD 0) ((pointOf xs at').drop (k + 1))
     rw [hget] at h2
     rw [← List.map_set (f := fun n : Int => [pI n]) (a := z % xs[k])]
     rw [h2, pointOf_drop hlt, ← coord_div hz', hget]
    rw [hset]
    refine ⟨(k, z / xs[k]), [], ⟨by omega, hq0, by show z / xs[k] ≤ _; omega, ?_⟩, Nat.lt_succ_self _, by simp⟩
    show z / xs[k] = at' / prod (xs.drop k)
    rw [div_drop hg.pos at' hlt, ← hz', hget]
 ·rw [bpoint_out hin]
  simp only [c_ref09_Point]
  repeat' first | simp (disch := omega) only [go_sem] | ((with_reducible refine condT ?_ ?_) <;> intro h <;> try first | omega | simp (disch := omega) only [go_sem, *]) | (refine callW_of (ref09_Count_abs xs) rfl (.inl rfl) ?_)
  all_goals rfl

def bnext (xs ps : List Int) : List Int × Bool := if Within xs ps then bpoint xs (rank xs ps + 1) else ([], false)
theorem drop_prod {xs : List Int} {k : Nat} (hk : k < xs.length) : prod (xs.drop k) = xs[k] * prod (xs.drop (k + 1)) := by
 rw [List.drop_eq_getElem_cons hk, prod]
theorem rank_top {xs ps : List Int} (hl : ps.length = xs.length) : ∀ (d k : Nat), k + d = xs.length → (∀ j, k ≤ j → j < xs.length → ps[j]?.getD 0 + 1 = xs[j]?.getD 0) → rank xs ps + 1 = (rankTo xs ps k + 1) * prod (xs.drop k)
 |0, k, hd, _ => by
  obtain rfl : k = xs.length := by omega
  rw [List.drop_eq_nil_of_le (Nat.le_refl _), prod, Int.mul_one]
  rfl
 |d + 1, k, hd, h => by
  have hk : k < xs.length := by omega
  rw [rank_top hl d (k + 1) (by omega) fun j h1 h2 => h j (by omega) h2, drop_prod hk, rankTo, ← Int.mul_assoc]
  congr 1
  have := h k (Nat.le_refl _) hk
  have e : xs[k]?.getD 0 = xs[k] := by simp [hk]
  rw [e] at this ⊢
  rw [Int.add_mul, Int.add_assoc, this, Int.one_mul]
theorem rank_zeros {xs qs : List Int} : ∀ (d k : Nat), k + d = xs.length → (∀ j, k ≤ j → j < xs.length → qs[j]?.getD 0 = 0) → rank xs qs = rankTo xs qs k * prod (xs.drop k)
 |0, k, hd, _ => by
  obtain rfl : k = xs.length := by omega
  rw [List.drop_eq_nil_of_le (Nat.le_refl _), prod, Int.mul_one]
  rfl
 |d + 1, k, hd, h => by
  have hk : k < xs.length := by omega
  rw [rank_zeros d (k + 1) (by omega) fun j h1 h2 => h j (by omega) h2, drop_prod hk, rankTo, ← Int.mul_assoc]
  congr 1
  rw [h k (Nat.le_refl _) hk, Int.add_zero]
  simp [hk]
theorem rankTo_congr {xs ps qs : List Int} : ∀ {k : Nat}, (∀ j, j < k → ps[j]?.getD 0 = qs[j]?.getD 0) → rankTo xs ps k = rankTo xs qs k
 | 0, _ => rfl
 | k + 1, h => by rw [rankTo, rankTo, rankTo_congr fun j hj => h j (by omega), h k (by omega)]
def bump (ps : List Int) (i : Nat) : List Int := ps.take i ++ (ps[i]?.getD 0 + 1) :: List.replicate (ps.length - i - 1) 0
theorem bump_len {ps : List Int} {i : Nat} (hi : i < ps.length) : (bump ps i).length = ps.length := by simp [bump]; omega
theorem bump_get {ps : List Int} {i j : Nat} (hi : i < ps.length) (hj : j < ps.length) : (bump ps i)[j]?.getD 0 = if j < i then ps[j]?.getD 0 else if j = i then ps[i]?.getD 0 + 1 else 0 := by
 unfold bump
 by_cases h1 : j < i
 ·rw [if_pos h1, List.getElem?_append_left (by simp; omega), List.getElem?_take_of_lt h1]
 ·rw [if_neg h1, List.getElem?_append_right (by simp; omega)]
  have e : (ps.take i).length = i := by simp; omega
  rw [e]
  by_cases h2 : j = i
  ·subst h2; rw [if_pos rfl, Nat.sub_self]; rfl
  ·rw [if_neg h2]
   obtain ⟨m, hm⟩ : ∃ m, j - i = m + 1 := ⟨j - i - 1, by omega⟩
   rw [hm, List.getElem?_cons_succ, List.getElem?_replicate, if_pos (by omega)]
   rfl
theorem next_hit {xs ps : List Int} (hw : Within xs ps) {i : Nat} (hi : i < xs.length) (hall : ∀ j, i < j → j < xs.length → ps[j]?.getD 0 + 1 = xs[j]?.getD 0) (h : ps[i]?.getD 0 + 1 < xs[i]?.getD 0) : bpoint xs (rank xs ps + 1) = (bump ps i, true) := by
 have hl := hw.2.1
 have hi' : i < ps.length := by omega
 have hpos := hw.pos.2.pos
 have hin : InB xs (bump ps i) := by
  refine ⟨(bump_len hi').trans hl, fun j hj => ?_⟩
  rw [bump_get hi' (by omega)]
  have h1 := hw.2.2 j hj
  have h2 := hw.2.2 i hi
  split
  ·exact h1
  ·split
   ·rename_i e; subst e; omega
   ·omega
 have hr : rank xs (bump ps i) = rank xs ps + 1 := by
  rw [rank_zeros (xs.length - (i + 1)) (i + 1) (by omega) fun j h1 h2 => ?_, rank_top hl (xs.length - (i + 1)) (i + 1) (by omega) fun j h1 h2 => hall j (by omega) h2]
  ·congr 1
   rw [rankTo, rankTo, bump_get hi' hi', if_neg (by omega), if_pos rfl, rankTo_congr (qs := ps) fun j hj => by rw [bump_get hi' (by omega), if_pos hj]]
   omega
  ·rw [bump_get hi' (by omega), if_neg (by omega), if_neg (by omega)]
 have hb := rankTo_bd hpos xs.length (Nat.le_refl _) fun j hj => hin.2 j hj
 have hb' : 0 ≤ rank xs (bump ps i) ∧ rank xs (bump ps i) < prod xs := by
  have := hb
  rw [List.take_length] at this
  exact this
 rw [← hr, bpoint_in, point_rank hpos hin]
 rw [bcount_ok hw.1]
 exact hb'
theorem next_miss {xs ps : List Int} (hw : Within xs ps) (hall : ∀ j, j < xs.length → ps[j]?.getD 0 + 1 = xs[j]?.getD 0) : bpoint xs (rank xs ps + 1) = ([], false) := by
 rw [bpoint_out]
 rw [rank_top hw.2.1 xs.length 0 (by omega) fun j _ h => hall j h, bcount_ok hw.1]
 simp [rankTo]

theorem brank_64 (xs ps : List Int) : in64 (brank xs ps).1 ∧ in64 ((brank xs ps).1 + 1) := by
 by_cases hw : Within xs ps
 ·rw [brank_in hw]
  have hb := rankTo_bd hw.pos.2.pos xs.length (Nat.le_refl _) fun j hj => hw.2.2 j hj
  rw [List.take_length] at hb
  have hb' : 0 ≤ rank xs ps ∧ rank xs ps < prod xs := hb
  have := hw.pos.2.le
  unfold in64
  show (_ ≤ rank xs ps ∧ rank xs ps ≤ _) ∧ (_ ≤ rank xs ps + 1 ∧ rank xs ps + 1 ≤ _)
  omega
 ·rw [brank_out hw]; unfold in64; simp
theorem box_Next_abs (xs ps : List Int) : PCalls Try.prog n_box_Next [aInts xs, aInts ps] (.tup [aInts (bnext xs ps).1, Go.Abs.B (bnext xs ps).2]) := by
 refine PCalls.of is_box_Next (by simp) fun hb => runW_sound ?_
 have hlen : ps.length ≤ 9223372036854775807 := by simpa [bndVs, bndV, bndA] using hb.2.1
 by_cases hw : Within xs ps
 ·have e : bnext xs ps = bpoint xs (rank xs ps + 1) := if_pos hw
  have hl : xs.length = ps.length := hw.2.1.symm
  have h16 := hw.pos.1
  have hpB := hw.pos.2
  rw [e]
  simp only [c_box_Next]
  repeat' first | simp (disch := omega) only [go_sem, hw] | ((with_reducible refine condT ?_ ?_) <;> intro h <;> try first | omega | simp (disch := omega) only [go_sem, *, hw]) | (refine callW_of (box_inside_abs xs ps) rfl (.inl rfl) ?_) | (refine app_nil (rowsOk_map fun _ => rfl) (by simp; omega) (by simp; omega) ?_)
  refine AW_loop (fun k : Nat => ⟨[(0, aInts xs), (6, .c (.ref 0)), (7, I ((k : Int) - 1))], [(0, .arr 3 1 ((ps.take k ++ List.replicate (ps.length - k) 0).map fun n => [pI n]))], 1, 0⟩)
   (fun k => k ≤ ps.length ∧ ∀ j, k ≤ j → j < xs.length → ps[j]?.getD 0 + 1 = xs[j]?.getD 0) (fun k => k) ⟨ps.length, [], ⟨Nat.le_refl _, fun j h1 h2 => by omega⟩, ?_⟩ ?_
  ·simp [wrap_i64 (show -9223372036854775808 ≤ (ps.length : Int) - 1 ∧ (ps.length : Int) - 1 ≤ 9223372036854775807 by omega)]
  ·rintro k ⟨hk, hall⟩
   refine runW_sound ?_
   cases k with
   | zero =>
    rw [next_miss hw fun j hj => hall j (Nat.zero_le _) hj]
    repeat' first | simp (disch := omega) only [go_sem] | ((with_reducible refine condT ?_ ?_) <;> intro h <;> try first | omega | simp (disch := omega) only [go_sem, *])
    all_goals simp
   | succ k =>
    have hlt : k < ps.length := hk
    have hlt' : k < xs.length := by omega
    have e1 : (((k + 1 : Nat) : Int) - 1) = (k : Int) := by omega
    have hp := hw.2.2 k hlt'
    have hx := hpB.get hlt'
    have hget : xs[k]?.getD 0 = xs[k] := by simp [hlt']
    have hgetp : ps[k]?.getD 0 = ps[k] := by simp [hlt]
    have hrow : ((ps.take (k + 1) ++ List.replicate (ps.length - (k + 1)) 0).map fun n => [pI n])[k]? = some [pI ps[k]] := by
     rw [List.getElem?_map, List.getElem?_append_left (by simp; omega), List.getElem?_take_of_lt (by omega), List.getElem?_eq_getElem hlt]
     rfl
    have hlen2 : k < ps.length := hlt
    have hsetb : ∀ y : Int, (ps.take (k + 1) ++ List.replicate (ps.length - (k + 1)) 0).set k y = ps.take k ++ y :: List.replicate (ps.length - k - 1) 0 := by
     intro y
     rw [List.take_succ_eq_append_getElem hlt, List.append_assoc, List.set_append_right _ _ (by simp; omega)]
     have : k - (ps.take k).length = 0 := by simp; omega
     rw [this, Nat.sub_sub]
     rfl
    have hset1 : (((ps.take (k + 1) ++ List.replicate (ps.length - (k + 1)) 0).map fun n => [pI n]).set k [PC.val (.int .i64 (ps[k] + 1))]) = (bump ps k).map fun n => [pI n] := by
     rw [← List.map_set (f := fun n : Int => [pI n]) (a := ps[k] + 1), hsetb, bump, hgetp]
    have hrow2 : ((bump ps k).map fun n => [pI n])[k]? = some [pI (ps[k] + 1)] := by
     rw [List.getElem?_map]
     have h3 := bump_get (i := k) (j := k) hlt hlt
     rw [if_neg (by omega), if_pos rfl, hgetp] at h3
     have h4 : k < (bump ps k).length := by rw [bump_len hlt]; exact hlt
     rw [List.getElem?_eq_getElem h4] at h3 ⊢
     simp at h3 ⊢
     exact h3
    have hset2 : (((bump ps k).map fun n => [pI n]).set k [PC.val (.int .i64 0)]) = (ps.take k ++ List.replicate (ps.length - k) 0).map fun n => [pI n] := by
     rw [← List.map_set (f := fun n : Int => [pI n]) (a := 0)]
     congr 1
     unfold bump
     rw [List.set_append_right _ _ (by simp; omega)]
     have e5 : k - (ps.take k).length = 0 := by simp; omega
     have e6 : ps.length - k = (ps.length - k - 1) + 1 := by omega
     rw [e5, e6, List.replicate_succ]
     rfl
    rw [hgetp, hget] at hp
    rw [hget] at hx
    have e7 : (List.map (fun n => [pI n]) (bump ps k)).length = ps.length := by rw [List.length_map, bump_len hlt]
    have e8 : (ps.take (k + 1) ++ List.replicate (ps.length - (k + 1)) 0).length = ps.length := by simp; omega
    simp only [e1]
    repeat' first | simp (disch := omega) only [go_sem, map_get hlt', hrow, hset1, hrow2, hset2, wrap_i64, e7, e8, bump_len hlt] | ((with_reducible refine condT ?_ ?_) <;> intro h <;> try first | omega | simp (disch := omega) only [go_sem, *, map_get hlt', hrow, hset1, hrow2, hset2, wrap_i64, e7, e8, bump_len hlt])
    ·rw [next_hit hw hlt' (fun j h1 h2 => hall j (by omega) h2) (by rw [hgetp, hget]; omega)]
    ·refine ⟨k, [], ⟨by omega, fun j h1 h2 => ?_⟩, Nat.lt_succ_self _, by simp⟩
     by_cases ej : j = k
     ·subst ej; rw [hgetp, hget]; omega
     ·exact hall j (by omega) (by omega)
 ·have e : bnext xs ps = ([], false) := if_neg hw
  rw [e]
  simp only [c_box_Next]
  repeat' first | simp (disch := omega) only [go_sem, hw] | ((with_reducible refine condT ?_ ?_) <;> intro h <;> try first | omega | simp (disch := omega) only [go_sem, *, hw]) | (refine callW_of (box_inside_abs xs ps) rfl (.inl rfl) ?_)
  all_goals rfl
end Go.Proofs.Ytehjbfljenpfoaa
