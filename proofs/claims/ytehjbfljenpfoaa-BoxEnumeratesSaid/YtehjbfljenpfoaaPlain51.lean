/- Plain laws for the groups of a mesh (layer 51): no program in sight. -/
import Derived.Test.YtehjbfljenpfoaaPlain09
set_option linter.unusedVariables false
set_option linter.unusedSimpArgs false
namespace Go.Proofs.Ytehjbfljenpfoaa

def wsum (xs q : List Int) : Nat → Int
 | 0 => 0
 | k + 1 => wsum xs q k + q[k]?.getD 0 * prod (xs.drop (k + 1))
theorem rank_wsum {xs q : List Int} : ∀ k, k ≤ xs.length → rankTo xs q k * prod (xs.drop k) = wsum xs q k
 | 0, _ => by simp [rankTo, wsum]
 |k + 1, hk => by
  rw [rankTo, wsum, ← rank_wsum k (by omega), prod_drop (show k < xs.length by omega), ← Int.mul_assoc, ← Int.add_mul]
theorem rank_eq {xs q : List Int} : rank xs q = wsum xs q xs.length := by
 rw [← rank_wsum _ (Nat.le_refl _), rank, List.drop_length, prod, Int.mul_one]
theorem get_set {q : List Int} {a k : Nat} {c : Int} (ha : a < q.length) : (q.set a c)[k]?.getD 0 = if k = a then c else q[k]?.getD 0 := by
 by_cases e : k = a
 ·subst e
  rw [if_pos rfl, List.getElem?_set_self ha]
  rfl
 ·rw [if_neg e, List.getElem?_set_ne (fun h => e h.symm)]
theorem wsum_set {xs q : List Int} {a : Nat} {c : Int} (ha : a < q.length) : ∀ k, wsum xs (q.set a c) k = wsum xs q k + if a < k then (c - q[a]?.getD 0) * prod (xs.drop (a + 1)) else 0
 | 0 => by simp [wsum]
 |k + 1 => by
  rw [wsum, wsum, wsum_set ha k, get_set ha]
  by_cases e : k = a
  ·subst e
   rw [if_neg (by omega), if_pos rfl, if_pos (by omega), Int.sub_mul]
   omega
  ·rw [if_neg e]
   by_cases h : a < k
   ·rw [if_pos h, if_pos (by omega)]; omega
   ·rw [if_neg h, if_neg (by omega)]; omega
def groupL (xs p : List Int) (a : Nat) : List Int := (List.range (xs[a]?.getD 0).toNat).map fun (c : Nat) => rank xs (p.set a c)
def group (xs : List Int) (axis d : Int) : List Int :=
 if (0 ≤ d ∧ d < devices xs) ∧ 0 ≤ axis ∧ axis < xs.length then groupL xs (pointOf xs d) axis.toNat else []
theorem group_no {xs : List Int} {axis d : Int} (h : ¬ ((0 ≤ d ∧ d < devices xs) ∧ 0 ≤ axis ∧ axis < xs.length)) : group xs axis d = [] := by rw [group, if_neg h]
theorem group_yes {xs : List Int} {a : Nat} {d : Int} (h : 0 ≤ d ∧ d < devices xs) (ha : a < xs.length) : group xs a d = groupL xs (pointOf xs d) a := by
 rw [group, if_pos ⟨h, by omega, by omega⟩]
 rfl
theorem set_in {xs p : List Int} {a : Nat} {c : Int} (h : InB xs p) (ha : a < xs.length) (h0 : 0 ≤ c) (h1 : c < xs[a]?.getD 0) : InB xs (p.set a c) := by
 refine ⟨by rw [List.length_set]; exact h.1, fun k hk => ?_⟩
 rw [get_set (by rw [h.1]; exact ha)]
 split
 ·rename_i e; subst e; exact ⟨h0, h1⟩
 ·exact h.2 k hk
theorem rank_bd {xs p : List Int} (hpos : ∀ x ∈ xs, 1 ≤ x) (h : InB xs p) : 0 ≤ rank xs p ∧ rank xs p < prod xs := by
 have := rankTo_bd hpos xs.length (Nat.le_refl _) (fun j hj => h.2 j hj)
 rw [List.take_length] at this
 exact this
theorem point_rank {xs p : List Int} (hpos : ∀ x ∈ xs, 1 ≤ x) (h : InB xs p) : pointOf xs (rank xs p) = p := by
 have key : ∀ k, k ≤ xs.length → rank xs p / prod (xs.drop k) = rankTo xs p k := by
  intro k hk
  have h1 : ∀ j, j ≤ xs.length - k → rankTo xs p (xs.length - j) = rank xs p / prod (xs.drop (xs.length - j)) := by
   intro j
   induction j with
   | zero => intro _; rw [Nat.sub_zero, List.drop_length, prod, Int.ediv_one]; rfl
   | succ j ih =>
    intro hj
    have ih := ih (by omega)
    have hlt : xs.length - (j + 1) < xs.length := by omega
    have e : xs.length - j = xs.length - (j + 1) + 1 := by omega
    rw [e] at ih
    rw [div_drop hpos _ hlt, ← ih, rankTo]
    have hx := h.2 _ hlt
    have hp := get_of_all hpos hlt
    rw [Int.add_comm, Int.add_mul_ediv_right _ _ (by omega), Int.ediv_eq_zero_of_lt hx.1 hx.2, Int.zero_add]
  have := h1 (xs.length - k) (by omega)
  rw [show xs.length - (xs.length - k) = k from by omega] at this
  exact this.symm
 apply List.ext_getElem
 ·rw [length_pointOf, h.1]
 ·intro k h1 h2
  rw [length_pointOf] at h1
  have e1 := pointOf_get (xs := xs) (at' := rank xs p) h1
  rw [List.getElem?_eq_getElem (by rw [length_pointOf]; exact h1)] at e1
  simp only [Option.getD_some] at e1
  rw [e1, coord, key (k + 1) (by omega), rankTo]
  have hx := h.2 k h1
  rw [List.getElem?_eq_getElem h2] at hx ⊢
  simp only [Option.getD_some] at hx ⊢
  rw [Int.add_comm, Int.add_mul_emod_self_right, Int.emod_eq_of_lt hx.1 hx.2]
def Same (xs p q : List Int) (a : Nat) : Prop := ∀ k, k < xs.length → k ≠ a → p[k]?.getD 0 = q[k]?.getD 0
instance (xs p q : List Int) (a : Nat) : Decidable (Same xs p q a) := by unfold Same; infer_instance
theorem same_set {xs p q : List Int} {a : Nat} (hp : p.length = xs.length) (hq : q.length = xs.length) (ha : a < xs.length) (h : Same xs p q a) : p.set a (q[a]?.getD 0) = q := by
 apply List.ext_getElem
 ·rw [List.length_set, hp, hq]
 ·intro k h1 h2
  have e := get_set (q := p) (k := k) (c := q[a]?.getD 0) (show a < p.length by omega)
  rw [List.getElem?_eq_getElem h1] at e
  simp only [Option.getD_some] at e
  rw [e]
  split
  ·rename_i ek; subst ek; rw [List.getElem?_eq_getElem h2]; rfl
  ·rename_i ek
   rw [h k (by omega) ek, List.getElem?_eq_getElem h2]; rfl
theorem set_same {xs p : List Int} {a : Nat} {c : Int} (hp : p.length = xs.length) (ha : a < xs.length) : Same xs p (p.set a c) a := by
 intro k hk hka
 rw [get_set (by omega), if_neg hka]
theorem asc_ext : ∀ {l m : List Int}, l.Pairwise (· < ·) → m.Pairwise (· < ·) → (∀ x, x ∈ l ↔ x ∈ m) → l = m
 | [], [], _, _, _ => rfl
 | [], y :: m, _, _, h => by have := (h y).2 (by simp); simp at this
 | x :: l, [], _, _, h => by have := (h x).1 (by simp); simp at this
 |x :: l, y :: m, hl, hm, h => by
  rw [List.pairwise_cons] at hl hm
  have e : x = y := by
   have h1 := (h x).1 (by simp)
   have h2 := (h y).2 (by simp)
   rcases List.mem_cons.1 h1 with e | h1
   ·exact e
   ·rcases List.mem_cons.1 h2 with e | h2
    ·exact e.symm
    ·have := hl.1 y h2
     have := hm.1 x h1
     omega
  subst e
  congr 1
  refine asc_ext hl.2 hm.2 fun z => ?_
  have hz := h z
  constructor
  ·intro hz'
   rcases List.mem_cons.1 (hz.1 (by simp [hz'])) with e | h3
   ·subst e; have := hl.1 z hz'; omega
   ·exact h3
  ·intro hz'
   rcases List.mem_cons.1 (hz.2 (by simp [hz'])) with e | h3
   ·subst e; have := hm.1 z hz'; omega
   ·exact h3
def sameTo (xs p : List Int) (a k : Nat) : List Int := ((List.range k).map fun (i : Nat) => (i : Int)).filter fun d => decide (Same xs p (pointOf xs d) a)
theorem sameTo_succ {xs p : List Int} {a k : Nat} : sameTo xs p a (k + 1) = sameTo xs p a k ++ if Same xs p (pointOf xs k) a then [(k : Int)] else [] := by
 rw [sameTo, List.range_succ, List.map_append, List.filter_append, sameTo]
 congr 1
 simp only [List.map_cons, List.map_nil, List.filter_cons, List.filter_nil]
 by_cases h : Same xs p (pointOf xs k) a
 ·rw [if_pos h, if_pos (decide_eq_true h)]
 ·rw [if_neg h, if_neg (by rw [decide_eq_false h]; exact Bool.false_ne_true)]
theorem groupL_same {xs p : List Int} {a : Nat} (hpos : ∀ x ∈ xs, 1 ≤ x) (hp : InB xs p) (ha : a < xs.length) : groupL xs p a = sameTo xs p a (prod xs).toNat := by
 have hlen : a < p.length := by rw [hp.1]; exact ha
 apply asc_ext
 ·unfold groupL
  refine List.Pairwise.map _ ?_ (List.pairwise_lt_range (n := (xs[a]?.getD 0).toNat))
  intro c c' hc
  rw [rank_eq, rank_eq, wsum_set hlen, wsum_set hlen, if_pos ha, Int.sub_mul, Int.sub_mul]
  have h1 := prod_pos (xs.drop (a + 1)) fun x hx => hpos x (List.mem_of_mem_drop hx)
  have h2 : ((c : Int) + 1) * prod (xs.drop (a + 1)) ≤ (c' : Int) * prod (xs.drop (a + 1)) := Int.mul_le_mul_of_nonneg_right (by omega) (by omega)
  rw [Int.add_mul] at h2
  omega
 ·unfold sameTo
  refine List.Pairwise.filter _ ?_
  refine List.Pairwise.map _ ?_ (List.pairwise_lt_range (n := (prod xs).toNat))
  intro c c' hc
  omega
 ·intro d
  unfold groupL sameTo
  rw [List.mem_filter, List.mem_map, List.mem_map]
  constructor
  ·rintro ⟨c, hc, rfl⟩
   rw [List.mem_range] at hc
   have hi := set_in hp ha (c := c) (by omega) (by omega)
   have hb := rank_bd hpos hi
   refine ⟨⟨(rank xs (p.set a c)).toNat, by rw [List.mem_range]; omega, by omega⟩, ?_⟩
   rw [decide_eq_true_eq, point_rank hpos hi]
   exact set_same hp.1 ha
  ·rintro ⟨⟨i, hi, rfl⟩, h2⟩
   rw [List.mem_range] at hi
   rw [decide_eq_true_eq] at h2
   have hq := pointOf_in hpos (i : Int)
   have hqa := hq.2 a ha
   refine ⟨((pointOf xs i)[a]?.getD 0).toNat, by rw [List.mem_range]; omega, ?_⟩
   rw [show (((pointOf xs (i : Int))[a]?.getD 0).toNat : Int) = (pointOf xs (i : Int))[a]?.getD 0 from by omega, same_set hp.1 hq.1 ha h2]
   exact rank_point hpos (by omega) (by omega)
def groupsTo (xs : List Int) (axis : Int) : Nat → List (List Int)
 | 0 => []
 | k + 1 => groupsTo xs axis k ++ if (group xs axis k).head? = some (k : Int) then [group xs axis k] else []
def groups (xs : List Int) (axis : Int) : List (List Int) := groupsTo xs axis (devices xs).toNat
end Go.Proofs.Ytehjbfljenpfoaa
