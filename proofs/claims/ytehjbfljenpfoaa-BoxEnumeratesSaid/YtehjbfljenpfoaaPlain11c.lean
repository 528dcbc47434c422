/- Plain laws for offsets and points of a shape or a box: no program in sight. -/
import Derived.Test.YtehjbfljenpfoaaPlain11
set_option linter.unusedVariables false
set_option linter.unusedSimpArgs false
namespace Go.Proofs.Ytehjbfljenpfoaa

def rankTo (xs ps : List Int) : Nat → Int
 | 0 => 0
 | k + 1 => rankTo xs ps k * xs[k]?.getD 0 + ps[k]?.getD 0
def InB (xs ps : List Int) : Prop := ps.length = xs.length ∧ ∀ k, k < xs.length → 0 ≤ ps[k]?.getD 0 ∧ ps[k]?.getD 0 < xs[k]?.getD 0
instance (xs ps : List Int) : Decidable (InB xs ps) := by unfold InB; infer_instance
def rank (xs ps : List Int) : Int := rankTo xs ps xs.length
def offset (xs ps : List Int) : Int × Bool := if vld xs = 0 ∧ InB xs ps then (rank xs ps, true) else (0, false)
theorem offset_bad {xs ps : List Int} (h : ¬ vld xs = 0) : offset xs ps = (0, false) := by rw [offset, if_neg (fun h2 => h h2.1)]
theorem offset_out {xs ps : List Int} (h : ¬ InB xs ps) : offset xs ps = (0, false) := by rw [offset, if_neg (fun h2 => h h2.2)]
theorem offset_in {xs ps : List Int} (h0 : vld xs = 0) (h : InB xs ps) : offset xs ps = (rank xs ps, true) := by rw [offset, if_pos ⟨h0, h⟩]
theorem not_in_low {xs ps : List Int} {k : Nat} (hk : k < xs.length) (h : ps[k]?.getD 0 < 0) : ¬ InB xs ps := fun h2 => by have := h2.2 k hk; omega
theorem not_in_high {xs ps : List Int} {k : Nat} (hk : k < xs.length) (h : xs[k]?.getD 0 ≤ ps[k]?.getD 0) : ¬ InB xs ps := fun h2 => by have := h2.2 k hk; omega

theorem rank_step {r q x p : Int} (h0 : 0 ≤ r) (h1 : r < q) (hx : 1 ≤ x) (hp : 0 ≤ p) (hp2 : p < x) : 0 ≤ r * x ∧ r * x + p < q * x := by
 have h2 : 0 ≤ r * x := Int.mul_nonneg h0 (by omega)
 have h3 : (r + 1) * x ≤ q * x := Int.mul_le_mul_of_nonneg_right (by omega) (by omega)
 rw [Int.add_mul] at h3
 omega
theorem rankTo_bd {xs ps : List Int} (hpos : ∀ x ∈ xs, 1 ≤ x) : ∀ k, k ≤ xs.length → (∀ j, j < k → 0 ≤ ps[j]?.getD 0 ∧ ps[j]?.getD 0 < xs[j]?.getD 0) → 0 ≤ rankTo xs ps k ∧ rankTo xs ps k < prod (xs.take k)
 | 0, _, _ => by simp [rankTo, prod]
 |k + 1, hk, h => by
  have ih := rankTo_bd hpos k (by omega) fun j hj => h j (by omega)
  have hx := get_of_all hpos (show k < xs.length by omega)
  have hp := h k (by omega)
  have := rank_step ih.1 ih.2 hx hp.1 hp.2
  rw [prod_take_succ (by omega), rankTo]
  omega

def coord (xs : List Int) (at' : Int) (i : Nat) : Int := at' / prod (xs.drop (i + 1)) % xs[i]?.getD 0
def pointOf (xs : List Int) (at' : Int) : List Int := (List.range xs.length).map (coord xs at')
theorem length_pointOf (xs : List Int) (at' : Int) : (pointOf xs at').length = xs.length := by simp [pointOf]
theorem pointOf_get {xs : List Int} {at' : Int} {k : Nat} (hk : k < xs.length) : (pointOf xs at')[k]?.getD 0 = coord xs at' k := by simp [pointOf, hk]
theorem pointOf_drop {xs : List Int} {at' : Int} {k : Nat} (hk : k < xs.length) : (pointOf xs at').drop k = coord xs at' k :: (pointOf xs at').drop (k + 1) := by
 rw [List.drop_eq_getElem_cons (by rw [length_pointOf]; exact hk)]
 congr 1
 simp [pointOf]
theorem div_drop {xs : List Int} (hpos : ∀ x ∈ xs, 1 ≤ x) (at' : Int) {k : Nat} (hk : k < xs.length) : at' / prod (xs.drop k) = at' / prod (xs.drop (k + 1)) / xs[k]?.getD 0 := by
 have h2 := prod_pos (xs.drop (k + 1)) fun x hx => hpos x (List.mem_of_mem_drop hx)
 rw [prod_drop hk, Int.mul_comm, Int.ediv_ediv_of_nonneg (by omega)]
theorem coord_bd {xs : List Int} (hpos : ∀ x ∈ xs, 1 ≤ x) (at' : Int) {k : Nat} (hk : k < xs.length) : 0 ≤ coord xs at' k ∧ coord xs at' k < xs[k]?.getD 0 := by
 have hx := get_of_all hpos hk
 exact ⟨Int.emod_nonneg _ (by omega), Int.emod_lt_of_pos _ (by omega)⟩
theorem pointOf_in {xs : List Int} (hpos : ∀ x ∈ xs, 1 ≤ x) (at' : Int) : InB xs (pointOf xs at') :=
 ⟨length_pointOf _ _, fun k hk => by rw [pointOf_get hk]; exact coord_bd hpos at' hk⟩
theorem rankTo_point {xs : List Int} (hpos : ∀ x ∈ xs, 1 ≤ x) {at' : Int} (h0 : 0 ≤ at') (h1 : at' < prod xs) : ∀ k, k ≤ xs.length → rankTo xs (pointOf xs at') k = at' / prod (xs.drop k)
 | 0, _ => by rw [rankTo, List.drop_zero, Int.ediv_eq_zero_of_lt h0 h1]
 |k + 1, hk => by
  rw [rankTo, rankTo_point hpos h0 h1 k (by omega), pointOf_get (by omega), coord, div_drop hpos at' (show k < xs.length by omega), Int.mul_comm]
  exact Int.mul_ediv_add_emod _ _
theorem rank_point {xs : List Int} (hpos : ∀ x ∈ xs, 1 ≤ x) {at' : Int} (h0 : 0 ≤ at') (h1 : at' < prod xs) : rank xs (pointOf xs at') = at' := by
 rw [rank, rankTo_point hpos h0 h1 _ (Nat.le_refl _), List.drop_length, prod, Int.ediv_one]
def point (xs : List Int) (at' : Int) : List Int × Bool := if 0 ≤ at' ∧ at' < size xs then (pointOf xs at', true) else ([], false)
theorem point_out {xs : List Int} {at' : Int} (h : ¬ (0 ≤ at' ∧ at' < size xs)) : point xs at' = ([], false) := by rw [point, if_neg h]
theorem point_in {xs : List Int} {at' : Int} (h : 0 ≤ at' ∧ at' < size xs) : point xs at' = (pointOf xs at', true) := by rw [point, if_pos h]
theorem size_cases {xs : List Int} {at' : Int} (h : 0 ≤ at' ∧ at' < size xs) : vld xs = 0 ∧ at' < prod xs := by
 unfold size at h
 split at h
 ·exact ⟨by assumption, h.2⟩
 ·omega
def dotTo (ps ss : List Int) : Nat → Int
 | 0 => 0
 | k + 1 => dotTo ps ss k + ps[k]?.getD 0 * ss[k]?.getD 0
theorem dot_point {xs ss : List Int} (hpos : ∀ x ∈ xs, 1 ≤ x) (hs : ∀ k, k < xs.length → ss[k]?.getD 0 = prod (xs.drop (k + 1))) {at' : Int} (h0 : 0 ≤ at') (h1 : at' < prod xs) :
  ∀ k, k ≤ xs.length → dotTo (pointOf xs at') ss k = at' / prod (xs.drop k) * prod (xs.drop k)
 | 0, _ => by rw [dotTo, List.drop_zero, Int.ediv_eq_zero_of_lt h0 h1, Int.zero_mul]
 |k + 1, hk => by
  have hk' : k < xs.length := by omega
  rw [dotTo, dot_point hpos hs h0 h1 k (by omega), pointOf_get hk', hs k hk', coord, div_drop hpos at' hk', prod_drop hk', ← Int.mul_assoc, ← Int.add_mul]
  congr 1
  rw [Int.mul_comm]
  exact Int.mul_ediv_add_emod _ _
end Go.Proofs.Ytehjbfljenpfoaa
