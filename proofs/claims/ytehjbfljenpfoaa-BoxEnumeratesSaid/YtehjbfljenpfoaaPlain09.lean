/- Plain laws for boxes (layer 9) and meshes (layer 51): no program in sight. -/
import Derived.Test.YtehjbfljenpfoaaPlain11c
import Derived.Test.YtehjbfljenpfoaaPlain11b
set_option linter.unusedVariables false
set_option linter.unusedSimpArgs false
namespace Go.Proofs.Ytehjbfljenpfoaa

def prodErrM (M : Int) : List Int → Int → Int
 | [], _ => 0
 | n :: r, s => if M / s < n then 2 else prodErrM M r (s * n)
theorem prodErrM_at {M : Int} {k : Nat} {xs : List Int} (s : Int) (hk : k < xs.length) :
  prodErrM M (xs.drop k) s = (if M / s < xs[k]?.getD 0 then 2 else prodErrM M (xs.drop (k + 1)) (s * xs[k]?.getD 0)) := by
 rw [List.drop_eq_getElem_cons hk, prodErrM]
 simp [List.getElem?_eq_getElem hk]
theorem prodErrM_end {M : Int} {k : Nat} {xs : List Int} (s : Int) (hk : xs.length ≤ k) : prodErrM M (xs.drop k) s = 0 := by
 rw [List.drop_eq_nil_of_le hk, prodErrM]
theorem quoM_le {M z x : Int} (hz : 1 ≤ z) (h : ¬ M / z < x) : z * x ≤ M := by
 have h1 : x ≤ M / z := by omega
 have h2 : z * x ≤ z * (M / z) := Int.mul_le_mul_of_nonneg_left h1 (by omega)
 have h3 := Int.mul_ediv_self_le (x := M) (k := z) (by omega)
 omega
theorem quoM_lt {M z x : Int} (hz : 1 ≤ z) (h : M / z < x) : M < z * x := by
 by_cases h2 : z * x ≤ M
 ·have := (Int.le_ediv_iff_mul_le (show 0 < z by omega)).2 (show x * z ≤ M by rw [Int.mul_comm]; exact h2)
  omega
 ·omega
theorem prodErrM_zero_iff {M : Int} : ∀ (xs : List Int) (s : Int), 1 ≤ s → s ≤ M → (∀ x ∈ xs, 1 ≤ x) → (prodErrM M xs s = 0 ↔ s * prod xs ≤ M)
 | [], s, _, h2, _ => by simp [prodErrM, prod, h2]
 |n :: r, s, h1, h2, h3 => by
  have hn : 1 ≤ n := h3 n (by simp)
  have hr : ∀ x ∈ r, 1 ≤ x := fun x hx => h3 x (by simp [hx])
  have hp : 1 ≤ prod r := prod_pos r hr
  rw [prodErrM, prod, ← Int.mul_assoc]
  by_cases h : M / s < n
  ·rw [if_pos h]
   have h5 := quoM_lt h1 h
   have h6 : s * n * 1 ≤ s * n * prod r := Int.mul_le_mul_of_nonneg_left hp (by have := one_le_mul h1 hn; omega)
   constructor
   ·intro h7; exact absurd h7 (by decide)
   ·intro h7; omega
  ·rw [if_neg h]
   exact prodErrM_zero_iff r (s * n) (one_le_mul h1 hn) (quoM_le h1 h) hr

structure PosB (M : Int) (xs : List Int) : Prop where
 pos : ∀ x ∈ xs, 1 ≤ x
 le : prod xs ≤ M
theorem PosB.take_le {M : Int} {xs : List Int} (h : PosB M xs) (k : Nat) : 1 ≤ prod (xs.take k) ∧ prod (xs.take k) ≤ M := by
 have h1 := prod_pos (xs.take k) fun x hx => h.pos x (List.mem_of_mem_take hx)
 have h2 := prod_pos (xs.drop k) fun x hx => h.pos x (List.mem_of_mem_drop hx)
 have h3 := prod_take_drop xs k
 have h4 := h.le
 have h5 : prod (xs.take k) * 1 ≤ prod (xs.take k) * prod (xs.drop k) := Int.mul_le_mul_of_nonneg_left h2 (by omega)
 exact ⟨h1, by omega⟩
theorem PosB.drop_le {M : Int} {xs : List Int} (h : PosB M xs) (k : Nat) : 1 ≤ prod (xs.drop k) ∧ prod (xs.drop k) ≤ M := by
 have h1 := prod_pos (xs.take k) fun x hx => h.pos x (List.mem_of_mem_take hx)
 have h2 := prod_pos (xs.drop k) fun x hx => h.pos x (List.mem_of_mem_drop hx)
 have h3 := prod_take_drop xs k
 have h4 := h.le
 have h5 : 1 * prod (xs.drop k) ≤ prod (xs.take k) * prod (xs.drop k) := Int.mul_le_mul_of_nonneg_right h1 (by omega)
 exact ⟨h2, by omega⟩
theorem PosB.get {M : Int} {xs : List Int} (h : PosB M xs) {k : Nat} (hk : k < xs.length) : 1 ≤ xs[k]?.getD 0 ∧ xs[k]?.getD 0 ≤ M := by
 have h1 := get_of_all h.pos hk
 have h2 := h.drop_le (k + 1)
 have h3 := h.drop_le k
 rw [prod_drop hk] at h3
 have h5 : xs[k]?.getD 0 * 1 ≤ xs[k]?.getD 0 * prod (xs.drop (k + 1)) := Int.mul_le_mul_of_nonneg_left h2.1 (by omega)
 exact ⟨h1, by omega⟩

theorem any_take_succ {α : Type} (p : α → Bool) {xs : List α} {k : Nat} (hk : k < xs.length) : (xs.take (k + 1)).any p = ((xs.take k).any p || p xs[k]) := by
 rw [List.take_succ_eq_append_getElem hk, List.any_append]
 simp

def hasZ (xs : List Int) : Bool := xs.any (· == 0)
def bval (xs : List Int) : Int :=
 if 16 < xs.length then 2 else if xs.any (· < 0) then 1 else if hasZ xs then 0 else prodErrM 65536 xs 1
theorem bval_big {xs : List Int} (h : 16 < xs.length) : bval xs = 2 := by rw [bval, if_pos h]
theorem bval_neg {xs : List Int} (h : ¬ 16 < xs.length) {k : Nat} (hk : k < xs.length) (h1 : xs[k]?.getD 0 < 0) : bval xs = 1 := by
 rw [bval, if_neg h, if_pos]
 rw [List.any_eq_true]
 exact ⟨xs[k], List.getElem_mem hk, by simpa [List.getElem?_eq_getElem hk] using h1⟩
theorem no_neg {xs : List Int} (h1 : ∀ x ∈ xs, 0 ≤ x) : ¬ (xs.any (· < 0)) = true := by
 rw [List.any_eq_true]
 rintro ⟨x, hx, h2⟩
 have := h1 x hx
 have := of_decide_eq_true h2
 omega
theorem bval_zero {xs : List Int} (h : ¬ 16 < xs.length) (h1 : ∀ x ∈ xs, 0 ≤ x) (h2 : hasZ xs = true) : bval xs = 0 := by
 rw [bval, if_neg h, if_neg (no_neg h1), if_pos h2]
theorem bval_pos {xs : List Int} (h : ¬ 16 < xs.length) (h1 : ∀ x ∈ xs, 0 ≤ x) (h2 : hasZ xs = false) : bval xs = prodErrM 65536 xs 1 := by
 rw [bval, if_neg h, if_neg (no_neg h1), if_neg (by rw [h2]; exact Bool.false_ne_true)]
theorem pos_of_noZ {xs : List Int} (h1 : ∀ x ∈ xs, 0 ≤ x) (h2 : hasZ xs = false) : ∀ x ∈ xs, 1 ≤ x := by
 intro x hx
 have h3 := h1 x hx
 have h4 : x ≠ 0 := by
  intro e
  subst e
  have : hasZ xs = true := by
   rw [hasZ, List.any_eq_true]
   exact ⟨0, hx, rfl⟩
  rw [this] at h2
  exact absurd h2 (by decide)
 omega
theorem all0_of_get {xs : List Int} {n : Nat} (hn : n = xs.length) (h : ∀ j, j < n → 0 ≤ xs[j]?.getD 0) : ∀ x ∈ xs, 0 ≤ x := by
 intro x hx
 obtain ⟨j, hj, rfl⟩ := List.getElem_of_mem hx
 simpa [List.getElem?_eq_getElem hj] using h j (by omega)
theorem prod_zero : ∀ {xs : List Int}, hasZ xs = true → prod xs = 0
 | [], h => by simp [hasZ] at h
 |x :: r, h => by
  rw [hasZ, List.any_cons] at h
  rw [prod]
  by_cases e : x = 0
  ·rw [e, Int.zero_mul]
  ·have : hasZ r = true := by
    rw [hasZ]
    simpa [e] using h
   rw [prod_zero this, Int.mul_zero]
structure BoxOk (xs : List Int) : Prop where
 len : xs.length ≤ 16
 nonneg : ∀ x ∈ xs, 0 ≤ x
 bound : hasZ xs = false → PosB 65536 xs
theorem boxOk_of {xs : List Int} (h : bval xs = 0) : BoxOk xs := by
 by_cases h16 : 16 < xs.length
 ·rw [bval_big h16] at h; exact absurd h (by decide)
 ·by_cases h1 : ∀ x ∈ xs, 0 ≤ x
  ·refine ⟨by omega, h1, fun h2 => ?_⟩
   rw [bval_pos h16 h1 h2] at h
   have hp := pos_of_noZ h1 h2
   have := (prodErrM_zero_iff xs 1 (by omega) (by omega) hp).1 h
   exact ⟨hp, by omega⟩
  ·simp only [Classical.not_forall] at h1
   obtain ⟨x, hx, h2⟩ := h1
   rw [bval, if_neg h16, if_pos] at h
   ·exact absurd h (by decide)
   ·rw [List.any_eq_true]; exact ⟨x, hx, decide_eq_true (by omega)⟩
theorem bval_of {xs : List Int} (h : xs.length ≤ 16) (hp : PosB 65536 xs) : bval xs = 0 := by
 have h1 : ∀ x ∈ xs, 0 ≤ x := fun x hx => by have := hp.pos x hx; omega
 have h2 : hasZ xs = false := by
  rw [hasZ, List.any_eq_false]
  intro x hx
  have := hp.pos x hx
  simp
  omega
 rw [bval_pos (by omega) h1 h2]
 exact (prodErrM_zero_iff xs 1 (by omega) (by omega) hp.pos).2 (by have := hp.le; omega)
def bcount (xs : List Int) : Int := if bval xs = 0 then prod xs else 0
theorem bcount_bad {xs : List Int} (h : ¬ bval xs = 0) : bcount xs = 0 := by rw [bcount, if_neg h]
theorem bcount_ok {xs : List Int} (h : bval xs = 0) : bcount xs = prod xs := by rw [bcount, if_pos h]
theorem bcount_bd (xs : List Int) : 0 ≤ bcount xs ∧ bcount xs ≤ 65536 := by
 by_cases h : bval xs = 0
 ·rw [bcount_ok h]
  have hb := boxOk_of h
  by_cases hz : hasZ xs = true
  ·rw [prod_zero hz]; omega
  ·have hp := hb.bound (by simpa using hz)
   have := prod_pos xs hp.pos
   have := hp.le
   omega
 ·rw [bcount_bad h]; omega
theorem pos_of_count {xs : List Int} (h : 0 < bcount xs) : bval xs = 0 ∧ bcount xs = prod xs ∧ xs.length ≤ 16 ∧ PosB 65536 xs := by
 by_cases h0 : bval xs = 0
 ·have hb := boxOk_of h0
  refine ⟨h0, bcount_ok h0, hb.len, hb.bound ?_⟩
  cases hz : hasZ xs with
  | false => rfl
  | true => rw [bcount_ok h0, prod_zero hz] at h; omega
 ·rw [bcount_bad h0] at h; omega
theorem hasZ_get {xs : List Int} {k : Nat} (hk : k < xs.length) (h : xs[k]?.getD 0 = 0) : hasZ xs = true := by
 rw [hasZ, List.any_eq_true]
 refine ⟨xs[k], List.getElem_mem hk, ?_⟩
 rw [List.getElem?_eq_getElem hk] at h
 simpa using h
theorem noZ_of_get {xs : List Int} {n : Nat} (hn : n = xs.length) (h : ∀ j, j < n → ¬ xs[j]?.getD 0 = 0) : hasZ xs = false := by
 rw [hasZ, List.any_eq_false]
 intro x hx
 obtain ⟨j, hj, rfl⟩ := List.getElem_of_mem hx
 have := h j (by omega)
 rw [List.getElem?_eq_getElem hj] at this
 simpa using this
def bpoint (xs : List Int) (at' : Int) : List Int × Bool := if 0 ≤ at' ∧ at' < bcount xs then (pointOf xs at', true) else ([], false)
theorem bpoint_out {xs : List Int} {at' : Int} (h : ¬ (0 ≤ at' ∧ at' < bcount xs)) : bpoint xs at' = ([], false) := by rw [bpoint, if_neg h]
theorem bpoint_in {xs : List Int} {at' : Int} (h : 0 ≤ at' ∧ at' < bcount xs) : bpoint xs at' = (pointOf xs at', true) := by rw [bpoint, if_pos h]
def Within (xs ps : List Int) : Prop := bval xs = 0 ∧ InB xs ps
instance (xs ps : List Int) : Decidable (Within xs ps) := by unfold Within; infer_instance
theorem Within.pos {xs ps : List Int} (h : Within xs ps) : xs.length ≤ 16 ∧ PosB 65536 xs := by
 have hb := boxOk_of h.1
 refine ⟨hb.len, hb.bound (noZ_of_get rfl fun j hj e => ?_)⟩
 have := h.2.2 j hj
 omega
def brank (xs ps : List Int) : Int × Bool := if Within xs ps then (rank xs ps, true) else (0, false)
theorem brank_out {xs ps : List Int} (h : ¬ Within xs ps) : brank xs ps = (0, false) := by rw [brank, if_neg h]
theorem brank_in {xs ps : List Int} (h : Within xs ps) : brank xs ps = (rank xs ps, true) := by rw [brank, if_pos h]

def MeshOk (xs : List Int) : Prop := 1 ≤ xs.length ∧ xs.length ≤ 3 ∧ (∀ x ∈ xs, 1 ≤ x ∧ x ≤ 16) ∧ prod xs ≤ 16
instance (xs : List Int) : Decidable (MeshOk xs) := by unfold MeshOk; infer_instance
theorem prod_take_16 {xs : List Int} : ∀ k, k ≤ xs.length → (∀ j, j < k → 1 ≤ xs[j]?.getD 0 ∧ xs[j]?.getD 0 ≤ 16) → 1 ≤ prod (xs.take k) ∧ prod (xs.take k) ≤ 16 ^ k
 | 0, _, _ => by simp [prod]
 |k + 1, hk, h => by
  have ih := prod_take_16 k (by omega) fun j hj => h j (by omega)
  have hx := h k (by omega)
  rw [prod_take_succ (by omega), Int.pow_succ]
  have h1 := one_le_mul ih.1 hx.1
  have h2 : prod (xs.take k) * xs[k]?.getD 0 ≤ prod (xs.take k) * 16 := Int.mul_le_mul_of_nonneg_left hx.2 (by omega)
  have h3 : prod (xs.take k) * 16 ≤ 16 ^ k * 16 := Int.mul_le_mul_of_nonneg_right ih.2 (by omega)
  omega
theorem prod_take_4096 {xs : List Int} {k : Nat} (hk : k ≤ xs.length) (h3 : k ≤ 3) (h : ∀ j, j < k → 1 ≤ xs[j]?.getD 0 ∧ xs[j]?.getD 0 ≤ 16) : 1 ≤ prod (xs.take k) ∧ prod (xs.take k) ≤ 4096 := by
 have h1 := prod_take_16 k hk h
 refine ⟨h1.1, Int.le_trans h1.2 ?_⟩
 match k, h3 with
 | 0, _ => decide
 | 1, _ => decide
 | 2, _ => decide
 | 3, _ => decide
theorem all16_of_get {xs : List Int} {n : Nat} (hn : n = xs.length) (h : ∀ j, j < n → 1 ≤ xs[j]?.getD 0 ∧ xs[j]?.getD 0 ≤ 16) : ∀ x ∈ xs, 1 ≤ x ∧ x ≤ 16 := by
 intro x hx
 obtain ⟨j, hj, rfl⟩ := List.getElem_of_mem hx
 simpa [List.getElem?_eq_getElem hj] using h j (by omega)
theorem MeshOk.get {xs : List Int} (h : MeshOk xs) {k : Nat} (hk : k < xs.length) : 1 ≤ xs[k]?.getD 0 ∧ xs[k]?.getD 0 ≤ 16 := by
 rw [List.getElem?_eq_getElem hk]
 exact h.2.2.1 _ (List.getElem_mem hk)
def vmesh (xs : List Int) : Int := if MeshOk xs then 0 else 23
theorem vmesh_no {xs : List Int} (h : ¬ MeshOk xs) : vmesh xs = 23 := by rw [vmesh, if_neg h]
theorem vmesh_yes {xs : List Int} (h : MeshOk xs) : vmesh xs = 0 := by rw [vmesh, if_pos h]
theorem MeshOk.posB {xs : List Int} (h : MeshOk xs) : PosB 16 xs := ⟨fun x hx => (h.2.2.1 x hx).1, h.2.2.2⟩
theorem MeshOk.posB' {xs : List Int} (h : MeshOk xs) : PosB 65536 xs := ⟨fun x hx => (h.2.2.1 x hx).1, by have := h.2.2.2; omega⟩
theorem MeshOk.bval {xs : List Int} (h : MeshOk xs) : bval xs = 0 := bval_of (by have := h.2.1; omega) h.posB'
theorem MeshOk.count {xs : List Int} (h : MeshOk xs) : bcount xs = prod xs := bcount_ok h.bval
def devices (xs : List Int) : Int := if MeshOk xs then prod xs else 0
theorem devices_no {xs : List Int} (h : ¬ MeshOk xs) : devices xs = 0 := by rw [devices, if_neg h]
theorem devices_yes {xs : List Int} (h : MeshOk xs) : devices xs = prod xs := by rw [devices, if_pos h]
def coords (xs : List Int) (d : Int) : List Int × Bool := if 0 ≤ d ∧ d < devices xs then (pointOf xs d, true) else ([], false)
theorem coords_out {xs : List Int} {d : Int} (h : ¬ (0 ≤ d ∧ d < devices xs)) : coords xs d = ([], false) := by rw [coords, if_neg h]
theorem coords_in {xs : List Int} {d : Int} (h : 0 ≤ d ∧ d < devices xs) : coords xs d = (pointOf xs d, true) := by rw [coords, if_pos h]
theorem devices_pos {xs : List Int} {d : Int} (h : 0 ≤ d ∧ d < devices xs) : MeshOk xs ∧ d < prod xs := by
 unfold devices at h
 split at h
 ·exact ⟨by assumption, h.2⟩
 ·omega
def devAt (xs ps : List Int) : Int × Bool := if MeshOk xs ∧ InB xs ps then (rank xs ps, true) else (0, false)
theorem devAt_out {xs ps : List Int} (h : ¬ (MeshOk xs ∧ InB xs ps)) : devAt xs ps = (0, false) := by rw [devAt, if_neg h]
theorem devAt_in {xs ps : List Int} (h : MeshOk xs ∧ InB xs ps) : devAt xs ps = (rank xs ps, true) := by rw [devAt, if_pos h]
end Go.Proofs.Ytehjbfljenpfoaa
