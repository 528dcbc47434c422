/- Plain laws for shapes (layer 11): no program in sight. -/
set_option linter.unusedVariables false
set_option linter.unusedSimpArgs false
namespace Go.Proofs.Ytehjbfljenpfoaa

def prodErr : List Int → Int → Int
 | [], _ => 0
 | n :: r, s => if 4096 / s < n then 2 else prodErr r (s * n)
def vld (xs : List Int) : Int :=
 if 6 < xs.length then 2 else if xs.any (· < 1) then 1 else prodErr xs 1
def prod : List Int → Int
 | [] => 1
 | n :: r => n * prod r
def size (xs : List Int) : Int := if vld xs = 0 then prod xs else 0
def strides (xs : List Int) : List Int := if vld xs = 0 then (List.range xs.length).map (fun i => prod (xs.drop (i + 1))) else []

theorem vld_big {xs : List Int} (h : 6 < xs.length) : vld xs = 2 := by rw [vld, if_pos h]
theorem vld_low {xs : List Int} (h : ¬ 6 < xs.length) {k : Nat} (hk : k < xs.length) (h1 : xs[k]?.getD 0 < 1) : vld xs = 1 := by
 rw [vld, if_neg h, if_pos]
 rw [List.any_eq_true]
 exact ⟨xs[k], List.getElem_mem hk, by simpa [List.getElem?_eq_getElem hk] using h1⟩
theorem vld_high {xs : List Int} (h : ¬ 6 < xs.length) (h1 : ∀ x ∈ xs, 1 ≤ x) : vld xs = prodErr xs 1 := by
 rw [vld, if_neg h, if_neg]
 rw [List.any_eq_true]
 rintro ⟨x, hx, h2⟩
 have := h1 x hx
 have := of_decide_eq_true h2
 omega
theorem prodErr_at {k : Nat} {xs : List Int} (s : Int) (hk : k < xs.length) :
  prodErr (xs.drop k) s = (if 4096 / s < xs[k]?.getD 0 then 2 else prodErr (xs.drop (k + 1)) (s * xs[k]?.getD 0)) := by
 rw [List.drop_eq_getElem_cons hk, prodErr]
 simp [List.getElem?_eq_getElem hk]
theorem prodErr_end {k : Nat} {xs : List Int} (s : Int) (hk : xs.length ≤ k) : prodErr (xs.drop k) s = 0 := by
 rw [List.drop_eq_nil_of_le hk, prodErr]
theorem all_of_get {xs : List Int} {n : Nat} (hn : n = xs.length) (h : ∀ j, j < n → 1 ≤ xs[j]?.getD 0) : ∀ x ∈ xs, 1 ≤ x := by
 intro x hx
 obtain ⟨j, hj, rfl⟩ := List.getElem_of_mem hx
 simpa [List.getElem?_eq_getElem hj] using h j (by omega)
theorem get_of_all {xs : List Int} (h : ∀ x ∈ xs, 1 ≤ x) {k : Nat} (hk : k < xs.length) : 1 ≤ xs[k]?.getD 0 := by
 simpa [List.getElem?_eq_getElem hk] using h _ (List.getElem_mem hk)
theorem quo_le {z x : Int} (hz : 1 ≤ z) (h : ¬ 4096 / z < x) : z * x ≤ 4096 := by
 have h1 : x ≤ 4096 / z := by omega
 have h2 : z * x ≤ z * (4096 / z) := Int.mul_le_mul_of_nonneg_left h1 (by omega)
 have h3 := Int.mul_ediv_self_le (x := 4096) (k := z) (by omega)
 omega
theorem one_le_mul {z x : Int} (hz : 1 ≤ z) (hx : 1 ≤ x) : 1 ≤ z * x := by
 have := Int.mul_le_mul_of_nonneg_left hx (show 0 ≤ z by omega)
 omega
theorem quo_lt {z x : Int} (hz : 1 ≤ z) (h : 4096 / z < x) : 4096 < z * x := by
 by_cases h2 : z * x ≤ 4096
 ·have := (Int.le_ediv_iff_mul_le (show 0 < z by omega)).2 (show x * z ≤ 4096 by rw [Int.mul_comm]; exact h2)
  omega
 ·omega

theorem mul_small {z x : Int} (h1 : 1 ≤ z) (h2 : z ≤ 4096) (h3 : 1 ≤ x) (h4 : x ≤ 4096) : z * x ≤ 16777216 := by
 have h5 : z * x ≤ z * 4096 := Int.mul_le_mul_of_nonneg_left h4 (by omega)
 omega
theorem le_of_quo {z x : Int} (hz : 1 ≤ z) (h : ¬ 4096 / z < x) : x ≤ 4096 := by
 have h3 := Int.ediv_le_self (a := 4096) z (by omega)
 omega

theorem prodErr_zero_iff : ∀ (xs : List Int) (s : Int), 1 ≤ s → s ≤ 4096 → (∀ x ∈ xs, 1 ≤ x) → (prodErr xs s = 0 ↔ s * prod xs ≤ 4096)
 | [], s, _, h2, _ => by simp [prodErr, prod, h2]
 |n :: r, s, h1, h2, h3 => by
  have hn : 1 ≤ n := h3 n (by simp)
  have hr : ∀ x ∈ r, 1 ≤ x := fun x hx => h3 x (by simp [hx])
  have hp : 1 ≤ prod r := by
   clear h2 h3
   induction r with
   | nil => simp [prod]
   | cons a r ih => exact one_le_mul (hr a (by simp)) (ih (fun x hx => hr x (by simp [hx])))
  rw [prodErr, prod, ← Int.mul_assoc]
  by_cases h : 4096 / s < n
  ·rw [if_pos h]
   have h5 := quo_lt h1 h
   have h6 : s * n * 1 ≤ s * n * prod r := Int.mul_le_mul_of_nonneg_left hp (by have := one_le_mul h1 hn; omega)
   constructor
   ·intro h7; exact absurd h7 (by decide)
   ·intro h7; omega
  ·rw [if_neg h]
   exact prodErr_zero_iff r (s * n) (one_le_mul h1 hn) (quo_le h1 h) hr
theorem prodErr_cases (xs : List Int) : ∀ s : Int, prodErr xs s = 0 ∨ prodErr xs s = 2 := by
 induction xs with
 | nil => intro s; exact .inl rfl
 | cons n r ih => intro s; rw [prodErr]; split; exact .inr rfl; exact ih _
theorem prod_pos : ∀ (xs : List Int), (∀ x ∈ xs, 1 ≤ x) → 1 ≤ prod xs
 | [], _ => by simp [prod]
 | n :: r, h => one_le_mul (h n (by simp)) (prod_pos r fun x hx => h x (by simp [hx]))
structure Good (xs : List Int) : Prop where
 len : xs.length ≤ 6
 pos : ∀ x ∈ xs, 1 ≤ x
 le : prod xs ≤ 4096
theorem good_of_vld {xs : List Int} (h : vld xs = 0) : Good xs := by
 by_cases h6 : 6 < xs.length
 ·rw [vld_big h6] at h; exact absurd h (by decide)
 ·by_cases h1 : ∀ x ∈ xs, 1 ≤ x
  ·rw [vld_high h6 h1] at h
   have := (prodErr_zero_iff xs 1 (by omega) (by omega) h1).1 h
   exact ⟨by omega, h1, by omega⟩
  ·simp only [Classical.not_forall] at h1
   obtain ⟨x, hx, h2⟩ := h1
   rw [vld, if_neg h6, if_pos] at h
   ·exact absurd h (by decide)
   ·rw [List.any_eq_true]; exact ⟨x, hx, decide_eq_true (by omega)⟩
theorem vld_of_good {xs : List Int} (h : Good xs) : vld xs = 0 := by
 have := h.len
 rw [vld_high (by omega) h.pos]
 exact (prodErr_zero_iff xs 1 (by omega) (by omega) h.pos).2 (by have := h.le; omega)
theorem prod_append (xs ys : List Int) : prod (xs ++ ys) = prod xs * prod ys := by
 induction xs with
 | nil => simp [prod]
 | cons a r ih => simp [prod, ih, Int.mul_assoc]
theorem prod_take_succ {xs : List Int} {k : Nat} (hk : k < xs.length) : prod (xs.take (k + 1)) = prod (xs.take k) * xs[k]?.getD 0 := by
 rw [List.take_succ_eq_append_getElem hk, prod_append]
 simp [prod, List.getElem?_eq_getElem hk]
theorem prod_drop {xs : List Int} {k : Nat} (hk : k < xs.length) : prod (xs.drop k) = xs[k]?.getD 0 * prod (xs.drop (k + 1)) := by
 rw [List.drop_eq_getElem_cons hk, prod]
 simp [List.getElem?_eq_getElem hk]
theorem prod_take_drop (xs : List Int) (k : Nat) : prod xs = prod (xs.take k) * prod (xs.drop k) := by
 rw [← prod_append, List.take_append_drop]
theorem Good.take_le {xs : List Int} (h : Good xs) (k : Nat) : 1 ≤ prod (xs.take k) ∧ prod (xs.take k) ≤ 4096 := by
 have h1 := prod_pos (xs.take k) fun x hx => h.pos x (List.mem_of_mem_take hx)
 have h2 := prod_pos (xs.drop k) fun x hx => h.pos x (List.mem_of_mem_drop hx)
 have h3 := prod_take_drop xs k
 have h4 := h.le
 have h5 : prod (xs.take k) * 1 ≤ prod (xs.take k) * prod (xs.drop k) := Int.mul_le_mul_of_nonneg_left h2 (by omega)
 exact ⟨h1, by omega⟩
theorem Good.drop_le {xs : List Int} (h : Good xs) (k : Nat) : 1 ≤ prod (xs.drop k) ∧ prod (xs.drop k) ≤ 4096 := by
 have h1 := prod_pos (xs.take k) fun x hx => h.pos x (List.mem_of_mem_take hx)
 have h2 := prod_pos (xs.drop k) fun x hx => h.pos x (List.mem_of_mem_drop hx)
 have h3 := prod_take_drop xs k
 have h4 := h.le
 have h5 : 1 * prod (xs.drop k) ≤ prod (xs.take k) * prod (xs.drop k) := Int.mul_le_mul_of_nonneg_right h1 (by omega)
 exact ⟨h2, by omega⟩
theorem Good.get {xs : List Int} (h : Good xs) {k : Nat} (hk : k < xs.length) : 1 ≤ xs[k]?.getD 0 ∧ xs[k]?.getD 0 ≤ 4096 := by
 have h1 := get_of_all h.pos hk
 have h2 := h.drop_le (k + 1)
 have h3 := h.drop_le k
 rw [prod_drop hk] at h3
 have h5 : xs[k]?.getD 0 * 1 ≤ xs[k]?.getD 0 * prod (xs.drop (k + 1)) := Int.mul_le_mul_of_nonneg_left h2.1 (by omega)
 exact ⟨h1, by omega⟩
theorem Good.drop {xs : List Int} (h : Good xs) (k : Nat) : Good (xs.drop k) :=
 ⟨by have := h.len; simp; omega, fun x hx => h.pos x (List.mem_of_mem_drop hx), (h.drop_le k).2⟩

end Go.Proofs.Ytehjbfljenpfoaa
