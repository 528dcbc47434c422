/- Plain laws for broadcasting and slicing a shape (layer 11): no program in sight. -/
import Derived.Test.YtcdjgfamgnhffaaPlain11b
set_option linter.unusedVariables false
set_option linter.unusedSimpArgs false
namespace Go.Proofs.Ytcdjgfamgnhffaa

/-- The dimension at place j of l, filled up by ones in front to n places. -/
def extd (l : List Int) (n j : Nat) : Int := if n ≤ l.length + j then l[j + l.length - n]?.getD 1 else 1
def Clash (a b : List Int) (n j : Nat) : Prop := extd a n j ≠ extd b n j ∧ extd a n j ≠ 1 ∧ extd b n j ≠ 1
def bcOut (a b : List Int) (n : Nat) : List Int := (List.range n).map fun j => max (extd a n j) (extd b n j)
open Classical in
/-- The common shape and the error. -/
noncomputable def broadcast (a b : List Int) : List Int × Int :=
  if vld a = 0 then
    if vld b = 0 then
      if ∀ j, j < max a.length b.length → ¬ Clash a b (max a.length b.length) j then
        if vld (bcOut a b (max a.length b.length)) = 0 then (bcOut a b (max a.length b.length), 0) else ([], vld (bcOut a b (max a.length b.length)))
      else ([], 15)
    else ([], vld b)
  else ([], vld a)
theorem bc_bada {a b : List Int} (h : ¬ vld a = 0) : broadcast a b = ([], vld a) := by rw [broadcast, if_neg h]
theorem bc_badb {a b : List Int} (h : vld a = 0) (h1 : ¬ vld b = 0) : broadcast a b = ([], vld b) := by rw [broadcast, if_pos h, if_neg h1]
theorem bc_clash {a b : List Int} {n j : Nat} (h : vld a = 0) (h1 : vld b = 0) (hn : n = max a.length b.length) (hj : j < n) (h2 : Clash a b n j) : broadcast a b = ([], 15) := by
  subst hn
  rw [broadcast, if_pos h, if_pos h1, if_neg (fun h3 => h3 j hj h2)]
theorem bc_no {a b : List Int} {n : Nat} (h : vld a = 0) (h1 : vld b = 0) (hn : n = max a.length b.length) (h2 : ∀ j, j < n → ¬ Clash a b n j) (h3 : ¬ vld (bcOut a b n) = 0) : broadcast a b = ([], vld (bcOut a b n)) := by
  subst hn
  rw [broadcast, if_pos h, if_pos h1, if_pos h2, if_neg h3]
theorem bc_yes {a b : List Int} {n : Nat} (h : vld a = 0) (h1 : vld b = 0) (hn : n = max a.length b.length) (h2 : ∀ j, j < n → ¬ Clash a b n j) (h3 : vld (bcOut a b n) = 0) : broadcast a b = (bcOut a b n, 0) := by
  subst hn
  rw [broadcast, if_pos h, if_pos h1, if_pos h2, if_pos h3]
theorem clash_comm {a b : List Int} {n j : Nat} : Clash a b n j ↔ Clash b a n j := ⟨fun h => ⟨h.1.symm, h.2.2, h.2.1⟩, fun h => ⟨h.1.symm, h.2.2, h.2.1⟩⟩
theorem bcOut_comm (a b : List Int) (n : Nat) : bcOut a b n = bcOut b a n := by
  unfold bcOut
  apply List.map_congr_left
  intro j _
  exact Int.max_comm _ _
theorem length_bcOut (a b : List Int) (n : Nat) : (bcOut a b n).length = n := by simp [bcOut]
theorem bc_swap {a b ys : List Int} (h : broadcast a b = (ys, 0)) : broadcast b a = (ys, 0) := by
  by_cases h0 : vld a = 0
  · by_cases h1 : vld b = 0
    · by_cases h2 : ∀ j, j < max a.length b.length → ¬ Clash a b (max a.length b.length) j
      · by_cases h3 : vld (bcOut a b (max a.length b.length)) = 0
        · rw [bc_yes h0 h1 rfl h2 h3] at h
          rw [bc_yes (n := max a.length b.length) h1 h0 (Nat.max_comm _ _) (fun j hj => fun h4 => h2 j hj (clash_comm.1 h4)) (by rw [bcOut_comm]; exact h3), bcOut_comm]
          exact h
        · rw [bc_no h0 h1 rfl h2 h3] at h
          exact absurd (Prod.mk.inj h).2 h3
      · simp only [Classical.not_forall, Classical.not_not] at h2
        obtain ⟨j, hj, h2⟩ := h2
        rw [bc_clash h0 h1 rfl hj h2] at h
        exact absurd (Prod.mk.inj h).2 (by decide)
    · rw [bc_badb h0 h1] at h
      exact absurd (Prod.mk.inj h).2 h1
  · rw [bc_bada h0] at h
    exact absurd (Prod.mk.inj h).2 h0
theorem extd_self {a : List Int} {j : Nat} : extd a a.length j = a[j]?.getD 1 := by
  rw [extd, if_pos (by omega)]
  simp
theorem bcOut_self (a : List Int) : bcOut a a a.length = a := by
  apply List.ext_getElem
  · simp [bcOut]
  · intro j h1 h2
    simp [bcOut, extd_self, List.getElem?_eq_getElem h2]
theorem bc_self {a : List Int} (h : vld a = 0) : broadcast a a = (a, 0) := by
  have := bc_yes (n := a.length) h h (by simp) (fun j hj h2 => h2.1 rfl) (by rw [bcOut_self]; exact h)
  rw [bcOut_self] at this
  exact this
/-- In the longer list nothing is filled up. -/
theorem extd_long {a : List Int} {n j : Nat} (hn : n = a.length) (hj : j < n) : extd a n j = a[j]?.getD 0 := by
  subst hn
  rw [extd_self, List.getElem?_eq_getElem hj]
  rfl
theorem extd_short {b : List Int} {n m s i : Nat} (hm : m = b.length) (hn : n = m + s) (hi : i < m) : extd b n (s + i) = b[i]?.getD 0 := by
  subst hm
  subst hn
  rw [extd, if_pos (by omega), show s + i + b.length - (b.length + s) = i from by omega, List.getElem?_eq_getElem hi]
  rfl
theorem extd_front {b : List Int} {n m s i : Nat} (hm : m = b.length) (hn : n = m + s) (hi : i < s) : extd b n i = 1 := by
  subst hm
  subst hn
  rw [extd, if_neg (by omega)]
theorem bcOut_get {a b : List Int} {n j : Nat} (hj : j < n) : (bcOut a b n)[j]? = some (max (extd a n j) (extd b n j)) := by simp [bcOut, hj]
theorem bcOut_drop {a b : List Int} {n j : Nat} (hj : j < n) : (bcOut a b n).drop j = max (extd a n j) (extd b n j) :: (bcOut a b n).drop (j + 1) := by
  rw [List.drop_eq_getElem_cons (by rw [length_bcOut]; exact hj)]
  congr 1
  have := bcOut_get (a := a) (b := b) hj
  rw [List.getElem?_eq_getElem (by rw [length_bcOut]; exact hj)] at this
  exact Option.some.inj this
theorem set_take {a D : List Int} {k : Nat} (v : Int) (hk : k < a.length) : (a.take (k + 1) ++ D).set k v = a.take k ++ v :: D := by
  rw [take_snoc hk, List.append_assoc, List.set_append_right _ _ (by simp; omega)]
  have : k - (a.take k).length = 0 := by simp; omega
  rw [this]
  simp
theorem keep_take {a D : List Int} {k : Nat} (hk : k < a.length) : a.take (k + 1) ++ D = a.take k ++ a[k]?.getD 0 :: D := by
  rw [take_snoc hk, List.append_assoc]
  rfl
/-- Where nothing lies opposite, the longer list stays. -/
theorem bcOut_front {a b : List Int} {n m s : Nat} (hpos : ∀ x ∈ a, 1 ≤ x) (hn : n = a.length) (hm : m = b.length) (hs : n = m + s) : a.take s ++ (bcOut a b n).drop s = bcOut a b n := by
  have h : a.take s = (bcOut a b n).take s := by
    apply List.ext_getElem
    · simp [length_bcOut]; omega
    · intro j h1 h2
      simp at h1
      have e := bcOut_get (a := a) (b := b) (n := n) (j := j) (by omega)
      rw [extd_long hn (by omega), extd_front hm hs (by omega), List.getElem?_eq_getElem (by rw [length_bcOut]; omega)] at e
      rw [List.getElem_take, List.getElem_take]
      have e' := Option.some.inj e
      rw [e', List.getElem?_eq_getElem (by omega)]
      have := hpos _ (List.getElem_mem (l := a) (n := j) (by omega))
      simp only [Option.getD_some]
      omega
  rw [h, List.take_append_drop]

/-- The shape of a slice along an axis, and the error. -/
def slicing (xs : List Int) (axis f t : Int) : List Int × Int :=
  if vld xs = 0 then
    if axis < 0 ∨ (xs.length : Int) ≤ axis then ([], 11)
    else if f < 0 ∨ t ≤ f ∨ xs[axis.toNat]?.getD 0 < t then ([], 12)
    else (xs.set axis.toNat (t - f), 0)
  else ([], vld xs)
theorem sl_bad {xs : List Int} {axis f t : Int} (h : ¬ vld xs = 0) : slicing xs axis f t = ([], vld xs) := by rw [slicing, if_neg h]
theorem sl_rank {xs : List Int} {axis f t : Int} (h : vld xs = 0) (h1 : axis < 0 ∨ (xs.length : Int) ≤ axis) : slicing xs axis f t = ([], 11) := by rw [slicing, if_pos h, if_pos h1]
theorem sl_bounds {xs : List Int} {axis f t : Int} (h : vld xs = 0) (h1 : ¬ (axis < 0 ∨ (xs.length : Int) ≤ axis)) (h2 : f < 0 ∨ t ≤ f ∨ xs[axis.toNat]?.getD 0 < t) : slicing xs axis f t = ([], 12) := by rw [slicing, if_pos h, if_neg h1, if_pos h2]
theorem sl_yes {xs : List Int} {axis f t : Int} (h : vld xs = 0) (h1 : ¬ (axis < 0 ∨ (xs.length : Int) ≤ axis)) (h2 : ¬ (f < 0 ∨ t ≤ f ∨ xs[axis.toNat]?.getD 0 < t)) : slicing xs axis f t = (xs.set axis.toNat (t - f), 0) := by rw [slicing, if_pos h, if_neg h1, if_neg h2]
theorem set_take_succ {xs : List Int} {i k : Nat} (v : Int) (hk : k < xs.length) : (xs.set i v).take (k + 1) = (xs.set i v).take k ++ [if i = k then v else xs[k]?.getD 0] := by
  rw [List.take_succ_eq_append_getElem (by simpa using hk), List.getElem_set]
  congr 2
  split
  · rfl
  · rw [List.getElem?_eq_getElem hk]; rfl
end Go.Proofs.Ytcdjgfamgnhffaa
