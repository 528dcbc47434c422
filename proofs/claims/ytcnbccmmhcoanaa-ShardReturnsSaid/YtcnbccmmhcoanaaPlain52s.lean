/- Plain laws for blocks of tensors: a row of a block is a row of the tensor. No program in sight. -/
import Derived.Test.YtcnbccmmhcoanaaV12c
set_option linter.unusedVariables false
set_option linter.unusedSimpArgs false
namespace Go.Proofs.Ytcnbccmmhcoanaa

/-- A block of the shape ls at the index os of a tensor of the shape ds. -/
structure BlkOk (ds ls os : List Int) : Prop where
 vd : vld ds = 0
 vl : vld ls = 0
 l1 : ls.length = ds.length
 l2 : os.length = ds.length
 at' : ∀ i, i < ds.length → 0 ≤ os[i]?.getD 0 ∧ 1 ≤ ls[i]?.getD 0 ∧ os[i]?.getD 0 + ls[i]?.getD 0 ≤ ds[i]?.getD 0
/-- The length of a row. -/
def lastR (ls : List Int) : Int := if 0 < ls.length then ls[ls.length - 1]?.getD 0 else 1
/-- Where element k of the block lies in the tensor. -/
def blkAt (ds ls os : List Int) (k : Int) : Int := rank ds (addL os (pointOf ls k))
def block (ds ls os : List Int) (T : List Fr) : List Fr := (List.range (prod ls).toNat).map fun (k : Nat) => T[(blkAt ds ls os k).toNat]?.getD (0, 0)

theorem addL_comm {a b : List Int} (h : a.length = b.length) : addL a b = addL b a := by
 refine List.ext_getElem (by simp [addL, h]) fun i h1 h2 => ?_
 simp [addL, Int.add_comm]
theorem rankTo_congr {xs ps qs : List Int} : ∀ k, (∀ j, j < k → ps[j]?.getD 0 = qs[j]?.getD 0) → rankTo xs ps k = rankTo xs qs k
 | 0, _ => rfl
 | k + 1, h => by rw [rankTo, rankTo, rankTo_congr k fun j hj => h j (by omega), h k (by omega)]
theorem BlkOk.inB {ds ls os : List Int} (h : BlkOk ds ls os) (k : Int) : InB ds (addL os (pointOf ls k)) := by
 have hg := good_of_vld h.vl
 refine ⟨by rw [addL_len, h.l2], fun i hi => ?_⟩
 have h1 := h.at' i hi
 rw [addL_get (by rw [h.l2]; exact hi), pointOf_get (by rw [h.l1]; exact hi)]
 have h2 := coord_bd hg.pos k (k := i) (by rw [h.l1]; exact hi)
 omega
theorem BlkOk.bd {ds ls os : List Int} (h : BlkOk ds ls os) (k : Int) : 0 ≤ blkAt ds ls os k ∧ blkAt ds ls os k < prod ds := by
 have hg := good_of_vld h.vd
 have := rankTo_bd hg.pos ds.length (Nat.le_refl _) (h.inB k).2
 rw [List.take_of_length_le (Nat.le_refl _)] at this
 exact this
theorem lastR_pos {ls : List Int} (h : Good ls) : 1 ≤ lastR ls ∧ lastR ls ≤ 4096 := by
 unfold lastR
 split
 ·exact h.get (by omega)
 ·omega
theorem last_mul {ls : List Int} (hpos : ∀ x ∈ ls, 1 ≤ x) : ∀ n i, i + n + 1 = ls.length → ∃ q, 1 ≤ q ∧ prod (ls.drop i) = lastR ls * q
 |0, i, hi => by
  refine ⟨1, by omega, ?_⟩
  rw [prod_drop (by omega), List.drop_eq_nil_of_le (by omega), prod, lastR, if_pos (by omega)]
  have : ls.length - 1 = i := by omega
  rw [this]
 |n + 1, i, hi => by
  obtain ⟨q, h1, h2⟩ := last_mul hpos n (i + 1) (by omega)
  have hx := get_of_all hpos (show i < ls.length by omega)
  refine ⟨ls[i]?.getD 0 * q, one_le_mul hx h1, ?_⟩
  rw [prod_drop (by omega), h2, Int.mul_left_comm]
theorem row_coord {ls : List Int} (hpos : ∀ x ∈ ls, 1 ≤ x) {c j : Int} (h0 : 0 ≤ j) (h1 : j < lastR ls) {i : Nat} (hi : i < ls.length) :
  coord ls (lastR ls * c + j) i = coord ls (lastR ls * c) i + (if i + 1 = ls.length then j else 0) := by
 by_cases e : i + 1 = ls.length
 ·rw [if_pos e]
  have hr : ls[i]?.getD 0 = lastR ls := by
   rw [lastR, if_pos (by omega)]
   have : ls.length - 1 = i := by omega
   rw [this]
  unfold coord
  rw [List.drop_eq_nil_of_le (by omega), prod, Int.ediv_one, Int.ediv_one, hr, Int.mul_emod_right, Int.zero_add, Int.add_comm, Int.add_mul_emod_self_left]
  exact Int.emod_eq_of_lt h0 h1
 ·rw [if_neg e, Int.add_zero]
  obtain ⟨q, hq1, hq2⟩ := last_mul hpos (ls.length - (i + 2)) (i + 1) (by omega)
  unfold coord
  rw [hq2, ← Int.ediv_ediv_of_nonneg (by omega), ← Int.ediv_ediv_of_nonneg (by omega)]
  rw [Int.mul_ediv_cancel_left _ (by omega), Int.add_comm, Int.add_mul_ediv_left _ _ (by omega), Int.ediv_eq_zero_of_lt h0 h1, Int.zero_add]
/-- A row of a block is a row of the tensor. -/
theorem BlkOk.row {ds ls os : List Int} (h : BlkOk ds ls os) {c j : Int} (h0 : 0 ≤ j) (h1 : j < lastR ls) : blkAt ds ls os (lastR ls * c + j) = blkAt ds ls os (lastR ls * c) + j := by
 have hpos := (good_of_vld h.vl).pos
 have hl := h.l1
 have key : ∀ i, i < ls.length → (addL os (pointOf ls (lastR ls * c + j)))[i]?.getD 0 = (addL os (pointOf ls (lastR ls * c)))[i]?.getD 0 + (if i + 1 = ls.length then j else 0) := fun i hi => by
  rw [addL_get (by rw [h.l2]; omega), addL_get (by rw [h.l2]; omega), pointOf_get hi, pointOf_get hi, row_coord hpos h0 h1 hi]
  omega
 unfold blkAt rank
 cases hn : ds.length with
 | zero =>
  have : j = 0 := by
   rw [lastR, if_neg (by omega)] at h1
   omega
  simp [rankTo, this]
 | succ m =>
  rw [rankTo, rankTo, key m (by omega), if_pos (by omega), rankTo_congr (qs := addL os (pointOf ls (lastR ls * c))) m fun i hi => by rw [key i (by omega), if_neg (by omega), Int.add_zero]]
  omega
theorem block_len (ds ls os : List Int) (T : List Fr) : (block ds ls os T).length = (prod ls).toNat := by simp [block]
theorem block_get {ds ls os : List Int} {T : List Fr} {k : Nat} (hk : k < (prod ls).toNat) : (block ds ls os T)[k]? = some (T[(blkAt ds ls os k).toNat]?.getD (0, 0)) := by simp [block, hk]
/-- ys written into xs from off on. -/
def spl {α : Type} (xs : List α) (off : Nat) (ys : List α) : List α := xs.take off ++ ys ++ xs.drop (off + ys.length)
/-- What is there after the rows ahead of k. -/
def filled (B : List Fr) (k : Nat) : List Fr := B.take k ++ List.replicate (B.length - k) (0, 0)
theorem filled_len {B : List Fr} {k : Nat} (h : k ≤ B.length) : (filled B k).length = B.length := by simp [filled]; omega
theorem filled_zero (B : List Fr) : filled B 0 = List.replicate B.length (0, 0) := by simp [filled]
theorem filled_all (B : List Fr) : filled B B.length = B := by simp [filled]
theorem seg_len {α : Type} {T : List α} {a m : Nat} (h : a + m ≤ T.length) : ((T.drop a).take m).length = m := by simp; omega
/-- The next row. -/
theorem filled_row {B : List Fr} {k m : Nat} {seg : List Fr} (hm : seg.length = m) (hk : k + m ≤ B.length) (hs : ∀ j, j < m → seg[j]? = B[k + j]?) : spl (filled B k) k seg = filled B (k + m) := by
 have e1 : seg = (B.drop k).take m := by
  refine List.ext_getElem? fun j => ?_
  by_cases hj : j < m
  ·rw [hs j hj, List.getElem?_take, if_pos hj, List.getElem?_drop]
  ·rw [List.getElem?_eq_none (by omega), List.getElem?_eq_none (by simp; omega)]
 have e2 : B.take (k + m) = B.take k ++ seg := by rw [e1, List.take_add]
 have l1 : (B.take k).length = k := by simp; omega
 have e3 : (filled B k).take k = B.take k := by rw [filled, List.take_append_of_le_length (by omega), List.take_of_length_le (by omega)]
 have e4 : (filled B k).drop (k + m) = List.replicate (B.length - (k + m)) (0, 0) := by
  rw [filled, List.drop_append, List.drop_eq_nil_of_le (by omega), List.nil_append, l1, List.drop_replicate]
  congr 1
  omega
 rw [spl, e3, hm, e4, filled, e2]
theorem BlkOk.seg {ds ls os : List Int} (h : BlkOk ds ls os) {T : List Fr} (hT : (T.length : Int) = prod ds) {c : Nat} (hc : lastR ls * c + lastR ls ≤ prod ls) :
  (blkAt ds ls os (lastR ls * c)).toNat + (lastR ls).toNat ≤ T.length ∧ ∀ j, j < (lastR ls).toNat → ((T.drop (blkAt ds ls os (lastR ls * c)).toNat).take (lastR ls).toNat)[j]? = (block ds ls os T)[(lastR ls * c).toNat + j]? := by
 have hr := lastR_pos (good_of_vld h.vl)
 have hc0 : 0 ≤ lastR ls * c := Int.mul_nonneg (by omega) (by omega)
 have hb := h.bd (lastR ls * c)
 have hl := h.row (c := c) (j := lastR ls - 1) (by omega) (by omega)
 have hb2 := h.bd (lastR ls * c + (lastR ls - 1))
 refine ⟨by omega, fun j hj => ?_⟩
 have hrow := h.row (c := c) (j := j) (by omega) (by omega)
 have e : (((lastR ls * c).toNat + j : Nat) : Int) = lastR ls * c + j := by omega
 have hb3 := h.bd (lastR ls * c + j)
 rw [List.getElem?_take, if_pos hj, List.getElem?_drop, block_get (by omega), e, hrow]
 have e2 : (blkAt ds ls os (lastR ls * c) + j).toNat = (blkAt ds ls os (lastR ls * c)).toNat + j := by omega
 have hlt : (blkAt ds ls os (lastR ls * c)).toNat + j < T.length := by omega
 rw [e2, List.getElem?_eq_getElem hlt, Option.getD_some]
end Go.Proofs.Ytcnbccmmhcoanaa
