/- Plain laws for blocks: a valid spec gives valid blocks. No program in sight. -/
import Derived.Test.YtcnbccmmhcoanaaPlain52s
set_option linter.unusedVariables false
set_option linter.unusedSimpArgs false
namespace Go.Proofs.Ytcnbccmmhcoanaa

theorem prod_le {a b : List Int} (hl : a.length = b.length) (h : ∀ i, i < a.length → 1 ≤ a[i]?.getD 0 ∧ a[i]?.getD 0 ≤ b[i]?.getD 0) : prod a ≤ prod b := by
 induction a generalizing b with
 | nil =>
  have : b = [] := List.eq_nil_of_length_eq_zero (by simpa using hl.symm)
  subst this
  exact Int.le_refl _
 | cons x a ih =>
  match b, hl with
  | y :: b, hl =>
   have h0 := h 0 (by simp)
   have hr : ∀ i, i < a.length → 1 ≤ a[i]?.getD 0 ∧ a[i]?.getD 0 ≤ b[i]?.getD 0 := fun i hi => by
    have := h (i + 1) (by simp; omega)
    simpa using this
   have h1 := ih (b := b) (by simpa using hl) hr
   simp at h0
   have hp : ∀ z ∈ a, 1 ≤ z := fun z hz => by
    obtain ⟨i, hi, rfl⟩ := List.mem_iff_getElem.1 hz
    have := (hr i hi).1
    rwa [List.getElem?_eq_getElem hi, Option.getD_some] at this
   have h2 := prod_pos a hp
   rw [prod, prod]
   exact Int.mul_le_mul h0.2 h1 (by omega) (by omega)
/-- The extent of a block times the extent of the axis is the extent of the tensor. -/
theorem loc_mul {ms ds ss : List Int} (h : vspc ms ds ss = 0) {i : Nat} (hi : i < ds.length) : 1 ≤ locAt ms ds ss i ∧ locAt ms ds ss i ≤ ds[i]?.getD 0 ∧
  (0 ≤ ss[i]?.getD 0 → (ss[i]?.getD 0).toNat < ms.length ∧ ms[(ss[i]?.getD 0).toNat]?.getD 0 * locAt ms ds ss i = ds[i]?.getD 0 ∧ 1 ≤ ms[(ss[i]?.getD 0).toNat]?.getD 0) ∧ (¬ 0 ≤ ss[i]?.getD 0 → locAt ms ds ss i = ds[i]?.getD 0) := by
 obtain ⟨g1, g2, g3, g4⟩ := vspc_ok h
 have hd := ((good_of_vld g2).get hi).1
 by_cases h0 : 0 ≤ ss[i]?.getD 0
 ·have hk' : i < ss.length := by omega
  have hsv : ss[i]?.getD 0 = ss[i] := by simp [hk']
  have hfit : fitOk ms ds ss := by
   unfold vspc at h
   rw [if_neg (not_not_intro g1), if_neg (not_not_intro g2), if_neg (not_not_intro ⟨g3, g4⟩)] at h
   split at h
   ·assumption
   ·cases h
  have hf := hfit i hk' hk' (by rw [← hsv]; exact h0)
  rw [← hsv] at hf
  have he := g4 i hk' hk'
  rw [← hsv] at he
  have hm : (ss[i]?.getD 0).toNat < ms.length := by omega
  have hmg := (g1.get hm).1
  have hl : locAt ms ds ss i = ds[i]?.getD 0 / ms[(ss[i]?.getD 0).toNat]?.getD 0 := by rw [locAt, if_pos h0]
  have hmul : ms[(ss[i]?.getD 0).toNat]?.getD 0 * locAt ms ds ss i = ds[i]?.getD 0 := by
   rw [hl]
   have := Int.mul_ediv_add_emod (ds[i]?.getD 0) (ms[(ss[i]?.getD 0).toNat]?.getD 0)
   omega
  generalize locAt ms ds ss i = L at *
  generalize ms[(ss[i]?.getD 0).toNat]?.getD 0 = m at *
  generalize ds[i]?.getD 0 = D at *
  have hL : 1 ≤ L := by
   by_cases hL : 1 ≤ L
   ·exact hL
   ·have : m * L ≤ m * 0 := Int.mul_le_mul_of_nonneg_left (by omega) (by omega)
    omega
  have hL2 : 1 * L ≤ m * L := Int.mul_le_mul_of_nonneg_right hmg (by omega)
  exact ⟨hL, by omega, fun _ => ⟨hm, hmul, hmg⟩, fun hc => absurd h0 hc⟩
 ·have hl : locAt ms ds ss i = ds[i]?.getD 0 := by rw [locAt, if_neg h0]
  exact ⟨by omega, by omega, fun hc => absurd hc h0, fun _ => hl⟩
theorem locL_get {ms ds ss : List Int} {i : Nat} (hi : i < ds.length) : (locL ms ds ss)[i]?.getD 0 = locAt ms ds ss i := by simp [locL, hi]
theorem origL_get {ms ds ss p : List Int} {i : Nat} (hi : i < ds.length) : (origL ms ds ss p)[i]?.getD 0 = origAt ms ds ss p i := by simp [origL, hi]
theorem good_loc {ms ds ss : List Int} (h : vspc ms ds ss = 0) : Good (locL ms ds ss) := by
 obtain ⟨g1, g2, g3, g4⟩ := vspc_ok h
 have hg := good_of_vld g2
 have hpd := hg.take_le ds.length
 rw [List.take_of_length_le (Nat.le_refl _)] at hpd
 have key : ∀ i, i < (locL ms ds ss).length → 1 ≤ (locL ms ds ss)[i]?.getD 0 ∧ (locL ms ds ss)[i]?.getD 0 ≤ ds[i]?.getD 0 := fun i hi => by
  rw [locL_len] at hi
  rw [locL_get hi]
  exact ⟨(loc_mul h hi).1, (loc_mul h hi).2.1⟩
 have hle := prod_le (locL_len ms ds ss) key
 refine ⟨by rw [locL_len]; exact hg.len, fun x hx => ?_, by omega⟩
 obtain ⟨i, hi, rfl⟩ := List.mem_iff_getElem.1 hx
 have := (key i hi).1
 rwa [List.getElem?_eq_getElem hi, Option.getD_some] at this
theorem blkOk_of {ms ds ss : List Int} (h : vspc ms ds ss = 0) {p : List Int} (hp : InB ms p) : BlkOk ds (locL ms ds ss) (origL ms ds ss p) := by
 obtain ⟨g1, g2, g3, g4⟩ := vspc_ok h
 refine ⟨g2, vld_of_good (good_loc h), locL_len _ _ _, origL_len _ _ _ _, fun i hi => ?_⟩
 rw [locL_get hi, origL_get hi]
 obtain ⟨h1, h2, h3, h4⟩ := loc_mul h hi
 unfold origAt
 split
 ·rename_i h0
  obtain ⟨hm, hmul, hm1⟩ := h3 h0
  have hpv := hp.2 _ hm
  generalize p[(ss[i]?.getD 0).toNat]?.getD 0 = P at *
  generalize ms[(ss[i]?.getD 0).toNat]?.getD 0 = m at *
  have e1 : 0 ≤ P * locAt ms ds ss i := Int.mul_nonneg hpv.1 (by omega)
  have e2 : (P + 1) * locAt ms ds ss i ≤ m * locAt ms ds ss i := Int.mul_le_mul_of_nonneg_right (by omega) (by omega)
  rw [Int.add_mul] at e2
  omega
 ·omega
end Go.Proofs.Ytcnbccmmhcoanaa
