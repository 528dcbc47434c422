/- Plain law for Gather: over all devices, rows and elements do the same. No program in sight. -/
import Derived.Test.YtcnbccmmhcoanaaVGath4
set_option linter.unusedVariables false
set_option linter.unusedSimpArgs false
namespace Go.Proofs.Ytcnbccmmhcoanaa

noncomputable def rDev (ms ds ss : List Int) (xs : List Tn) : Nat → Option (List Fr)
 | 0 => some (List.replicate (prod ds).toNat (0, 0))
 | d + 1 => rIt ds (locL ms ds ss) (origL ms ds ss (pointOf ms d)) ((xs[d]?.map (·.2.2)).getD []) (rDev ms ds ss xs d) (prod (locL ms ds ss)).toNat
theorem rIt_none (ds ls os : List Int) (T : List Fr) : ∀ k, rIt ds ls os T none k = none
 | 0 => rfl
 | k + 1 => by rw [rIt, rIt_none ds ls os T k]; rfl
theorem rIt_stay {ds ls os : List Int} {T : List Fr} {o : Option (List Fr)} {k : Nat} (h : rIt ds ls os T o k = none) : ∀ n, rIt ds ls os T o (k + n) = none
 | 0 => h
 | n + 1 => by rw [← Nat.add_assoc, rIt, rIt_stay h n]; rfl
theorem rDev_stay {ms ds ss : List Int} {xs : List Tn} {d : Nat} (h : rDev ms ds ss xs d = none) : ∀ n, rDev ms ds ss xs (d + n) = none
 | 0 => h
 | n + 1 => by rw [← Nat.add_assoc, rDev, rDev_stay h n, rIt_none]
theorem origin_dvd {ms ds ss p : List Int} (h : vspc ms ds ss = 0) (hp : InB ms p) (c : Nat) : (lastR (locL ms ds ss)).toNat ∣ (blkAt ds (locL ms ds ss) (origL ms ds ss p) (((lastR (locL ms ds ss)).toNat * c : Nat) : Int)).toNat := by
 have hB := blkOk_of h hp
 have hr := lastR_pos (good_of_vld hB.vl)
 have hbd := hB.bd (((lastR (locL ms ds ss)).toNat * c : Nat) : Int)
 have hRI : ((lastR (locL ms ds ss)).toNat : Int) = lastR (locL ms ds ss) := by omega
 have key : ∃ z, blkAt ds (locL ms ds ss) (origL ms ds ss p) (((lastR (locL ms ds ss)).toNat * c : Nat) : Int) = lastR (locL ms ds ss) * z := by
  rw [Int.natCast_mul, hRI]
  cases hn : ds.length with
  | zero =>
   refine ⟨blkAt ds (locL ms ds ss) (origL ms ds ss p) (lastR (locL ms ds ss) * c), ?_⟩
   have : lastR (locL ms ds ss) = 1 := by rw [lastR, if_neg (by rw [locL_len]; omega)]
   rw [this, Int.one_mul, Int.one_mul]
  | succ m =>
   have hm : m < ds.length := by omega
   have hll := locL_len ms ds ss
   have hlast : lastR (locL ms ds ss) = locAt ms ds ss m := by
    rw [lastR, if_pos (by omega), hll, hn, Nat.add_sub_cancel, locL_get hm]
   obtain ⟨k1, k2, k3, k4⟩ := loc_mul h hm
   have hco : coord (locL ms ds ss) (lastR (locL ms ds ss) * c) m = 0 := by
    unfold coord
    rw [List.drop_eq_nil_of_le (by omega), prod, Int.ediv_one, locL_get hm, hlast, Int.mul_emod_right]
   have hpt : (addL (origL ms ds ss p) (pointOf (locL ms ds ss) (lastR (locL ms ds ss) * c)))[m]?.getD 0 = origAt ms ds ss p m := by
    rw [addL_get (by rw [origL_len]; exact hm), pointOf_get (by omega), hco, origL_get hm, Int.add_zero]
   have hds : ∃ q, ds[m]?.getD 0 = locAt ms ds ss m * q := by
    by_cases h0 : 0 ≤ ss[m]?.getD 0
    ·exact ⟨_, by rw [Int.mul_comm]; exact (k3 h0).2.1.symm⟩
    ·exact ⟨1, by rw [Int.mul_one]; exact (k4 h0).symm⟩
   have hos : ∃ q, origAt ms ds ss p m = locAt ms ds ss m * q := by
    unfold origAt
    split
    ·exact ⟨_, Int.mul_comm _ _⟩
    ·exact ⟨0, (Int.mul_zero _).symm⟩
   obtain ⟨q1, hq1⟩ := hds
   obtain ⟨q2, hq2⟩ := hos
   refine ⟨rankTo ds (addL (origL ms ds ss p) (pointOf (locL ms ds ss) (lastR (locL ms ds ss) * c))) m * q1 + q2, ?_⟩
   rw [blkAt, rank, hn, rankTo, hpt, hq1, hq2, hlast, Int.mul_add, Int.mul_left_comm]
 obtain ⟨z, hz⟩ := key
 rw [hz] at hbd ⊢
 have hz0 : 0 ≤ z := by
  by_cases hz0 : 0 ≤ z
  ·exact hz0
  ·have : lastR (locL ms ds ss) * z ≤ lastR (locL ms ds ss) * (-1) := Int.mul_le_mul_of_nonneg_left (by omega) (by omega)
   omega
 refine ⟨z.toNat, ?_⟩
 have e : lastR (locL ms ds ss) * z = (((lastR (locL ms ds ss)).toNat * z.toNat : Nat) : Int) := by
  rw [Int.natCast_mul, hRI]
  congr 1
  omega
 rw [e]
 omega
theorem nRows_mul {ls : List Int} (h : Good ls) : (lastR ls).toNat * nRows ls = (prod ls).toNat := by
 obtain ⟨R, q, hR, hR1, hq⟩ := rows_count h
 have hn : nRows ls = q := by rw [nRows, hq, hR]; exact Nat.mul_div_cancel_left q (by omega)
 have hTR : (lastR ls).toNat = R := by rw [hR]; exact Int.toNat_natCast R
 rw [hn, hTR, hq]
 exact (Int.toNat_natCast _).symm
/-- The reference's answer is the program's. -/
theorem rDev_gDev {ms ds ss : List Int} {xs : List Tn} (h : vspc ms ds ss = 0) (hc : chk ms (locL ms ds ss) xs = 0) : ∀ d, d ≤ xs.length → rDev ms ds ss xs d = optOf (gDev ms ds ss xs d) ∧ Unif (lastR (locL ms ds ss)).toNat (gDev ms ds ss xs d).1
 |0, _ => by
  refine ⟨rfl, fun i hi => ?_⟩
  have hz : ∀ j, fz (gDev ms ds ss xs 0).1 j = (0, 0) := fun j => by
   unfold fz
   rw [gDev, List.getElem?_replicate]
   split <;> rfl
  rw [hz, hz]
 |d + 1, hd => by
  obtain ⟨ih1, ih2⟩ := rDev_gDev h hc d (by omega)
  have hlt : d < xs.length := by omega
  have hck := chk_get hc hlt
  have hxk : (xs[d]?.map (·.2.2)).getD [] = xs[d].2.2 := by rw [List.getElem?_eq_getElem hlt]; rfl
  have hpt : InB ms (pointOf ms (d : Int)) := pointOf_in (fun y hy => ((vspc_ok h).1.2.2.1 y hy).1) (d : Int)
  have hB := blkOk_of h hpt
  have hDl := gDev_len (xs := xs) h d
  have key := rIt_gIt hB (al := (gDev ms ds ss xs d).2) hDl hck.2.2.1 (fun a ha => by have := valOk_pos (hck.2.2.2.2 a ha); omega) ih2 (fun c => origin_dvd h hpt c) (nRows (locL ms ds ss)) (Nat.le_refl _)
  rw [nRows_mul (good_of_vld hB.vl)] at key
  rw [rDev, gDev, hxk, ih1]
  exact key
theorem rIt_len {ds ls os : List Int} {T : List Fr} {o : Option (List Fr)} {n : Nat} (h : ∀ l, o = some l → l.length = n) : ∀ k l, rIt ds ls os T o k = some l → l.length = n
 | 0, l, hl => h l hl
 |k + 1, l, hl => by
  rw [rIt] at hl
  obtain ⟨m, hm, he⟩ := Option.bind_eq_some_iff.1 hl
  have := rIt_len h k m hm
  rw [rEl] at he
  split at he
  ·cases he
  ·cases he
   rw [List.length_set]
   exact this
theorem rDev_len {ms ds ss : List Int} {xs : List Tn} : ∀ d l, rDev ms ds ss xs d = some l → l.length = (prod ds).toNat
 |0, l, h => by
  rw [rDev] at h
  cases h
  simp
 |d + 1, l, h => by
  rw [rDev] at h
  exact rIt_len (fun l hl => rDev_len d l hl) _ l h
def gOut (t : Ty) (ds : List Int) : Option (List Fr) → Tn × Int
 | some l => ((t, ds, l), 0)
 | none => (zT, 1)
/-- What Gather answers, as the reference finds it. -/
theorem gath_eq {ms ds ss : List Int} {xs : List Tn} (h : vspc ms ds ss = 0) (hc : chk ms (locL ms ds ss) xs = 0) : gath ms ds ss xs = gOut (headTy xs) ds (rDev ms ds ss xs xs.length) := by
 have hl := (chk_ok hc).1
 rw [devices_yes (vspc_ok h).1] at hl
 have e : (prod ms).toNat = xs.length := by omega
 rw [gath, if_neg (not_not_intro h), if_neg (not_not_intro hc), e, (rDev_gDev h hc xs.length (Nat.le_refl _)).1, optOf]
 by_cases hb : (gDev ms ds ss xs xs.length).2 = true
 ·rw [if_pos hb, if_pos hb]
  rfl
 ·rw [if_neg hb, if_neg hb]
  rfl
end Go.Proofs.Ytcnbccmmhcoanaa
