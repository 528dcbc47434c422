/- The walk of brocaderef51.Group. -/
import Derived.Test.YtcbnnjadgkgheaaW51c
set_option linter.unusedVariables false
set_option linter.unusedSimpArgs false
namespace Go.Proofs.Ytcbnnjadgkgheaa
open Go.RowKit

/-- The flag b says p. -/
def Flag (b : Bool) (p : Prop) : Prop := b = true ↔ p
/-- Equal but for the coordinate a, as far as k. -/
def SameU (p q : List Int) (a k : Nat) : Prop := ∀ j, j < k → j ≠ a → p[j]?.getD 0 = q[j]?.getD 0
theorem SameU.zero (p q : List Int) (a : Nat) : SameU p q a 0 := fun j hj => by omega
theorem sameU_succ {p q : List Int} {a k : Nat} : SameU p q a (k + 1) ↔ SameU p q a k ∧ (k = a ∨ p[k]?.getD 0 = q[k]?.getD 0) := by
  constructor
  · intro h
    refine ⟨fun j hj hja => h j (by omega) hja, ?_⟩
    by_cases e : k = a
    · exact .inl e
    · exact .inr (h k (by omega) e)
  · rintro ⟨h1, h2⟩ j hj hja
    by_cases e : j = k
    · subst e; exact h2.resolve_left hja
    · exact h1 j (by omega) hja

set_option maxHeartbeats 4000000 in
theorem ref51_Group {u : Value} {xs : List Int} {ax d : Int} {w : World} (hv : IsInts w u xs) (hd : d ≤ 9223372036854775807) :
    Calls Try.prog 34 #[.agg #[u], .int .i64 ax, .int .i64 d] w (RetOwn w (group xs ax d)) := by
  obtain ⟨a, n, c, HN, hnc, rfl, h⟩ := hv.open
  have hix := idx_ints h n c HN
  have Hxb : Hid (Ext w (w.alloc (.cells #[.slice a n c] 24))) := (Ext.refl w).alloc _
  have Har : Hid (Arr (w.alloc (.cells #[.slice a n c] 24)) w.heap.size 24 [.slice a n c]) := Arr.new w #[.slice a n c] _
  by_cases hc : 0 ≤ d ∧ d < devices xs
  · have HC : Hid (coords xs d = (pointOf xs d, true)) := coords_in hc
    have HC0 := Lib.hid hc
    have hmo := (devices_pos hc).1
    have HMO := Lib.hid hmo
    clear hc
    have h3 : n ≤ 3 := by rw [HN.out]; exact hmo.2.1
    by_cases h1 : ax < 0
    · have HF : Hid (group xs ax d = []) := group_no (fun hh => by omega)
      go_enter Try.func34, Try.ntmps34
      go_wp2_with fail
      refine (ref51_Coordinates (hv.ext Hxb.out) hd).mono ?_
      rintro e w1 ⟨v1, rfl, hv1, hx1⟩
      rw [HC.out] at hv1 ⊢
      go_wp2
      go_ret
      exact ⟨_, rfl, by rw [HF.out]; exact Own.nil _ _, Hxb.out.trans hx1⟩
    · by_cases h2 : (n : Int) ≤ ax
      · have HF : Hid (group xs ax d = []) := group_no (fun hh => by rw [← HN.out] at hh; omega)
        go_enter Try.func34, Try.ntmps34
        go_wp2_with fail
        refine (ref51_Coordinates (hv.ext Hxb.out) hd).mono ?_
        rintro e w1 ⟨v1, rfl, hv1, hx1⟩
        rw [HC.out] at hv1 ⊢
        have hcb := (Har.out.ext hx1).cell 0
        simp only [List.getElem?_cons_zero] at hcb
        go_wp2
        go_ret
        exact ⟨_, rfl, by rw [HF.out]; exact Own.nil _ _, Hxb.out.trans hx1⟩
      · obtain ⟨q, rfl⟩ := Int.eq_ofNat_of_zero_le (show 0 ≤ ax by omega)
        have hq : q < n := by omega
        have Hq : Hid (q < xs.length) := by show _ < _; rw [← HN.out]; exact hq
        have hnq : decide (n ≤ q) = false := decide_eq_false (by omega)
        have hq0 : decide ((q : Int) < 0) = false := decide_eq_false (by omega)
        have HDV : Hid (devices xs = prod xs) := devices_yes hmo
        have HF : Hid (group xs q d = sameTo xs (pointOf xs d) q (prod xs).toNat) := by
          rw [Hid, group_yes HC0.out Hq.out, groupL_same hmo.posB.pos (pointOf_in hmo.posB.pos _) Hq.out]
        have hp1 := prod_pos xs hmo.posB.pos
        have hp2 := hmo.posB.le
        obtain ⟨D, hD⟩ : ∃ D : Nat, prod xs = D := ⟨(prod xs).toNat, by omega⟩
        have HD := Lib.hid hD
        rw [hD] at hp1 hp2 HDV HF
        rw [Int.toNat_natCast] at HF
        clear hD hmo
        go_enter Try.func34, Try.ntmps34
        go_wp2_with fail
        refine (ref51_Coordinates (hv.ext Hxb.out) hd).mono ?_
        rintro e w1 ⟨v1, rfl, hv1, hx1⟩
        rw [HC.out] at hv1 ⊢
        obtain ⟨b1, m1, c1, HM1, hmc1, rfl, k1⟩ := hv1.open
        obtain rfl : m1 = n := by rw [HM1.out, length_pointOf, ← HN.out]
        have hiy := idx_ints k1 m1 c1 HM1
        have hcb := (Har.out.ext hx1).cell 0
        simp only [List.getElem?_cons_zero] at hcb
        go_wp2
        go_loopw [10, 9] (fun i s wr => ∃ (k : Nat), k ≤ D ∧ i = .int .i64 k ∧ Ext w1 wr ∧ Own wr w1.heap.size s (sameTo xs (pointOf xs d) q k)) (fun i _ _ => D - (intOf i).toNat)
        case atStart => exact ⟨0, Nat.zero_le _, rfl, Ext.refl _, Own.nil _ _⟩
        case round =>
          obtain ⟨k, hk, rfl, hx, ho⟩ := hrel
          have hxw := (Hxb.out.trans hx1).trans hx
          have hcbr := (Har.out.ext (hx1.trans hx)).cell 0
          simp only [List.getElem?_cons_zero] at hcbr
          by_cases hkm : k < D
          · have HC2 : Hid (coords xs (k : Int) = (pointOf xs k, true)) := coords_in (by rw [HDV.out]; omega)
            go_wp2_with fail
            refine (ref51_Devices (hv.ext hxw)).mono ?_
            rintro e w2 ⟨rfl, hx2⟩
            rw [HDV.out]
            have hcb2 := (Har.out.ext ((hx1.trans hx).trans hx2)).cell 0
            simp only [List.getElem?_cons_zero] at hcb2
            go_wp2_with fail
            refine (ref51_Coordinates (hv.ext (hxw.trans hx2)) (by omega)).mono ?_
            rintro e w3 ⟨v3, rfl, hv3, hx3⟩
            rw [HC2.out] at hv3 ⊢
            obtain ⟨b3, m3, c3, HM3, hmc3, rfl, k3⟩ := hv3.open
            obtain rfl : m3 = m1 := by rw [HM3.out, length_pointOf, ← HN.out]
            have hiz := idx_ints k3 m3 c3 HM3
            have HX : Hid (Ext w1 w3) := (hx.trans hx2).trans hx3
            have ho3 := ho.ext (hx2.trans hx3)
            go_wp2
            go_loopw [14, 13] (fun i s wr2 => ∃ (t : Nat) (b : Bool), t ≤ m3 ∧ i = .int .i64 t ∧ s = .bool b ∧ Flag b (SameU (pointOf xs d) (pointOf xs k) q t) ∧ Ext w3 wr2) (fun i _ _ => m3 - (intOf i).toNat)
            case atStart => exact ⟨0, true, Nat.zero_le _, rfl, rfl, ⟨fun _ => SameU.zero _ _ _, fun _ => rfl⟩, Ext.refl _⟩
            case round =>
              obtain ⟨t, b, ht, rfl, rfl, hb, hx4⟩ := hrel
              by_cases htm : t < m3
              · have Ht : Hid (t < xs.length) := by show _ < _; rw [← HN.out]; exact htm
                cases b with
                | false =>
                  have HB : Flag false (SameU (pointOf xs d) (pointOf xs k) q (t + 1)) := by
                    show _ ↔ _
                    rw [sameU_succ]
                    exact ⟨fun e => absurd e (by decide), fun e => hb.2 e.1⟩
                  go_wp2
                  go_quiet (fail)
                  go_wp2
                  go_roundw
                  case rel => exact ⟨t + 1, false, by omega, by go_num, rfl, HB, hx4.drewN _⟩
                  case measure => simp [intOf]; omega
                | true =>
                  by_cases htq : t = q
                  · have hb1 : ((t : Int) == (q : Int)) = true := beq_iff_eq.2 (by omega)
                    have HB : Flag true (SameU (pointOf xs d) (pointOf xs k) q (t + 1)) := by
                      show _ ↔ _
                      rw [sameU_succ]
                      exact ⟨fun _ => ⟨hb.1 rfl, .inl htq⟩, fun _ => rfl⟩
                    clear htq
                    go_wp2
                    go_quiet (fail)
                    go_wp2
                    go_roundw
                    case rel => exact ⟨t + 1, true, by omega, by go_num, rfl, HB, hx4.drewN _⟩
                    case measure => simp [intOf]; omega
                  · have hb1 : ((t : Int) == (q : Int)) = false := beq_eq_false_iff_ne.2 (by omega)
                    have hcp := (k1.ext (HX.out.trans hx4)).cell t (by rw [length_pointOf]; exact Ht.out)
                    have hcq := (k3.ext hx4).cell t (by rw [length_pointOf]; exact Ht.out)
                    by_cases he : (pointOf xs d)[t]?.getD 0 = (pointOf xs k)[t]?.getD 0
                    · have hb2 : ((pointOf xs d)[t]?.getD 0 == (pointOf xs k)[t]?.getD 0) = true := beq_iff_eq.2 he
                      have HB : Flag true (SameU (pointOf xs d) (pointOf xs k) q (t + 1)) := by
                        show _ ↔ _
                        rw [sameU_succ]
                        exact ⟨fun _ => ⟨hb.1 rfl, .inr he⟩, fun _ => rfl⟩
                      clear he
                      go_wp2
                      go_quiet (fail)
                      go_wp2
                      go_roundw
                      case rel => exact ⟨t + 1, true, by omega, by go_num, rfl, HB, hx4.drewN _⟩
                      case measure => simp [intOf]; omega
                    · have hb2 : ((pointOf xs d)[t]?.getD 0 == (pointOf xs k)[t]?.getD 0) = false := beq_eq_false_iff_ne.2 he
                      have HB : Flag false (SameU (pointOf xs d) (pointOf xs k) q (t + 1)) := by
                        show _ ↔ _
                        rw [sameU_succ]
                        exact ⟨fun e => absurd e (by decide), fun e => (e.2.elim htq he).elim⟩
                      clear he
                      go_wp2
                      go_quiet (fail)
                      go_wp2
                      go_roundw
                      case rel => exact ⟨t + 1, false, by omega, by go_num, rfl, HB, hx4.drewN _⟩
                      case measure => simp [intOf]; omega
              · have HS : Flag b (Same xs (pointOf xs d) (pointOf xs k) q) := by
                  show _ ↔ _
                  unfold Flag at hb; rw [hb, show t = xs.length from by rw [← HN.out]; omega]
                  exact Iff.rfl
                have HX2 := Lib.hid (HX.out.trans hx4)
                have ho4 := ho3.ext hx4
                have hlt : (sameTo xs (pointOf xs d) q k).length + 1 ≤ 17592186044416 := by
                  have := List.length_filter_le (fun d' : Int => decide (Same xs (pointOf xs d) (pointOf xs d') q)) ((List.range k).map fun (i : Nat) => (i : Int))
                  rw [List.length_map, List.length_range] at this
                  unfold sameTo
                  omega
                cases b with
                | true =>
                  have HT : Hid (sameTo xs (pointOf xs d) q (k + 1) = sameTo xs (pointOf xs d) q k ++ [(k : Int)]) := by
                    show _ = _
                    rw [sameTo_succ, if_pos (HS.1 rfl)]
                  go_wp2_with (at_builtin; refine append_int' rfl _ _ rfl _ rfl rfl rfl ho4 hlt HX2.out (Nat.le_refl _) HX2.out.size ?_; intro w5 v5 hown5 hext5 hbel5)
                  go_roundw
                  case rel => exact ⟨k + 1, by omega, by go_num, hext5, by rw [HT.out]; exact hown5⟩
                  case measure => simp [intOf]; omega
                | false =>
                  have HT : Hid (sameTo xs (pointOf xs d) q (k + 1) = sameTo xs (pointOf xs d) q k) := by
                    show _ = _
                    rw [sameTo_succ, if_neg (fun e => absurd (HS.2 e) (by decide)), List.append_nil]
                  go_wp2
                  go_roundw
                  case rel => exact ⟨k + 1, by omega, by go_num, HX2.out, by rw [HT.out]; exact ho4⟩
                  case measure => simp [intOf]; omega
          · obtain rfl : k = D := by omega
            go_wp2_with fail
            refine (ref51_Devices (hv.ext hxw)).mono ?_
            rintro e w2 ⟨rfl, hx2⟩
            rw [HDV.out]
            rw [← HF.out] at ho
            go_wp2
            go_ret
            exact ⟨_, rfl, (ho.ext hx2).low (Hxb.out.trans hx1).size, hxw.trans hx2⟩
  · have HC : Hid (coords xs d = ([], false)) := coords_out hc
    have HF : Hid (group xs ax d = []) := group_no (fun hh => hc hh.1)
    clear hc
    go_enter Try.func34, Try.ntmps34
    go_wp2_with fail
    refine (ref51_Coordinates (hv.ext Hxb.out) hd).mono ?_
    rintro e w1 ⟨v1, rfl, hv1, hx1⟩
    rw [HC.out] at hv1 ⊢
    go_wp2
    go_ret
    exact ⟨_, rfl, by rw [HF.out]; exact Own.nil _ _, Hxb.out.trans hx1⟩
end Go.Proofs.Ytcbnnjadgkgheaa
