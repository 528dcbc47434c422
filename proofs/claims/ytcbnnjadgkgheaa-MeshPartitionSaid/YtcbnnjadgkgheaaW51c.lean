/- The walks of mesh.Group and its reference. -/
import Derived.Test.YtcbnnjadgkgheaaW51b
import Derived.Test.YtcbnnjadgkgheaaNest
import Derived.Test.YtcbnnjadgkgheaaPlain51
set_option linter.unusedVariables false
set_option linter.unusedSimpArgs false
namespace Go.Proofs.Ytcbnnjadgkgheaa
open Go.RowKit

theorem groupL_len {xs p : List Int} {a : Nat} : (groupL xs p a).length = (xs[a]?.getD 0).toNat := by simp [groupL]
theorem groupL_take {xs p : List Int} {a k : Nat} (hk : k < (xs[a]?.getD 0).toNat) : (groupL xs p a).take (k + 1) = (groupL xs p a).take k ++ [rank xs (p.set a k)] := by
  rw [List.take_succ_eq_append_getElem (by rw [groupL_len]; exact hk)]
  simp [groupL]

set_option maxHeartbeats 4000000 in
theorem mesh_Group {u : Value} {xs : List Int} {ax d : Int} {w : World} (hv : IsInts w u xs) (hd : d ≤ 9223372036854775807) :
    Calls Try.prog 33 #[.agg #[u], .int .i64 ax, .int .i64 d] w (RetOwn w (group xs ax d)) := by
  obtain ⟨a, n, c, HN, hnc, rfl, h⟩ := hv.open
  have hix := idx_ints h n c HN
  have Hxb : Hid (Ext w (w.alloc (.cells #[.slice a n c] 24))) := (Ext.refl w).alloc _
  have Har : Hid (Arr (w.alloc (.cells #[.slice a n c] 24)) w.heap.size 24 [.slice a n c]) := Arr.new w #[.slice a n c] _
  by_cases hc : 0 ≤ d ∧ d < devices xs
  · have HC : Hid (coords xs d = (pointOf xs d, true)) := coords_in hc
    have HC0 := Lib.hid hc
    have hmo := (devices_pos hc).1
    have HMO := Lib.hid hmo
    clear hc
    have h3 : n ≤ 3 := by rw [HN.out]; exact hmo.2.1
    by_cases h1 : ax < 0
    · have HF : Hid (group xs ax d = []) := group_no (fun hh => by omega)
      go_enter Try.func33, Try.ntmps33
      go_wp2_with fail
      refine (mesh_Coordinates (hv.ext Hxb.out) hd).mono ?_
      rintro e w1 ⟨v1, rfl, hv1, hx1⟩
      rw [HC.out] at hv1 ⊢
      go_wp2
      go_ret
      exact ⟨_, rfl, by rw [HF.out]; exact Own.nil _ _, Hxb.out.trans hx1⟩
    · by_cases h2 : (n : Int) ≤ ax
      · have HF : Hid (group xs ax d = []) := group_no (fun hh => by rw [← HN.out] at hh; omega)
        go_enter Try.func33, Try.ntmps33
        go_wp2_with fail
        refine (mesh_Coordinates (hv.ext Hxb.out) hd).mono ?_
        rintro e w1 ⟨v1, rfl, hv1, hx1⟩
        rw [HC.out] at hv1 ⊢
        have hcb := (Har.out.ext hx1).cell 0
        simp only [List.getElem?_cons_zero] at hcb
        go_wp2
        go_ret
        exact ⟨_, rfl, by rw [HF.out]; exact Own.nil _ _, Hxb.out.trans hx1⟩
      · obtain ⟨q, rfl⟩ := Int.eq_ofNat_of_zero_le (show 0 ≤ ax by omega)
        have hq : q < n := by omega
        have Hq : Hid (q < xs.length) := by show _ < _; rw [← HN.out]; exact hq
        have hnq : decide (n ≤ q) = false := decide_eq_false (by omega)
        have hq0 : decide ((q : Int) < 0) = false := decide_eq_false (by omega)
        have HF : Hid (group xs q d = groupL xs (pointOf xs d) q) := group_yes HC0.out Hq.out
        go_enter Try.func33, Try.ntmps33
        go_wp2_with fail
        refine (mesh_Coordinates (hv.ext Hxb.out) hd).mono ?_
        rintro e w1 ⟨v1, rfl, hv1, hx1⟩
        rw [HC.out] at hv1 ⊢
        have hcb := (Har.out.ext hx1).cell 0
        simp only [List.getElem?_cons_zero] at hcb
        have hcq := (h.ext (Hxb.out.trans hx1)).cell q Hq.out
        have hb := hmo.get Hq.out
        obtain ⟨m, hm⟩ : ∃ m : Nat, xs[q]?.getD 0 = m := ⟨(xs[q]?.getD 0).toNat, by omega⟩
        rw [hm] at hcq hb
        have HMQ := Lib.hid hm
        clear hm hmo
        go_wp2
        go_loopw [38, 9] (fun i s wr => ∃ (k : Nat), k ≤ m ∧ i = .int .i64 k ∧ Ext w1 wr ∧ Own wr w1.heap.size s ((groupL xs (pointOf xs d) q).take k)) (fun i _ _ => m - (intOf i).toNat)
        case atStart => exact ⟨0, Nat.zero_le _, rfl, Ext.refl _, Own.nil _ _⟩
        case round =>
          obtain ⟨k, hk, rfl, hx, ho⟩ := hrel
          have hxw := (Hxb.out.trans hx1).trans hx
          by_cases hkm : k < m
          · have hcbr := (Har.out.ext (hx1.trans hx)).cell 0
            simp only [List.getElem?_cons_zero] at hcbr
            have hpl : Hid ((pointOf xs d).length = n) := by show _ = _; rw [length_pointOf, HN.out]
            go_wp2_with fail
            refine (slices_Clone (hv1.ext hx) (by rw [hpl.out]; omega)).mono ?_
            rintro e w2 ⟨vo, rfl, hown, hx2⟩
            obtain ⟨ao, no, co, HO, hoc, rfl⟩ := hown.open
            have hio := idx_ints ((hown.isInts (by rw [hpl.out]; omega)).ints HO.out) no co HO
            have hqo : q < no := by rw [HO.out, hpl.out]; exact hq
            obtain ⟨o1, o2, o3, o4⟩ := hown.at HO.out hqo
            have ho4 := o4 (k : Int)
            have hx3 : Ext wr (w2.setCell (adr ao q) (.int .i64 (k : Int))) := hx2.setCell o3 _
            have HLQ : Hid (no = ((pointOf xs d).set q (k : Int)).length) := by show _ = _; rw [List.length_set]; exact HO.out
            have hvq := IsInts.mk HLQ.out hoc ((ho4.isInts (by rw [List.length_set, hpl.out]; omega)).ints HLQ.out)
            have hcb3 := (Har.out.ext ((hx1.trans hx).trans hx3)).cell 0
            simp only [List.getElem?_cons_zero] at hcb3
            have H4 := Lib.hid o4
            have HX3 := Lib.hid hx3
            have HVQ := Lib.hid hvq
            clear o4 ho4 hx3 hvq
            go_wp2_with fail
            refine (mesh_Device (hv.ext (hxw.trans HX3.out)) HVQ.out).mono ?_
            rintro e w4 ⟨rfl, hx4⟩
            have hin : InB xs ((pointOf xs d).set q (k : Int)) := set_in (pointOf_in HMO.out.posB.pos _) Hq.out (by omega) (by rw [HMQ.out]; omega)
            have HDV : Hid (devAt xs ((pointOf xs d).set q (k : Int)) = (rank xs ((pointOf xs d).set q (k : Int)), true)) := devAt_in ⟨HMO.out, hin⟩
            rw [HDV.out]
            have HX4 : Hid (Ext wr w4) := HX3.out.trans hx4
            have ho5 := ho.ext HX4.out
            have hlt : ((groupL xs (pointOf xs d) q).take k).length + 1 ≤ 17592186044416 := by rw [List.length_take]; omega
            have HT : Hid (_ = _) := groupL_take (p := pointOf xs d) (show k < (xs[q]?.getD 0).toNat by rw [HMQ.out]; omega)
            have HXW : Hid (Ext w1 w4) := hx.trans HX4.out
            go_wp2_with (at_builtin; refine append_int' rfl _ _ rfl _ rfl rfl rfl ho5 hlt HXW.out (Nat.le_refl _) HXW.out.size ?_; intro w5 v5 hown5 hext5 hbel5)
            go_roundw
            case rel => exact ⟨k + 1, by omega, by go_num, hext5, by rw [HT.out]; exact hown5⟩
            case measure => simp [intOf]; omega
          · have HTK : Hid ((groupL xs (pointOf xs d) q).take k = group xs q d) := by
              rw [Hid, HF.out, List.take_of_length_le (by rw [groupL_len, HMQ.out]; omega)]
            rw [HTK.out] at ho
            go_wp2
            go_ret
            exact ⟨_, rfl, ho.low (Hxb.out.trans hx1).size, hxw⟩
  · have HC : Hid (coords xs d = ([], false)) := coords_out hc
    have HF : Hid (group xs ax d = []) := group_no (fun hh => hc hh.1)
    clear hc
    go_enter Try.func33, Try.ntmps33
    go_wp2_with fail
    refine (mesh_Coordinates (hv.ext Hxb.out) hd).mono ?_
    rintro e w1 ⟨v1, rfl, hv1, hx1⟩
    rw [HC.out] at hv1 ⊢
    go_wp2
    go_ret
    exact ⟨_, rfl, by rw [HF.out]; exact Own.nil _ _, Hxb.out.trans hx1⟩
end Go.Proofs.Ytcbnnjadgkgheaa
