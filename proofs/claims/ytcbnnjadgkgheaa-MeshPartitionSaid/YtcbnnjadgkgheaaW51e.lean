/- The walks of mesh.Groups and its reference. -/
import Derived.Test.YtcbnnjadgkgheaaW51d
set_option linter.unusedVariables false
set_option linter.unusedSimpArgs false
namespace Go.Proofs.Ytcbnnjadgkgheaa
open Go.RowKit

/-- It returns a slice of slices of its own that reads as the rows. -/
def RetRows (w : World) (rows : List (List Int)) (e : Ending) (w' : World) : Prop := ∃ v, e = .returned v ∧ OwnRows w' w.heap.size v rows ∧ Ext w w'
theorem OwnRows.low {w : World} {B B' : Nat} {v : Value} {rows : List (List Int)} (h : OwnRows w B v rows) (hb : B' ≤ B) : OwnRows w B' v rows := by
  obtain ⟨vs, h1, h2⟩ := h
  refine ⟨vs, ⟨h1.1, ?_⟩, h2.1, fun i hi => (h2.2 i hi).low hb⟩
  rcases h1.2 with h | ⟨g, cap, cur, hv, hb, r⟩
  · exact .inl h
  · exact .inr ⟨g, cap, cur, hv, by omega, r⟩
theorem devices_bd (xs : List Int) : 0 ≤ devices xs ∧ devices xs ≤ 16 := by
  unfold devices
  split
  · rename_i h
    have := prod_pos xs h.posB.pos
    have := h.posB.le
    omega
  · omega
theorem group_len {xs : List Int} {ax d : Int} : (group xs ax d).length ≤ 16 := by
  unfold group
  split
  · rename_i h
    rw [groupL_len]
    have := (devices_pos h.1).1.get (k := ax.toNat) (by omega)
    omega
  · simp
theorem groupsTo_succ (xs : List Int) (ax : Int) (k : Nat) : groupsTo xs ax (k + 1) = groupsTo xs ax k ++ if (group xs ax k).head? = some (k : Int) then [group xs ax k] else [] := rfl
theorem groupsTo_len (xs : List Int) (ax : Int) : ∀ k, (groupsTo xs ax k).length ≤ k
  | 0 => Nat.le_refl _
  | k + 1 => by
    rw [groupsTo_succ, List.length_append]
    have := groupsTo_len xs ax k
    split
    · simp; omega
    · simp; omega
theorem groupsTo_rows (xs : List Int) (ax : Int) : ∀ k, ∀ r ∈ groupsTo xs ax k, r.length ≤ 16
  | 0, r, h => by cases h
  | k + 1, r, h => by
    rw [groupsTo_succ, List.mem_append] at h
    rcases h with h | h
    · exact groupsTo_rows xs ax k r h
    · split at h
      · simp at h; subst h; exact group_len
      · cases h

set_option maxHeartbeats 4000000 in
theorem mesh_Groups {u : Value} {xs : List Int} {ax : Int} {w : World} (hv : IsInts w u xs) :
    Calls Try.prog 36 #[.agg #[u], .int .i64 ax] w (RetRows w (groups xs ax)) := by
  obtain ⟨a, n, c, HN, hnc, rfl, h⟩ := hv.open
  have Hxb : Hid (Ext w (w.alloc (.cells #[.slice a n c] 24))) := (Ext.refl w).alloc _
  have Har : Hid (Arr (w.alloc (.cells #[.slice a n c] 24)) w.heap.size 24 [.slice a n c]) := Arr.new w #[.slice a n c] _
  have hbd := devices_bd xs
  obtain ⟨D, hD⟩ : ∃ D : Nat, devices xs = D := ⟨(devices xs).toNat, by omega⟩
  have HD := Lib.hid hD
  have HG : Hid (groups xs ax = groupsTo xs ax D) := by rw [Hid, groups, hD]; rfl
  rw [hD] at hbd
  clear hD
  go_enter Try.func36, Try.ntmps36
  go_wp2_with fail
  refine (mesh_Devices (hv.ext Hxb.out)).mono ?_
  rintro e w1 ⟨rfl, hx1⟩
  rw [HD.out]
  go_wp2
  go_loopw [10, 5] (fun i s wr => ∃ (k : Nat), k ≤ D ∧ i = .int .i64 k ∧ Ext w1 wr ∧ OwnRows wr w1.heap.size s (groupsTo xs ax k)) (fun i _ _ => D - (intOf i).toNat)
  case atStart => exact ⟨0, Nat.zero_le _, rfl, Ext.refl _, OwnRows.nil _ _⟩
  case round =>
    obtain ⟨k, hk, rfl, hx, ho⟩ := hrel
    have hxw := (Hxb.out.trans hx1).trans hx
    have hcbr := (Har.out.ext (hx1.trans hx)).cell 0
    simp only [List.getElem?_cons_zero] at hcbr
    by_cases hkm : k < D
    · go_wp2_with fail
      refine (mesh_Group (hv.ext hxw) (by omega)).mono ?_
      rintro e w3 ⟨v3, rfl, hown3, hx3⟩
      have HX : Hid (Ext w1 w3) := hx.trans hx3
      have ho3 := ho.ext hx3
      have hgl := group_len (xs := xs) (ax := ax) (d := k)
      have hlt : (groupsTo xs ax k).length + 1 ≤ 4398046511104 := by have := groupsTo_len xs ax k; omega
      have HS : Hid (_ = _) := groupsTo_succ xs ax k
      obtain ⟨ys, hys⟩ : ∃ ys, group xs ax k = ys := ⟨_, rfl⟩
      rw [hys] at hown3 HS hgl
      clear hys
      obtain ⟨b3, m3, c3, HM3, hmc3, rfl⟩ := hown3.open
      have hi3 := (hown3.isInts (by omega)).ints HM3.out
      cases ys with
      | nil =>
        obtain rfl : m3 = 0 := HM3.out
        go_wp2
        go_roundw
        case rel => exact ⟨k + 1, by omega, by go_num, HX.out, by rw [HS.out]; simpa using ho3⟩
        case measure => simp [intOf]; omega
      | cons y r =>
        have hm1 : 0 < m3 := by rw [HM3.out]; simp
        have hiz := idx_ints hi3 m3 c3 HM3
        have hc0 := hi3.cell 0 (by simp)
        simp only [List.getElem?_cons_zero, Option.getD_some] at hc0
        by_cases hyk : y = k
        · have hb1 : (y == (k : Int)) = true := beq_iff_eq.2 hyk
          have HS2 : Hid (groupsTo xs ax (k + 1) = groupsTo xs ax k ++ [y :: r]) := by rw [Hid, HS.out, if_pos (by rw [hyk]; rfl)]
          have Hown := Lib.hid (hown3.low hx.size)
          clear hyk
          go_wp2_with (at_builtin; refine append_row rfl _ _ rfl _ rfl rfl rfl ho3 Hown.out hlt HX.out (Nat.le_refl _) HX.out.size ?_; intro w5 v5 hown5 hext5 hbel5)
          go_roundw
          case rel => exact ⟨k + 1, by omega, by go_num, hext5, by rw [HS2.out]; exact hown5⟩
          case measure => simp [intOf]; omega
        · have hb1 : (y == (k : Int)) = false := beq_eq_false_iff_ne.2 hyk
          have HS2 : Hid (groupsTo xs ax (k + 1) = groupsTo xs ax k) := by rw [Hid, HS.out, if_neg (by simpa using hyk), List.append_nil]
          clear hyk
          go_wp2
          go_roundw
          case rel => exact ⟨k + 1, by omega, by go_num, HX.out, by rw [HS2.out]; exact ho3⟩
          case measure => simp [intOf]; omega
    · obtain rfl : k = D := by omega
      go_wp2
      go_ret
      exact ⟨_, rfl, by rw [HG.out]; exact ho.low (Hxb.out.trans hx1).size, hxw⟩

set_option maxHeartbeats 4000000 in
theorem ref51_Groups {u : Value} {xs : List Int} {ax : Int} {w : World} (hv : IsInts w u xs) :
    Calls Try.prog 37 #[.agg #[u], .int .i64 ax] w (RetRows w (groups xs ax)) := by
  obtain ⟨a, n, c, HN, hnc, rfl, h⟩ := hv.open
  have Hxb : Hid (Ext w (w.alloc (.cells #[.slice a n c] 24))) := (Ext.refl w).alloc _
  have Har : Hid (Arr (w.alloc (.cells #[.slice a n c] 24)) w.heap.size 24 [.slice a n c]) := Arr.new w #[.slice a n c] _
  have hbd := devices_bd xs
  obtain ⟨D, hD⟩ : ∃ D : Nat, devices xs = D := ⟨(devices xs).toNat, by omega⟩
  have HD := Lib.hid hD
  have HG : Hid (groups xs ax = groupsTo xs ax D) := by rw [Hid, groups, hD]; rfl
  rw [hD] at hbd
  clear hD
  go_enter Try.func37, Try.ntmps37
  go_wp2_with fail
  go_loopw [6, 5] (fun i s wr => ∃ (k : Nat), k ≤ D ∧ i = .int .i64 k ∧ Ext (w.alloc (.cells #[.slice a n c] 24)) wr ∧ OwnRows wr (w.alloc (.cells #[.slice a n c] 24)).heap.size s (groupsTo xs ax k)) (fun i _ _ => D - (intOf i).toNat)
  case atStart => exact ⟨0, Nat.zero_le _, rfl, Ext.refl _, OwnRows.nil _ _⟩
  case round =>
    obtain ⟨k, hk, rfl, hx, ho⟩ := hrel
    have hxw := Hxb.out.trans hx
    have hcbr := (Har.out.ext hx).cell 0
    simp only [List.getElem?_cons_zero] at hcbr
    by_cases hkm : k < D
    · go_wp2_with fail
      refine (ref51_Devices (hv.ext hxw)).mono ?_
      rintro e w2 ⟨rfl, hx2⟩
      rw [HD.out]
      have hcb2 := (Har.out.ext (hx.trans hx2)).cell 0
      simp only [List.getElem?_cons_zero] at hcb2
      go_wp2_with fail
      refine (ref51_Group (hv.ext (hxw.trans hx2)) (by omega)).mono ?_
      rintro e w3 ⟨v3, rfl, hown3, hx3⟩
      have HX : Hid (Ext (w.alloc (.cells #[.slice a n c] 24)) w3) := hx.trans (hx2.trans hx3)
      have ho3 := ho.ext (hx2.trans hx3)
      have hgl := group_len (xs := xs) (ax := ax) (d := k)
      have hlt : (groupsTo xs ax k).length + 1 ≤ 4398046511104 := by have := groupsTo_len xs ax k; omega
      have HS : Hid (_ = _) := groupsTo_succ xs ax k
      obtain ⟨ys, hys⟩ : ∃ ys, group xs ax k = ys := ⟨_, rfl⟩
      rw [hys] at hown3 HS hgl
      clear hys
      obtain ⟨b3, m3, c3, HM3, hmc3, rfl⟩ := hown3.open
      have hi3 := (hown3.isInts (by omega)).ints HM3.out
      cases ys with
      | nil =>
        obtain rfl : m3 = 0 := HM3.out
        go_wp2
        go_roundw
        case rel => exact ⟨k + 1, by omega, by go_num, HX.out, by rw [HS.out]; simpa using ho3⟩
        case measure => simp [intOf]; omega
      | cons y r =>
        have hm1 : 0 < m3 := by rw [HM3.out]; simp
        have hiz := idx_ints hi3 m3 c3 HM3
        have hc0 := hi3.cell 0 (by simp)
        simp only [List.getElem?_cons_zero, Option.getD_some] at hc0
        by_cases hyk : y = k
        · have hb1 : (y == (k : Int)) = true := beq_iff_eq.2 hyk
          have HS2 : Hid (groupsTo xs ax (k + 1) = groupsTo xs ax k ++ [y :: r]) := by rw [Hid, HS.out, if_pos (by rw [hyk]; rfl)]
          have Hown := Lib.hid (hown3.low (hx.trans hx2).size)
          clear hyk
          go_wp2_with (at_builtin; refine append_row rfl _ _ rfl _ rfl rfl rfl ho3 Hown.out hlt HX.out (Nat.le_refl _) HX.out.size ?_; intro w5 v5 hown5 hext5 hbel5)
          go_roundw
          case rel => exact ⟨k + 1, by omega, by go_num, hext5, by rw [HS2.out]; exact hown5⟩
          case measure => simp [intOf]; omega
        · have hb1 : (y == (k : Int)) = false := beq_eq_false_iff_ne.2 hyk
          have HS2 : Hid (groupsTo xs ax (k + 1) = groupsTo xs ax k) := by rw [Hid, HS.out, if_neg (by simpa using hyk), List.append_nil]
          clear hyk
          go_wp2
          go_roundw
          case rel => exact ⟨k + 1, by omega, by go_num, HX.out, by rw [HS2.out]; exact ho3⟩
          case measure => simp [intOf]; omega
    · obtain rfl : k = D := by omega
      go_wp2_with fail
      refine (ref51_Devices (hv.ext hxw)).mono ?_
      rintro e w2 ⟨rfl, hx2⟩
      rw [HD.out]
      go_wp2
      go_ret
      exact ⟨_, rfl, by rw [HG.out]; exact (ho.ext hx2).low Hxb.out.size, hxw.trans hx2⟩
end Go.Proofs.Ytcbnnjadgkgheaa
