/- The walks of brocadelaw51.lists and of the law MeshGroups. -/
import Derived.Test.YtcbnnjadgkgheaaL51a
set_option linter.unusedVariables false
set_option linter.unusedSimpArgs false
namespace Go.Proofs.Ytcbnnjadgkgheaa
open Go.RowKit

theorem rows_eq {rs ss : List (List Int)} {n : Nat} (h1 : n = rs.length) (h2 : n = ss.length) (h : ∀ j, j < n → rs[j]?.getD [] = ss[j]?.getD []) : rs = ss := by
  apply List.ext_getElem (by omega)
  intro j hj hj'
  have := h j (by omega)
  simpa [List.getElem?_eq_getElem hj, List.getElem?_eq_getElem hj'] using this

set_option maxHeartbeats 2000000 in
theorem law51_lists {u v : Value} {rs ss : List (List Int)} {w : World} (hu : IsRows w u rs) (hv : IsRows w v ss) :
    Calls Try.prog 35 #[u, v] w fun e w' => e = .returned (.bool (decide (rs = ss))) ∧ Ext w w' := by
  obtain ⟨us, a, n, c, HN, hnc, hl, rfl, HU, RU⟩ := hu.open
  obtain ⟨vs, b, m, d, HM, hmd, hm, rfl, HV, RV⟩ := hv.open
  have hix := idx_rows HU.out RU.out n c HN
  have hiy := idx_rows HV.out RV.out m d HM
  by_cases hnm : n = m
  · subst hnm
    go_enter Try.func35, Try.ntmps35
    go_wp2
    go_loopw [5] (fun i wr => ∃ (k : Nat), k ≤ n ∧ i = .int .i64 k ∧ Ext w wr ∧ Hid (∀ j, j < k → rs[j]?.getD [] = ss[j]?.getD [])) (fun i _ => n - (intOf i).toNat)
    case atStart => exact ⟨0, Nat.zero_le _, rfl, Ext.refl w, fun j hj => by omega⟩
    case round =>
      obtain ⟨k, hk, rfl, hx, hq⟩ := hrel
      by_cases hkn : k < n
      · have hk1 : k < rs.length := by rw [← HN.out]; exact hkn
        have hk2 : k < ss.length := by rw [← HM.out]; exact hkn
        have hc1 := (HU.out.ext hx).slot (RU.out.ext hx) hk1
        have hc2 := (HV.out.ext hx).slot (RV.out.ext hx) hk2
        have hA := (RU.out.ext hx).2 k hk1
        have hB := (RV.out.ext hx).2 k hk2
        obtain ⟨x, hxx⟩ : ∃ x, us[k]?.getD undef = x := ⟨_, rfl⟩
        obtain ⟨y, hyy⟩ : ∃ y, vs[k]?.getD undef = y := ⟨_, rfl⟩
        rw [hxx] at hc1 hA
        rw [hyy] at hc2 hB
        have HA := Lib.hid hA
        have HB := Lib.hid hB
        clear hxx hyy hk1 hk2 hA hB
        by_cases he : rs[k]?.getD [] = ss[k]?.getD []
        · have C : ∀ N, Calls Try.prog 23 #[x, y] (wr.drewN N) fun e w' => e = .returned (.bool true) ∧ ∃ m, w' = (wr.drewN N).drewN m := fun N => by
            have := base_Ints_same (HA.out.ext ((Ext.refl _).drewN N)) (HB.out.ext ((Ext.refl _).drewN N))
            rwa [decide_eq_true he] at this
          have HC := Lib.hid C
          clear C
          go_wp2
          go_quiet ((go_at_call 23; exact Calls.quiet_of (HC.out _)))
          go_wp2
          go_roundw
          case rel => exact ⟨k + 1, by omega, by go_num, hx.drewN _, fun j hj => by
            by_cases e : j = k
            · subst e; exact he
            · exact hq.out j (by omega)⟩
          case measure => simp [intOf]; omega
        · have C : ∀ N, Calls Try.prog 23 #[x, y] (wr.drewN N) fun e w' => e = .returned (.bool false) ∧ ∃ m, w' = (wr.drewN N).drewN m := fun N => by
            have := base_Ints_same (HA.out.ext ((Ext.refl _).drewN N)) (HB.out.ext ((Ext.refl _).drewN N))
            rwa [decide_eq_false he] at this
          have HC := Lib.hid C
          clear C
          have HF : Hid (decide (rs = ss) = false) := decide_eq_false (fun e => he (by rw [e]))
          go_wp2
          go_quiet ((go_at_call 23; exact Calls.quiet_of (HC.out _)))
          go_wp2
          go_ret
          exact ⟨ret_bool HF.out.symm, hx.drewN _⟩
      · have HF : Hid (decide (rs = ss) = true) := decide_eq_true (rows_eq HN.out HM.out fun j hj => hq.out j (by omega))
        go_wp2
        go_ret
        exact ⟨ret_bool HF.out.symm, hx⟩
  · have HF : Hid (decide (rs = ss) = false) := decide_eq_false (fun e => hnm (by rw [HN.out, HM.out, e]))
    go_enter Try.func35, Try.ntmps35
    go_wp2
    go_ret
    exact ⟨ret_bool HF.out.symm, Ext.refl w⟩

theorem groups_len (xs : List Int) (ax : Int) : (groups xs ax).length ≤ 16 := by
  have := groupsTo_len xs ax (devices xs).toNat
  have := devices_bd xs
  unfold groups
  omega
theorem OwnRows.isGroups {w : World} {B : Nat} {v : Value} {xs : List Int} {ax : Int} (h : OwnRows w B v (groups xs ax)) : IsRows w v (groups xs ax) :=
  h.isRows (by have := groups_len xs ax; omega) (fun r hr => by have := groupsTo_rows _ _ _ r hr; omega)

set_option maxHeartbeats 4000000 in
theorem MeshGroups_walk {u : Value} {xs : List Int} {ax d : Int} {w : World} (hu : IsInts w u xs) (_ : Rng xs) (_ : -9223372036854775808 ≤ ax ∧ ax ≤ 9223372036854775807) (hd0 : -9223372036854775808 ≤ d ∧ d ≤ 9223372036854775807) :
    Calls Try.prog 5 #[.agg #[u], .int .i64 ax, .int .i64 d] w (LawPost w) := by
  obtain ⟨a, n, c, HN, hnc, rfl, h⟩ := hu.open
  have hd := Lib.hid hd0.2
  clear hd0
  have Hxb : Hid (Ext w (w.alloc (.cells #[.slice a n c] 24))) := (Ext.refl w).alloc _
  have Har : Hid (Arr (w.alloc (.cells #[.slice a n c] 24)) w.heap.size 24 [.slice a n c]) := Arr.new w #[.slice a n c] _
  by_cases h20 : 20 < n
  · go_enter Try.func5, Try.ntmps5
    go_wp2_with (go_at_call 24; refine law51_examples.mono ?_; rintro e w1 ⟨rfl, hx1⟩)
    go_ret
    exact ⟨rfl, Hxb.out.trans hx1⟩
  · have hxd := (Ext.refl (w.alloc (.cells #[.slice a n c] 24))).drew
    have Hu5 : Hid (IsInts (w.alloc (.cells #[.slice a n c] 24)).drew (.slice a n c) xs) := (hu.ext Hxb.out).ext hxd
    have Ha5 : Hid (Arr (w.alloc (.cells #[.slice a n c] 24)).drew w.heap.size 24 [.slice a n c]) := Har.out.ext hxd
    have hgl := group_len (xs := xs) (ax := ax) (d := d)
    have HGL : Hid ((group xs ax d).length ≤ 9223372036854775807) := by show _ ≤ _; omega
    clear hgl
    have hc0 := Har.out.cell 0
    simp only [List.getElem?_cons_zero] at hc0
    go_enter Try.func5, Try.ntmps5
    go_wp2_with fail
    go_region_held3 (fun w' => w'.cell? ⟨w.heap.size, 0, none⟩ = some (.slice a n c))
      (first | assumption | go_keep)
      (first
        | (go_at_call 33; refine (mesh_Group Hu5.out hd.out).mono ?_; rintro e w5 ⟨v5, rfl, ho5, hx5⟩; have hc5 := (Ha5.out.ext hx5).cell 0; simp only [List.getElem?_cons_zero] at hc5)
        | (go_at_call 34; refine (ref51_Group (Hu5.out.ext hx5) hd.out).mono ?_; rintro e w6 ⟨v6, rfl, ho6, hx6⟩; have hx46 := hx5.trans hx6; have hc6 := (Ha5.out.ext hx46).cell 0; simp only [List.getElem?_cons_zero] at hc6)
        | (go_at_call 23; refine (base_Ints ((ho5.ext hx6).isInts HGL.out) (ho6.isInts HGL.out)).mono ?_; rintro e w7 ⟨rfl, hx7⟩; rw [decide_eq_true rfl]; have hx47 := hx46.trans hx7; have hc7 := (Ha5.out.ext hx47).cell 0; simp only [List.getElem?_cons_zero] at hc7)
        | (go_at_call 36; refine (mesh_Groups (Hu5.out.ext hx47)).mono ?_; rintro e w8 ⟨v8, rfl, ho8, hx8⟩; have hx48 := hx47.trans hx8; have hc8 := (Ha5.out.ext hx48).cell 0; simp only [List.getElem?_cons_zero] at hc8)
        | (go_at_call 37; refine (ref51_Groups (Hu5.out.ext hx48)).mono ?_; rintro e w9 ⟨v9, rfl, ho9, hx9⟩; have hx49 := hx48.trans hx9; have hc9 := (Ha5.out.ext hx49).cell 0; simp only [List.getElem?_cons_zero] at hc9)
        | (go_at_call 35; refine (law51_lists (ho8.ext hx9).isGroups ho9.isGroups).mono ?_; rintro e w10 ⟨rfl, hx10⟩; rw [decide_eq_true rfl]; have hx50 := hx49.trans hx10; have hc10 := (Ha5.out.ext hx50).cell 0; simp only [List.getElem?_cons_zero] at hc10)
        | (go_at_call 24; refine law51_examples.mono ?_; rintro e w11 ⟨rfl, hx11⟩; have hx51 := hx50.trans hx11; have hc11 := (Ha5.out.ext hx51).cell 0; simp only [List.getElem?_cons_zero] at hc11))
    go_wp2
    go_ret
    exact ⟨rfl, (Hxb.out.trans hxd).trans hx51⟩
end Go.Proofs.Ytcbnnjadgkgheaa
