/- The walk of the law MeshPartition. -/
import Derived.Test.YtcbnnjadgkgheaaPlain51b
set_option linter.unusedVariables false
set_option linter.unusedSimpArgs false
namespace Go.Proofs.Ytcbnnjadgkgheaa
open Go.RowKit

/-- The slices vs, in the array of v, all of the call's own from block B on. -/
def RowsAt (w : World) (B : Nat) (v : Value) (vs : List Value) (rows : List (List Int)) : Prop := w.ownsRow B 22 1 v rows.length vs ∧ Rowed w B vs rows
theorem RowsAt.ext {w w' : World} {B : Nat} {v : Value} {vs : List Value} {rows : List (List Int)} (h : RowsAt w B v vs rows) (hb : Ext w w') : RowsAt w' B v vs rows :=
  ⟨World.ownsRow.kept h.1 hb.grown (by cases v.ownBlock <;> simp), h.2.ext hb⟩
theorem RowsAt.under {w : World} {B : Nat} {v : Value} {vs : List Value} {rows : List (List Int)} (h : RowsAt w B v vs rows) {g k : Nat} (hg : g < B) (u : Value) : RowsAt (w.setCell ⟨g, k, none⟩ u) B v vs rows :=
  ⟨ownsRow_setCell_below h.1 hg u, h.2.1, fun i hi => (h.2.2 i hi).under hg u⟩
theorem RowsAt.open {w : World} {B : Nat} {v : Value} {vs : List Value} {rows : List (List Int)} (h : RowsAt w B v vs rows) : ∃ a n c, Hid (n = rows.length) ∧ n ≤ c ∧ v = .slice a n c := by
  rcases h.1.2 with ⟨rfl, hn⟩ | ⟨g, cap, cur, rfl, hb, hg, hnc, hcm, hcs, htake⟩
  · exact ⟨none, 0, 0, hn.symm, Nat.le_refl _, rfl⟩
  · exact ⟨_, _, cap, rfl, hnc, rfl⟩
theorem RowsAt.cells {w : World} {B n c : Nat} {a : Option Addr} {vs : List Value} {rows : List (List Int)} (h : RowsAt w B (.slice a n c) vs rows) : Cells w a vs := by
  have h1 := h.1
  have hl := h.2.1
  rcases h.1.2 with ⟨hv, hn⟩ | ⟨g, cap, cur, hv, hb, hg, hnc, hcm, hcs, htake⟩
  · exact ⟨fun k hk => by omega, fun k hk => by omega⟩
  · simp only [Value.slice.injEq] at hv
    obtain ⟨rfl, rfl, rfl⟩ := hv
    refine ⟨fun k _ => ⟨g, 0, rfl⟩, fun k hk => ?_⟩
    rw [adr_some, Nat.zero_add]
    exact World.ownsRow.cellAt h1 k (by omega)
theorem RowsAt.reads {w : World} {B : Nat} {v : Value} {vs : List Value} {rows : List (List Int)} (h : RowsAt w B v vs rows) (hr : ∀ r ∈ rows, r.length ≤ 16) : Reads w vs rows :=
  ⟨h.2.1, fun i hi => (h.2.2 i hi).isInts (by
    rw [List.getElem?_eq_getElem hi]
    have := hr _ (List.getElem_mem hi)
    simp only [Option.getD_some]
    omega)⟩

/-- What the walk asks of the rows. -/
theorem part_rows {xs : List Int} {q D : Nat} (hm : MeshOk xs) (hq : q < xs.length) (hD : devices xs = D) :
    ∀ i, i < (groups xs q).length → (((groups xs q)[i]?.getD []).length : Int) = xs[q]?.getD 0 ∧
      ∀ k, k < ((groups xs q)[i]?.getD []).length → ∃ x : Nat, ((groups xs q)[i]?.getD [])[k]?.getD 0 = (x : Int) ∧ x < D ∧ (pointOf xs x)[q]?.getD 0 = (k : Int) ∧ group xs q x = (groups xs q)[i]?.getD [] := by
  intro i hi
  rw [List.getElem?_eq_getElem hi, Option.getD_some]
  obtain ⟨g, hg, he⟩ := groupsTo_mem _ _ (List.getElem_mem hi)
  have hg' : 0 ≤ (g : Int) ∧ (g : Int) < devices xs := ⟨by omega, by omega⟩
  have hx := hm.get hq
  constructor
  · rw [he, group_yes hg' hq, groupL_len]
    omega
  · intro k hk
    rw [he] at hk ⊢
    obtain ⟨x, h1, h2, h3, h4⟩ := group_at hm hq hg' hk
    exact ⟨x, h1, by omega, h3, h4⟩
theorem part_count {xs : List Int} {q D : Nat} (hm : MeshOk xs) (hq : q < xs.length) (hD : devices xs = D) : ∀ d, d < D → ((groups xs q).flatten.count (d : Int)) = 1 :=
  fun d hd => count_all hm hq (by omega)
theorem count_le {rs : List (List Int)} {r : List Int} {j k : Nat} {x : Int} (h : ∀ r ∈ rs, r.length ≤ 16) (hl : rs.length ≤ 16) (hr : r.length ≤ 16) : ((rs.take j).flatten ++ r.take k).count x ≤ 4096 := by
  have h1 := List.count_le_length (a := x) (l := (rs.take j).flatten ++ r.take k)
  have h2 := flat_len (rs := rs.take j) fun r' hr' => h r' (List.mem_of_mem_take hr')
  have h3 : (rs.take j).length ≤ rs.length := by rw [List.length_take]; omega
  have h4 : (r.take k).length ≤ r.length := by rw [List.length_take]; omega
  rw [List.length_append] at h1
  omega

set_option maxRecDepth 100000 in
set_option maxHeartbeats 8000000 in
theorem MeshPartition_walk {u : Value} {xs : List Int} {y : Int} {w : World} (hu : IsInts w u xs) (_ : Rng xs) (hy : 0 ≤ y ∧ y ≤ 255) :
    Calls Try.prog 7 #[.agg #[u], .int .u8 y] w (LawPost w) := by
  obtain ⟨a, n, c, HN, hnc, rfl, h⟩ := hu.open
  obtain ⟨y, rfl⟩ := Int.eq_ofNat_of_zero_le hy.1
  have hy1 := hy.2
  clear hy
  have Hxb : Hid (Ext w (w.alloc (.cells #[.slice a n c] 24))) := (Ext.refl w).alloc _
  have Har : Hid (Arr (w.alloc (.cells #[.slice a n c] 24)) w.heap.size 24 [.slice a n c]) := Arr.new w #[.slice a n c] _
  by_cases h20 : 20 < n
  · go_enter Try.func7, Try.ntmps7
    go_wp2_with (go_at_call 24; refine law51_examples.mono ?_; rintro e w1 ⟨rfl, hx1⟩)
    go_ret
    exact ⟨rfl, Hxb.out.trans hx1⟩
  · by_cases hm : MeshOk xs
    · have HM0 := Lib.hid hm
      have hv0 := vmesh_yes hm
      have h3 : n ≤ 3 := by rw [HN.out]; exact hm.2.1
      have h1 : 1 ≤ n := by rw [HN.out]; exact hm.1
      have hbd := devices_bd xs
      obtain ⟨D, hD⟩ : ∃ D : Nat, devices xs = D := ⟨(devices xs).toNat, by omega⟩
      have HD := Lib.hid hD
      rw [hD] at hbd
      clear hD hm
      obtain ⟨q, hq, hqn⟩ : ∃ q : Nat, (y : Int) % (n : Int) = (q : Int) ∧ q < n := ⟨y % n, by omega, Nat.mod_lt _ (by omega)⟩
      have HQ := Lib.hid hq
      clear hq
      have Hq : Hid (q < xs.length) := by show _ < _; rw [← HN.out]; exact hqn
      have hP := part_rows HM0.out Hq.out HD.out
      have hC := part_count HM0.out Hq.out HD.out
      have hR : ∀ r ∈ groups xs q, r.length ≤ 16 := fun r hr => groupsTo_rows _ _ _ r hr
      have hL := groups_len xs q
      have hix := idx_ints h n c HN
      go_enter Try.func7, Try.ntmps7
      go_wp2_with fail
      refine (ref51_Validate (hu.ext Hxb.out)).mono ?_
      rintro e w1 ⟨rfl, hx1⟩
      have hcb1 := (Har.out.ext hx1).cell 0
      simp only [List.getElem?_cons_zero] at hcb1
      rw [hv0]
      clear hv0
      go_wp2_with fail
      rw [HQ.out]
      refine (mesh_Devices (hu.ext (Hxb.out.trans hx1))).mono ?_
      rintro e w2 ⟨rfl, hx2⟩
      rw [HD.out]
      have hx12 := Lib.hid (hx1.trans hx2)
      go_wp2_with (at_make; refine make_ints' rfl _ _ rfl D D D rfl rfl rfl rfl (by omega) ?_; intro w3 g harr hge hx3; have hcb3 := (Har.out.ext (hx12.out.trans hx3)).cell 0; simp only [List.getElem?_cons_zero] at hcb3)
      refine (mesh_Groups (ax := (q : Int)) (hu.ext ((Hxb.out.trans hx12.out).trans hx3))).mono ?_
      rintro e w4 ⟨v4, rfl, ho4, hx4⟩
      have HB : Hid (g < w3.heap.size) := harr.lt
      have HG := Lib.hid hge
      obtain ⟨vs, ho4⟩ : ∃ vs, RowsAt w4 w3.heap.size v4 vs (groups xs q) := ho4
      obtain ⟨rs, hrs⟩ : ∃ rs, groups xs q = rs := ⟨_, rfl⟩
      rw [hrs] at hP hC hR hL ho4
      clear hrs hge
      have HP := Lib.hid hP
      have HC := Lib.hid hC
      have HR := Lib.hid hR
      have HL := Lib.hid hL
      obtain ⟨a5, n5, c5, HN5, hnc5, rfl⟩ := ho4.open
      have hi5 := idx_rows ho4.cells (ho4.reads HR.out) n5 c5 HN5
      have hn5 : n5 ≤ 16 := by rw [HN5.out]; exact hL
      have HX4 : Hid (Ext w2 w4) := hx3.trans hx4
      have har4 : Arr w4 g 3 ((tally D []).map (.int .i64)) := by rw [tally_nil]; exact harr.ext hx4
      clear hP hC hR hL
      go_wp2
      go_loopw [8] (fun i wr => ∃ (j : Nat), j ≤ n5 ∧ i = .int .i64 j ∧ Ext w2 wr ∧ RowsAt wr w3.heap.size (.slice a5 n5 c5) vs rs ∧ Arr wr g 3 ((tally D (rs.take j).flatten).map (.int .i64))) (fun i _ => n5 - (intOf i).toNat)
      case atStart => exact ⟨0, Nat.zero_le _, rfl, HX4.out, ho4, har4⟩
      case round =>
        obtain ⟨j, hj, rfl, hx, ho, har⟩ := hrel
        have hcbr := (Har.out.ext (hx12.out.trans hx)).cell 0
        simp only [List.getElem?_cons_zero] at hcbr
        by_cases hjn : j < n5
        · have Hj : Hid (j < rs.length) := by show _ < _; rw [← HN5.out]; exact hjn
          have hcs := ho.cells.slot (ho.reads HR.out) Hj.out
          have hrow := ho.2.2 j Hj.out
          obtain ⟨P1, P2⟩ := HP.out j Hj.out
          have hr16 := (HR.out _ (List.getElem_mem Hj.out))
          rw [← Option.getD_some (a := rs[j]'Hj.out) (b := []), ← List.getElem?_eq_getElem Hj.out] at hr16
          obtain ⟨x0, hx0⟩ : ∃ x, vs[j]?.getD undef = x := ⟨_, rfl⟩
          obtain ⟨r, hr⟩ : ∃ r, rs[j]?.getD [] = r := ⟨_, rfl⟩
          rw [hx0] at hcs hrow
          rw [hr] at hrow P1 P2 hr16
          obtain ⟨b, m, d, HM, hmd, rfl⟩ := hrow.open
          have HX0 := Lib.hid hx0
          have HR0 := Lib.hid hr
          have HR16 := Lib.hid hr16
          have hm16 : m ≤ 16 := by rw [HM.out]; exact hr16
          have hir := idx_ints ((hrow.isInts (by omega)).ints HM.out) m d HM
          have hcq := (h.ext ((Hxb.out.trans hx12.out).trans hx)).cell q Hq.out
          rw [← P1, ← HM.out] at hcq
          have HP2 := Lib.hid P2
          have Hdm : Hid (xs[q]?.getD 0 = (m : Int)) := by show _ = _; rw [← P1, ← HM.out]
          clear hx0 hr P1 P2 hr16
          go_wp2
          go_quiet (fail)
          go_wp2
          go_loopw [9] (fun i wr2 => ∃ (k : Nat), k ≤ m ∧ i = .int .i64 k ∧ Ext w2 wr2 ∧ RowsAt wr2 w3.heap.size (.slice a5 n5 c5) vs rs ∧ Arr wr2 g 3 ((tally D ((rs.take j).flatten ++ r.take k)).map (.int .i64))) (fun i _ => m - (intOf i).toNat)
          case atStart => exact ⟨0, Nat.zero_le _, rfl, hx.drewN _, ho.ext ((Ext.refl _).drewN _), by rw [List.take_zero, List.append_nil]; exact har.drewN _⟩
          case round =>
            obtain ⟨k, hk, rfl, hx5, ho5, har5⟩ := hrel
            have hxw := Lib.hid ((Hxb.out.trans hx12.out).trans hx5)
            have hcb5 := (Har.out.ext (hx12.out.trans hx5)).cell 0
            simp only [List.getElem?_cons_zero] at hcb5
            have hcs5 := ho5.cells.slot (ho5.reads HR.out) Hj.out
            rw [HX0.out] at hcs5
            by_cases hkm : k < m
            · have Hk : Hid (k < r.length) := by show _ < _; rw [← HM.out]; exact hkm
              obtain ⟨x, e1, hxD, e3, e4⟩ := HP2.out k Hk.out
              have hrow5 := ho5.2.2 j Hj.out
              rw [HX0.out, HR0.out] at hrow5
              have HI5 := Lib.hid (hrow5.isInts (by have := HR16.out; omega))
              have hck := (HI5.out.ints HM.out).cell k Hk.out
              rw [e1] at hck
              have HCo : Hid (coords xs (x : Int) = (pointOf xs x, true)) := coords_in (by rw [HD.out]; omega)
              have HE1 := Lib.hid e1
              have HE3 := Lib.hid e3
              have HE4 := Lib.hid e4
              clear e1 e3 e4
              go_wp2_with fail
              refine (mesh_Coordinates (hu.ext hxw.out) (by omega)).mono ?_
              rintro e w6 ⟨v6, rfl, hv6, hx6⟩
              rw [HCo.out] at hv6 ⊢
              obtain ⟨b6, m6, c6, HM6, hmc6, rfl, k6⟩ := hv6.open
              obtain rfl : m6 = n := by rw [HM6.out, length_pointOf, ← HN.out]
              have hiz := idx_ints k6 m6 c6 HM6
              have hxd := Lib.hid ((Ext.refl w6).drew)
              have hx7 := Lib.hid (hx6.trans hxd.out)
              have Hu6 := Lib.hid (hu.ext (hxw.out.trans hx7.out))
              have HI6 := Lib.hid (HI5.out.ext hx7.out)
              have HS : Hid (∀ w', Ext w6.drew w' → w'.cell? ⟨w.heap.size, 0, none⟩ = some (.slice a m6 c) ∧ w'.cell? (adr b6 q) = some (.int .i64 (k : Int)) ∧ w'.cell? (adr a5 j) = some (.slice b m d)) := fun w' hw => by
                refine ⟨?_, ?_, ?_⟩
                · have := (Har.out.ext ((hx12.out.trans hx5).trans (hx7.out.trans hw))).cell 0
                  simpa only [List.getElem?_cons_zero] using this
                · have := (k6.ext (hxd.out.trans hw)).cell q (by rw [length_pointOf]; exact Hq.out)
                  rw [HE3.out] at this
                  exact this
                · have ho7 := ho5.ext (hx7.out.trans hw)
                  have := ho7.cells.slot (ho7.reads HR.out) Hj.out
                  rw [HX0.out] at this
                  exact this
              have hS6 := HS.out _ (Ext.refl _)
              have hxn : decide ((x : Int) < 0) = false := decide_eq_false (by omega)
              have hxD2 : decide (D ≤ x) = false := decide_eq_false (by omega)
              have hxD3 : decide ((D : Int) ≤ (x : Int)) = false := decide_eq_false (by omega)
              go_wp2_with fail
              go_region_held3 (fun w' => w'.cell? ⟨w.heap.size, 0, none⟩ = some (.slice a m6 c) ∧ w'.cell? (adr b6 q) = some (.int .i64 (k : Int)) ∧ w'.cell? (adr a5 j) = some (.slice b m d))
                (first | assumption | go_keep)
                (first
                  | (go_at_call 33; refine (mesh_Group Hu6.out (by omega)).mono ?_; rintro e w8 ⟨v8, rfl, ho8, hx8⟩; have hS8 := HS.out _ hx8)
                  | (go_at_call 23; refine (base_Ints ((ho8.isInts (by rw [HE4.out]; have := HR16.out; omega))) (HI6.out.ext hx8)).mono ?_; rintro e w9 ⟨rfl, hx9⟩; rw [decide_eq_true HE4.out]; have hS9 := HS.out _ (hx8.trans hx9)))
              have hx59 := Lib.hid (hx7.out.trans (hx8.trans hx9))
              have har9 := har5.ext hx59.out
              have hcx := har9.int (k := x) (by rw [tally_len]; exact hxD)
              have hcf := har9.free x
              obtain ⟨z, hz⟩ : ∃ z : Nat, (tally D ((rs.take j).flatten ++ r.take k))[x]?.getD 0 = (z : Int) := ⟨_, tally_get _ hxD⟩
              have hz1 : z ≤ 4096 := by
                have := count_le (j := j) (k := k) (x := (x : Int)) HR.out HL.out HR16.out
                rw [tally_get _ hxD] at hz
                omega
              rw [hz] at hcx
              have HZ := Lib.hid hz
              clear hz
              go_wp2
              go_roundw
              case rel =>
                refine ⟨k + 1, by omega, by go_num, (hx5.trans hx59.out).setCell HG.out _, (ho5.ext hx59.out).under HB.out _, ?_⟩
                have := har9.store x (.int .i64 ((z : Int) + 1))
                rw [row_take Hk.out, HE1.out, ← List.append_assoc, tally_snoc _ hxD, HZ.out, List.map_set]
                exact this
              case measure => simp [intOf]; omega
            · obtain rfl : k = m := by omega
              go_wp2
              go_roundw
              case rel =>
                refine ⟨j + 1, by omega, by go_num, hx5, ho5, ?_⟩
                rw [flat_take Hj.out, HR0.out]
                rw [List.take_of_length_le (l := r) (by rw [← HM.out]; exact Nat.le_refl _)] at har5
                exact har5
              case measure => simp [intOf]; omega
        · obtain rfl : j = n5 := by omega
          rw [List.take_of_length_le (by rw [← HN5.out]; exact Nat.le_refl _)] at har
          go_wp2
          go_loopw [13] (fun i wr3 => ∃ (t : Nat), t ≤ D ∧ i = .int .i64 t ∧ Ext w2 wr3 ∧ Arr wr3 g 3 ((tally D rs.flatten).map (.int .i64))) (fun i _ => D - (intOf i).toNat)
          case atStart => exact ⟨0, Nat.zero_le _, rfl, hx, har⟩
          case round =>
            obtain ⟨t, ht, rfl, hx5, har5⟩ := hrel
            by_cases htD : t < D
            · have hct := har5.int (k := t) (by rw [tally_len]; exact htD)
              rw [tally_get _ htD, HC.out t htD] at hct
              go_wp2
              go_roundw
              case rel => exact ⟨t + 1, by omega, by go_num, hx5, har5⟩
              case measure => simp [intOf]; omega
            · go_wp2_with (go_at_call 24; refine law51_examples.mono ?_; rintro e w9 ⟨rfl, hx9⟩)
              go_ret
              exact ⟨rfl, ((Hxb.out.trans hx12.out).trans hx5).trans hx9⟩
    · have hv0 := vmesh_no hm
      clear hm
      go_enter Try.func7, Try.ntmps7
      go_wp2_with fail
      refine (ref51_Validate (hu.ext Hxb.out)).mono ?_
      rintro e w1 ⟨rfl, hx1⟩
      rw [hv0]
      go_wp2_with (go_at_call 24; refine law51_examples.mono ?_; rintro e w2 ⟨rfl, hx2⟩)
      go_ret
      exact ⟨rfl, (Hxb.out.trans hx1).trans hx2⟩
end Go.Proofs.Ytcbnnjadgkgheaa
