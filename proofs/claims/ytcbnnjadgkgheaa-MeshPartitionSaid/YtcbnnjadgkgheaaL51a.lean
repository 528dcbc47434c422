/- The walk of the law MeshCoordinates; a mesh among the arguments. -/
import Derived.Test.YtcbnnjadgkgheaaL51x
import Derived.Test.YtcbnnjadgkgheaaRow
import Derived.Deep.RegionHeld3
set_option linter.unusedVariables false
set_option linter.unusedSimpArgs false
namespace Go.Proofs.Ytcbnnjadgkgheaa
open Go.RowKit Go.ChangeShapes Go.WideShapes Go.ChangeAt

theorem cellsMesh : Try.prog.cellsOf 24 = 1 := by kernel_rfl
theorem cellsSlice : Try.prog.cellsOf 22 = 1 := by kernel_rfl
set_option maxRecDepth 100000 in
/-- A mesh among the arguments. -/
theorem open_arg_mesh {H : Type} {enc : TypeId × Value → H} {W : World} {b0 base : Nat} {held : Bool} {v : Value} {d : DataW H} {p : List MemPlace} {r : Reach}
    (hval : Value.okWide Try.prog W r b0 24 v) (h : DataW.Trod enc Try.prog W base (fun _ => true) held 24 v d p) :
    ∃ u xs, v = .agg #[u] ∧ IsInts W u xs ∧ Rng xs := by
  obtain ⟨cs, rfl, hsz⟩ := okWide_struct Try.underlying24 hval
  rw [cellsMesh] at hsz
  obtain ⟨u, rfl⟩ : ∃ u, cs = #[u] := ⟨cs[0], by
    apply Array.ext
    · simpa using hsz
    · intro i h1 h2
      match i, h2 with
      | 0, _ => rfl⟩
  obtain ⟨fuel, hf⟩ := h
  obtain ⟨y0, m, _, _, h0⟩ := trod_struct1 Try.underlying24 hf
  rw [cellsSlice] at h0
  obtain ⟨xs, hx, hr⟩ := open_cell_ints Try.underlying22 (show DataW.trod enc Try.prog W base (fun _ => true) held m 22 [u] = some y0 from h0)
  exact ⟨u, xs, rfl, hx, hr⟩

set_option maxHeartbeats 4000000 in
theorem MeshCoordinates_walk {u v : Value} {xs ps : List Int} {d : Int} {w : World} (hu : IsInts w u xs) (_ : Rng xs) (hd0 : -9223372036854775808 ≤ d ∧ d ≤ 9223372036854775807) (hv : IsInts w v ps) (_ : Rng ps) :
    Calls Try.prog 4 #[.agg #[u], .int .i64 d, v] w (LawPost w) := by
  obtain ⟨a, n, c, HN, hnc, rfl, h⟩ := hu.open
  obtain ⟨b, m, c2, HM, hmd, rfl, k⟩ := hv.open
  have hd := Lib.hid hd0.2
  clear hd0
  have Hxb : Hid (Ext w (w.alloc (.cells #[.slice a n c] 24))) := (Ext.refl w).alloc _
  have Har : Hid (Arr (w.alloc (.cells #[.slice a n c] 24)) w.heap.size 24 [.slice a n c]) := Arr.new w #[.slice a n c] _
  by_cases h20 : 20 < n
  · go_enter Try.func4, Try.ntmps4
    go_wp2_with (go_at_call 24; refine law51_examples.mono ?_; rintro e w1 ⟨rfl, hx1⟩)
    go_ret
    exact ⟨rfl, Hxb.out.trans hx1⟩
  · by_cases h21 : 20 < m
    · go_enter Try.func4, Try.ntmps4
      go_wp2_with (go_at_call 24; refine law51_examples.mono ?_; rintro e w1 ⟨rfl, hx1⟩)
      go_ret
      exact ⟨rfl, Hxb.out.trans hx1⟩
    · go_enter Try.func4, Try.ntmps4
      go_wp2_with fail
      refine (mesh_Coordinates (hu.ext Hxb.out) hd.out).mono ?_
      rintro e w1 ⟨v1, rfl, hv1, hx1⟩
      have hc1 := (Har.out.ext hx1).cell 0
      simp only [List.getElem?_cons_zero] at hc1
      go_wp2_with fail
      refine (ref51_Coordinates (hu.ext (Hxb.out.trans hx1)) hd.out).mono ?_
      rintro e w2 ⟨v2, rfl, hv2, hx2⟩
      have hx12 := hx1.trans hx2
      have hc2 := (Har.out.ext hx12).cell 0
      simp only [List.getElem?_cons_zero] at hc2
      go_wp2_with fail
      refine (mesh_Device (hu.ext (Hxb.out.trans hx12)) (hv.ext (Hxb.out.trans hx12))).mono ?_
      rintro e w3 ⟨rfl, hx3⟩
      have hx13 := hx12.trans hx3
      have hc3 := (Har.out.ext hx13).cell 0
      simp only [List.getElem?_cons_zero] at hc3
      go_wp2_with fail
      refine (ref51_Device (hu.ext (Hxb.out.trans hx13)) (hv.ext (Hxb.out.trans hx13))).mono ?_
      rintro e w4 ⟨rfl, hx4⟩
      have hx14 := hx13.trans hx4
      have hc4 := (Har.out.ext hx14).cell 0
      simp only [List.getElem?_cons_zero] at hc4
      have hv14 := hv1.ext ((hx2.trans hx3).trans hx4)
      have hv24 := hv2.ext (hx3.trans hx4)
      have Hu4 : Hid (IsInts w4 (.slice a n c) xs) := hu.ext (Hxb.out.trans hx14)
      have Ha4 : Hid (Arr w4 w.heap.size 24 [.slice a n c]) := Har.out.ext hx14
      clear hc1 hc2 hc3
      obtain ⟨r1, hr1⟩ : ∃ r, r = coords xs d := ⟨_, rfl⟩
      obtain ⟨r2, hr2⟩ : ∃ r, r = devAt xs ps := ⟨_, rfl⟩
      rw [← hr1] at hv14 hv24 ⊢
      rw [← hr2]
      go_wp2_with fail
      have hxd := (Ext.refl w4).drew
      have Hu5 : Hid (IsInts w4.drew (.slice a n c) xs) := Hu4.out.ext hxd
      have Ha5 : Hid (Arr w4.drew w.heap.size 24 [.slice a n c]) := Ha4.out.ext hxd
      have H1 := Lib.hid (hv14.ext hxd)
      have H2 := Lib.hid (hv24.ext hxd)
      go_region_held3 (fun w' => w'.cell? ⟨w.heap.size, 0, none⟩ = some (.slice a n c))
        (first | assumption | go_keep)
        (first
          | (go_at_call 29; refine (mesh_Validate Hu5.out).mono ?_; rintro e w5 ⟨rfl, hx5⟩; have hc5 := (Ha5.out.ext hx5).cell 0; simp only [List.getElem?_cons_zero] at hc5)
          | (go_at_call 30; refine (ref51_Validate (Hu5.out.ext hx5)).mono ?_; rintro e w6 ⟨rfl, hx6⟩; have hx46 := hx5.trans hx6; have hc6 := (Ha5.out.ext hx46).cell 0; simp only [List.getElem?_cons_zero] at hc6)
          | (go_at_call 31; refine (mesh_Devices (Hu5.out.ext hx46)).mono ?_; rintro e w7 ⟨rfl, hx7⟩; have hx47 := hx46.trans hx7; have hc7 := (Ha5.out.ext hx47).cell 0; simp only [List.getElem?_cons_zero] at hc7)
          | (go_at_call 32; refine (ref51_Devices (Hu5.out.ext hx47)).mono ?_; rintro e w8 ⟨rfl, hx8⟩; have hx48 := hx47.trans hx8; have hc8 := (Ha5.out.ext hx48).cell 0; simp only [List.getElem?_cons_zero] at hc8)
          | (go_at_call 23; refine (base_Ints (H1.out.ext hx48) (H2.out.ext hx48)).mono ?_; rintro e w9 ⟨rfl, hx9⟩; rw [decide_eq_true rfl]; have hx49 := hx48.trans hx9; have hc9 := (Ha5.out.ext hx49).cell 0; simp only [List.getElem?_cons_zero] at hc9)
          | (go_at_call 24; refine law51_examples.mono ?_; rintro e w10 ⟨rfl, hx10⟩; have hx50 := hx49.trans hx10; have hc10 := (Ha5.out.ext hx50).cell 0; simp only [List.getElem?_cons_zero] at hc10))
      go_wp2
      go_ret
      exact ⟨rfl, ((Hxb.out.trans hx14).trans hxd).trans hx50⟩
end Go.Proofs.Ytcbnnjadgkgheaa
