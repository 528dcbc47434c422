/- The walk of the law MeshRoundTrip. -/
import Derived.Test.YtcbnnjadgkgheaaL51b
set_option linter.unusedVariables false
set_option linter.unusedSimpArgs false
namespace Go.Proofs.Ytcbnnjadgkgheaa
open Go.RowKit

/-- The point ahead of number j, none ahead of the first. -/
def prev (xs : List Int) (j : Nat) : List Int := if j = 0 then [] else pointOf xs ((j : Int) - 1)
theorem prev_zero (xs : List Int) : prev xs 0 = [] := rfl
theorem prev_succ (xs : List Int) (j : Nat) : prev xs (j + 1) = pointOf xs (j : Int) := by
  rw [prev, if_neg (by omega)]
  congr 1
  omega
/-- Equal as far as k. -/
def Agree (p q : List Int) (k : Nat) : Prop := ∀ j, j < k → p[j]?.getD 0 = q[j]?.getD 0
theorem Agree.succ {p q : List Int} {k : Nat} (h : Agree p q k) (h1 : p[k]?.getD 0 = q[k]?.getD 0) : Agree p q (k + 1) := fun j hj => by
  by_cases e : j = k
  · subst e; exact h1
  · exact h j (by omega)
theorem rankTo_agree {xs p q : List Int} : ∀ k, Agree p q k → rankTo xs p k = rankTo xs q k
  | 0, _ => rfl
  | k + 1, h => by rw [rankTo, rankTo, rankTo_agree k (fun j hj => h j (by omega)), h k (by omega)]
theorem lex_le {xs : List Int} (hpos : ∀ x ∈ xs, 1 ≤ x) {c d : Int} (h0 : 0 ≤ c) (hcd : c ≤ d) (h1 : d < prod xs) {t : Nat} (ht : t < xs.length) (h : Agree (pointOf xs c) (pointOf xs d) t) :
    (pointOf xs c)[t]?.getD 0 ≤ (pointOf xs d)[t]?.getD 0 := by
  have e1 := rankTo_point hpos h0 (show c < prod xs by omega) (t + 1) (by omega)
  have e2 := rankTo_point hpos (show 0 ≤ d by omega) h1 (t + 1) (by omega)
  rw [rankTo] at e1 e2
  rw [rankTo_agree t h] at e1
  have hp := prod_pos (xs.drop (t + 1)) fun x hx => hpos x (List.mem_of_mem_drop hx)
  have := Int.ediv_le_ediv (c := prod (xs.drop (t + 1))) (by omega) hcd
  omega
theorem lex_ne {xs : List Int} (hpos : ∀ x ∈ xs, 1 ≤ x) {c d : Int} (h0 : 0 ≤ c) (hcd : c < d) (h1 : d < prod xs) : ¬ Agree (pointOf xs c) (pointOf xs d) xs.length := by
  intro h
  have e1 := rank_point hpos h0 (show c < prod xs by omega)
  have e2 := rank_point hpos (show 0 ≤ d by omega) h1
  rw [rank, rankTo_agree _ h] at e1
  rw [rank] at e2
  omega

set_option maxRecDepth 100000 in
set_option maxHeartbeats 8000000 in
theorem MeshRoundTrip_walk {u : Value} {xs : List Int} {w : World} (hu : IsInts w u xs) (_ : Rng xs) :
    Calls Try.prog 6 #[.agg #[u]] w (LawPost w) := by
  obtain ⟨a, n, c, HN, hnc, rfl, h⟩ := hu.open
  have Hxb : Hid (Ext w (w.alloc (.cells #[.slice a n c] 24))) := (Ext.refl w).alloc _
  have Har : Hid (Arr (w.alloc (.cells #[.slice a n c] 24)) w.heap.size 24 [.slice a n c]) := Arr.new w #[.slice a n c] _
  by_cases h20 : 20 < n
  · go_enter Try.func6, Try.ntmps6
    go_wp2_with (go_at_call 24; refine law51_examples.mono ?_; rintro e w1 ⟨rfl, hx1⟩)
    go_ret
    exact ⟨rfl, Hxb.out.trans hx1⟩
  · by_cases hm : MeshOk xs
    · have HM0 := Lib.hid hm
      have hv0 := vmesh_yes hm
      have hg := hm.posB
      have h3 : n ≤ 3 := by rw [HN.out]; exact hm.2.1
      have HDV : Hid (devices xs = prod xs) := devices_yes hm
      have hp1 := prod_pos xs hg.pos
      have hp2 := hg.le
      obtain ⟨D, hD⟩ : ∃ D : Nat, prod xs = D := ⟨(prod xs).toNat, by omega⟩
      have HD := Lib.hid hD
      rw [hD] at hp1 hp2 HDV
      clear hD hm
      go_enter Try.func6, Try.ntmps6
      go_wp2_with fail
      refine (mesh_Validate (hu.ext Hxb.out)).mono ?_
      rintro e w1 ⟨rfl, hx1⟩
      have hcb1 := (Har.out.ext hx1).cell 0
      simp only [List.getElem?_cons_zero] at hcb1
      rw [hv0]
      clear hv0
      go_wp2
      go_loopw [4, 3] (fun i s wr => ∃ (j : Nat), j ≤ D ∧ i = .int .i64 j ∧ Ext w1 wr ∧ IsInts wr s (prev xs j)) (fun i _ _ => D - (intOf i).toNat)
      case atStart => exact ⟨0, Nat.zero_le _, rfl, Ext.refl _, IsInts.nil _⟩
      case round =>
        obtain ⟨j, hj, rfl, hx, hl⟩ := hrel
        have hxw := (Hxb.out.trans hx1).trans hx
        have hcbr := (Har.out.ext (hx1.trans hx)).cell 0
        simp only [List.getElem?_cons_zero] at hcbr
        obtain ⟨al, nl, cl, HL, hlc, rfl, kl⟩ := hl.open
        have hil := idx_ints kl nl cl HL
        by_cases hjD : j < D
        · have hjp : (j : Int) < prod xs := by rw [HD.out]; omega
          have Hjp := Lib.hid hjp
          have HC : Hid (coords xs (j : Int) = (pointOf xs j, true)) := coords_in (by rw [HDV.out]; omega)
          have HDA : Hid (devAt xs (pointOf xs (j : Int)) = ((j : Int), true)) := by
            show _ = _
            rw [devAt_in ⟨HM0.out, pointOf_in hg.pos _⟩, rank_point hg.pos (by omega) hjp]
          clear hjp
          go_wp2_with fail
          refine (mesh_Devices (hu.ext hxw)).mono ?_
          rintro e w2 ⟨rfl, hx2⟩
          rw [HDV.out]
          have hcb2 := (Har.out.ext ((hx1.trans hx).trans hx2)).cell 0
          simp only [List.getElem?_cons_zero] at hcb2
          go_wp2_with fail
          refine (mesh_Coordinates (hu.ext (hxw.trans hx2)) (by omega)).mono ?_
          rintro e w3 ⟨v3, rfl, hv3, hx3⟩
          rw [HC.out] at hv3 ⊢
          have hx23 := hx2.trans hx3
          have hcb3 := (Har.out.ext ((hx1.trans hx).trans hx23)).cell 0
          simp only [List.getElem?_cons_zero] at hcb3
          go_wp2_with fail
          refine (mesh_Device (hu.ext (hxw.trans hx23)) hv3).mono ?_
          rintro e w4 ⟨rfl, hx4⟩
          rw [HDA.out]
          have hx24 := hx23.trans hx4
          have hcb4 := (Har.out.ext ((hx1.trans hx).trans hx24)).cell 0
          simp only [List.getElem?_cons_zero] at hcb4
          obtain ⟨b3, m3, c3, HM3, hmc3, rfl, k3⟩ := hv3.open
          obtain rfl : m3 = n := by rw [HM3.out, length_pointOf, ← HN.out]
          have hiz := idx_ints k3 m3 c3 HM3
          have HX : Hid (Ext w1 w4) := hx.trans hx24
          have K3 := Lib.hid (k3.ext hx4)
          have KL := Lib.hid (kl.ext hx24)
          have HV3 := Lib.hid (hv3.ext hx4)
          have hnl : nl ≤ m3 := by
            rw [HL.out, prev]
            split
            · simp
            · rw [length_pointOf, ← HN.out]; exact Nat.le_refl _
          go_wp2
          go_loopw [9] (fun i wr2 => ∃ (t : Nat), t ≤ nl ∧ i = .int .i64 t ∧ Hid (Agree (prev xs j) (pointOf xs j) t) ∧ Ext w4 wr2) (fun i _ => nl - (intOf i).toNat)
          case atStart => exact ⟨0, Nat.zero_le _, rfl, fun i hi => by omega, Ext.refl _⟩
          case round =>
            obtain ⟨t, ht, rfl, hag, hx5⟩ := hrel
            by_cases htl : t < nl
            · have htn : t < m3 := by omega
              have Ht : Hid (t < xs.length) := by show _ < _; rw [← HN.out]; exact htn
              have hc1 := (KL.out.ext hx5).cell t (by rw [← HL.out]; exact htl)
              have hc2 := (K3.out.ext hx5).cell t (by rw [length_pointOf]; exact Ht.out)
              by_cases he : (prev xs j)[t]?.getD 0 = (pointOf xs j)[t]?.getD 0
              · have hb : ((prev xs j)[t]?.getD 0 == (pointOf xs j)[t]?.getD 0) = true := beq_iff_eq.2 he
                have HA : Hid (Agree (prev xs j) (pointOf xs j) (t + 1)) := hag.out.succ he
                clear he
                go_wp2
                go_quiet (fail)
                go_wp2
                go_roundw
                case rel => exact ⟨t + 1, by omega, by go_num, HA, hx5.drewN _⟩
                case measure => simp [intOf]; omega
              · have hb : ((prev xs j)[t]?.getD 0 == (pointOf xs j)[t]?.getD 0) = false := beq_eq_false_iff_ne.2 he
                have hj0 : 0 < j := Nat.pos_of_ne_zero fun e => by
                  subst e
                  have := HL.out
                  rw [prev_zero] at this
                  simp at this
                  omega
                have hle : (prev xs j)[t]?.getD 0 ≤ (pointOf xs (j : Int))[t]?.getD 0 := by
                  have hag' := hag.out
                  rw [prev, if_neg (by omega)] at hag' ⊢
                  exact lex_le hg.pos (by omega) (by omega) Hjp.out Ht.out hag'
                obtain ⟨A, hA⟩ : ∃ A : Int, (prev xs j)[t]?.getD 0 = A := ⟨_, rfl⟩
                obtain ⟨B, hB⟩ : ∃ B : Int, (pointOf xs j)[t]?.getD 0 = B := ⟨_, rfl⟩
                rw [hA] at hb hc1 hle
                rw [hB] at hb hc2 hle
                have hgt : decide (B < A) = false := decide_eq_false (by omega)
                have htb : ((t : Int) == (nl : Int)) = false := beq_eq_false_iff_ne.2 (by omega)
                have hj1 : decide ((0 : Int) < (j : Int)) = true := decide_eq_true (by omega)
                have hj2 : decide (0 < j) = true := decide_eq_true hj0
                have hj3 : (0 : Int) < (j : Int) := by omega
                clear he hle hA hB
                go_wp2
                go_quiet (fail)
                go_wp2
                go_quiet (fail)
                go_wp2
                go_roundw
                case rel => exact ⟨j + 1, by omega, by go_num, HX.out.trans (hx5.drewN _), by rw [prev_succ]; exact HV3.out.ext (hx5.drewN _)⟩
                case measure => simp [intOf]; omega
            · have htb : decide (t < nl) = false := decide_eq_false htl
              have htb2 : decide ((t : Int) < (nl : Int)) = false := decide_eq_false (by omega)
              cases j with
              | zero =>
                have hj0 : decide ((0 : Int) < ((0 : Nat) : Int)) = false := by decide
                go_wp2
                go_quiet (fail)
                go_wp2
                go_quiet (fail)
                go_wp2
                go_roundw
                case rel => exact ⟨0 + 1, by omega, by go_num, HX.out.trans (hx5.drewN _), by rw [prev_succ]; exact HV3.out.ext (hx5.drewN _)⟩
                case measure => simp [intOf]; omega
              | succ j =>
                exfalso
                have hnn : nl = xs.length := by rw [HL.out, prev_succ, length_pointOf]
                obtain rfl : t = nl := by omega
                have := hag.out
                rw [prev_succ, hnn] at this
                exact lex_ne hg.pos (by omega) (by omega) Hjp.out this
        · go_wp2_with fail
          refine (mesh_Devices (hu.ext hxw)).mono ?_
          rintro e w2 ⟨rfl, hx2⟩
          rw [HDV.out]
          have hcb2 := (Har.out.ext ((hx1.trans hx).trans hx2)).cell 0
          simp only [List.getElem?_cons_zero] at hcb2
          go_wp2_with fail
          refine (mesh_Devices (hu.ext (hxw.trans hx2))).mono ?_
          rintro e w3 ⟨rfl, hx3⟩
          rw [HDV.out]
          go_wp2_with (go_at_call 24; refine law51_examples.mono ?_; rintro e w4 ⟨rfl, hx4⟩)
          go_ret
          exact ⟨rfl, ((hxw.trans hx2).trans hx3).trans hx4⟩
    · have hv0 := vmesh_no hm
      clear hm
      go_enter Try.func6, Try.ntmps6
      go_wp2_with fail
      refine (mesh_Validate (hu.ext Hxb.out)).mono ?_
      rintro e w1 ⟨rfl, hx1⟩
      rw [hv0]
      go_wp2_with (go_at_call 24; refine law51_examples.mono ?_; rintro e w2 ⟨rfl, hx2⟩)
      go_ret
      exact ⟨rfl, (Hxb.out.trans hx1).trans hx2⟩
end Go.Proofs.Ytcbnnjadgkgheaa
