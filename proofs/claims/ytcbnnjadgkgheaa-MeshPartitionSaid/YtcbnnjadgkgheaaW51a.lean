/- The walks of mesh.Validate and its reference. -/
import Derived.Test.YtcbnnjadgkgheaaW09d
set_option linter.unusedVariables false
set_option linter.unusedSimpArgs false
namespace Go.Proofs.Ytcbnnjadgkgheaa
open Go.RowKit

set_option maxHeartbeats 2000000 in
theorem mesh_Validate {u : Value} {xs : List Int} {w : World} (hv : IsInts w u xs) :
    Calls Try.prog 29 #[.agg #[u]] w fun e w' => e = .returned (.int .i64 (vmesh xs)) ∧ Ext w w' := by
  obtain ⟨a, n, c, HN, hnc, rfl, h⟩ := hv.open
  have hix := idx_ints h n c HN
  have hl := h.len
  rw [← HN.out] at hl
  have hxb := (Ext.refl w).alloc (.cells #[.slice a n c] 24)
  have Hxb := Lib.hid hxb
  have HC : Hid (∀ k, k < n → (w.alloc (.cells #[.slice a n c] 24)).cell? (adr a k) = some (.int .i64 (xs[k]?.getD 0))) := fun k hk => (h.ext hxb).cell k (by rw [← HN.out]; exact hk)
  clear hxb
  by_cases h1 : n < 1
  · have HF : Hid (vmesh xs = 23) := vmesh_no (fun hh => by have := hh.1; rw [← HN.out] at this; omega)
    go_enter Try.func29, Try.ntmps29
    go_wp2
    go_ret
    exact ⟨ret_int HF.out.symm, Hxb.out⟩
  · by_cases h3 : 3 < n
    · have HF : Hid (vmesh xs = 23) := vmesh_no (fun hh => by have := hh.2.1; rw [← HN.out] at this; omega)
      go_enter Try.func29, Try.ntmps29
      go_wp2
      go_ret
      exact ⟨ret_int HF.out.symm, Hxb.out⟩
    · go_enter Try.func29, Try.ntmps29
      go_wp2
      go_loop [19, 3] (fun i s => ∃ (k : Nat) (z : Int), k ≤ n ∧ i = .int .i64 k ∧ s = .int .i64 z ∧ Hid (z = prod (xs.take k)) ∧ Hid (∀ j, j < k → 1 ≤ xs[j]?.getD 0 ∧ xs[j]?.getD 0 ≤ 16)) (fun i _ => n - (intOf i).toNat)
      case atStart => exact ⟨0, 1, Nat.zero_le _, rfl, rfl, rfl, fun j hj => by omega⟩
      case round =>
        obtain ⟨k, z, hk, rfl, rfl, hz, hin⟩ := hrel
        by_cases hkn : k < n
        · have Hk : Hid (k < xs.length) := by show _ < _; rw [← HN.out]; exact hkn
          have hcell := HC.out k hkn
          by_cases hx1 : xs[k]?.getD 0 < 1
          · have HF : Hid (vmesh xs = 23) := vmesh_no (fun hh => by have := hh.get Hk.out; omega)
            go_wp2
            go_ret
            exact ⟨ret_int HF.out.symm, Hxb.out⟩
          · by_cases hx2 : 16 < xs[k]?.getD 0
            · have HF : Hid (vmesh xs = 23) := vmesh_no (fun hh => by have := hh.get Hk.out; omega)
              go_wp2
              go_ret
              exact ⟨ret_int HF.out.symm, Hxb.out⟩
            · have Hin : Hid (∀ j, j < k + 1 → 1 ≤ xs[j]?.getD 0 ∧ xs[j]?.getD 0 ≤ 16) := fun j hj => by
                by_cases e : j = k
                · subst e; omega
                · exact hin.out j (by omega)
              have hb := prod_take_4096 (xs := xs) (k := k + 1) (by have := Hk.out; omega) (by omega) Hin.out
              have hz' : z * xs[k]?.getD 0 = prod (xs.take (k + 1)) := by rw [prod_take_succ Hk.out, hz.out]
              rw [← hz'] at hb
              have Hz := Lib.hid hz'
              clear hz'
              obtain ⟨hb1, hb2⟩ := hb
              go_wp2
              go_round
              case rel => exact ⟨k + 1, _, by omega, by go_num, rfl, Hz, Hin⟩
              case measure => simp [intOf]; omega
        · have HA : Hid (∀ x ∈ xs, 1 ≤ x ∧ x ≤ 16) := all16_of_get HN.out fun j hj => hin.out j (by omega)
          have HZ : Hid (z = prod xs) := by rw [Hid, hz.out, List.take_of_length_le (by rw [← HN.out]; omega)]
          by_cases h16 : 16 < z
          · have HF : Hid (vmesh xs = 23) := vmesh_no (fun hh => by have := hh.2.2.2; rw [← HZ.out] at this; omega)
            go_wp2
            go_ret
            exact ⟨ret_int HF.out.symm, Hxb.out⟩
          · have HF : Hid (vmesh xs = 0) := vmesh_yes ⟨by rw [← HN.out]; omega, by rw [← HN.out]; omega, HA.out, by rw [← HZ.out]; omega⟩
            go_wp2
            go_ret
            exact ⟨ret_int HF.out.symm, Hxb.out⟩

set_option maxHeartbeats 2000000 in
theorem ref51_Validate {u : Value} {xs : List Int} {w : World} (hv : IsInts w u xs) :
    Calls Try.prog 30 #[.agg #[u]] w fun e w' => e = .returned (.int .i64 (vmesh xs)) ∧ Ext w w' := by
  obtain ⟨a, n, c, HN, hnc, rfl, h⟩ := hv.open
  have hix := idx_ints h n c HN
  have hl := h.len
  rw [← HN.out] at hl
  have hxb := (Ext.refl w).alloc (.cells #[.slice a n c] 24)
  have Hxb := Lib.hid hxb
  have HC : Hid (∀ k, k < n → (w.alloc (.cells #[.slice a n c] 24)).cell? (adr a k) = some (.int .i64 (xs[k]?.getD 0))) := fun k hk => (h.ext hxb).cell k (by rw [← HN.out]; exact hk)
  clear hxb
  by_cases h1 : n < 1
  · have HF : Hid (vmesh xs = 23) := vmesh_no (fun hh => by have := hh.1; rw [← HN.out] at this; omega)
    go_enter Try.func30, Try.ntmps30
    go_wp2
    go_ret
    exact ⟨ret_int HF.out.symm, Hxb.out⟩
  · by_cases h3 : 3 < n
    · have HF : Hid (vmesh xs = 23) := vmesh_no (fun hh => by have := hh.2.1; rw [← HN.out] at this; omega)
      go_enter Try.func30, Try.ntmps30
      go_wp2
      go_ret
      exact ⟨ret_int HF.out.symm, Hxb.out⟩
    · go_enter Try.func30, Try.ntmps30
      go_wp2
      go_loop [4, 3] (fun i s => ∃ (k : Nat) (z : Int), k ≤ n ∧ i = .int .i64 k ∧ s = .int .i64 z ∧ Hid (z = prod (xs.take k)) ∧ Hid (∀ j, j < k → 1 ≤ xs[j]?.getD 0 ∧ xs[j]?.getD 0 ≤ 16)) (fun i _ => n - (intOf i).toNat)
      case atStart => exact ⟨0, 1, Nat.zero_le _, rfl, rfl, rfl, fun j hj => by omega⟩
      case round =>
        obtain ⟨k, z, hk, rfl, rfl, hz, hin⟩ := hrel
        by_cases hkn : k < n
        · have Hk : Hid (k < xs.length) := by show _ < _; rw [← HN.out]; exact hkn
          have hcell := HC.out k hkn
          by_cases hx1 : xs[k]?.getD 0 < 1
          · have HF : Hid (vmesh xs = 23) := vmesh_no (fun hh => by have := hh.get Hk.out; omega)
            go_wp2
            go_ret
            exact ⟨ret_int HF.out.symm, Hxb.out⟩
          · by_cases hx2 : 16 < xs[k]?.getD 0
            · have HF : Hid (vmesh xs = 23) := vmesh_no (fun hh => by have := hh.get Hk.out; omega)
              go_wp2
              go_ret
              exact ⟨ret_int HF.out.symm, Hxb.out⟩
            · have Hin : Hid (∀ j, j < k + 1 → 1 ≤ xs[j]?.getD 0 ∧ xs[j]?.getD 0 ≤ 16) := fun j hj => by
                by_cases e : j = k
                · subst e; omega
                · exact hin.out j (by omega)
              have hb := prod_take_4096 (xs := xs) (k := k + 1) (by have := Hk.out; omega) (by omega) Hin.out
              have hz' : z * xs[k]?.getD 0 = prod (xs.take (k + 1)) := by rw [prod_take_succ Hk.out, hz.out]
              rw [← hz'] at hb
              have Hz := Lib.hid hz'
              clear hz'
              obtain ⟨hb1, hb2⟩ := hb
              go_wp2
              go_round
              case rel => exact ⟨k + 1, _, by omega, by go_num, rfl, Hz, Hin⟩
              case measure => simp [intOf]; omega
        · have HA : Hid (∀ x ∈ xs, 1 ≤ x ∧ x ≤ 16) := all16_of_get HN.out fun j hj => hin.out j (by omega)
          have HZ : Hid (z = prod xs) := by rw [Hid, hz.out, List.take_of_length_le (by rw [← HN.out]; omega)]
          by_cases h16 : 16 < z
          · have HF : Hid (vmesh xs = 23) := vmesh_no (fun hh => by have := hh.2.2.2; rw [← HZ.out] at this; omega)
            go_wp2
            go_ret
            exact ⟨ret_int HF.out.symm, Hxb.out⟩
          · have HF : Hid (vmesh xs = 0) := vmesh_yes ⟨by rw [← HN.out]; omega, by rw [← HN.out]; omega, HA.out, by rw [← HZ.out]; omega⟩
            go_wp2
            go_ret
            exact ⟨ret_int HF.out.symm, Hxb.out⟩
end Go.Proofs.Ytcbnnjadgkgheaa
