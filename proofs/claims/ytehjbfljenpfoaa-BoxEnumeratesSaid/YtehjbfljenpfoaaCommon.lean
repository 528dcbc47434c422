/- What several layers' walks share: brocadebase.Ints, slices.Clone, what calls return. -/
import Derived.Test.YtehjbfljenpfoaaBase2
import Derived.Test.YtehjbfljenpfoaaPlain11c
set_option linter.unusedVariables false
set_option linter.unusedSimpArgs false
namespace Go.Proofs.Ytehjbfljenpfoaa
open Go.RowKit

theorem drewN_add (w : World) (N M : Nat) : (w.drewN N).drewN M = w.drewN (N + M) := World.drewN_drewN ..

theorem set_fill {α : Type} (k : Nat) (x y : α) (l : List α) : (List.replicate (k + 1) x ++ l).set k y = List.replicate k x ++ y :: l := by
 rw [List.replicate_succ', List.append_assoc, List.set_append_right _ _ (by simp)]
 simp

def RetErr (w : World) (r : List Int × Int) (e : Ending) (w' : World) : Prop := ∃ v, e = .returned (.tuple #[v, .int .i64 r.2]) ∧ IsInts w' v r.1 ∧ Ext w w'

def RetOk (w : World) (r : List Int × Bool) (e : Ending) (w' : World) : Prop := ∃ v, e = .returned (.tuple #[v, .bool r.2]) ∧ IsInts w' v r.1 ∧ Ext w w'
theorem coord_div {xs : List Int} {at' z : Int} {k : Nat} (hz : z = at' / prod (xs.drop (k + 1))) : z % xs[k]?.getD 0 = coord xs at' k := by rw [hz]; rfl

def InTo (xs ps : List Int) (k : Nat) : Prop := ∀ j, j < k → 0 ≤ ps[j]?.getD 0 ∧ ps[j]?.getD 0 < xs[j]?.getD 0
theorem InTo.zero (xs ps : List Int) : InTo xs ps 0 := fun j hj => by omega
theorem InTo.succ {xs ps : List Int} {k : Nat} (h : InTo xs ps k) (h1 : 0 ≤ ps[k]?.getD 0) (h2 : ps[k]?.getD 0 < xs[k]?.getD 0) : InTo xs ps (k + 1) := fun j hj => by
 by_cases e : j = k
 ·subst e; exact ⟨h1, h2⟩
 ·exact h j (by omega)

theorem eq_of_get {xs ys : List Int} {n : Nat} (h1 : n = xs.length) (h2 : n = ys.length) (h : ∀ j, j < n → xs[j]?.getD 0 = ys[j]?.getD 0) : xs = ys := by
 apply List.ext_getElem (by omega)
 intro j hj hj'
 have := h j (by omega)
 simpa [List.getElem?_eq_getElem hj, List.getElem?_eq_getElem hj'] using this

set_option maxHeartbeats 1000000 in
theorem base_Ints_same {u v : Value} {xs ys : List Int} {w : World} (hu : IsInts w u xs) (hv : IsInts w v ys) :
  Calls Try.prog 8 #[u, v] w fun e w' => e = .returned (.bool (decide (xs = ys))) ∧ ∃ N, w' = w.drewN N := by
 obtain ⟨a, n, c, HN, hnc, rfl, h⟩ := hu.open
 obtain ⟨b, m, d, HM, hmd, rfl, k⟩ := hv.open
 have hix := idx_ints h n c HN
 have hiy := idx_ints k m d HM
 have hl := h.len
 have hm := k.len
 have HC : Hid (∀ k, k < n → w.cell? (adr a k) = some (.int .i64 (xs[k]?.getD 0))) := by have := h.cell; rw [← HN.out] at this; exact this
 have HD : Hid (∀ j, j < m → w.cell? (adr b j) = some (.int .i64 (ys[j]?.getD 0))) := by have := k.cell; rw [← HM.out] at this; exact this
 rw [← HN.out] at hl
 rw [← HM.out] at hm
 by_cases hnm : n = m
 ·subst hnm
  go_enter Try.func8, Try.ntmps8
  go_wp2
  go_loopw [5] (fun i wr => ∃ (k : Nat), k ≤ n ∧ i = .int .i64 k ∧ (∃ N, wr = w.drewN N) ∧ Hid (∀ j, j < k → xs[j]?.getD 0 = ys[j]?.getD 0)) (fun i _ => n - (intOf i).toNat)
  case atStart => exact ⟨0, Nat.zero_le _, rfl, ⟨0, rfl⟩, fun j hj => by omega⟩
  case round =>
   obtain ⟨k, hk, rfl, hdr, hq⟩ := hrel
   obtain ⟨N, rfl⟩ := hdr
   have hx := (Ext.refl w).drewN N
   by_cases hkn : k < n
   ·have hcell := HC.out k hkn
    have hcell2 := HD.out k hkn
    by_cases he : xs[k]?.getD 0 = ys[k]?.getD 0
    ·go_wp2
     go_quiet (fail)
     go_wp2
     go_roundw
     case rel => exact ⟨k + 1, by omega, by go_num, (by first | exact ⟨_, rfl⟩ | exact ⟨_, drewN_add w N _⟩), fun j hj => by
      by_cases e : j = k
      ·subst e; exact he
      ·exact hq.out j (by omega)⟩
     case measure => simp [intOf]; omega
    ·go_wp2
     go_quiet (fail)
     go_wp2
     go_ret
     refine ⟨ret_bool (decide_eq_false (fun e => he (by rw [e]))).symm, (by first | exact ⟨_, rfl⟩ | exact ⟨_, drewN_add w N _⟩)⟩
   ·go_wp2
    go_ret
    refine ⟨ret_bool (decide_eq_true (eq_of_get HN.out HM.out fun j hj => hq.out j (by omega))).symm, ⟨N, rfl⟩⟩
 ·go_enter Try.func8, Try.ntmps8
  go_wp2
  go_ret
  exact ⟨ret_bool (decide_eq_false (fun e => hnm (by rw [HN.out, HM.out, e]))).symm, ⟨0, rfl⟩⟩
theorem base_Ints {u v : Value} {xs ys : List Int} {w : World} (hu : IsInts w u xs) (hv : IsInts w v ys) :
  Calls Try.prog 8 #[u, v] w fun e w' => e = .returned (.bool (decide (xs = ys))) ∧ Ext w w' :=
 (base_Ints_same hu hv).mono fun e w' ⟨he, N, hw⟩ => ⟨he, by rw [hw]; exact (Ext.refl w).drewN N⟩

def RetOwn (w : World) (ys : List Int) (e : Ending) (w' : World) : Prop := ∃ v, e = .returned v ∧ Own w' w.heap.size v ys ∧ Ext w w'

theorem ints_lit {w : World} {xs : List Int} (h : xs.length ≤ 9223372036854775807) : IsInts (w.alloc (.cells (xs.map (Value.int .i64)).toArray 3)) (.slice (some ⟨w.heap.size, 0, none⟩) xs.length xs.length) xs := by
 have := World.ownsRow_lit (e := 3) (size := 1) (base := w.heap.size) w (xs.map (Value.int .i64)).toArray xs.length (Nat.le_refl _) (by unfold maxLen; omega) (by simp)
 simp only [List.toList_toArray] at this
 exact Own.isInts this h

end Go.Proofs.Ytehjbfljenpfoaa
