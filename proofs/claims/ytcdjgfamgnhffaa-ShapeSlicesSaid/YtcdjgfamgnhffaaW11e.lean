/- The walks of shape.Permute and its reference. -/
import Derived.Test.YtcdjgfamgnhffaaW11d
import Derived.Test.YtcdjgfamgnhffaaBase2
import Derived.Test.YtcdjgfamgnhffaaPlain11b
set_option linter.unusedVariables false
set_option linter.unusedSimpArgs false
namespace Go.Proofs.Ytcdjgfamgnhffaa
open Go.RowKit

/-- It returns a slice that reads as r.1, and the number r.2. -/
def RetErr (w : World) (r : List Int × Int) (e : Ending) (w' : World) : Prop := ∃ v, e = .returned (.tuple #[v, .int .i64 r.2]) ∧ IsInts w' v r.1 ∧ Ext w w'

/-- Which of the numbers below m stand in l. -/
def seenL (m : Nat) (l : List Int) : List Value := (List.range m).map fun (i : Nat) => Value.bool (decide ((i : Int) ∈ l))
theorem seenL_nil (m : Nat) : seenL m [] = List.replicate m (.bool false) := by
  apply List.ext_getElem
  · simp [seenL]
  · intro i h1 h2
    simp [seenL]
theorem seenL_get {m : Nat} {l : List Int} {j : Nat} (h : j < m) : (seenL m l)[j]? = some (.bool (decide ((j : Int) ∈ l))) := by simp [seenL, h]
theorem seenL_set {m : Nat} {l : List Int} {j : Nat} : (seenL m l).set j (.bool true) = seenL m (l ++ [(j : Int)]) := by
  apply List.ext_getElem
  · simp [seenL]
  · intro i h1 h2
    rw [List.getElem_set]
    simp only [seenL, List.getElem_map, List.getElem_range, List.mem_append, List.mem_singleton]
    by_cases e : j = i
    · subst e; simp
    · have : ¬ ((i : Int) = (j : Int)) := fun e2 => e (by omega)
      simp [e, this]

theorem out_next {ys : List Int} {k m : Nat} (hl : ys.length = k) (hk : k < m) : ((ys ++ List.replicate (m - k) 0).map (Value.int .i64))[k]? = some (.int .i64 0) := by
  rw [List.getElem?_map, List.getElem?_append_right (by omega), List.getElem?_replicate_of_lt (by omega)]
  rfl

/-- The order's first k are distinct and below n. -/
def Pre (n : Nat) (order : List Int) (k : Nat) : Prop := (order.take k).Nodup ∧ ∀ j, j < k → 0 ≤ order[j]?.getD 0 ∧ order[j]?.getD 0 < n
theorem Pre.zero (n : Nat) (order : List Int) : Pre n order 0 := ⟨by simp, fun j hj => by omega⟩
theorem Pre.succ {n : Nat} {order : List Int} {k : Nat} (h : Pre n order k) (hk : k < order.length) (h1 : 0 ≤ order[k]?.getD 0) (h2 : order[k]?.getD 0 < n) (h3 : order[k]?.getD 0 ∉ order.take k) : Pre n order (k + 1) :=
  ⟨nodup_take_succ hk h.1 h3, fun j hj => by
    by_cases e : j = k
    · subst e; exact ⟨h1, h2⟩
    · exact h.2 j (by omega)⟩
theorem Pre.all {n : Nat} {order : List Int} (h : Pre n order order.length) : OkPerm n order := by
  refine ⟨by simpa using h.1, fun o ho => ?_⟩
  obtain ⟨j, hj, rfl⟩ := List.getElem_of_mem ho
  have := h.2 j hj
  simpa [List.getElem?_eq_getElem hj] using this

set_option maxHeartbeats 2000000 in
theorem shape_Permute {u v : Value} {xs os : List Int} {w : World} (hu : IsInts w u xs) (hv : IsInts w v os) :
    Calls Try.prog 17 #[u, v] w (RetErr w (permute xs os)) := by
  obtain ⟨a, n, c, HN, hnc, rfl, h⟩ := hu.open
  obtain ⟨b, m, d, HM, hmd, rfl, k⟩ := hv.open
  have hix := idx_ints h n c HN
  have hiy := idx_ints k m d HM
  have hl := h.len
  have hm := k.len
  rw [← HN.out] at hl
  rw [← HM.out] at hm
  by_cases h0 : vld xs = 0
  · have h6 : n ≤ 6 := by rw [HN.out]; exact (good_of_vld h0).len
    by_cases hnm : m = n
    · subst hnm
      have HE : Hid (os.length = xs.length) := by show _ = _; rw [← HM.out, HN.out]
      go_enter Try.func17, Try.ntmps17
      go_wp2_with (first
        | (go_at_call 10; refine (shape_Validate hu).mono ?_; rintro e w' ⟨rfl, rfl⟩)
        | (at_make; refine make_ints' rfl _ _ rfl m m m rfl rfl rfl rfl (by omega) ?_; intro w1 g harr hge hext))
      have hs0 := Arr.ext (Arr.new w _ _) hext
      have hs : Arr w1 w.heap.size 40 (seenL 6 (os.take 0)) := by rw [List.take_zero, seenL_nil]; exact hs0
      have hx1 : Ext w w1 := ((Ext.refl w).alloc _).trans hext
      have hgw : w.heap.size < g := by have := hge; simp at this; omega
      clear hs0 hge hext
      go_loopw [26] (fun i wr => ∃ j : Nat, j ≤ m ∧ i = .int .i64 j ∧ Ext w wr ∧ Arr wr w.heap.size 40 (seenL 6 (os.take j)) ∧
          Arr wr g 3 ((pick xs (os.take j) ++ List.replicate (m - j) 0).map (.int .i64)) ∧ Pre m os j) (fun i _ => m - (intOf i).toNat)
      case atStart => exact ⟨0, Nat.zero_le _, rfl, hx1, hs, harr, Pre.zero _ _⟩
      case round =>
        obtain ⟨j, hj, rfl, hx, hsn, har, hpre⟩ := hrel
        by_cases hjm : j < m
        · have Hj : Hid (j < os.length) := by show _ < _; rw [← HM.out]; exact hjm
          have hcell : wr.cell? (adr b j) = some (.int .i64 (os[j]?.getD 0)) := (k.ext hx).cell j Hj.out
          obtain ⟨o, ho⟩ : ∃ o, o = os[j]?.getD 0 := ⟨_, rfl⟩
          rw [← ho] at hcell
          have HO := Lib.hid ho
          clear ho
          by_cases h1 : o < 0
          · have HP : Hid (_ = _) := permute_no h0 (no_range (n := xs.length) Hj.out (.inl (by rw [← HO.out]; exact h1)))
            go_wp2
            go_ret2
            exact ⟨_, by rw [HP.out]; rfl, by rw [HP.out]; exact IsInts.nil wr, hx⟩
          · by_cases h2 : (m : Int) ≤ o
            · have HP : Hid (_ = _) := permute_no h0 (no_range (n := xs.length) Hj.out (.inr (by rw [← HO.out, ← HN.out]; exact h2)))
              go_wp2
              go_ret2
              exact ⟨_, by rw [HP.out]; rfl, by rw [HP.out]; exact IsInts.nil wr, hx⟩
            · obtain ⟨i, rfl⟩ := Int.eq_ofNat_of_zero_le (show 0 ≤ o by omega)
              have him : i < m := by omega
              have hi6 : i < 6 := by omega
              have hsc : wr.cell? ⟨w.heap.size, i, none⟩ = some (.bool (decide ((i : Int) ∈ os.take j))) := by rw [hsn.cell, seenL_get hi6]
              by_cases h3 : (i : Int) ∈ os.take j
              · have HP : Hid (_ = _) := permute_no h0 (no_dup (n := xs.length) Hj.out (by rw [← HO.out]; exact h3))
                rw [decide_eq_true h3] at hsc
                clear h3
                go_wp2
                go_ret2
                exact ⟨_, by rw [HP.out]; rfl, by rw [HP.out]; exact IsInts.nil wr, hx⟩
              · rw [decide_eq_false h3] at hsc
                have H3 := Lib.hid h3
                clear h3
                have hsf := hsn.free i
                have hx2 := hx.setCell (p := ⟨w.heap.size, i, none⟩) (Nat.le_refl _) (.bool true)
                have hac := (h.ext hx2).cell i (by rw [← HN.out]; exact him)
                have har2 := har.far (k := i) (u := .bool true) (g' := w.heap.size) (by omega)
                have hoc := har2.cell j
                rw [out_next (by rw [length_pick, List.length_take]; have := Hj.out; omega) hjm] at hoc
                have hof := har2.free j
                have hsn2 := hsn.store i (.bool true)
                have hx3 := hx2.setCell (p := ⟨g, j, none⟩) (by show w.heap.size ≤ g; omega) (.int .i64 (xs[i]?.getD 0))
                have har3 := har2.store j (.int .i64 (xs[i]?.getD 0))
                have hsn3 := hsn2.far (k := j) (u := .int .i64 (xs[i]?.getD 0)) (g' := g) (by omega)
                have Hx3 := Lib.hid hx3
                have Har3 := Lib.hid har3
                have Hsn3 := Lib.hid hsn3
                clear hx2 hx3 har2 har3 hsn2 hsn3 har hsn
                go_wp2
                go_roundw
                case rel =>
                  refine ⟨j + 1, by omega, by go_num, Hx3.out, ?_, ?_, hpre.succ Hj.out (by rw [← HO.out]; omega) (by rw [← HO.out]; omega) (by rw [← HO.out]; exact H3.out)⟩
                  · have := Hsn3.out
                    rw [seenL_set] at this
                    rw [take_snoc Hj.out, ← HO.out]
                    exact this
                  · have := Har3.out
                    rw [← List.map_set, set_next _ (by rw [length_pick, List.length_take]; have := Hj.out; omega) hjm] at this
                    rw [pick_take_succ Hj.out, ← HO.out]
                    exact this
                case measure => simp [intOf]; omega
        · obtain rfl : j = m := by omega
          have HL : Hid (j = os.length) := HM
          have HP : Hid (_ = _) := permute_yes h0 HE.out (by rw [HE.out.symm]; rw [HL.out] at hpre; exact hpre.all)
          have HT : Hid (os.take j = os) := by show _ = _; rw [HL.out, List.take_length]
          rw [HT.out, Nat.sub_self, List.replicate_zero, List.append_nil] at har
          go_wp2
          go_ret2
          exact ⟨_, by rw [HP.out]; rfl, by rw [HP.out]; exact har.isInts (by rw [length_pick]; exact HL.out) (Nat.le_refl _) (by omega), hx⟩
    · go_enter Try.func17, Try.ntmps17
      have HP : Hid (_ = _) := permute_len h0 (show ¬ os.length = xs.length by rw [← HN.out, ← HM.out]; exact hnm)
      go_wp2_with (go_at_call 10; refine (shape_Validate hu).mono ?_; rintro e w' ⟨rfl, rfl⟩)
      go_ret2
      exact ⟨_, by rw [HP.out]; rfl, by rw [HP.out]; exact IsInts.nil w, Ext.refl w⟩
  · have HP : Hid (_ = _) := permute_bad (order := os) h0
    go_enter Try.func17, Try.ntmps17
    go_wp2_with (go_at_call 10; refine (shape_Validate hu).mono ?_; rintro e w' ⟨rfl, rfl⟩)
    go_ret2
    exact ⟨_, by rw [HP.out]; rfl, by rw [HP.out]; exact IsInts.nil w, Ext.refl w⟩
end Go.Proofs.Ytcdjgfamgnhffaa
