/- Plain laws for permuting a shape (layer 11): no program in sight. -/
import Derived.Test.YtehjbfljenpfoaaPlain11
set_option linter.unusedVariables false
set_option linter.unusedSimpArgs false
namespace Go.Proofs.Ytehjbfljenpfoaa

def OkPerm (n : Nat) (order : List Int) : Prop := order.Nodup ∧ ∀ o ∈ order, 0 ≤ o ∧ o < n
instance (n : Nat) (order : List Int) : Decidable (OkPerm n order) := by unfold OkPerm; infer_instance
def pick (xs : List Int) (order : List Int) : List Int := order.map fun o => xs[o.toNat]?.getD 0
def permute (xs order : List Int) : List Int × Int :=
 if vld xs = 0 then if order.length = xs.length ∧ OkPerm xs.length order then (pick xs order, 0) else ([], 1) else ([], vld xs)

theorem permute_bad {xs order : List Int} (h : ¬ vld xs = 0) : permute xs order = ([], vld xs) := by rw [permute, if_neg h]
theorem permute_len {xs order : List Int} (h : vld xs = 0) (h1 : ¬ order.length = xs.length) : permute xs order = ([], 1) := by rw [permute, if_pos h, if_neg (fun h2 => h1 h2.1)]
theorem permute_no {xs order : List Int} (h : vld xs = 0) (h1 : ¬ OkPerm xs.length order) : permute xs order = ([], 1) := by rw [permute, if_pos h, if_neg (fun h2 => h1 h2.2)]
theorem permute_yes {xs order : List Int} (h : vld xs = 0) (h0 : order.length = xs.length) (h1 : OkPerm xs.length order) : permute xs order = (pick xs order, 0) := by rw [permute, if_pos h, if_pos ⟨h0, h1⟩]

theorem get_mem {l : List Int} {k : Nat} (hk : k < l.length) : l[k]?.getD 0 ∈ l := by
 rw [List.getElem?_eq_getElem hk]
 exact List.getElem_mem hk
theorem take_snoc {l : List Int} {k : Nat} (hk : k < l.length) : l.take (k + 1) = l.take k ++ [l[k]?.getD 0] := by
 rw [List.take_succ_eq_append_getElem hk]
 simp [List.getElem?_eq_getElem hk]
theorem no_range {n : Nat} {order : List Int} {k : Nat} (hk : k < order.length) (h : order[k]?.getD 0 < 0 ∨ n ≤ order[k]?.getD 0) : ¬ OkPerm n order := by
 intro h2
 have := h2.2 _ (get_mem hk)
 omega
theorem nodup_take_succ {order : List Int} {k : Nat} (hk : k < order.length) (h : (order.take k).Nodup) (h2 : order[k]?.getD 0 ∉ order.take k) : (order.take (k + 1)).Nodup := by
 rw [take_snoc hk, List.nodup_append]
 refine ⟨h, by simp, ?_⟩
 intro a ha b hb
 simp at hb
 subst hb
 intro e
 subst e
 exact h2 ha
theorem no_dup {n : Nat} {order : List Int} {k : Nat} (hk : k < order.length) (h : order[k]?.getD 0 ∈ order.take k) : ¬ OkPerm n order := by
 intro h2
 have h3 : (order.take (k + 1)).Nodup := List.Sublist.nodup (List.take_sublist _ _) h2.1
 rw [take_snoc hk, List.nodup_append] at h3
 exact h3.2.2 _ h _ (by simp) rfl

theorem pick_take_succ {xs order : List Int} {k : Nat} (hk : k < order.length) : pick xs (order.take (k + 1)) = pick xs (order.take k) ++ [xs[(order[k]?.getD 0).toNat]?.getD 0] := by
 rw [take_snoc hk, pick, List.map_append]
 rfl
theorem set_next {l : List Int} {n k : Nat} (x : Int) (hl : l.length = k) (hk : k < n) : (l ++ List.replicate (n - k) 0).set k x = (l ++ [x]) ++ List.replicate (n - (k + 1)) 0 := by
 subst hl
 rw [List.set_append_right _ _ (Nat.le_refl _), Nat.sub_self, show n - l.length = (n - (l.length + 1)) + 1 from by omega, List.replicate_succ]
 simp
theorem length_pick (xs order : List Int) : (pick xs order).length = order.length := by simp [pick]

theorem nodup_le : ∀ (n : Nat) (l : List Int), l.Nodup → (∀ x ∈ l, 0 ≤ x ∧ x < n) → l.length ≤ n
 |0, l, _, h => by
  cases l with
  | nil => simp
  | cons x r => have := h x (by simp); omega
 |n + 1, l, hd, h => by
  have h1 : (l.erase (n : Int)).length ≤ n := by
   refine nodup_le n _ (hd.erase _) fun x hx => ?_
   have hne : x ≠ (n : Int) := fun e => by subst e; exact (List.Nodup.not_mem_erase hd) hx
   have := h x (List.mem_of_mem_erase hx)
   omega
  have := List.length_erase_of_mem (a := (n : Int)) (l := l)
  by_cases hm : (n : Int) ∈ l
  ·have := List.length_erase_of_mem hm; omega
  ·rw [List.erase_of_not_mem hm] at h1; omega
theorem perm_onto {n : Nat} {order : List Int} (h : OkPerm n order) (hl : order.length = n) (i : Nat) (hi : i < n) : (i : Int) ∈ order := by
 refine Classical.byContradiction fun hn => ?_
 have := nodup_le n ((i : Int) :: order) (List.nodup_cons.2 ⟨hn, h.1⟩) fun x hx => by
  cases List.mem_cons.1 hx with
  | inl e => subst e; omega
  | inr e => exact h.2 x e
 simp at this
 omega
theorem perm_range {n : Nat} {order : List Int} (h : OkPerm n order) (hl : order.length = n) : order.Perm ((List.range n).map fun (i : Nat) => (i : Int)) := by
 refine (List.perm_ext_iff_of_nodup h.1 ?_).2 fun a => ?_
 ·refine List.Pairwise.map _ ?_ (List.nodup_range (n := n))
  intro a b hab e
  exact hab (by exact_mod_cast e)
 ·constructor
  ·intro ha
   have := h.2 a ha
   exact List.mem_map.2 ⟨a.toNat, by simp; omega, by omega⟩
  ·intro ha
   obtain ⟨i, hi, rfl⟩ := List.mem_map.1 ha
   exact perm_onto h hl i (by simpa using hi)
theorem pick_range (xs : List Int) : pick xs ((List.range xs.length).map fun (i : Nat) => (i : Int)) = xs := by
 apply List.ext_getElem
 ·simp [pick]
 ·intro i h1 h2
  simp [pick, List.getElem?_eq_getElem h2]
theorem pick_perm {xs order : List Int} (h : OkPerm xs.length order) (hl : order.length = xs.length) : (pick xs order).Perm xs := by
 have := (perm_range h hl).map fun o => xs[o.toNat]?.getD 0
 rw [show ((List.range xs.length).map fun (i : Nat) => (i : Int)).map (fun o => xs[o.toNat]?.getD 0) = xs from pick_range xs] at this
 exact this
theorem prod_perm {xs ys : List Int} (h : xs.Perm ys) : prod xs = prod ys := by
 induction h with
 | nil => rfl
 | cons x _ ih => simp [prod, ih]
 | swap x y l => simp only [prod]; rw [← Int.mul_assoc, ← Int.mul_assoc, Int.mul_comm x y]
 | trans _ _ h1 h2 => exact h1.trans h2
theorem Good.perm {xs ys : List Int} (h : Good xs) (hp : ys.Perm xs) : Good ys :=
 ⟨by rw [hp.length_eq]; exact h.len, fun x hx => h.pos x (hp.mem_iff.1 hx), by rw [prod_perm hp]; exact h.le⟩

theorem nodup_inj {l : List Int} (h : l.Nodup) {i j : Nat} (hi : i < l.length) (hj : j < l.length) (e : l[i] = l[j]) : i = j := by
 rw [List.nodup_iff_pairwise_ne, List.pairwise_iff_getElem] at h
 rcases Nat.lt_trichotomy i j with h1 | h1 | h1
 ·exact absurd e (h i j hi hj h1)
 ·exact h1
 ·exact absurd e.symm (h j i hj hi h1)
def Undoes (order back : List Int) (k : Nat) : Prop := back.length = order.length ∧ ∀ j, j < k → back[(order[j]?.getD 0).toNat]?.getD 0 = j
theorem undoes_step {order back : List Int} {k : Nat} (h : OkPerm order.length order) (hk : k < order.length) (hb : Undoes order back k) : Undoes order (back.set (order[k]?.getD 0).toNat k) (k + 1) := by
 refine ⟨by rw [List.length_set]; exact hb.1, fun j hj => ?_⟩
 have hr := h.2 _ (get_mem hk)
 by_cases e : j = k
 ·subst e
  rw [List.getElem?_set_self (by rw [hb.1]; omega)]
  rfl
 ·have hjk : j < k := by omega
  have hr2 := h.2 _ (get_mem (show j < order.length by omega))
  rw [List.getElem?_set_ne, hb.2 j hjk]
  intro e2
  have e3 : order[k]?.getD 0 = order[j]?.getD 0 := by omega
  rw [List.getElem?_eq_getElem hk, List.getElem?_eq_getElem (by omega)] at e3
  exact e (nodup_inj h.1 hk _ e3).symm
theorem undoes_at {order back : List Int} (h : OkPerm order.length order) (hb : Undoes order back order.length) {i : Nat} (hi : i < order.length) :
  ∃ j : Nat, j < order.length ∧ order[j]?.getD 0 = i ∧ back[i]?.getD 0 = j := by
 obtain ⟨j, hj, hij⟩ := List.getElem_of_mem (perm_onto h rfl i hi)
 have e : order[j]?.getD 0 = i := by rw [List.getElem?_eq_getElem hj]; exact hij
 refine ⟨j, hj, e, ?_⟩
 have := hb.2 j hj
 rw [e] at this
 exact this
theorem undoes_ok {order back : List Int} (h : OkPerm order.length order) (hb : Undoes order back order.length) : OkPerm order.length back := by
 constructor
 ·rw [List.nodup_iff_pairwise_ne, List.pairwise_iff_getElem]
  intro i j hi hj hij e
  rw [hb.1] at hi hj
  obtain ⟨a, ha, h1, h2⟩ := undoes_at h hb hi
  obtain ⟨b, hb', h3, h4⟩ := undoes_at h hb hj
  rw [List.getElem?_eq_getElem (by rw [hb.1]; exact hi)] at h2
  rw [List.getElem?_eq_getElem (by rw [hb.1]; exact hj)] at h4
  simp only [Option.getD_some] at h2 h4
  have : a = b := by omega
  subst this
  omega
 ·intro o ho
  obtain ⟨i, hi, rfl⟩ := List.getElem_of_mem ho
  rw [hb.1] at hi
  obtain ⟨a, ha, _, h2⟩ := undoes_at h hb hi
  rw [List.getElem?_eq_getElem (by rw [hb.1]; exact hi)] at h2
  simp only [Option.getD_some] at h2
  omega
theorem undoes_pick {xs order back : List Int} (hl : order.length = xs.length) (h : OkPerm order.length order) (hb : Undoes order back order.length) : pick (pick xs order) back = xs := by
 apply List.ext_getElem
 ·rw [length_pick, hb.1, hl]
 ·intro i h1 h2
  obtain ⟨a, ha, h3, h4⟩ := undoes_at h hb (show i < order.length by omega)
  rw [List.getElem?_eq_getElem (by rw [hb.1]; omega)] at h4
  simp only [Option.getD_some] at h4
  rw [List.getElem?_eq_getElem ha] at h3
  simp only [Option.getD_some] at h3
  simp [pick, h4, List.getElem?_eq_getElem ha, h3, List.getElem?_eq_getElem h2]
theorem permute_back {xs order back : List Int} (hx : vld xs = 0) (hl : order.length = xs.length) (h : OkPerm xs.length order) (hb : Undoes order back order.length) : permute (pick xs order) back = (xs, 0) := by
 have hv : vld (pick xs order) = 0 := vld_of_good ((good_of_vld hx).perm (pick_perm h hl))
 have h' : OkPerm order.length order := by rw [hl]; exact h
 rw [permute_yes hv (by rw [length_pick, hb.1]) (by rw [length_pick]; exact undoes_ok h' hb), undoes_pick hl h' hb]
end Go.Proofs.Ytehjbfljenpfoaa
