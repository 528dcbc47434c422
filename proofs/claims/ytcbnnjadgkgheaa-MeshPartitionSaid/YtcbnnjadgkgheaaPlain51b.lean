/- Plain laws for the partition of a mesh into groups (layer 51): no program in sight. -/
import Derived.Test.YtcbnnjadgkgheaaL51c
set_option linter.unusedVariables false
set_option linter.unusedSimpArgs false
namespace Go.Proofs.Ytcbnnjadgkgheaa
open Go.RowKit

theorem groupL_get {xs p : List Int} {a k : Nat} (hk : k < (xs[a]?.getD 0).toNat) : (groupL xs p a)[k]?.getD 0 = rank xs (p.set a (k : Int)) := by
  unfold groupL
  rw [List.getElem?_map, List.getElem?_range hk]
  rfl
theorem groupL_set {xs p : List Int} {a : Nat} {c : Int} : groupL xs (p.set a c) a = groupL xs p a := by
  unfold groupL
  congr 1
  funext c'
  rw [List.set_set]
theorem group_asc {xs p : List Int} {a : Nat} (hpos : ∀ x ∈ xs, 1 ≤ x) (hp : InB xs p) (ha : a < xs.length) : (groupL xs p a).Pairwise (· < ·) := by
  rw [groupL_same hpos hp ha]
  unfold sameTo
  refine List.Pairwise.filter _ ?_
  refine List.Pairwise.map _ ?_ (List.pairwise_lt_range (n := (prod xs).toNat))
  intro c c' hc
  omega
/-- What lies in a row of the groups, at k. -/
theorem group_at {xs : List Int} {a k : Nat} {g : Int} (hm : MeshOk xs) (ha : a < xs.length) (hg : 0 ≤ g ∧ g < devices xs) (hk : k < (group xs a g).length) :
    ∃ x : Nat, (group xs a g)[k]?.getD 0 = (x : Int) ∧ (x : Int) < devices xs ∧ (pointOf xs x)[a]?.getD 0 = (k : Int) ∧ group xs a x = group xs a g := by
  have hpos := hm.posB.pos
  rw [group_yes hg ha] at hk ⊢
  rw [groupL_len] at hk
  have hp := pointOf_in hpos g
  have hi := set_in hp ha (c := (k : Int)) (by omega) (by omega)
  have hb := rank_bd hpos hi
  rw [groupL_get hk]
  refine ⟨(rank xs ((pointOf xs g).set a (k : Int))).toNat, by omega, ?_, ?_, ?_⟩
  · rw [devices_yes hm]; omega
  · rw [show ((rank xs ((pointOf xs g).set a (k : Int))).toNat : Int) = rank xs ((pointOf xs g).set a (k : Int)) from by omega, point_rank hpos hi, get_set (by rw [hp.1]; exact ha), if_pos rfl]
  · rw [show ((rank xs ((pointOf xs g).set a (k : Int))).toNat : Int) = rank xs ((pointOf xs g).set a (k : Int)) from by omega, group_yes (by rw [devices_yes hm]; exact hb) ha, point_rank hpos hi, groupL_set]
/-- A member's group is the group. -/
theorem group_mem {xs : List Int} {a : Nat} {g d : Int} (hm : MeshOk xs) (ha : a < xs.length) (hg : 0 ≤ g ∧ g < devices xs) (h : d ∈ group xs a g) : (0 ≤ d ∧ d < devices xs) ∧ group xs a d = group xs a g := by
  obtain ⟨k, hk, he⟩ := List.mem_iff_getElem.1 h
  obtain ⟨x, h1, h2, _, h4⟩ := group_at hm ha hg hk
  rw [List.getElem?_eq_getElem hk] at h1
  simp only [Option.getD_some] at h1
  rw [he] at h1
  subst h1
  exact ⟨⟨by omega, h2⟩, h4⟩
theorem group_self {xs : List Int} {a : Nat} {d : Int} (hm : MeshOk xs) (ha : a < xs.length) (hd : 0 ≤ d ∧ d < devices xs) : d ∈ group xs a d := by
  have hpos := hm.posB.pos
  have hp := pointOf_in hpos d
  have hd' := hd
  rw [devices_yes hm] at hd'
  rw [group_yes hd ha]
  unfold groupL
  rw [List.mem_map]
  have hqa := hp.2 a ha
  refine ⟨((pointOf xs d)[a]?.getD 0).toNat, by rw [List.mem_range]; omega, ?_⟩
  rw [show (((pointOf xs d)[a]?.getD 0).toNat : Int) = (pointOf xs d)[a]?.getD 0 from by omega, same_set hp.1 hp.1 ha (fun _ _ _ => rfl)]
  exact rank_point hpos hd'.1 hd'.2
theorem group_head {xs : List Int} {a : Nat} {d : Int} (hm : MeshOk xs) (ha : a < xs.length) (hd : 0 ≤ d ∧ d < devices xs) : ∃ h : Nat, (group xs a d).head? = some (h : Int) ∧ (h : Int) < devices xs ∧ group xs a h = group xs a d := by
  have hx := hm.get ha
  have hl : 0 < (group xs a d).length := by rw [group_yes hd ha, groupL_len]; omega
  obtain ⟨x, h1, h2, _, h4⟩ := group_at hm ha hd hl
  refine ⟨x, ?_, h2, h4⟩
  rw [List.head?_eq_getElem?]
  rw [List.getElem?_eq_getElem hl] at h1 ⊢
  simp only [Option.getD_some] at h1
  rw [h1]
theorem count_asc {l : List Int} {d : Int} (h : l.Pairwise (· < ·)) (hd : d ∈ l) : l.count d = 1 := by
  have hn : l.Nodup := h.imp fun {a b} hab => by omega
  rw [hn.count, if_pos hd]
/-- How often a device is met in the groups whose first is below k. -/
theorem count_groups {xs : List Int} {a : Nat} {d : Int} (hm : MeshOk xs) (ha : a < xs.length) (hd : 0 ≤ d ∧ d < devices xs) {h : Nat} (hh : (group xs a d).head? = some (h : Int)) (hg : group xs a h = group xs a d) :
    ∀ k : Nat, (k : Int) ≤ devices xs → (groupsTo xs a k).flatten.count d = if h < k then 1 else 0
  | 0, _ => rfl
  | k + 1, hk => by
    rw [groupsTo_succ, List.flatten_append, List.count_append, count_groups hm ha hd hh hg k (by omega)]
    by_cases e : h = k
    · subst e
      have hc : (group xs a h).count d = 1 := by
        rw [hg]
        refine count_asc ?_ (group_self hm ha hd)
        rw [group_yes hd ha]
        exact group_asc hm.posB.pos (pointOf_in hm.posB.pos _) ha
      rw [if_neg (by omega), if_pos (by rw [hg]; exact hh), if_pos (by omega)]
      simp [hc]
    · have hc : ((if (group xs a k).head? = some (k : Int) then [group xs a k] else []) : List (List Int)).flatten.count d = 0 := by
        split
        · rename_i h1
          rw [List.flatten_cons, List.flatten_nil, List.append_nil, List.count_eq_zero]
          intro hmem
          have := (group_mem hm ha ⟨by omega, by omega⟩ hmem).2
          rw [← this, hh] at h1
          simp at h1
          omega
        · rfl
      rw [hc]
      by_cases hlt : h < k
      · rw [if_pos hlt, if_pos (by omega)]
      · rw [if_neg hlt, if_neg (by omega)]
theorem count_all {xs : List Int} {a d : Nat} (hm : MeshOk xs) (ha : a < xs.length) (hd : (d : Int) < devices xs) : (groups xs a).flatten.count (d : Int) = 1 := by
  obtain ⟨h, h1, h2, h3⟩ := group_head hm ha (d := (d : Int)) ⟨by omega, hd⟩
  rw [groups, count_groups hm ha ⟨by omega, hd⟩ h1 h3 _ (by omega), if_pos (by omega)]
/-- The rows of the groups. -/
theorem groupsTo_mem {xs : List Int} {a : Nat} : ∀ k, ∀ r ∈ groupsTo xs a k, ∃ g : Nat, g < k ∧ r = group xs a g
  | 0, r, h => by cases h
  | k + 1, r, h => by
    rw [groupsTo_succ, List.mem_append] at h
    rcases h with h | h
    · obtain ⟨g, h1, h2⟩ := groupsTo_mem k r h
      exact ⟨g, by omega, h2⟩
    · split at h
      · simp at h; exact ⟨k, by omega, h⟩
      · cases h
/-- How often each number below D stands in l. -/
def tally (D : Nat) (l : List Int) : List Int := (List.range D).map fun (d : Nat) => ((l.count (d : Int) : Nat) : Int)
theorem tally_len (D : Nat) (l : List Int) : (tally D l).length = D := by simp [tally]
theorem tally_get {D d : Nat} (l : List Int) (hd : d < D) : (tally D l)[d]?.getD 0 = ((l.count (d : Int) : Nat) : Int) := by
  unfold tally
  rw [List.getElem?_map, List.getElem?_range hd]
  rfl
theorem tally_nil (D : Nat) : tally D [] = List.replicate D 0 := by
  apply List.ext_getElem
  · simp [tally]
  · intro k h1 h2
    simp [tally]
theorem tally_snoc {D x : Nat} (l : List Int) (hx : x < D) : tally D (l ++ [(x : Int)]) = (tally D l).set x ((tally D l)[x]?.getD 0 + 1) := by
  rw [tally_get l hx]
  apply List.ext_getElem
  · simp [tally]
  · intro k h1 h2
    have hk : k < D := by rw [tally_len] at h1; exact h1
    rw [List.getElem_set]
    by_cases e : x = k
    · subst e
      rw [if_pos rfl]
      simp [tally, List.count_append]
    · rw [if_neg e]
      have hxk : ¬ ((x : Int) = (k : Int)) := by omega
      simp only [tally, List.count_append, List.getElem_map, List.getElem_range, List.count_cons, List.count_nil]
      rw [if_neg (by simpa using hxk)]
      rfl
theorem flat_take {rs : List (List Int)} {i : Nat} (hi : i < rs.length) : (rs.take (i + 1)).flatten = (rs.take i).flatten ++ rs[i]?.getD [] := by
  rw [List.take_add_one, List.getElem?_eq_getElem hi]
  simp only [Option.toList_some, List.flatten_append, List.flatten_cons, List.flatten_nil, List.append_nil, Option.getD_some]
theorem row_take {r : List Int} {k : Nat} (hk : k < r.length) : r.take (k + 1) = r.take k ++ [r[k]?.getD 0] := by
  rw [List.take_add_one, List.getElem?_eq_getElem hk]
  rfl
theorem flat_len {rs : List (List Int)} (h : ∀ r ∈ rs, r.length ≤ 16) : rs.flatten.length ≤ 16 * rs.length := by
  induction rs with
  | nil => simp
  | cons r rs ih =>
    have h1 := h r (by simp)
    have h2 := ih fun r' hr => h r' (by simp [hr])
    simp only [List.flatten_cons, List.length_append, List.length_cons]
    omega
end Go.Proofs.Ytcbnnjadgkgheaa
