/- Walks: forms: differences on both sides; small functions of forms and constraints. -/
import Derived.Test.YtbblkakcadonjaaGreatDoorV18r
import Derived.Test.YtbblkakcadonjaaGreatDoorP17
import Derived.Test.YtbblkakcadonjaaGreatDoorCodesB
set_option linter.unusedVariables false
set_option linter.unusedSimpArgs false
set_option maxRecDepth 20000
set_option maxHeartbeats 4000000
set_option maxRecDepth 1000000
namespace Go.Proofs.YtbblkakcadonjaaGreatDoor
open Go.Abs Go.RowKit

def con64 (c : Con) : Prop := lin64 c.1
theorem scaleV_len (a : Lin) (b : Int) : (scaleV a b).2.length ≤ a.2.length := by
 rw [scaleV]
 split
 ·simp
 ·simp
theorem addV_len (a b : Lin) : (addV a b).2.length ≤ a.2.length + b.2.length := by
 have h1 := mergeX_len a.2 b.2
 have h2 : (addT (mergeX a.2 b.2)).length ≤ (mergeX a.2 b.2).length := List.length_filterMap_le _ _
 show (addT (mergeX a.2 b.2)).length ≤ _
 omega
theorem scaleV_64 {a : Lin} {b : Int} (h : b = 0 ∨ scaleOk a b) : lin64 (scaleV a b) := by
 rw [scaleV]
 split
 ·exact ⟨in64_zero, fun m hm => by cases hm⟩
 ·rename_i hb
  have h := h.resolve_left hb
  refine ⟨h.1, fun m hm => ?_⟩
  obtain ⟨x, hx, rfl⟩ := List.mem_map.1 hm
  exact h.2 x hx
theorem addV_64 {a b : Lin} (h : addOk a b) : lin64 (addV a b) := by
 refine ⟨h.1, fun m hm => ?_⟩
 obtain ⟨t, ht, e⟩ := List.mem_filterMap.1 hm
 split at e
 ·cases e
 ·cases e
  exact h.2 t ht
theorem addE_64 (a b : Lin) : lin64 (addE a b).1 := by
 unfold addE addS
 (repeat' split)
 ·exact ⟨in64_zero, fun m hm => by cases hm⟩
 ·exact addV_64 ‹_›
 ·exact ⟨in64_zero, fun m hm => by cases hm⟩
theorem addE_len (a b : Lin) : (addE a b).1.2.length ≤ a.2.length + b.2.length := by
 unfold addE addS
 (repeat' split)
 ·exact Nat.zero_le _
 ·exact addV_len a b
 ·exact Nat.zero_le _
theorem scaleE_64 {a : Lin} : lin64 (scaleE a (-1)).1 := by
 unfold scaleE scaleS
 (repeat' split)
 ·exact ⟨in64_zero, fun m hm => by cases hm⟩
 ·rename_i h
  exact scaleV_64 h
 ·exact ⟨in64_zero, fun m hm => by cases hm⟩
theorem scaleE_len (a : Lin) (b : Int) : (scaleE a b).1.2.length ≤ a.2.length := by
 unfold scaleE scaleS
 (repeat' split)
 ·exact Nat.zero_le _
 ·exact scaleV_len a b
 ·exact Nat.zero_le _
theorem lin_Const_abs (k : Int) : PCalls Tryz.prog n_lin_Const [I k] (aLin k []) := by
 refine PCalls.of is_lin_Const (by simp) fun _ => runW_sound ?_
 conv in c_lin_Const => cbv
 repeat' first | simp (disch := omega) only [go_sem, *] | ((with_reducible refine condT ?_ ?_) <;> intro h <;> try omega)
 all_goals rfl
theorem base_Lin_abs (a b : Lin) : PCalls Tryz.prog n_base_Lin [aLin a.1 a.2, aLin b.1 b.2] (Go.Abs.B (decide (a = b))) := by
 refine PCalls.of is_base_Lin (by simp) fun hb => runW_sound ?_
 obtain ⟨ka, a⟩ := a
 obtain ⟨kb, b⟩ := b
 have hba : a.length ≤ 9223372036854775807 := by have := hb.1; simpa [bndV, bndA, bndAs] using this
 clear hb
 conv in c_base_Lin => cbv
 by_cases hk : ka = kb
 ·subst hk
  have e0 : decide ((ka, a) = (ka, b)) = decide (a = b) := by
   rw [Bool.eq_iff_iff]
   simp
  rw [e0]
  clear e0
  by_cases hl : a.length = b.length
  ·have hli : (a.length : Int) = (b.length : Int) := by omega
   obtain ⟨R, hR⟩ : ∃ R, R = decide (a = b) := ⟨_, rfl⟩
   rw [← hR]
   have HR := Lib.hid hR
   clear hR
   have HL := Lib.hid hl
   clear hl
   repeat' first | simp (disch := omega) only [go_sem, *, hli] | ((with_reducible refine condT ?_ ?_) <;> intro h <;> try omega)
   refine AW_loop (fun k : Nat => ⟨[(2, .c (.ptr 0 0)), (3, .c (.ptr 1 0)), (5, I k)], [(1, .var [.pure (pI ka), .pure (pMonos b)]), (0, .var [.pure (pI ka), .pure (pMonos a)])], 2, 0⟩) (fun k => k ≤ b.length ∧ Hid (a.take k = b.take k)) (fun k => b.length - k) ⟨0, [], ⟨Nat.zero_le _, Lib.hid rfl⟩, by simp⟩ ?_
   rintro k ⟨hk, HT⟩
   refine runW_sound ?_
   have hl := HL.out
   by_cases hlt : k < b.length
   ·have hlta : k < a.length := by omega
    have g1 := map_get (f := mP) hlta
    have g2 := map_get (f := mP) hlt
    by_cases he : a[k] = b[k]
    ·have HT' : Hid (a.take (k + 1) = b.take (k + 1)) := Lib.hid (by rw [List.take_succ_eq_append_getElem hlta, List.take_succ_eq_append_getElem hlt, HT.out, he])
     rw [he] at g1
     clear HT he hl
     generalize b[k] = m at *
     obtain ⟨n, x⟩ := m
     simp only [mP] at g1 g2
     repeat' first | simp (disch := omega) only [go_sem, *, hli, g1, g2, eqOk, eqP, and_self, decT, wrap_i64] | ((with_reducible refine condT ?_ ?_) <;> intro h <;> try omega)
     exact ⟨k + 1, [], ⟨hlt, HT'⟩, by omega, by simp⟩
    ·have hR : R = false := by
      rw [HR.out]
      exact decide_eq_false fun h => he (by subst h; rfl)
     subst hR
     have hne : ¬ (a[k].1 = b[k].1 ∧ a[k].2 = b[k].2) := fun h => he (Prod.ext h.1 h.2)
     clear HT he hl HR HL
     generalize a[k] = m at *
     generalize b[k] = m' at *
     obtain ⟨n, x⟩ := m
     obtain ⟨n', x'⟩ := m'
     simp only [mP] at g1 g2 hne
     repeat' first | simp (disch := omega) only [go_sem, *, hli, g1, g2, eqOk, eqP, and_true, hne, decF, wrap_i64] | ((with_reducible refine condT ?_ ?_) <;> intro h <;> try omega)
     all_goals rfl
   ·have hR : R = true := by
     rw [HR.out]
     have h := HT.out
     rw [List.take_of_length_le (by omega), List.take_of_length_le (by omega)] at h
     exact decide_eq_true h
    subst hR
    clear HT HL HR hl
    repeat' first | simp (disch := omega) only [go_sem, *, hli] | ((with_reducible refine condT ?_ ?_) <;> intro h <;> try omega)
    all_goals rfl
  ·have e : decide (a = b) = false := decide_eq_false fun h => hl (by rw [h])
   rw [e]
   have hli : ¬ (a.length : Int) = (b.length : Int) := by omega
   repeat' first | simp (disch := omega) only [go_sem, *, hli] | ((with_reducible refine condT ?_ ?_) <;> intro h <;> try omega)
   all_goals rfl
 ·have e : decide ((ka, a) = (kb, b)) = false := decide_eq_false fun h => hk (congrArg Prod.fst h)
  rw [e]
  clear e
  repeat' first | simp (disch := omega) only [go_sem, *, hk] | ((with_reducible refine condT ?_ ?_) <;> intro h <;> try omega)
  all_goals rfl
theorem base_Con_abs (a b : Con) : PCalls Tryz.prog n_base_Con [aCon a, aCon b] (Go.Abs.B (decide (a = b))) := by
 refine PCalls.of is_base_Con (by simp) fun hb => runW_sound ?_
 obtain ⟨⟨ka, a⟩, qa⟩ := a
 obtain ⟨⟨kb, b⟩, qb⟩ := b
 have pl := base_Lin_abs (ka, a) (kb, b)
 simp only at pl
 conv in c_base_Con => cbv
 have e : decide (((ka, a), qa) = ((kb, b), qb)) = (if qa = qb then decide ((ka, a) = (kb, b)) else false) := by
  cases qa <;> cases qb <;> simp
 rw [e]
 clear e
 generalize decide ((ka, a) = (kb, b)) = d at *
 cases qa
 all_goals
  cases qb
  all_goals
   repeat' first | simp (disch := omega) only [go_sem, *] | ((with_reducible refine condT ?_ ?_) <;> intro h <;> try omega) | (refine w_L pl rfl rfl ?_)
   all_goals rfl
noncomputable def minS (f s : Lin) : Lin × Int := if (scaleE f (-1)).2 ≠ 0 then ((0, []), (scaleE f (-1)).2) else addE s (scaleE f (-1)).1
noncomputable def belS (f s : Lin) : Lin × Int := if (minS f s).2 ≠ 0 then ((0, []), (minS f s).2) else addE (minS f s).1 (-1, [])
abbrev aLinB (x : Lin × Int) : AV := .tup [aLin x.1.1 x.1.2, Go.Abs.B (decide (x.2 = 0))]
theorem minS_64 (f s : Lin) : lin64 (minS f s).1 := by
 unfold minS
 split
 ·exact ⟨in64_zero, fun m hm => by cases hm⟩
 ·exact addE_64 _ _
theorem belS_64 (f s : Lin) : lin64 (belS f s).1 := by
 unfold belS
 split
 ·exact ⟨in64_zero, fun m hm => by cases hm⟩
 ·exact addE_64 _ _
theorem minS_len (f s : Lin) : (minS f s).1.2.length ≤ f.2.length + s.2.length := by
 unfold minS
 split
 ·exact Nat.zero_le _
 ·have h1 := addE_len s (scaleE f (-1)).1
  have h2 := scaleE_len f (-1)
  omega
theorem belS_len (f s : Lin) : (belS f s).1.2.length ≤ f.2.length + s.2.length := by
 unfold belS
 split
 ·exact Nat.zero_le _
 ·have h1 := addE_len (minS f s).1 (-1, [])
  have h2 := minS_len f s
  simp only [List.length_nil] at h1
  omega
theorem bounds_minus_abs {a b : Lin} (ha : lin64 a) (hb : lin64 b) (la : a.2.length ≤ 100000000) (lb : b.2.length ≤ 100000000) : PCalls Tryz.prog n_bounds_minus [aLin a.1 a.2, aLin b.1 b.2] (aLinB (minS b a)) := by
 refine PCalls.of is_bounds_minus (by simp) fun _ => runW_sound ?_
 conv in c_bounds_minus => cbv
 have p1 := lin_Scale_abs (a := b) (b := -1) hb (by simp [in64]) (by unfold short; omega)
 have g2 := scaleE_len b (-1)
 have p2 := lin_Add_abs (a := a) (b := (scaleE b (-1)).1) ha scaleE_64 (by unfold short; omega) (by unfold short; omega)
 unfold minS
 generalize addE a (scaleE b (-1)).1 = G2 at *
 generalize scaleE b (-1) = G1 at *
 obtain ⟨⟨K1, L1⟩, e1⟩ := G1
 obtain ⟨⟨K2, L2⟩, e2⟩ := G2
 obtain ⟨K, m⟩ := a
 obtain ⟨K', m'⟩ := b
 simp only at p1 p2 ⊢
 clear g2
 by_cases h1 : e1 = 0
 ·subst h1
  rw [if_neg (by simp)]
  repeat' first | simp (disch := omega) only [go_sem, *] | ((with_reducible refine condT ?_ ?_) <;> intro h <;> try omega) | (with_reducible refine bothW_intro ?_ ?_) | (with_reducible refine nilW_intro (fun h => ?_) ?_) | (refine w_R p1 rfl rfl ?_) | (refine w_R p2 rfl rfl ?_)
  all_goals rfl
 ·rw [if_pos h1]
  repeat' first | simp (disch := omega) only [go_sem, *, h1] | ((with_reducible refine condT ?_ ?_) <;> intro h <;> try omega) | (with_reducible refine bothW_intro ?_ ?_) | (with_reducible refine nilW_intro (fun h => ?_) ?_) | (refine w_R p1 rfl rfl ?_)
  all_goals simp [h1]
theorem bounds_below_abs {a b : Lin} (ha : lin64 a) (hb : lin64 b) (la : a.2.length ≤ 40000000) (lb : b.2.length ≤ 40000000) : PCalls Tryz.prog n_bounds_below [aLin a.1 a.2, aLin b.1 b.2] (aLinB (belS a b)) := by
 refine PCalls.of is_bounds_below (by simp) fun _ => runW_sound ?_
 conv in c_bounds_below => cbv
 have p1 := bounds_minus_abs (a := b) (b := a) hb ha (by omega) (by omega)
 have g2 := minS_len a b
 have pc := lin_Const_abs (-1)
 have p2 := lin_Add_abs (a := (minS a b).1) (b := (-1, [])) (minS_64 _ _) ⟨by simp [in64], fun m hm => by cases hm⟩ (by unfold short; omega) (by unfold short; simp)
 unfold belS
 generalize addE (minS a b).1 (-1, []) = G2 at *
 generalize minS a b = G1 at *
 obtain ⟨⟨K1, L1⟩, e1⟩ := G1
 obtain ⟨⟨K2, L2⟩, e2⟩ := G2
 obtain ⟨K, m⟩ := a
 obtain ⟨K', m'⟩ := b
 simp only at p1 p2 ⊢
 clear g2
 by_cases h1 : e1 = 0
 ·subst h1
  rw [if_neg (by simp)]
  repeat' first | simp (disch := omega) only [go_sem, *, decide_true] | ((with_reducible refine condT ?_ ?_) <;> intro h <;> try omega) | (with_reducible refine bothW_intro ?_ ?_) | (with_reducible refine nilW_intro (fun h => ?_) ?_) | (refine w_R p1 rfl rfl ?_) | (refine w_R pc rfl rfl ?_) | (refine w_R p2 rfl rfl ?_)
  all_goals rfl
 ·rw [if_pos h1]
  repeat' first | simp (disch := omega) only [go_sem, *, h1, decide_false] | ((with_reducible refine condT ?_ ?_) <;> intro h <;> try omega) | (with_reducible refine bothW_intro ?_ ?_) | (with_reducible refine nilW_intro (fun h => ?_) ?_) | (refine w_R p1 rfl rfl ?_)
  all_goals simp [h1]
theorem addE_err {a b : Lin} (h : (addE a b).2 ≠ 0) : (addE a b).1 = (0, []) := by
 unfold addE addS at h ⊢
 (repeat' split) <;> simp_all
theorem ref18_minus_abs {a b : Lin} {k : Int} (hk : k = 0 ∨ k = -1) (ha : lin64 a) (hb : lin64 b) (la : a.2.length ≤ 40000000) (lb : b.2.length ≤ 40000000) : PCalls Tryz.prog n_ref18_minus [aLin b.1 b.2, aLin a.1 a.2, I k] (aLinB (if k = 0 then minS a b else belS a b)) := by
 refine PCalls.of is_ref18_minus (by simp) fun _ => runW_sound ?_
 conv in c_ref18_minus => cbv
 have p1 := ref05_Scale_abs (a := a) (b := -1) ha (by simp [in64]) (by unfold short; omega)
 have g2 := scaleE_len a (-1)
 have g3 := addE_len b (scaleE a (-1)).1
 have p2 := ref05_Add_abs (a := b) (b := (scaleE a (-1)).1) hb scaleE_64 (by omega)
 have pc := ref05_Const_abs (-1)
 have p3 := ref05_Add_abs (a := (addE b (scaleE a (-1)).1).1) (b := (-1, [])) (addE_64 _ _) ⟨by simp [in64], fun m hm => by cases hm⟩ (by simp; omega)
 have g4 := addE_err (a := b) (b := (scaleE a (-1)).1)
 have g5 := addE_err (a := (addE b (scaleE a (-1)).1).1) (b := (-1, []))
 unfold belS minS
 generalize addE b (scaleE a (-1)).1 = G2 at *
 generalize scaleE a (-1) = G1 at *
 obtain ⟨⟨K1, L1⟩, e1⟩ := G1
 obtain ⟨⟨K2, L2⟩, e2⟩ := G2
 obtain ⟨K, m⟩ := a
 obtain ⟨K', m'⟩ := b
 simp only at p1 p2 p3 g4 g5 ⊢
 clear g2 g3 ha hb la lb
 by_cases h1 : e1 = 0
 ·subst h1
  by_cases h2 : e2 = 0
  ·subst h2
   clear g4
   rcases hk with rfl | rfl
   ·repeat' first | simp (disch := omega) only [go_sem, *] | ((with_reducible refine condT ?_ ?_) <;> intro h <;> try omega) | (with_reducible refine bothW_intro ?_ ?_) | (with_reducible refine nilW_intro (fun h => ?_) ?_) | (refine w_R p1 rfl rfl ?_) | (refine w_R p2 rfl rfl ?_)
    all_goals simp
   ·simp only [ne_eq, not_true_eq_false, if_false, Int.reduceNeg, reduceCtorEq, Int.reduceEq]
    generalize addE (K2, L2) (-1, []) = G3 at *
    obtain ⟨⟨K3, L3⟩, e3⟩ := G3
    simp only at p3 g5 ⊢
    by_cases h3 : e3 = 0
    ·subst h3
     clear g5
     repeat' first | simp (disch := omega) only [go_sem, *] | ((with_reducible refine condT ?_ ?_) <;> intro h <;> try omega) | (with_reducible refine bothW_intro ?_ ?_) | (with_reducible refine nilW_intro (fun h => ?_) ?_) | (refine w_R p1 rfl rfl ?_) | (refine w_R p2 rfl rfl ?_) | (refine w_R pc rfl rfl ?_) | (refine w_R p3 rfl rfl ?_)
     all_goals simp
    ·have g5 := g5 h3
     cases g5
     repeat' first | simp (disch := omega) only [go_sem, *, h3] | ((with_reducible refine condT ?_ ?_) <;> intro h <;> try omega) | (with_reducible refine bothW_intro ?_ ?_) | (with_reducible refine nilW_intro (fun h => ?_) ?_) | (refine w_R p1 rfl rfl ?_) | (refine w_R p2 rfl rfl ?_) | (refine w_R pc rfl rfl ?_) | (refine w_R p3 rfl rfl ?_)
     all_goals simp [h3]
  ·have g4 := g4 h2
   cases g4
   rcases hk with rfl | rfl
   ·repeat' first | simp (disch := omega) only [go_sem, *, h2] | ((with_reducible refine condT ?_ ?_) <;> intro h <;> try omega) | (with_reducible refine bothW_intro ?_ ?_) | (with_reducible refine nilW_intro (fun h => ?_) ?_) | (refine w_R p1 rfl rfl ?_) | (refine w_R p2 rfl rfl ?_)
    all_goals simp [h2]
   ·repeat' first | simp (disch := omega) only [go_sem, *, h2] | ((with_reducible refine condT ?_ ?_) <;> intro h <;> try omega) | (with_reducible refine bothW_intro ?_ ?_) | (with_reducible refine nilW_intro (fun h => ?_) ?_) | (refine w_R p1 rfl rfl ?_) | (refine w_R p2 rfl rfl ?_)
    all_goals simp [h2]
 ·rcases hk with rfl | rfl
  ·repeat' first | simp (disch := omega) only [go_sem, *, h1] | ((with_reducible refine condT ?_ ?_) <;> intro h <;> try omega) | (with_reducible refine bothW_intro ?_ ?_) | (with_reducible refine nilW_intro (fun h => ?_) ?_) | (refine w_R p1 rfl rfl ?_) | (refine w_R p2 rfl rfl ?_)
   all_goals simp [h1]
  ·repeat' first | simp (disch := omega) only [go_sem, *, h1] | ((with_reducible refine condT ?_ ?_) <;> intro h <;> try omega) | (with_reducible refine bothW_intro ?_ ?_) | (with_reducible refine nilW_intro (fun h => ?_) ?_) | (refine w_R p1 rfl rfl ?_) | (refine w_R p2 rfl rfl ?_)
   all_goals simp [h1]
end Go.Proofs.YtbblkakcadonjaaGreatDoor
