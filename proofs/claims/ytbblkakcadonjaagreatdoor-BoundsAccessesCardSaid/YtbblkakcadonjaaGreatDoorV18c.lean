/- The negation of a constraint, on both sides. -/
import Derived.Test.YtbblkakcadonjaaGreatDoorV18m
import Derived.Test.YtbblkakcadonjaaGreatDoorP18w
set_option linter.unusedVariables false
set_option linter.unusedSimpArgs false
set_option maxRecDepth 20000
set_option maxHeartbeats 4000000
set_option maxRecDepth 1000000
namespace Go.Proofs.YtbblkakcadonjaaGreatDoor
open Go.Abs Go.RowKit

abbrev aConsE (x : List Con × Int) : AV := .tup [aCons x.1, I x.2]

def lessV (f : Lin) : Con := ((-1 - f.1, f.2.map fun m => (m.1, -m.2)), false)
def moreV (f : Lin) : Con := ((f.1 - 1, f.2), false)
def minAt (l : List Mono) : Prop := ∃ m ∈ l, m.2 = -9223372036854775808
noncomputable instance (l : List Mono) : Decidable (minAt l) := Classical.propDecidable _
noncomputable def negS (c : Con) : List Con × Int :=
 if ¬ linOk c.1.2 then ([], 1) else if minAt c.1.2 then ([], 3) else if c.2 = false then ([lessV c.1], 0)
 else if c.1.1 = -9223372036854775808 then ([], 3) else ([moreV c.1, lessV c.1], 0)
theorem lessV_64 {f : Lin} (h : lin64 f) (hm : ¬ minAt f.2) : con64 (lessV f) := by
 refine ⟨?_, fun m hm' => ?_⟩
 ·have := h.1
  show in64 (-1 - f.1)
  unfold in64 at *
  omega
 ·obtain ⟨z, hz, rfl⟩ := List.mem_map.1 hm'
  have h1 := h.2 z hz
  have h2 : z.2 ≠ -9223372036854775808 := fun e => hm ⟨z, hz, e⟩
  show in64 (-z.2)
  unfold in64 at *
  omega
def negL (l : List Mono) : List Mono := l.map fun m => (m.1, -m.2)
noncomputable def oppS (f : Lin) : Lin × Int := if minAt f.2 then ((0, []), 3) else ((-1 - f.1, negL f.2), 0)
theorem negL_take {l : List Mono} {k : Nat} (h : k < l.length) : (negL (l.take (k + 1))).map mP = (negL (l.take k)).map mP ++ [[pS l[k].1, pI (-l[k].2)]] := by
 rw [List.take_succ_eq_append_getElem h]
 show ((l.take k ++ [l[k]]).map _).map mP = _
 rw [List.map_append, List.map_append]
 rfl
theorem minAt_take {l : List Mono} {k : Nat} (h : k < l.length) (h0 : ¬ minAt (l.take k)) (h1 : l[k].2 ≠ -9223372036854775808) : ¬ minAt (l.take (k + 1)) := by
 rw [List.take_succ_eq_append_getElem h]
 rintro ⟨m, hm, e⟩
 rcases List.mem_append.1 hm with hm | hm
 ·exact h0 ⟨m, hm, e⟩
 ·rw [List.mem_singleton.1 hm] at e; exact h1 e
theorem constraint_opposite_abs {f : Lin} (h64 : lin64 f) (hs : short f.2) : PCalls Tryz.prog n_constraint_opposite [aLin f.1 f.2] (aLinE (oppS f)) := by
 refine PCalls.of is_constraint_opposite (by simp) fun _ => runW_sound ?_
 conv in c_constraint_opposite => cbv
 obtain ⟨K, l⟩ := f
 obtain ⟨hK, hl⟩ := h64
 unfold short at hs
 simp only at hK hl hs ⊢
 have wk : IntKind.wrap .i64 (-1 - K) = -1 - K := wrap_i64 (by unfold in64 at hK; omega)
 obtain ⟨R, hR⟩ : ∃ R, R = oppS (K, l) := ⟨_, rfl⟩
 rw [← hR]
 have HR := Lib.hid hR
 clear hR hK
 repeat' first | simp (disch := omega) only [go_sem, *, wk] | ((with_reducible refine condT ?_ ?_) <;> intro h <;> try omega)
 refine AW_adoptM 2 1 83 2 _ rfl rfl (by decide) ?_
 refine AW_loop (fun j : Nat => ⟨[(2, .c (.ptr 1 0)), (4, .c (.ptr 2 0)), (12, .c (.pure (pMonos l))), (13, I l.length), (14, I j)],
  [(0, .var [.pure (pI K), .pure (pMonos l)]), (1, .var [.pure (pI 0), .nils]), (2, .var [.pure (pI (-1 - K)), .ref 3]), (3, .arr 83 2 ((negL (l.take j)).map mP))], 4, 0⟩) (fun j => j ≤ l.length ∧ Hid (¬ minAt (l.take j))) (fun j => l.length - j) ⟨0, [], ⟨Nat.zero_le _, Lib.hid (by simp [minAt])⟩, by simp [negL]⟩ ?_
 rintro j ⟨hj, HM⟩
 refine runW_sound ?_
 by_cases hlt : j < l.length
 ·have e1 := negL_take hlt
  have g1 := map_get (f := mP) hlt
  have hlen : (negL (l.take j)).length ≤ 1000000000 := by simp [negL]; omega
  have hx := hl _ (List.getElem_mem hlt)
  by_cases hm : l[j].2 = -9223372036854775808
  ·have h2 : R = ((0, []), 3) := by rw [HR.out, oppS, if_pos ⟨_, List.getElem_mem hlt, hm⟩]
   subst h2
   clear HR HM
   generalize l[j] = m at *
   obtain ⟨n, x⟩ := m
   simp only [mP] at g1 e1
   simp only at hm hx
   subst hm
   repeat' first | simp (disch := omega) only [go_sem, *, g1, wrap_i64] | ((with_reducible refine condT ?_ ?_) <;> intro h <;> try omega)
   all_goals rfl
  ·have HM' : Hid (¬ minAt (l.take (j + 1))) := Lib.hid (minAt_take hlt HM.out hm)
   clear HM
   generalize l[j] = m at *
   obtain ⟨n, x⟩ := m
   simp only [mP] at g1 e1
   simp only at hm hx
   have wx : IntKind.wrap .i64 (-x) = -x := wrap_i64 (by unfold in64 at hx; omega)
   generalize negL (l.take j) = D0 at *
   repeat' first | simp (disch := omega) only [go_sem, *, g1, wrap_i64, hm, wx] | ((with_reducible refine condT ?_ ?_) <;> intro h <;> try omega) | (refine app_own rfl (by intro h; cases h) (rowsOk_one rfl) (by simp; omega) (by simp; omega) ?_)
   exact ⟨j + 1, [(3, 5)], ⟨hlt, HM'⟩, by omega, by simp [e1, wx]⟩
 ·obtain rfl : j = l.length := by omega
  have hM := HM.out
  rw [List.take_of_length_le (Nat.le_refl _)] at hM
  have h2 : R = ((-1 - K, negL l), 0) := by rw [HR.out, oppS, if_neg hM]
  subst h2
  clear HR HM hM
  rw [List.take_of_length_le (Nat.le_refl _)]
  repeat' first | simp (disch := omega) only [go_sem, *] | ((with_reducible refine condT ?_ ?_) <;> intro h <;> try omega)
  all_goals rfl
theorem oppS_neg {c : Con} (hok : linOk c.1.2) : negS c = if (oppS c.1).2 ≠ 0 then ([], (oppS c.1).2) else if c.2 = false then ([((oppS c.1).1, false)], 0) else if c.1.1 = -9223372036854775808 then ([], 3) else ([((c.1.1 - 1, c.1.2), false), ((oppS c.1).1, false)], 0) := by
 unfold negS oppS
 rw [if_neg (not_not_intro hok)]
 by_cases h : minAt c.1.2
 ·rw [if_pos h, if_pos h, if_pos (by decide)]
 ·rw [if_neg h, if_neg h]
  simp only [ne_eq, not_true_eq_false, if_false]
  rfl
theorem constraint_Negate_abs {c : Con} (h64 : con64 c) (hs : short c.1.2) : PCalls Tryz.prog n_constraint_Negate [aCon c] (aConsE (negS c)) := by
 refine PCalls.of is_constraint_Negate (by simp) fun _ => runW_sound ?_
 conv in c_constraint_Negate => cbv
 have pv := constraint_Validate_abs c
 by_cases hok : linOk c.1.2
 ·have po := constraint_opposite_abs (f := c.1) h64 hs
  rw [oppS_neg hok]
  rw [if_pos hok] at pv
  have hK := h64.1
  generalize oppS c.1 = O at *
  obtain ⟨⟨OK, OL⟩, oe⟩ := O
  obtain ⟨⟨K, l⟩, q⟩ := c
  unfold short at hs
  try simp only at po pv hs hK ⊢
  clear hok h64
  unfold in64 at hK
  by_cases h0 : oe = 0
  ·subst h0
   rw [if_neg (by simp)]
   cases q
   ·rw [if_pos rfl]
    repeat' first | simp (disch := omega) only [go_sem, *] | ((with_reducible refine condT ?_ ?_) <;> intro h <;> try omega) | (refine w_L pv rfl rfl ?_) | (refine w_R po rfl rfl ?_)
    all_goals rfl
   ·rw [if_neg (by simp)]
    by_cases h1 : K = -9223372036854775808
    ·rw [if_pos h1]
     subst h1
     repeat' first | simp (disch := omega) only [go_sem, *] | ((with_reducible refine condT ?_ ?_) <;> intro h <;> try omega) | (refine w_L pv rfl rfl ?_) | (refine w_R po rfl rfl ?_)
     all_goals rfl
    ·rw [if_neg h1]
     have wk : IntKind.wrap .i64 (K - 1) = K - 1 := wrap_i64 (by omega)
     have hro : rowsOk 2 (l.map mP) := rowsOk_map fun _ => rfl
     repeat' first | simp (disch := omega) only [go_sem, *, h1, wk] | ((with_reducible refine condT ?_ ?_) <;> intro h <;> try omega) | (with_reducible refine bothW_intro ?_ ?_) | (with_reducible refine nilW_intro (fun h => ?_) ?_) | (refine w_L pv rfl rfl ?_) | (refine w_R po rfl rfl ?_) | (refine app_nilP hro (by simp; omega) (by simp; omega) ?_)
     all_goals rfl
  ·rw [if_pos h0]
   repeat' first | simp (disch := omega) only [go_sem, *, h0] | ((with_reducible refine condT ?_ ?_) <;> intro h <;> try omega) | (refine w_L pv rfl rfl ?_) | (refine w_R po rfl rfl ?_)
   all_goals rfl
 ·rw [if_neg hok] at pv
  rw [negS, if_pos hok]
  obtain ⟨⟨K, l⟩, q⟩ := c
  try simp only at pv ⊢
  clear hok
  repeat' first | simp (disch := omega) only [go_sem, *] | ((with_reducible refine condT ?_ ?_) <;> intro h <;> try omega) | (refine w_L pv rfl rfl ?_)
  all_goals rfl
theorem ref06_Validate_abs (c : Con) : PCalls Tryz.prog n_ref06_Validate [aCon c] (I (if linOk c.1.2 then 0 else 1)) := by
 refine PCalls.of is_ref06_Validate (by simp) fun _ => runW_sound ?_
 conv in c_ref06_Validate => cbv
 have pv := base_LinRight_abs c.1.1 c.1.2
 obtain ⟨⟨k, l⟩, q⟩ := c
 try simp only at pv ⊢
 by_cases h : linOk l
 ·rw [decide_eq_true h] at pv
  rw [if_pos h]
  clear h
  repeat' first | simp (disch := omega) only [go_sem, *] | ((with_reducible refine condT ?_ ?_) <;> intro h <;> try omega) | (refine w_L pv rfl rfl ?_)
  all_goals rfl
 ·rw [decide_eq_false h] at pv
  rw [if_neg h]
  clear h
  repeat' first | simp (disch := omega) only [go_sem, *] | ((with_reducible refine condT ?_ ?_) <;> intro h <;> try omega) | (refine w_L pv rfl rfl ?_)
  all_goals rfl
theorem wrap_not {K : Int} (h : in64 K) : IntKind.wrap .i64 (((BitVec.ofInt 64 (if IntKind.signed .i64 = true then -1 else 9223372036854775807) ^^^ BitVec.ofInt 64 K).toNat : Nat) : Int) = -1 - K := by
 have e : BitVec.ofInt 64 (if IntKind.signed .i64 = true then (-1) else 9223372036854775807) = BitVec.allOnes 64 := by decide
 rw [e, BitVec.allOnes_xor, BitVec.toNat_not, BitVec.toNat_ofInt, IntKind.wrap_i64]
 unfold in64 at h
 have h1 : ((2 ^ 64 : Nat) : Int) = 18446744073709551616 := by decide
 have h2 : (2 ^ 64 : Nat) = 18446744073709551616 := by decide
 rw [h1, h2]
 omega
set_option maxHeartbeats 2000000 in
theorem ref06_Negate_abs {c : Con} (h64 : con64 c) (hs : short c.1.2) : PCalls Tryz.prog n_ref06_Negate [aCon c] (aConsE (negS c)) := by
 refine PCalls.of is_ref06_Negate (by simp) fun _ => runW_sound ?_
 conv in c_ref06_Negate => cbv
 have pv := ref06_Validate_abs c
 by_cases hok : linOk c.1.2
 ·rw [oppS_neg hok]
  rw [if_pos hok] at pv
  obtain ⟨hK, hl⟩ := h64
  obtain ⟨⟨K, l⟩, q⟩ := c
  unfold short at hs
  try simp only at pv hs hK hl ⊢
  clear hok
  have wk := wrap_not hK
  obtain ⟨R, hR⟩ : ∃ R, R = oppS (K, l) := ⟨_, rfl⟩
  rw [← hR]
  have HR := Lib.hid hR
  clear hR
  repeat' first | simp (disch := omega) only [go_sem, *, wk] | ((with_reducible refine condT ?_ ?_) <;> intro h <;> try omega) | (refine w_L pv rfl rfl ?_)
  refine AW_adoptM 1 1 83 2 _ rfl rfl (by decide) ?_
  refine AW_loop (fun j : Nat => ⟨[(1, .c (.ptr 0 0)), (5, .c (.ptr 1 0)), (6, I j)],
   [(0, .var [.pure (pI K), .pure (pMonos l), .pure (pB q)]), (1, .var [.pure (pI (-1 - K)), .ref 2, .pure (pB false)]), (2, .arr 83 2 ((negL (l.take j)).map mP))], 3, 0⟩) (fun j => j ≤ l.length ∧ Hid (¬ minAt (l.take j))) (fun j => l.length - j) ⟨0, [], ⟨Nat.zero_le _, Lib.hid (by simp [minAt])⟩, by (simp [negL]; exact wk)⟩ ?_
  rintro j ⟨hj, HM⟩
  refine runW_sound ?_
  by_cases hlt : j < l.length
  ·have e1 := negL_take hlt
   have g1 := map_get (f := mP) hlt
   have hlen : (negL (l.take j)).length ≤ 1000000000 := by simp [negL]; omega
   have hx := hl _ (List.getElem_mem hlt)
   by_cases hm : l[j].2 = -9223372036854775808
   ·have h2 : R = ((0, []), 3) := by rw [HR.out, oppS, if_pos ⟨_, List.getElem_mem hlt, hm⟩]
    subst h2
    rw [if_pos (by decide)]
    clear HR HM
    generalize l[j] = m at *
    obtain ⟨n, x⟩ := m
    simp only [mP] at g1 e1
    simp only at hm hx
    subst hm
    repeat' first | simp (disch := omega) only [go_sem, *, g1, wrap_i64] | ((with_reducible refine condT ?_ ?_) <;> intro h <;> try omega)
    all_goals rfl
   ·have HM' : Hid (¬ minAt (l.take (j + 1))) := Lib.hid (minAt_take hlt HM.out hm)
    clear HM
    generalize l[j] = m at *
    obtain ⟨n, x⟩ := m
    simp only [mP] at g1 e1
    simp only at hm hx
    have wx : IntKind.wrap .i64 (-x) = -x := wrap_i64 (by unfold in64 at hx; omega)
    generalize negL (l.take j) = D0 at *
    repeat' first | simp (disch := omega) only [go_sem, *, g1, wrap_i64, hm, wx] | ((with_reducible refine condT ?_ ?_) <;> intro h <;> try omega) | (refine app_own rfl (by intro h; cases h) (rowsOk_one rfl) (by simp; omega) (by simp; omega) ?_)
    exact ⟨j + 1, [(2, 3)], ⟨hlt, HM'⟩, by omega, by simp [e1, wx]⟩
  ·obtain rfl : j = l.length := by omega
   have hM := HM.out
   rw [List.take_of_length_le (Nat.le_refl _)] at hM
   have h2 : R = ((-1 - K, negL l), 0) := by rw [HR.out, oppS, if_neg hM]
   subst h2
   rw [if_neg (by simp)]
   clear HR HM hM
   rw [List.take_of_length_le (Nat.le_refl _)]
   cases q
   ·rw [if_pos rfl]
    repeat' first | simp (disch := omega) only [go_sem, *] | ((with_reducible refine condT ?_ ?_) <;> intro h <;> try omega)
    all_goals rfl
   ·rw [if_neg (by simp)]
    by_cases h1 : K = -9223372036854775808
    ·rw [if_pos h1]
     subst h1
     repeat' first | simp (disch := omega) only [go_sem, *] | ((with_reducible refine condT ?_ ?_) <;> intro h <;> try omega)
     all_goals rfl
    ·rw [if_neg h1]
     have wk2 : IntKind.wrap .i64 (K - 1) = K - 1 := wrap_i64 (by unfold in64 at hK; omega)
     repeat' first | simp (disch := omega) only [go_sem, *, h1, wk2] | ((with_reducible refine condT ?_ ?_) <;> intro h <;> try omega)
     refine AW_adoptM 3 1 83 2 _ rfl rfl (by decide) ?_
     refine AW_loop (fun j : Nat => ⟨[(1, .c (.ptr 0 0)), (5, .c (.ptr 1 0)), (7, .c (.ptr 3 0)), (8, I j)],
      [(0, .var [.pure (pI K), .pure (pMonos l), .pure (pB true)]), (1, .var [.pure (pI (-1 - K)), .ref 2, .pure (pB false)]), (2, .arr 83 2 ((negL l).map mP)), (3, .var [.pure (pI (K - 1)), .ref 4, .pure (pB false)]), (4, .arr 83 2 ((l.take j).map mP))], 5, 0⟩) (fun j => j ≤ l.length) (fun j => l.length - j) ⟨0, [], Nat.zero_le _, by simp⟩ ?_
     intro j hj
     refine runW_sound ?_
     by_cases hlt : j < l.length
     ·have g1 := map_get (f := mP) hlt
      have e1 : (l.take (j + 1)).map mP = (l.take j).map mP ++ [mP l[j]] := by rw [List.take_succ_eq_append_getElem hlt, List.map_append]; rfl
      have hlen : (l.take j).length ≤ 1000000000 := by simp; omega
      generalize l[j] = m at *
      obtain ⟨n, x⟩ := m
      simp only [mP] at g1 e1
      generalize l.take j = D0 at *
      repeat' first | simp (disch := omega) only [go_sem, *, g1, wrap_i64] | ((with_reducible refine condT ?_ ?_) <;> intro h <;> try omega) | (refine app_own rfl (by intro h; cases h) (rowsOk_one rfl) (by simp; omega) (by simp; omega) ?_)
      exact ⟨j + 1, [(4, 5)], hlt, by omega, by simp [e1]⟩
     ·obtain rfl : j = l.length := by omega
      rw [List.take_of_length_le (Nat.le_refl _)]
      repeat' first | simp (disch := omega) only [go_sem, *] | ((with_reducible refine condT ?_ ?_) <;> intro h <;> try omega)
      all_goals rfl
 ·rw [if_neg hok] at pv
  rw [negS, if_pos hok]
  obtain ⟨⟨K, l⟩, q⟩ := c
  try simp only at pv ⊢
  clear hok
  repeat' first | simp (disch := omega) only [go_sem, *] | ((with_reducible refine condT ?_ ?_) <;> intro h <;> try omega) | (refine w_L pv rfl rfl ?_)
  all_goals rfl
end Go.Proofs.YtbblkakcadonjaaGreatDoor
set_option linter.unusedVariables false
set_option linter.unusedSimpArgs false
namespace Go.Proofs.YtbblkakcadonjaaGreatDoor
open Go.Abs Go.RowKit

abbrev LB := Lin × Bool
abbrev CB := List Con × Bool
abbrev lb0 : LB := ((0, []), false)
noncomputable def okB (x : Lin × Int) : LB := (x.1, decide (x.2 = 0))
noncomputable def linN (op : Int) (val : Fr) (ty : Ty) (l : Lin) (az : List LB) : LB :=
 if op = 2 then (l, true) else if op = 1 then ((val.1, []), decide (ty.1 = 3))
 else if op = 8 then (if (az.getD 0 lb0).2 = true then okB (scaleE (az.getD 0 lb0).1 (-1)) else lb0)
 else if op = 4 ∨ op = 5 then (if (az.getD 0 lb0).2 = true ∧ (az.getD 1 lb0).2 = true then okB (if op = 5 then minS (az.getD 1 lb0).1 (az.getD 0 lb0).1 else addE (az.getD 0 lb0).1 (az.getD 1 lb0).1) else lb0)
 else lb0
noncomputable def linNR (op : Int) (val : Fr) (ty : Ty) (l : Lin) (az : List LB) : LB :=
 if op = 2 then (l, true) else if op = 1 then ((val.1, []), decide (ty.1 = 3))
 else if op = 8 then ((scaleE (az.getD 0 lb0).1 (-1)).1, (az.getD 0 lb0).2 && decide ((scaleE (az.getD 0 lb0).1 (-1)).2 = 0))
 else if op = 5 then ((addE (az.getD 0 lb0).1 (scaleE (az.getD 1 lb0).1 (-1)).1).1, (az.getD 0 lb0).2 && (az.getD 1 lb0).2 && decide ((scaleE (az.getD 1 lb0).1 (-1)).2 = 0) && decide ((addE (az.getD 0 lb0).1 (scaleE (az.getD 1 lb0).1 (-1)).1).2 = 0))
 else if op = 4 then ((addE (az.getD 0 lb0).1 (az.getD 1 lb0).1).1, (az.getD 0 lb0).2 && (az.getD 1 lb0).2 && true && decide ((addE (az.getD 0 lb0).1 (az.getD 1 lb0).1).2 = 0))
 else lb0
mutual
noncomputable def linS : Ex → LB
 | .mk op _ val ty lin _ args => linN op val ty lin (linSs args)
noncomputable def linSs : List Ex → List LB
 | [] => []
 | e :: r => linS e :: linSs r
end
mutual
noncomputable def linR : Ex → LB
 | .mk op _ val ty lin _ args => linNR op val ty lin (linRs args)
noncomputable def linRs : List Ex → List LB
 | [] => []
 | e :: r => linR e :: linRs r
end
theorem linSs_eq : ∀ l : List Ex, linSs l = l.map linS
 | [] => by rw [linSs]; rfl
 | e :: r => by rw [linSs, linSs_eq r]; rfl
theorem linRs_eq : ∀ l : List Ex, linRs l = l.map linR
 | [] => by rw [linRs]; rfl
 | e :: r => by rw [linRs, linRs_eq r]; rfl
theorem linS_eq (e : Ex) : linS e = linN e.op e.val e.ty e.lin (e.args.map linS) := by
 obtain ⟨op, name, val, ty, lin, idx, args⟩ := e
 rw [linS, linSs_eq]
 rfl
theorem linR_eq (e : Ex) : linR e = linNR e.op e.val e.ty e.lin (e.args.map linR) := by
 obtain ⟨op, name, val, ty, lin, idx, args⟩ := e
 rw [linR, linRs_eq]
 rfl
def sameB (a b : LB) : Prop := a.2 = b.2 ∧ (a.2 = true → a.1 = b.1)
theorem getD_map {l : List Ex} {f : Ex → LB} {k : Nat} : ((l.map f).getD k lb0) = match l[k]? with | some a => f a | none => lb0 := by
 rw [List.getD_eq_getElem?_getD, List.getElem?_map]
 cases l[k]? <;> rfl
theorem sameB_arg {l : List Ex} (h : ∀ a ∈ l, sameB (linS a) (linR a)) (k : Nat) : sameB ((l.map linS).getD k lb0) ((l.map linR).getD k lb0) := by
 rw [getD_map, getD_map]
 cases hk : l[k]? with
 | none => exact ⟨rfl, fun _ => rfl⟩
 | some a => exact h a (List.mem_of_getElem? hk)
theorem linSR (e : Ex) : sameB (linS e) (linR e) := by
 refine Ex.ind (p := fun e => sameB (linS e) (linR e)) (fun e ih => ?_) e
 have h0 := sameB_arg ih 0
 have h1 := sameB_arg ih 1
 rw [linS_eq, linR_eq]
 unfold linN linNR
 generalize (e.args.map linS).getD 0 lb0 = a at *
 generalize (e.args.map linR).getD 0 lb0 = a' at *
 generalize (e.args.map linS).getD 1 lb0 = b at *
 generalize (e.args.map linR).getD 1 lb0 = b' at *
 obtain ⟨a1, a2⟩ := a
 obtain ⟨b1, b2⟩ := b
 obtain ⟨a1', a2'⟩ := a'
 obtain ⟨b1', b2'⟩ := b'
 obtain ⟨h0, h0'⟩ := h0
 obtain ⟨h1, h1'⟩ := h1
 simp only at h0 h0' h1 h1'
 subst h0
 subst h1
 by_cases k2 : e.op = 2
 ·simp only [k2, if_pos]; exact ⟨rfl, fun _ => rfl⟩
 by_cases k1 : e.op = 1
 ·simp only [k2, k1, if_pos, if_neg, not_false_eq_true]; exact ⟨rfl, fun _ => rfl⟩
 by_cases k8 : e.op = 8
 ·rw [if_neg k2, if_neg k1, if_pos k8, if_neg k2, if_neg k1, if_pos k8]
  cases a2
  ·exact ⟨by simp, by simp⟩
  ·obtain rfl := h0' rfl
   rw [if_pos rfl]
   exact ⟨by simp [okB], fun _ => rfl⟩
 by_cases k5 : e.op = 5
 ·simp only [k5, show ¬ (5 : Int) = 2 by decide, show ¬ (5 : Int) = 1 by decide, show ¬ (5 : Int) = 8 by decide, if_false, or_true, if_true]
  cases a2
  ·exact ⟨by simp, by simp⟩
  ·cases b2
   ·exact ⟨by simp, by simp⟩
   ·obtain rfl := h0' rfl
    obtain rfl := h1' rfl
    rw [if_pos ⟨rfl, rfl⟩]
    unfold okB minS
    by_cases hs : (scaleE b1 (-1)).2 = 0
    ·rw [if_neg (not_not_intro hs)]
     exact ⟨by simp [hs], fun _ => rfl⟩
    ·rw [if_pos hs]
     exact ⟨by simp [hs], fun h => by simp [hs] at h⟩
 by_cases k4 : e.op = 4
 ·simp only [k4, show ¬ (4 : Int) = 2 by decide, show ¬ (4 : Int) = 1 by decide, show ¬ (4 : Int) = 8 by decide, show ¬ (4 : Int) = 5 by decide, if_false, or_false, if_true]
  cases a2
  ·exact ⟨by simp, by simp⟩
  ·cases b2
   ·exact ⟨by simp, by simp⟩
   ·obtain rfl := h0' rfl
    obtain rfl := h1' rfl
    rw [if_pos ⟨rfl, rfl⟩]
    exact ⟨by simp [okB], fun _ => rfl⟩
 ·simp only [k2, k1, k8, k5, k4, if_false, or_false]
  exact ⟨rfl, fun _ => rfl⟩
noncomputable def cmpS (op : Int) (a b : Lin) : Lin × Int := if op = 13 then belS a b else minS a b
noncomputable def okF (x : Lin × Int) (q : Bool) : CB := if x.2 = 0 then ([(x.1, q)], true) else ([], false)
theorem cmpS_ok (op : Int) (a b : Lin) : lin64 (cmpS op a b).1 ∧ (cmpS op a b).1.2.length ≤ a.2.length + b.2.length := by
 unfold cmpS
 split
 ·exact ⟨belS_64 _ _, belS_len _ _⟩
 ·exact ⟨minS_64 _ _, minS_len _ _⟩
noncomputable def notF (r : CB) : CB := match r with
 | ([c], true) => if (negS c).2 = 0 ∧ (negS c).1.length = 1 then ((negS c).1, true) else ([], false)
 | _ => ([], false)
theorem notF_no {r : CB} (h : ¬ (r.1.length = 1 ∧ r.2 = true)) : notF r = ([], false) := by
 unfold notF
 split
 ·exact absurd ⟨rfl, rfl⟩ h
 ·rfl
noncomputable def facN (op : Int) (ls : List LB) (fs : List CB) : CB :=
 if 13 ≤ op ∧ op ≤ 15 then (if (ls.getD 0 lb0).2 = true ∧ (ls.getD 1 lb0).2 = true then
   okF (cmpS op (ls.getD 0 lb0).1 (ls.getD 1 lb0).1) (decide (op = 15))
  else ([], false))
 else if op = 16 then ((fs.getD 0 ([], false)).1 ++ (fs.getD 1 ([], false)).1, (fs.getD 0 ([], false)).2 && (fs.getD 1 ([], false)).2)
 else if op = 18 then notF (fs.getD 0 ([], false))
 else ([], false)
mutual
noncomputable def facS : Ex → CB
 | .mk op _ _ _ _ _ args => facN op (linSs args) (facSs args)
noncomputable def facSs : List Ex → List CB
 | [] => []
 | e :: r => facS e :: facSs r
end
theorem facSs_eq : ∀ l : List Ex, facSs l = l.map facS
 | [] => by rw [facSs]; rfl
 | e :: r => by rw [facSs, facSs_eq r]; rfl
theorem facS_eq (e : Ex) : facS e = facN e.op (e.args.map linS) (e.args.map facS) := by
 obtain ⟨op, name, val, ty, lin, idx, args⟩ := e
 rw [facS, linSs_eq, facSs_eq]
 rfl
def notE (a : Ex) : Ex := .mk 18 ⟨⟨[]⟩⟩ (0, 0) ty0 (0, []) [] [a]
noncomputable def needS (f x : Lin) : List Con := [(f, false), (if (belS f x).2 = 0 then (belS f x).1 else (-1, []), false)]
def dimsF (p : Prg) (s : ByteArray) : List Lin := match findS p s with
 | some x => x.2
 | none => []
noncomputable def ixC (p : Prg) (x : Ix) (d : Lin) : List Con := if x.2.1 = ⟨⟨[]⟩⟩ then needS x.1 d else (x.2.2.zip (dimsF p x.2.1)).flatMap fun q => needS q.1 q.2
noncomputable def readC (p : Prg) (idx : List Ix) (s : ByteArray) : List Con := (idx.zip (dimsF p s)).flatMap fun q => ixC p q.1 q.2
abbrev Ob := Con × List Con
mutual
noncomputable def obS (p : Prg) : Ex → List Con → List Ob
 | .mk op name _ _ _ idx args, cs => (if op = 3 then (readC p idx name).map (fun c => (c, cs)) else []) ++ (if op = 11 then obI p args cs else obs p args cs)
noncomputable def obs (p : Prg) : List Ex → List Con → List Ob
 | [], _ => []
 | e :: r, cs => obS p e cs ++ obs p r cs
noncomputable def obI (p : Prg) : List Ex → List Con → List Ob
 | [], _ => []
 | [a], cs => []
 | [a, b], cs => []
 | a :: b :: c :: r, cs => obS p a cs ++ obS p b (cs ++ (facS a).1) ++ obS p c (cs ++ (facS (notE a)).1)
end
theorem obS_eq (p : Prg) (e : Ex) (cs : List Con) : obS p e cs = (if e.op = 3 then (readC p e.idx e.name).map (fun c => (c, cs)) else []) ++ (if e.op = 11 then obI p e.args cs else obs p e.args cs) := by
 obtain ⟨op, name, val, ty, lin, idx, args⟩ := e
 rw [obS]
 rfl
theorem obs_append (p : Prg) (cs : List Con) : ∀ l r : List Ex, obs p (l ++ r) cs = obs p l cs ++ obs p r cs
 | [], r => by simp [obs]
 | e :: l, r => by simp only [List.cons_append, obs, obs_append p cs l r, List.append_assoc]
theorem obs_take (p : Prg) (cs : List Con) {l : List Ex} {k : Nat} (h : k < l.length) : obs p (l.take (k + 1)) cs = obs p (l.take k) cs ++ obS p l[k] cs := by
 rw [List.take_succ_eq_append_getElem h, obs_append]
 simp [obs]
theorem pre_in {e a b : Ex} (ha : a ∈ e.args) (hb : b ∈ a.pre) : b ∈ e.pre := by
 rw [Ex.pre_eq]
 refine List.mem_cons_of_mem _ ?_
 generalize e.args = l at ha
 induction l with
 | nil => cases ha
 | cons x r ihr =>
  rw [Ex.pres]
  rcases List.mem_cons.1 ha with rfl | ha
  ·exact List.mem_append_left _ hb
  ·exact List.mem_append_right _ (ihr ha)
theorem pre_self (e : Ex) : e ∈ e.pre := by rw [Ex.pre_eq]; exact List.mem_cons_self
def fmOk (e : Ex) : Prop := ∀ a ∈ e.pre, in64 a.val.1 ∧ ∀ l ∈ a.forms, lin64 l ∧ l.2.length ≤ 1000
def lnOk (e : Ex) : Prop := rnkAll e ∧ fmOk e
theorem lnOk_arg {e a : Ex} (h : lnOk e) (ha : a ∈ e.args) : lnOk a := ⟨rnkAll_arg h.1 ha, fun b hb => h.2 b (pre_in ha hb)⟩
theorem lnOk_lin {e : Ex} (h : lnOk e) : lin64 e.lin ∧ e.lin.2.length ≤ 1000 := (h.2 e (pre_self e)).2 _ List.mem_cons_self
theorem lnOk_val {e : Ex} (h : lnOk e) : in64 e.val.1 := (h.2 e (pre_self e)).1
theorem lnOk_not {a : Ex} (h : lnOk a) : lnOk (notE a) := by
 have hp : ∀ b ∈ (notE a).pre, b = notE a ∨ b ∈ a.pre := fun b hb => by
  rw [Ex.pre_eq] at hb
  rcases List.mem_cons.1 hb with rfl | hb
  ·exact .inl rfl
  ·exact .inr (by simpa [notE, Ex.args, Ex.pres] using hb)
 refine ⟨fun b hb => ?_, fun b hb => ?_⟩
 ·rcases hp b hb with rfl | hb
  ·exact ⟨rfl, by show (1 : Int) ≤ 18; decide, by show (18 : Int) ≤ 18; decide, by show (0 : Nat) ≤ 6; decide, fun x hx => by cases hx⟩
  ·exact h.1 b hb
 ·rcases hp b hb with rfl | hb
  ·refine ⟨by show in64 0; decide, fun l hl => ?_⟩
   simp only [notE, Ex.forms, Ex.lin, Ex.idx, List.flatMap_nil, List.mem_singleton] at hl
   subst hl
   exact ⟨⟨by decide, fun m hm => by cases hm⟩, by simp⟩
  ·exact h.2 b hb
theorem z64 : lin64 (0, []) := ⟨by decide, fun m hm => by cases hm⟩
def upL (n : Nat) (x : LB) : Prop := lin64 x.1 ∧ x.1.2.length ≤ 1000 * n
theorem upL_two {f : Ex → LB} : ∀ {l : List Ex}, (∀ a ∈ l, upL a.sz (f a)) → ∃ m n, m + n ≤ Ex.szs l ∧ upL m ((l.map f).getD 0 lb0) ∧ upL n ((l.map f).getD 1 lb0)
 | [], _ => ⟨0, 0, by simp, ⟨z64, by simp⟩, ⟨z64, by simp⟩⟩
 | [a], h => ⟨a.sz, 0, by simp [Ex.szs], h a List.mem_cons_self, ⟨z64, by simp⟩⟩
 | a :: b :: r, h => ⟨a.sz, b.sz, by simp [Ex.szs, ← Nat.add_assoc], h a List.mem_cons_self, h b (List.mem_cons_of_mem _ List.mem_cons_self)⟩
theorem lin_ok (e : Ex) : lnOk e → upL e.sz (linS e) := by
 refine Ex.ind (p := fun e => lnOk e → upL e.sz (linS e)) (fun e ih h => ?_) e
 obtain ⟨m, n, hmn, ⟨a1, a2⟩, ⟨b1, b2⟩⟩ := upL_two (f := linS) fun a ha => ih a ha (lnOk_arg h ha)
 have hz := Ex.sz_eq e
 have hl := lnOk_lin h
 rw [linS_eq]
 unfold linN
 generalize (e.args.map linS).getD 0 lb0 = a at *
 generalize (e.args.map linS).getD 1 lb0 = b at *
 repeat' split
 all_goals first
  | exact ⟨z64, by simp⟩
  | exact ⟨hl.1, by show e.lin.2.length ≤ _; omega⟩
  | exact ⟨⟨lnOk_val h, fun m hm => by cases hm⟩, by simp⟩
  | exact ⟨scaleE_64, by have := scaleE_len a.1 (-1); show (scaleE a.1 (-1)).1.2.length ≤ _; omega⟩
  | exact ⟨minS_64 _ _, by have := minS_len b.1 a.1; show (minS b.1 a.1).1.2.length ≤ _; omega⟩
  | exact ⟨addE_64 _ _, by have := addE_len a.1 b.1; show (addE a.1 b.1).1.2.length ≤ _; omega⟩
theorem linR_ok (e : Ex) : lnOk e → upL e.sz (linR e) := by
 refine Ex.ind (p := fun e => lnOk e → upL e.sz (linR e)) (fun e ih h => ?_) e
 obtain ⟨m, n, hmn, ⟨a1, a2⟩, ⟨b1, b2⟩⟩ := upL_two (f := linR) fun a ha => ih a ha (lnOk_arg h ha)
 have hz := Ex.sz_eq e
 have hl := lnOk_lin h
 rw [linR_eq]
 unfold linNR
 generalize (e.args.map linR).getD 0 lb0 = a at *
 generalize (e.args.map linR).getD 1 lb0 = b at *
 repeat' split
 all_goals first
  | exact ⟨z64, by simp⟩
  | exact ⟨hl.1, by show e.lin.2.length ≤ _; omega⟩
  | exact ⟨⟨lnOk_val h, fun m hm => by cases hm⟩, by simp⟩
  | exact ⟨scaleE_64, by have := scaleE_len a.1 (-1); show (scaleE a.1 (-1)).1.2.length ≤ _; omega⟩
  | exact ⟨addE_64 _ _, by have := addE_len a.1 (scaleE b.1 (-1)).1; have := scaleE_len b.1 (-1); show (addE a.1 (scaleE b.1 (-1)).1).1.2.length ≤ _; omega⟩
  | exact ⟨addE_64 _ _, by have := addE_len a.1 b.1; show (addE a.1 b.1).1.2.length ≤ _; omega⟩
theorem negS_ok {c : Con} (h : con64 c) : ∀ x ∈ (negS c).1, con64 x ∧ x.1.2.length ≤ c.1.2.length := by
 intro x hx
 unfold negS at hx
 split at hx
 ·cases hx
 split at hx
 ·cases hx
 rename_i hm
 have h1 : con64 (lessV c.1) ∧ (lessV c.1).1.2.length ≤ c.1.2.length := ⟨lessV_64 h hm, by simp [lessV]⟩
 split at hx
 ·rw [List.mem_singleton.1 hx]; exact h1
 split at hx
 ·cases hx
 rename_i hk
 rcases List.mem_cons.1 hx with rfl | hx
 ·refine ⟨⟨?_, h.2⟩, Nat.le_refl _⟩
  have := h.1
  show in64 (c.1.1 - 1)
  unfold in64 at *
  omega
 ·rw [List.mem_singleton.1 hx]; exact h1
def upC (n : Nat) (l : List Con) : Prop := l.length ≤ n ∧ ∀ c ∈ l, con64 c ∧ c.1.2.length ≤ 1000 * n
theorem upC_nil (n : Nat) : upC n [] := ⟨by simp, fun c h => by cases h⟩
theorem upC_mono {n m : Nat} {l : List Con} (h : upC n l) (hm : n ≤ m) : upC m l := ⟨by have := h.1; omega, fun c hc => ⟨(h.2 c hc).1, by have := (h.2 c hc).2; omega⟩⟩
theorem upC_two : ∀ {l : List Ex}, (∀ a ∈ l, upC a.sz (facS a).1) → ∃ m n, m + n ≤ Ex.szs l ∧ upC m ((l.map facS).getD 0 ([], false)).1 ∧ upC n ((l.map facS).getD 1 ([], false)).1
 | [], _ => ⟨0, 0, by simp, upC_nil _, upC_nil _⟩
 | [a], h => ⟨a.sz, 0, by simp [Ex.szs], h a List.mem_cons_self, upC_nil _⟩
 | a :: b :: r, h => ⟨a.sz, b.sz, by simp [Ex.szs, ← Nat.add_assoc], h a List.mem_cons_self, h b (List.mem_cons_of_mem _ List.mem_cons_self)⟩
theorem fac_ok (e : Ex) : lnOk e → upC e.sz (facS e).1 := by
 refine Ex.ind (p := fun e => lnOk e → upC e.sz (facS e).1) (fun e ih h => ?_) e
 obtain ⟨m, n, hmn, ⟨a1, a2⟩, ⟨b1, b2⟩⟩ := upL_two (f := linS) fun a ha => lin_ok a (lnOk_arg h ha)
 obtain ⟨m', n', hmn', c0, c1⟩ := upC_two fun a ha => ih a ha (lnOk_arg h ha)
 have hz := Ex.sz_eq e
 rw [facS_eq]
 unfold facN
 generalize (e.args.map linS).getD 0 lb0 = a at *
 generalize (e.args.map linS).getD 1 lb0 = b at *
 generalize (e.args.map facS).getD 0 ([], false) = c at *
 generalize (e.args.map facS).getD 1 ([], false) = d at *
 split
 ·split
  ·obtain ⟨g1, g2⟩ := cmpS_ok e.op a.1 b.1
   unfold okF
   split
   ·refine ⟨by simp; omega, fun x hx => ?_⟩
    rw [List.mem_singleton.1 hx]
    exact ⟨g1, by show (cmpS e.op a.1 b.1).1.2.length ≤ _; omega⟩
   ·exact upC_nil _
  ·exact upC_nil _
 split
 ·refine ⟨by have := c0.1; have := c1.1; simp only [List.length_append]; omega, fun x hx => ?_⟩
  rcases List.mem_append.1 hx with hx | hx
  ·exact ⟨(c0.2 x hx).1, by have := (c0.2 x hx).2; omega⟩
  ·exact ⟨(c1.2 x hx).1, by have := (c1.2 x hx).2; omega⟩
 split
 ·unfold notF
  split
  ·rename_i x
   obtain ⟨h64, hlen⟩ := c0.2 x List.mem_cons_self
   split
   ·rename_i hh
    refine ⟨by show (negS x).1.length ≤ _; omega, fun y hy => ?_⟩
    obtain ⟨g1, g2⟩ := negS_ok h64 y hy
    exact ⟨g1, by omega⟩
   ·exact upC_nil _
  ·exact upC_nil _
 ·exact upC_nil _
end Go.Proofs.YtbblkakcadonjaaGreatDoor
set_option linter.unusedVariables false
set_option linter.unusedSimpArgs false
namespace Go.Proofs.YtbblkakcadonjaaGreatDoor
open Go.Abs Go.RowKit

def goodL (l : Lin) : Prop := lin64 l ∧ l.2.length ≤ 1000
def rdOk (p : Prg) (a : Ex) : Prop := ∃ t ds, findS p a.name = some (t, ds) ∧ a.idx.length = ds.length ∧ (∀ l ∈ ds, goodL l) ∧
 ∀ x ∈ a.idx, x.2.1 ≠ ⟨⟨[]⟩⟩ → ∃ t' ds', findS p x.2.1 = some (t', ds') ∧ x.2.2.length = ds'.length ∧ ∀ l ∈ ds', goodL l
def exOk (p : Prg) (e : Ex) : Prop := lnOk e ∧ ∀ a ∈ e.pre, a.op = 3 → rdOk p a
theorem exOk_arg {p : Prg} {e a : Ex} (h : exOk p e) (ha : a ∈ e.args) : exOk p a := ⟨lnOk_arg h.1 ha, fun b hb => h.2 b (pre_in ha hb)⟩
theorem reads_ok {q : Prg} {vars : List ByteArray} (e : Ex) : (exTy q vars e).2 = 0 → ∀ a ∈ e.pre, a.op = 3 → (readS q vars a).2 = 0 := by
 refine Ex.ind (p := fun e => (exTy q vars e).2 = 0 → ∀ a ∈ e.pre, a.op = 3 → (readS q vars a).2 = 0) (fun e ih h a ha h3 => ?_) e
 obtain ⟨h1, l, h2⟩ := exTy_node h
 rw [Ex.pre_eq] at ha
 rcases List.mem_cons.1 ha with rfl | ha
 ·unfold nodeTy at h2
  rw [if_neg (by omega), if_neg (by omega), if_pos h3] at h2
  exact h2
 ·have key : ∀ l : List Ex, a ∈ Ex.pres l → ∃ b ∈ l, a ∈ b.pre := by
   intro l
   induction l with
   | nil => intro h; simp [Ex.pres] at h
   | cons b r ihr =>
    intro h
    rw [Ex.pres] at h
    rcases List.mem_append.1 h with h | h
    ·exact ⟨b, List.mem_cons_self, h⟩
    ·obtain ⟨c, hc, h⟩ := ihr h
     exact ⟨c, List.mem_cons_of_mem _ hc, h⟩
  obtain ⟨b, hb, hab⟩ := key _ ha
  exact ih b hb (h1 b hb) a hab h3
theorem findS_before {p : Prg} {k : Nat} {s : ByteArray} {x : Ty × List Lin} (h : findS (before p k) s = some x) : findS p s = some x := by
 unfold findS before at *
 simp only at h
 split
 ·rename_i y hy
  rw [hy] at h
  exact h
 ·rename_i hy
  rw [hy] at h
  simp only at h
  split at h
  ·rename_i d hd
   have : p.defs.find? (fun d => decide (d.name = s)) = some d := by
    rw [← List.take_append_drop k p.defs, List.find?_append, hd]
    rfl
   rw [this]
   exact h
  ·cases h
theorem findS_good {p : Prg} (hf : fewP p) (hL : prgL p) {s : ByteArray} {t : Ty} {ds : List Lin} (h : findS p s = some (t, ds)) : ∀ l ∈ ds, goodL l := by
 unfold findS at h
 split at h
 ·rename_i x hx
  have hm := List.mem_of_find?_eq_some hx
  have e : x.2.2 = ds := by rw [Option.some.inj h]
  subst e
  exact fun l hl => ⟨hL.2.1 x hm l hl, by have := (hf.1 x hm).2 l hl; omega⟩
 ·split at h
  ·rename_i d hd
   have hm := List.mem_of_find?_eq_some hd
   cases h
   intro l hl
   obtain ⟨a, ha, rfl⟩ := List.mem_map.1 hl
   exact ⟨(hL.2.2 d hm).1 a (List.mem_append_left _ ha), by have := (hf.2 d hm).2.2.1 a ha; omega⟩
  ·cases h
theorem rd_of {p : Prg} {k : Nat} {vars : List ByteArray} {a : Ex} (hf : fewP p) (hL : prgL p) (h : (readS (before p k) vars a).2 = 0) : rdOk p a := by
 unfold readS at h
 split at h
 ·cases h
 ·rename_i t ds hfd
  split at h
  ·cases h
  ·rename_i hlen
   split at h
   ·contradiction
   ·rename_i hz
    have hb := findS_before hfd
    refine ⟨t, ds, hb, Classical.not_not.1 hlen, findS_good hf hL hb, fun x hx hn => ?_⟩
    have hix := fstE_zero (Classical.not_not.1 hz) _ (List.mem_map.2 ⟨x, hx, rfl⟩)
    unfold ixErr at hix
    rw [if_neg hn] at hix
    split at hix
    ·cases hix
    ·rename_i t' ds' hfd'
     have hb' := findS_before hfd'
     split at hix
     ·cases hix
     ·split at hix
      ·cases hix
      ·rename_i hl2
       exact ⟨t', ds', hb', Classical.not_not.1 hl2, findS_good hf hL hb'⟩
theorem valid_ex {p : Prg} (hl : ¬ longS p) (h64 : prg64 p) (hL : prgL p) (h : (validS p).2 = 0) {k : Nat} (hk : k < p.defs.length) : exOk p p.defs[k].body ∧ p.defs[k].body.sz ≤ 2000 := by
 obtain ⟨⟨c1, c2, c3, c4, c5⟩, hs, hp, hd⟩ := valid_parts h
 have hf := few_of hl
 obtain ⟨f1, f2, f3, f4⟩ := hf.2 _ (List.getElem_mem hk)
 obtain ⟨_, ht⟩ := def_parts hk (hd k hk)
 obtain ⟨t1, t2⟩ := typeOf_ok ht
 have hr := exErr_rnk t1
 have hz : ∀ a ∈ p.defs[k].body.pre, nodeErr a = 0 := by
  intro a ha
  unfold exErr at t1
  split at t1
  ·cases t1
  ·split at t1
   ·cases t1
   ·exact fstE_zero t1 _ (List.mem_map.2 ⟨a, ha, rfl⟩)
 have hkn := forms_known _ hr (fun a ha => (nodeErr_ok (hz a ha)).1) t2
 have hszb : p.defs[k].body.sz ≤ 2000 := by
  unfold exErr at t1
  split at t1
  ·cases t1
  ·split at t1
   ·cases t1
   ·omega
 refine ⟨⟨⟨hr, fun a ha => ⟨(h64 _ (List.getElem_mem hk) a ha).1, fun l hlm => ⟨(hL.2.2 _ (List.getElem_mem hk)).2 a ha l hlm, ?_⟩⟩⟩, fun a ha h3 => rd_of hf hL (reads_ok _ t2 a ha h3)⟩, hszb⟩
 have hsr := (linOk_iff.1 ((nodeErr_ok (hz a ha)).2.2.2.2.2 l hlm)).1
 have := srt_len hsr (L := idxNames p.defs[k] ++ p.sizes) fun m hm => by
  rcases hkn a ha l hlm m hm with h | h
  ·exact List.mem_append_left _ h
  ·exact List.mem_append_right _ h
 have hln : (idxNames p.defs[k]).length ≤ 24 := by unfold idxNames; simp; omega
 simp only [List.length_append] at this
 omega
theorem needS_len (f x : Lin) : (needS f x).length = 2 := rfl
theorem fm2_len {l : List (Lin × Lin)} : (l.flatMap fun q => needS q.1 q.2).length = 2 * l.length := by
 induction l with
 | nil => rfl
 | cons a r ih => simp only [List.flatMap_cons, List.length_append, ih, needS_len, List.length_cons]; omega
theorem ixC_len {p : Prg} {x : Ix} {d : Lin} (h : x.2.2.length ≤ 6) : (ixC p x d).length ≤ 12 := by
 unfold ixC
 split
 ·simp [needS]
 ·rw [fm2_len]
  have : (x.2.2.zip (dimsF p x.2.1)).length ≤ x.2.2.length := by simp; omega
  omega
theorem readF_len {p : Prg} : ∀ {l : List (Ix × Lin)}, (∀ x ∈ l, x.1.2.2.length ≤ 6) → (l.flatMap fun q => ixC p q.1 q.2).length ≤ 12 * l.length
 | [], _ => by simp
 |a :: r, h => by
  have h1 := ixC_len (p := p) (d := a.2) (h a List.mem_cons_self)
  have h2 := readF_len (p := p) (l := r) fun x hx => h x (List.mem_cons_of_mem _ hx)
  simp only [List.flatMap_cons, List.length_append, List.length_cons]
  omega
theorem ob_len (p : Prg) (e : Ex) : rnkAll e → ∀ cs, (obS p e cs).length ≤ 72 * e.sz := by
 refine Ex.ind (p := fun e => rnkAll e → ∀ cs, (obS p e cs).length ≤ 72 * e.sz) (fun e ih h cs => ?_) e
 obtain ⟨_, _, _, h4, h5⟩ := rnkAll_self h
 have hz := Ex.sz_eq e
 rw [obS_eq, List.length_append]
 have h1 : (if e.op = 3 then (readC p e.idx e.name).map (fun c => (c, cs)) else []).length ≤ 72 := by
  split
  ·rw [List.length_map]
   have := readF_len (p := p) (l := e.idx.zip (dimsF p e.name)) fun x hx => h5 _ (List.of_mem_zip hx).1
   have h6 : (e.idx.zip (dimsF p e.name)).length ≤ e.idx.length := by simp; omega
   unfold readC
   omega
  ·simp
 have ih' : ∀ a ∈ e.args, ∀ cs, (obS p a cs).length ≤ 72 * a.sz := fun a ha => ih a ha (rnkAll_arg h ha)
 have h2 : (obs p e.args cs).length ≤ 72 * Ex.szs e.args := by
  generalize e.args = l at ih'
  clear hz ih h1 h h4 h5
  induction l with
  | nil => simp [obs]
  | cons a r ihr =>
   have := ih' a List.mem_cons_self cs
   have := ihr fun b hb => ih' b (List.mem_cons_of_mem _ hb)
   simp only [obs, List.length_append, Ex.szs]
   omega
 have h3 : (obI p e.args cs).length ≤ 72 * Ex.szs e.args := by
  match hm : e.args with
  | [] => simp [obI]
  | [a] => simp [obI]
  | [a, b] => simp [obI]
  | a :: b :: c :: r =>
   have := ih' a (by rw [hm]; simp) cs
   have := ih' b (by rw [hm]; simp) (cs ++ (facS a).1)
   have := ih' c (by rw [hm]; simp) (cs ++ (facS (notE a)).1)
   simp only [obI, List.length_append, Ex.szs]
   omega
 by_cases h11 : e.op = 11
 ·rw [if_pos h11]; omega
 ·rw [if_neg h11]; omega
end Go.Proofs.YtbblkakcadonjaaGreatDoor
set_option linter.unusedVariables false
set_option linter.unusedSimpArgs false
set_option maxRecDepth 20000
set_option maxHeartbeats 4000000
set_option maxRecDepth 1000000
namespace Go.Proofs.YtbblkakcadonjaaGreatDoor
open Go.Abs Go.RowKit

abbrev aLB (x : LB) : AV := .tup [aLin x.1.1 x.1.2, Go.Abs.B x.2]
abbrev aCB (x : CB) : AV := .tup [aCons x.1, Go.Abs.B x.2]
theorem args1 {l : List Ex} (h : (l.length : Int) = 1) : ∃ a, l = [a] := by match l, h with | [a], _ => exact ⟨a, rfl⟩
theorem args2 {l : List Ex} (h : (l.length : Int) = 2) : ∃ a b, l = [a, b] := by match l, h with | [a, b], _ => exact ⟨a, b, rfl⟩
theorem args3 {l : List Ex} (h : (l.length : Int) = 3) : ∃ a b c, l = [a, b, c] := by match l, h with | [a, b, c], _ => exact ⟨a, b, c, rfl⟩
theorem sz_mem {e a : Ex} (h : a ∈ e.args) : a.sz < e.sz := by
 rw [Ex.sz_eq e]
 generalize e.args = l at h
 induction l with
 | nil => cases h
 | cons b r ih =>
  rw [Ex.szs]
  rcases List.mem_cons.1 h with rfl | h
  ·omega
  ·have := ih h; omega
theorem upL_short {n : Nat} {x : LB} (h : upL n x) (hn : n ≤ 20000) : lin64 x.1 ∧ short x.1.2 ∧ x.1.2.length ≤ 40000000 := ⟨h.1, by have := h.2; unfold short; omega, by have := h.2; omega⟩
set_option maxHeartbeats 2000000 in
theorem bounds_linear_abs (e : Ex) : lnOk e → e.sz ≤ 20000 → PCalls Tryz.prog n_bounds_linear [aEx e] (aLB (linS e)) := by
 refine Ex.ind (p := fun e => lnOk e → e.sz ≤ 20000 → PCalls Tryz.prog n_bounds_linear [aEx e] (aLB (linS e))) (fun e ih h hs => ?_) e
 refine PCalls.of is_bounds_linear (by simp) fun hb => runW_sound ?_
 clear hb
 have ha := (rnkAll_self h.1).1
 rw [linS_eq]
 conv in c_bounds_linear => cbv
 by_cases k2 : e.op = 2
 ·rw [show linN e.op e.val e.ty e.lin (e.args.map linS) = (e.lin, true) by simp [linN, k2]]
  clear ih ha h
  repeat' first | simp (disch := omega) only [go_sem, *, k2] | ((with_reducible refine condT ?_ ?_) <;> intro h <;> try omega) | (with_reducible refine bothW_intro ?_ ?_) | (with_reducible refine nilW_intro (fun h => ?_) ?_)
  all_goals rfl
 by_cases k1 : e.op = 1
 ·rw [show linN e.op e.val e.ty e.lin (e.args.map linS) = ((e.val.1, []), decide (e.ty.1 = 3)) by simp [linN, k1]]
  have pc := lin_Const_abs e.val.1
  clear ih ha h k2
  repeat' first | simp (disch := omega) only [go_sem, *, k1] | ((with_reducible refine condT ?_ ?_) <;> intro h <;> try omega) | (with_reducible refine bothW_intro ?_ ?_) | (with_reducible refine nilW_intro (fun h => ?_) ?_) | (refine w_R pc rfl rfl ?_)
  all_goals rfl
 by_cases k8 : e.op = 8
 ·rw [k8] at ha
  obtain ⟨a, hargs⟩ := args1 (l := e.args) ha
  have hm : a ∈ e.args := by rw [hargs]; exact List.mem_cons_self
  have hN : linN e.op e.val e.ty e.lin (e.args.map linS) = if (linS a).2 = true then okB (scaleE (linS a).1 (-1)) else lb0 := by rw [hargs, k8]; simp [linN]
  rw [hN]
  have pa := ih a hm (lnOk_arg h hm) (by have := sz_mem hm; omega)
  obtain ⟨q1, q2, _⟩ := upL_short (lin_ok a (lnOk_arg h hm)) (by have := sz_mem hm; omega)
  have hg : (e.args.map Ex.row)[0]? = some a.row := by rw [hargs]; rfl
  have hl : e.args.length = 1 := by rw [hargs]; rfl
  clear ih ha h k2 k1 hN hm hargs hs
  generalize linS a = r at *
  obtain ⟨⟨K, l⟩, b⟩ := r
  cases b
  ·rw [if_neg (by simp)]
   repeat' first | simp (disch := omega) only [go_sem, *, k8, hl, hg, Ex.row_eq, Int.toNat_zero] | ((with_reducible refine condT ?_ ?_) <;> intro h <;> try omega) | (with_reducible refine bothW_intro ?_ ?_) | (with_reducible refine nilW_intro (fun h => ?_) ?_) | (refine w_R pa rfl rfl ?_)
   all_goals rfl
  ·rw [if_pos rfl]
   have ps := lin_Scale_abs (a := (K, l)) (b := -1) q1 (by decide) q2
   clear q1 q2
   unfold okB
   generalize scaleE (K, l) (-1) = s at *
   obtain ⟨⟨K', l'⟩, er⟩ := s
   try simp only at ps
   repeat' first | simp (disch := omega) only [go_sem, *, k8, hl, hg, Ex.row_eq, Int.toNat_zero] | ((with_reducible refine condT ?_ ?_) <;> intro h <;> try omega) | (with_reducible refine bothW_intro ?_ ?_) | (with_reducible refine nilW_intro (fun h => ?_) ?_) | (refine w_R pa rfl rfl ?_) | (refine w_R ps rfl rfl ?_)
   all_goals rfl
 by_cases k45 : e.op = 4 ∨ e.op = 5
 ·have ha2 : (e.args.length : Int) = 2 := by rw [ha]; unfold arity; rcases k45 with k | k <;> rw [k] <;> rfl
  obtain ⟨a, b, hargs⟩ := args2 ha2
  have hm : a ∈ e.args := by rw [hargs]; exact List.mem_cons_self
  have hm' : b ∈ e.args := by rw [hargs]; exact List.mem_cons_of_mem _ List.mem_cons_self
  have hN : linN e.op e.val e.ty e.lin (e.args.map linS) = if (linS a).2 = true ∧ (linS b).2 = true then okB (if e.op = 5 then minS (linS b).1 (linS a).1 else addE (linS a).1 (linS b).1) else lb0 := by
   rw [hargs]
   unfold linN
   rw [if_neg k2, if_neg k1, if_neg k8, if_pos k45]
   rfl
  rw [hN]
  have pa := ih a hm (lnOk_arg h hm) (by have := sz_mem hm; omega)
  have pb := ih b hm' (lnOk_arg h hm') (by have := sz_mem hm'; omega)
  obtain ⟨q1, q2, q3⟩ := upL_short (lin_ok a (lnOk_arg h hm)) (by have := sz_mem hm; omega)
  obtain ⟨r1, r2, r3⟩ := upL_short (lin_ok b (lnOk_arg h hm')) (by have := sz_mem hm'; omega)
  have hg : (e.args.map Ex.row)[0]? = some a.row := by rw [hargs]; rfl
  have hg1 : (e.args.map Ex.row)[1]? = some b.row := by rw [hargs]; rfl
  have hl : e.args.length = 2 := by rw [hargs]; rfl
  clear ih ha ha2 h k2 k1 k8 hN hm hm' hargs hs
  generalize linS a = r at *
  obtain ⟨⟨K, l⟩, x⟩ := r
  generalize linS b = r at *
  obtain ⟨⟨K', l'⟩, y⟩ := r
  by_cases hxy : x = true ∧ y = true
  ·obtain ⟨rfl, rfl⟩ := hxy
   rw [if_pos ⟨rfl, rfl⟩]
   unfold okB
   rcases k45 with k | k
   ·have ps := lin_Add_abs q1 r1 q2 r2
    rw [if_neg (by omega)]
    clear q1 q2 r1 r2 q3 r3
    simp only at ps ⊢
    generalize addE (K, l) (K', l') = s at *
    obtain ⟨⟨K2, l2⟩, er⟩ := s
    try simp only at ps
    repeat' first | simp (disch := omega) only [go_sem, *, k, hl, hg, hg1, Ex.row_eq, Int.toNat_zero, Int.toNat_one] | ((with_reducible refine condT ?_ ?_) <;> intro h <;> try omega) | (with_reducible refine bothW_intro ?_ ?_) | (with_reducible refine nilW_intro (fun h => ?_) ?_) | (refine w_R pa rfl rfl ?_) | (refine w_R pb rfl rfl ?_) | (refine w_R ps rfl rfl ?_)
    all_goals rfl
   ·have ps := bounds_minus_abs q1 r1 (by omega) (by omega)
    rw [if_pos k]
    clear q1 q2 r1 r2 q3 r3
    simp only at ps ⊢
    generalize minS (K', l') (K, l) = s at *
    obtain ⟨⟨K2, l2⟩, er⟩ := s
    try simp only at ps
    repeat' first | simp (disch := omega) only [go_sem, *, k, hl, hg, hg1, Ex.row_eq, Int.toNat_zero, Int.toNat_one] | ((with_reducible refine condT ?_ ?_) <;> intro h <;> try omega) | (with_reducible refine bothW_intro ?_ ?_) | (with_reducible refine nilW_intro (fun h => ?_) ?_) | (refine w_R pa rfl rfl ?_) | (refine w_R pb rfl rfl ?_) | (refine w_R ps rfl rfl ?_)
    all_goals rfl
  ·rw [if_neg hxy]
   clear q1 q2 r1 r2 q3 r3
   rcases k45 with k | k
   all_goals
    cases x <;> cases y
    all_goals first
     | (exact absurd ⟨rfl, rfl⟩ hxy; done)
     | skip
    all_goals
     clear hxy
     repeat' first | simp (disch := omega) only [go_sem, *, k, hl, hg, hg1, Ex.row_eq, Int.toNat_zero, Int.toNat_one] | ((with_reducible refine condT ?_ ?_) <;> intro h <;> try omega) | (with_reducible refine bothW_intro ?_ ?_) | (with_reducible refine nilW_intro (fun h => ?_) ?_) | (refine w_R pa rfl rfl ?_) | (refine w_R pb rfl rfl ?_)
    all_goals rfl
 ·have hN : linN e.op e.val e.ty e.lin (e.args.map linS) = lb0 := by
   unfold linN
   rw [if_neg k2, if_neg k1, if_neg k8, if_neg k45]
  rw [hN]
  have k4 : ¬ e.op = 4 := fun h => k45 (.inl h)
  have k5 : ¬ e.op = 5 := fun h => k45 (.inr h)
  clear ih ha h hN k45
  repeat' first | simp (disch := omega) only [go_sem, *, k2, k1, k8, k4, k5] | ((with_reducible refine condT ?_ ?_) <;> intro h <;> try omega) | (with_reducible refine bothW_intro ?_ ?_) | (with_reducible refine nilW_intro (fun h => ?_) ?_)
  all_goals rfl
theorem bounds_compared_abs {e a b : Ex} (h : lnOk e) (hs : e.sz ≤ 20000) (hargs : e.args = [a, b]) : PCalls Tryz.prog n_bounds_compared [aEx e] (if (linS a).2 = true ∧ (linS b).2 = true then .tup [aCon ((cmpS e.op (linS a).1 (linS b).1).1, decide (e.op = 15)), Go.Abs.B (decide ((cmpS e.op (linS a).1 (linS b).1).2 = 0))] else .tup [aCon ((0, []), false), Go.Abs.B false]) := by
 refine PCalls.of is_bounds_compared (by simp) fun hb => runW_sound ?_
 clear hb
 conv in c_bounds_compared => cbv
 have hm : a ∈ e.args := by rw [hargs]; exact List.mem_cons_self
 have hm' : b ∈ e.args := by rw [hargs]; exact List.mem_cons_of_mem _ List.mem_cons_self
 have pa := bounds_linear_abs a (lnOk_arg h hm) (by have := sz_mem hm; omega)
 have pb := bounds_linear_abs b (lnOk_arg h hm') (by have := sz_mem hm'; omega)
 obtain ⟨q1, q2, q3⟩ := upL_short (lin_ok a (lnOk_arg h hm)) (by have := sz_mem hm; omega)
 obtain ⟨r1, r2, r3⟩ := upL_short (lin_ok b (lnOk_arg h hm')) (by have := sz_mem hm'; omega)
 have hg : (e.args.map Ex.row)[0]? = some a.row := by rw [hargs]; rfl
 have hg1 : (e.args.map Ex.row)[1]? = some b.row := by rw [hargs]; rfl
 have hl : e.args.length = 2 := by rw [hargs]; rfl
 clear h hm hm' hargs hs
 generalize linS a = r at *
 obtain ⟨⟨K, l⟩, x⟩ := r
 generalize linS b = r at *
 obtain ⟨⟨K', l'⟩, y⟩ := r
 by_cases hxy : x = true ∧ y = true
 ·obtain ⟨rfl, rfl⟩ := hxy
  rw [if_pos ⟨rfl, rfl⟩]
  have p1 := bounds_minus_abs r1 q1 (by omega) (by omega)
  have p2 := bounds_below_abs q1 r1 (by omega) (by omega)
  clear q1 q2 r1 r2 q3 r3
  simp only at p1 p2 ⊢
  by_cases k : e.op = 13
  ·rw [show cmpS e.op (K, l) (K', l') = belS (K, l) (K', l') by rw [cmpS, if_pos k]]
   generalize minS (K, l) (K', l') = s at *
   obtain ⟨⟨K1, l1⟩, e1⟩ := s
   generalize belS (K, l) (K', l') = s at *
   obtain ⟨⟨K2, l2⟩, er⟩ := s
   try simp only at p1 p2
   repeat' first | simp (disch := omega) only [go_sem, *, k, hl, hg, hg1, Ex.row_eq, Int.toNat_zero, Int.toNat_one] | ((with_reducible refine condT ?_ ?_) <;> intro h <;> try omega) | (with_reducible refine bothW_intro ?_ ?_) | (with_reducible refine nilW_intro (fun h => ?_) ?_) | (refine w_R pa rfl rfl ?_) | (refine w_R pb rfl rfl ?_) | (refine w_R p1 rfl rfl ?_) | (refine w_R p2 rfl rfl ?_)
   all_goals rfl
  ·rw [show cmpS e.op (K, l) (K', l') = minS (K, l) (K', l') by rw [cmpS, if_neg k]]
   generalize minS (K, l) (K', l') = s at *
   obtain ⟨⟨K1, l1⟩, e1⟩ := s
   try simp only at p1
   clear p2
   repeat' first | simp (disch := omega) only [go_sem, *, k, hl, hg, hg1, Ex.row_eq, Int.toNat_zero, Int.toNat_one] | ((with_reducible refine condT ?_ ?_) <;> intro h <;> try omega) | (with_reducible refine bothW_intro ?_ ?_) | (with_reducible refine nilW_intro (fun h => ?_) ?_) | (refine w_R pa rfl rfl ?_) | (refine w_R pb rfl rfl ?_) | (refine w_R p1 rfl rfl ?_)
   all_goals rfl
 ·rw [if_neg hxy]
  clear q1 q2 r1 r2 q3 r3
  cases x <;> cases y
  all_goals first
   | (exact absurd ⟨rfl, rfl⟩ hxy; done)
   | skip
  all_goals
   clear hxy
   repeat' first | simp (disch := omega) only [go_sem, *, hl, hg, hg1, Ex.row_eq, Int.toNat_zero, Int.toNat_one] | ((with_reducible refine condT ?_ ?_) <;> intro h <;> try omega) | (with_reducible refine bothW_intro ?_ ?_) | (with_reducible refine nilW_intro (fun h => ?_) ?_) | (refine w_R pa rfl rfl ?_) | (refine w_R pb rfl rfl ?_)
  all_goals rfl
theorem facN_cmp {e a b : Ex} (hk : 13 ≤ e.op ∧ e.op ≤ 15) (hargs : e.args = [a, b]) : facS e = if (linS a).2 = true ∧ (linS b).2 = true then okF (cmpS e.op (linS a).1 (linS b).1) (decide (e.op = 15)) else ([], false) := by
 rw [facS_eq, hargs, facN, if_pos hk]
 rfl
theorem facN_and {e a b : Ex} (hk : e.op = 16) (hargs : e.args = [a, b]) : facS e = ((facS a).1 ++ (facS b).1, (facS a).2 && (facS b).2) := by
 rw [facS_eq, hargs, facN, if_neg (by omega), if_pos hk]
 rfl
theorem facN_not {e a : Ex} (hk : e.op = 18) (hargs : e.args = [a]) : facS e = notF (facS a) := by
 rw [facS_eq, hargs, facN, if_neg (by omega), if_neg (by omega), if_pos hk]
 rfl
theorem facN_no {e : Ex} (h1 : ¬ (13 ≤ e.op ∧ e.op ≤ 15)) (h2 : e.op ≠ 16) (h3 : e.op ≠ 18) : facS e = ([], false) := by
 rw [facS_eq, facN, if_neg h1, if_neg h2, if_neg h3]
end Go.Proofs.YtbblkakcadonjaaGreatDoor
