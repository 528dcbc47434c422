/- Plain law: the blocks of a tensor put together give the tensor back; the sizes of the blocks. No program in sight. -/
import Derived.Test.YtcnbccmmhcoanaaVGath5
import Derived.Test.YtcnbccmmhcoanaaPlain51
set_option linter.unusedVariables false
set_option linter.unusedSimpArgs false
namespace Go.Proofs.Ytcnbccmmhcoanaa

theorem tnErr_mk {x : Tn} (h1 : tyOk x.1) (h2 : vld x.2.1 = 0) (h3 : (x.2.2.length : Int) = prod x.2.1) (h4 : ∀ a ∈ x.2.2, valOk x.1 a) : tnErr x = 0 := by
 rw [tnErr, if_neg (not_not_intro h1), if_neg (not_not_intro h2), if_neg (not_not_intro h3), if_pos]
 exact fun i hi hi' => h4 _ (List.getElem_mem hi')
theorem fErr_zero : ∀ {xs : List Tn}, (∀ x ∈ xs, tnErr x = 0) → fErr xs = 0
 | [], _ => rfl
 | y :: r, h => by rw [fErr, if_neg (not_not_intro (h y List.mem_cons_self)), fErr_zero fun x hx => h x (List.mem_cons_of_mem _ hx)]
theorem fMis_zero {t : Ty} {ls : List Int} : ∀ {xs : List Tn}, (∀ x ∈ xs, x.1 = t ∧ x.2.1 = ls) → fMis t ls xs = 0
 | [], _ => rfl
 |y :: r, h => by
  have h1 := h y List.mem_cons_self
  rw [fMis, if_neg (not_not_intro h1.1), if_neg (not_not_intro h1.2), fMis_zero fun x hx => h x (List.mem_cons_of_mem _ hx)]
theorem blk_of {ms ss : List Int} {x : Tn} (h : vspc ms x.2.1 ss = 0) (d : Nat) : BlkOk x.2.1 (locL ms x.2.1 ss) (origL ms x.2.1 ss (pointOf ms d)) :=
 blkOk_of h (pointOf_in (fun y hy => ((vspc_ok h).1.2.2.1 y hy).1) (d : Int))
theorem blk_ok {ms ss : List Int} {x : Tn} (h0 : tnErr x = 0) (h : vspc ms x.2.1 ss = 0) (d : Nat) : tnErr (blk ms x ss d) = 0 := by
 obtain ⟨v1, v2, v3, v4⟩ := tnErr_ok h0
 have hB := blk_of h d
 have hgl := (good_loc h).take_le (locL ms x.2.1 ss).length
 rw [List.take_of_length_le (Nat.le_refl _)] at hgl
 refine tnErr_mk v1 hB.vl ?_ fun a ha => ?_
 ·show ((block _ _ _ _).length : Int) = _
  rw [block_len]
  show ((prod (locL ms x.2.1 ss)).toNat : Int) = prod (locL ms x.2.1 ss)
  omega
 ·obtain ⟨k, hk, rfl⟩ := List.mem_map.1 ha
  have hb := hB.bd (k : Int)
  have hlt : (blkAt x.2.1 (locL ms x.2.1 ss) (origL ms x.2.1 ss (pointOf ms d)) (k : Int)).toNat < x.2.2.length := by omega
  rw [List.getElem?_eq_getElem hlt, Option.getD_some]
  exact v4 _ (List.getElem_mem hlt)
theorem scatL_mem {ms ss : List Int} {x y : Tn} (hy : y ∈ scatL ms x ss) : ∃ d, y = blk ms x ss d := by
 obtain ⟨d, _, rfl⟩ := List.mem_map.1 hy
 exact ⟨d, rfl⟩
theorem scatL_get {ms ss : List Int} {x : Tn} {d : Nat} (hd : d < (prod ms).toNat) : (scatL ms x ss)[d]? = some (blk ms x ss d) := by simp [scatL, hd]
theorem scatL_head {ms ss : List Int} {x : Tn} (h : MeshOk ms) : headTy (scatL ms x ss) = x.1 := by
 have := mesh_prod h
 have h0 : 0 < (scatL ms x ss).length := by rw [scatL_len]; omega
 rw [headTy_get h0]
 obtain ⟨d, hd⟩ := scatL_mem (List.getElem_mem h0)
 rw [hd]
 rfl
theorem scat_chk {ms ss : List Int} {x : Tn} (h0 : tnErr x = 0) (h : vspc ms x.2.1 ss = 0) : chk ms (locL ms x.2.1 ss) (scatL ms x ss) = 0 := by
 have hm := (vspc_ok h).1
 have hp := mesh_prod hm
 rw [chk, if_neg (not_not_intro (by rw [devices_yes hm, scatL_len]; omega)), if_neg (not_not_intro (fErr_zero fun y hy => by obtain ⟨d, rfl⟩ := scatL_mem hy; exact blk_ok h0 h d))]
 refine fMis_zero fun y hy => ?_
 obtain ⟨d, rfl⟩ := scatL_mem hy
 exact ⟨(scatL_head (x := x) (ss := ss) hm).symm, rfl⟩

/-- Nothing is there but elements of T. -/
def Part (T m : List Fr) : Prop := m.length = T.length ∧ ∀ i, i < T.length → fz m i = fz T i ∨ fz m i = (0, 0)
theorem rEl_copy {ds ls os : List Int} {T B m : List Fr} {k : Nat} (hW : (blkAt ds ls os k).toNat < T.length) (hB : fz B k = fz T (blkAt ds ls os k).toNat) (hm : Part T m) : rEl ds ls os B k m = some (m.set (blkAt ds ls os k).toNat (fz T (blkAt ds ls os k).toNat)) := by
 rw [rEl, hB, if_neg]
 rintro ⟨h1, h2⟩
 rcases hm.2 _ hW with h | h
 ·exact h2 h
 ·rw [h] at h1
  exact h1 rfl
theorem part_set {T m : List Fr} {W : Nat} (hW : W < T.length) (hm : Part T m) : Part T (m.set W (fz T W)) := by
 refine ⟨by rw [List.length_set]; exact hm.1, fun i hi => ?_⟩
 rw [fz_set (by rw [hm.1]; exact hW)]
 split
 ·rename_i e; subst e; exact .inl rfl
 ·exact hm.2 i hi
theorem rIt_copy {ds ls os : List Int} {T B m : List Fr} (n : Nat) (hW : ∀ k : Nat, k < n → (blkAt ds ls os k).toNat < T.length) (hB : ∀ k : Nat, k < n → fz B k = fz T (blkAt ds ls os k).toNat) (hm : Part T m) : ∀ k, k ≤ n →
  ∃ m', rIt ds ls os B (some m) k = some m' ∧ Part T m' ∧ (∀ i, i < T.length → fz m i = fz T i → fz m' i = fz T i) ∧ ∀ j : Nat, j < k → fz m' (blkAt ds ls os j).toNat = fz T (blkAt ds ls os j).toNat
 | 0, _ => ⟨m, rfl, hm, fun _ _ h => h, fun j hj => by omega⟩
 |k + 1, hk => by
  obtain ⟨m', h1, h2, h3, h4⟩ := rIt_copy n hW hB hm k (by omega)
  have hw := hW k (by omega)
  refine ⟨_, by rw [rIt, h1, Option.bind_some, rEl_copy hw (hB k (by omega)) h2], part_set hw h2, fun i hi he => ?_, fun j hj => ?_⟩
  ·rw [fz_set (by rw [h2.1]; exact hw)]
   split
   ·rename_i e; rw [e]
   ·exact h3 i hi he
  ·rw [fz_set (by rw [h2.1]; exact hw)]
   split
   ·rename_i e; rw [e]
   ·by_cases e : j = k
    ·subst e; rename_i hne; exact absurd rfl hne
    ·exact h4 j (by omega)
theorem block_fz {ds ls os : List Int} {T : List Fr} {k : Nat} (hk : k < (prod ls).toNat) : fz (block ds ls os T) k = fz T (blkAt ds ls os k).toNat := by
 unfold fz
 rw [block_get hk, Option.getD_some]
theorem rDev_copy {ms ss : List Int} {x : Tn} (h0 : tnErr x = 0) (h : vspc ms x.2.1 ss = 0) : ∀ d, d ≤ (prod ms).toNat → ∃ m, rDev ms x.2.1 ss (scatL ms x ss) d = some m ∧ Part x.2.2 m ∧
  ∀ e : Nat, e < d → ∀ j : Nat, j < (prod (locL ms x.2.1 ss)).toNat → fz m (blkAt x.2.1 (locL ms x.2.1 ss) (origL ms x.2.1 ss (pointOf ms e)) j).toNat = fz x.2.2 (blkAt x.2.1 (locL ms x.2.1 ss) (origL ms x.2.1 ss (pointOf ms e)) j).toNat
 |0, _ => by
  obtain ⟨v1, v2, v3, v4⟩ := tnErr_ok h0
  refine ⟨_, rfl, ⟨by rw [List.length_replicate]; omega, fun i hi => .inr ?_⟩, fun e he => by omega⟩
  unfold fz
  rw [List.getElem?_replicate]
  split <;> rfl
 |d + 1, hd => by
  obtain ⟨v1, v2, v3, v4⟩ := tnErr_ok h0
  obtain ⟨m, h1, h2, h3⟩ := rDev_copy h0 h d (by omega)
  have hW : ∀ (e k : Nat), (blkAt x.2.1 (locL ms x.2.1 ss) (origL ms x.2.1 ss (pointOf ms e)) k).toNat < x.2.2.length := fun e k => by
   have := (blk_of h e).bd (k : Int)
   omega
  obtain ⟨m', k1, k2, k3, k4⟩ := rIt_copy (B := block x.2.1 (locL ms x.2.1 ss) (origL ms x.2.1 ss (pointOf ms d)) x.2.2) (prod (locL ms x.2.1 ss)).toNat (fun k _ => hW d k) (fun k hk => block_fz hk) h2 _ (Nat.le_refl _)
  have hg : ((scatL ms x ss)[d]?.map (·.2.2)).getD [] = block x.2.1 (locL ms x.2.1 ss) (origL ms x.2.1 ss (pointOf ms d)) x.2.2 := by rw [scatL_get (by omega)]; rfl
  refine ⟨m', by rw [rDev, hg, h1]; exact k1, k2, fun e he j hj => ?_⟩
  by_cases ee : e = d
  ·subst ee
   exact k4 j hj
  ·exact k3 _ (hW e j) (h3 e (by omega) j hj)

theorem spec_inj {ms ds ss : List Int} (h : vspc ms ds ss = 0) {i j : Nat} (hi : i < ds.length) (hj : j < ds.length) (h0 : 0 ≤ ss[i]?.getD 0) (e : ss[i]?.getD 0 = ss[j]?.getD 0) : i = j := by
 obtain ⟨g1, g2, g3, g4⟩ := vspc_ok h
 have key : ∀ i j, i < j → j < ds.length → 0 ≤ ss[j]?.getD 0 → ss[i]?.getD 0 ≠ ss[j]?.getD 0 := fun i j hij hj h0 e => by
  have hjs : j < ss.length := by omega
  have his : i < ss.length := by omega
  rw [List.getElem?_eq_getElem hjs, Option.getD_some] at h0 e
  rw [List.getElem?_eq_getElem his, Option.getD_some] at e
  refine (g4 j hjs hjs).2.2 h0 ?_
  rw [← e]
  exact List.mem_take_iff_getElem.2 ⟨i, by omega, rfl⟩
 rcases Nat.lt_trichotomy i j with hlt | he | hgt
 ·exact absurd e (key i j hlt hj (by rw [← e]; exact h0))
 ·exact he
 ·exact absurd e.symm (key j i hgt hi h0)
/-- The coordinates of a device that holds the index q. -/
noncomputable def devOf (ms ds ss q : List Int) : List Int :=
 (List.range ms.length).map fun (a : Nat) => @dite _ (∃ j, j < ds.length ∧ ss[j]?.getD 0 = (a : Int)) (Classical.propDecidable _) (fun h => q[h.choose]?.getD 0 / locAt ms ds ss h.choose) (fun _ => 0)
theorem devOf_get {ms ds ss q : List Int} (h : vspc ms ds ss = 0) {j : Nat} (hj : j < ds.length) (h0 : 0 ≤ ss[j]?.getD 0) : (devOf ms ds ss q)[(ss[j]?.getD 0).toNat]?.getD 0 = q[j]?.getD 0 / locAt ms ds ss j := by
 have hm := ((loc_mul h hj).2.2.1 h0).1
 have hex : ∃ i, i < ds.length ∧ ss[i]?.getD 0 = (((ss[j]?.getD 0).toNat : Nat) : Int) := ⟨j, hj, by omega⟩
 have hc := hex.choose_spec
 have he : hex.choose = j := spec_inj h hc.1 hj (by rw [hc.2]; omega) (by rw [hc.2]; omega)
 have e1 : (devOf ms ds ss q)[(ss[j]?.getD 0).toNat]?.getD 0 = q[hex.choose]?.getD 0 / locAt ms ds ss hex.choose := by
  simp only [devOf, List.getElem?_map, List.getElem?_range hm, Option.map_some, Option.getD_some]
  rw [dif_pos hex]
 rw [e1, he]
theorem devOf_in {ms ds ss q : List Int} (h : vspc ms ds ss = 0) (hq : InB ds q) : InB ms (devOf ms ds ss q) := by
 have hmo := (vspc_ok h).1
 refine ⟨by simp [devOf], fun a ha => ?_⟩
 simp only [devOf, List.getElem?_map, List.getElem?_range ha, Option.map_some, Option.getD_some]
 have hma := (hmo.get ha).1
 split
 ·rename_i hex
  have hc := hex.choose_spec
  generalize hex.choose = j at *
  obtain ⟨k1, k2, k3, k4⟩ := loc_mul h hc.1
  have k5 := k3 (by rw [hc.2]; omega)
  have hqj := hq.2 j hc.1
  rw [hc.2, Int.toNat_natCast] at k5
  refine ⟨Int.ediv_nonneg hqj.1 (by omega), ?_⟩
  refine Int.ediv_lt_of_lt_mul (by omega) ?_
  rw [k5.2.1]
  exact hqj.2
 ·omega
theorem cover {ms ds ss : List Int} (h : vspc ms ds ss = 0) {i : Int} (h0 : 0 ≤ i) (h1 : i < prod ds) : ∃ d : Nat, d < (prod ms).toNat ∧ ∃ k : Nat, k < (prod (locL ms ds ss)).toNat ∧ blkAt ds (locL ms ds ss) (origL ms ds ss (pointOf ms d)) k = i := by
 obtain ⟨g1, g2, g3, g4⟩ := vspc_ok h
 have hgd := good_of_vld g2
 have hgl := good_loc h
 have hmpos : ∀ y ∈ ms, 1 ≤ y := fun y hy => (g1.2.2.1 y hy).1
 have hq := pointOf_in hgd.pos i
 have hrq := rank_point hgd.pos h0 h1
 generalize pointOf ds i = q at *
 have hp := devOf_in (ss := ss) h hq
 have hpd := rank_bd hmpos hp
 have hpp := point_rank hmpos hp
 have hpg := fun (j : Nat) (hj : j < ds.length) (hs : 0 ≤ ss[j]?.getD 0) => devOf_get (q := q) h hj hs
 generalize devOf ms ds ss q = p at *
 obtain ⟨r, hr⟩ : ∃ r, r = (List.range ds.length).map fun j => q[j]?.getD 0 - origAt ms ds ss p j := ⟨_, rfl⟩
 have hrl : r.length = ds.length := by rw [hr]; simp
 have hrg : ∀ j, j < ds.length → r[j]?.getD 0 = q[j]?.getD 0 - origAt ms ds ss p j := fun j hj => by rw [hr]; simp [hj]
 have hrB : InB (locL ms ds ss) r := by
  refine ⟨by rw [hrl, locL_len], fun j hj => ?_⟩
  rw [locL_len] at hj
  rw [hrg j hj, locL_get hj]
  obtain ⟨k1, k2, k3, k4⟩ := loc_mul h hj
  have hqj := hq.2 j hj
  unfold origAt
  by_cases hs : 0 ≤ ss[j]?.getD 0
  ·rw [if_pos hs, hpg j hj hs]
   have e1 := Int.mul_ediv_add_emod (q[j]?.getD 0) (locAt ms ds ss j)
   have e2 := Int.emod_nonneg (q[j]?.getD 0) (show locAt ms ds ss j ≠ 0 by omega)
   have e3 := Int.emod_lt_of_pos (q[j]?.getD 0) (show 0 < locAt ms ds ss j by omega)
   rw [Int.mul_comm] at e1
   omega
  ·rw [if_neg hs, k4 hs]
   omega
 have hrd := rank_bd hgl.pos hrB
 have hrp := point_rank hgl.pos hrB
 refine ⟨(rank ms p).toNat, by omega, (rank (locL ms ds ss) r).toNat, by omega, ?_⟩
 rw [show (((rank ms p).toNat : Nat) : Int) = rank ms p by omega, show (((rank (locL ms ds ss) r).toNat : Nat) : Int) = rank (locL ms ds ss) r by omega, blkAt, hpp, hrp]
 rw [show addL (origL ms ds ss p) r = q from ?_]
 ·exact hrq
 ·refine eq_of_get (n := ds.length) (by rw [addL_len, origL_len]) hq.1.symm fun j hj => ?_
  rw [addL_get (by rw [origL_len]; exact hj), origL_get hj, hrg j hj]
  omega
/-- The blocks of a tensor put together give it back. -/
theorem gath_scat {ms ss : List Int} {x : Tn} (h0 : tnErr x = 0) (h : vspc ms x.2.1 ss = 0) : gath ms x.2.1 ss (scatL ms x ss) = (x, 0) := by
 obtain ⟨v1, v2, v3, v4⟩ := tnErr_ok h0
 have hm := (vspc_ok h).1
 obtain ⟨m, k1, k2, k3⟩ := rDev_copy h0 h _ (Nat.le_refl _)
 have hmT : m = x.2.2 := fz_ext k2.1 fun i hi => by
  rw [k2.1] at hi
  obtain ⟨d, hd, k, hk, he⟩ := cover h (i := (i : Int)) (by omega) (by omega)
  have := k3 d hd k hk
  rw [he, Int.toNat_natCast] at this
  exact this
 rw [gath_eq h (scat_chk h0 h), scatL_len, k1, hmT, scatL_head hm]
 rfl

/-- The product of the extents that entries name, among those below k. -/
def usedP (ms : List Int) (k : Nat) : List Int → Int
 | [] => 1
 | s :: r => (if 0 ≤ s ∧ s < k then ms[s.toNat]?.getD 0 else 1) * usedP ms k r
theorem usedP_snoc (ms : List Int) (k : Nat) (s : Int) : ∀ l, usedP ms k (l ++ [s]) = usedP ms k l * (if 0 ≤ s ∧ s < k then ms[s.toNat]?.getD 0 else 1)
 | [] => by simp [usedP]
 | a :: r => by rw [List.cons_append, usedP, usedP, usedP_snoc ms k s r, Int.mul_assoc]
theorem usedP_zero (ms : List Int) : ∀ l, usedP ms 0 l = 1
 | [] => rfl
 | s :: r => by rw [usedP, if_neg (by omega), usedP_zero ms r, Int.one_mul]
theorem usedP_step {ms ss : List Int} {N : Nat} (h : entOk N ss) (k : Nat) : ∀ n, n ≤ ss.length → usedP ms (k + 1) (ss.take n) = usedP ms k (ss.take n) * (if (k : Int) ∈ ss.take n then ms[k]?.getD 0 else 1)
 | 0, _ => by simp [usedP]
 |n + 1, hn => by
  have ih := usedP_step (ms := ms) h k n (by omega)
  have hnl : n < ss.length := by omega
  have he := h n hnl hnl
  rw [List.take_succ_eq_append_getElem hnl, usedP_snoc, usedP_snoc, ih]
  by_cases e : ss[n] = (k : Int)
  ·have hni : ¬ (k : Int) ∈ ss.take n := by rw [← e]; exact he.2.2 (by omega)
   rw [if_neg hni, e, if_pos (by omega), if_neg (by omega), if_pos (by simp)]
   simp
  ·have hmem : (k : Int) ∈ ss.take n ++ [ss[n]] ↔ (k : Int) ∈ ss.take n := by
    rw [List.mem_append, List.mem_singleton]
    exact ⟨fun h => h.elim id fun h => absurd h.symm e, .inl⟩
   by_cases h0 : 0 ≤ ss[n] ∧ ss[n] < (k : Int)
   ·rw [if_pos (show 0 ≤ ss[n] ∧ ss[n] < ((k + 1 : Nat) : Int) by omega), if_pos h0]
    by_cases hk : (k : Int) ∈ ss.take n
    ·rw [if_pos hk, if_pos (hmem.2 hk), Int.mul_right_comm]
    ·rw [if_neg hk, if_neg (fun h => hk (hmem.1 h)), Int.mul_right_comm]
   ·rw [if_neg (show ¬ (0 ≤ ss[n] ∧ ss[n] < ((k + 1 : Nat) : Int)) by omega), if_neg h0]
    by_cases hk : (k : Int) ∈ ss.take n
    ·rw [if_pos hk, if_pos (hmem.2 hk), Int.mul_right_comm]
    ·rw [if_neg hk, if_neg (fun h => hk (hmem.1 h)), Int.mul_right_comm]
/-- The devices are those that hold different blocks, times those that hold the same. -/
theorem prod_used {ms ss : List Int} (h : entOk ms.length ss) : ∀ k, k ≤ ms.length → prod (ms.take k) = usedP ms k ss * repL ms ss k
 | 0, _ => by rw [List.take_zero, usedP_zero, repL]; rfl
 |k + 1, hk => by
  have ih := prod_used h k (by omega)
  have hs := usedP_step (ms := ms) h k ss.length (Nat.le_refl _)
  rw [List.take_of_length_le (Nat.le_refl _)] at hs
  rw [prod_take_succ (by omega), ih, hs, repL]
  split
  ·rw [Int.mul_one, Int.mul_right_comm]
  ·rw [Int.mul_one, Int.mul_assoc]
theorem prod_loc {ms ds ss : List Int} (h : vspc ms ds ss = 0) : ∀ n, n ≤ ds.length → prod (ds.take n) = usedP ms ms.length (ss.take n) * prod ((locL ms ds ss).take n)
 | 0, _ => by simp [usedP, prod]
 |n + 1, hn => by
  have ih := prod_loc h n (by omega)
  have g3 := (vspc_ok h).2.2.1
  have hns : n < ss.length := by omega
  have hsv : ss[n]?.getD 0 = ss[n] := by simp [hns]
  obtain ⟨k1, k2, k3, k4⟩ := loc_mul h (show n < ds.length by omega)
  rw [hsv] at k3 k4
  rw [prod_take_succ (by omega), prod_take_succ (by rw [locL_len]; omega), ih, List.take_succ_eq_append_getElem hns, usedP_snoc, locL_get (by omega)]
  by_cases h0 : 0 ≤ ss[n]
  ·obtain ⟨j1, j2, j3⟩ := k3 h0
   rw [if_pos ⟨h0, by omega⟩, ← j2]
   simp only [Int.mul_assoc, Int.mul_comm, Int.mul_left_comm]
  ·rw [if_neg (fun h => h0 h.1), k4 h0, Int.mul_one, Int.mul_assoc]
theorem sizes_add {ms ds ss : List Int} (h : vspc ms ds ss = 0) : prod ms * prod (locL ms ds ss) = prod ds * repL ms ss ms.length := by
 obtain ⟨g1, g2, g3, g4⟩ := vspc_ok h
 have e1 := prod_used g4 ms.length (Nat.le_refl _)
 rw [List.take_of_length_le (Nat.le_refl _)] at e1
 have e2 := prod_loc h ds.length (Nat.le_refl _)
 rw [List.take_of_length_le (Nat.le_refl _), List.take_of_length_le (by omega), List.take_of_length_le (by rw [locL_len]; exact Nat.le_refl _)] at e2
 rw [e1, e2, Int.mul_right_comm]
end Go.Proofs.Ytcnbccmmhcoanaa
