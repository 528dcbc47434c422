/- shard.rows with the closure of Gather. -/
import Derived.Test.YtcnbccmmhcoanaaVGath
set_option linter.unusedVariables false
set_option linter.unusedSimpArgs false
set_option maxRecDepth 20000
namespace Go.Proofs.Ytcnbccmmhcoanaa
open Go.Abs Go.RowKit

/-- The memory at Gather's call of rows. -/
abbrev corG (nb nv nc no : Nat) (t : Ty) (ds : List Int) (l : List Fr) (al : Bool) (F : List (Nat × Box)) : List (Nat × Box) :=
 (nb, tnB t nc nv) :: (nv, vA l) :: (nc, iA ds) :: (no, .var [.pure (pB al)]) :: F
/-- A row of a block is written into the tensor. -/
noncomputable def gRow (ds ls os : List Int) (T : List Fr) (s : List Fr × Bool) (c : Nat) : List Fr × Bool :=
 (spl s.1 (blkAt ds ls os ((lastR ls).toNat * c : Nat)).toNat ((T.drop ((lastR ls).toNat * c)).take (lastR ls).toNat),
  if clash s.1 T (blkAt ds ls os ((lastR ls).toNat * c : Nat)).toNat ((lastR ls).toNat * c) (lastR ls).toNat then false else s.2)
noncomputable def gIt (ds ls os : List Int) (T : List Fr) (s : List Fr × Bool) : Nat → List Fr × Bool
 | 0 => s
 | c + 1 => gRow ds ls os T (gIt ds ls os T s c) c
def nRows (ls : List Int) : Nat := (prod ls).toNat / (lastR ls).toNat
theorem spl_len {α : Type} {l s : List α} {o : Nat} (h : o + s.length ≤ l.length) : (spl l o s).length = l.length := by simp [spl]; omega
/-- The rows of a block fit. -/
theorem rows_fit {ds ls os : List Int} (hB : BlkOk ds ls os) {l : List Fr} (hl : (l.length : Int) = prod ds) {c : Nat} (hc : c < nRows ls) :
  (lastR ls).toNat * c + (lastR ls).toNat ≤ (prod ls).toNat ∧ (blkAt ds ls os ((lastR ls).toNat * c : Nat)).toNat + (lastR ls).toNat ≤ l.length := by
 obtain ⟨R, q, hR, hR1, hq⟩ := rows_count (good_of_vld hB.vl)
 have hn : nRows ls = q := by rw [nRows, hq, hR]; exact Nat.mul_div_cancel_left q (by omega)
 have hTR : (lastR ls).toNat = R := by rw [hR]; omega
 have hcr : R * (c + 1) = R * c + R := Nat.mul_succ R c
 have hcq : R * (c + 1) ≤ R * q := Nat.mul_le_mul_left R (by omega)
 rw [hTR]
 refine ⟨by rw [hq]; omega, ?_⟩
 have hpI : lastR ls * (c : Int) = ((R * c : Nat) : Int) := by rw [hR, Int.natCast_mul]
 have := (hB.seg (T := l) hl (c := c) (by rw [hpI, hR, hq]; omega)).1
 rw [hpI, hTR] at this
 exact this
theorem gIt_len {ds ls os : List Int} {T l : List Fr} {al : Bool} (hB : BlkOk ds ls os) (hl : (l.length : Int) = prod ds) : ∀ {c : Nat}, c ≤ nRows ls → (gIt ds ls os T (l, al) c).1.length = l.length
 | 0, _ => rfl
 |c + 1, hc => by
  have ih := gIt_len (T := T) (al := al) hB hl (c := c) (by omega)
  have hf := (rows_fit hB hl (c := c) (by omega)).2
  rw [gIt, gRow]
  simp only
  rw [spl_len, ih]
  rw [ih]
  have : ((T.drop ((lastR ls).toNat * c)).take (lastR ls).toNat).length ≤ (lastR ls).toNat := by simp; omega
  omega

set_option maxHeartbeats 4000000 in
theorem rows_gather {ds ls os : List Int} {T l : List Fr} {al : Bool} {t : Ty} {nb nv nc no nt nx : Nat} {F : List (Nat × Box)} {tx : Ty} {dx : List Int} (hB : BlkOk ds ls os) (hT : (T.length : Int) = prod ls) (hl0 : (l.length : Int) = prod ds) (hF : Go.Abs.frOk nx [nb, nv, nc, no] F)
  (hnt : findB F nt = some (tnV (tx, dx, T))) (d1 : nb < nx) (d2 : nv < nx) (d3 : nc < nx) (d4 : no < nx) (d5 : nt < nx) (e1 : nb ≠ nv) (e2 : nb ≠ nc) (e3 : nb ≠ no) (e4 : nb ≠ nt) (e5 : nv ≠ nc) (e6 : nv ≠ no) (e7 : nv ≠ nt) (e8 : nc ≠ no) (e9 : nc ≠ nt) (e10 : no ≠ nt) :
  ICalls Try.prog n_shard_rows [aInts ds, aInts ls, aInts os, .c (.clo 32 [.ptr nb 0, .ptr nt 0, .ptr no 0])] (corG nb nv nc no t ds l al F) nx (packV []) (corG nb nv nc no t ds (gIt ds ls os T (l, al) (nRows ls)).1 (gIt ds ls os T (l, al) (nRows ls)).2 F) nx := by
 refine ICalls.ofZ is_shard_rows (by simp) fun _ => runW_sound ?_
 have hg := good_of_vld hB.vl
 have hgd := good_of_vld hB.vd
 obtain ⟨R, q, hR, hR1, hq⟩ := rows_count hg
 have hlast : ∀ h : 0 < ls.length, ls[ls.length - 1]'(Nat.sub_lt h Nat.one_pos) = (R : Int) := fun h => by
  rw [← hR, lastR, if_pos h]
  simp [show ls.length - 1 < ls.length by omega]
 have hps := hg.take_le ls.length
 rw [List.take_of_length_le (Nat.le_refl _)] at hps
 have hpd := hgd.take_le ds.length
 rw [List.take_of_length_le (Nat.le_refl _)] at hpd
 have hR2 := (lastR_pos hg).2
 have hl1 := hB.l1
 have hl2 := hB.l2
 have h6 := hgd.len
 have pS := shape_Size_abs ls
 rw [show size ls = ((R * q : Nat) : Int) by rw [size, if_pos hB.vl, hq]] at pS
 have hsz : size ls = ((R * q : Nat) : Int) := by rw [size, if_pos hB.vl, hq]
 have hn : nRows ls = q := by rw [nRows, hq, hR]; exact Nat.mul_div_cancel_left q (by omega)
 have hTR : (lastR ls).toNat = R := by rw [hR]; omega
 have hits : ∀ c, c ≤ q → (gIt ds ls os T (l, al) c).1.length = l.length := fun c hc => by rw [← hn] at hc; exact gIt_len hB hl0 hc
 rw [hn]
 clear hn
 have hle : R * q ≤ 4096 := by omega
 have hl6 : ls.length ≤ 6 := by omega
 have HL1 := Lib.hid hl1
 have HL2 := Lib.hid hl2
 have HQ := Lib.hid hq
 have HRq := Lib.hid hR
 have HSZ := Lib.hid hsz
 have HIT := Lib.hid hits
 have HTR := Lib.hid hTR
 have HL0 := Lib.hid hl0
 have HT := Lib.hid hT
 clear hl1 hl2 hq hR hsz hT hits hTR hl0
 rw [HRq.out] at hR2
 simp only [c_shard_rows]
 have hz : 0 < ls.length ∨ (¬ 0 < ls.length ∧ (R : Int) = 1) := by
  by_cases hz : 0 < ls.length
  ·exact .inl hz
  ·refine .inr ⟨hz, ?_⟩
   rw [← HRq.out, lastR, if_neg hz]
 rcases hz with hz | ⟨hz0, hz⟩
 case' inl =>
  have hl := hlast hz
  have hm1 : ((ls.length : Int) - 1).toNat = ls.length - 1 := by omega
  have hg1 := map_get (f := fun n : Int => [pI n]) (show ls.length - 1 < ls.length by omega)
  rw [hl] at hg1
  clear hl hlast
  repeat' first | simp (disch := omega) only [go_sem, ↓reduceIte, Nat.reduceEqDiff, reduceCtorEq, Int.reduceEq, hm1, hg1, wrap_i64] | ((with_reducible first | refine condD ?_ ?_ | refine condX ?_ ?_ | refine condW_intro ?_ ?_) <;> intro h <;> first | (exfalso; omega) | simp (disch := omega) only [go_sem, ↓reduceIte, Nat.reduceEqDiff, reduceCtorEq, Int.reduceEq, *, hm1, hg1, wrap_i64] | skip)
 case' inr =>
  clear hlast
  repeat' first | simp (disch := omega) only [go_sem, ↓reduceIte, Nat.reduceEqDiff, reduceCtorEq, Int.reduceEq, wrap_i64] | ((with_reducible first | refine condD ?_ ?_ | refine condX ?_ ?_ | refine condW_intro ?_ ?_) <;> intro h <;> first | (exfalso; omega) | simp (disch := omega) only [go_sem, ↓reduceIte, Nat.reduceEqDiff, reduceCtorEq, Int.reduceEq, *, wrap_i64] | skip)
 all_goals
  refine AW_loop (fun c : Nat => ⟨[(0, aInts ds), (1, aInts ls), (2, aInts os), (3, .c (.clo 32 [.ptr nb 0, .ptr nt 0, .ptr no 0])), (8, I R), (10, I ((R * c : Nat) : Int))], corG nb nv nc no t ds (gIt ds ls os T (l, al) c).1 (gIt ds ls os T (l, al) c).2 F, nx, nx⟩) (fun c => c ≤ q) (fun c => q - c) ⟨0, [], Nat.zero_le _, ?_⟩ ?_
  ·refine Wk_intro (by simp (disch := omega) [Wk, wkF, wkM, wkL, look_cons, renV, renA, renC, renB, rn, clV, clA, clAs, clB, notIn, findB, findB_setB, clA.go, ifN, d1, d2, d3, d4, d5, hz, gIt]) ?_ rfl (by simp; try omega) (by simp [wkL]; try omega)
   repeat' first | exact hF.wk (by simp [wkL]; try omega) (by simp; try omega) (by intro n hn; simp (disch := omega) [rn, ifN] at hn ⊢; omega) (by intro nm bx h1 h2 h3; simp only [notIn] at h2; simp only [findB, findB_setB]; (repeat (refine (ifN (by omega)).trans ?_)); exact h3) | refine wkM_cons ?_ ?_ ?_ ?_ ?_ | (simp (disch := omega) [Wk, wkF, wkM, wkL, look_cons, renV, renA, renC, renB, rn, clV, clA, clAs, clB, notIn, findB, findB_setB, clA.go, ifN, d1, d2, d3, d4, d5, hz, gIt] <;> omega) | omega
  intro c hc
  clear hz
  refine runW_sound ?_
  by_cases hlt : c < q
  ·have hcr : R * (c + 1) = R * c + R := Nat.mul_succ R c
   have hcq : R * (c + 1) ≤ R * q := Nat.mul_le_mul_left R hlt
   obtain ⟨p, hp⟩ : ∃ p, p = R * c := ⟨_, rfl⟩
   have hpI : lastR ls * (c : Int) = (p : Int) := by rw [HRq.out, hp, Int.natCast_mul]
   rw [← hp] at hcr ⊢
   have hseg := (hB.seg (T := l) HL0.out (c := c) (by rw [hpI, HRq.out, HQ.out]; omega)).1
   rw [hpI, HRq.out] at hseg
   have hgs : gIt ds ls os T (l, al) (c + 1) = (spl (gIt ds ls os T (l, al) c).1 (blkAt ds ls os p).toNat ((T.drop p).take R), if clash (gIt ds ls os T (l, al) c).1 T (blkAt ds ls os p).toNat p R then false else (gIt ds ls os T (l, al) c).2) := by
    rw [gIt, gRow, HTR.out, ← hp]
   have hXl := HIT.out c (by omega)
   have HGS := Lib.hid hgs
   clear hgs
   obtain ⟨Y, hY⟩ : ∃ Y, Y = gIt ds ls os T (l, al) (c + 1) := ⟨_, rfl⟩
   rw [← hY] at HGS
   generalize gIt ds ls os T (l, al) c = X at *
   have hW := hB.bd (p : Int)
   have hInB := hB.inB (p : Int)
   have hcm : addL os (pointOf ls p) = addL (pointOf ls p) os := addL_comm (by rw [length_pointOf, HL1.out, HL2.out])
   have pO := shape_Offset_abs ds (addL (pointOf ls p) os)
   rw [hcm] at hInB
   rw [offset_in hB.vd hInB] at pO
   have hWe : rank ds (addL (pointOf ls p) os) = ((blkAt ds ls os p).toNat : Int) := by rw [← hcm]; show blkAt ds ls os p = _; omega
   simp only [hWe] at pO
   generalize (blkAt ds ls os p).toNat = W at *
   have hPl := length_pointOf ls (p : Int)
   have pP := fun mem nx => shape_Point_i (xs := ls) (at' := (p : Int)) (by omega) (by rw [HSZ.out]; omega) mem nx
   have hPb : ∀ i (h : i < (pointOf ls p).length) (h' : i < os.length), 0 ≤ (pointOf ls p)[i] + os[i] ∧ (pointOf ls p)[i] + os[i] ≤ 4096 := fun i h h' => by
    have hid : i < ds.length := by have := HL2.out; omega
    have g1 := hInB.2 i hid
    rw [addL_get h, List.getElem?_eq_getElem h, List.getElem?_eq_getElem h', Option.getD_some, Option.getD_some] at g1
    have g2 := (hgd.get hid).2
    omega
   generalize pointOf ls p = P at *
   have HP := Lib.hid hPl
   have HPB := Lib.hid hPb
   have HS := Lib.hid hseg
   have HC := Lib.hid hcr
   have hpq : p < R * q := by omega
   have hpR : p + R ≤ R * q := by omega
   clear hPl hPb hseg hcr hp hpI hW hInB hcm hWe hcq
   generalize hQ : R * q = n at *
   clear hQ
   repeat' first | simp (disch := omega) only [go_sem, ↓reduceIte, Nat.reduceEqDiff, reduceCtorEq, Int.reduceEq, wrap_i64] | ((with_reducible first | refine condD ?_ ?_ | refine condX ?_ ?_ | refine condW_intro ?_ ?_) <;> intro h <;> first | (exfalso; omega) | simp (disch := omega) only [go_sem, ↓reduceIte, Nat.reduceEqDiff, reduceCtorEq, Int.reduceEq, *, wrap_i64] | skip) | (refine callW_of pS rfl (.inl rfl) ?_) | (refine callW_i (pP _ _) ?_)
   have hP6 : P.length ≤ 6 := by have := HP.out; omega
   have dn : nt < nx + 1 := by omega
   have dN : nx < nx + 1 := by omega
   have dM : nb < nx + 1 := by omega
   have dQ : no < nx + 1 := by omega
   refine AW_loop (fun i : Nat => ⟨[(0, aInts ds), (1, aInts ls), (2, aInts os), (3, .c (.clo 32 [.ptr nb 0, .ptr nt 0, .ptr no 0])), (8, I R), (10, I (p : Int)), (11, .c (.ref nx)), (39, I P.length), (40, I i)], (nx, iA ((addL P os).take i ++ P.drop i)) :: corG nb nv nc no t ds X.1 X.2 F, nx + 1, nx⟩) (fun i => i ≤ P.length) (fun i => P.length - i) ⟨0, [], Nat.zero_le _, ?_⟩ ?_
   ·refine Wk_intro (by simp (disch := omega) [Wk, wkF, wkM, wkL, look_cons, renV, renA, renC, renB, rn, clV, clA, clAs, clB, notIn, findB, findB_setB, clA.go, ifN, d1, d2, d3, d4, d5, dn, dN, dM, dQ]) ?_ rfl (by simp; try omega) (by simp [wkL]; try omega)
    repeat' first | exact hF.wk (by simp [wkL]; try omega) (by simp; try omega) (by intro n hn; simp (disch := omega) [rn, ifN] at hn ⊢; omega) (by intro nm bx h1 h2 h3; simp only [notIn] at h2; simp only [findB, findB_setB]; (repeat (refine (ifN (by omega)).trans ?_)); exact h3) | refine wkM_cons ?_ ?_ ?_ ?_ ?_ | (simp (disch := omega) [Wk, wkF, wkM, wkL, look_cons, renV, renA, renC, renB, rn, clV, clA, clAs, clB, notIn, findB, findB_setB, clA.go, ifN, d1, d2, d3, d4, d5, dn, dN, dM, dQ] <;> omega) | omega
   intro i hi
   refine runW_sound ?_
   by_cases hit : i < P.length
   ·have hio : i < os.length := by have := HL2.out; have := HL1.out; have := HP.out; omega
    have hsum := HPB.out i hit hio
    have hw : IntKind.wrap .i64 (P[i] + os[i]) = P[i] + os[i] := wrap_i64 (by omega)
    have hlen : ((addL P os).take i).length = i := by rw [List.length_take, addL_len]; omega
    have hlen2 : ((addL P os).take i ++ P.drop i).length = P.length := by rw [List.length_append, hlen, List.length_drop]; omega
    have hrow : (((addL P os).take i ++ P.drop i).map fun n => [pI n])[i]? = some [pI P[i]] := by
     rw [List.getElem?_map, List.getElem?_append_right (by omega), hlen, Nat.sub_self, List.getElem?_drop]
     simp [hit]
    have hsetd : ((((addL P os).take i ++ P.drop i).map fun n => [pI n]).set i [PC.val (.int .i64 (P[i] + os[i]))]) = ((addL P os).take (i + 1) ++ P.drop (i + 1)).map fun n => [pI n] := by
     rw [addL_take hit, ← List.map_set (f := fun n : Int => [pI n]) (a := P[i] + os[i]), List.set_append_right _ _ (by omega), hlen, Nat.sub_self, List.drop_eq_getElem_cons hit, List.set_cons_zero, List.append_assoc, List.getElem?_eq_getElem hit, List.getElem?_eq_getElem hio]
     rfl
    have HS' := Lib.hid hsetd
    have HL' := Lib.hid hlen
    clear hsetd hlen hsum
    repeat' first | simp (disch := omega) only [go_sem, ↓reduceIte, Nat.reduceEqDiff, reduceCtorEq, Int.reduceEq, map_get hit, map_get hio, hrow, hlen2, wrap_i64, hw, ifN, ifNP, HS'.out] | ((with_reducible first | refine condD ?_ ?_ | refine condX ?_ ?_ | refine condW_intro ?_ ?_) <;> intro h <;> first | (exfalso; omega) | simp (disch := omega) only [go_sem, ↓reduceIte, Nat.reduceEqDiff, reduceCtorEq, Int.reduceEq, *, map_get hit, map_get hio, hrow, hlen2, wrap_i64, hw, ifN, ifNP, HS'.out] | skip)
    refine ⟨i + 1, [], hit, by omega, ?_⟩
    refine Wk_intro (by simp (disch := omega) [Wk, wkF, wkM, wkL, look_cons, renV, renA, renC, renB, rn, clV, clA, clAs, clB, notIn, findB, findB_setB, clA.go, ifN, d1, d2, d3, d4, d5, dn, dN, dM, dQ]) ?_ rfl (by simp; try omega) (by simp [wkL]; try omega)
    repeat' first | exact hF.wk (by simp [wkL]; try omega) (by simp; try omega) (by intro n hn; simp (disch := omega) [rn, ifN] at hn ⊢; omega) (by intro nm bx h1 h2 h3; simp only [notIn] at h2; simp only [findB, findB_setB]; (repeat (refine (ifN (by omega)).trans ?_)); exact h3) | refine wkM_cons ?_ ?_ ?_ ?_ ?_ | (simp (disch := omega) [Wk, wkF, wkM, wkL, look_cons, renV, renA, renC, renB, rn, clV, clA, clAs, clB, notIn, findB, findB_setB, clA.go, ifN, d1, d2, d3, d4, d5, dn, dN, dM, dQ] <;> omega) | omega
   ·have hie : i = P.length := by omega
    have eP : (addL P os).take i ++ P.drop i = addL P os := by
     rw [hie, List.take_of_length_le (by rw [addL_len]; exact Nat.le_refl _), List.drop_eq_nil_of_le (Nat.le_refl _), List.append_nil]
    rw [eP]
    clear eP
    have hnx : ¬ nx = nb := by omega
    have hRn : ((R : Nat) : Int).toNat = R := by omega
    rw [hRn] at HS
    have hTl : (T.length : Int) = prod ls := HT.out
    have hLl : (l.length : Int) = prod ds := HL0.out
    have hQl := HQ.out
    have cb : ∀ mem, findB mem nb = some (tnB t nc nv) → findB mem nt = some (tnV (tx, dx, T)) → findB mem no = some (.var [.pure (pB X.2)]) → findB mem nv = some (vA X.1) →
      ICalls Try.prog 32 [I W, I p, I R, .c (.ptr nb 0), .c (.ptr nt 0), .c (.ptr no 0)] mem (nx + 1) (packV []) (setB (setB mem no (.var [.pure (pB Y.2)])) nv (vA Y.1)) (nx + 1) := fun mem g1 g2 g3 g4 => by
     rw [HGS.out]
     exact gather1_i g1 rfl g2 rfl g3 g4 (by rw [hXl]; exact HS.out) (by omega) (by omega) (by omega) (by omega) rfl
    have CB := Lib.hid cb
    clear cb hRn hTl hLl hQl hXl
    have HY := Lib.hid hY
    clear hY
    obtain ⟨Y1, Y2⟩ := Y
    obtain ⟨X1, X2⟩ := X
    simp only at *
    repeat' first | simp (disch := omega) only [go_sem, ↓reduceIte, Nat.reduceEqDiff, reduceCtorEq, Int.reduceEq, ifN, ifNP, wrap_i64] | ((with_reducible first | refine condD ?_ ?_ | refine condX ?_ ?_ | refine condW_intro ?_ ?_) <;> intro h <;> first | (exfalso; omega) | simp (disch := omega) only [go_sem, ↓reduceIte, Nat.reduceEqDiff, reduceCtorEq, Int.reduceEq, *, ifN, ifNP, wrap_i64] | skip) | (refine callW_of pO (by simp [purVs, purV, purAs, purA, purC, findB]) (.inl rfl) ?_) | (refine callW_i (CB.out _ (by simp (disch := omega) only [findB, findB_setB, ifN, eq_self, ↓reduceIte]) (by simp (disch := omega) only [findB, findB_setB, ifN, eq_self, ↓reduceIte, hnt]) (by simp (disch := omega) only [findB, findB_setB, ifN, eq_self, ↓reduceIte]) (by simp (disch := omega) only [findB, findB_setB, ifN, eq_self, ↓reduceIte])) ?_)
    refine ⟨c + 1, [], hlt, by omega, ?_⟩
    rw [HC.out, Int.natCast_add]
    rw [← HY.out]
    refine Wk_intro (by simp (disch := omega) [Wk, wkF, wkM, wkL, look_cons, renV, renA, renC, renB, rn, clV, clA, clAs, clB, notIn, findB, findB_setB, clA.go, ifN, d1, d2, d3, d4, d5]) ?_ rfl (by simp; try omega) (by simp [wkL]; try omega)
    repeat' first | exact hF.wk (by simp [wkL]; try omega) (by simp; try omega) (by intro n hn; simp (disch := omega) [rn, ifN] at hn ⊢; omega) (by intro nm bx h1 h2 h3; simp only [notIn] at h2; simp only [findB, findB_setB]; (repeat (refine (ifN (by omega)).trans ?_)); exact h3) | refine wkM_cons ?_ ?_ ?_ ?_ ?_ | (simp (disch := omega) [Wk, wkF, wkM, wkL, look_cons, renV, renA, renC, renB, rn, clV, clA, clAs, clB, notIn, findB, findB_setB, clA.go, ifN, d1, d2, d3, d4, d5] <;> omega) | omega
  ·have hcq : c = q := by omega
   subst hcq
   generalize hQ : R * c = n at *
   have hnn : ¬ (n : Int) < n := by omega
   repeat' first | simp (disch := omega) only [go_sem, ↓reduceIte, Nat.reduceEqDiff, reduceCtorEq, Int.reduceEq, ifN, ifNP] | ((with_reducible first | refine condD ?_ ?_ | refine condX ?_ ?_ | refine condW_intro ?_ ?_) <;> intro h <;> first | (exfalso; omega) | simp (disch := omega) only [go_sem, ↓reduceIte, Nat.reduceEqDiff, reduceCtorEq, Int.reduceEq, *, ifN, ifNP] | skip) | (refine callW_of pS rfl (.inl rfl) ?_)
   refine ⟨[], [], ?_⟩
   simp (disch := omega) only [go_sem, ↓reduceIte, Nat.reduceEqDiff, reduceCtorEq, Int.reduceEq, frzLA, ifN, ifNP]
   refine Wk_intro (by simp (disch := omega) [Wk, wkF, wkM, wkL, look_cons, renV, renA, renC, renB, rn, clV, clA, clAs, clB, notIn, findB, findB_setB, clA.go, ifN, d1, d2, d3, d4, d5]) ?_ rfl (by simp; try omega) (by simp [wkL]; try omega)
   repeat' first | exact hF.wk (by simp [wkL]; try omega) (by simp; try omega) (by intro n hn; simp (disch := omega) [rn, ifN] at hn ⊢; omega) (by intro nm bx h1 h2 h3; simp only [notIn] at h2; simp only [findB, findB_setB]; (repeat (refine (ifN (by omega)).trans ?_)); exact h3) | refine wkM_cons ?_ ?_ ?_ ?_ ?_ | (simp (disch := omega) [Wk, wkF, wkM, wkL, look_cons, renV, renA, renC, renB, rn, clV, clA, clAs, clB, notIn, findB, findB_setB, clA.go, ifN, d1, d2, d3, d4, d5] <;> omega) | omega
end Go.Proofs.Ytcnbccmmhcoanaa
