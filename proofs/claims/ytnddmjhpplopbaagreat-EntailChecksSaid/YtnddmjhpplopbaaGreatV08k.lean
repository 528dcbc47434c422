/- The law EntailChecks as a contract of the abstract machine. -/
import Derived.Test.YtnddmjhpplopbaaGreatV08e
import Derived.Test.YtnddmjhpplopbaaGreatV07yc
set_option linter.unusedVariables false
set_option linter.unusedSimpArgs false
set_option maxRecDepth 20000
namespace Go.Proofs.YtnddmjhpplopbaaGreat
open Go.Abs Go.RowKit

set_option maxHeartbeats 2000000 in
theorem ref08_CheckCertificate_abs {l : List Con} {c : Con} {b : List Int} (h64 : ∀ d ∈ l, con64 d) (hc : con64 c) (hl : l.length ≤ 1000) (ht : tot l + c.1.2.length ≤ 1000000) (hb : ∀ x ∈ b, in64 x) :
  PCalls Tryz.prog n_ref08_CheckCertificate [aCons l, aCon c, aInts b] (I (chkS l c b)) := by
 refine PCalls.of is_ref08_CheckCertificate (by simp) fun hbd => runW_sound ?_
 have hbl : b.length ≤ 9223372036854775807 := by have := hbd.2.2.1; simpa [bndV, bndA] using this
 clear hbd
 simp only [c_ref08_CheckCertificate]
 have pn := ref08_Questions_abs (l := l) hc (by unfold short; omega) hl
 have hn64 := negaS_64 (l := l) hc
 have hntot := fun d (hd : d ∈ (negaS l c).1) => negaS_tot hd
 have hn2 := negaS_two l c
 unfold questS at pn
 unfold chkS
 generalize negaS l c = X at *
 obtain ⟨P, e⟩ := X
 obtain ⟨⟨K, m⟩, q⟩ := c
 simp only at pn hn64 hntot hn2 ht ⊢
 by_cases h0 : e = 0
 ·subst h0
  rw [if_neg (by simp)] at pn ⊢
  have hp : P.length = 0 ∨ P.length = 1 ∨ P.length = 2 := by omega
  have hml : (P.map fun p => l ++ [p]).length = P.length := by simp
  have wl : IntKind.wrap .i64 ((l.length : Int) + 1) = (l.length : Int) + 1 := wrap_i64 (by omega)
  have wm : IntKind.wrap .i64 ((P.length : Int) * ((l.length : Int) + 1)) = (P.length : Int) * ((l.length : Int) + 1) := by
   rcases hp with h | h | h <;> rw [h] <;> exact wrap_i64 (by omega)
  by_cases hbn : b.length = P.length * (l.length + 1)
  ·rw [if_neg (not_not_intro hbn)]
   have hbi : (b.length : Int) = (P.length : Int) * ((l.length : Int) + 1) := by rw [hbn, Int.natCast_mul, Int.natCast_add]; rfl
   obtain ⟨R, hR⟩ : ∃ R, R = chkG l b 0 (P.drop 0) := ⟨_, rfl⟩
   have hR0 : chkG l b 0 P = R := hR.symm
   rw [hR0]
   have HR := Lib.hid hR
   clear hR hR0
   repeat' first | simp (disch := omega) only [go_sem, ↓reduceIte, Nat.reduceEqDiff, reduceCtorEq, Int.reduceEq, wl, wm, hml, hbi] | ((with_reducible first | refine condD ?_ ?_ | refine condX ?_ ?_ | refine condW_intro ?_ ?_) <;> intro h <;> first | (exfalso; omega) | simp (disch := omega) only [go_sem, ↓reduceIte, Nat.reduceEqDiff, reduceCtorEq, Int.reduceEq, *, wl, wm, hml, hbi] | skip) | (refine callW_of pn rfl (.inr rfl) ?_)
   refine AW_loop (fun i : Nat => ⟨[(2, aInts b), (7, aQs (P.map fun p => l ++ [p])), (9, I (l.length + 1)), (10, I i)], [], 0, 0⟩)
    (fun i => i ≤ P.length ∧ Hid (R = chkG l b i (P.drop i))) (fun i => P.length - i) ⟨0, [], ⟨Nat.zero_le _, HR⟩, by simp [Wk, wkF, wkM, wkL, look_cons, renV, renA, renC, renB, rn, clV, clA, clAs, clB, notIn, findB, findB_setB, clA.go, wl]⟩ ?_
   clear HR pn wm wl
   rintro i ⟨hi, HR⟩
   refine runW_sound ?_
   by_cases hlt : i < P.length
   ·have g1 : ((P.map fun p => l ++ [p]).map fun q => [pSl cP q])[i]? = some [pSl cP (l ++ [P[i]])] := by simp [hlt]
    have h2 := HR.out
    rw [chkG_drop hlt] at h2
    have hp2 := hn64 _ (List.getElem_mem hlt)
    have hpt := hntot _ (List.getElem_mem hlt)
    have hi01 : i = 0 ∨ i = 1 := by omega
    have hlen : (i + 1) * (l.length + 1) ≤ b.length := by
     rw [hbn]; exact Nat.mul_le_mul_right _ hlt
    have hsub : (i + 1) * (l.length + 1) = i * (l.length + 1) + (l.length + 1) := Nat.succ_mul _ _
    have pk := ref07_CheckCertificate_abs (l := l ++ [P[i]]) (b := (b.take ((i + 1) * (l.length + 1))).drop (i * (l.length + 1))) (app_64 h64 hp2) (by rw [tot_one]; omega) (fun x hx => hb x (List.mem_of_mem_take (List.mem_of_mem_drop hx)))
    have w1 : IntKind.wrap .i64 ((i : Int) * ((l.length : Int) + 1)) = ((i * (l.length + 1) : Nat) : Int) := by
     rcases hi01 with h | h <;> subst h
     ·rw [wrap_i64 (by omega)]; omega
     ·rw [wrap_i64 (by omega)]; omega
    have w2 : IntKind.wrap .i64 (((i * (l.length + 1) : Nat) : Int) + ((l.length : Int) + 1)) = (((i + 1) * (l.length + 1) : Nat) : Int) := by
     rw [hsub, wrap_i64 (by rcases hi01 with h | h <;> subst h <;> omega)]
     omega
    clear HR hp2 hpt hn64 hntot hbn hbi
    generalize checkS (l ++ [P[i]]) ((b.take ((i + 1) * (l.length + 1))).drop (i * (l.length + 1))) = CK at *
    generalize (i + 1) * (l.length + 1) = HI at *
    generalize i * (l.length + 1) = LO at *
    have hle : LO ≤ HI := by omega
    clear hsub
    have ew : ((b.map fun n => [pI n]).take HI).drop LO = ((b.take HI).drop LO).map fun n => [pI n] := by rw [List.map_drop, List.map_take]
    have hro : rowsOk 1 (b.map fun n => [pI n]) := rowsOk_map fun _ => rfl
    have tk : (b.map fun n => [pI n]).take b.length = b.map fun n => [pI n] := List.take_of_length_le (by simp)
    by_cases he : CK = 0
    ·subst he
     rw [if_neg (by simp)] at h2
     have HR := Lib.hid h2
     clear h2
     repeat' first | simp (disch := omega) only [go_sem, ↓reduceIte, Nat.reduceEqDiff, reduceCtorEq, Int.reduceEq, g1, hml, w1, w2, wrap_i64, hro, ew, tk, Int.toNat_natCast, Option.getD_some, Option.getD_none, List.length_map, Option.isSome_none, Bool.false_eq_true, false_and, and_false] | ((with_reducible first | refine condD ?_ ?_ | refine condX ?_ ?_ | refine condW_intro ?_ ?_) <;> intro h <;> first | (exfalso; omega) | simp (disch := omega) only [go_sem, ↓reduceIte, Nat.reduceEqDiff, reduceCtorEq, Int.reduceEq, *, g1, hml, w1, w2, wrap_i64, hro, ew, tk, Int.toNat_natCast, Option.getD_some, Option.getD_none, List.length_map, Option.isSome_none, Bool.false_eq_true, false_and, and_false] | skip) | (with_reducible refine bothW_intro ?_ ?_) | (with_reducible refine nilW_intro (fun h => ?_) ?_) | (refine callW_of pk rfl (.inl rfl) ?_)
     all_goals exact ⟨i + 1, [], ⟨hlt, HR⟩, by omega, by simp [Wk, wkF, wkM, wkL, look_cons, renV, renA, renC, renB, rn, clV, clA, clAs, clB, notIn, findB, findB_setB, clA.go]⟩
    ·rw [if_pos he] at h2
     subst h2
     repeat' first | simp (disch := omega) only [go_sem, ↓reduceIte, Nat.reduceEqDiff, reduceCtorEq, Int.reduceEq, g1, hml, w1, w2, he, wrap_i64, hro, ew, tk, Int.toNat_natCast, Option.getD_some, Option.getD_none, List.length_map, Option.isSome_none, Bool.false_eq_true, false_and, and_false] | ((with_reducible first | refine condD ?_ ?_ | refine condX ?_ ?_ | refine condW_intro ?_ ?_) <;> intro h <;> first | (exfalso; omega) | simp (disch := omega) only [go_sem, ↓reduceIte, Nat.reduceEqDiff, reduceCtorEq, Int.reduceEq, *, g1, hml, w1, w2, he, wrap_i64, hro, ew, tk, Int.toNat_natCast, Option.getD_some, Option.getD_none, List.length_map, Option.isSome_none, Bool.false_eq_true, false_and, and_false] | skip) | (with_reducible refine bothW_intro ?_ ?_) | (with_reducible refine nilW_intro (fun h => ?_) ?_) | (refine callW_of pk rfl (.inl rfl) ?_)
     all_goals rfl
   ·have h2 := HR.out
    rw [List.drop_eq_nil_of_le (by omega), chkG] at h2
    subst h2
    clear HR hn64 hntot
    repeat' first | simp (disch := omega) only [go_sem, ↓reduceIte, Nat.reduceEqDiff, reduceCtorEq, Int.reduceEq, hml] | ((with_reducible first | refine condD ?_ ?_ | refine condX ?_ ?_ | refine condW_intro ?_ ?_) <;> intro h <;> first | (exfalso; omega) | simp (disch := omega) only [go_sem, ↓reduceIte, Nat.reduceEqDiff, reduceCtorEq, Int.reduceEq, *, hml] | skip)
    all_goals rfl
  ·rw [if_pos hbn]
   have hbi : ¬ (b.length : Int) = (P.length : Int) * ((l.length : Int) + 1) := fun h => hbn (by
    have h3 : ((P.length * (l.length + 1) : Nat) : Int) = (P.length : Int) * ((l.length : Int) + 1) := by rw [Int.natCast_mul, Int.natCast_add]; rfl
    omega)
   repeat' first | simp (disch := omega) only [go_sem, ↓reduceIte, Nat.reduceEqDiff, reduceCtorEq, Int.reduceEq, wl, wm, hml, hbi] | ((with_reducible first | refine condD ?_ ?_ | refine condX ?_ ?_ | refine condW_intro ?_ ?_) <;> intro h <;> first | (exfalso; omega) | simp (disch := omega) only [go_sem, ↓reduceIte, Nat.reduceEqDiff, reduceCtorEq, Int.reduceEq, *, wl, wm, hml, hbi] | skip) | (refine callW_of pn rfl (.inr rfl) ?_)
   all_goals rfl
 ·rw [if_pos h0] at pn ⊢
  repeat' first | simp (disch := omega) only [go_sem, ↓reduceIte, Nat.reduceEqDiff, reduceCtorEq, Int.reduceEq, h0] | ((with_reducible first | refine condD ?_ ?_ | refine condX ?_ ?_ | refine condW_intro ?_ ?_) <;> intro h <;> first | (exfalso; omega) | simp (disch := omega) only [go_sem, ↓reduceIte, Nat.reduceEqDiff, reduceCtorEq, Int.reduceEq, *, h0] | skip) | (refine callW_of pn rfl (.inr rfl) ?_)
  all_goals rfl
set_option maxHeartbeats 2000000 in
theorem EntailChecks_abs (ps0 ps1 ps2 : List PC) (h0 : OkPs [.slice [.int .i64, .slice [.str, .int .i64], .bool]] ps0) (h1 : OkPs [.int .i64, .slice [.str, .int .i64], .bool] ps1) (h2 : OkPs [.slice [.int .i64]] ps2) :
  PCalls Tryz.prog 3 [argV false ps0, argV true ps1, argV false ps2] (Go.Abs.B true) := by
 obtain ⟨l, rfl, hl, _⟩ := okConsL h0
 obtain ⟨c, rfl, hc⟩ := okCon h1
 obtain ⟨_, rfl, k2⟩ := okOne h2
 obtain ⟨b, rfl, hb, _⟩ := okInts k2
 clear h0 h1 h2 k2
 show PCalls _ n_law08_EntailChecks [aCons l, aCon c, aInts b] _
 refine PCalls.of is_law08_EntailChecks (by simp) fun _ => runW_sound ?_
 have pf := ref08_Small_abs l 8
 have pc := ref08_Small_abs [c] 1
 have pa := law08_alive_abs
 simp only [c_law08_EntailChecks]
 by_cases g1 : smL l 8
 ·rw [decide_eq_true g1] at pf
  by_cases g2 : smL [c] 1
  ·rw [decide_eq_true g2] at pc
   by_cases g3 : (b.length : Int) > 40
   ·clear g1 g2 hl hc hb
    obtain ⟨⟨K, m⟩, q⟩ := c
    repeat' first | simp (disch := omega) only [go_sem, ↓reduceIte, Nat.reduceEqDiff, reduceCtorEq, Int.reduceEq, g3] | ((with_reducible first | refine condD ?_ ?_ | refine condX ?_ ?_ | refine condW_intro ?_ ?_) <;> intro h <;> first | (exfalso; omega) | simp (disch := omega) only [go_sem, ↓reduceIte, Nat.reduceEqDiff, reduceCtorEq, Int.reduceEq, *, g3] | skip) | (with_reducible refine bothW_intro ?_ ?_) | (with_reducible refine nilW_intro (fun h => ?_) ?_) | (refine callW_of pf rfl (.inl rfl) ?_) | (refine callW_of pc rfl (.inl rfl) ?_) | (refine callW_of pa rfl (.inl rfl) ?_)
    all_goals rfl
   ·have ht := smL_tot g1
    have hn := g1.1
    have hcl := (g2.2 c (by simp)).1
    have p1 := entail_CheckCertificate_abs (b := b) hl hc (by omega) (by omega) hb
    have p2 := ref08_CheckCertificate_abs (b := b) hl hc (by omega) (by omega) hb
    clear g1 g2 ht hn hcl hl hc hb
    generalize chkS l c b = CK at *
    obtain ⟨⟨K, m⟩, q⟩ := c
    repeat' first | simp (disch := omega) only [go_sem, ↓reduceIte, Nat.reduceEqDiff, reduceCtorEq, Int.reduceEq, g3] | ((with_reducible first | refine condD ?_ ?_ | refine condX ?_ ?_ | refine condW_intro ?_ ?_) <;> intro h <;> first | (exfalso; omega) | simp (disch := omega) only [go_sem, ↓reduceIte, Nat.reduceEqDiff, reduceCtorEq, Int.reduceEq, *, g3] | skip) | (with_reducible refine bothW_intro ?_ ?_) | (with_reducible refine nilW_intro (fun h => ?_) ?_) | (refine callW_of pf rfl (.inl rfl) ?_) | (refine callW_of pc rfl (.inl rfl) ?_) | (refine callW_of pa rfl (.inl rfl) ?_) | (refine callW_of p1 rfl (.inl rfl) ?_) | (refine callW_of p2 rfl (.inl rfl) ?_)
    all_goals first | rfl | simp
  ·rw [decide_eq_false g2] at pc
   clear g1 g2 hl hc
   obtain ⟨⟨K, m⟩, q⟩ := c
   repeat' first | simp (disch := omega) only [go_sem, ↓reduceIte, Nat.reduceEqDiff, reduceCtorEq, Int.reduceEq] | ((with_reducible first | refine condD ?_ ?_ | refine condX ?_ ?_ | refine condW_intro ?_ ?_) <;> intro h <;> first | (exfalso; omega) | simp (disch := omega) only [go_sem, ↓reduceIte, Nat.reduceEqDiff, reduceCtorEq, Int.reduceEq, *] | skip) | (with_reducible refine bothW_intro ?_ ?_) | (with_reducible refine nilW_intro (fun h => ?_) ?_) | (refine callW_of pf rfl (.inl rfl) ?_) | (refine callW_of pc rfl (.inl rfl) ?_) | (refine callW_of pa rfl (.inl rfl) ?_)
   all_goals rfl
 ·rw [decide_eq_false g1] at pf
  clear g1 hl hc pc
  obtain ⟨⟨K, m⟩, q⟩ := c
  repeat' first | simp (disch := omega) only [go_sem, ↓reduceIte, Nat.reduceEqDiff, reduceCtorEq, Int.reduceEq] | ((with_reducible first | refine condD ?_ ?_ | refine condX ?_ ?_ | refine condW_intro ?_ ?_) <;> intro h <;> first | (exfalso; omega) | simp (disch := omega) only [go_sem, ↓reduceIte, Nat.reduceEqDiff, reduceCtorEq, Int.reduceEq, *] | skip) | (with_reducible refine bothW_intro ?_ ?_) | (with_reducible refine nilW_intro (fun h => ?_) ?_) | (refine callW_of pf rfl (.inl rfl) ?_) | (refine callW_of pa rfl (.inl rfl) ?_)
  all_goals rfl
end Go.Proofs.YtnddmjhpplopbaaGreat
