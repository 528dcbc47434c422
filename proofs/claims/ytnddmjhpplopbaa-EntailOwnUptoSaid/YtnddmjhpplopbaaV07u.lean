/- Walks by the abstract machine: a variable is eliminated with an equation. -/
import Derived.Test.YtnddmjhpplopbaaV07t
set_option linter.unusedVariables false
set_option linter.unusedSimpArgs false
set_option maxRecDepth 20000
namespace Go.Proofs.Ytnddmjhpplopbaa
open Go.Abs Go.RowKit

/-! How long the rows are. -/
theorem nodup_le {α : Type} [DecidableEq α] : ∀ {l m : List α}, l.Nodup → (∀ x ∈ l, x ∈ m) → l.length ≤ m.length
 | [], m, _, _ => Nat.zero_le _
 |x :: l, m, h, hs => by
  obtain ⟨h1, h2⟩ := List.nodup_cons.1 h
  have hx := hs x List.mem_cons_self
  have h3 := nodup_le (l := l) (m := m.erase x) h2 fun y hy => (List.mem_erase_of_ne (fun e => by subst e; exact h1 hy)).2 (hs y (List.mem_cons_of_mem _ hy))
  have h4 := List.length_erase_of_mem hx
  have h5 := List.length_pos_of_mem hx
  simp only [List.length_cons]
  omega
theorem dotC_in {n : ByteArray} : ∀ {l : List (Con × Int)}, dotC n l ≠ 0 → ∃ p ∈ l, cf p.1.1.2 n ≠ 0
 | [], h => absurd rfl h
 |p :: r, h => by
  by_cases h0 : cf p.1.1.2 n = 0
  ·rw [dotC, h0, Int.zero_mul, Int.zero_add] at h
   obtain ⟨q, hq, h1⟩ := dotC_in h
   exact ⟨q, List.mem_cons_of_mem _ hq, h1⟩
  ·exact ⟨p, List.mem_cons_self, h0⟩
theorem tot_flat : ∀ {l : List Con}, (l.flatMap fun c => c.1.2.map (·.1)).length = tot l
 | [] => rfl
 | c :: l => by rw [List.flatMap_cons, List.length_append, tot_flat, List.length_map, tot]
theorem RowT.short {T : List Con} {r : Row} (h : RowT T r) : r.1.1.2.length ≤ tot T := by
 obtain ⟨h1, h2⟩ := linOk_iff.1 h.lin
 have hn : (r.1.1.2.map (·.1)).Nodup := by
  refine List.pairwise_map.2 (h1.imp fun {a b} hab e => ?_)
  rw [e] at hab
  exact sless_irrefl _ hab
 have := nodup_le hn (m := T.flatMap fun c => c.1.2.map (·.1)) fun x hx => by
  obtain ⟨m, hm, rfl⟩ := List.mem_map.1 hx
  have hc : dotC m.1 (T.zip r.2) ≠ 0 := by
   rw [← h.c, cf_mem h1 hm]
   exact (h2 m hm).2
  obtain ⟨p, hp, h0⟩ := dotC_in hc
  obtain ⟨z, hz, h3, _⟩ := cf_in h0
  exact List.mem_flatMap.2 ⟨p.1, (List.of_mem_zip hp).1, List.mem_map.2 ⟨z, hz, h3⟩⟩
 rw [tot_flat, List.length_map] at this
 exact this

/-! Frames. -/
theorem fr_cons {N N' a r r' : Nat} {b : Box} {F : List (Nat × Box)} (h : frOk N [0, r] F) (h0 : 0 < a) (ha : N ≤ a) (ha' : a < N') (hb : flatX b = true) (hr : r' = r ∨ N ≤ r') (hne : a ≠ r') : frOk N' [0, r'] ((a, b) :: F) := by
 refine ⟨ha', hb, notIn_iff.2 fun m hm => ?_, h.mono (by omega) fun n hn h' => notIn_iff.2 fun m hm => ?_⟩
 ·simp only [List.mem_cons, List.not_mem_nil, or_false] at hm
  omega
 ·have h1 := notIn_iff.1 h' 0 (by simp)
  have h2 := notIn_iff.1 h' r (by simp)
  simp only [List.mem_cons, List.not_mem_nil, or_false] at hm
  omega
theorem AW_frz1 (nm e sz : Nat) (rows : List (List PC)) {P : Program} {nt : Nat} {c : ACode} {σ : St} {Q : AExit → St → Prop} (hf : findB σ.mem nm = some (.arr e sz rows)) (h : AW P nt c ⟨frzF nm rows σ.fr, frzM nm rows σ.mem, σ.nx, σ.base⟩ Q) : AW P nt c σ Q :=
 AW_frz [nm] (by rw [frzLA, hf]; exact h)
theorem AW_mem {mem' : List (Nat × Box)} {P : Program} {nt : Nat} {c : ACode} {σ : St} {Q : AExit → St → Prop} (hm : σ.mem = mem') (h : AW P nt c ⟨σ.fr, mem', σ.nx, σ.base⟩ Q) : AW P nt c σ Q := by
 subst hm
 exact h
theorem frOk_none {N n : Nat} : ∀ {F : List (Nat × Box)} {s : List Nat}, frOk N s F → N ≤ n → findB F n = none
 | [], s, _, _ => rfl
 |(nm, b) :: r, s, h, hn => by
  rw [findB, if_neg (by have := h.1; omega)]
  exact frOk_none h.2.2.2 hn
abbrev rowC (d : Row) : List AC := [.pure (pI d.1.1.1), .pure (pMonos d.1.1.2), .pure (pB d.1.2), .pure (pInts d.2)]
abbrev zeroC : List AC := [.pure (pI 0), .nils, .pure (pB false), .nils]
abbrev aRows (rows : List Row) : AV := .c (.pure (.slice (rows.map rCells)))

/-! The multipliers. -/
theorem elim_cancel_abs {c d : Int} (hc : in64 c) (hd : in64 d) (h0 : d ≠ 0) : PCalls Try.prog n_elim_cancel [I c, I d] (.tup [I (cancelX c d).1, I (cancelX c d).2.1, Go.Abs.B (cancelX c d).2.2]) := by
 refine PCalls.of is_elim_cancel (by simp) fun _ => runW_sound ?_
 simp only [c_elim_cancel, cancelX]
 have p1 := elim_magnitude_abs hc
 have p2 := elim_magnitude_abs hd
 have p3 := elim_gcd_abs c.natAbs d.natAbs
 have hz : Nat.gcd c.natAbs d.natAbs ≠ 0 := fun h => h0 (Int.natAbs_eq_zero.1 (Nat.eq_zero_of_gcd_eq_zero_right h))
 have hP : c.natAbs ≤ 9223372036854775808 := by unfold in64 at hc; omega
 have hQ : d.natAbs ≤ 9223372036854775808 := by unfold in64 at hd; omega
 generalize Nat.gcd c.natAbs d.natAbs = g at *
 generalize c.natAbs = P at *
 generalize d.natAbs = Q at *
 have l1 : Q / g ≤ Q := Nat.div_le_self _ _
 have l2 : P / g ≤ P := Nat.div_le_self _ _
 have p4 := elim_signed_abs (n := P / g) false
 have p5 := elim_signed_abs (n := Q / g) (decide (0 < c) == decide (0 < d))
 have w1 : IntKind.wrap .u64 ((Q / g : Nat) : Int) = (Q / g : Nat) := u64_nat (by omega)
 have w2 : IntKind.wrap .u64 ((P / g : Nat) : Int) = (P / g : Nat) := u64_nat (by omega)
 have hg' : ¬ (g : Int) = 0 := by omega
 generalize sgnE (P / g) false = s1 at *
 generalize hs2 : sgnE (Q / g) (decide (0 < c) == decide (0 < d)) = s2 at *
 obtain ⟨s1, o1⟩ := s1
 obtain ⟨s2, o2⟩ := s2
 cases o1
 all_goals
  repeat' first | simp (disch := omega) only [go_sem, ↓reduceIte, Nat.reduceEqDiff, reduceCtorEq, Int.reduceEq, hg', ne_eq, tdiv_nat, w1, w2] | ((with_reducible first | refine condD ?_ ?_ | refine condX ?_ ?_ | refine condW_intro ?_ ?_) <;> intro h <;> first | (exfalso; omega) | simp (disch := omega) only [go_sem, ↓reduceIte, Nat.reduceEqDiff, reduceCtorEq, Int.reduceEq, *, hg', ne_eq, tdiv_nat, w1, w2] | skip) | (refine callW_of p1 rfl (.inl rfl) ?_) | (refine callW_of p2 rfl (.inl rfl) ?_) | (refine callW_of p3 rfl (.inl rfl) ?_) | (refine callW_of p4 rfl (.inl rfl) ?_) | (refine callW_of p5 rfl (.inl rfl) ?_)
  rfl
theorem elim_factorsX_abs {p q : Int} (hp : in64 p) (hq : in64 q) (h0 : p ≠ 0) : PCalls Try.prog n_elim_factors [I p, I q] (.tup [I (factorsX p q).1, I (factorsX p q).2.1, Go.Abs.B (factorsX p q).2.2]) := elim_factors_abs hp hq h0
theorem sgnE_64 (n : Nat) (s : Bool) : in64 (sgnE n s).1 := by
 unfold sgnE in64
 split
 ·simp
 ·simp only
  split <;> omega
theorem numF_drop {rows : List Row} {k : Nat} (h : k < rows.length) : numF k (rows.drop k) = (k, rows[k]) :: numF (k + 1) (rows.drop (k + 1)) := by
 rw [List.drop_eq_getElem_cons h, numF]
theorem runF_cons {α : Type} {step : α → List Row → Int → Sys} {x : α} {l : List α} {acc : List Row} {fuel : Int} : runF step (x :: l) acc fuel = if (step x acc fuel).2.2 ≠ 0 then step x acc fuel else runF step l (step x acc fuel).1 (step x acc fuel).2.1 := rfl

set_option maxHeartbeats 4000000 in
theorem elim_substitute_abs {T : List Con} {n : ByteArray} {e : Nat} {fuel : Int} {r nx : Nat} {rows : List Row} {F : List (Nat × Box)} (hT : ∀ z ∈ rows, RowT T z) (ht : tot T ≤ 400000000) (hTl : T.length ≤ 1000000000) (hrl : rows.length ≤ 256) (he : e < rows.length)
  (hq : rows[e].1.2 = true) (hf0 : 0 ≤ fuel) (hf1 : fuel ≤ 2000000) (hr : 0 < r) (hrn : r < nx) (hF : frOk nx [0, r] F) :
  ICalls Try.prog n_elim_system_substitute [.c (.ptr 0 0), S n, I e] (sysM r rows fuel F) nx (packV [I (substS n e rows fuel).2.2]) (sysM nx (substS n e rows fuel).1 (substS n e rows fuel).2.1 F) (nx + 1) := by
 refine ICalls.ofZ is_elim_system_substitute (by simp) fun _ => runW_sound ?_
 have ge := map_get (f := rCells) he
 have hTe := hT _ (List.getElem_mem he)
 have hg : rows.getD e rowZ = rows[e] := by simp [List.getD_eq_getElem?_getD, he]
 simp only [c_elim_system_substitute]
 unfold substS
 rw [hg]
 clear hg
 generalize rows[e] = w at *
 obtain ⟨⟨⟨Kw, lw⟩, qw⟩, bw⟩ := w
 simp only at hq
 subst hq
 simp only [rCells] at ge
 have pw := elim_coefficient_abs ((Kw, lw), true) n
 have hcw : in64 (cf lw n) := cf_64 hTe.r64.1.2 n
 simp only at pw
 obtain ⟨R, hR⟩ : ∃ R, R = runF (stepE n (((Kw, lw), true), bw) e) (numF 0 (rows.drop 0)) [] fuel := ⟨_, rfl⟩
 have hR0 : runF (stepE n (((Kw, lw), true), bw) e) (numF 0 rows) [] fuel = R := hR.symm
 rw [hR0]
 have HR := Lib.hid hR
 clear hR hR0
 repeat' first | simp (disch := omega) only [go_sem, ↓reduceIte, Nat.reduceEqDiff, reduceCtorEq, Int.reduceEq, ge, ifN, ifNP] | ((with_reducible first | refine condD ?_ ?_ | refine condX ?_ ?_ | refine condW_intro ?_ ?_) <;> intro h <;> first | (exfalso; omega) | simp (disch := omega) only [go_sem, ↓reduceIte, Nat.reduceEqDiff, reduceCtorEq, Int.reduceEq, *, ge, ifN, ifNP] | skip) | (refine callW_of pw rfl (.inl rfl) ?_)
 refine AW_adoptM 0 0 64 4 [.nils, .pure (pI fuel)] (by simp (disch := omega) [findB, ifN]) rfl (by decide) ?_
 refine AW_frz1 r 64 4 (rows.map rCells) (by simp (disch := omega) [findB, findB_setB, ifN]) ?_
 have hfz := hF.frz (n := r) (rows := rows.map rCells) (.inl (by simp))
 refine AW_mem (mem' := sysM nx [] fuel F) (by simp (disch := omega) [frzM, frzB, frz1, setB, ifN, hfz]) ?_
 refine AW_loop (fun s : Nat × List Row × Int => ⟨[(0, .c (.ptr 0 0)), (1, S n), (2, I e), (7, aRows rows), (8, I (cf lw n)), (32, aRows rows), (33, I rows.length), (34, I s.1)], sysM nx s.2.1 s.2.2 F, nx + 1, nx⟩)
  (fun s => s.1 ≤ rows.length ∧ (∀ z ∈ s.2.1, RowT T z) ∧ s.2.1.length ≤ 256 ∧ 0 ≤ s.2.2 ∧ s.2.2 ≤ fuel ∧ Hid (R = runF (stepE n (((Kw, lw), true), bw) e) (numF s.1 (rows.drop s.1)) s.2.1 s.2.2)) (fun s => rows.length - s.1) ⟨(0, [], fuel), [], ⟨Nat.zero_le _, by simp, by simp, hf0, Int.le_refl _, HR⟩, ?_⟩ ?_
 ·refine Wk_intro (by simp (disch := omega) [Wk, wkF, wkM, wkL, look_cons, renV, renA, renC, renB, rn, clV, clA, clAs, clB, notIn, findB, findB_setB, clA.go, ifN, frzF, frzV, frz1]) ?_ rfl (by simp; try omega) (by simp [wkL]; try omega)
  repeat' first | exact hF.wk (by simp [wkL]; try omega) (by simp; try omega) (by intro n hn; simp (disch := omega) [rn, ifN] at hn ⊢; omega) (by intro nm bx h1 h2 h3; simp only [notIn] at h2; simp only [findB, findB_setB]; (repeat (refine (ifN (by omega)).trans ?_)); exact h3) | refine wkM_cons ?_ ?_ ?_ ?_ ?_ | (simp (disch := omega) [Wk, wkF, wkM, wkL, look_cons, renV, renA, renC, renB, rn, clV, clA, clAs, clB, notIn, findB, findB_setB, clA.go, ifN, frzF, frzV, frz1] <;> omega) | omega
 clear HR pw
 rintro ⟨k, acc, fu⟩ ⟨hk, hacc, hal, hfu0, hfu1, HR⟩
 simp only at hk hacc hal hfu0 hfu1 HR
 refine runW_sound ?_
 have h0n : 0 < nx := by omega
 by_cases hlt : k < rows.length
 ·have g1 := map_get (f := rCells) hlt
  have hz := hT _ (List.getElem_mem hlt)
  have h2 := HR.out
  rw [numF_drop hlt, runF_cons] at h2
  have hst := stepE_ok (n := n) (e := e) hTe rfl (r := (k, rows[k])) hz acc fu hacc hal
  have hzs := hz.short
  have hws := hTe.short
  clear HR
  generalize rows[k] = z at *
  obtain ⟨⟨⟨K', l'⟩, q'⟩, b'⟩ := z
  simp only [rCells] at g1
  have pc := elim_coefficient_abs ((K', l'), q') n
  simp only at pc hzs hws
  by_cases hke : k = e
  ·have hs : stepE n (((Kw, lw), true), bw) e (k, (((K', l'), q'), b')) acc fu = (acc, fu, 0) := if_pos hke
   rw [hs] at h2
   rw [if_neg (by simp)] at h2
   have HR := Lib.hid h2
   have hkei : ((k : Int) = (e : Int)) = True := eq_true (by omega)
   clear h2 hs hst hke ge
   repeat' first | simp (disch := omega) only [go_sem, ↓reduceIte, Nat.reduceEqDiff, reduceCtorEq, Int.reduceEq, g1, hkei, ifN, ifNP, wrap_i64] | ((with_reducible first | refine condD ?_ ?_ | refine condX ?_ ?_ | refine condW_intro ?_ ?_) <;> intro h <;> first | (exfalso; omega) | simp (disch := omega) only [go_sem, ↓reduceIte, Nat.reduceEqDiff, reduceCtorEq, Int.reduceEq, *, g1, hkei, ifN, ifNP, wrap_i64] | skip) | (refine callW_of pc rfl (.inl rfl) ?_)
   refine ⟨(k + 1, acc, fu), [], ⟨hlt, hacc, hal, hfu0, hfu1, HR⟩, by show _ - _ < _ - _; omega, ?_⟩
   refine Wk_intro (by simp (disch := omega) [Wk, wkF, wkM, wkL, look_cons, renV, renA, renC, renB, rn, clV, clA, clAs, clB, notIn, findB, findB_setB, clA.go, ifN, h0n]) ?_ rfl (by simp; try omega) (by simp [wkL]; try omega)
   repeat' first | exact hF.wk (by simp [wkL]; try omega) (by simp; try omega) (by intro n hn; simp (disch := omega) [rn, ifN] at hn ⊢; omega) (by intro nm bx h1 h2 h3; simp only [notIn] at h2; simp only [findB, findB_setB]; (repeat (refine (ifN (by omega)).trans ?_)); exact h3) | refine wkM_cons ?_ ?_ ?_ ?_ ?_ | (simp (disch := omega) [Wk, wkF, wkM, wkL, look_cons, renV, renA, renC, renB, rn, clV, clA, clAs, clB, notIn, findB, findB_setB, clA.go, ifN, h0n] <;> omega) | omega
  ·have hkei : ¬ (k : Int) = (e : Int) := by omega
   by_cases h0 : cf l' n = 0
   ·have hs : stepE n (((Kw, lw), true), bw) e (k, (((K', l'), q'), b')) acc fu = ((addS2 acc (((K', l'), q'), b')).1, fu, (addS2 acc (((K', l'), q'), b')).2) := by rw [stepE, if_neg hke, if_pos h0]
    rw [hs] at h2 hst
    rw [h0] at pc
    have pa := elim_add_abs (d := (((K', l'), q'), b')) (fuel := fu) (r := nx) (nx := nx + 2) (rows := acc) (F := (nx + 1, .var (rowC (((K', l'), q'), b'))) :: F) hal (by omega) (by omega) (fr_cons hF (by omega) (by omega) (by omega) rfl (.inr (Nat.le_refl _)) (by omega))
    clear hs hke h0 ge
    generalize addS2 acc (((K', l'), q'), b') = A at *
    obtain ⟨A, ae⟩ := A
    simp only at pa h2 hst
    by_cases hae : ae = 0
    ·subst hae
     rw [if_neg (by simp)] at h2
     have HR := Lib.hid h2
     have hA1 := hst.all
     have hA2 := hst.len
     clear h2 hst hacc
     simp only at hA1 hA2
     repeat' first | simp (disch := omega) only [go_sem, ↓reduceIte, Nat.reduceEqDiff, reduceCtorEq, Int.reduceEq, g1, hkei, ifN, ifNP, wrap_i64] | ((with_reducible first | refine condD ?_ ?_ | refine condX ?_ ?_ | refine condW_intro ?_ ?_) <;> intro h <;> first | (exfalso; omega) | simp (disch := omega) only [go_sem, ↓reduceIte, Nat.reduceEqDiff, reduceCtorEq, Int.reduceEq, *, g1, hkei, ifN, ifNP, wrap_i64] | skip) | (refine callW_of pc rfl (.inl rfl) ?_) | (refine callW_i (pa.perm (fun nm => by first | rfl | (simp only [findB, findB_setB]; done) | (simp only [findB, findB_setB]; (repeat' split) <;> first | rfl | omega))) ?_)
     refine ⟨(k + 1, A, fu), [(nx, nx + 2)], ⟨hlt, hA1, hA2, hfu0, hfu1, HR⟩, by show _ - _ < _ - _; omega, ?_⟩
     refine Wk_intro (by simp (disch := omega) [Wk, wkF, wkM, wkL, look_cons, renV, renA, renC, renB, rn, clV, clA, clAs, clB, notIn, findB, findB_setB, clA.go, ifN, h0n]) ?_ rfl (by simp; try omega) (by simp [wkL]; try omega)
     repeat' first | exact hF.wk (by simp [wkL]; try omega) (by simp; try omega) (by intro n hn; simp (disch := omega) [rn, ifN] at hn ⊢; omega) (by intro nm bx h1 h2 h3; simp only [notIn] at h2; simp only [findB, findB_setB]; (repeat (refine (ifN (by omega)).trans ?_)); exact h3) | refine wkM_cons ?_ ?_ ?_ ?_ ?_ | (simp (disch := omega) [Wk, wkF, wkM, wkL, look_cons, renV, renA, renC, renB, rn, clV, clA, clAs, clB, notIn, findB, findB_setB, clA.go, ifN, h0n] <;> omega) | omega
    ·rw [if_pos hae] at h2
     subst h2
     clear hst hacc
     repeat' first | simp (disch := omega) only [go_sem, ↓reduceIte, Nat.reduceEqDiff, reduceCtorEq, Int.reduceEq, g1, hkei, ifN, ifNP, wrap_i64, hae] | ((with_reducible first | refine condD ?_ ?_ | refine condX ?_ ?_ | refine condW_intro ?_ ?_) <;> intro h <;> first | (exfalso; omega) | simp (disch := omega) only [go_sem, ↓reduceIte, Nat.reduceEqDiff, reduceCtorEq, Int.reduceEq, *, g1, hkei, ifN, ifNP, wrap_i64, hae] | skip) | (refine callW_of pc rfl (.inl rfl) ?_) | (refine callW_i (pa.perm (fun nm => by first | rfl | (simp only [findB, findB_setB]; done) | (simp only [findB, findB_setB]; (repeat' split) <;> first | rfl | omega))) ?_)
     refine ⟨[], [(nx, nx + 2)], ?_⟩
     simp (disch := omega) only [go_sem, ↓reduceIte, Nat.reduceEqDiff, reduceCtorEq, Int.reduceEq, frzLA, ifN, ifNP]
     refine Wk_intro (by simp (disch := omega) [Wk, wkF, wkM, wkL, look_cons, renV, renA, renC, renB, rn, clV, clA, clAs, clB, notIn, findB, findB_setB, clA.go, ifN, h0n]) ?_ rfl (by simp; try omega) (by simp [wkL]; try omega)
     repeat' first | exact hF.wk (by simp [wkL]; try omega) (by simp; try omega) (by intro n hn; simp (disch := omega) [rn, ifN] at hn ⊢; omega) (by intro nm bx h1 h2 h3; simp only [notIn] at h2; simp only [findB, findB_setB]; (repeat (refine (ifN (by omega)).trans ?_)); exact h3) | refine wkM_cons ?_ ?_ ?_ ?_ ?_ | (simp (disch := omega) [Wk, wkF, wkM, wkL, look_cons, renV, renA, renC, renB, rn, clV, clA, clAs, clB, notIn, findB, findB_setB, clA.go, ifN, h0n] <;> omega) | omega
   ·have pk := elim_cancel_abs hcw (cf_64 hz.r64.1.2 n) h0
    simp only at pk
    have hs : stepE n (((Kw, lw), true), bw) e (k, (((K', l'), q'), b')) acc fu = if (cancelX (cf lw n) (cf l' n)).2.2 = false then (acc, fu, 3) else
     mergeAdd (((K', l'), q'), b') (((Kw, lw), true), bw) (cancelX (cf lw n) (cf l' n)).1 (cancelX (cf lw n) (cf l' n)).2.1 acc fu := by rw [stepE, if_neg hke, if_neg h0]
    rw [hs] at h2 hst
    have hx64 : in64 (cancelX (cf lw n) (cf l' n)).1 := sgnE_64 _ _
    have hy64 : in64 (cancelX (cf lw n) (cf l' n)).2.1 := sgnE_64 _ _
    clear hs hke
    generalize cancelX (cf lw n) (cf l' n) = X at *
    obtain ⟨x, y, ok⟩ := X
    simp only at h2 hst hx64 hy64 pk
    cases ok
    ·rw [if_pos rfl, if_pos (by simp)] at h2
     subst h2
     clear hst hacc ge
     generalize cf l' n = d at *
     repeat' first | simp (disch := omega) only [go_sem, ↓reduceIte, Nat.reduceEqDiff, reduceCtorEq, Int.reduceEq, g1, hkei, ifN, ifNP, wrap_i64, h0] | ((with_reducible first | refine condD ?_ ?_ | refine condX ?_ ?_ | refine condW_intro ?_ ?_) <;> intro h <;> first | (exfalso; omega) | simp (disch := omega) only [go_sem, ↓reduceIte, Nat.reduceEqDiff, reduceCtorEq, Int.reduceEq, *, g1, hkei, ifN, ifNP, wrap_i64, h0] | skip) | (refine callW_of pc rfl (.inl rfl) ?_) | (refine callW_of pk rfl (.inl rfl) ?_)
     refine ⟨[], [], ?_⟩
     simp (disch := omega) only [go_sem, ↓reduceIte, Nat.reduceEqDiff, reduceCtorEq, Int.reduceEq, frzLA, ifN, ifNP]
     refine Wk_intro (by simp (disch := omega) [Wk, wkF, wkM, wkL, look_cons, renV, renA, renC, renB, rn, clV, clA, clAs, clB, notIn, findB, findB_setB, clA.go, ifN, h0n]) ?_ rfl (by simp; try omega) (by simp [wkL]; try omega)
     repeat' first | exact hF.wk (by simp [wkL]; try omega) (by simp; try omega) (by intro n hn; simp (disch := omega) [rn, ifN] at hn ⊢; omega) (by intro nm bx h1 h2 h3; simp only [notIn] at h2; simp only [findB, findB_setB]; (repeat (refine (ifN (by omega)).trans ?_)); exact h3) | refine wkM_cons ?_ ?_ ?_ ?_ ?_ | (simp (disch := omega) [Wk, wkF, wkM, wkL, look_cons, renV, renA, renC, renB, rn, clV, clA, clAs, clB, notIn, findB, findB_setB, clA.go, ifN, h0n] <;> omega) | omega
    ·have hft : ¬ (true = false) := by simp
     rw [if_neg hft] at h2 hst
     clear hft
     have hfn : findB F (nx + 1 + 1) = none := frOk_none hF (by omega)
     have hll : b'.length = bw.length := by rw [hz.len, hTe.len]
     have hlb : b'.length ≤ 1000000000 := by rw [hz.len]; exact hTl
     have hm1 := elim_merge_abs (a := (((K', l'), q'), b')) (b := (((Kw, lw), true), bw)) (x := x) (y := y) (fuel := fu) (r := nx) (nx := nx + 2) (rows := acc) (F := (nx + 1, .var (rowC (((K', l'), q'), b'))) :: F)
      hz.r64 hTe.r64 hx64 hy64 hll hlb (by simp only; omega) (by simp only; omega) hfu0 (by omega) (by omega) (by omega) (fr_cons hF (by omega) (by omega) (by omega) rfl (.inr (Nat.le_refl _)) (by omega))
     have hm2 := elim_merge_abs (a := (((K', l'), q'), b')) (b := (((Kw, lw), true), bw)) (x := x) (y := y) (fuel := fu) (r := nx) (nx := nx + 3) (rows := acc) (F := (nx + 2, .var zeroC) :: (nx + 1, .var (rowC (((K', l'), q'), b'))) :: F)
      hz.r64 hTe.r64 hx64 hy64 hll hlb (by simp only; omega) (by simp only; omega) hfu0 (by omega) (by omega) (by omega) (fr_cons (N := nx + 2) (r := nx) (fr_cons hF (by omega) (by omega) (by omega) rfl (.inr (Nat.le_refl _)) (by omega)) (by omega) (by omega) (by omega) rfl (.inl rfl) (by omega))
     unfold mergeAdd at h2 hst
     clear hll hlb hx64 hy64
     generalize mergeS fu (((K', l'), q'), b') (((Kw, lw), true), bw) x y = M at *
     generalize cf l' n = d at *
     obtain ⟨⟨⟨⟨Km, lm⟩, qm⟩, bm⟩, me⟩ := M
     simp only at h2 hst
     by_cases hme : me = 0
     ·subst hme
      have hm0 : ¬ ((0 : Int) ≠ 0) := by simp
      rw [if_neg hm0] at h2 hst
      simp only [rowX, if_true] at hm1 hm2
      have pa := elim_add_abs (d := (((Km, lm), qm), bm)) (fuel := fu - 1) (r := nx) (nx := nx + 3) (rows := acc) (F := (nx + 2, .var (rowC (((Km, lm), qm), bm))) :: (nx + 1, .var (rowC (((Km, lm), qm), bm))) :: F) hal (by omega) (by omega)
       (fr_cons (N := nx + 2) (r := nx) (fr_cons hF (by omega) (by omega) (by omega) rfl (.inr (Nat.le_refl _)) (by omega)) (by omega) (by omega) (by omega) rfl (.inl rfl) (by omega))
      generalize addS2 acc (((Km, lm), qm), bm) = A at *
      obtain ⟨A, ae⟩ := A
      simp only at pa h2 hst
      by_cases hae : ae = 0
      ·subst hae
       rw [if_neg (by simp)] at h2
       have HR := Lib.hid h2
       have hA1 := hst.all
       have hA2 := hst.len
       have hA3 := hst.pos rfl hfu0
       clear h2 hst hacc
       simp only at hA1 hA2 hA3
       repeat' first | simp (disch := omega) only [go_sem, ↓reduceIte, Nat.reduceEqDiff, reduceCtorEq, Int.reduceEq, g1, ge, hkei, ifN, ifNP, hfn, wrap_i64, h0] | ((with_reducible first | refine condD ?_ ?_ | refine condX ?_ ?_ | refine condW_intro ?_ ?_) <;> intro h <;> first | (exfalso; omega) | simp (disch := omega) only [go_sem, ↓reduceIte, Nat.reduceEqDiff, reduceCtorEq, Int.reduceEq, *, g1, ge, hkei, ifN, ifNP, hfn, wrap_i64, h0] | skip) | (with_reducible refine bothW_intro ?_ ?_) | (with_reducible refine nilW_intro (fun h => ?_) ?_) | (refine callW_of pc rfl (.inl rfl) ?_) | (refine callW_of pk rfl (.inl rfl) ?_) | (refine callW_i (hm1.perm (fun nm => by first | rfl | (simp only [findB, findB_setB]; done) | (simp only [findB, findB_setB]; (repeat' split) <;> first | rfl | omega))) ?_) | (refine callW_i (hm2.perm (fun nm => by first | rfl | (simp only [findB, findB_setB]; done) | (simp only [findB, findB_setB]; (repeat' split) <;> first | rfl | omega))) ?_) | (refine callW_i (pa.perm (fun nm => by first | rfl | (simp only [findB, findB_setB]; done) | (simp only [findB, findB_setB]; (repeat' split) <;> first | rfl | omega))) ?_)
       all_goals
        refine ⟨(k + 1, A, fu - 1), [(nx, nx + 3)], ⟨hlt, hA1, hA2, hA3, by simp only; omega, HR⟩, by show _ - _ < _ - _; omega, ?_⟩
        refine Wk_intro (by simp (disch := omega) [Wk, wkF, wkM, wkL, look_cons, renV, renA, renC, renB, rn, clV, clA, clAs, clB, notIn, findB, findB_setB, clA.go, ifN, h0n]) ?_ rfl (by simp; try omega) (by simp [wkL]; try omega)
        repeat' first | exact hF.wk (by simp [wkL]; try omega) (by simp; try omega) (by intro n hn; simp (disch := omega) [rn, ifN] at hn ⊢; omega) (by intro nm bx h1 h2 h3; simp only [notIn] at h2; simp only [findB, findB_setB]; (repeat (refine (ifN (by omega)).trans ?_)); exact h3) | refine wkM_cons ?_ ?_ ?_ ?_ ?_ | (simp (disch := omega) [Wk, wkF, wkM, wkL, look_cons, renV, renA, renC, renB, rn, clV, clA, clAs, clB, notIn, findB, findB_setB, clA.go, ifN, h0n] <;> omega) | omega
      ·rw [if_pos hae] at h2
       subst h2
       clear hst hacc
       repeat' first | simp (disch := omega) only [go_sem, ↓reduceIte, Nat.reduceEqDiff, reduceCtorEq, Int.reduceEq, g1, ge, hkei, ifN, ifNP, hfn, wrap_i64, h0, hae] | ((with_reducible first | refine condD ?_ ?_ | refine condX ?_ ?_ | refine condW_intro ?_ ?_) <;> intro h <;> first | (exfalso; omega) | simp (disch := omega) only [go_sem, ↓reduceIte, Nat.reduceEqDiff, reduceCtorEq, Int.reduceEq, *, g1, ge, hkei, ifN, ifNP, hfn, wrap_i64, h0, hae] | skip) | (with_reducible refine bothW_intro ?_ ?_) | (with_reducible refine nilW_intro (fun h => ?_) ?_) | (refine callW_of pc rfl (.inl rfl) ?_) | (refine callW_of pk rfl (.inl rfl) ?_) | (refine callW_i (hm1.perm (fun nm => by first | rfl | (simp only [findB, findB_setB]; done) | (simp only [findB, findB_setB]; (repeat' split) <;> first | rfl | omega))) ?_) | (refine callW_i (hm2.perm (fun nm => by first | rfl | (simp only [findB, findB_setB]; done) | (simp only [findB, findB_setB]; (repeat' split) <;> first | rfl | omega))) ?_) | (refine callW_i (pa.perm (fun nm => by first | rfl | (simp only [findB, findB_setB]; done) | (simp only [findB, findB_setB]; (repeat' split) <;> first | rfl | omega))) ?_)
       all_goals
        refine ⟨[], [(nx, nx + 3)], ?_⟩
        simp (disch := omega) only [go_sem, ↓reduceIte, Nat.reduceEqDiff, reduceCtorEq, Int.reduceEq, frzLA, ifN, ifNP]
        refine Wk_intro (by simp (disch := omega) [Wk, wkF, wkM, wkL, look_cons, renV, renA, renC, renB, rn, clV, clA, clAs, clB, notIn, findB, findB_setB, clA.go, ifN, h0n]) ?_ rfl (by simp; try omega) (by simp [wkL]; try omega)
        repeat' first | exact hF.wk (by simp [wkL]; try omega) (by simp; try omega) (by intro n hn; simp (disch := omega) [rn, ifN] at hn ⊢; omega) (by intro nm bx h1 h2 h3; simp only [notIn] at h2; simp only [findB, findB_setB]; (repeat (refine (ifN (by omega)).trans ?_)); exact h3) | refine wkM_cons ?_ ?_ ?_ ?_ ?_ | (simp (disch := omega) [Wk, wkF, wkM, wkL, look_cons, renV, renA, renC, renB, rn, clV, clA, clAs, clB, notIn, findB, findB_setB, clA.go, ifN, h0n] <;> omega) | omega
     ·rw [if_pos hme] at h2
      simp only at h2
      rw [if_pos hme] at h2
      subst h2
      clear hst hacc
      simp only [rowX, if_neg hme] at hm1 hm2
      repeat' first | simp (disch := omega) only [go_sem, ↓reduceIte, Nat.reduceEqDiff, reduceCtorEq, Int.reduceEq, g1, ge, hkei, ifN, ifNP, hfn, wrap_i64, h0, hme] | ((with_reducible first | refine condD ?_ ?_ | refine condX ?_ ?_ | refine condW_intro ?_ ?_) <;> intro h <;> first | (exfalso; omega) | simp (disch := omega) only [go_sem, ↓reduceIte, Nat.reduceEqDiff, reduceCtorEq, Int.reduceEq, *, g1, ge, hkei, ifN, ifNP, hfn, wrap_i64, h0, hme] | skip) | (with_reducible refine bothW_intro ?_ ?_) | (with_reducible refine nilW_intro (fun h => ?_) ?_) | (refine callW_of pc rfl (.inl rfl) ?_) | (refine callW_of pk rfl (.inl rfl) ?_) | (refine callW_i (hm1.perm (fun nm => by first | rfl | (simp only [findB, findB_setB]; done) | (simp only [findB, findB_setB]; (repeat' split) <;> first | rfl | omega))) ?_) | (refine callW_i (hm2.perm (fun nm => by first | rfl | (simp only [findB, findB_setB]; done) | (simp only [findB, findB_setB]; (repeat' split) <;> first | rfl | omega))) ?_)
      all_goals
       refine ⟨[], [], ?_⟩
       simp (disch := omega) only [go_sem, ↓reduceIte, Nat.reduceEqDiff, reduceCtorEq, Int.reduceEq, frzLA, ifN, ifNP]
       refine Wk_intro (by simp (disch := omega) [Wk, wkF, wkM, wkL, look_cons, renV, renA, renC, renB, rn, clV, clA, clAs, clB, notIn, findB, findB_setB, clA.go, ifN, h0n]) ?_ rfl (by simp; try omega) (by simp [wkL]; try omega)
       repeat' first | exact hF.wk (by simp [wkL]; try omega) (by simp; try omega) (by intro n hn; simp (disch := omega) [rn, ifN] at hn ⊢; omega) (by intro nm bx h1 h2 h3; simp only [notIn] at h2; simp only [findB, findB_setB]; (repeat (refine (ifN (by omega)).trans ?_)); exact h3) | refine wkM_cons ?_ ?_ ?_ ?_ ?_ | (simp (disch := omega) [Wk, wkF, wkM, wkL, look_cons, renV, renA, renC, renB, rn, clV, clA, clAs, clB, notIn, findB, findB_setB, clA.go, ifN, h0n] <;> omega) | omega
 ·have h2 := HR.out
  rw [List.drop_eq_nil_of_le (by omega)] at h2
  simp only [numF, runF] at h2
  subst h2
  clear HR
  repeat' first | simp (disch := omega) only [go_sem, ↓reduceIte, Nat.reduceEqDiff, reduceCtorEq, Int.reduceEq, ifN, ifNP] | ((with_reducible first | refine condD ?_ ?_ | refine condX ?_ ?_ | refine condW_intro ?_ ?_) <;> intro h <;> first | (exfalso; omega) | simp (disch := omega) only [go_sem, ↓reduceIte, Nat.reduceEqDiff, reduceCtorEq, Int.reduceEq, *, ifN, ifNP] | skip)
  refine ⟨[], [], ?_⟩
  simp (disch := omega) only [go_sem, ↓reduceIte, Nat.reduceEqDiff, reduceCtorEq, Int.reduceEq, frzLA, ifN, ifNP]
  refine Wk_intro (by simp (disch := omega) [Wk, wkF, wkM, wkL, look_cons, renV, renA, renC, renB, rn, clV, clA, clAs, clB, notIn, findB, findB_setB, clA.go, ifN, h0n]) ?_ rfl (by simp; try omega) (by simp [wkL]; try omega)
  repeat' first | exact hF.wk (by simp [wkL]; try omega) (by simp; try omega) (by intro n hn; simp (disch := omega) [rn, ifN] at hn ⊢; omega) (by intro nm bx h1 h2 h3; simp only [notIn] at h2; simp only [findB, findB_setB]; (repeat (refine (ifN (by omega)).trans ?_)); exact h3) | refine wkM_cons ?_ ?_ ?_ ?_ ?_ | (simp (disch := omega) [Wk, wkF, wkM, wkL, look_cons, renV, renA, renC, renB, rn, clV, clA, clAs, clB, notIn, findB, findB_setB, clA.go, ifN, h0n] <;> omega) | omega
end Go.Proofs.Ytnddmjhpplopbaa
