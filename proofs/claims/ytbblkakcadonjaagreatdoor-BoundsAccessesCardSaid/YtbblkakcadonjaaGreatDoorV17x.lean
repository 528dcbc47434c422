/- Weights of expressions and long programs, plainly. -/
import Derived.Test.YtbblkakcadonjaaGreatDoorP17
import Derived.Test.YtbblkakcadonjaaGreatDoorV14d
import Derived.Test.YtbblkakcadonjaaGreatDoorV17c
import Derived.Test.YtbblkakcadonjaaGreatDoorV17g
set_option linter.unusedVariables false
set_option linter.unusedSimpArgs false
namespace Go.Proofs.YtbblkakcadonjaaGreatDoor
open Go.Abs Go.RowKit

def wAt (m : Int) : List Lin → Int → Int
 | [], n => n
 | x :: r, n => if n ≤ m then wAt m r (IntKind.wrap .i64 (n + x.2.length)) else n
def wIdx (m : Int) : List Ix → Int → Int
 | [], n => n
 | x :: r, n => if n ≤ m then wIdx m r (wAt m x.2.2 (IntKind.wrap .i64 (IntKind.wrap .i64 (n + x.1.2.length) + x.2.2.length))) else n
def w0 (e : Ex) : Int := IntKind.wrap .i64 (IntKind.wrap .i64 (1 + e.lin.2.length) + e.idx.length)
mutual
def weigh : Ex → Int → Int
 | .mk op name val ty lin idx args, m => wArgs args m (wIdx m idx (IntKind.wrap .i64 (IntKind.wrap .i64 (1 + lin.2.length) + idx.length)))
def wArgs : List Ex → Int → Int → Int
 | [], m, n => n
 | a :: r, m, n => if n ≤ m then wArgs r m (IntKind.wrap .i64 (n + weigh a (IntKind.wrap .i64 (m - n)))) else n
end
theorem weigh_eq (e : Ex) (m : Int) : weigh e m = wArgs e.args m (wIdx m e.idx (w0 e)) := by
 obtain ⟨op, name, val, ty, lin, idx, args⟩ := e
 rw [weigh]
 rfl
theorem wAt_go {m : Int} {l : List Lin} {k : Nat} {n : Int} (h : k < l.length) (hn : n ≤ m) : wAt m (l.drop k) n = wAt m (l.drop (k + 1)) (IntKind.wrap .i64 (n + l[k].2.length)) := by
 rw [List.drop_eq_getElem_cons h, wAt, if_pos hn]
theorem wAt_stop {m : Int} {l : List Lin} {k : Nat} {n : Int} (h : ¬ (k < l.length ∧ n ≤ m)) : wAt m (l.drop k) n = n := by
 by_cases hk : k < l.length
 ·rw [List.drop_eq_getElem_cons hk, wAt, if_neg fun hn => h ⟨hk, hn⟩]
 ·rw [List.drop_eq_nil_of_le (by omega), wAt]
theorem wIdx_go {m : Int} {l : List Ix} {k : Nat} {n : Int} (h : k < l.length) (hn : n ≤ m) : wIdx m (l.drop k) n = wIdx m (l.drop (k + 1)) (wAt m l[k].2.2 (IntKind.wrap .i64 (IntKind.wrap .i64 (n + l[k].1.2.length) + l[k].2.2.length))) := by
 rw [List.drop_eq_getElem_cons h, wIdx, if_pos hn]
theorem wIdx_stop {m : Int} {l : List Ix} {k : Nat} {n : Int} (h : ¬ (k < l.length ∧ n ≤ m)) : wIdx m (l.drop k) n = n := by
 by_cases hk : k < l.length
 ·rw [List.drop_eq_getElem_cons hk, wIdx, if_neg fun hn => h ⟨hk, hn⟩]
 ·rw [List.drop_eq_nil_of_le (by omega), wIdx]
theorem wArgs_go {m : Int} {l : List Ex} {k : Nat} {n : Int} (h : k < l.length) (hn : n ≤ m) : wArgs (l.drop k) m n = wArgs (l.drop (k + 1)) m (IntKind.wrap .i64 (n + weigh l[k] (IntKind.wrap .i64 (m - n)))) := by
 rw [List.drop_eq_getElem_cons h, wArgs, if_pos hn]
theorem wArgs_stop {m : Int} {l : List Ex} {k : Nat} {n : Int} (h : ¬ (k < l.length ∧ n ≤ m)) : wArgs (l.drop k) m n = n := by
 by_cases hk : k < l.length
 ·rw [List.drop_eq_getElem_cons hk, wArgs, if_neg fun hn => h ⟨hk, hn⟩]
 ·rw [List.drop_eq_nil_of_le (by omega), wArgs]
def longD (d : Dfn) : Prop := 12 < d.dims.length ∨ 12 < d.red.length ∨ 300 < weigh d.body 300 ∨ ∃ a ∈ d.dims ++ d.red, 20 < a.2.2.length
def longX (x : Param) : Prop := 12 < x.2.2.length ∨ ∃ l ∈ x.2.2, 20 < l.2.length
def longS (p : Prg) : Prop := (12 < p.sizes.length ∨ 12 < p.wher.length ∨ 12 < p.params.length ∨ 12 < p.defs.length ∨ 12 < p.outs.length) ∨ (∃ c ∈ p.wher, 20 < c.1.2.length) ∨ (∃ x ∈ p.params, longX x) ∨ ∃ d ∈ p.defs, longD d
noncomputable instance (d : Dfn) : Decidable (longD d) := Classical.propDecidable _
noncomputable instance (x : Param) : Decidable (longX x) := Classical.propDecidable _
noncomputable instance (p : Prg) : Decidable (longS p) := Classical.propDecidable _
theorem few_of {p : Prg} (h : ¬ longS p) : fewP p := by
 refine ⟨fun x hx => ?_, fun d hd => ?_⟩
 ·have hn : ¬ longX x := fun hh => h (.inr (.inr (.inl ⟨x, hx, hh⟩)))
  exact ⟨Nat.le_of_not_lt fun hh => hn (.inl hh), fun l hl => Nat.le_of_not_lt fun hh => hn (.inr ⟨l, hl, hh⟩)⟩
 ·have hn : ¬ longD d := fun hh => h (.inr (.inr (.inr ⟨d, hd, hh⟩)))
  exact ⟨Nat.le_of_not_lt fun hh => hn (.inl hh), Nat.le_of_not_lt fun hh => hn (.inr (.inl hh)),
   fun a ha => Nat.le_of_not_lt fun hh => hn (.inr (.inr (.inr ⟨a, List.mem_append_left _ ha, hh⟩))), fun a ha => Nat.le_of_not_lt fun hh => hn (.inr (.inr (.inr ⟨a, List.mem_append_right _ ha, hh⟩)))⟩
end Go.Proofs.YtbblkakcadonjaaGreatDoor
set_option linter.unusedVariables false
set_option linter.unusedSimpArgs false
set_option maxRecDepth 20000
set_option maxHeartbeats 4000000
set_option maxRecDepth 1000000
namespace Go.Proofs.YtbblkakcadonjaaGreatDoor
open Go.Abs Go.RowKit

set_option maxHeartbeats 2000000 in
theorem base_Weigh_abs (e : Ex) : ∀ m : Int, PCalls Tryz.prog n_base_Weigh [aEx e, I m] (I (weigh e m)) := by
 refine Ex.ind (p := fun e => ∀ m : Int, PCalls Tryz.prog n_base_Weigh [aEx e, I m] (I (weigh e m))) (fun e ih m => ?_) e
 refine PCalls.of is_base_Weigh (by simp) fun hb => runW_sound ?_
 obtain ⟨hla, hli⟩ := bnd_args hb
 have hR : wArgs e.args m (wIdx m e.idx (w0 e)) = weigh e m := (weigh_eq e m).symm
 generalize weigh e m = R at *
 have HR := Lib.hid hR
 clear hR
 conv in c_base_Weigh => cbv
 repeat' first | simp (disch := omega) only [go_sem, *] | ((with_reducible refine condT ?_ ?_) <;> intro h <;> try omega)
 refine AW_loop (fun s : Nat × Int => ⟨[(6, I s.1), (5, I s.2), (2, .c (.ptr 0 0)), (1, I m)], [(0, bEx e)], 1, 0⟩) (fun s => s.1 ≤ e.idx.length ∧ Hid (wIdx m (e.idx.drop s.1) s.2 = wIdx m e.idx (w0 e))) (fun s => e.idx.length - s.1) ⟨(0, w0 e), [], ⟨by omega, rfl⟩, by simp [w0]⟩ ?_
 rintro ⟨k, n⟩ ⟨hk, hall⟩
 refine runW_sound ?_
 simp only at hk hall
 by_cases hgo : k < e.idx.length ∧ n ≤ m
 ·obtain ⟨hlt, hn⟩ := hgo
  have hs := (wIdx_go hlt hn).symm.trans hall.out
  have HS := Lib.hid hs
  clear hall hs
  repeat' first | simp (disch := omega) only [go_sem, *, map_get hlt, ixP, wrap_i64, hn] | ((with_reducible refine condT ?_ ?_) <;> intro h <;> try omega)
  refine AW_bnd 45 fun hbd => ?_
  have hla2 : e.idx[k].2.2.length ≤ 9223372036854775807 := by simpa [look_cons, bndV, bndA] using hbd
  clear hbd
  generalize hB : IntKind.wrap .i64 (IntKind.wrap .i64 (n + e.idx[k].1.2.length) + e.idx[k].2.2.length) = n1 at *
  obtain ⟨N2, hN2⟩ : ∃ N2, wAt m e.idx[k].2.2 n1 = N2 := ⟨_, rfl⟩
  rw [hN2] at HS
  have H2 := Lib.hid hN2
  clear hN2 hB hn
  refine AW_loop (fun s : Nat × Int => ⟨[(7, I s.1), (6, I k), (5, I s.2), (2, .c (.ptr 0 0)), (1, I m)], [(0, bEx e)], 1, 0⟩) (fun s => s.1 ≤ e.idx[k].2.2.length ∧ Hid (wAt m (e.idx[k].2.2.drop s.1) s.2 = N2)) (fun s => e.idx[k].2.2.length - s.1) ⟨(0, n1), [], ⟨by omega, H2⟩, by simp⟩ ?_
  clear H2
  rintro ⟨j, n2⟩ ⟨hj, hall2⟩
  refine runW_sound ?_
  simp only at hj hall2
  by_cases hgo2 : j < e.idx[k].2.2.length ∧ n2 ≤ m
  ·obtain ⟨hlt2, hn2⟩ := hgo2
   have hs2 := (wAt_go hlt2 hn2).symm.trans hall2.out
   have HS2 := Lib.hid hs2
   clear hall2 hs2
   repeat' first | simp (disch := omega) only [go_sem, *, map_get hlt, map_get hlt2, ixP, linP, wrap_i64, hn2] | ((with_reducible refine condT ?_ ?_) <;> intro h <;> try omega)
   exact ⟨(j + 1, IntKind.wrap .i64 (n2 + e.idx[k].2.2[j].2.length)), [], ⟨by omega, HS2⟩, by show _ - _ < _ - _; omega, by simp⟩
  ·have hs2 := (wAt_stop hgo2).symm.trans hall2.out
   subst hs2
   clear hall2
   by_cases hlt2 : j < e.idx[k].2.2.length
   ·have hn2 : ¬ n2 ≤ m := fun h => hgo2 ⟨hlt2, h⟩
    clear hgo2
    repeat' first | simp (disch := omega) only [go_sem, *, map_get hlt, ixP, wrap_i64, hn2] | ((with_reducible refine condT ?_ ?_) <;> intro h <;> try omega)
    exact ⟨(k + 1, n2), [], ⟨by omega, HS⟩, by show _ - _ < _ - _; omega, by simp⟩
   ·clear hgo2
    repeat' first | simp (disch := omega) only [go_sem, *, map_get hlt, ixP, wrap_i64] | ((with_reducible refine condT ?_ ?_) <;> intro h <;> try omega)
    exact ⟨(k + 1, n2), [], ⟨by omega, HS⟩, by show _ - _ < _ - _; omega, by simp⟩
 ·have hs := (wIdx_stop hgo).symm.trans hall.out
  clear hall
  rw [← hs] at HR
  have fin : ∀ (P : Prop), P → P := fun _ h => h
  clear hs
  have hcase : (k < e.idx.length ∧ ¬ n ≤ m) ∨ ¬ k < e.idx.length := by
   by_cases h : k < e.idx.length
   ·exact .inl ⟨h, fun hh => hgo ⟨h, hh⟩⟩
   ·exact .inr h
  clear hgo fin
  rcases hcase with ⟨hlt, hn⟩ | hlt
  all_goals
   repeat' first | simp (disch := omega) only [go_sem, *, wrap_i64] | ((with_reducible refine condT ?_ ?_) <;> intro h <;> try omega)
   repeat clear hn
   refine AW_loop (fun s : Nat × Int => ⟨[(8, I s.1), (5, I s.2), (2, .c (.ptr 0 0)), (1, I m)], [(0, bEx e)], 1, 0⟩) (fun s => s.1 ≤ e.args.length ∧ Hid (wArgs (e.args.drop s.1) m s.2 = R)) (fun s => e.args.length - s.1) ⟨(0, n), [], ⟨by omega, HR⟩, by simp⟩ ?_
   clear HR
   repeat clear hlt
   rintro ⟨j, n2⟩ ⟨hj, hall2⟩
   refine runW_sound ?_
   simp only at hj hall2
   by_cases hlt2 : j < e.args.length
   ·by_cases hn2 : n2 ≤ m
    ·have hs2 := (wArgs_go hlt2 hn2).symm.trans hall2.out
     have HS2 := Lib.hid hs2
     have cW := ih _ (List.getElem_mem hlt2) (IntKind.wrap .i64 (m - n2))
     clear hall2 hs2 ih
     repeat' first | simp (disch := omega) only [go_sem, *, map_get hlt2, Ex.row_eq, wrap_i64, hn2] | ((with_reducible refine condT ?_ ?_) <;> intro h <;> try omega) | (refine w_L cW rfl rfl ?_)
     exact ⟨(j + 1, IntKind.wrap .i64 (n2 + weigh e.args[j] (IntKind.wrap .i64 (m - n2)))), [], ⟨by omega, HS2⟩, by show _ - _ < _ - _; omega, by simp⟩
    ·have hs2 := (wArgs_stop (l := e.args) (k := j) fun h => hn2 h.2).symm.trans hall2.out
     rw [← hs2]
     clear hall2 hs2 ih
     repeat' first | simp (disch := omega) only [go_sem, *, hn2] | ((with_reducible refine condT ?_ ?_) <;> intro h <;> try omega)
   ·have hs2 := (wArgs_stop (m := m) (n := n2) (l := e.args) (k := j) fun h => hlt2 h.1).symm.trans hall2.out
    rw [← hs2]
    clear hall2 hs2 ih
    repeat' first | simp (disch := omega) only [go_sem, *] | ((with_reducible refine condT ?_ ?_) <;> intro h <;> try omega)
end Go.Proofs.YtbblkakcadonjaaGreatDoor
set_option linter.unusedVariables false
set_option linter.unusedSimpArgs false
set_option maxRecDepth 20000
set_option maxHeartbeats 4000000
set_option maxRecDepth 1000000
namespace Go.Proofs.YtbblkakcadonjaaGreatDoor
open Go.Abs Go.RowKit

noncomputable instance wideDec (l : List Lin) : Decidable (∃ x ∈ l, 20 < x.2.length) := Classical.propDecidable _
theorem ref17_wide_abs (l : List Lin) : PCalls Tryz.prog n_ref17_wide [aLins l] (Go.Abs.B (@decide (∃ x ∈ l, 20 < x.2.length) (wideDec l))) := by
 refine PCalls.of is_ref17_wide (by simp) fun hb => runW_sound ?_
 have hl : l.length ≤ 9223372036854775807 := by
  have := hb.1
  simpa [bndV, bndA] using this
 conv in c_ref17_wide => cbv
 repeat' first | simp (disch := omega) only [go_sem, *] | ((with_reducible refine condT ?_ ?_) <;> intro h <;> try omega)
 refine AW_loop (fun k : Nat => ⟨[(3, I k), (0, aLins l)], [], 0, 0⟩) (fun k => k ≤ l.length ∧ upTo (fun i => ∀ h : i < l.length, ¬ 20 < l[i].2.length) k) (fun k => l.length - k) ⟨0, [], ⟨by omega, .zero⟩, by simp⟩ ?_
 rintro k ⟨hk, hall⟩
 refine runW_sound ?_
 by_cases hlt : k < l.length
 ·by_cases h : 20 < l[k].2.length
  ·rw [@decide_eq_true _ (wideDec l) ⟨l[k], List.getElem_mem hlt, h⟩]
   have h' : (l[k].2.length : Int) > 20 := by omega
   clear hall
   repeat' first | simp (disch := omega) only [go_sem, *, map_get hlt, linP, wrap_i64, h'] | ((with_reducible refine condT ?_ ?_) <;> intro h <;> try omega)
  ·have HA := Lib.hid (hall.succ fun _ => h)
   have h' : ¬ (l[k].2.length : Int) > 20 := by omega
   clear hall h
   repeat' first | simp (disch := omega) only [go_sem, *, map_get hlt, linP, wrap_i64, h'] | ((with_reducible refine condT ?_ ?_) <;> intro h <;> try omega)
   exact ⟨k + 1, [], ⟨by omega, HA.out⟩, by omega, by simp⟩
 ·rw [@decide_eq_false _ (wideDec l) (by
   rintro ⟨x, hx, h⟩
   obtain ⟨i, hi, rfl⟩ := List.mem_iff_getElem.1 hx
   exact hall i (by omega) hi h)]
  clear hall
  repeat' first | simp (disch := omega) only [go_sem, *] | ((with_reducible refine condT ?_ ?_) <;> intro h <;> try omega)
set_option maxHeartbeats 4000000 in
theorem ref17_Long_abs (p : Prg) : PCalls Tryz.prog n_ref17_Long [aPrg p, I 300] (Go.Abs.B (decide (longS p))) := by
 refine PCalls.of is_ref17_Long (by simp) fun hb => runW_sound ?_
 conv in c_ref17_Long => cbv
 by_cases h5 : 12 < p.sizes.length ∨ 12 < p.wher.length ∨ 12 < p.params.length ∨ 12 < p.defs.length ∨ 12 < p.outs.length
 ·rw [decide_eq_true (show longS p from .inl h5)]
  repeat' first | simp (disch := omega) only [go_sem] | ((with_reducible refine condT ?_ ?_) <;> intro h <;> try first | omega | simp (disch := omega) only [go_sem, *])
 ·have hd : (∀ i (h : i < p.wher.length), ¬ 20 < p.wher[i].1.2.length) → (∀ i (h : i < p.params.length), ¬ longX p.params[i]) → (∀ i (h : i < p.defs.length), ¬ longD p.defs[i]) → decide (longS p) = false := fun g1 g2 g3 => decide_eq_false (by
   rintro (h | ⟨x, hx, h⟩ | ⟨x, hx, h⟩ | ⟨x, hx, h⟩)
   ·exact h5 h
   ·obtain ⟨i, hi, rfl⟩ := List.mem_iff_getElem.1 hx
    exact g1 i hi h
   ·obtain ⟨i, hi, rfl⟩ := List.mem_iff_getElem.1 hx
    exact g2 i hi h
   ·obtain ⟨i, hi, rfl⟩ := List.mem_iff_getElem.1 hx
    exact g3 i hi h)
  have HF := Lib.hid hd
  clear hd
  obtain ⟨hl1, hl2, hl3, hl4, hl5⟩ : p.sizes.length ≤ 12 ∧ p.wher.length ≤ 12 ∧ p.params.length ≤ 12 ∧ p.defs.length ≤ 12 ∧ p.outs.length ≤ 12 := by omega
  clear h5
  repeat' first | simp (disch := omega) only [go_sem] | ((with_reducible refine condT ?_ ?_) <;> intro h <;> try first | omega | simp (disch := omega) only [go_sem, *])
  refine AW_loop (fun k : Nat => ⟨[(5, I k), (2, .c (.ptr 0 0)), (1, I 300)], [(0, bPrg p)], 1, 0⟩) (fun k => k ≤ p.wher.length ∧ upTo (fun i => ∀ h : i < p.wher.length, ¬ 20 < p.wher[i].1.2.length) k) (fun k => p.wher.length - k) ⟨0, [], ⟨by omega, .zero⟩, by simp⟩ ?_
  rintro k ⟨hk, hall⟩
  refine runW_sound ?_
  by_cases hlt : k < p.wher.length
  ·by_cases h : 20 < p.wher[k].1.2.length
   ·rw [decide_eq_true (show longS p from .inr (.inl ⟨_, List.getElem_mem hlt, h⟩))]
    have h' : (p.wher[k].1.2.length : Int) > 20 := by omega
    clear hall
    repeat' first | simp (disch := omega) only [go_sem, map_get hlt, cP, wrap_i64, h'] | ((with_reducible refine condT ?_ ?_) <;> intro h <;> try first | omega | simp (disch := omega) only [go_sem, *, map_get hlt, cP, wrap_i64, h'])
   ·have HA := Lib.hid (hall.succ fun _ => h)
    have h' : ¬ (p.wher[k].1.2.length : Int) > 20 := by omega
    clear hall h
    repeat' first | simp (disch := omega) only [go_sem, map_get hlt, cP, wrap_i64, h'] | ((with_reducible refine condT ?_ ?_) <;> intro h <;> try first | omega | simp (disch := omega) only [go_sem, *, map_get hlt, cP, wrap_i64, h'])
    exact ⟨k + 1, [], ⟨by omega, HA.out⟩, by omega, by simp⟩
  have H1 : Hid (∀ i (h : i < p.wher.length), ¬ 20 < p.wher[i].1.2.length) := fun i hi => hall i (by omega) hi
  clear hall
  repeat' first | simp (disch := omega) only [go_sem] | ((with_reducible refine condT ?_ ?_) <;> intro h <;> try first | omega | simp (disch := omega) only [go_sem, *])
  repeat clear hlt
  repeat clear hk
  refine AW_loop (fun k : Nat => ⟨[(6, I k), (2, .c (.ptr 0 0)), (1, I 300)], [(0, bPrg p)], 1, 0⟩) (fun k => k ≤ p.params.length ∧ upTo (fun i => ∀ h : i < p.params.length, ¬ longX p.params[i]) k) (fun k => p.params.length - k) ⟨0, [], ⟨by omega, .zero⟩, by simp⟩ ?_
  rintro k ⟨hk, hall⟩
  refine runW_sound ?_
  by_cases hlt : k < p.params.length
  ·have cW := ref17_wide_abs p.params[k].2.2
   by_cases h : longX p.params[k]
   ·rw [decide_eq_true (show longS p from .inr (.inr (.inl ⟨_, List.getElem_mem hlt, h⟩)))]
    by_cases hw : ∃ l ∈ p.params[k].2.2, 20 < l.2.length
    ·rw [decide_eq_true hw] at cW
     clear hall h hw
     repeat' first | simp (disch := omega) only [go_sem, map_get hlt, parP, wrap_i64] | ((with_reducible refine condT ?_ ?_) <;> intro h <;> try first | omega | simp (disch := omega) only [go_sem, *, map_get hlt, parP, wrap_i64]) | (refine w_L cW rfl rfl ?_)
    ·have h' : 12 < p.params[k].2.2.length := h.resolve_right hw
     clear hall h hw cW
     repeat' first | simp (disch := omega) only [go_sem, map_get hlt, parP, wrap_i64] | ((with_reducible refine condT ?_ ?_) <;> intro h <;> try first | omega | simp (disch := omega) only [go_sem, *, map_get hlt, parP, wrap_i64])
   ·have HA := Lib.hid (hall.succ fun _ => h)
    have hw : ¬ ∃ l ∈ p.params[k].2.2, 20 < l.2.length := fun hh => h (.inr hh)
    have h' : ¬ 12 < p.params[k].2.2.length := fun hh => h (.inl hh)
    rw [decide_eq_false hw] at cW
    clear hall h hw
    repeat' first | simp (disch := omega) only [go_sem, map_get hlt, parP, wrap_i64] | ((with_reducible refine condT ?_ ?_) <;> intro h <;> try first | omega | simp (disch := omega) only [go_sem, *, map_get hlt, parP, wrap_i64]) | (refine w_L cW rfl rfl ?_)
    exact ⟨k + 1, [], ⟨by omega, HA.out⟩, by omega, by simp⟩
  have H2 : Hid (∀ i (h : i < p.params.length), ¬ longX p.params[i]) := fun i hi => hall i (by omega) hi
  clear hall
  repeat' first | simp (disch := omega) only [go_sem] | ((with_reducible refine condT ?_ ?_) <;> intro h <;> try first | omega | simp (disch := omega) only [go_sem, *])
  repeat clear hlt
  repeat clear hk
  refine AW_loop (fun k : Nat => ⟨[(7, I k), (2, .c (.ptr 0 0)), (1, I 300)], [(0, bPrg p)], 1, 0⟩) (fun k => k ≤ p.defs.length ∧ upTo (fun i => ∀ h : i < p.defs.length, ¬ longD p.defs[i]) k) (fun k => p.defs.length - k) ⟨0, [], ⟨by omega, .zero⟩, by simp⟩ ?_
  rintro k ⟨hk, hall⟩
  refine runW_sound ?_
  by_cases hlt : k < p.defs.length
  ·have cW := base_Weigh_abs p.defs[k].body 300
   have hyes : longD p.defs[k] → longS p := fun h => .inr (.inr (.inr ⟨_, List.getElem_mem hlt, h⟩))
   by_cases h : 12 < p.defs[k].dims.length ∨ 12 < p.defs[k].red.length ∨ 300 < weigh p.defs[k].body 300
   ·rw [decide_eq_true (hyes (by
     rcases h with h | h | h
     ·exact .inl h
     ·exact .inr (.inl h)
     ·exact .inr (.inr (.inl h))))]
    clear hall hyes
    generalize weigh p.defs[k].body 300 = W at *
    repeat' first | simp (disch := omega) only [go_sem, map_get hlt, defP, wrap_i64] | ((with_reducible refine condT ?_ ?_) <;> intro h <;> try first | omega | simp (disch := omega) only [go_sem, *, map_get hlt, defP, wrap_i64]) | (refine w_L cW rfl rfl ?_)
   ·have hD : (∀ i (h : i < (p.defs[k].dims ++ p.defs[k].red).length), ¬ 20 < (p.defs[k].dims ++ p.defs[k].red)[i].2.2.length) → Hid (upTo (fun i => ∀ h : i < p.defs.length, ¬ longD p.defs[i]) (k + 1)) := fun g => hall.succ fun _ hh => by
     rcases hh with hh | hh | hh | ⟨a, ha, hh⟩
     ·exact h (.inl hh)
     ·exact h (.inr (.inl hh))
     ·exact h (.inr (.inr hh))
     ·obtain ⟨i, hi, rfl⟩ := List.mem_iff_getElem.1 ha
      exact g i hi hh
    have hy2 : ∀ i (h : i < (p.defs[k].dims ++ p.defs[k].red).length), 20 < (p.defs[k].dims ++ p.defs[k].red)[i].2.2.length → longS p := fun i hi hh => hyes (.inr (.inr (.inr ⟨_, List.getElem_mem hi, hh⟩)))
    obtain ⟨h1, h2, h3⟩ : p.defs[k].dims.length ≤ 12 ∧ p.defs[k].red.length ≤ 12 ∧ weigh p.defs[k].body 300 ≤ 300 := by omega
    clear hall hyes h
    generalize weigh p.defs[k].body 300 = W at *
    repeat' first | simp (disch := omega) only [go_sem, map_get hlt, defP, wrap_i64] | ((with_reducible refine condT ?_ ?_) <;> intro h <;> try first | omega | simp (disch := omega) only [go_sem, *, map_get hlt, defP, wrap_i64]) | (refine w_L cW rfl rfl ?_)
    clear cW h3
    refine AW_loop (fun j : Nat => ⟨[(9, I j), (8, .c (.ptr 1 0)), (7, I k), (2, .c (.ptr 0 0)), (1, I 300)], [(1, bDfn p.defs[k]), (0, bPrg p)], 2, 0⟩) (fun j => j ≤ (p.defs[k].dims ++ p.defs[k].red).length ∧ upTo (fun i => ∀ h : i < (p.defs[k].dims ++ p.defs[k].red).length, ¬ 20 < (p.defs[k].dims ++ p.defs[k].red)[i].2.2.length) j) (fun j => (p.defs[k].dims ++ p.defs[k].red).length - j) ⟨0, [], ⟨by omega, .zero⟩, by simp⟩ ?_
    rintro j ⟨hj, hal2⟩
    refine runW_sound ?_
    have hLl : (p.defs[k].dims ++ p.defs[k].red).length = p.defs[k].dims.length + p.defs[k].red.length := List.length_append
    by_cases hlt2 : j < (p.defs[k].dims ++ p.defs[k].red).length
    ·have hlt3 : (j : Int) < p.defs[k].dims.length + p.defs[k].red.length := by omega
     by_cases hdn : p.defs[k].dims = []
     ·have hget : (p.defs[k].dims ++ p.defs[k].red)[j] = p.defs[k].red[j]'(by simpa [hdn] using hlt2) := by simp [hdn]
      have hltr : j < p.defs[k].red.length := by simpa [hdn] using hlt2
      by_cases h : 20 < (p.defs[k].dims ++ p.defs[k].red)[j].2.2.length
      ·rw [decide_eq_true (hy2 j hlt2 h)]
       rw [hget] at h
       have h' : (p.defs[k].red[j].2.2.length : Int) > 20 := by omega
       clear hal2 hy2 hD hget h hlt2 hLl hj
       repeat' first | simp (disch := omega) only [go_sem, hdn, map_get hltr, axP, wrap_i64, h'] | ((with_reducible refine condT ?_ ?_) <;> intro h <;> try first | omega | simp (disch := omega) only [go_sem, *, hdn, map_get hltr, axP, wrap_i64, h']) | (with_reducible refine bothW_intro ?_ ?_) | (with_reducible refine nilW_intro (fun h => ?_) ?_) | (refine app_tslN rowsOk_nil ?_) | (refine app_tslP rowsOk_nil (rowsOk_map fun x => rfl) (by simp; omega) (by simp; omega) ?_)
      ·have HA := Lib.hid (hal2.succ fun _ => h)
       rw [hget] at h
       have h' : ¬ (p.defs[k].red[j].2.2.length : Int) > 20 := by omega
       have hj2 : j + 1 ≤ (p.defs[k].dims ++ p.defs[k].red).length := by omega
       have hj3 : (p.defs[k].dims ++ p.defs[k].red).length - (j + 1) < (p.defs[k].dims ++ p.defs[k].red).length - j := by omega
       have ha2 := HA.out
       simp only [hdn, List.nil_append] at ha2 hj2 hj3
       have HA2 := Lib.hid ha2
       have HJ2 := Lib.hid hj2
       have HJ3 := Lib.hid hj3
       clear hal2 hy2 hget h hlt2 hLl hj hj2 hj3 ha2 HA
       repeat' first | simp (disch := omega) only [go_sem, hdn, map_get hltr, axP, wrap_i64, h'] | ((with_reducible refine condT ?_ ?_) <;> intro h <;> try first | omega | simp (disch := omega) only [go_sem, *, hdn, map_get hltr, axP, wrap_i64, h']) | (with_reducible refine bothW_intro ?_ ?_) | (with_reducible refine nilW_intro (fun h => ?_) ?_) | (refine app_tslN rowsOk_nil ?_) | (refine app_tslP rowsOk_nil (rowsOk_map fun x => rfl) (by simp; omega) (by simp; omega) ?_)
       all_goals exact ⟨j + 1, [], ⟨HJ2.out, HA2.out⟩, HJ3.out, by simp [hdn]⟩
     ·by_cases h : 20 < (p.defs[k].dims ++ p.defs[k].red)[j].2.2.length
      ·rw [decide_eq_true (hy2 j hlt2 h)]
       have h' : ((p.defs[k].dims ++ p.defs[k].red)[j].2.2.length : Int) > 20 := by omega
       clear hal2 hy2 hD h hj
       repeat' first | simp (disch := omega) only [go_sem, ← List.map_append, map_get hlt2, axP, wrap_i64, h'] | ((with_reducible refine condT ?_ ?_) <;> intro h <;> try first | omega | simp (disch := omega) only [go_sem, *, ← List.map_append, map_get hlt2, axP, wrap_i64, h']) | (with_reducible refine bothW_intro ?_ ?_) | (with_reducible refine nilW_intro (fun h => ?_) ?_) | (refine app_tsl rowsOk_nil (rowsOk_map fun x => rfl) (by simpa using hdn) (by simp; omega) (by simp; omega) ?_) | (refine app_own rfl (by intro h; cases h) (rowsOk_map fun x => rfl) (by simp; omega) (by simp; omega) ?_)
      ·have HA := Lib.hid (hal2.succ fun _ => h)
       have h' : ¬ ((p.defs[k].dims ++ p.defs[k].red)[j].2.2.length : Int) > 20 := by omega
       clear hal2 hy2 h
       repeat' first | simp (disch := omega) only [go_sem, ← List.map_append, map_get hlt2, axP, wrap_i64, h'] | ((with_reducible refine condT ?_ ?_) <;> intro h <;> try first | omega | simp (disch := omega) only [go_sem, *, ← List.map_append, map_get hlt2, axP, wrap_i64, h']) | (with_reducible refine bothW_intro ?_ ?_) | (with_reducible refine nilW_intro (fun h => ?_) ?_) | (refine app_tsl rowsOk_nil (rowsOk_map fun x => rfl) (by simpa using hdn) (by simp; omega) (by simp; omega) ?_) | (refine app_own rfl (by intro h; cases h) (rowsOk_map fun x => rfl) (by simp; omega) (by simp; omega) ?_)
       all_goals exact ⟨j + 1, [], ⟨by omega, HA.out⟩, by omega, by simp⟩
    ·have HA := hD fun i hi => hal2 i (by omega) hi
     have hlt3 : ¬ (j : Int) < p.defs[k].dims.length + p.defs[k].red.length := by omega
     clear hal2 hD hy2 hlt2 hLl hj
     repeat' first | simp (disch := omega) only [go_sem, wrap_i64] | ((with_reducible refine condT ?_ ?_) <;> intro h <;> try first | omega | simp (disch := omega) only [go_sem, *, wrap_i64])
     exact ⟨k + 1, [], ⟨by omega, HA.out⟩, by omega, by simp⟩
  ·rw [HF.out H1.out H2.out fun i hi => hall i (by omega) hi]
   clear hall
   repeat' first | simp (disch := omega) only [go_sem] | ((with_reducible refine condT ?_ ?_) <;> intro h <;> try first | omega | simp (disch := omega) only [go_sem, *])
theorem ref18_Small_abs (p : Prg) : PCalls Tryz.prog n_ref18_Small [aPrg p] (Go.Abs.B (decide (p.defs.length ≤ 8 ∧ ¬ longS p))) := by
 refine PCalls.of is_ref18_Small (by simp) fun hb => runW_sound ?_
 have cL := ref17_Long_abs p
 conv in c_ref18_Small => cbv
 by_cases h1 : p.defs.length ≤ 8
 ·by_cases h2 : longS p
  ·rw [decide_eq_true h2] at cL
   rw [decide_eq_false (fun h => h.2 h2)]
   clear h2
   repeat' first | simp (disch := omega) only [go_sem, *] | ((with_reducible refine condT ?_ ?_) <;> intro h <;> try omega) | (refine w_L cL rfl rfl ?_)
   all_goals rfl
  ·rw [decide_eq_false h2] at cL
   rw [decide_eq_true ⟨h1, h2⟩]
   clear h2
   repeat' first | simp (disch := omega) only [go_sem, *] | ((with_reducible refine condT ?_ ?_) <;> intro h <;> try omega) | (refine w_L cL rfl rfl ?_)
   all_goals rfl
 ·rw [decide_eq_false (fun h => h1 h.1)]
  clear cL
  repeat' first | simp (disch := omega) only [go_sem, *] | ((with_reducible refine condT ?_ ?_) <;> intro h <;> try omega)
end Go.Proofs.YtbblkakcadonjaaGreatDoor
