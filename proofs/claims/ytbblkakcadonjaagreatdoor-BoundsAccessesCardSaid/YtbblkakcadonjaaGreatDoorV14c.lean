/- Walks: the reference's expressions, whole. -/
import Derived.Test.YtbblkakcadonjaaGreatDoorV14b
set_option linter.unusedVariables false
set_option linter.unusedSimpArgs false
set_option maxRecDepth 20000
set_option maxHeartbeats 4000000
set_option maxRecDepth 1000000
namespace Go.Proofs.YtbblkakcadonjaaGreatDoor
open Go.Abs Go.RowKit

def ixF (x : Ix) : Prop := linOk x.1.2 ∧ ∀ l ∈ x.2.2, linOk l.2
theorem frmd_iff {e : Ex} : frmdOk e ↔ (e.op = 1 → valOk e.ty e.val) ∧ linOk e.lin.2 ∧ ∀ x ∈ e.idx, ixF x := by
 unfold frmdOk Ex.forms ixF
 constructor
 ·rintro ⟨h1, h2⟩
  refine ⟨h1, h2 _ List.mem_cons_self, fun x hx => ⟨h2 _ (List.mem_cons_of_mem _ (List.mem_flatMap.2 ⟨x, hx, List.mem_cons_self⟩)), fun l hl => h2 _ (List.mem_cons_of_mem _ (List.mem_flatMap.2 ⟨x, hx, List.mem_cons_of_mem _ hl⟩))⟩⟩
 ·rintro ⟨h1, h2, h3⟩
  refine ⟨h1, fun l hl => ?_⟩
  rcases List.mem_cons.1 hl with rfl | hl
  ·exact h2
  ·obtain ⟨x, hx, hl⟩ := List.mem_flatMap.1 hl
   rcases List.mem_cons.1 hl with rfl | hl
   ·exact (h3 x hx).1
   ·exact (h3 x hx).2 l hl
theorem ref14_formed_abs {e : Ex} (ht : e.op = 1 → tyOk e.ty) (hv : frIn e.val) (hr : ∀ x ∈ e.idx, x.2.2.length ≤ 6) : PCalls Tryz.prog n_ref14_formed [aEx e] (Go.Abs.B (decide (frmdOk e))) := by
 refine PCalls.of is_ref14_formed (by simp) fun hb => runW_sound ?_
 have hl := (bnd_args hb).2
 conv in c_ref14_formed => cbv
 repeat' first | simp (disch := omega) only [go_sem, *] | ((with_reducible refine condT ?_ ?_) <;> intro h <;> try omega) | (refine w_L (base_Val_ty (ht (by assumption)) hv) rfl rfl ?_) | (refine w_L (base_LinRight_abs _ _) rfl rfl ?_)
 all_goals first
  | (refine BD ?_; clear hb; simp only [Bool.not_eq_true', decI, decN, reduceCtorEq, false_iff, true_iff, not_exists, not_and, Classical.not_not, decide_eq_true_iff, decide_eq_false_iff_not]; first | done | grind [frmd_iff])
  | skip
 all_goals (
  have hs : (e.op = 1 → valOk e.ty e.val) ∧ linOk e.lin.2 := by grind
  refine AW_loop (fun k : Nat => ⟨[(3, I k), (1, .c (.ptr 0 0))], [(0, bEx e)], 1, 0⟩) (fun k => k ≤ e.idx.length ∧ upTo (fun i => ∀ h : i < e.idx.length, ixF e.idx[i]) k) (fun k => e.idx.length - k) ⟨0, [], ⟨by omega, .zero⟩, by simp [*]⟩ ?_
  repeat clear h
  have HT := Lib.hid hs
  clear hs ht
  rintro k ⟨hk, hall⟩
  refine runW_sound ?_
  by_cases hlt : k < e.idx.length
  ·have h6 := hr _ (List.getElem_mem hlt)
   repeat' first | simp (disch := omega) only [go_sem, *, map_get hlt, ixP, wrap_i64] | ((with_reducible refine condT ?_ ?_) <;> intro h <;> try omega) | (refine w_L (base_LinRight_abs _ _) rfl rfl ?_)
   ·refine AW_loop (fun j : Nat => ⟨[(4, I j), (3, I k), (1, .c (.ptr 0 0))], [(0, bEx e)], 1, 0⟩) (fun j => j ≤ e.idx[k].2.2.length ∧ upTo (fun i => ∀ h : i < e.idx[k].2.2.length, linOk e.idx[k].2.2[i].2) j) (fun j => e.idx[k].2.2.length - j) ⟨0, [], ⟨by omega, .zero⟩, by simp⟩ ?_
    rintro j ⟨hj, halj⟩
    refine runW_sound ?_
    by_cases hlj : j < e.idx[k].2.2.length
    ·repeat' first | simp (disch := omega) only [go_sem, *, map_get hlt, map_get hlj, ixP, linP, wrap_i64] | ((with_reducible refine condT ?_ ?_) <;> intro h <;> try omega) | (refine w_L (base_LinRight_abs _ _) rfl rfl ?_)
     ·exact ⟨j + 1, [], ⟨by omega, halj.succ fun _ => h⟩, by omega, by simp⟩
     ·refine BD ⟨fun h => (by cases h), fun h' => ?_⟩
      exact absurd (((frmd_iff.1 h').2.2 _ (List.getElem_mem hlt)).2 _ (List.getElem_mem hlj)) h
    ·repeat' first | simp (disch := omega) only [go_sem, *, map_get hlt, ixP, wrap_i64] | ((with_reducible refine condT ?_ ?_) <;> intro h <;> try omega)
     refine ⟨k + 1, [], ⟨by omega, hall.succ fun _ => ⟨‹_›, fun l hl => ?_⟩⟩, by omega, by simp⟩
     obtain ⟨i, hi, rfl⟩ := List.mem_iff_getElem.1 hl
     exact halj i (by omega) hi
   ·refine BD ⟨fun h => (by cases h), fun h' => ?_⟩
    exact absurd ((frmd_iff.1 h').2.2 _ (List.getElem_mem hlt)).1 h
  ·repeat' first | simp (disch := omega) only [go_sem, *] | ((with_reducible refine condT ?_ ?_) <;> intro h <;> try omega)
   refine BD ⟨fun _ => frmd_iff.2 ⟨HT.out.1, HT.out.2, fun x hx => ?_⟩, fun _ => rfl⟩
   obtain ⟨i, hi, rfl⟩ := List.mem_iff_getElem.1 hx
   exact hall i (by omega) hi)
theorem fstE_take {l : List Ex} {k : Nat} (h : k < l.length) (hf : fstE ((Ex.pres (l.take k)).map nodeErr) = 0) : fstE ((Ex.pres (l.take (k + 1))).map nodeErr) = partErr l[k] := by
 rw [Ex.pres_take h, List.map_append, fstE_append, if_neg (by rw [hf]; simp)]
 rfl
theorem fstE_part {l : List Ex} {k : Nat} (h : k < l.length) (hf : fstE ((Ex.pres (l.take k)).map nodeErr) = 0) (hp : partErr l[k] ≠ 0) : fstE ((Ex.pres l).map nodeErr) = partErr l[k] := by
 have key : fstE ((Ex.pres (l.take (k + 1) ++ l.drop (k + 1))).map nodeErr) = partErr l[k] := by
  rw [Ex.pres_append, List.map_append, fstE_append, fstE_take h hf, if_pos hp]
 rw [List.take_append_drop] at key
 exact key
theorem pre_arg {e a b : Ex} (ha : a ∈ e.args) (hb : b ∈ a.pre) : b ∈ e.pre := by
 rw [Ex.pre_eq]
 refine List.mem_cons_of_mem _ ?_
 generalize e.args = l at ha
 induction l with
 | nil => cases ha
 | cons x r ihr =>
  rw [Ex.pres]
  rcases List.mem_cons.1 ha with rfl | ha
  ·exact List.mem_append_left _ hb
  ·exact List.mem_append_right _ (ihr ha)
theorem ref14_part_abs (e : Ex) : (∀ a ∈ e.pre, frIn a.val) → PCalls Tryz.prog n_ref14_part [aEx e] (I (partErr e)) := by
 refine Ex.ind (p := fun e => (∀ a ∈ e.pre, frIn a.val) → PCalls Tryz.prog n_ref14_part [aEx e] (I (partErr e))) (fun e ih h64 => ?_) e
 refine PCalls.of is_ref14_part (by simp) fun hb => runW_sound ?_
 have hl := (bnd_args hb).1
 have hv : frIn e.val := h64 e (by rw [Ex.pre_eq]; exact List.mem_cons_self)
 have h64' : ∀ a ∈ e.args, ∀ b ∈ a.pre, frIn b.val := fun a ha b hb => h64 b (pre_arg ha hb)
 conv in c_ref14_part => cbv
 rw [partErr_eq]
 by_cases h1 : synOk e
 ·by_cases h2 : namOk e
  ·by_cases h3 : rnkOk e
   ·by_cases h4 : typdOk e
    ·by_cases h5 : frmdOk e
     ·have hn : nodeErr e = 0 := by simp [nodeErr, h1, h2, h3, h4, h5]
      have hform := ref14_formed_abs (e := e) (fun h => h4.1 (.inl h)) hv h3.2.2
      rw [if_neg (by rw [hn]; simp)]
      have HN := Lib.hid hn
      clear hn
      repeat' first | simp (disch := omega) only [go_sem, *, h1, h2, h3, h4, h5] | ((with_reducible refine condT ?_ ?_) <;> intro h <;> try omega) | (refine w_L (ref14_plain_abs e) rfl rfl ?_) | (refine w_L (ref14_named_abs e) rfl rfl ?_) | (refine w_L (ref14_ranked_abs e) rfl rfl ?_) | (refine w_L (ref14_typed_abs e) rfl rfl ?_) | (refine w_L hform rfl rfl ?_)
      refine AW_loop (fun k : Nat => ⟨[(3, I k), (1, .c (.ptr 0 0))], [(0, bEx e)], 1, 0⟩) (fun k => k ≤ e.args.length ∧ Hid (fstE ((Ex.pres (e.args.take k)).map nodeErr) = 0)) (fun k => e.args.length - k) ⟨0, [], ⟨by omega, by show _ = _; simp [Ex.pres, fstE]⟩, by simp⟩ ?_
      clear h1 h2 h3 h4 h5 hform
      rintro k ⟨hk, hall⟩
      refine runW_sound ?_
      by_cases hlt : k < e.args.length
      ·have hih := ih _ (List.getElem_mem hlt) (h64' _ (List.getElem_mem hlt))
       clear ih h64'
       by_cases hp : partErr e.args[k] = 0
       ·repeat' first | simp (disch := omega) only [go_sem, *, map_get hlt, Ex.row_eq, wrap_i64, hp] | ((with_reducible refine condT ?_ ?_) <;> intro h <;> try omega) | (refine w_L hih rfl rfl ?_)
        exact ⟨k + 1, [], ⟨by omega, by show _ = _; rw [fstE_take hlt hall.out]; exact hp⟩, by omega, by simp⟩
       ·repeat' first | simp (disch := omega) only [go_sem, *, map_get hlt, Ex.row_eq, wrap_i64, hp] | ((with_reducible refine condT ?_ ?_) <;> intro h <;> try omega) | (refine w_L hih rfl rfl ?_)
        rw [fstE_part hlt hall.out hp]
      ·repeat' first | simp (disch := omega) only [go_sem, *] | ((with_reducible refine condT ?_ ?_) <;> intro h <;> try omega)
       have := hall.out
       rw [List.take_of_length_le (by omega)] at this
       rw [this]
     ·have hn : nodeErr e = 1 := by simp [nodeErr, h1, h2, h3, h4, h5]
      have hform := ref14_formed_abs (e := e) (fun h => h4.1 (.inl h)) hv h3.2.2
      rw [if_pos (by rw [hn]; simp), hn]
      clear hn ih
      repeat' first | simp (disch := omega) only [go_sem, *, h1, h2, h3, h4, h5] | ((with_reducible refine condT ?_ ?_) <;> intro h <;> try omega) | (refine w_L (ref14_plain_abs e) rfl rfl ?_) | (refine w_L (ref14_named_abs e) rfl rfl ?_) | (refine w_L (ref14_ranked_abs e) rfl rfl ?_) | (refine w_L (ref14_typed_abs e) rfl rfl ?_) | (refine w_L hform rfl rfl ?_)
    ·have hn : nodeErr e = 10 := by simp [nodeErr, h1, h2, h3, h4]
     rw [if_pos (by rw [hn]; simp), hn]
     clear hn ih
     repeat' first | simp (disch := omega) only [go_sem, *, h1, h2, h3, h4] | ((with_reducible refine condT ?_ ?_) <;> intro h <;> try omega) | (refine w_L (ref14_plain_abs e) rfl rfl ?_) | (refine w_L (ref14_named_abs e) rfl rfl ?_) | (refine w_L (ref14_ranked_abs e) rfl rfl ?_) | (refine w_L (ref14_typed_abs e) rfl rfl ?_)
   ·have hn : nodeErr e = 11 := by simp [nodeErr, h1, h2, h3]
    rw [if_pos (by rw [hn]; simp), hn]
    clear hn ih
    repeat' first | simp (disch := omega) only [go_sem, *, h1, h2, h3] | ((with_reducible refine condT ?_ ?_) <;> intro h <;> try omega) | (refine w_L (ref14_plain_abs e) rfl rfl ?_) | (refine w_L (ref14_named_abs e) rfl rfl ?_) | (refine w_L (ref14_ranked_abs e) rfl rfl ?_)
  ·have hn : nodeErr e = 7 := by simp [nodeErr, h1, h2]
   rw [if_pos (by rw [hn]; simp), hn]
   clear hn ih
   repeat' first | simp (disch := omega) only [go_sem, *, h1, h2] | ((with_reducible refine condT ?_ ?_) <;> intro h <;> try omega) | (refine w_L (ref14_plain_abs e) rfl rfl ?_) | (refine w_L (ref14_named_abs e) rfl rfl ?_)
 ·have hn : nodeErr e = 5 := by simp [nodeErr, h1]
  rw [if_pos (by rw [hn]; simp), hn]
  clear hn ih
  repeat' first | simp (disch := omega) only [go_sem, *, h1] | ((with_reducible refine condT ?_ ?_) <;> intro h <;> try omega) | (refine w_L (ref14_plain_abs e) rfl rfl ?_)
theorem ref14_depth_abs (e : Ex) : ∀ n : Nat, 1 ≤ n → n ≤ 1000000 → PCalls Tryz.prog n_ref14_depth [aEx e, I n] (I (min e.dep n : Nat)) := by
 refine Ex.ind (p := fun e => ∀ n : Nat, 1 ≤ n → n ≤ 1000000 → PCalls Tryz.prog n_ref14_depth [aEx e, I n] (I (min e.dep n : Nat))) (fun e ih n h1 h2 => ?_) e
 refine PCalls.of is_ref14_depth (by simp) fun hb => runW_sound ?_
 have hl := (bnd_args hb).1
 conv in c_ref14_depth => cbv
 rw [Ex.dep_eq]
 repeat' first | simp (disch := omega) only [go_sem, *] | ((with_reducible refine condT ?_ ?_) <;> intro h <;> try omega)
 refine AW_loop (fun k : Nat => ⟨[(6, I k), (5, I (min (1 + Ex.deps (e.args.take k)) n : Nat)), (1, I n), (2, .c (.ptr 0 0))], [(0, bEx e)], 1, 0⟩) (fun k => k ≤ e.args.length) (fun k => e.args.length - k) ⟨0, [], by omega, by simp [Ex.deps, Nat.min_eq_left h1]⟩ ?_
 rintro k hk
 refine runW_sound ?_
 by_cases hn : 1 < n
 ·by_cases hlt : k < e.args.length
  ·have hih := ih _ (List.getElem_mem hlt) (n - 1) (by omega) (by omega)
   rw [show ((n - 1 : Nat) : Int) = (n : Int) - 1 by omega] at hih
   have hd := Ex.deps_take hlt
   clear ih
   repeat' first | simp (disch := omega) only [go_sem, *, map_get hlt, Ex.row_eq, wrap_i64] | ((with_reducible refine condT ?_ ?_) <;> intro h <;> try omega) | (refine w_L hih rfl rfl ?_)
   have he : max ((min (1 + Ex.deps (e.args.take k)) n : Nat) : Int) (1 + ((min e.args[k].dep (n - 1) : Nat) : Int)) = ((min (1 + Ex.deps (e.args.take (k + 1))) n : Nat) : Int) := by rw [hd]; omega
   rw [he]
   exact ⟨k + 1, [], by omega, by omega, by simp⟩
  ·repeat' first | simp (disch := omega) only [go_sem, *] | ((with_reducible refine condT ?_ ?_) <;> intro h <;> try omega)
   rw [List.take_of_length_le (by omega)]
 ·have e1 : min (1 + Ex.deps (e.args.take k)) n = min (1 + Ex.deps e.args) n := by omega
  repeat' first | simp (disch := omega) only [go_sem, *] | ((with_reducible refine condT ?_ ?_) <;> intro h <;> try omega)
  all_goals rw [e1]
theorem ref14_Depth_abs (e : Ex) : PCalls Tryz.prog n_ref14_Depth [aEx e] (I (min e.dep 41 : Nat)) := by
 refine PCalls.of is_ref14_Depth (by simp) fun hb => runW_sound ?_
 conv in c_ref14_Depth => cbv
 repeat' first | simp (disch := omega) only [go_sem, *] | ((with_reducible refine condT ?_ ?_) <;> intro h <;> try omega) | (refine w_L (ref14_depth_abs e 41 (by omega) (by omega)) rfl rfl ?_)
theorem ref14_size_abs (e : Ex) : ∀ n : Nat, n ≤ 1000000 → PCalls Tryz.prog n_ref14_size [aEx e, I n] (I (min e.sz (n + 1) : Nat)) := by
 refine Ex.ind (p := fun e => ∀ n : Nat, n ≤ 1000000 → PCalls Tryz.prog n_ref14_size [aEx e, I n] (I (min e.sz (n + 1) : Nat))) (fun e ih n h2 => ?_) e
 refine PCalls.of is_ref14_size (by simp) fun hb => runW_sound ?_
 have hl := (bnd_args hb).1
 conv in c_ref14_size => cbv
 rw [Ex.sz_eq]
 repeat' first | simp (disch := omega) only [go_sem, *] | ((with_reducible refine condT ?_ ?_) <;> intro h <;> try omega)
 refine AW_loop (fun s : Nat × Nat => ⟨[(6, I s.1), (5, I s.2), (1, I n), (2, .c (.ptr 0 0))], [(0, bEx e)], 1, 0⟩) (fun s => s.1 ≤ e.args.length ∧ Hid (s.2 = min (1 + Ex.szs (e.args.take s.1)) (n + 1))) (fun s => e.args.length - s.1) ⟨(0, 1), [], ⟨by omega, by show _ = _; simp [Ex.szs]⟩, by simp⟩ ?_
 rintro ⟨k, m⟩ ⟨hk, hm⟩
 refine runW_sound ?_
 simp only at hk hm
 by_cases hn : m ≤ n
 ·by_cases hlt : k < e.args.length
  ·have hih := ih _ (List.getElem_mem hlt) (n - m) (by omega)
   rw [show ((n - m : Nat) : Int) = (n : Int) - m by omega] at hih
   have hd := Ex.szs_take hlt
   have he : m + min e.args[k].sz (n - m + 1) = min (1 + Ex.szs (e.args.take (k + 1))) (n + 1) := by have := hm.out; rw [hd]; omega
   have HE := Lib.hid he
   clear ih hd he
   repeat' first | simp (disch := omega) only [go_sem, *, map_get hlt, Ex.row_eq, wrap_i64] | ((with_reducible refine condT ?_ ?_) <;> intro h <;> try omega) | (refine w_L hih rfl rfl ?_)
   exact ⟨(k + 1, m + min e.args[k].sz (n - m + 1)), [], ⟨by omega, HE⟩, by show _ - _ < _ - _; omega, by simp⟩
  ·repeat' first | simp (disch := omega) only [go_sem, *] | ((with_reducible refine condT ?_ ?_) <;> intro h <;> try omega)
   have := hm.out
   rw [List.take_of_length_le (by omega)] at this
   rw [this]
 ·have hm' := hm.out
  have h3 : Ex.szs (e.args.take k) ≤ Ex.szs e.args := by
   conv => rhs; rw [← List.take_append_drop k e.args, Ex.szs_append]
   omega
  have e1 : (m : Int) = ((min (1 + Ex.szs e.args) (n + 1) : Nat) : Int) := by omega
  have E1 := Lib.hid e1
  clear e1 hm' h3
  repeat' first | simp (disch := omega) only [go_sem, *] | ((with_reducible refine condT ?_ ?_) <;> intro h <;> try omega)
  all_goals rw [E1.out]
theorem ref14_Size_abs (e : Ex) : PCalls Tryz.prog n_ref14_Size [aEx e] (I (min e.sz 2001 : Nat)) := by
 refine PCalls.of is_ref14_Size (by simp) fun hb => runW_sound ?_
 conv in c_ref14_Size => cbv
 repeat' first | simp (disch := omega) only [go_sem, *] | ((with_reducible refine condT ?_ ?_) <;> intro h <;> try omega) | (refine w_L (ref14_size_abs e 2000 (by omega)) rfl rfl ?_)
 rw [show min ((min e.sz (2000 + 1) : Nat) : Int) 2001 = ((min e.sz 2001 : Nat) : Int) by omega]
theorem ref14_Validate_abs {e : Ex} (h64 : ∀ a ∈ e.pre, frIn a.val) : PCalls Tryz.prog n_ref14_Validate [aEx e] (I (exErr e)) := by
 refine PCalls.of is_ref14_Validate (by simp) fun hb => runW_sound ?_
 conv in c_ref14_Validate => cbv
 have h1 := ref14_part_abs e h64
 unfold exErr
 repeat' first | simp (disch := omega) only [go_sem, *] | ((with_reducible refine condT ?_ ?_) <;> intro h <;> try omega) | (refine w_L (ref14_Depth_abs e) rfl rfl ?_) | (refine w_L (ref14_Size_abs e) rfl rfl ?_) | (refine w_L h1 rfl rfl ?_)
 all_goals (repeat' split) <;> first | rfl | omega
end Go.Proofs.YtbblkakcadonjaaGreatDoor
