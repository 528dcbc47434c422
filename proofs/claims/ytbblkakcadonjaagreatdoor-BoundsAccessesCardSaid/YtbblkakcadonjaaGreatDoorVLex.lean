/- Walks: package lexer: names. The table of white space is what every world here holds (Glob). -/
import Derived.Test.YtbblkakcadonjaaGreatDoorV12a
import Derived.Test.YtbblkakcadonjaaGreatDoorShelf
import Derived.Lib.Hide
import Derived.Test.YtbblkakcadonjaaGreatDoorP14
set_option linter.unusedVariables false
set_option linter.unusedSimpArgs false
set_option maxRecDepth 20000
set_option maxHeartbeats 4000000
set_option maxRecDepth 1000000
namespace Go.Proofs.YtbblkakcadonjaaGreatDoor
open Go.Abs Go.RowKit

theorem strs_new {w : World} {V : Nat → Prop} {T : TypeId} {l : List ByteArray} (hV : V w.heap.size) (hl : l.length ≤ 9223372036854775807) :
  RepV (w.alloc (.cells (l.map Value.string).toArray T)) V (fun _ => undef) 0 (aStrs l) (.slice (some ⟨w.heap.size, 0, none⟩) l.length l.length) := by
 refine .c (.pure (.slice (sz := 1) (fun i _ => (l.map Value.string).getD i undef) (by simp) (Nat.le_refl _) (by simpa using hl) ?_ ?_ ?_))
 ·intro i row hi
  rw [List.getElem?_map] at hi
  obtain ⟨s, _, rfl⟩ := Option.map_eq_some_iff.1 hi
  rfl
 ·intro i row j p hi hj
  rw [List.getElem?_map] at hi
  obtain ⟨s, hs, rfl⟩ := Option.map_eq_some_iff.1 hi
  cases j with
  | succ j => simp at hj
  | zero =>
   refine ⟨w.heap.size, 0, rfl, hV, ?_⟩
   have hlt := (List.getElem?_eq_some_iff.1 hs).1
   rw [cell_of_row _ _ _ _ _ _ (World.alloc_heap_new w _)]
   simp [hs]
 ·intro i row j p hi hj
  rw [List.getElem?_map] at hi
  obtain ⟨s, hs, rfl⟩ := Option.map_eq_some_iff.1 hi
  cases j with
  | succ j => simp at hj
  | zero =>
   simp at hj
   subst hj
   simp [hs]
   exact .val rfl
theorem strings_Fields_abs {s : ByteArray} {l : List ByteArray} (hs : s.size < 4294967281) (hascii : s.data.toList.all (fun b => decide (b.toNat < 128)) = true) (hl : (Go.Lib.fields s.data.toList).map (fun l => (⟨l.toArray⟩ : ByteArray)) = l) (hlen : l.length ≤ 1000000) : PCalls Tryz.prog 160 [S s] (aStrs l) := by
 refine ⟨⟨_, Tryz.func160, rfl, by kernel_rfl⟩, fun w U vs hG hr => ?_⟩
 obtain ⟨vs⟩ := vs
 cases hr with
 | cons h1 t =>
  cases t
  have e1 := (repV_val h1).1
  subst e1
  have hT : ∀ c : Nat, c < 256 → w.cell? ⟨Tryz.lays157_ren.g 0, c, none⟩ = some (.int .u8 (if Lib.isSp (UInt8.ofNat c) then 1 else 0)) := fun c hc => hG _ rfl c hc
  refine (Any.strings_Fields_core Tryz.lays157 (by kernel_rfl) s w hs (fun j b hb => of_decide_eq_true (List.all_eq_true.1 hascii b (List.mem_of_getElem? hb))) hT).mono ?_
  rintro e w' ⟨rfl, rfl⟩
  have e2 : (Go.Lib.fields s.data.toList).map (fun l => Value.string ⟨l.toArray⟩) = l.map Value.string := by rw [← hl, List.map_map]; rfl
  have e3 : (Go.Lib.fields s.data.toList).length = l.length := by rw [← hl, List.length_map]
  rw [e2, e3]
  exact ⟨_, rfl, strs_new (.inr (Nat.le_refl _)) (by omega), (Below.refl _ w).alloc (Nat.le_refl _) _⟩
theorem lexer_keywords_abs : PCalls Tryz.prog n_lexer_keywords [] (aStrs words) := by
 refine PCalls.of is_lexer_keywords (by simp) fun hb => runW_sound ?_
 conv in c_lexer_keywords => cbv
 repeat' first | simp (disch := omega) only [go_sem, *] | ((with_reducible refine condT ?_ ?_) <;> intro h <;> try omega) | (refine w_R (strings_Fields_abs (l := words) (by decide) (by decide +kernel) (by kernel_rfl) (by decide)) rfl rfl ?_)
abbrev R32 (n : Int) : AV := .c (.pure (.val (.int .i32 n)))
theorem lexer_letter_abs (n : Int) : PCalls Tryz.prog n_lexer_letter [R32 n] (Go.Abs.B (decide (97 ≤ n ∧ n ≤ 122))) := by
 refine PCalls.of is_lexer_letter (by simp) fun hb => runW_sound ?_
 conv in c_lexer_letter => cbv
 repeat' first | simp (disch := omega) only [go_sem, *] | ((with_reducible refine condT ?_ ?_) <;> intro h <;> try omega)
 all_goals (simp [*] <;> omega)
theorem lexer_digit_abs (n : Int) : PCalls Tryz.prog n_lexer_digit [R32 n] (Go.Abs.B (decide (48 ≤ n ∧ n ≤ 57))) := by
 refine PCalls.of is_lexer_digit (by simp) fun hb => runW_sound ?_
 conv in c_lexer_digit => cbv
 repeat' first | simp (disch := omega) only [go_sem, *] | ((with_reducible refine condT ?_ ?_) <;> intro h <;> try omega)
 all_goals (simp [*] <;> omega)
def wch (n : Int) : Prop := (97 ≤ n ∧ n ≤ 122) ∨ (48 ≤ n ∧ n ≤ 57) ∨ n = 95
instance (n : Int) : Decidable (wch n) := inferInstanceAs (Decidable (_ ∨ _))
theorem lexer_inWord_abs (n : Int) : PCalls Tryz.prog n_lexer_inWord [R32 n] (Go.Abs.B (decide (wch n))) := by
 refine PCalls.of is_lexer_inWord (by simp) fun hb => runW_sound ?_
 conv in c_lexer_inWord => cbv
 repeat' first | simp (disch := omega) only [go_sem, *] | ((with_reducible refine condT ?_ ?_) <;> intro h <;> try omega) | (refine w_L (lexer_letter_abs n) rfl rfl ?_) | (refine w_L (lexer_digit_abs n) rfl rfl ?_)
 all_goals (refine BD ?_; clear hb; simp only [Bool.not_eq_true', decI, decN, reduceCtorEq, false_iff, true_iff, not_exists, not_and, Classical.not_not, decide_eq_true_iff, decide_eq_false_iff_not]; first | done | grind [wch])
def spanL : List UInt8 → Nat
 | [] => 0
 | c :: r => if wch c.toNat then spanL r + 1 else 0
theorem spanL_le : ∀ l : List UInt8, spanL l ≤ l.length
 | [] => by simp [spanL]
 |c :: r => by
  rw [spanL]
  have := spanL_le r
  split <;> simp <;> omega
theorem spanL_at : ∀ {l : List UInt8} {k : Nat}, (∀ i (h : i < k) (hl : i < l.length), wch (l[i].toNat)) → k ≤ l.length → (∀ h : k < l.length, ¬ wch (l[k].toNat)) → spanL l = k
 | [], k, _, hk, _ => by simp at hk; simp [spanL, hk]
 | c :: r, 0, _, _, h => by rw [spanL, if_neg (show ¬ wch c.toNat from h (by simp))]
 |c :: r, k + 1, h1, h2, h3 => by
  rw [spanL, if_pos (show wch c.toNat from h1 0 (by omega) (by simp)), spanL_at (l := r) (k := k) (fun i hi hl => h1 (i + 1) (by omega) (by simpa using hl)) (by simpa using h2) (fun h => h3 (by simpa using h))]
theorem spanL_full : ∀ {l : List UInt8}, spanL l = l.length ↔ ∀ i (h : i < l.length), wch (l[i].toNat)
 | [] => by simp [spanL]
 |c :: r => by
  have := spanL_le r
  rw [spanL]
  constructor
  ·intro h i hi
   split at h
   ·cases i with
    | zero => assumption
    | succ i => exact (spanL_full (l := r)).1 (by simpa using h) i (by simpa using hi)
   ·simp at h
  ·intro h
   rw [if_pos (show wch c.toNat from h 0 (by simp)), (spanL_full (l := r)).2 fun i hi => h (i + 1) (by simpa using hi)]
   simp
theorem bytes_at {s : ByteArray} {i : Nat} (h : i < s.size) : s[i] = s.data.toList[i]'(by simpa using h) := rfl
theorem lexer_span_abs {s : ByteArray} (hs : s.size ≤ 16) : PCalls Tryz.prog n_lexer_span [S s, .c (.clo n_lexer_inWord [])] (I (spanL s.data.toList)) := by
 refine PCalls.of is_lexer_span (by simp) fun hb => runW_sound ?_
 conv in c_lexer_span => cbv
 repeat' first | simp (disch := omega) only [go_sem] | ((with_reducible refine condT ?_ ?_) <;> intro h <;> try first | omega | simp (disch := omega) only [go_sem, *])
 refine AW_loop (fun k : Nat => ⟨[(5, I k), (1, .c (.clo n_lexer_inWord [])), (0, S s)], [], 0, 0⟩) (fun k => k ≤ s.size ∧ upTo (fun j => ∀ h : j < s.size, wch (s[j].toNat)) k) (fun k => s.size - k) ⟨0, [], ⟨by omega, .zero⟩, by simp⟩ ?_
 rintro k ⟨hk, hall⟩
 refine runW_sound ?_
 have fin : (∀ h : k < s.size, ¬ wch (s[k].toNat)) → spanL s.data.toList = k := fun h => spanL_at (fun i hi hl => bytes_at (by simpa using hl) ▸ hall i hi (by simpa using hl)) (by simpa using hk) (fun hl => bytes_at (by simpa using hl) ▸ h (by simpa using hl))
 by_cases hlt : k < s.size
 ·have hc := (s[k]).toNat_lt
  have e1 : IntKind.wrap .i32 (s[k].toNat : Int) = s[k].toNat := by rw [IntKind.wrap_i32]; omega
  by_cases hw : wch (s[k].toNat)
  ·have HF := Lib.hid fin
   clear fin
   repeat' first | simp (disch := omega) only [go_sem, getElem?_pos s k hlt, wrap_i64, e1] | ((with_reducible refine condT ?_ ?_) <;> intro h <;> try first | omega | simp (disch := omega) only [go_sem, *, getElem?_pos s k hlt, wrap_i64, e1]) | (refine w_L (lexer_inWord_abs _) rfl rfl ?_)
   ·exact ⟨k + 1, [], ⟨by omega, hall.succ fun _ => hw⟩, by omega, by simp⟩
   ·exact absurd hw h
  ·have e2 := fin fun _ => hw
   have E2 := Lib.hid e2
   clear e2 fin hall
   repeat' first | simp (disch := omega) only [go_sem, getElem?_pos s k hlt, wrap_i64, e1] | ((with_reducible refine condT ?_ ?_) <;> intro h <;> try first | omega | simp (disch := omega) only [go_sem, *, getElem?_pos s k hlt, wrap_i64, e1]) | (refine w_L (lexer_inWord_abs _) rfl rfl ?_)
   ·exact absurd h hw
   ·rw [E2.out]
 ·have e2 := fin fun h => absurd h hlt
  have E2 := Lib.hid e2
  clear e2 fin hall
  repeat' first | simp (disch := omega) only [go_sem] | ((with_reducible refine condT ?_ ?_) <;> intro h <;> try first | omega | simp (disch := omega) only [go_sem, *])
  rw [E2.out]
theorem slices_Index_str_abs (xs : List ByteArray) (s : ByteArray) : PCalls Tryz.prog n_slices_Index_string_string [aStrs xs, S s] (I (idxOf (· = s) xs)) := by
 refine PCalls.of is_slices_Index_string_string (by simp) fun hb => runW_sound ?_
 have hl : xs.length ≤ 9223372036854775807 := by simpa [bndV, bndA] using hb.1
 conv in c_slices_Index_string_string => cbv
 repeat' first | simp (disch := omega) only [go_sem, *] | ((with_reducible refine condT ?_ ?_) <;> intro h <;> try omega)
 refine AW_loop (fun k : Nat => ⟨[(0, aStrs xs), (1, S s), (7, I xs.length), (8, I k)], [], 0, 0⟩) (fun k => k ≤ xs.length ∧ upTo (fun j => ∀ h : j < xs.length, ¬ xs[j] = s) k) (fun k => xs.length - k) ⟨0, [], ⟨by omega, .zero⟩, by simp⟩ ?_
 rintro k ⟨hk, hall⟩
 refine runW_sound ?_
 by_cases hlt : k < xs.length
 ·by_cases he : xs[k] = s
  ·have e2 := idxOf_at (p := (· = s)) hlt he fun j hj => hall j hj (by omega)
   have E2 := Lib.hid e2
   clear e2 hall
   repeat' first | simp (disch := omega) only [go_sem, *, map_get hlt, str_eq, he, wrap_i64, decide_true] | ((with_reducible refine condT ?_ ?_) <;> intro h <;> try omega)
   rw [E2.out]
  ·have he' : ¬ s = xs[k] := fun h => he h.symm
   repeat' first | simp (disch := omega) only [go_sem, *, map_get hlt, str_eq, he', wrap_i64] | ((with_reducible refine condT ?_ ?_) <;> intro h <;> try omega)
   exact ⟨k + 1, [], ⟨by omega, hall.succ fun _ => he⟩, by omega, by simp⟩
 ·have e2 := idxOf_none (p := (· = s)) (xs := xs) fun j hj => hall j (by omega) hj
  have E2 := Lib.hid e2
  clear e2 hall
  repeat' first | simp (disch := omega) only [go_sem, *] | ((with_reducible refine condT ?_ ?_) <;> intro h <;> try omega)
  rw [E2.out]
theorem slices_Contains_str_abs (xs : List ByteArray) (s : ByteArray) : PCalls Tryz.prog n_slices_Contains_string_string [aStrs xs, S s] (Go.Abs.B (decide (s ∈ xs))) := by
 refine PCalls.of is_slices_Contains_string_string (by simp) fun hb => runW_sound ?_
 conv in c_slices_Contains_string_string => cbv
 repeat' first | simp (disch := omega) only [go_sem, *] | ((with_reducible refine condT ?_ ?_) <;> intro h <;> try omega) | (refine w_L (slices_Index_str_abs xs s) rfl rfl ?_)
 refine BD ?_
 rw [decide_eq_true_iff]
 refine idxOf_ge.trans ⟨?_, fun h => ⟨s, h, rfl⟩⟩
 rintro ⟨x, hx, rfl⟩
 exact hx
theorem lexer_IsKeyword_abs (s : ByteArray) : PCalls Tryz.prog n_lexer_IsKeyword [S s] (Go.Abs.B (decide (s ∈ words))) := by
 refine PCalls.of is_lexer_IsKeyword (by simp) fun hb => runW_sound ?_
 conv in c_lexer_IsKeyword => cbv
 repeat' first | simp (disch := omega) only [go_sem, *] | ((with_reducible refine condT ?_ ?_) <;> intro h <;> try omega) | (refine w_R lexer_keywords_abs rfl rfl ?_) | (refine w_L (slices_Contains_str_abs words s) rfl rfl ?_)
theorem idOk_iff {s : ByteArray} (h : 0 < s.size) : idOk s ↔ s.size ≤ 16 ∧ ¬ s ∈ words ∧ (97 ≤ (s[0].toNat : Int) ∧ (s[0].toNat : Int) ≤ 122) ∧ ∀ i (h : i < s.size), wch (s[i].toNat) := by
 unfold idOk
 constructor
 ·rintro ⟨h1, h2, h3, h4⟩
  refine ⟨h2, h3, by have := h4 0 h; unfold chOk at this; omega, fun i hi => by have := h4 i hi; unfold chOk at this; unfold wch; omega⟩
 ·rintro ⟨h2, h3, h4, h5⟩
  refine ⟨h, h2, h3, fun i hi => ?_⟩
  have := h5 i hi
  unfold wch at this
  unfold chOk
  by_cases e : i = 0
  ·subst e; omega
  ·omega
theorem lexer_IsName_abs (s : ByteArray) : PCalls Tryz.prog n_lexer_IsName [S s] (Go.Abs.B (decide (idOk s))) := by
 refine PCalls.of is_lexer_IsName (by simp) fun hb => runW_sound ?_
 conv in c_lexer_IsName => cbv
 by_cases h0 : s.size = 0
 ·have he : s = ⟨⟨[]⟩⟩ := by
   obtain ⟨⟨l⟩⟩ := s
   have : l = [] := List.eq_nil_of_length_eq_zero h0
   rw [this]
  subst he
  repeat' first | simp (disch := omega) only [go_sem, *] | ((with_reducible refine condT ?_ ?_) <;> intro h <;> try omega)
  exact BD ⟨fun h => (by cases h), fun h => (by have := h.1; revert this; decide)⟩
 ·by_cases h16 : s.size ≤ 16
  ·have hpos : 0 < s.size := by omega
   have hne : ¬ s = ⟨⟨[]⟩⟩ := fun h => h0 (by rw [h]; rfl)
   have hc := (s[0]).toNat_lt
   have e1 : IntKind.wrap .i32 (s[0].toNat : Int) = s[0].toNat := by rw [IntKind.wrap_i32]; omega
   have hsp := lexer_span_abs h16
   have hfull : spanL s.data.toList = s.size ↔ ∀ i (h : i < s.size), wch (s[i].toNat) := by
    have hsz : s.data.toList.length = s.size := by simp
    refine Iff.trans (by rw [← hsz]) (spanL_full.trans ⟨fun h i hi => h i (by simpa using hi), fun h i hi => h i (by simpa using hi)⟩)
   generalize spanL s.data.toList = m at hsp hfull
   have HF := Lib.hid hfull
   clear hfull
   repeat' first | simp (disch := omega) only [go_sem, *, getElem?_pos s 0 hpos, Int.toNat_zero, e1, hne] | ((with_reducible refine condT ?_ ?_) <;> intro h <;> try omega) | (refine w_L (lexer_letter_abs _) rfl rfl ?_) | (refine w_L hsp rfl rfl ?_) | (refine w_L (lexer_IsKeyword_abs s) rfl rfl ?_)
   ·refine BD ?_
    rw [idOk_iff hpos]
    have := HF.out.1 (by omega)
    simp only [Bool.not_eq_true', decide_eq_false_iff_not]
    exact ⟨fun hn => ⟨h16, hn, ‹_›, this⟩, fun hh => hh.2.1⟩
   ·refine BD ⟨fun h => (by cases h), fun hh => ?_⟩
    have := HF.out.2 ((idOk_iff hpos).1 hh).2.2.2
    omega
   ·exact BD ⟨fun h => (by cases h), fun hh => absurd ((idOk_iff hpos).1 hh).2.2.1 h⟩
  ·have hne : ¬ s = ⟨⟨[]⟩⟩ := fun h => h0 (by rw [h]; rfl)
   repeat' first | simp (disch := omega) only [go_sem, *, hne] | ((with_reducible refine condT ?_ ?_) <;> intro h <;> try omega)
   exact BD ⟨fun h => (by cases h), fun hh => absurd hh.2.1 h16⟩
end Go.Proofs.YtbblkakcadonjaaGreatDoor
