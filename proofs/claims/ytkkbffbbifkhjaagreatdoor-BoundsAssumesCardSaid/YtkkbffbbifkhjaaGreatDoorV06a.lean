/- Walks by the abstract machine: names, sums and products of numbers. -/
import Derived.Test.YtkkbffbbifkhjaaGreatDoorIn0
set_option linter.unusedVariables false
set_option linter.unusedSimpArgs false
set_option maxRecDepth 20000
namespace Go.Proofs.YtkkbffbbifkhjaaGreatDoor
open Go.Abs Go.RowKit

theorem base_Plus_abs {a b : Int} (ha : in64 a) (hb : in64 b) : PCalls Tryz.prog n_base_Plus [I a, I b] (aOk (ok64 (a + b))) := by
 refine PCalls.of is_base_Plus (by simp) fun _ => runW_sound ?_
 obtain ⟨ha1, ha2⟩ := ha
 obtain ⟨hb1, hb2⟩ := hb
 simp only [c_base_Plus]
 repeat' first | simp (disch := omega) only [go_sem, wrap_i64] | ((with_reducible refine condT ?_ ?_) <;> intro h <;> try first | omega | simp (disch := omega) only [go_sem, *, wrap_i64])
 all_goals first
  | omega
  | rw [ok64_in (by unfold in64; omega)]
  | rw [ok64_out (by unfold in64; omega)]

theorem base_Times_abs {a b : Int} (ha : in64 a) (hb : in64 b) : PCalls Tryz.prog n_base_Times [I a, I b] (aOk (ok64 (a * b))) := by
 refine PCalls.of is_base_Times (by simp) fun _ => runW_sound ?_
 obtain ⟨ha1, ha2⟩ := ha
 obtain ⟨hb1, hb2⟩ := hb
 simp only [c_base_Times]
 repeat' first | simp (disch := omega) only [go_sem] | ((with_reducible refine condT ?_ ?_) <;> intro h <;> try first | omega | simp (disch := omega) only [go_sem, *])
 all_goals first
  | (simp [ok64, in64]; done)
  | (rw [ok64_in (by unfold in64; omega)]; done)
  | (rw [ok64_out (by unfold in64; omega)]; done)
  | rw [ok64_out (fun hc => h ((wrap_mul2 (by unfold in64; omega) (by unfold in64; omega) (by omega) (by omega)).2 hc))]
  | (have hc := (wrap_mul2 (by unfold in64; omega) (by unfold in64; omega) (by omega) (by omega)).1 h; rw [ok64_in hc, wrap_i64 hc])

def words : List ByteArray := [⟨⟨[115, 105, 122, 101]⟩⟩, ⟨⟨[119, 104, 101, 114, 101]⟩⟩, ⟨⟨[105, 110]⟩⟩, ⟨⟨[100, 101, 102]⟩⟩, ⟨⟨[111, 117, 116]⟩⟩, ⟨⟨[115, 117, 109]⟩⟩, ⟨⟨[112, 114, 111, 100]⟩⟩, ⟨⟨[109, 105, 110]⟩⟩, ⟨⟨[109, 97, 120]⟩⟩, ⟨⟨[115, 99, 97, 110]⟩⟩, ⟨⟨[111, 118, 101, 114]⟩⟩, ⟨⟨[105, 102]⟩⟩, ⟨⟨[99, 97, 115, 116]⟩⟩, ⟨⟨[102, 114, 97, 99]⟩⟩, ⟨⟨[105, 110, 116]⟩⟩, ⟨⟨[102, 105, 120]⟩⟩, ⟨⟨[99, 101, 105, 108]⟩⟩, ⟨⟨[102, 108, 111, 111, 114]⟩⟩, ⟨⟨[122, 101, 114, 111]⟩⟩, ⟨⟨[101, 118, 101, 110]⟩⟩, ⟨⟨[115, 97, 116]⟩⟩, ⟨⟨[119, 114, 97, 112]⟩⟩]
theorem base_Words_abs : PCalls Tryz.prog n_base_Words [] (aStrs words) := by
 refine PCalls.of is_base_Words (by simp) fun _ => runW_sound ?_
 simp only [c_base_Words]
 repeat' first | simp (disch := omega) only [go_sem] | ((with_reducible refine condT ?_ ?_) <;> intro h <;> try first | omega | simp (disch := omega) only [go_sem, *])
 rfl
theorem base_Has_abs (xs : List ByteArray) (s : ByteArray) : PCalls Tryz.prog n_base_Has [aStrs xs, S s] (Go.Abs.B (decide (s ∈ xs))) := by
 refine PCalls.of is_base_Has (by simp) fun hb => runW_sound ?_
 have hx : xs.length ≤ 9223372036854775807 := by simpa [bndVs, bndV, bndA] using hb.1
 simp only [c_base_Has]
 repeat' first | simp (disch := omega) only [go_sem] | ((with_reducible refine condT ?_ ?_) <;> intro h <;> try first | omega | simp (disch := omega) only [go_sem, *])
 refine AW_loop (fun k : Nat => ⟨[(5, I k), (0, aStrs xs), (1, S s)], [], 0, 0⟩) (fun k => k ≤ xs.length ∧ ∀ j (h : j < xs.length), j < k → xs[j] ≠ s) (fun k => xs.length - k) ⟨0, [], ⟨by omega, fun j h h' => by omega⟩, by simp⟩ ?_
 rintro k ⟨hk, hall⟩
 refine runW_sound ?_
 by_cases hlt : k < xs.length
 ·repeat' first | simp (disch := omega) only [go_sem, map_get hlt, Option.map_some, wrap_i64] | ((with_reducible refine condT ?_ ?_) <;> intro h <;> try first | omega | simp (disch := omega) only [go_sem, *, map_get hlt, Option.map_some, wrap_i64])
  ·have : s ∈ xs := by subst h; exact List.getElem_mem hlt
   simp [this]
  ·refine ⟨k + 1, [], ⟨by omega, fun j hj hj' => ?_⟩, by omega, by simp⟩
   by_cases e : j = k
   ·subst e; exact h
   ·exact hall j hj (by omega)
 ·repeat' first | simp (disch := omega) only [go_sem] | ((with_reducible refine condT ?_ ?_) <;> intro h <;> try first | omega | simp (disch := omega) only [go_sem, *])
  have : ¬ s ∈ xs := fun hm => by
   obtain ⟨j, hj, e⟩ := List.mem_iff_getElem.1 hm
   exact hall j hj (by omega) e
  simp [this]
theorem lin_reserved_abs (s : ByteArray) : PCalls Tryz.prog n_lin_reserved [S s] (Go.Abs.B (decide (s ∈ words))) := by
 refine PCalls.of is_lin_reserved (by simp) fun _ => runW_sound ?_
 simp only [c_lin_reserved]
 repeat' first | simp (disch := omega) only [go_sem] | ((with_reducible refine condT ?_ ?_) <;> intro h <;> try first | omega | simp (disch := omega) only [go_sem, *])
 all_goals simp [words, *]
end Go.Proofs.YtkkbffbbifkhjaaGreatDoor
set_option linter.unusedVariables false
set_option linter.unusedSimpArgs false
set_option maxRecDepth 20000
namespace Go.Proofs.YtkkbffbbifkhjaaGreatDoor
open Go.Abs Go.RowKit

def chOk (i : Nat) (c : UInt8) : Prop := (97 ≤ c.toNat ∧ c.toNat ≤ 122) ∨ (0 < i ∧ ((48 ≤ c.toNat ∧ c.toNat ≤ 57) ∨ c.toNat = 95))
instance (i : Nat) (c : UInt8) : Decidable (chOk i c) := by unfold chOk; infer_instance
def idOk (s : ByteArray) : Prop := 1 ≤ s.size ∧ s.size ≤ 16 ∧ ¬ s ∈ words ∧ ∀ i (h : i < s.size), chOk i s[i]
noncomputable instance (s : ByteArray) : Decidable (idOk s) := Classical.propDecidable _

theorem base_Name_abs (s : ByteArray) : PCalls Tryz.prog n_base_Name [S s] (Go.Abs.B (decide (idOk s))) := by
 refine PCalls.of is_base_Name (by simp) fun hb => runW_sound ?_
 simp only [c_base_Name]
 repeat' first | simp (disch := omega) only [go_sem] | ((with_reducible refine condT ?_ ?_) <;> intro h <;> try first | omega | simp (disch := omega) only [go_sem, *]) | (refine callW_of base_Words_abs rfl (.inr rfl) ?_) | (refine callW_of (base_Has_abs _ _) rfl (.inl rfl) ?_)
 ·rw [decide_eq_false]; rintro ⟨h1, _⟩; omega
 ·rw [decide_eq_false]; rintro ⟨_, h1, _⟩; omega
 ·rw [decide_eq_false]; rintro ⟨_, _, h1, _⟩; exact h1 h
 ·refine AW_loop (fun k : Nat => ⟨[(3, I k), (0, S s)], [], 0, 0⟩) (fun k => k ≤ s.size ∧ upTo (fun j => ∀ h : j < s.size, chOk j s[j]) k) (fun k => s.size - k) ⟨0, [], ⟨by omega, .zero⟩, by simp⟩ ?_
  rintro k ⟨hk, hall⟩
  refine runW_sound ?_
  by_cases hlt : k < s.size
  ·repeat' first | simp (disch := omega) only [go_sem, getElem?_pos s k hlt, wrap_i64] | ((with_reducible refine condT ?_ ?_) <;> intro h <;> try first | omega | simp (disch := omega) only [go_sem, *, getElem?_pos s k hlt, wrap_i64])
   all_goals first
    | (refine ⟨k + 1, [], ⟨by omega, hall.succ fun _ => ?_⟩, by omega, by simp⟩; unfold chOk; omega)
    | (rw [decide_eq_false]; rintro ⟨_, _, _, h4⟩; have := h4 k hlt; unfold chOk at this; omega)
  ·repeat' first | simp (disch := omega) only [go_sem] | ((with_reducible refine condT ?_ ?_) <;> intro h <;> try first | omega | simp (disch := omega) only [go_sem, *])
   rw [decide_eq_true]
   exact ⟨by omega, by omega, ‹_›, fun i hi => hall i (by omega) hi⟩

theorem lin_identifier_abs (s : ByteArray) : PCalls Tryz.prog n_lin_identifier [S s] (Go.Abs.B (decide (idOk s))) := by
 refine PCalls.of is_lin_identifier (by simp) fun hb => runW_sound ?_
 simp only [c_lin_identifier]
 by_cases h0 : s.size < 1
 ·repeat' first | simp (disch := omega) only [go_sem] | ((with_reducible refine condT ?_ ?_) <;> intro h <;> try first | omega | simp (disch := omega) only [go_sem, *])
  rw [decide_eq_false]; rintro ⟨h1, _⟩; omega
 have hpos : 0 < s.size := by omega
 repeat' first | simp (disch := omega) only [go_sem, getElem?_pos s 0 hpos, Int.toNat_zero] | ((with_reducible refine condT ?_ ?_) <;> intro h <;> try first | omega | simp (disch := omega) only [go_sem, *, getElem?_pos s 0 hpos, Int.toNat_zero]) | (refine callW_of (lin_reserved_abs _) rfl (.inl rfl) ?_)
 ·rw [decide_eq_false]; rintro ⟨_, h1, _⟩; omega
 ·rw [decide_eq_false]; rintro ⟨_, _, h1, _⟩; exact h1 h
 ·rw [decide_eq_false]; rintro ⟨_, _, _, h4⟩; have := h4 0 hpos; unfold chOk at this; omega
 ·rw [decide_eq_false]; rintro ⟨_, _, _, h4⟩; have := h4 0 hpos; unfold chOk at this; omega
 ·refine AW_loop (fun k : Nat => ⟨[(29, I k), (28, I s.size), (0, S s)], [], 0, 0⟩) (fun k => k ≤ s.size ∧ upTo (fun j => ∀ h : j < s.size, chOk (j + 1) s[j]) k) (fun k => s.size - k) ⟨0, [], ⟨by omega, .zero⟩, by simp⟩ ?_
  rintro k ⟨hk, hall⟩
  refine runW_sound ?_
  by_cases hlt : k < s.size
  ·repeat' first | simp (disch := omega) only [go_sem, getElem?_pos s k hlt, wrap_i64] | ((with_reducible refine condT ?_ ?_) <;> intro h <;> try first | omega | simp (disch := omega) only [go_sem, *, getElem?_pos s k hlt, wrap_i64])
   all_goals first
    | (refine ⟨k + 1, [], ⟨by omega, hall.succ fun _ => ?_⟩, by omega, by simp⟩; unfold chOk; omega)
    | (rw [decide_eq_false]; rintro ⟨_, _, _, h4⟩; have := h4 k hlt; unfold chOk at this; omega)
  ·repeat' first | simp (disch := omega) only [go_sem] | ((with_reducible refine condT ?_ ?_) <;> intro h <;> try first | omega | simp (disch := omega) only [go_sem, *])
   rw [decide_eq_true]
   refine ⟨by omega, by omega, ‹_›, fun i hi => ?_⟩
   have h5 := hall i (by omega) hi
   by_cases e : i = 0
   ·subst e; unfold chOk; omega
   ·unfold chOk at h5 ⊢; omega


abbrev Mono := ByteArray × Int
def mP (m : Mono) : List PC := [pS m.1, pI m.2]
abbrev pMonos (l : List Mono) : PC := pSl mP l
abbrev Lin := Int × List Mono
abbrev Con := Lin × Bool
abbrev aLin (k : Int) (l : List Mono) : AV := .agg [.pure (pI k), .pure (pMonos l)]
def sless (a b : ByteArray) : Bool := Op.bytesLess a.toList b.toList
def monoOk (l : List Mono) (i : Nat) : Prop := ∀ h : i < l.length, idOk l[i].1 ∧ l[i].2 ≠ 0 ∧ (0 < i → sless l[i - 1].1 l[i].1 = true)
def linOk (l : List Mono) : Prop := upTo (monoOk l) l.length
noncomputable instance (l : List Mono) : Decidable (linOk l) := Classical.propDecidable _

theorem bnd_lin {k : Int} {l : List Mono} (h : bndV (aLin k l)) : l.length ≤ 9223372036854775807 := by simpa [bndV, bndAs, bndA] using h

set_option maxRecDepth 20000 in
theorem base_LinRight_abs (c : Int) (l : List Mono) : PCalls Tryz.prog n_base_LinRight [aLin c l] (Go.Abs.B (decide (linOk l))) := by
 refine PCalls.of is_base_LinRight (by simp) fun hb => runW_sound ?_
 have hl := bnd_lin hb.1
 simp only [c_base_LinRight]
 repeat' first | simp (disch := omega) only [go_sem] | ((with_reducible refine condT ?_ ?_) <;> intro h <;> try first | omega | simp (disch := omega) only [go_sem, *])
 refine AW_loop (fun k : Nat => ⟨[(3, I k), (1, .c (.ptr 0 0))], [(0, .var [.pure (pI c), .pure (pMonos l)])], 1, 0⟩) (fun k => k ≤ l.length ∧ upTo (monoOk l) k) (fun k => l.length - k) ⟨0, [], ⟨by omega, .zero⟩, by simp⟩ ?_
 rintro k ⟨hk, hall⟩
 refine runW_sound ?_
 by_cases hlt : k < l.length
 ·by_cases h0 : 0 < k
  ·have hl1 : k - 1 < l.length := by omega
   have e1 : ((k : Int) - 1).toNat = k - 1 := by omega
   repeat' first | simp (disch := omega) only [go_sem, List.drop_succ_cons, List.drop_zero, map_get hlt, map_get hl1, mP, wrap_i64, e1] | ((with_reducible refine condT ?_ ?_) <;> intro h <;> try first | omega | simp (disch := omega) only [go_sem, *, List.drop_succ_cons, List.drop_zero, map_get hlt, map_get hl1, mP, wrap_i64, e1]) | (refine callW_of (base_Name_abs _) rfl (.inl rfl) ?_)
   ·rw [decide_eq_false]
    intro hc
    exact (hc k hlt hlt).2.1 h
   ·refine ⟨k + 1, [], ⟨by omega, hall.succ fun _ => ⟨‹_›, ‹_›, fun _ => h⟩⟩, by omega, by simp⟩
   ·rw [decide_eq_false]
    intro hc
    have := (hc k hlt hlt).2.2 h0
    rw [sless, h] at this
    cases this
   ·rw [decide_eq_false]
    intro hc
    exact h (hc k hlt hlt).1
  ·repeat' first | simp (disch := omega) only [go_sem, List.drop_succ_cons, List.drop_zero, map_get hlt, mP, wrap_i64] | ((with_reducible refine condT ?_ ?_) <;> intro h <;> try first | omega | simp (disch := omega) only [go_sem, *, List.drop_succ_cons, List.drop_zero, map_get hlt, mP, wrap_i64]) | (refine callW_of (base_Name_abs _) rfl (.inl rfl) ?_)
   ·rw [decide_eq_false]
    intro hc
    exact (hc k hlt hlt).2.1 h
   ·refine ⟨k + 1, [], ⟨by omega, hall.succ fun _ => ⟨‹_›, ‹_›, fun _ => by omega⟩⟩, by omega, by simp⟩
   ·rw [decide_eq_false]
    intro hc
    exact h (hc k hlt hlt).1
 ·repeat' first | simp (disch := omega) only [go_sem, List.drop_succ_cons, List.drop_zero] | ((with_reducible refine condT ?_ ?_) <;> intro h <;> try first | omega | simp (disch := omega) only [go_sem, *, List.drop_succ_cons, List.drop_zero])
  rw [decide_eq_true]
  have : k = l.length := by omega
  rw [this] at hall
  exact hall

theorem ref05_Validate_abs (c : Int) (l : List Mono) : PCalls Tryz.prog n_ref05_Validate [aLin c l] (I (if linOk l then 0 else 1)) := by
 refine PCalls.of is_ref05_Validate (by simp) fun hb => runW_sound ?_
 simp only [c_ref05_Validate]
 repeat' first | simp (disch := omega) only [go_sem, ↓List.drop_zero, ↓List.take_succ_cons, ↓List.take_zero] | ((with_reducible refine condT ?_ ?_) <;> intro h <;> try first | omega | simp (disch := omega) only [go_sem, *, ↓List.drop_zero, ↓List.take_succ_cons, ↓List.take_zero]) | (refine callW_of (base_LinRight_abs c l) rfl (.inl rfl) ?_)
 all_goals simp [*]

set_option maxRecDepth 20000 in
theorem lin_Validate_abs (c : Int) (l : List Mono) : PCalls Tryz.prog n_lin_Validate [aLin c l] (I (if linOk l then 0 else 1)) := by
 refine PCalls.of is_lin_Validate (by simp) fun hb => runW_sound ?_
 have hl := bnd_lin hb.1
 simp only [c_lin_Validate]
 repeat' first | simp (disch := omega) only [go_sem, List.drop_succ_cons, List.drop_zero] | ((with_reducible refine condT ?_ ?_) <;> intro h <;> try first | omega | simp (disch := omega) only [go_sem, *, List.drop_succ_cons, List.drop_zero])
 refine AW_loop (fun k : Nat => ⟨[(8, I k), (7, I l.length), (6, .c (.pure (pMonos l))), (1, .c (.ptr 0 0))], [(0, .var [.pure (pI c), .pure (pMonos l)])], 1, 0⟩) (fun k => k ≤ l.length ∧ upTo (monoOk l) k) (fun k => l.length - k) ⟨0, [], ⟨by omega, .zero⟩, by simp⟩ ?_
 rintro k ⟨hk, hall⟩
 refine runW_sound ?_
 by_cases hlt : k < l.length
 ·by_cases h0 : 0 < k
  ·have hl1 : k - 1 < l.length := by omega
   have e1 : ((k : Int) - 1).toNat = k - 1 := by omega
   repeat' first | simp (disch := omega) only [go_sem, List.drop_succ_cons, List.drop_zero, List.take_succ_cons, List.take_zero, map_get hlt, map_get hl1, mP, wrap_i64, e1] | ((with_reducible refine condT ?_ ?_) <;> intro h <;> try first | omega | simp (disch := omega) only [go_sem, *, List.drop_succ_cons, List.drop_zero, List.take_succ_cons, List.take_zero, map_get hlt, map_get hl1, mP, wrap_i64, e1]) | (refine callW_of (lin_identifier_abs _) rfl (.inl rfl) ?_)
   ·rw [if_neg fun hc => (hc k hlt hlt).2.1 h]
   ·refine ⟨k + 1, [], ⟨by omega, hall.succ fun _ => ⟨‹_›, ‹_›, fun _ => h⟩⟩, by omega, by simp⟩
   ·rw [if_neg fun hc => ?_]
    have := (hc k hlt hlt).2.2 h0
    rw [sless, h] at this
    cases this
   ·rw [if_neg fun hc => h (hc k hlt hlt).1]
  ·repeat' first | simp (disch := omega) only [go_sem, map_get hlt, mP, wrap_i64] | ((with_reducible refine condT ?_ ?_) <;> intro h <;> try first | omega | simp (disch := omega) only [go_sem, *, map_get hlt, mP, wrap_i64]) | (refine callW_of (lin_identifier_abs _) rfl (.inl rfl) ?_)
   ·rw [if_neg fun hc => (hc k hlt hlt).2.1 h]
   ·refine ⟨k + 1, [], ⟨by omega, hall.succ fun _ => ⟨‹_›, ‹_›, fun _ => by omega⟩⟩, by omega, by simp⟩
   ·rw [if_neg fun hc => h (hc k hlt hlt).1]
 ·repeat' first | simp (disch := omega) only [go_sem] | ((with_reducible refine condT ?_ ?_) <;> intro h <;> try first | omega | simp (disch := omega) only [go_sem, *])
  rw [if_pos]
  have : k = l.length := by omega
  rw [this] at hall
  exact hall
end Go.Proofs.YtkkbffbbifkhjaaGreatDoor
set_option linter.unusedVariables false
set_option linter.unusedSimpArgs false
set_option maxRecDepth 20000
namespace Go.Proofs.YtkkbffbbifkhjaaGreatDoor
open Go.Abs Go.RowKit

theorem app_tslP {e sz bytes : Nat} {y : AV} {rows ys : List (List PC)} {σ : St} {K : Blk (AV → St → Prop)} (h0 : rowsOk sz rows) (hok : rowsOk sz ys) (h1 : (rows.length + ys.length) * bytes ≤ 140737488355328) (h2 : rows.length + ys.length ≤ 140737488355328)
  (hk : K.out (.c (.pure (.slice (rows ++ ys)))) σ) : @appW e sz bytes (.c (.tsl rows)) y ys σ K := ⟨hok, .inr (.inr ⟨rows, rfl, h0, .inr (.inl ⟨h1, h2, hk⟩)⟩)⟩
theorem app_tslN {e sz bytes : Nat} {y : AV} {rows : List (List PC)} {σ : St} {K : Blk (AV → St → Prop)} (h0 : rowsOk sz rows) (hk : K.out (.c (.tsl rows)) σ) : @appW e sz bytes (.c (.tsl rows)) y [] σ K := ⟨(by intro r hr; cases hr), .inr (.inr ⟨rows, rfl, h0, .inr (.inr ⟨rfl, hk⟩)⟩)⟩
theorem app_tsl {e sz bytes : Nat} {y : AV} {rows ys : List (List PC)} {σ : St} {K : Blk (AV → St → Prop)} (h0 : rowsOk sz rows) (hok : rowsOk sz ys) (hne : ys ≠ []) (h1 : (rows.length + ys.length) * bytes ≤ 140737488355328) (h2 : rows.length + ys.length ≤ 140737488355328)
  (hk : K.out (.c (.ref σ.nx)) { σ with mem := (σ.nx, .arr e sz (rows ++ ys)) :: σ.mem, nx := σ.nx + 1 }) : @appW e sz bytes (.c (.tsl rows)) y ys σ K := ⟨hok, .inr (.inr ⟨rows, rfl, h0, .inl ⟨hne, h1, h2, hk⟩⟩)⟩
def cP (c : Con) : List PC := [pI c.1.1, pMonos c.1.2, pB c.2]
abbrev aCon (c : Con) : AV := .agg [.pure (pI c.1.1), .pure (pMonos c.1.2), .pure (pB c.2)]
abbrev aCons (l : List Con) : AV := aSl cP l
theorem constraint_Validate_abs (c : Con) : PCalls Tryz.prog n_constraint_Validate [aCon c] (I (if linOk c.1.2 then 0 else 1)) := by
 refine PCalls.of is_constraint_Validate (by simp) fun _ => runW_sound ?_
 simp only [c_constraint_Validate]
 repeat' first | simp (disch := omega) only [go_sem] | ((with_reducible refine condT ?_ ?_) <;> intro h <;> try first | omega | simp (disch := omega) only [go_sem, *]) | (refine callW_of (lin_Validate_abs _ _) rfl (.inl rfl) ?_)
end Go.Proofs.YtkkbffbbifkhjaaGreatDoor
