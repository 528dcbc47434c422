/- Walks by the abstract machine: names, sums and products of numbers. -/
import Derived.Test.YtbblkakcadonjaaGreatDoorIn0
import Derived.Test.YtbblkakcadonjaaGreatDoorV01b
set_option linter.unusedVariables false
set_option linter.unusedSimpArgs false
set_option maxRecDepth 20000
set_option maxHeartbeats 4000000
set_option maxRecDepth 1000000
namespace Go.Proofs.YtbblkakcadonjaaGreatDoor
open Go.Abs Go.RowKit

theorem base_Plus_abs {a b : Int} (ha : in64 a) (hb : in64 b) : PCalls Tryz.prog n_base_Plus [I a, I b] (aOk (ok64 (a + b))) := by
 refine PCalls.of is_base_Plus (by simp) fun _ => runW_sound ?_
 obtain ⟨ha1, ha2⟩ := ha
 obtain ⟨hb1, hb2⟩ := hb
 conv in c_base_Plus => cbv
 repeat' first | simp (disch := omega) only [go_sem, *, wrap_i64] | ((with_reducible refine condT ?_ ?_) <;> intro h <;> try omega)
 all_goals first
  | omega
  | rw [ok64_in (by unfold in64; omega)]
  | rw [ok64_out (by unfold in64; omega)]

theorem base_Times_abs {a b : Int} (ha : in64 a) (hb : in64 b) : PCalls Tryz.prog n_base_Times [I a, I b] (aOk (ok64 (a * b))) := by
 refine PCalls.of is_base_Times (by simp) fun _ => runW_sound ?_
 obtain ⟨ha1, ha2⟩ := ha
 obtain ⟨hb1, hb2⟩ := hb
 conv in c_base_Times => cbv
 repeat' first | simp (disch := omega) only [go_sem, *] | ((with_reducible refine condT ?_ ?_) <;> intro h <;> try omega)
 all_goals first
  | (simp [ok64, in64]; done)
  | (rw [ok64_in (by unfold in64; omega)]; done)
  | (rw [ok64_out (by unfold in64; omega)]; done)
  | rw [ok64_out (fun hc => h ((wrap_mul2 (by unfold in64; omega) (by unfold in64; omega) (by omega) (by omega)).2 hc))]
  | (have hc := (wrap_mul2 (by unfold in64; omega) (by unfold in64; omega) (by omega) (by omega)).1 h; rw [ok64_in hc, wrap_i64 hc])

def words : List ByteArray := [⟨⟨[115, 105, 122, 101]⟩⟩, ⟨⟨[119, 104, 101, 114, 101]⟩⟩, ⟨⟨[105, 110]⟩⟩, ⟨⟨[100, 101, 102]⟩⟩, ⟨⟨[111, 117, 116]⟩⟩, ⟨⟨[115, 117, 109]⟩⟩, ⟨⟨[112, 114, 111, 100]⟩⟩, ⟨⟨[109, 105, 110]⟩⟩, ⟨⟨[109, 97, 120]⟩⟩, ⟨⟨[115, 99, 97, 110]⟩⟩, ⟨⟨[111, 118, 101, 114]⟩⟩, ⟨⟨[105, 102]⟩⟩, ⟨⟨[99, 97, 115, 116]⟩⟩, ⟨⟨[102, 114, 97, 99]⟩⟩, ⟨⟨[105, 110, 116]⟩⟩, ⟨⟨[102, 105, 120]⟩⟩, ⟨⟨[99, 101, 105, 108]⟩⟩, ⟨⟨[102, 108, 111, 111, 114]⟩⟩, ⟨⟨[122, 101, 114, 111]⟩⟩, ⟨⟨[101, 118, 101, 110]⟩⟩, ⟨⟨[115, 97, 116]⟩⟩, ⟨⟨[119, 114, 97, 112]⟩⟩]
theorem base_Words_abs : PCalls Tryz.prog n_base_Words [] (aStrs words) := by
 refine PCalls.of is_base_Words (by simp) fun _ => runW_sound ?_
 conv in c_base_Words => cbv
 repeat' first | simp (disch := omega) only [go_sem, *] | ((with_reducible refine condT ?_ ?_) <;> intro h <;> try omega)
 rfl
theorem base_Has_abs (xs : List ByteArray) (s : ByteArray) : PCalls Tryz.prog n_base_Has [aStrs xs, S s] (Go.Abs.B (decide (s ∈ xs))) := by
 refine PCalls.of is_base_Has (by simp) fun hb => runW_sound ?_
 have hx : xs.length ≤ 9223372036854775807 := by simpa [bndVs, bndV, bndA] using hb.1
 conv in c_base_Has => cbv
 repeat' first | simp (disch := omega) only [go_sem, *] | ((with_reducible refine condT ?_ ?_) <;> intro h <;> try omega)
 refine AW_loop (fun k : Nat => ⟨[(5, I k), (0, aStrs xs), (1, S s)], [], 0, 0⟩) (fun k => k ≤ xs.length ∧ ∀ j (h : j < xs.length), j < k → xs[j] ≠ s) (fun k => xs.length - k) ⟨0, [], ⟨by omega, fun j h h' => by omega⟩, by simp⟩ ?_
 rintro k ⟨hk, hall⟩
 refine runW_sound ?_
 by_cases hlt : k < xs.length
 ·repeat' first | simp (disch := omega) only [go_sem, *, map_get hlt, Option.map_some, wrap_i64] | ((with_reducible refine condT ?_ ?_) <;> intro h <;> try omega)
  ·have : s ∈ xs := by subst h; exact List.getElem_mem hlt
   simp [this]
  ·refine ⟨k + 1, [], ⟨by omega, fun j hj hj' => ?_⟩, by omega, by simp⟩
   by_cases e : j = k
   ·subst e; exact h
   ·exact hall j hj (by omega)
 ·repeat' first | simp (disch := omega) only [go_sem, *] | ((with_reducible refine condT ?_ ?_) <;> intro h <;> try omega)
  have : ¬ s ∈ xs := fun hm => by
   obtain ⟨j, hj, e⟩ := List.mem_iff_getElem.1 hm
   exact hall j hj (by omega) e
  simp [this]
theorem lin_reserved_abs (s : ByteArray) : PCalls Tryz.prog n_lin_reserved [S s] (Go.Abs.B (decide (s ∈ words))) := by
 refine PCalls.of is_lin_reserved (by simp) fun _ => runW_sound ?_
 conv in c_lin_reserved => cbv
 repeat' first | simp (disch := omega) only [go_sem, *] | ((with_reducible refine condT ?_ ?_) <;> intro h <;> try omega)
 all_goals simp [words, *]
end Go.Proofs.YtbblkakcadonjaaGreatDoor
set_option linter.unusedVariables false
set_option linter.unusedSimpArgs false
set_option maxRecDepth 20000
set_option maxHeartbeats 4000000
set_option maxRecDepth 1000000
namespace Go.Proofs.YtbblkakcadonjaaGreatDoor
open Go.Abs Go.RowKit

def chOk (i : Nat) (c : UInt8) : Prop := (97 ≤ c.toNat ∧ c.toNat ≤ 122) ∨ (0 < i ∧ ((48 ≤ c.toNat ∧ c.toNat ≤ 57) ∨ c.toNat = 95))
instance (i : Nat) (c : UInt8) : Decidable (chOk i c) := by unfold chOk; infer_instance
def idOk (s : ByteArray) : Prop := 1 ≤ s.size ∧ s.size ≤ 16 ∧ ¬ s ∈ words ∧ ∀ i (h : i < s.size), chOk i s[i]
noncomputable instance (s : ByteArray) : Decidable (idOk s) := Classical.propDecidable _

theorem base_Name_abs (s : ByteArray) : PCalls Tryz.prog n_base_Name [S s] (Go.Abs.B (decide (idOk s))) := by
 refine PCalls.of is_base_Name (by simp) fun hb => runW_sound ?_
 conv in c_base_Name => cbv
 repeat' first | simp (disch := omega) only [go_sem, *] | ((with_reducible refine condT ?_ ?_) <;> intro h <;> try omega) | (refine w_R base_Words_abs rfl rfl ?_) | (refine w_L (base_Has_abs _ _) rfl rfl ?_)
 ·rw [decide_eq_false]; rintro ⟨h1, _⟩; omega
 ·rw [decide_eq_false]; rintro ⟨_, h1, _⟩; omega
 ·rw [decide_eq_false]; rintro ⟨_, _, h1, _⟩; exact h1 h
 ·refine AW_loop (fun k : Nat => ⟨[(3, I k), (0, S s)], [], 0, 0⟩) (fun k => k ≤ s.size ∧ upTo (fun j => ∀ h : j < s.size, chOk j s[j]) k) (fun k => s.size - k) ⟨0, [], ⟨by omega, .zero⟩, by simp⟩ ?_
  rintro k ⟨hk, hall⟩
  refine runW_sound ?_
  by_cases hlt : k < s.size
  ·repeat' first | simp (disch := omega) only [go_sem, *, getElem?_pos s k hlt, wrap_i64] | ((with_reducible refine condT ?_ ?_) <;> intro h <;> try omega)
   all_goals first
    | (refine ⟨k + 1, [], ⟨by omega, hall.succ fun _ => ?_⟩, by omega, by simp⟩; unfold chOk; omega)
    | (rw [decide_eq_false]; rintro ⟨_, _, _, h4⟩; have := h4 k hlt; unfold chOk at this; omega)
  ·repeat' first | simp (disch := omega) only [go_sem, *] | ((with_reducible refine condT ?_ ?_) <;> intro h <;> try omega)
   rw [decide_eq_true]
   exact ⟨by omega, by omega, ‹_›, fun i hi => hall i (by omega) hi⟩

theorem lin_identifier_abs (s : ByteArray) : PCalls Tryz.prog n_lin_identifier [S s] (Go.Abs.B (decide (idOk s))) := by
 refine PCalls.of is_lin_identifier (by simp) fun hb => runW_sound ?_
 conv in c_lin_identifier => cbv
 by_cases h0 : s.size < 1
 ·repeat' first | simp (disch := omega) only [go_sem, *] | ((with_reducible refine condT ?_ ?_) <;> intro h <;> try omega)
  rw [decide_eq_false]; rintro ⟨h1, _⟩; omega
 have hpos : 0 < s.size := by omega
 repeat' first | simp (disch := omega) only [go_sem, *, getElem?_pos s 0 hpos, Int.toNat_zero] | ((with_reducible refine condT ?_ ?_) <;> intro h <;> try omega) | (refine w_L (lin_reserved_abs _) rfl rfl ?_)
 ·rw [decide_eq_false]; rintro ⟨_, h1, _⟩; omega
 ·rw [decide_eq_false]; rintro ⟨_, _, h1, _⟩; exact h1 h
 ·rw [decide_eq_false]; rintro ⟨_, _, _, h4⟩; have := h4 0 hpos; unfold chOk at this; omega
 ·rw [decide_eq_false]; rintro ⟨_, _, _, h4⟩; have := h4 0 hpos; unfold chOk at this; omega
 ·refine AW_loop (fun k : Nat => ⟨[(29, I k), (28, I s.size), (0, S s)], [], 0, 0⟩) (fun k => k ≤ s.size ∧ upTo (fun j => ∀ h : j < s.size, chOk (j + 1) s[j]) k) (fun k => s.size - k) ⟨0, [], ⟨by omega, .zero⟩, by simp⟩ ?_
  rintro k ⟨hk, hall⟩
  refine runW_sound ?_
  by_cases hlt : k < s.size
  ·repeat' first | simp (disch := omega) only [go_sem, *, getElem?_pos s k hlt, wrap_i64] | ((with_reducible refine condT ?_ ?_) <;> intro h <;> try omega)
   all_goals first
    | (refine ⟨k + 1, [], ⟨by omega, hall.succ fun _ => ?_⟩, by omega, by simp⟩; unfold chOk; omega)
    | (rw [decide_eq_false]; rintro ⟨_, _, _, h4⟩; have := h4 k hlt; unfold chOk at this; omega)
  ·repeat' first | simp (disch := omega) only [go_sem, *] | ((with_reducible refine condT ?_ ?_) <;> intro h <;> try omega)
   rw [decide_eq_true]
   refine ⟨by omega, by omega, ‹_›, fun i hi => ?_⟩
   have h5 := hall i (by omega) hi
   by_cases e : i = 0
   ·subst e; unfold chOk; omega
   ·unfold chOk at h5 ⊢; omega


abbrev Mono := ByteArray × Int
def mP (m : Mono) : List PC := [pS m.1, pI m.2]
abbrev pMonos (l : List Mono) : PC := pSl mP l
abbrev Lin := Int × List Mono
abbrev Con := Lin × Bool
abbrev aLin (k : Int) (l : List Mono) : AV := .agg [.pure (pI k), .pure (pMonos l)]
def sless (a b : ByteArray) : Bool := Op.bytesLess a.toList b.toList
def monoOk (l : List Mono) (i : Nat) : Prop := ∀ h : i < l.length, idOk l[i].1 ∧ l[i].2 ≠ 0 ∧ (0 < i → sless l[i - 1].1 l[i].1 = true)
def linOk (l : List Mono) : Prop := upTo (monoOk l) l.length
noncomputable instance (l : List Mono) : Decidable (linOk l) := Classical.propDecidable _

theorem bnd_lin {k : Int} {l : List Mono} (h : bndV (aLin k l)) : l.length ≤ 9223372036854775807 := by simpa [bndV, bndAs, bndA] using h

set_option maxRecDepth 20000 in
theorem base_LinRight_abs (c : Int) (l : List Mono) : PCalls Tryz.prog n_base_LinRight [aLin c l] (Go.Abs.B (decide (linOk l))) := by
 refine PCalls.of is_base_LinRight (by simp) fun hb => runW_sound ?_
 have hl := bnd_lin hb.1
 simp only [c_base_LinRight]
 repeat' first | simp (disch := omega) only [go_sem, *] | ((with_reducible refine condT ?_ ?_) <;> intro h <;> try omega)
 refine AW_loop (fun k : Nat => ⟨[(3, I k), (1, .c (.ptr 0 0))], [(0, .var [.pure (pI c), .pure (pMonos l)])], 1, 0⟩) (fun k => k ≤ l.length ∧ upTo (monoOk l) k) (fun k => l.length - k) ⟨0, [], ⟨by omega, .zero⟩, by simp⟩ ?_
 rintro k ⟨hk, hall⟩
 refine runW_sound ?_
 by_cases hlt : k < l.length
 ·by_cases h0 : 0 < k
  ·have hl1 : k - 1 < l.length := by omega
   have e1 : ((k : Int) - 1).toNat = k - 1 := by omega
   repeat' first | simp (disch := omega) only [go_sem, *, List.drop_succ_cons, List.drop_zero, map_get hlt, map_get hl1, mP, wrap_i64, e1] | ((with_reducible refine condT ?_ ?_) <;> intro h <;> try omega) | (refine w_L (base_Name_abs _) rfl rfl ?_)
   ·rw [decide_eq_false]
    intro hc
    exact (hc k hlt hlt).2.1 h
   ·refine ⟨k + 1, [], ⟨by omega, hall.succ fun _ => ⟨‹_›, ‹_›, fun _ => h⟩⟩, by omega, by simp⟩
   ·rw [decide_eq_false]
    intro hc
    have := (hc k hlt hlt).2.2 h0
    rw [sless, h] at this
    cases this
   ·rw [decide_eq_false]
    intro hc
    exact h (hc k hlt hlt).1
  ·repeat' first | simp (disch := omega) only [go_sem, *, List.drop_succ_cons, List.drop_zero, map_get hlt, mP, wrap_i64] | ((with_reducible refine condT ?_ ?_) <;> intro h <;> try omega) | (refine w_L (base_Name_abs _) rfl rfl ?_)
   ·rw [decide_eq_false]
    intro hc
    exact (hc k hlt hlt).2.1 h
   ·refine ⟨k + 1, [], ⟨by omega, hall.succ fun _ => ⟨‹_›, ‹_›, fun _ => by omega⟩⟩, by omega, by simp⟩
   ·rw [decide_eq_false]
    intro hc
    exact h (hc k hlt hlt).1
 ·repeat' first | simp (disch := omega) only [go_sem, *, List.drop_succ_cons, List.drop_zero] | ((with_reducible refine condT ?_ ?_) <;> intro h <;> try omega)
  rw [decide_eq_true]
  have : k = l.length := by omega
  rw [this] at hall
  exact hall

theorem ref05_Validate_abs (c : Int) (l : List Mono) : PCalls Tryz.prog n_ref05_Validate [aLin c l] (I (if linOk l then 0 else 1)) := by
 refine PCalls.of is_ref05_Validate (by simp) fun hb => runW_sound ?_
 conv in c_ref05_Validate => cbv
 repeat' first | simp (disch := omega) only [go_sem, *, ↓List.drop_zero, ↓List.take_succ_cons, ↓List.take_zero] | ((with_reducible refine condT ?_ ?_) <;> intro h <;> try omega) | (refine w_L (base_LinRight_abs c l) rfl rfl ?_)
 all_goals simp [*]

set_option maxRecDepth 20000 in
theorem lin_Validate_abs (c : Int) (l : List Mono) : PCalls Tryz.prog n_lin_Validate [aLin c l] (I (if linOk l then 0 else 1)) := by
 refine PCalls.of is_lin_Validate (by simp) fun hb => runW_sound ?_
 have hl := bnd_lin hb.1
 conv in c_lin_Validate => cbv
 repeat' first | simp (disch := omega) only [go_sem, *, List.drop_succ_cons, List.drop_zero] | ((with_reducible refine condT ?_ ?_) <;> intro h <;> try omega)
 refine AW_loop (fun k : Nat => ⟨[(8, I k), (7, I l.length), (6, .c (.pure (pMonos l))), (1, .c (.ptr 0 0))], [(0, .var [.pure (pI c), .pure (pMonos l)])], 1, 0⟩) (fun k => k ≤ l.length ∧ upTo (monoOk l) k) (fun k => l.length - k) ⟨0, [], ⟨by omega, .zero⟩, by simp⟩ ?_
 rintro k ⟨hk, hall⟩
 refine runW_sound ?_
 by_cases hlt : k < l.length
 ·by_cases h0 : 0 < k
  ·have hl1 : k - 1 < l.length := by omega
   have e1 : ((k : Int) - 1).toNat = k - 1 := by omega
   repeat' first | simp (disch := omega) only [go_sem, *, List.drop_succ_cons, List.drop_zero, List.take_succ_cons, List.take_zero, map_get hlt, map_get hl1, mP, wrap_i64, e1] | ((with_reducible refine condT ?_ ?_) <;> intro h <;> try omega) | (refine w_L (lin_identifier_abs _) rfl rfl ?_)
   ·rw [if_neg fun hc => (hc k hlt hlt).2.1 h]
   ·refine ⟨k + 1, [], ⟨by omega, hall.succ fun _ => ⟨‹_›, ‹_›, fun _ => h⟩⟩, by omega, by simp⟩
   ·rw [if_neg fun hc => ?_]
    have := (hc k hlt hlt).2.2 h0
    rw [sless, h] at this
    cases this
   ·rw [if_neg fun hc => h (hc k hlt hlt).1]
  ·repeat' first | simp (disch := omega) only [go_sem, *, map_get hlt, mP, wrap_i64] | ((with_reducible refine condT ?_ ?_) <;> intro h <;> try omega) | (refine w_L (lin_identifier_abs _) rfl rfl ?_)
   ·rw [if_neg fun hc => (hc k hlt hlt).2.1 h]
   ·refine ⟨k + 1, [], ⟨by omega, hall.succ fun _ => ⟨‹_›, ‹_›, fun _ => by omega⟩⟩, by omega, by simp⟩
   ·rw [if_neg fun hc => h (hc k hlt hlt).1]
 ·repeat' first | simp (disch := omega) only [go_sem, *] | ((with_reducible refine condT ?_ ?_) <;> intro h <;> try omega)
  rw [if_pos]
  have : k = l.length := by omega
  rw [this] at hall
  exact hall
end Go.Proofs.YtbblkakcadonjaaGreatDoor
set_option linter.unusedVariables false
set_option linter.unusedSimpArgs false
set_option maxRecDepth 20000
set_option maxHeartbeats 4000000
set_option maxRecDepth 1000000
namespace Go.Proofs.YtbblkakcadonjaaGreatDoor
open Go.Abs Go.RowKit

theorem app_tslP {e sz bytes : Nat} {y : AV} {rows ys : List (List PC)} {σ : St} {K : Blk (AV → St → Prop)} (h0 : rowsOk sz rows) (hok : rowsOk sz ys) (h1 : (rows.length + ys.length) * bytes ≤ 140737488355328) (h2 : rows.length + ys.length ≤ 140737488355328)
  (hk : K.out (.c (.pure (.slice (rows ++ ys)))) σ) : @appW e sz bytes (.c (.tsl rows)) y ys σ K := ⟨hok, .inr (.inr ⟨rows, rfl, h0, .inr (.inl ⟨h1, h2, hk⟩)⟩)⟩
theorem app_tslN {e sz bytes : Nat} {y : AV} {rows : List (List PC)} {σ : St} {K : Blk (AV → St → Prop)} (h0 : rowsOk sz rows) (hk : K.out (.c (.tsl rows)) σ) : @appW e sz bytes (.c (.tsl rows)) y [] σ K := ⟨(by intro r hr; cases hr), .inr (.inr ⟨rows, rfl, h0, .inr (.inr ⟨rfl, hk⟩)⟩)⟩
theorem app_tsl {e sz bytes : Nat} {y : AV} {rows ys : List (List PC)} {σ : St} {K : Blk (AV → St → Prop)} (h0 : rowsOk sz rows) (hok : rowsOk sz ys) (hne : ys ≠ []) (h1 : (rows.length + ys.length) * bytes ≤ 140737488355328) (h2 : rows.length + ys.length ≤ 140737488355328)
  (hk : K.out (.c (.ref σ.nx)) { σ with mem := (σ.nx, .arr e sz (rows ++ ys)) :: σ.mem, nx := σ.nx + 1 }) : @appW e sz bytes (.c (.tsl rows)) y ys σ K := ⟨hok, .inr (.inr ⟨rows, rfl, h0, .inl ⟨hne, h1, h2, hk⟩⟩)⟩
def cP (c : Con) : List PC := [pI c.1.1, pMonos c.1.2, pB c.2]
abbrev aCon (c : Con) : AV := .agg [.pure (pI c.1.1), .pure (pMonos c.1.2), .pure (pB c.2)]
abbrev aCons (l : List Con) : AV := aSl cP l
theorem constraint_Validate_abs (c : Con) : PCalls Tryz.prog n_constraint_Validate [aCon c] (I (if linOk c.1.2 then 0 else 1)) := by
 refine PCalls.of is_constraint_Validate (by simp) fun _ => runW_sound ?_
 conv in c_constraint_Validate => cbv
 repeat' first | simp (disch := omega) only [go_sem, *] | ((with_reducible refine condT ?_ ?_) <;> intro h <;> try omega) | (refine w_L (lin_Validate_abs _ _) rfl rfl ?_)
end Go.Proofs.YtbblkakcadonjaaGreatDoor
set_option linter.unusedVariables false
set_option linter.unusedSimpArgs false
set_option maxRecDepth 20000
set_option maxHeartbeats 4000000
set_option maxRecDepth 1000000
namespace Go.Proofs.YtbblkakcadonjaaGreatDoor
open Go.Abs Go.RowKit

abbrev Ty := Int × Int × Int × Int × Int
abbrev tyP (t : Ty) : List PC := [pI t.1, pI t.2.1, pI t.2.2.1, pI t.2.2.2.1, pI t.2.2.2.2]
abbrev aTy (t : Ty) : AV := .agg [.pure (pI t.1), .pure (pI t.2.1), .pure (pI t.2.2.1), .pure (pI t.2.2.2.1), .pure (pI t.2.2.2.2)]
def fixOk (b f r o : Int) : Prop := 2 ≤ b ∧ b ≤ 31 ∧ 0 ≤ f ∧ f ≤ 30 ∧ 1 ≤ r ∧ r ≤ 4 ∧ (o = 1 ∨ o = 2)
def tyOk (t : Ty) : Prop := ((t.1 = 1 ∨ t.1 = 3) ∧ t.2.1 = 0 ∧ t.2.2.1 = 0 ∧ t.2.2.2.1 = 0 ∧ t.2.2.2.2 = 0) ∨ (t.1 = 2 ∧ fixOk t.2.1 t.2.2.1 t.2.2.2.1 t.2.2.2.2)
instance (b f r o : Int) : Decidable (fixOk b f r o) := by unfold fixOk; infer_instance
noncomputable instance (t : Ty) : Decidable (tyOk t) := Classical.propDecidable _
def half (b : Int) : Int := 2 ^ (b - 1).toNat
def valOk (t : Ty) (a : Fr) : Prop := if t.1 = 2 then a.2 = 1 ∧ -half t.2.1 ≤ a.1 ∧ a.1 < half t.2.1 else if t.1 = 3 then a.2 = 1 ∧ -2147483647 ≤ a.1 ∧ a.1 ≤ 2147483647 else frOk a
noncomputable instance (t : Ty) (a : Fr) : Decidable (valOk t a) := Classical.propDecidable _
theorem half_bd {b : Int} (h1 : 2 ≤ b) (h2 : b ≤ 31) : 1 ≤ half b ∧ half b ≤ 1073741824 := by
 obtain ⟨n, rfl⟩ : ∃ n : Nat, b = n := ⟨b.toNat, by omega⟩
 have h3 : n ≤ 31 := by omega
 have h4 : 2 ≤ n := by omega
 clear h1 h2
 have key : ∀ m : Fin 32, 2 ≤ m.val → (1 : Int) ≤ half (m.val : Int) ∧ half (m.val : Int) ≤ 1073741824 := by decide +kernel
 exact key ⟨n, by omega⟩ h4
theorem half_eq {b : Int} (h1 : 2 ≤ b) (h2 : b ≤ 31) : (2 : Int) ^ (min (b - 1).toNat 64) = half b := by
 rw [half, Nat.min_eq_left (by omega)]
theorem value_plain_ty (t : Ty) : PCalls Tryz.prog n_value_plain [aTy t] (Go.Abs.B (decide (t.2.1 = 0 ∧ t.2.2.1 = 0 ∧ t.2.2.2.1 = 0 ∧ t.2.2.2.2 = 0))) := by
 refine PCalls.of is_value_plain (by simp) fun _ => runW_sound ?_
 conv in c_value_plain => cbv
 repeat' first | simp (disch := omega) only [go_sem, *] | ((with_reducible refine condT ?_ ?_) <;> intro h <;> try omega)
 refine congrArg (fun b => Go.Abs.B b) ?_
 rw [Bool.eq_iff_iff]
 simp [dec]
theorem fixed_ValidateType_ty (t : Ty) : PCalls Tryz.prog n_fixed_ValidateType [aTy t] (I (if t.1 = 2 ∧ fixOk t.2.1 t.2.2.1 t.2.2.2.1 t.2.2.2.2 then 0 else 10)) := by
 refine PCalls.of is_fixed_ValidateType (by simp) fun _ => runW_sound ?_
 conv in c_fixed_ValidateType => cbv
 obtain ⟨k, b, f, r, o⟩ := t
 simp only
 repeat' first | simp (disch := omega) only [go_sem, *] | ((with_reducible refine condT ?_ ?_) <;> intro h <;> try omega)
 all_goals first
  | (rw [if_neg]; unfold fixOk; omega)
  | (rw [if_pos]; unfold fixOk; omega)
  | (simp; done)
theorem value_ValidateType_ty (t : Ty) : PCalls Tryz.prog n_value_ValidateType [aTy t] (I (if tyOk t then 0 else 10)) := by
 refine PCalls.of is_value_ValidateType (by simp) fun _ => runW_sound ?_
 have p1 := value_plain_ty t
 have p2 := fixed_ValidateType_ty t
 obtain ⟨k, b, f, r, o⟩ := t
 simp only at p1 p2
 conv in c_value_ValidateType => cbv
 by_cases g1 : b = 0 ∧ f = 0 ∧ r = 0 ∧ o = 0
 ·rw [decide_eq_true g1] at p1
  by_cases g2 : k = 2 ∧ fixOk b f r o
  ·exfalso; have := g2.2.1; omega
  ·rw [if_neg g2] at p2
   by_cases g3 : k = 1 ∨ k = 3
   ·rw [if_pos (show tyOk (k, b, f, r, o) from .inl ⟨g3, g1⟩)]
    clear g1 g2
    rcases g3 with rfl | rfl
    ·repeat' first | simp (disch := omega) only [go_sem, *] | ((with_reducible refine condT ?_ ?_) <;> intro h <;> try omega) | (refine w_L p1 rfl rfl ?_) | (refine w_L p2 rfl rfl ?_)
    ·repeat' first | simp (disch := omega) only [go_sem, *] | ((with_reducible refine condT ?_ ?_) <;> intro h <;> try omega) | (refine w_L p1 rfl rfl ?_) | (refine w_L p2 rfl rfl ?_)
   ·rw [if_neg (show ¬ tyOk (k, b, f, r, o) from fun h => h.elim (fun h => g3 h.1) g2)]
    clear g1 g2
    by_cases hk : k = 2
    ·subst hk
     repeat' first | simp (disch := omega) only [go_sem, *] | ((with_reducible refine condT ?_ ?_) <;> intro h <;> try omega) | (refine w_L p1 rfl rfl ?_) | (refine w_L p2 rfl rfl ?_)
    ·repeat' first | simp (disch := omega) only [go_sem, *, hk] | ((with_reducible refine condT ?_ ?_) <;> intro h <;> try omega) | (refine w_L p1 rfl rfl ?_) | (refine w_L p2 rfl rfl ?_)
 ·rw [decide_eq_false g1] at p1
  by_cases g2 : k = 2 ∧ fixOk b f r o
  ·rw [if_pos g2] at p2
   rw [if_pos (show tyOk (k, b, f, r, o) from .inr g2)]
   obtain ⟨rfl, _⟩ := g2
   clear g1
   repeat' first | simp (disch := omega) only [go_sem, *] | ((with_reducible refine condT ?_ ?_) <;> intro h <;> try omega) | (refine w_L p1 rfl rfl ?_) | (refine w_L p2 rfl rfl ?_)
  ·rw [if_neg g2] at p2
   rw [if_neg (show ¬ tyOk (k, b, f, r, o) from fun h => h.elim (fun h => g1 h.2) g2)]
   clear g1 g2
   by_cases hk : k = 2
   ·subst hk
    repeat' first | simp (disch := omega) only [go_sem, *] | ((with_reducible refine condT ?_ ?_) <;> intro h <;> try omega) | (refine w_L p1 rfl rfl ?_) | (refine w_L p2 rfl rfl ?_)
   ·by_cases h1 : k = 1
    ·subst h1
     repeat' first | simp (disch := omega) only [go_sem, *] | ((with_reducible refine condT ?_ ?_) <;> intro h <;> try omega) | (refine w_L p1 rfl rfl ?_) | (refine w_L p2 rfl rfl ?_)
    ·by_cases h3 : k = 3
     ·subst h3
      repeat' first | simp (disch := omega) only [go_sem, *] | ((with_reducible refine condT ?_ ?_) <;> intro h <;> try omega) | (refine w_L p1 rfl rfl ?_) | (refine w_L p2 rfl rfl ?_)
     ·repeat' first | simp (disch := omega) only [go_sem, *, hk, h1, h3] | ((with_reducible refine condT ?_ ?_) <;> intro h <;> try omega) | (refine w_L p1 rfl rfl ?_) | (refine w_L p2 rfl rfl ?_)
theorem base_Type_ty (t : Ty) : PCalls Tryz.prog n_base_Type [aTy t] (Go.Abs.B (decide (tyOk t))) := by
 refine PCalls.of is_base_Type (by simp) fun _ => runW_sound ?_
 obtain ⟨k, b, f, r, o⟩ := t
 conv in c_base_Type => cbv
 by_cases h : tyOk (k, b, f, r, o)
 ·rw [decide_eq_true h]
  rcases h with ⟨h, rfl, rfl, rfl, rfl⟩ | ⟨h, g1, g2, g3, g4, g5, g6, g7⟩
  ·simp only at h
   rcases h with rfl | rfl
   ·repeat' first | simp (disch := omega) only [go_sem, *] | ((with_reducible refine condT ?_ ?_) <;> intro h <;> try omega)
   ·repeat' first | simp (disch := omega) only [go_sem, *] | ((with_reducible refine condT ?_ ?_) <;> intro h <;> try omega)
  ·simp only at h g1 g2 g3 g4 g5 g6 g7
   subst h
   rcases g7 with rfl | rfl
   ·repeat' first | simp (disch := omega) only [go_sem, *] | ((with_reducible refine condT ?_ ?_) <;> intro h <;> try omega)
   ·repeat' first | simp (disch := omega) only [go_sem, *] | ((with_reducible refine condT ?_ ?_) <;> intro h <;> try omega)
 ·rw [decide_eq_false h]
  have h' : ¬ ((k = 1 ∨ k = 3) ∧ b = 0 ∧ f = 0 ∧ r = 0 ∧ o = 0) := fun g => h (.inl g)
  have h2 : ¬ (k = 2 ∧ 2 ≤ b ∧ b ≤ 31 ∧ 0 ≤ f ∧ f ≤ 30 ∧ 1 ≤ r ∧ r ≤ 4 ∧ (o = 1 ∨ o = 2)) := fun g => h (.inr g)
  clear h
  have H1 := Lib.hid h'
  have H2 := Lib.hid h2
  clear h' h2
  repeat' first | simp (disch := omega) only [go_sem, *] | ((with_reducible refine condT ?_ ?_) <;> intro h <;> try omega)
  all_goals first
   | (refine congrArg (fun b => Go.Abs.B b) ?_; rw [decide_eq_false]; have := H1.out; have := H2.out; omega)
   | (exfalso; have := H1.out; have := H2.out; omega)
theorem round_valid_ty {b : Int} (h1 : 2 ≤ b) (h2 : b ≤ 31) : PCalls Tryz.prog n_round_valid [I b] (Go.Abs.B true) := by
 refine PCalls.of is_round_valid (by simp) fun _ => runW_sound ?_
 conv in c_round_valid => cbv
 repeat' first | simp (disch := omega) only [go_sem, *] | ((with_reducible refine condT ?_ ?_) <;> intro h <;> try omega)
theorem round_MinInt_ty {b : Int} (h1 : 2 ≤ b) (h2 : b ≤ 31) : PCalls Tryz.prog n_round_MinInt [I b] (I (-half b)) := by
 refine PCalls.of is_round_MinInt (by simp) fun _ => runW_sound ?_
 have h3 := half_bd h1 h2
 have h4 := half_eq h1 h2
 have hu : IntKind.wrap .u64 (b - 1) = b - 1 := by rw [IntKind.wrap_u64]; omega
 have hm1 : IntKind.wrap .i64 (b - 1) = b - 1 := wrap_i64 (by omega)
 have v1 : IntKind.wrap .i64 (half b) = half b := wrap_i64 (by omega)
 have v2 : IntKind.wrap .i64 (0 - half b) = -half b := by rw [Int.zero_sub]; exact wrap_i64 (by omega)
 have v3 : IntKind.wrap .i64 (half b - 1) = half b - 1 := wrap_i64 (by omega)
 conv in c_round_MinInt => cbv
 repeat' first | simp (disch := omega) only [go_sem, *, hm1, hu, h4, Int.one_mul, v1, v2, v3] | ((with_reducible refine condT ?_ ?_) <;> intro h <;> try omega) | (refine w_L (round_valid_ty h1 h2) rfl rfl ?_)
theorem round_MaxInt_ty {b : Int} (h1 : 2 ≤ b) (h2 : b ≤ 31) : PCalls Tryz.prog n_round_MaxInt [I b] (I (half b - 1)) := by
 refine PCalls.of is_round_MaxInt (by simp) fun _ => runW_sound ?_
 have h3 := half_bd h1 h2
 have h4 := half_eq h1 h2
 have hu : IntKind.wrap .u64 (b - 1) = b - 1 := by rw [IntKind.wrap_u64]; omega
 have hm1 : IntKind.wrap .i64 (b - 1) = b - 1 := wrap_i64 (by omega)
 have v1 : IntKind.wrap .i64 (half b) = half b := wrap_i64 (by omega)
 have v2 : IntKind.wrap .i64 (0 - half b) = -half b := by rw [Int.zero_sub]; exact wrap_i64 (by omega)
 have v3 : IntKind.wrap .i64 (half b - 1) = half b - 1 := wrap_i64 (by omega)
 conv in c_round_MaxInt => cbv
 repeat' first | simp (disch := omega) only [go_sem, *, hm1, hu, h4, Int.one_mul, v1, v2, v3] | ((with_reducible refine condT ?_ ?_) <;> intro h <;> try omega) | (refine w_L (round_valid_ty h1 h2) rfl rfl ?_)
theorem fixed_Valid_ty {t : Ty} {a : Fr} (h0 : t.1 = 2) (ht : fixOk t.2.1 t.2.2.1 t.2.2.2.1 t.2.2.2.2) : PCalls Tryz.prog n_fixed_Valid [aTy t, aFr a] (Go.Abs.B (decide (a.2 = 1 ∧ -half t.2.1 ≤ a.1 ∧ a.1 < half t.2.1))) := by
 refine PCalls.of is_fixed_Valid (by simp) fun _ => runW_sound ?_
 have p1 := fixed_ValidateType_ty t
 rw [if_pos ⟨h0, ht⟩] at p1
 have p2 := round_MinInt_ty ht.1 ht.2.1
 have p3 := round_MaxInt_ty ht.1 ht.2.1
 obtain ⟨k, b, f, r, o⟩ := t
 obtain ⟨n, d⟩ := a
 simp only at h0 p1 p2 p3 ⊢
 clear ht
 conv in c_fixed_Valid => cbv
 by_cases h : d = 1 ∧ -half b ≤ n ∧ n < half b
 ·rw [decide_eq_true h]
  obtain ⟨rfl, g1, g2⟩ := h
  have g3 : n ≤ half b - 1 := by omega
  clear g2
  repeat' first | simp (disch := omega) only [go_sem] | ((with_reducible refine condT ?_ ?_) <;> intro h <;> try first | omega | simp (disch := omega) only [go_sem, *]) | (refine w_L p1 rfl rfl ?_) | (refine w_L p2 rfl rfl ?_) | (refine w_L p3 rfl rfl ?_)
  all_goals (simp [*]; done)
 ·rw [decide_eq_false h]
  have H := Lib.hid h
  clear h
  repeat' first | simp (disch := omega) only [go_sem] | ((with_reducible refine condT ?_ ?_) <;> intro h <;> try first | omega | simp (disch := omega) only [go_sem, *]) | (refine w_L p1 rfl rfl ?_) | (refine w_L p2 rfl rfl ?_) | (refine w_L p3 rfl rfl ?_)
  all_goals (refine congrArg (fun b => Go.Abs.B b) ?_; rw [decide_eq_false]; have := H.out; omega)
theorem value_whole_ty (n : Int) : PCalls Tryz.prog n_value_whole [I n] (Go.Abs.B (decide (-2147483647 ≤ n ∧ n ≤ 2147483647))) := by
 refine PCalls.of is_value_whole (by simp) fun _ => runW_sound ?_
 conv in c_value_whole => cbv
 repeat' first | simp (disch := omega) only [go_sem, *] | ((with_reducible refine condT ?_ ?_) <;> intro h <;> try omega)
 all_goals (simp <;> omega)
theorem value_Valid_ty {t : Ty} {a : Fr} (ht : tyOk t) (ha : frIn a) : PCalls Tryz.prog n_value_Valid [aTy t, aFr a] (Go.Abs.B (decide (valOk t a))) := by
 refine PCalls.of is_value_Valid (by simp) fun _ => runW_sound ?_
 have p1 := value_ValidateType_ty t
 rw [if_pos ht] at p1
 have p2 := frac_Valid_abs ha
 have p3 := value_whole_ty a.1
 have p4 : t.1 = 2 → PCalls Tryz.prog n_fixed_Valid [aTy t, aFr a] (Go.Abs.B (decide (valOk t a))) := fun h => by
  have := fixed_Valid_ty (a := a) h (ht.elim (fun h' => by omega) fun h' => h'.2)
  rwa [show decide (a.2 = 1 ∧ -half t.2.1 ≤ a.1 ∧ a.1 < half t.2.1) = decide (valOk t a) from decide_eq_decide.2 (by unfold valOk; rw [if_pos h])] at this
 have hk : t.1 = 1 ∨ t.1 = 2 ∨ t.1 = 3 := by rcases ht with ⟨h, _⟩ | ⟨h, _⟩ <;> omega
 obtain ⟨k, b, f, r, o⟩ := t
 clear ht
 conv in c_value_Valid => cbv
 simp only at hk
 rcases hk with rfl | rfl | rfl
 ·rw [show decide (valOk (1, b, f, r, o) a) = decide (frOk a) from decide_eq_decide.2 (by unfold valOk; simp)]
  repeat' first | simp (disch := omega) only [go_sem, *] | ((with_reducible refine condT ?_ ?_) <;> intro h <;> try omega) | (refine w_L p1 rfl rfl ?_) | (refine w_L p2 rfl rfl ?_)
 ·have p4 := p4 rfl
  repeat' first | simp (disch := omega) only [go_sem, *] | ((with_reducible refine condT ?_ ?_) <;> intro h <;> try omega) | (refine w_L p1 rfl rfl ?_) | (refine w_L p4 rfl rfl ?_)
 ·obtain ⟨n, d⟩ := a
  simp only at p3
  rw [show decide (valOk (3, b, f, r, o) (n, d)) = decide (d = 1 ∧ -2147483647 ≤ n ∧ n ≤ 2147483647) from decide_eq_decide.2 (by unfold valOk; simp)]
  clear p4 p2
  by_cases h : d = 1
  ·subst h
   repeat' first | simp (disch := omega) only [go_sem, *] | ((with_reducible refine condT ?_ ?_) <;> intro h <;> try omega) | (refine w_L p1 rfl rfl ?_) | (refine w_L p3 rfl rfl ?_)
   all_goals simp
  ·repeat' first | simp (disch := omega) only [go_sem, *, h] | ((with_reducible refine condT ?_ ?_) <;> intro h <;> try omega) | (refine w_L p1 rfl rfl ?_) | (refine w_L p3 rfl rfl ?_)
   all_goals simp [h]
theorem base_Val_ty {t : Ty} {a : Fr} (ht : tyOk t) (ha : frIn a) : PCalls Tryz.prog n_base_Val [aTy t, aFr a] (Go.Abs.B (decide (valOk t a))) := by
 refine PCalls.of is_base_Val (by simp) fun _ => runW_sound ?_
 obtain ⟨k, b, f, r, o⟩ := t
 obtain ⟨n, d⟩ := a
 obtain ⟨⟨ha1, ha2⟩, ha3, ha4⟩ := ha
 simp only at ha1 ha2 ha3 ha4
 conv in c_base_Val => cbv
 by_cases hk : k = 2
 ·subst hk
  have ht2 : fixOk b f r o := ht.elim (fun h' => absurd h'.1 (by simp)) fun h' => h'.2
  have h3 := half_bd ht2.1 ht2.2.1
  have h4 := half_eq ht2.1 ht2.2.1
  have hb1 := ht2.1
  have hb2 := ht2.2.1
  have hm1 : IntKind.wrap .i64 (b - 1) = b - 1 := wrap_i64 (by omega)
  have hv1 : IntKind.wrap .i64 (half b) = half b := wrap_i64 (by omega)
  have hv2 : IntKind.wrap .i64 (0 - half b) = -half b := by rw [Int.zero_sub]; exact wrap_i64 (by omega)
  clear ht ht2
  rw [show decide (valOk (2, b, f, r, o) (n, d)) = decide (d = 1 ∧ -half b ≤ n ∧ n < half b) from decide_eq_decide.2 (by unfold valOk; simp)]
  by_cases h : d = 1 ∧ -half b ≤ n ∧ n < half b
  ·rw [decide_eq_true h]
   obtain ⟨rfl, g1, g2⟩ := h
   repeat' first | simp (disch := omega) only [go_sem, *, wrap_i64, h4, hm1, Int.one_mul, hv1, hv2] | ((with_reducible refine condT ?_ ?_) <;> intro h <;> try omega)
  ·rw [decide_eq_false h]
   have H := Lib.hid h
   clear h
   repeat' first | simp (disch := omega) only [go_sem, *, wrap_i64, h4, hm1, Int.one_mul, hv1, hv2] | ((with_reducible refine condT ?_ ?_) <;> intro h <;> try omega)
   all_goals (refine congrArg (fun b => Go.Abs.B b) ?_; rw [decide_eq_false]; have := H.out; omega)
 ·have hv : valOk (k, b, f, r, o) (n, d) ↔ (if k = 3 then d = 1 ∧ -2147483647 ≤ n ∧ n ≤ 2147483647 else frOk (n, d)) := by unfold valOk; simp only; rw [if_neg hk]
  by_cases h1 : 1 ≤ d
  ·by_cases h2 : d ≤ 2147483647
   ·by_cases h3 : -2147483647 ≤ n ∧ n ≤ 2147483647
    ·have e : max n (0 - n) = (n.natAbs : Int) := by omega
     have e2 : d = (d.natAbs : Int) := by omega
     have p2 := base_gcd_abs n.natAbs d.natAbs
     rw [← e2] at p2
     clear e2
     by_cases hk3 : k = 3
     ·subst hk3
      rw [show decide (valOk (3, b, f, r, o) (n, d)) = decide (d = 1) from decide_eq_decide.2 (by rw [hv, if_pos rfl]; simp [h3])]
      clear hv ht p2 e
      repeat' first | simp (disch := omega) only [go_sem, *, wrap_i64] | ((with_reducible refine condT ?_ ?_) <;> intro h <;> try omega)
     ·rw [show decide (valOk (k, b, f, r, o) (n, d)) = decide (frOk (n, d)) from decide_eq_decide.2 (by rw [hv, if_neg hk3])]
      clear hv ht
      repeat' first | simp (disch := omega) only [go_sem, *, e, wrap_i64, hk, hk3, ↓reduceIte] | ((with_reducible refine condT ?_ ?_) <;> intro h <;> try omega) | (refine w_L p2 rfl rfl ?_)
      rw [show decide (((n.natAbs.gcd d.natAbs : Nat) : Int) = 1) = decide (frOk (n, d)) by rw [decide_eq_decide]; simp only [frOk]; omega]
    ·rw [decide_eq_false (show ¬ valOk (k, b, f, r, o) (n, d) by rw [hv]; unfold frOk; simp only; split <;> omega)]
     clear hv ht
     repeat' first | simp (disch := omega) only [go_sem, *, hk] | ((with_reducible refine condT ?_ ?_) <;> intro h <;> try omega)
   ·rw [decide_eq_false (show ¬ valOk (k, b, f, r, o) (n, d) by rw [hv]; unfold frOk; simp only; split <;> omega)]
    clear hv ht
    repeat' first | simp (disch := omega) only [go_sem, *, hk] | ((with_reducible refine condT ?_ ?_) <;> intro h <;> try omega)
  ·rw [decide_eq_false (show ¬ valOk (k, b, f, r, o) (n, d) by rw [hv]; unfold frOk; simp only; split <;> omega)]
   clear hv ht
   repeat' first | simp (disch := omega) only [go_sem, *, hk] | ((with_reducible refine condT ?_ ?_) <;> intro h <;> try omega)
end Go.Proofs.YtbblkakcadonjaaGreatDoor
