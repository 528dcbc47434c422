/- Walks by the abstract machine: element types and elements, of every kind. -/
import Derived.Test.YtkkbffbbifkhjaaGreatDoorV01b
set_option linter.unusedVariables false
set_option linter.unusedSimpArgs false
set_option maxRecDepth 20000
namespace Go.Proofs.YtkkbffbbifkhjaaGreatDoor
open Go.Abs Go.RowKit

abbrev Ty := Int × Int × Int × Int × Int
abbrev tyP (t : Ty) : List PC := [pI t.1, pI t.2.1, pI t.2.2.1, pI t.2.2.2.1, pI t.2.2.2.2]
abbrev aTy (t : Ty) : AV := .agg [.pure (pI t.1), .pure (pI t.2.1), .pure (pI t.2.2.1), .pure (pI t.2.2.2.1), .pure (pI t.2.2.2.2)]
def fixOk (b f r o : Int) : Prop := 2 ≤ b ∧ b ≤ 31 ∧ 0 ≤ f ∧ f ≤ 30 ∧ 1 ≤ r ∧ r ≤ 4 ∧ (o = 1 ∨ o = 2)
def tyOk (t : Ty) : Prop := ((t.1 = 1 ∨ t.1 = 3) ∧ t.2.1 = 0 ∧ t.2.2.1 = 0 ∧ t.2.2.2.1 = 0 ∧ t.2.2.2.2 = 0) ∨ (t.1 = 2 ∧ fixOk t.2.1 t.2.2.1 t.2.2.2.1 t.2.2.2.2)
instance (b f r o : Int) : Decidable (fixOk b f r o) := by unfold fixOk; infer_instance
noncomputable instance (t : Ty) : Decidable (tyOk t) := Classical.propDecidable _
def half (b : Int) : Int := 2 ^ (b - 1).toNat
def valOk (t : Ty) (a : Fr) : Prop := if t.1 = 2 then a.2 = 1 ∧ -half t.2.1 ≤ a.1 ∧ a.1 < half t.2.1 else if t.1 = 3 then a.2 = 1 ∧ -2147483647 ≤ a.1 ∧ a.1 ≤ 2147483647 else frOk a
noncomputable instance (t : Ty) (a : Fr) : Decidable (valOk t a) := Classical.propDecidable _
theorem half_bd {b : Int} (h1 : 2 ≤ b) (h2 : b ≤ 31) : 1 ≤ half b ∧ half b ≤ 1073741824 := by
 obtain ⟨n, rfl⟩ : ∃ n : Nat, b = n := ⟨b.toNat, by omega⟩
 have h3 : n ≤ 31 := by omega
 have h4 : 2 ≤ n := by omega
 clear h1 h2
 have key : ∀ m : Fin 32, 2 ≤ m.val → (1 : Int) ≤ half (m.val : Int) ∧ half (m.val : Int) ≤ 1073741824 := by decide +kernel
 exact key ⟨n, by omega⟩ h4
theorem half_eq {b : Int} (h1 : 2 ≤ b) (h2 : b ≤ 31) : (2 : Int) ^ (min (b - 1).toNat 64) = half b := by
 rw [half, Nat.min_eq_left (by omega)]
theorem value_plain_ty (t : Ty) : PCalls Tryz.prog n_value_plain [aTy t] (Go.Abs.B (decide (t.2.1 = 0 ∧ t.2.2.1 = 0 ∧ t.2.2.2.1 = 0 ∧ t.2.2.2.2 = 0))) := by
 refine PCalls.of is_value_plain (by simp) fun _ => runW_sound ?_
 simp only [c_value_plain]
 repeat' first | simp (disch := omega) only [go_sem] | ((with_reducible refine condT ?_ ?_) <;> intro h <;> try first | omega | simp (disch := omega) only [go_sem, *])
 refine congrArg (fun b => Go.Abs.B b) ?_
 rw [Bool.eq_iff_iff]
 simp [dec]
theorem fixed_ValidateType_ty (t : Ty) : PCalls Tryz.prog n_fixed_ValidateType [aTy t] (I (if t.1 = 2 ∧ fixOk t.2.1 t.2.2.1 t.2.2.2.1 t.2.2.2.2 then 0 else 10)) := by
 refine PCalls.of is_fixed_ValidateType (by simp) fun _ => runW_sound ?_
 simp only [c_fixed_ValidateType]
 obtain ⟨k, b, f, r, o⟩ := t
 simp only
 repeat' first | simp (disch := omega) only [go_sem] | ((with_reducible refine condT ?_ ?_) <;> intro h <;> try first | omega | simp (disch := omega) only [go_sem, *])
 all_goals first
  | (rw [if_neg]; unfold fixOk; omega)
  | (rw [if_pos]; unfold fixOk; omega)
  | (simp; done)
theorem value_ValidateType_ty (t : Ty) : PCalls Tryz.prog n_value_ValidateType [aTy t] (I (if tyOk t then 0 else 10)) := by
 refine PCalls.of is_value_ValidateType (by simp) fun _ => runW_sound ?_
 have p1 := value_plain_ty t
 have p2 := fixed_ValidateType_ty t
 obtain ⟨k, b, f, r, o⟩ := t
 simp only at p1 p2
 simp only [c_value_ValidateType]
 by_cases g1 : b = 0 ∧ f = 0 ∧ r = 0 ∧ o = 0
 ·rw [decide_eq_true g1] at p1
  by_cases g2 : k = 2 ∧ fixOk b f r o
  ·exfalso; have := g2.2.1; omega
  ·rw [if_neg g2] at p2
   by_cases g3 : k = 1 ∨ k = 3
   ·rw [if_pos (show tyOk (k, b, f, r, o) from .inl ⟨g3, g1⟩)]
    clear g1 g2
    rcases g3 with rfl | rfl
    ·repeat' first | simp (disch := omega) only [go_sem] | ((with_reducible refine condT ?_ ?_) <;> intro h <;> try first | omega | simp (disch := omega) only [go_sem, *]) | (refine callW_of p1 rfl (.inl rfl) ?_) | (refine callW_of p2 rfl (.inl rfl) ?_)
    ·repeat' first | simp (disch := omega) only [go_sem] | ((with_reducible refine condT ?_ ?_) <;> intro h <;> try first | omega | simp (disch := omega) only [go_sem, *]) | (refine callW_of p1 rfl (.inl rfl) ?_) | (refine callW_of p2 rfl (.inl rfl) ?_)
   ·rw [if_neg (show ¬ tyOk (k, b, f, r, o) from fun h => h.elim (fun h => g3 h.1) g2)]
    clear g1 g2
    by_cases hk : k = 2
    ·subst hk
     repeat' first | simp (disch := omega) only [go_sem] | ((with_reducible refine condT ?_ ?_) <;> intro h <;> try first | omega | simp (disch := omega) only [go_sem, *]) | (refine callW_of p1 rfl (.inl rfl) ?_) | (refine callW_of p2 rfl (.inl rfl) ?_)
    ·repeat' first | simp (disch := omega) only [go_sem, hk] | ((with_reducible refine condT ?_ ?_) <;> intro h <;> try first | omega | simp (disch := omega) only [go_sem, *, hk]) | (refine callW_of p1 rfl (.inl rfl) ?_) | (refine callW_of p2 rfl (.inl rfl) ?_)
 ·rw [decide_eq_false g1] at p1
  by_cases g2 : k = 2 ∧ fixOk b f r o
  ·rw [if_pos g2] at p2
   rw [if_pos (show tyOk (k, b, f, r, o) from .inr g2)]
   obtain ⟨rfl, _⟩ := g2
   clear g1
   repeat' first | simp (disch := omega) only [go_sem] | ((with_reducible refine condT ?_ ?_) <;> intro h <;> try first | omega | simp (disch := omega) only [go_sem, *]) | (refine callW_of p1 rfl (.inl rfl) ?_) | (refine callW_of p2 rfl (.inl rfl) ?_)
  ·rw [if_neg g2] at p2
   rw [if_neg (show ¬ tyOk (k, b, f, r, o) from fun h => h.elim (fun h => g1 h.2) g2)]
   clear g1 g2
   by_cases hk : k = 2
   ·subst hk
    repeat' first | simp (disch := omega) only [go_sem] | ((with_reducible refine condT ?_ ?_) <;> intro h <;> try first | omega | simp (disch := omega) only [go_sem, *]) | (refine callW_of p1 rfl (.inl rfl) ?_) | (refine callW_of p2 rfl (.inl rfl) ?_)
   ·by_cases h1 : k = 1
    ·subst h1
     repeat' first | simp (disch := omega) only [go_sem] | ((with_reducible refine condT ?_ ?_) <;> intro h <;> try first | omega | simp (disch := omega) only [go_sem, *]) | (refine callW_of p1 rfl (.inl rfl) ?_) | (refine callW_of p2 rfl (.inl rfl) ?_)
    ·by_cases h3 : k = 3
     ·subst h3
      repeat' first | simp (disch := omega) only [go_sem] | ((with_reducible refine condT ?_ ?_) <;> intro h <;> try first | omega | simp (disch := omega) only [go_sem, *]) | (refine callW_of p1 rfl (.inl rfl) ?_) | (refine callW_of p2 rfl (.inl rfl) ?_)
     ·repeat' first | simp (disch := omega) only [go_sem, hk, h1, h3] | ((with_reducible refine condT ?_ ?_) <;> intro h <;> try first | omega | simp (disch := omega) only [go_sem, *, hk, h1, h3]) | (refine callW_of p1 rfl (.inl rfl) ?_) | (refine callW_of p2 rfl (.inl rfl) ?_)
theorem base_Type_ty (t : Ty) : PCalls Tryz.prog n_base_Type [aTy t] (Go.Abs.B (decide (tyOk t))) := by
 refine PCalls.of is_base_Type (by simp) fun _ => runW_sound ?_
 obtain ⟨k, b, f, r, o⟩ := t
 simp only [c_base_Type]
 by_cases h : tyOk (k, b, f, r, o)
 ·rw [decide_eq_true h]
  rcases h with ⟨h, rfl, rfl, rfl, rfl⟩ | ⟨h, g1, g2, g3, g4, g5, g6, g7⟩
  ·simp only at h
   rcases h with rfl | rfl
   ·repeat' first | simp (disch := omega) only [go_sem] | ((with_reducible refine condT ?_ ?_) <;> intro h <;> try first | omega | simp (disch := omega) only [go_sem, *])
   ·repeat' first | simp (disch := omega) only [go_sem] | ((with_reducible refine condT ?_ ?_) <;> intro h <;> try first | omega | simp (disch := omega) only [go_sem, *])
  ·simp only at h g1 g2 g3 g4 g5 g6 g7
   subst h
   rcases g7 with rfl | rfl
   ·repeat' first | simp (disch := omega) only [go_sem] | ((with_reducible refine condT ?_ ?_) <;> intro h <;> try first | omega | simp (disch := omega) only [go_sem, *])
   ·repeat' first | simp (disch := omega) only [go_sem] | ((with_reducible refine condT ?_ ?_) <;> intro h <;> try first | omega | simp (disch := omega) only [go_sem, *])
 ·rw [decide_eq_false h]
  have h' : ¬ ((k = 1 ∨ k = 3) ∧ b = 0 ∧ f = 0 ∧ r = 0 ∧ o = 0) := fun g => h (.inl g)
  have h2 : ¬ (k = 2 ∧ 2 ≤ b ∧ b ≤ 31 ∧ 0 ≤ f ∧ f ≤ 30 ∧ 1 ≤ r ∧ r ≤ 4 ∧ (o = 1 ∨ o = 2)) := fun g => h (.inr g)
  clear h
  have H1 := Lib.hid h'
  have H2 := Lib.hid h2
  clear h' h2
  repeat' first | simp (disch := omega) only [go_sem] | ((with_reducible refine condT ?_ ?_) <;> intro h <;> try first | omega | simp (disch := omega) only [go_sem, *])
  all_goals first
   | (refine congrArg (fun b => Go.Abs.B b) ?_; rw [decide_eq_false]; have := H1.out; have := H2.out; omega)
   | (exfalso; have := H1.out; have := H2.out; omega)
theorem round_valid_ty {b : Int} (h1 : 2 ≤ b) (h2 : b ≤ 31) : PCalls Tryz.prog n_round_valid [I b] (Go.Abs.B true) := by
 refine PCalls.of is_round_valid (by simp) fun _ => runW_sound ?_
 simp only [c_round_valid]
 repeat' first | simp (disch := omega) only [go_sem] | ((with_reducible refine condT ?_ ?_) <;> intro h <;> try first | omega | simp (disch := omega) only [go_sem, *])
theorem round_MinInt_ty {b : Int} (h1 : 2 ≤ b) (h2 : b ≤ 31) : PCalls Tryz.prog n_round_MinInt [I b] (I (-half b)) := by
 refine PCalls.of is_round_MinInt (by simp) fun _ => runW_sound ?_
 have h3 := half_bd h1 h2
 have h4 := half_eq h1 h2
 have hu : IntKind.wrap .u64 (b - 1) = b - 1 := by rw [IntKind.wrap_u64]; omega
 have hm1 : IntKind.wrap .i64 (b - 1) = b - 1 := wrap_i64 (by omega)
 have v1 : IntKind.wrap .i64 (half b) = half b := wrap_i64 (by omega)
 have v2 : IntKind.wrap .i64 (0 - half b) = -half b := by rw [Int.zero_sub]; exact wrap_i64 (by omega)
 have v3 : IntKind.wrap .i64 (half b - 1) = half b - 1 := wrap_i64 (by omega)
 simp only [c_round_MinInt]
 repeat' first | simp (disch := omega) only [go_sem, hm1, hu, h4, Int.one_mul, v1, v2, v3] | ((with_reducible refine condT ?_ ?_) <;> intro h <;> try first | omega | simp (disch := omega) only [go_sem, *, hm1, hu, h4, Int.one_mul, v1, v2, v3]) | (refine callW_of (round_valid_ty h1 h2) rfl (.inl rfl) ?_)
theorem round_MaxInt_ty {b : Int} (h1 : 2 ≤ b) (h2 : b ≤ 31) : PCalls Tryz.prog n_round_MaxInt [I b] (I (half b - 1)) := by
 refine PCalls.of is_round_MaxInt (by simp) fun _ => runW_sound ?_
 have h3 := half_bd h1 h2
 have h4 := half_eq h1 h2
 have hu : IntKind.wrap .u64 (b - 1) = b - 1 := by rw [IntKind.wrap_u64]; omega
 have hm1 : IntKind.wrap .i64 (b - 1) = b - 1 := wrap_i64 (by omega)
 have v1 : IntKind.wrap .i64 (half b) = half b := wrap_i64 (by omega)
 have v2 : IntKind.wrap .i64 (0 - half b) = -half b := by rw [Int.zero_sub]; exact wrap_i64 (by omega)
 have v3 : IntKind.wrap .i64 (half b - 1) = half b - 1 := wrap_i64 (by omega)
 simp only [c_round_MaxInt]
 repeat' first | simp (disch := omega) only [go_sem, hm1, hu, h4, Int.one_mul, v1, v2, v3] | ((with_reducible refine condT ?_ ?_) <;> intro h <;> try first | omega | simp (disch := omega) only [go_sem, *, hm1, hu, h4, Int.one_mul, v1, v2, v3]) | (refine callW_of (round_valid_ty h1 h2) rfl (.inl rfl) ?_)
theorem fixed_Valid_ty {t : Ty} {a : Fr} (h0 : t.1 = 2) (ht : fixOk t.2.1 t.2.2.1 t.2.2.2.1 t.2.2.2.2) : PCalls Tryz.prog n_fixed_Valid [aTy t, aFr a] (Go.Abs.B (decide (a.2 = 1 ∧ -half t.2.1 ≤ a.1 ∧ a.1 < half t.2.1))) := by
 refine PCalls.of is_fixed_Valid (by simp) fun _ => runW_sound ?_
 have p1 := fixed_ValidateType_ty t
 rw [if_pos ⟨h0, ht⟩] at p1
 have p2 := round_MinInt_ty ht.1 ht.2.1
 have p3 := round_MaxInt_ty ht.1 ht.2.1
 obtain ⟨k, b, f, r, o⟩ := t
 obtain ⟨n, d⟩ := a
 simp only at h0 p1 p2 p3 ⊢
 clear ht
 simp only [c_fixed_Valid]
 by_cases h : d = 1 ∧ -half b ≤ n ∧ n < half b
 ·rw [decide_eq_true h]
  obtain ⟨rfl, g1, g2⟩ := h
  have g3 : n ≤ half b - 1 := by omega
  clear g2
  repeat' first | simp (disch := omega) only [go_sem] | ((with_reducible refine condT ?_ ?_) <;> intro h <;> try first | omega | simp (disch := omega) only [go_sem, *]) | (refine callW_of p1 rfl (.inl rfl) ?_) | (refine callW_of p2 rfl (.inl rfl) ?_) | (refine callW_of p3 rfl (.inl rfl) ?_)
  all_goals (simp [*]; done)
 ·rw [decide_eq_false h]
  have H := Lib.hid h
  clear h
  repeat' first | simp (disch := omega) only [go_sem] | ((with_reducible refine condT ?_ ?_) <;> intro h <;> try first | omega | simp (disch := omega) only [go_sem, *]) | (refine callW_of p1 rfl (.inl rfl) ?_) | (refine callW_of p2 rfl (.inl rfl) ?_) | (refine callW_of p3 rfl (.inl rfl) ?_)
  all_goals (refine congrArg (fun b => Go.Abs.B b) ?_; rw [decide_eq_false]; have := H.out; omega)
theorem value_whole_ty (n : Int) : PCalls Tryz.prog n_value_whole [I n] (Go.Abs.B (decide (-2147483647 ≤ n ∧ n ≤ 2147483647))) := by
 refine PCalls.of is_value_whole (by simp) fun _ => runW_sound ?_
 simp only [c_value_whole]
 repeat' first | simp (disch := omega) only [go_sem] | ((with_reducible refine condT ?_ ?_) <;> intro h <;> try first | omega | simp (disch := omega) only [go_sem, *])
 all_goals (simp <;> omega)
theorem value_Valid_ty {t : Ty} {a : Fr} (ht : tyOk t) (ha : frIn a) : PCalls Tryz.prog n_value_Valid [aTy t, aFr a] (Go.Abs.B (decide (valOk t a))) := by
 refine PCalls.of is_value_Valid (by simp) fun _ => runW_sound ?_
 have p1 := value_ValidateType_ty t
 rw [if_pos ht] at p1
 have p2 := frac_Valid_abs ha
 have p3 := value_whole_ty a.1
 have p4 : t.1 = 2 → PCalls Tryz.prog n_fixed_Valid [aTy t, aFr a] (Go.Abs.B (decide (valOk t a))) := fun h => by
  have := fixed_Valid_ty (a := a) h (ht.elim (fun h' => by omega) fun h' => h'.2)
  rwa [show decide (a.2 = 1 ∧ -half t.2.1 ≤ a.1 ∧ a.1 < half t.2.1) = decide (valOk t a) from decide_eq_decide.2 (by unfold valOk; rw [if_pos h])] at this
 have hk : t.1 = 1 ∨ t.1 = 2 ∨ t.1 = 3 := by rcases ht with ⟨h, _⟩ | ⟨h, _⟩ <;> omega
 obtain ⟨k, b, f, r, o⟩ := t
 clear ht
 simp only [c_value_Valid]
 simp only at hk
 rcases hk with rfl | rfl | rfl
 ·rw [show decide (valOk (1, b, f, r, o) a) = decide (frOk a) from decide_eq_decide.2 (by unfold valOk; simp)]
  repeat' first | simp (disch := omega) only [go_sem] | ((with_reducible refine condT ?_ ?_) <;> intro h <;> try first | omega | simp (disch := omega) only [go_sem, *]) | (refine callW_of p1 rfl (.inl rfl) ?_) | (refine callW_of p2 rfl (.inl rfl) ?_)
 ·have p4 := p4 rfl
  repeat' first | simp (disch := omega) only [go_sem] | ((with_reducible refine condT ?_ ?_) <;> intro h <;> try first | omega | simp (disch := omega) only [go_sem, *]) | (refine callW_of p1 rfl (.inl rfl) ?_) | (refine callW_of p4 rfl (.inl rfl) ?_)
 ·obtain ⟨n, d⟩ := a
  simp only at p3
  rw [show decide (valOk (3, b, f, r, o) (n, d)) = decide (d = 1 ∧ -2147483647 ≤ n ∧ n ≤ 2147483647) from decide_eq_decide.2 (by unfold valOk; simp)]
  clear p4 p2
  by_cases h : d = 1
  ·subst h
   repeat' first | simp (disch := omega) only [go_sem] | ((with_reducible refine condT ?_ ?_) <;> intro h <;> try first | omega | simp (disch := omega) only [go_sem, *]) | (refine callW_of p1 rfl (.inl rfl) ?_) | (refine callW_of p3 rfl (.inl rfl) ?_)
   all_goals simp
  ·repeat' first | simp (disch := omega) only [go_sem, h] | ((with_reducible refine condT ?_ ?_) <;> intro h <;> try first | omega | simp (disch := omega) only [go_sem, *, h]) | (refine callW_of p1 rfl (.inl rfl) ?_) | (refine callW_of p3 rfl (.inl rfl) ?_)
   all_goals simp [h]
theorem base_Val_ty {t : Ty} {a : Fr} (ht : tyOk t) (ha : frIn a) : PCalls Tryz.prog n_base_Val [aTy t, aFr a] (Go.Abs.B (decide (valOk t a))) := by
 refine PCalls.of is_base_Val (by simp) fun _ => runW_sound ?_
 obtain ⟨k, b, f, r, o⟩ := t
 obtain ⟨n, d⟩ := a
 obtain ⟨⟨ha1, ha2⟩, ha3, ha4⟩ := ha
 simp only at ha1 ha2 ha3 ha4
 simp only [c_base_Val]
 by_cases hk : k = 2
 ·subst hk
  have ht2 : fixOk b f r o := ht.elim (fun h' => absurd h'.1 (by simp)) fun h' => h'.2
  have h3 := half_bd ht2.1 ht2.2.1
  have h4 := half_eq ht2.1 ht2.2.1
  have hb1 := ht2.1
  have hb2 := ht2.2.1
  have hm1 : IntKind.wrap .i64 (b - 1) = b - 1 := wrap_i64 (by omega)
  have hv1 : IntKind.wrap .i64 (half b) = half b := wrap_i64 (by omega)
  have hv2 : IntKind.wrap .i64 (0 - half b) = -half b := by rw [Int.zero_sub]; exact wrap_i64 (by omega)
  clear ht ht2
  rw [show decide (valOk (2, b, f, r, o) (n, d)) = decide (d = 1 ∧ -half b ≤ n ∧ n < half b) from decide_eq_decide.2 (by unfold valOk; simp)]
  by_cases h : d = 1 ∧ -half b ≤ n ∧ n < half b
  ·rw [decide_eq_true h]
   obtain ⟨rfl, g1, g2⟩ := h
   repeat' first | simp (disch := omega) only [go_sem, wrap_i64, h4, hm1, Int.one_mul, hv1, hv2] | ((with_reducible refine condT ?_ ?_) <;> intro h <;> try first | omega | simp (disch := omega) only [go_sem, *, wrap_i64, h4, hm1, Int.one_mul, hv1, hv2])
  ·rw [decide_eq_false h]
   have H := Lib.hid h
   clear h
   repeat' first | simp (disch := omega) only [go_sem, wrap_i64, h4, hm1, Int.one_mul, hv1, hv2] | ((with_reducible refine condT ?_ ?_) <;> intro h <;> try first | omega | simp (disch := omega) only [go_sem, *, wrap_i64, h4, hm1, Int.one_mul, hv1, hv2])
   all_goals (refine congrArg (fun b => Go.Abs.B b) ?_; rw [decide_eq_false]; have := H.out; omega)
 ·have hv : valOk (k, b, f, r, o) (n, d) ↔ (if k = 3 then d = 1 ∧ -2147483647 ≤ n ∧ n ≤ 2147483647 else frOk (n, d)) := by unfold valOk; simp only; rw [if_neg hk]
  by_cases h1 : 1 ≤ d
  ·by_cases h2 : d ≤ 2147483647
   ·by_cases h3 : -2147483647 ≤ n ∧ n ≤ 2147483647
    ·have e : max n (0 - n) = (n.natAbs : Int) := by omega
     have e2 : d = (d.natAbs : Int) := by omega
     have p2 := base_gcd_abs n.natAbs d.natAbs
     rw [← e2] at p2
     clear e2
     by_cases hk3 : k = 3
     ·subst hk3
      rw [show decide (valOk (3, b, f, r, o) (n, d)) = decide (d = 1) from decide_eq_decide.2 (by rw [hv, if_pos rfl]; simp [h3])]
      clear hv ht p2 e
      repeat' first | simp (disch := omega) only [go_sem, wrap_i64] | ((with_reducible refine condT ?_ ?_) <;> intro h <;> try first | omega | simp (disch := omega) only [go_sem, *, wrap_i64])
     ·rw [show decide (valOk (k, b, f, r, o) (n, d)) = decide (frOk (n, d)) from decide_eq_decide.2 (by rw [hv, if_neg hk3])]
      clear hv ht
      repeat' first | simp (disch := omega) only [go_sem, e, wrap_i64, hk, hk3, ↓reduceIte] | ((with_reducible refine condT ?_ ?_) <;> intro h <;> try first | omega | simp (disch := omega) only [go_sem, *, e, wrap_i64, hk, hk3, ↓reduceIte]) | (refine callW_of p2 rfl (.inl rfl) ?_)
      rw [show decide (((n.natAbs.gcd d.natAbs : Nat) : Int) = 1) = decide (frOk (n, d)) by rw [decide_eq_decide]; simp only [frOk]; omega]
    ·rw [decide_eq_false (show ¬ valOk (k, b, f, r, o) (n, d) by rw [hv]; unfold frOk; simp only; split <;> omega)]
     clear hv ht
     repeat' first | simp (disch := omega) only [go_sem, hk] | ((with_reducible refine condT ?_ ?_) <;> intro h <;> try first | omega | simp (disch := omega) only [go_sem, *, hk])
   ·rw [decide_eq_false (show ¬ valOk (k, b, f, r, o) (n, d) by rw [hv]; unfold frOk; simp only; split <;> omega)]
    clear hv ht
    repeat' first | simp (disch := omega) only [go_sem, hk] | ((with_reducible refine condT ?_ ?_) <;> intro h <;> try first | omega | simp (disch := omega) only [go_sem, *, hk])
  ·rw [decide_eq_false (show ¬ valOk (k, b, f, r, o) (n, d) by rw [hv]; unfold frOk; simp only; split <;> omega)]
   clear hv ht
   repeat' first | simp (disch := omega) only [go_sem, hk] | ((with_reducible refine condT ?_ ?_) <;> intro h <;> try first | omega | simp (disch := omega) only [go_sem, *, hk])
end Go.Proofs.YtkkbffbbifkhjaaGreatDoor
