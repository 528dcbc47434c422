/- The abstract machine: tests in one form, for walks that go by themselves. -/
import Derived.Test.YtcbnnjadgkgheaaAbs20
set_option linter.unusedVariables false
set_option linter.unusedSimpArgs false
namespace Go.Abs
open Go.RowKit

section
variable {t : Bool} {A B : Blk Prop}
theorem condW_not : @condW (!t) A B = @condW t B A := by
  cases t
  · exact propext ⟨fun h => ⟨(fun e => by cases e), fun _ => h.1 rfl⟩, fun h => ⟨fun _ => h.2 rfl, (fun e => by cases e)⟩⟩
  · exact propext ⟨fun h => ⟨fun _ => h.2 rfl, (fun e => by cases e)⟩, fun h => ⟨(fun e => by cases e), fun _ => h.1 rfl⟩⟩
theorem condW_beqT : @condW (t == true) A B = @condW t A B := by cases t <;> rfl
theorem condW_beqF : @condW (t == false) A B = @condW t B A := by
  have : (t == false) = !t := by cases t <;> rfl
  rw [this, condW_not]
theorem condD {p : Prop} [Decidable p] (h1 : p → A.out) (h2 : ¬ p → B.out) : @condW (decide p) A B :=
  ⟨fun e => h1 (of_decide_eq_true e), fun e => h2 (of_decide_eq_false e)⟩
end
theorem int_beq {a b : Int} : (a == b) = decide (a = b) := rfl
theorem int_bne {a b : Int} : (a != b) = !decide (a = b) := rfl
theorem str_eq {a b : ByteArray} : a.toList = b.toList ↔ a = b := by
  constructor
  · intro h
    rw [ByteArray.toList_eq, ByteArray.toList_eq] at h
    exact Go.WideShapes.bytes_inj h
  · intro h; rw [h]
theorem str_beq {a b : ByteArray} : (a.toList == b.toList) = decide (a = b) := by
  by_cases h : a = b
  · subst h; simp
  · have : ¬ a.toList = b.toList := fun e => h (str_eq.1 e)
    simp [h, this]
theorem str_bne {a b : ByteArray} : (a.toList != b.toList) = !decide (a = b) := by rw [bne, str_beq]
instance memDec (s : ByteArray) (xs : List ByteArray) : Decidable (s ∈ xs) := decidable_of_iff (∃ x ∈ xs, x = s) (by simp)
theorem eqb_F {a b : Bool} : ((a == b) != false) = (a == b) := by cases a <;> cases b <;> rfl
theorem eqb_T {a b : Bool} : ((a == b) != true) = !(a == b) := by cases a <;> cases b <;> rfl

/-- 'append' to a nil slice: an array of the call's own. -/
theorem app_nil {e sz bytes : Nat} {y : AV} {ys : List (List PC)} {σ : St} {K : Blk (AV → St → Prop)} (hok : rowsOk sz ys) (h1 : ys.length * bytes ≤ 140737488355328) (h2 : ys.length ≤ 140737488355328)
    (hk : K.out (.c (.ref σ.nx)) { σ with mem := (σ.nx, .arr e sz ys) :: σ.mem, nx := σ.nx + 1 }) : @appW e sz bytes (.c .nils) y ys σ K :=
  ⟨hok, .inr (.inl ⟨rfl, .inl ⟨by simpa using h1, by simpa using h2, hk⟩⟩)⟩
/-- The same, a slice that nobody writes. -/
theorem app_nilP {e sz bytes : Nat} {y : AV} {ys : List (List PC)} {σ : St} {K : Blk (AV → St → Prop)} (hok : rowsOk sz ys) (h1 : ys.length * bytes ≤ 140737488355328) (h2 : ys.length ≤ 140737488355328)
    (hk : K.out (.c (.pure (.slice ys))) σ) : @appW e sz bytes (.c .nils) y ys σ K :=
  ⟨hok, .inr (.inl ⟨rfl, .inr ⟨by simpa using h1, by simpa using h2, hk⟩⟩)⟩
/-- 'append' to an array of the call's own. -/
theorem app_own {e sz bytes nm : Nat} {y : AV} {rows ys : List (List PC)} {σ : St} {K : Blk (AV → St → Prop)} (hf : findB σ.mem nm = some (.arr e sz rows)) (hne : y ≠ .c (.ref nm)) (hok : rowsOk sz ys) (h1 : (rows.length + ys.length) * bytes ≤ 140737488355328) (h2 : rows.length + ys.length ≤ 140737488355328)
    (hk : K.out (.c (.ref σ.nx)) { σ with mem := (σ.nx, .arr e sz (rows ++ ys)) :: delB σ.mem nm, nx := σ.nx + 1 }) : @appW e sz bytes (.c (.ref nm)) y ys σ K :=
  ⟨hok, .inl ⟨nm, rfl, hne, rows, hf, h1, h2, hk⟩⟩
/-- A slice of things. -/
abbrev pSl {α : Type} (f : α → List PC) (xs : List α) : PC := .slice (xs.map f)
abbrev aSl {α : Type} (f : α → List PC) (xs : List α) : AV := .c (.pure (pSl f xs))
abbrev pI (n : Int) : PC := .val (.int .i64 n)
abbrev pS (s : ByteArray) : PC := .val (.string s)
abbrev pB (b : Bool) : PC := .val (.bool b)
theorem map_get {α β : Type} {f : α → β} {xs : List α} {k : Nat} (h : k < xs.length) : (xs.map f)[k]? = some (f xs[k]) := by simp [h]
end Go.Abs
