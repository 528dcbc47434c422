/- Walks by the abstract machine: constraints. -/
import Derived.Test.YtfjnhdfhgenkdaaGreatDoorV05b
set_option linter.unusedVariables false
set_option linter.unusedSimpArgs false
set_option maxRecDepth 20000
namespace Go.Proofs.YtfjnhdfhgenkdaaGreatDoor
open Go.Abs Go.RowKit

/-! 'append' to a literal. -/
theorem app_tslP {e sz bytes : Nat} {y : AV} {rows ys : List (List PC)} {σ : St} {K : Blk (AV → St → Prop)} (h0 : rowsOk sz rows) (hok : rowsOk sz ys) (h1 : (rows.length + ys.length) * bytes ≤ 140737488355328) (h2 : rows.length + ys.length ≤ 140737488355328)
  (hk : K.out (.c (.pure (.slice (rows ++ ys)))) σ) : @appW e sz bytes (.c (.tsl rows)) y ys σ K := ⟨hok, .inr (.inr ⟨rows, rfl, h0, .inr (.inl ⟨h1, h2, hk⟩)⟩)⟩
/-- Nothing is appended to a literal. -/
theorem app_tslN {e sz bytes : Nat} {y : AV} {rows : List (List PC)} {σ : St} {K : Blk (AV → St → Prop)} (h0 : rowsOk sz rows) (hk : K.out (.c (.tsl rows)) σ) : @appW e sz bytes (.c (.tsl rows)) y [] σ K := ⟨(by intro r hr; cases hr), .inr (.inr ⟨rows, rfl, h0, .inr (.inr ⟨rfl, hk⟩)⟩)⟩
theorem app_tsl {e sz bytes : Nat} {y : AV} {rows ys : List (List PC)} {σ : St} {K : Blk (AV → St → Prop)} (h0 : rowsOk sz rows) (hok : rowsOk sz ys) (hne : ys ≠ []) (h1 : (rows.length + ys.length) * bytes ≤ 140737488355328) (h2 : rows.length + ys.length ≤ 140737488355328)
  (hk : K.out (.c (.ref σ.nx)) { σ with mem := (σ.nx, .arr e sz (rows ++ ys)) :: σ.mem, nx := σ.nx + 1 }) : @appW e sz bytes (.c (.tsl rows)) y ys σ K := ⟨hok, .inr (.inr ⟨rows, rfl, h0, .inl ⟨hne, h1, h2, hk⟩⟩)⟩
def cP (c : Con) : List PC := [pI c.1.1, pMonos c.1.2, pB c.2]
abbrev aCon (c : Con) : AV := .agg [.pure (pI c.1.1), .pure (pMonos c.1.2), .pure (pB c.2)]
abbrev aConE (x : Con × Int) : AV := .tup [aCon x.1, I x.2]
abbrev aCons (l : List Con) : AV := aSl cP l
theorem constraint_Validate_abs (c : Con) : PCalls Tryz.prog n_constraint_Validate [aCon c] (I (if linOk c.1.2 then 0 else 1)) := by
 refine PCalls.of is_constraint_Validate (by simp) fun _ => runW_sound ?_
 simp only [c_constraint_Validate]
 repeat' first | simp (disch := omega) only [go_sem] | ((with_reducible first | refine condD ?_ ?_ | refine condX ?_ ?_ | refine condW_intro ?_ ?_) <;> intro h <;> first | (exfalso; omega) | simp (disch := omega) only [go_sem, *] | skip) | (refine callW_of (lin_Validate_abs _ _) rfl (.inl rfl) ?_)
end Go.Proofs.YtfjnhdfhgenkdaaGreatDoor
