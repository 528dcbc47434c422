/- The abstract machine: each of its operations is sound. Part 1: operands, numbers, loads. -/
import Derived.Test.YtcbnnjadgkgheaaAbs4
set_option linter.unusedVariables false
set_option linter.unusedSimpArgs false
namespace Go.Abs
open Go.RowKit

theorem RepP.nil {w : World} {U : Nat → Prop} {a : Option Addr} {c : Nat} : RepP w U (.slice []) (.slice a 0 c) :=
  .slice (sz := 0) (fun _ _ => undef) rfl (Nat.zero_le _) (by omega) (by simp) (by simp) (by simp)

section
variable {w : World} {U : Nat → Prop} {ι : Pl} {N : Nat}
theorem cellOf_rep {v : Value} {x : AC} (h : cellOf v = some x) : RepA w U ι N x v := by
  unfold cellOf at h
  split at h
  · cases h; exact .nils
  · split at h
    · cases h; exact .pure (.val ‹_›)
    · cases h
theorem cellsOf_rep : ∀ {vs : List Value} {xs : List AC}, cellsOf vs = some xs → All2 (RepA w U ι N) xs vs
  | [], xs, h => by cases h; exact .nil
  | v :: r, xs, h => by
    unfold cellsOf at h
    split at h
    · cases h
      exact .cons (cellOf_rep ‹_›) (cellsOf_rep ‹_›)
    · cases h
theorem pcellOf_rep {v : Value} {x : PC} (h : pcellOf v = some x) : RepP w U x v := by
  unfold pcellOf at h
  split at h
  · cases h; exact .nil
  · split at h
    · cases h; exact .val ‹_›
    · cases h
theorem pcellsOf_rep : ∀ {vs : List Value} {xs : List PC}, pcellsOf vs = some xs → All2 (RepP w U) xs vs
  | [], xs, h => by cases h; exact .nil
  | v :: r, xs, h => by
    unfold pcellsOf at h
    split at h
    · cases h
      exact .cons (pcellOf_rep ‹_›) (pcellsOf_rep ‹_›)
    · cases h
theorem constOf_rep {v : Value} {x : AV} (h : constOf v = some x) : RepV w U ι N x v := by
  unfold constOf at h
  split at h
  · rename_i vs
    cases e : cellsOf vs.toList with
    | none => simp [e] at h
    | some xs => simp [e] at h; subst h; exact .agg (cellsOf_rep e)
  · rename_i vs
    split at h
    · cases h
      exact .tup (by simp; omega) (by simp)
    · cases h
  · cases e : cellOf v with
    | none => simp [e] at h
    | some y => simp [e] at h; subst h; exact .c (cellOf_rep e)

theorem repV_val {v u : Value} (h : RepV w U ι N (.c (.pure (.val v))) u) : u = v ∧ scalar v = true := by
  cases h with | c h => cases h with | pure h => cases h with | val h => exact ⟨rfl, h⟩
theorem repV_of_val {v : Value} (h : scalar v = true) : RepV w U ι N (.c (.pure (.val v))) v := .c (.pure (.val h))
theorem repV_int (k : IntKind) (n : Int) : RepV w U ι N (.c (.pure (.val (.int k n)))) (.int k n) := repV_of_val rfl
theorem repV_bool (b : Bool) : RepV w U ι N (.c (.pure (.val (.bool b)))) (.bool b) := repV_of_val rfl
theorem repV_undef : RepV w U ι N (.tup []) undef := .tup rfl (by simp)
theorem RepV.cells {v : AV} {u : Value} {xs : List AC} (h : RepV w U ι N v u) (hx : v.cells = some xs) : All2 (RepA w U ι N) xs u.cells.toList := by
  cases h with
  | c h =>
    cases hx
    rw [cells_one h.one]
    exact .cons h .nil
  | agg h => cases hx; exact h
  | tup => cases hx
  | top => cases hx
end

section
variable {P : Program} {o : Oper} {a : Act} {w w0 : World} {U : Gh} {ι : Pl} {σ : St} {next : Act → World → Prop} {Q : Exit → Act → World → Prop} {K : AV → St → Prop}

theorem compX_rep {x : Operand} {y : AX} (h : compX x = some y) (hs : Sim w0 U σ ι a w) : RepV w (Free w0.heap.size U ι σ.mem) ι σ.nx (y.ev σ.fr) (a.eval x) := by
  cases x with
  | tmp t => cases h; exact hs.val t
  | const v =>
    simp [compX] at h
    obtain ⟨z, hz, rfl⟩ := h
    exact constOf_rep hz
  | global g => cases h
  | func f =>
    cases h
    exact .c (.clo rfl (by simp))

/-- What follows an operation. -/
def Goes (w0 : World) (U : Gh) (a : Act) (o : Oper) (K : AV → St → Prop) (next : Act → World → Prop) : Prop :=
  ∀ v σ' ι' u w', K v σ' → Sim w0 U σ' ι' a w' → RepV w' (Free w0.heap.size U ι' σ'.mem) ι' σ'.nx v u → next (a.put o.dst u) w'

theorem wp_value {u : Value} {w' : World} (h : (execOp a.eval o).run P w = .ok (.value u) w') (hn : next (a.put o.dst u) w') : o.wp P a w next Q := by
  unfold Oper.wp
  rw [h]
  exact hn
theorem wp_skipped {w' : World} (h : (execOp a.eval o).run P w = .ok .skip w') (hn : next (a.put o.dst undef) w') : o.wp P a w next Q := by
  unfold Oper.wp
  rw [h]
  exact hn

theorem op_mv {x : Operand} {y : AX} (ho : o.op = .move x ∨ o.op = .assign x) (hx : compX x = some y) (h : opW P (.mv y) σ K) (hs : Sim w0 U σ ι a w) (hn : Goes w0 U a o K next) : o.wp P a w next Q := by
  refine wp_value (u := a.eval x) (w' := w) ?_ (hn _ σ ι _ w h hs (compX_rep hx hs))
  rcases ho with ho | ho <;> simp [execOp, ho]

theorem op_pick {x y z : Operand} {c p q : AX} (ho : o.op = .pick x y z) (hx : compX x = some c) (hy : compX y = some p) (hz : compX z = some q) (h : opW P (.pick c p q) σ K) (hs : Sim w0 U σ ι a w) (hn : Goes w0 U a o K next) : o.wp P a w next Q := by
  have r1 := compX_rep hx hs
  simp only [opW] at h
  split at h
  · rename_i t e
    rw [e] at r1
    have e1 := (repV_val r1).1
    refine wp_value (u := if t then a.eval y else a.eval z) (w' := w) (by simp [execOp, ho, e1, asBool]) ?_
    cases t with
    | true => exact hn _ σ ι _ w (h.1 rfl) hs (compX_rep hy hs)
    | false => exact hn _ σ ι _ w (h.2 rfl) hs (compX_rep hz hs)
  · exact h.elim

theorem op_conv {s d : TypeId} {x : Operand} {y : AX} {k k0 : IntKind} (ho : o.op = .convert s d x) (hk0 : P.underlying s = some (.int k0)) (hk : P.underlying d = some (.int k)) (hx : compX x = some y) (h : opW P (.conv k y) σ K) (hs : Sim w0 U σ ι a w) (hn : Goes w0 U a o K next) : o.wp P a w next Q := by
  have r1 := compX_rep hx hs
  simp only [opW] at h
  split at h
  · rename_i k1 n e
    rw [e] at r1
    have e1 := (repV_val r1).1
    refine wp_value (u := .int k (k.wrap n)) (w' := w) ?_ (hn _ σ ι _ w h hs (repV_int _ _))
    simp [execOp, ho, e1, convert, run_underlying hk0, run_underlying hk, Conv.intToInt]
  · exact h.elim

theorem op_un {u : UnOp} {t : TypeId} {x : Operand} {y : AX} (ho : o.op = .unOp u t x) (hx : compX x = some y) (h : opW P (.un u y) σ K) (hs : Sim w0 U σ ι a w) (hn : Goes w0 U a o K next) : o.wp P a w next Q := by
  have r1 := compX_rep hx hs
  simp only [opW] at h
  split at h
  · rename_i b e
    rw [e] at r1
    have e1 := (repV_val r1).1
    exact wp_value (u := .bool (!b)) (w' := w) (by simp [execOp, ho, e1, Op.unary]) (hn _ σ ι _ w h hs (repV_bool _))
  · rename_i k n e
    rw [e] at r1
    have e1 := (repV_val r1).1
    exact wp_value (w' := w) (by simp [execOp, ho, e1, Op.unary, Op.intArith]; try rfl) (hn _ σ ι _ w h hs (repV_int _ _))
  · rename_i k n e
    rw [e] at r1
    have e1 := (repV_val r1).1
    exact wp_value (w' := w) (by simp [execOp, ho, e1, Op.unary, Op.intBits]; try rfl) (hn _ σ ι _ w h hs (repV_int _ _))
  · exact h.elim

theorem run_binW {op : BinOp} {t : TypeId} {x y : Value} {K : Value → Prop} (h : binW op x y K) (hop : op ≠ .shl ∧ op ≠ .shr) : ∃ v, (binOp op t x y).run P w = .ok v w ∧ scalar v = true ∧ K v := by
  unfold binW at h
  split at h
  · obtain ⟨rfl, h⟩ := h
    simp only [binI] at h
    split at h <;> first
      | exact h.elim
      | (obtain ⟨h0, h⟩ := h; exact ⟨_, by simp [binOp, Op.intArith, Op.intDiv, Op.intBits, Op.intCmp, h0]; try rfl, rfl, h⟩)
      | exact ⟨_, by simp [binOp, Op.intArith, Op.intDiv, Op.intBits, Op.intCmp]; try rfl, rfl, h⟩
  · simp only [binS] at h
    split at h
    · obtain ⟨h0, h⟩ := h
      refine ⟨_, ?_, rfl, h⟩
      simp [binOp, Op.stringOp]
      omega
    all_goals first
      | exact h.elim
      | exact ⟨_, by simp [binOp, Op.stringOp]; try rfl, rfl, h⟩
  · exact h.elim

def plainV : Value → Bool
  | .nilIface | .agg _ => false
  | _ => true
theorem eqGuard_scalar {op : BinOp} {t : TypeId} {x y : Operand} {u v : Value} (hu : plainV u = true) : (eqGuard op t x y u v).run P w = .ok () w := by
  cases u <;> simp [plainV] at hu <;> (unfold eqGuard; cases op <;> simp)

theorem op_bin {op : BinOp} {t t' : TypeId} {x y : Operand} {p q : AX} (ho : o.op = .binOp op t x y t') (hx : compX x = some p) (hy : compX y = some q) (h : opW P (.bin op p q) σ K) (hs : Sim w0 U σ ι a w) (hn : Goes w0 U a o K next) : o.wp P a w next Q := by
  have r1 := compX_rep hx hs
  have r2 := compX_rep hy hs
  simp only [opW] at h
  split at h
  · rename_i u v e e'
    rw [e] at r1
    rw [e'] at r2
    obtain ⟨e1, s1⟩ := repV_val r1
    obtain ⟨e2, s2⟩ := repV_val r2
    split at h
    · unfold shiftW at h
      split at h
      · obtain ⟨h0, h⟩ := h
        simp only [shiftI] at h
        refine wp_value (w' := w) ?_ (hn _ σ ι _ w h hs (repV_int _ _))
        simp [execOp, ho, e1, e2, eqGuard, binOp, Op.shift, Int.not_lt.2 h0]
      · exact h.elim
    · unfold shiftW at h
      split at h
      · obtain ⟨h0, h⟩ := h
        simp only [shiftI] at h
        refine wp_value (w' := w) ?_ (hn _ σ ι _ w h hs (repV_int _ _))
        simp [execOp, ho, e1, e2, eqGuard, binOp, Op.shift, Int.not_lt.2 h0]
      · exact h.elim
    · rename_i n1 n2
      have hg : plainV u = true := by
        unfold binW at h
        split at h
        · rfl
        · rfl
        · exact h.elim
      obtain ⟨r, hr, hsc, hk⟩ := run_binW (P := P) (w := w) (t := t) h ⟨n1, n2⟩
      refine wp_value (u := r) (w' := w) ?_ (hn _ σ ι _ w hk hs (repV_of_val hsc))
      simp only [execOp, ho, e1, e2]
      rw [Sem.run_bind, Sem.run_bind, eqGuard_scalar hg]
      simp [hr]
  · exact h.elim

theorem run_equalIn_bool (d : Nat) {t : TypeId} {u v : Bool} (ht : P.underlying t = some .bool) : (Op.equalIn (d + 1) t (.bool u) (.bool v)).run P w = .ok (u == v) w := by
  simp [Op.equalIn, run_underlying ht]
theorem op_eqb {op : BinOp} {t t' : TypeId} {x y : Operand} {p q : AX} {neg : Bool} (hop : (op = .eql ∧ neg = false) ∨ (op = .neq ∧ neg = true)) (ht : P.underlying t = some .bool) (ho : o.op = .binOp op t x y t') (hx : compX x = some p) (hy : compX y = some q)
    (h : opW P (.eqb neg p q) σ K) (hs : Sim w0 U σ ι a w) (hn : Goes w0 U a o K next) : o.wp P a w next Q := by
  have r1 := compX_rep hx hs
  have r2 := compX_rep hy hs
  simp only [opW] at h
  split at h
  · rename_i u v e e'
    rw [e] at r1
    rw [e'] at r2
    have e1 := (repV_val r1).1
    have e2 := (repV_val r2).1
    have hq : (Op.equal t (.bool u) (.bool v)).run P w = .ok (u == v) w := run_equalIn_bool 9999 ht
    refine wp_value (u := .bool ((u == v) != neg)) (w' := w) ?_ (hn _ σ ι _ w h hs (repV_bool _))
    simp only [execOp, ho, e1, e2]
    rw [Sem.run_bind, Sem.run_bind, eqGuard_scalar rfl]
    rcases hop with ⟨rfl, rfl⟩ | ⟨rfl, rfl⟩ <;> simp [binOp, hq]
  · exact h.elim
theorem op_fnil {op : BinOp} {t t' : TypeId} {x y : Operand} {p q : AX} {neg : Bool} (hop : (op = .eql ∧ neg = false) ∨ (op = .neq ∧ neg = true)) (ht : isFunc P t = true) (hq : isNilF q = true) (ho : o.op = .binOp op t x y t') (hx : compX x = some p) (hy : compX y = some q)
    (h : opW P (.fnil neg p) σ K) (hs : Sim w0 U σ ι a w) (hn : Goes w0 U a o K next) : o.wp P a w next Q := by
  have r1 := compX_rep hx hs
  have r2 := compX_rep hy hs
  unfold isNilF at hq
  split at hq
  · have e2 := (repV_val r2).1
    unfold isFunc at ht
    split at ht
    · rename_i hT
      simp only [opW] at h
      split at h
      · rename_i f caps e
        rw [e] at r1
        generalize hu : a.eval x = u at r1
        cases r1 with
        | c r1 =>
          cases r1 with
          | @clo _ _ vs hl hh =>
            have hr : (Op.equal t (.func (.func f) #[] vs) .nilFunc).run P w = .ok false w := by
              show (Op.equalIn (9999 + 1) t (.func (.func f) #[] vs) .nilFunc).run P w = .ok false w
              unfold Op.equalIn
              simp [run_underlying hT]
            have hg : (eqGuard op t x y (.func (.func f) #[] vs) .nilFunc).run P w = .ok () w := by unfold eqGuard; cases op <;> simp
            refine wp_value (u := .bool neg) (w' := w) ?_ (hn _ σ ι _ w h hs (repV_bool _))
            simp only [execOp, ho, hu, e2]
            rw [Sem.run_bind, Sem.run_bind, hg]
            rcases hop with ⟨rfl, rfl⟩ | ⟨rfl, rfl⟩ <;> simp [binOp, hr]
      · rename_i e
        rw [e] at r1
        have e1 := (repV_val r1).1
        have hr : (Op.equal t .nilFunc .nilFunc).run P w = .ok true w := by
          show (Op.equalIn (9999 + 1) t .nilFunc .nilFunc).run P w = .ok true w
          unfold Op.equalIn
          simp [run_underlying hT]
        have hg : (eqGuard op t x y .nilFunc .nilFunc).run P w = .ok () w := by unfold eqGuard; cases op <;> simp
        refine wp_value (u := .bool (!neg)) (w' := w) ?_ (hn _ σ ι _ w h hs (repV_bool _))
        simp only [execOp, ho, e1, e2]
        rw [Sem.run_bind, Sem.run_bind, hg]
        rcases hop with ⟨rfl, rfl⟩ | ⟨rfl, rfl⟩ <;> simp [binOp, hr]
      · exact h.elim
    · cases ht
  · cases hq
end
end Go.Abs
